/- The reference's reader: a number. -/
import Derived.Test.YtgegfbopogcjpaaGreatDoorQ03
import Derived.Test.YtgegfbopogcjpaaGreatDoorQ21
namespace Go.Proofs.YtgegfbopogcjpaaGreatDoor
open Go.RowKit
set_option linter.unusedVariables false
set_option linter.unusedSimpArgs false
set_option maxRecDepth 100000
set_option maxHeartbeats 4000000
theorem dig_step {s : ByteArray} (hall : s.data.toList.all digU = true) {k : Nat} (hk : k < s.size) :
 decF 0 (s.data.toList.take (k + 1)) = 10 * decF 0 (s.data.toList.take k) + ((s[k]'hk).toNat - 48) ∧ 48 ≤ (s[k]'hk).toNat ∧ (s[k]'hk).toNat ≤ 57 ∧ decF 0 (s.data.toList.take (k + 1)) ≤ decL s.data.toList := by
 have hl : k < s.data.toList.length := by rw [Array.length_toList]; exact hk
 have hg : s.data.toList[k] = s[k]'hk := by rw [Array.getElem_toList]; rfl
 have hd : digU (s[k]'hk) = true := by
  rw [← hg]
  exact List.all_eq_true.1 hall _ (List.getElem_mem hl)
 have hd2 := digU_iff.1 hd
 have h1 : decF 0 (s.data.toList.take (k + 1)) = 10 * decF 0 (s.data.toList.take k) + ((s[k]'hk).toNat - 48) := by
  rw [List.take_succ_eq_append_getElem hl, hg]
  unfold decF
  rw [List.foldl_append]
  rfl
 refine ⟨h1, hd2.1, hd2.2, ?_⟩
 have h2 : decL s.data.toList = decF (decF 0 (s.data.toList.take (k + 1))) (s.data.toList.drop (k + 1)) := by
  rw [decL_eq]
  unfold decF
  rw [← List.foldl_append, List.take_append_drop]
 rw [h2]
 exact decF_ge _ _
theorem Blk.drewR {w : World} {b : Nat} {t : TypeId} {cs : Array Value} (h : Blk w b t cs) : Blk w.drew b t cs := h
def NuRel (C : RC) (i : Nat) (w : World) (kk tk : Int) (TS : ByteArray) (TP : Int) (b3 b4 : Nat) (gk : Nat) (v : Value) (wr : World) : Prop :=
 ∃ k : Nat, v = .int .i64 k ∧ k + gk = TS.size ∧ Hid (RSt C wr (i + 1) false ∧ Mv C.p w wr ∧ Blk wr w.heap.size 24 #[.int .i64 0, .string ⟨#[]⟩, .int .i64 0, .slice none 0 0] ∧ Blk wr b4 24 #[.int .i64 kk, .string ⟨#[]⟩, .int .i64 (decF 0 (TS.data.toList.take k) : Nat), .slice none 0 0] ∧ Blk wr b3 50 #[.int .i64 tk, .string TS, .int .i64 TP])
theorem rnumber_any (C : RC) : ROk C 47 (numM C.L) := by
 intro w i b h hwet
 obtain ⟨R, HR⟩ : ∃ R, Hid (mbr (numM C.L i) i b = R) := ⟨_, rfl⟩
 rw [HR.out]
 clear hwet
 have hlw := h.lt
 have hlen := h.len
 have hr0 : w.heap.size ≠ C.p := by omega
 have hb0 : Below w.heap.size w (w.alloc (.cells #[.int .i64 0, .string ⟨#[]⟩, .int .i64 0, .slice none 0 0] 24)) := by (repeat (first | with_reducible assumption | with_reducible exact Below.refl _ _ | (refine Below.setCell ?_ (by first | omega | (simp; done) | (simp; omega)) _) | (refine Below.drewN_ ?_ _) | (refine Below.drew ?_) | (refine Below.alloc ?_ (by first | omega | (simp; done) | (simp; omega)) _)))
 have H0 := Lib.hid h
 have HS := Lib.hid (h.below hb0)
 have HM : Hid (Mv C.p w (w.alloc (.cells #[.int .i64 0, .string ⟨#[]⟩, .int .i64 0, .slice none 0 0] 24))) := mv_below hb0
 have KR := Lib.hid (Blk.new_ w 24 #[.int .i64 0, .string ⟨#[]⟩, .int .i64 0, .slice none 0 0])
 have hsz0 : w.heap.size < (w.alloc (.cells #[.int .i64 0, .string ⟨#[]⟩, .int .i64 0, .slice none 0 0] 24)).heap.size := KR.out.lt
 clear h hb0
 go_enter Tryz.func47, Tryz.ntmps47
 go_upto_region 1 with (fail)
 generalize (w.alloc (.cells #[.int .i64 0, .string ⟨#[]⟩, .int .i64 0, .slice none 0 0] 24)) = w0 at *
 have q0 := HS.out.blk.cell 0 (.slice C.A C.L.length C.c) rfl
 have q1 := HS.out.blk.cell 1 (.int .i64 (i : Int)) rfl
 have hat := HS.out.at_
 cases b with
 | true =>
  have HF : Hid (∀ x, Fol R x i true) := fun x => mbr_true HR.out
  have q2 := HS.out.blk.cell 2 (.bool true) rfl
  go_quiet (fail)
  go_wp2_with fail
  have hb : Below w0.heap.size w0 (w0.drewN nq) := Below.drewN_ (Below.refl _ _) _
  have hsz1 := hb.size
  replace KR := Lib.hid (KR.out.below hb)
  replace HS := Lib.hid (HS.out.below hb)
  replace HM := Lib.hid (HM.out.below_ hb)
  clear hb
  generalize w0.drewN nq = w1 at *
  refine (failR_any C _ _ true HS.out).mono ?_
  rintro e w2 ⟨rfl, h', m'⟩
  have hsz2 := m'.size
  replace KR := Lib.hid (m'.blk KR.out (by omega))
  replace HS := Lib.hid h'
  replace HM := Lib.hid (HM.out.trans_ m')
  clear m'
  clear h'
  have f0 := KR.out.free 0
  have f1 := KR.out.free 1
  have f2 := KR.out.free 2
  have f3 := KR.out.free 3
  have g0 := KR.out.cell 0 (.int .i64 0) rfl
  have g1 := KR.out.cell 1 (.string ⟨#[]⟩) rfl
  have g2 := KR.out.cell 2 (.int .i64 0) rfl
  have g3 := KR.out.cell 3 (.slice none 0 0) rfl
  go_wp2_with fail
  have hf := fin_nodeR H0.out (n := .mk 0 ⟨#[]⟩ 0 []) (A := none) (c := 0) (r0 := w.heap.size) (C := C) (w := w) KR.out HS.out HM.out (Nat.le_refl _) (leafV (V := fun _ => False) i64_0 (Nat.zero_le _)) (fun b h => h.elim) (HF.out _)
  simp only [Nd.k, Nd.t, Nd.num, Nd.kids, List.length_append, List.length_cons, List.length_nil, Nat.zero_add] at hf
  exact bodyPost_ret (v := .agg _) (results_cell4 (fn := Tryz.f47) rfl hf.1 rfl) rfl (by exact hf.2)
 | false =>
  have q2 := HS.out.blk.cell 2 (.bool false) rfl
  by_cases hlt : i < C.L.length
  ·have i1 : (i : Int) < (C.L.length : Int) := by omega
   have i2 : ¬ (C.L.length : Int) ≤ (i : Int) := by omega
   have i0 : 0 ≤ (i : Int) := by omega
   have d1 : decide ((C.L.length : Int) ≤ (i : Int)) = false := by simpa using i1
   have ht : ((i : Int)).toNat = i := by omega
   obtain ⟨bb, o, hAA, hbl, c0, c1, c2⟩ := tok_cells HS.out.row hlt
   rw [hAA] at q0
   have hL : C.L[i]? = some C.L[i] := List.getElem?_eq_getElem hlt
   have hok := HS.out.ok C.L[i] (List.getElem_mem hlt)
   have hnm : numM C.L i = (if C.L[i].k = 2 then .ok (.mk 21 ⟨#[]⟩ (valT C.L[i].s) []) (i + 1) else if C.L[i].k = 3 then .ok (.mk 22 ⟨#[]⟩ (valT C.L[i].s) []) (i + 1) else .bad i) := by unfold numM; rw [hL]
   have hR := HR.out
   rw [hnm] at hR
   clear HR hnm hL
   generalize C.L[i].k = tk at *
   generalize C.L[i].s = TS at *
   generalize (C.L[i].p : Int) = TP at *
   by_cases h2 : tk = 2
   ·subst h2
    obtain ⟨hts, -, hvi, -⟩ := num_ok hok (.inl rfl)
    have hall : TS.data.toList.all digU = true := by
     rcases hok with h | h | h
     ·exact absurd h.1 (by omega)
     ·exact digits_all h.2.2.1
     ·exact absurd h.1 (by omega)
    rw [if_pos rfl] at hR
    have HR := Lib.hid hR
    have HALL := Lib.hid hall
    have HV : Hid (valT TS = (decL TS.data.toList : Nat)) := rfl
    clear hR hok hall
    go_quiet (fail)
    go_upto_region 4 with (fail)
    have hb : Below w0.heap.size w0 (w0.drewN nq) := Below.drewN_ (Below.refl _ _) _
    have hsz1 := hb.size
    replace KR := Lib.hid (KR.out.below hb)
    replace HS := Lib.hid (HS.out.below hb)
    replace HM := Lib.hid (HM.out.below_ hb)
    clear hb
    replace q0 : (w0.drewN nq).cell? ⟨C.p, 0, none⟩ = some (.slice (some ⟨bb, o, none⟩) C.L.length C.c) := by simpa using q0
    replace q1 : (w0.drewN nq).cell? ⟨C.p, 1, none⟩ = some (.int .i64 (i : Int)) := by simpa using q1
    replace c0 : (w0.drewN nq).cell? ⟨bb, o + i * 3, none⟩ = some (.int .i64 2) := by simpa using c0
    replace c1 : (w0.drewN nq).cell? ⟨bb, o + i * 3 + 1, none⟩ = some (.string TS) := by simpa using c1
    replace c2 : (w0.drewN nq).cell? ⟨bb, o + i * 3 + 2, none⟩ = some (.int .i64 TP) := by simpa using c2
    generalize w0.drewN nq = w1 at *
    clear q2
    have hnb : bb < w1.heap.size := by omega
    have hnp : C.p < w1.heap.size := HS.out.lt
    go_region_held3 (fun W => W.cell? ⟨C.p, 0, none⟩ = some (.slice (some ⟨bb, o, none⟩) C.L.length C.c) ∧ W.cell? ⟨C.p, 1, none⟩ = some (.int .i64 (i : Int)) ∧ W.cell? ⟨bb, o + i * 3, none⟩ = some (.int .i64 2) ∧ W.cell? ⟨bb, o + i * 3 + 1, none⟩ = some (.string TS) ∧ W.cell? ⟨bb, o + i * 3 + 2, none⟩ = some (.int .i64 TP)) (go_keep) (fail)
    rename_i hhd
    clear hhd q0 q1 c0 c1 c2
    have KX : Blk (w1.alloc (.cells #[.int .i64 2, .string TS, .int .i64 TP] 50)).drew w1.heap.size 50 #[.int .i64 2, .string TS, .int .i64 TP] := Blk.drewR (Blk.new_ w1 50 #[.int .i64 2, .string TS, .int .i64 TP])
    have hb : Below w1.heap.size w1 (w1.alloc (.cells #[.int .i64 2, .string TS, .int .i64 TP] 50)).drew := ((Below.refl _ _).alloc (Nat.le_refl _) _).drew
    have hbz3 : w1.heap.size < (w1.alloc (.cells #[.int .i64 2, .string TS, .int .i64 TP] 50)).drew.heap.size := KX.lt
    have hsz2 := hb.size
    replace KR := Lib.hid (KR.out.below hb)
    replace HS := Lib.hid (HS.out.below hb)
    replace HM := Lib.hid (HM.out.below_ hb)
    clear hb
    have HKT := Lib.hid KX
    clear KX
    generalize (w1.alloc (.cells #[.int .i64 2, .string TS, .int .i64 TP] 50)).drew = w2 at *
    obtain ⟨b3, hbw3⟩ : ∃ x, x = w1.heap.size := ⟨_, rfl⟩
    rw [← hbw3] at HKT
    have hbv3 : w1.heap.size ≤ b3 := by omega
    have hbx3 : b3 < w2.heap.size := HKT.out.lt
    rw [← hbw3]
    clear hbw3
    have hlti : i < C.L.length := hlt
    have q1 := HS.out.blk.cell 1 (.int .i64 (i : Int)) rfl
    have f1 := HS.out.blk.free 1
    have hw1 : IntKind.i64.wrap ((i : Int) + 1) = (i : Int) + 1 := IntWalk.i64_in _ (by omega)
    go_upto_region 6 with (fail)
    clear q1 f1 hw1
    have hm := HS.out.move (i + 1) (by omega)
    have h' := hm.1
    have m' := hm.2
    clear hm
    simp only [Int.natCast_add, Int.cast_ofNat_Int] at h' m'
    generalize w2.setCell ⟨C.p, 1, none⟩ (.int .i64 ((i : Int) + 1)) = w3 at *
    have hsz3 := m'.size
    replace KR := Lib.hid (m'.blk KR.out (by omega))
    replace HKT := Lib.hid (m'.blk HKT.out (by omega))
    replace HS := Lib.hid h'
    replace HM := Lib.hid (HM.out.trans_ m')
    clear m'
    clear h'
    go_upto_region 7 with (fail)
    have KX := Blk.new_ w3 24 #[.int .i64 21, .string ⟨#[]⟩, .int .i64 0, .slice none 0 0]
    have hb : Below w3.heap.size w3 (w3.alloc (.cells #[.int .i64 21, .string ⟨#[]⟩, .int .i64 0, .slice none 0 0] 24)) := by (repeat (first | with_reducible assumption | with_reducible exact Below.refl _ _ | (refine Below.setCell ?_ (by first | omega | (simp; done) | (simp; omega)) _) | (refine Below.drewN_ ?_ _) | (refine Below.drew ?_) | (refine Below.alloc ?_ (by first | omega | (simp; done) | (simp; omega)) _)))
    have hbzb4 : w3.heap.size < (w3.alloc (.cells #[.int .i64 21, .string ⟨#[]⟩, .int .i64 0, .slice none 0 0] 24)).heap.size := KX.lt
    have hsz4 := hb.size
    replace KR := Lib.hid (KR.out.below hb)
    replace HKT := Lib.hid (HKT.out.below hb)
    replace HS := Lib.hid (HS.out.below hb)
    replace HM := Lib.hid (HM.out.below_ hb)
    clear hb
    have BT := Lib.hid KX
    clear KX
    have HBSb4 : Hid ((w3.alloc (.cells #[.int .i64 21, .string ⟨#[]⟩, .int .i64 0, .slice none 0 0] 24)).heap.size = w3.heap.size + 1) := by show _ = _; simp
    generalize (w3.alloc (.cells #[.int .i64 21, .string ⟨#[]⟩, .int .i64 0, .slice none 0 0] 24)) = w4 at *
    obtain ⟨b4, hbwb4⟩ : ∃ x, x = w3.heap.size := ⟨_, rfl⟩
    rw [← hbwb4] at BT
    have hbvb4 : w3.heap.size ≤ b4 := by omega
    have hbxb4 : b4 < w4.heap.size := by omega
    rw [← hbwb4]
    clear hbwb4
    have x0 := HKT.out.cell 0 (.int .i64 2) rfl
    go_wp2_with fail
    clear x0
    go_loopg [5] TS.size (fun gk v wr => NuRel C i w 21 2 TS TP b3 b4 gk v wr)
    case atStart => exact ⟨0, rfl, by omega, Lib.hid ⟨HS.out, HM.out, KR.out, BT.out, HKT.out⟩⟩
    case round =>
     obtain ⟨k, rfl, hkg, HX⟩ := hrel
     clear HS HM KR BT HKT
     have HS := Lib.hid HX.out.1
     have HM := Lib.hid HX.out.2.1
     have KR := Lib.hid HX.out.2.2.1
     have BT := Lib.hid HX.out.2.2.2.1
     have HKT := Lib.hid HX.out.2.2.2.2
     clear HX
     have hszr := HM.out.size
     have h4l := BT.out.lt
     have h3l := HKT.out.lt
     have x1 := HKT.out.cell 1 (.string TS) rfl
     have hb4w : w.heap.size < b4 := by omega
     by_cases hks : k < TS.size
     ·obtain ⟨hd1, hd2, hd3, hd4⟩ := dig_step HALL.out hks
      have hvd := HV.out
      have hi3 : (k : Int) < (TS.size : Int) := by omega
      have hi4 : (0 : Int) ≤ (k : Int) := by omega
      have hi5 : ((k : Int)).toNat = k := by omega
      have hvb : valT TS ≤ 9223372036854775807 := hvi.2
      have hu : IntKind.u8.wrap (((TS[k]'hks).toNat : Int) - 48) = ((TS[k]'hks).toNat : Int) - 48 := IntWalk.u8_in _ (by omega)
      have hc : IntKind.i64.wrap (((TS[k]'hks).toNat : Int) - 48) = ((TS[k]'hks).toNat : Int) - 48 := IntWalk.i64_in _ (by omega)
      have hm : IntKind.i64.wrap (10 * ((decF 0 (TS.data.toList.take k) : Nat) : Int)) = 10 * ((decF 0 (TS.data.toList.take k) : Nat) : Int) := IntWalk.i64_in _ (by omega)
      have ha : IntKind.i64.wrap (10 * ((decF 0 (TS.data.toList.take k) : Nat) : Int) + (((TS[k]'hks).toNat : Int) - 48)) = ((decF 0 (TS.data.toList.take (k + 1)) : Nat) : Int) := by
       rw [IntWalk.i64_in _ (by omega)]; omega
      clear hd1 hd2 hd3 hd4 hvd hvb
      generalize decF 0 (TS.data.toList.take k) = N0 at *
      obtain ⟨N1, hN1⟩ : ∃ x : Int, ((decF 0 (TS.data.toList.take (k + 1)) : Nat) : Int) = x := ⟨_, rfl⟩
      rw [hN1] at ha
      have HN1 := Lib.hid hN1
      clear hN1
      cases gk with
      | zero => omega
      | succ g =>
      go_wp2_with fail
      have f2 := BT.out.free 2
      have g2 := BT.out.cell 2 (.int .i64 (N0 : Int)) rfl
      go_region
      clear f2 g2
      have m' := put1_mv wr b4 2 (.int .i64 N1)
      have hbt := BT.out.set_ 2 (.int .i64 N1)
      have hsz101 := m'.size
      replace HS := Lib.hid (RSt.put H0.out HS.out HM.out (by omega) m')
      replace HM := Lib.hid (HM.out.put (by omega) m')
      replace KR := Lib.hid (m'.blk KR.out (by omega))
      replace BT := Lib.hid hbt
      replace HKT := Lib.hid (m'.blk HKT.out (by omega))
      clear m' hbt
      generalize wr.setCell ⟨b4, 2, none⟩ (.int .i64 N1) = w101 at *
      have hb : Below w101.heap.size w101 w101.drew := (Below.refl _ _).drew
      have hsz102 := hb.size
      replace KR := Lib.hid (KR.out.below hb)
      replace BT := Lib.hid (BT.out.below hb)
      replace HKT := Lib.hid (HKT.out.below hb)
      replace HS := Lib.hid (HS.out.below hb)
      replace HM := Lib.hid (HM.out.below_ hb)
      clear hb
      go_wp2_with fail
      go_roundg g
      case measure => omega
      case rel => exact ⟨k + 1, by go_num, by omega, Lib.hid ⟨HS.out, HM.out, KR.out, by rw [HN1.out]; simpa using BT.out, HKT.out⟩⟩
     ·have hi3 : ¬ (k : Int) < (TS.size : Int) := by omega
      have hk2 : k = TS.size := by omega
      have hv : ((decF 0 (TS.data.toList.take k) : Nat) : Int) = valT TS := by
       rw [hk2, List.take_of_length_le (by rw [Array.length_toList]; exact Nat.le_refl _), HV.out]; rfl
      have hBT := BT.out
      rw [hv] at hBT
      replace BT := Lib.hid hBT
      clear hv hBT hk2
      generalize valT TS = V at *
      have bBT0 := BT.out.cell 0 (.int .i64 21) rfl
      have bBT1 := BT.out.cell 1 (.string ⟨#[]⟩) rfl
      have bBT2 := BT.out.cell 2 (.int .i64 V) rfl
      have bBT3 := BT.out.cell 3 (.slice none 0 0) rfl
      have f0 := KR.out.free 0
      have f1 := KR.out.free 1
      have f2 := KR.out.free 2
      have f3 := KR.out.free 3
      have g0 := KR.out.cell 0 (.int .i64 0) rfl
      have g1 := KR.out.cell 1 (.string ⟨#[]⟩) rfl
      have g2 := KR.out.cell 2 (.int .i64 0) rfl
      have g3 := KR.out.cell 3 (.slice none 0 0) rfl
      go_wp2_with fail
      have hf := fin_nodeR H0.out (n := .mk 21 ⟨#[]⟩ V []) (A := none) (c := 0) (r0 := w.heap.size) (C := C) (w := w) KR.out HS.out HM.out (Nat.le_refl _) (leafV (V := fun _ => False) hvi (Nat.zero_le _)) (fun b h => h.elim) (mbr_fin HR.out)
      simp only [Nd.k, Nd.t, Nd.num, Nd.kids, List.length_append, List.length_cons, List.length_nil, Nat.zero_add] at hf
      exact bodyPost_ret (v := .agg _) (results_cell4 (fn := Tryz.f47) rfl hf.1 rfl) rfl (by exact hf.2)
   ·by_cases h3 : tk = 3
    ·subst h3
     obtain ⟨hts, -, hvi, -⟩ := num_ok hok (.inr rfl)
     have hall : TS.data.toList.all digU = true := by
      rcases hok with h | h | h
      ·exact absurd h.1 (by omega)
      ·exact digits_all h.2.2.1
      ·exact absurd h.1 (by omega)
     rw [if_neg (by omega), if_pos rfl] at hR
     have HR := Lib.hid hR
     have HALL := Lib.hid hall
     have HV : Hid (valT TS = (decL TS.data.toList : Nat)) := rfl
     clear hR hok hall
     go_quiet (fail)
     go_upto_region 4 with (fail)
     have hb : Below w0.heap.size w0 (w0.drewN nq) := Below.drewN_ (Below.refl _ _) _
     have hsz1 := hb.size
     replace KR := Lib.hid (KR.out.below hb)
     replace HS := Lib.hid (HS.out.below hb)
     replace HM := Lib.hid (HM.out.below_ hb)
     clear hb
     replace q0 : (w0.drewN nq).cell? ⟨C.p, 0, none⟩ = some (.slice (some ⟨bb, o, none⟩) C.L.length C.c) := by simpa using q0
     replace q1 : (w0.drewN nq).cell? ⟨C.p, 1, none⟩ = some (.int .i64 (i : Int)) := by simpa using q1
     replace c0 : (w0.drewN nq).cell? ⟨bb, o + i * 3, none⟩ = some (.int .i64 3) := by simpa using c0
     replace c1 : (w0.drewN nq).cell? ⟨bb, o + i * 3 + 1, none⟩ = some (.string TS) := by simpa using c1
     replace c2 : (w0.drewN nq).cell? ⟨bb, o + i * 3 + 2, none⟩ = some (.int .i64 TP) := by simpa using c2
     generalize w0.drewN nq = w1 at *
     clear q2
     have hnb : bb < w1.heap.size := by omega
     have hnp : C.p < w1.heap.size := HS.out.lt
     go_region_held3 (fun W => W.cell? ⟨C.p, 0, none⟩ = some (.slice (some ⟨bb, o, none⟩) C.L.length C.c) ∧ W.cell? ⟨C.p, 1, none⟩ = some (.int .i64 (i : Int)) ∧ W.cell? ⟨bb, o + i * 3, none⟩ = some (.int .i64 3) ∧ W.cell? ⟨bb, o + i * 3 + 1, none⟩ = some (.string TS) ∧ W.cell? ⟨bb, o + i * 3 + 2, none⟩ = some (.int .i64 TP)) (go_keep) (fail)
     rename_i hhd
     clear hhd q0 q1 c0 c1 c2
     have KX : Blk (w1.alloc (.cells #[.int .i64 3, .string TS, .int .i64 TP] 50)).drew w1.heap.size 50 #[.int .i64 3, .string TS, .int .i64 TP] := Blk.drewR (Blk.new_ w1 50 #[.int .i64 3, .string TS, .int .i64 TP])
     have hb : Below w1.heap.size w1 (w1.alloc (.cells #[.int .i64 3, .string TS, .int .i64 TP] 50)).drew := ((Below.refl _ _).alloc (Nat.le_refl _) _).drew
     have hbz3 : w1.heap.size < (w1.alloc (.cells #[.int .i64 3, .string TS, .int .i64 TP] 50)).drew.heap.size := KX.lt
     have hsz2 := hb.size
     replace KR := Lib.hid (KR.out.below hb)
     replace HS := Lib.hid (HS.out.below hb)
     replace HM := Lib.hid (HM.out.below_ hb)
     clear hb
     have HKT := Lib.hid KX
     clear KX
     generalize (w1.alloc (.cells #[.int .i64 3, .string TS, .int .i64 TP] 50)).drew = w2 at *
     obtain ⟨b3, hbw3⟩ : ∃ x, x = w1.heap.size := ⟨_, rfl⟩
     rw [← hbw3] at HKT
     have hbv3 : w1.heap.size ≤ b3 := by omega
     have hbx3 : b3 < w2.heap.size := HKT.out.lt
     rw [← hbw3]
     clear hbw3
     have hlti : i < C.L.length := hlt
     have q1 := HS.out.blk.cell 1 (.int .i64 (i : Int)) rfl
     have f1 := HS.out.blk.free 1
     have hw1 : IntKind.i64.wrap ((i : Int) + 1) = (i : Int) + 1 := IntWalk.i64_in _ (by omega)
     go_upto_region 6 with (fail)
     clear q1 f1 hw1
     have hm := HS.out.move (i + 1) (by omega)
     have h' := hm.1
     have m' := hm.2
     clear hm
     simp only [Int.natCast_add, Int.cast_ofNat_Int] at h' m'
     generalize w2.setCell ⟨C.p, 1, none⟩ (.int .i64 ((i : Int) + 1)) = w3 at *
     have hsz3 := m'.size
     replace KR := Lib.hid (m'.blk KR.out (by omega))
     replace HKT := Lib.hid (m'.blk HKT.out (by omega))
     replace HS := Lib.hid h'
     replace HM := Lib.hid (HM.out.trans_ m')
     clear m'
     clear h'
     go_upto_region 7 with (fail)
     have KX := Blk.new_ w3 24 #[.int .i64 21, .string ⟨#[]⟩, .int .i64 0, .slice none 0 0]
     have hb : Below w3.heap.size w3 (w3.alloc (.cells #[.int .i64 21, .string ⟨#[]⟩, .int .i64 0, .slice none 0 0] 24)) := by (repeat (first | with_reducible assumption | with_reducible exact Below.refl _ _ | (refine Below.setCell ?_ (by first | omega | (simp; done) | (simp; omega)) _) | (refine Below.drewN_ ?_ _) | (refine Below.drew ?_) | (refine Below.alloc ?_ (by first | omega | (simp; done) | (simp; omega)) _)))
     have hbzb4 : w3.heap.size < (w3.alloc (.cells #[.int .i64 21, .string ⟨#[]⟩, .int .i64 0, .slice none 0 0] 24)).heap.size := KX.lt
     have hsz4 := hb.size
     replace KR := Lib.hid (KR.out.below hb)
     replace HKT := Lib.hid (HKT.out.below hb)
     replace HS := Lib.hid (HS.out.below hb)
     replace HM := Lib.hid (HM.out.below_ hb)
     clear hb
     have BT := Lib.hid KX
     clear KX
     have HBSb4 : Hid ((w3.alloc (.cells #[.int .i64 21, .string ⟨#[]⟩, .int .i64 0, .slice none 0 0] 24)).heap.size = w3.heap.size + 1) := by show _ = _; simp
     generalize (w3.alloc (.cells #[.int .i64 21, .string ⟨#[]⟩, .int .i64 0, .slice none 0 0] 24)) = w4 at *
     obtain ⟨b4, hbwb4⟩ : ∃ x, x = w3.heap.size := ⟨_, rfl⟩
     rw [← hbwb4] at BT
     have hbvb4 : w3.heap.size ≤ b4 := by omega
     have hbxb4 : b4 < w4.heap.size := by omega
     rw [← hbwb4]
     clear hbwb4
     have x0 := HKT.out.cell 0 (.int .i64 3) rfl
     have f0 := BT.out.free 0
     have g0 := BT.out.cell 0 (.int .i64 21) rfl
     go_upto_region 9 with (fail)
     clear f0 g0
     have m' := put1_mv w4 b4 0 (.int .i64 22)
     have hbt := BT.out.set_ 0 (.int .i64 22)
     have hsz5 := m'.size
     replace HS := Lib.hid (RSt.put H0.out HS.out HM.out (by omega) m')
     replace HM := Lib.hid (HM.out.put (by omega) m')
     replace KR := Lib.hid (m'.blk KR.out (by omega))
     replace HKT := Lib.hid (m'.blk HKT.out (by omega))
     replace BT := Lib.hid hbt
     clear m' hbt
     generalize w4.setCell ⟨b4, 0, none⟩ (.int .i64 22) = w5 at *
     clear x0
     go_wp2_with fail
     go_loopg [5] TS.size (fun gk v wr => NuRel C i w 22 3 TS TP b3 b4 gk v wr)
     case atStart => exact ⟨0, rfl, by omega, Lib.hid ⟨HS.out, HM.out, KR.out, BT.out, HKT.out⟩⟩
     case round =>
      obtain ⟨k, rfl, hkg, HX⟩ := hrel
      clear HS HM KR BT HKT
      have HS := Lib.hid HX.out.1
      have HM := Lib.hid HX.out.2.1
      have KR := Lib.hid HX.out.2.2.1
      have BT := Lib.hid HX.out.2.2.2.1
      have HKT := Lib.hid HX.out.2.2.2.2
      clear HX
      have hszr := HM.out.size
      have h4l := BT.out.lt
      have h3l := HKT.out.lt
      have x1 := HKT.out.cell 1 (.string TS) rfl
      have hb4w : w.heap.size < b4 := by omega
      by_cases hks : k < TS.size
      ·obtain ⟨hd1, hd2, hd3, hd4⟩ := dig_step HALL.out hks
       have hvd := HV.out
       have hi3 : (k : Int) < (TS.size : Int) := by omega
       have hi4 : (0 : Int) ≤ (k : Int) := by omega
       have hi5 : ((k : Int)).toNat = k := by omega
       have hvb : valT TS ≤ 9223372036854775807 := hvi.2
       have hu : IntKind.u8.wrap (((TS[k]'hks).toNat : Int) - 48) = ((TS[k]'hks).toNat : Int) - 48 := IntWalk.u8_in _ (by omega)
       have hc : IntKind.i64.wrap (((TS[k]'hks).toNat : Int) - 48) = ((TS[k]'hks).toNat : Int) - 48 := IntWalk.i64_in _ (by omega)
       have hm : IntKind.i64.wrap (10 * ((decF 0 (TS.data.toList.take k) : Nat) : Int)) = 10 * ((decF 0 (TS.data.toList.take k) : Nat) : Int) := IntWalk.i64_in _ (by omega)
       have ha : IntKind.i64.wrap (10 * ((decF 0 (TS.data.toList.take k) : Nat) : Int) + (((TS[k]'hks).toNat : Int) - 48)) = ((decF 0 (TS.data.toList.take (k + 1)) : Nat) : Int) := by
        rw [IntWalk.i64_in _ (by omega)]; omega
       clear hd1 hd2 hd3 hd4 hvd hvb
       generalize decF 0 (TS.data.toList.take k) = N0 at *
       obtain ⟨N1, hN1⟩ : ∃ x : Int, ((decF 0 (TS.data.toList.take (k + 1)) : Nat) : Int) = x := ⟨_, rfl⟩
       rw [hN1] at ha
       have HN1 := Lib.hid hN1
       clear hN1
       cases gk with
       | zero => omega
       | succ g =>
       go_wp2_with fail
       have f2 := BT.out.free 2
       have g2 := BT.out.cell 2 (.int .i64 (N0 : Int)) rfl
       go_region
       clear f2 g2
       have m' := put1_mv wr b4 2 (.int .i64 N1)
       have hbt := BT.out.set_ 2 (.int .i64 N1)
       have hsz101 := m'.size
       replace HS := Lib.hid (RSt.put H0.out HS.out HM.out (by omega) m')
       replace HM := Lib.hid (HM.out.put (by omega) m')
       replace KR := Lib.hid (m'.blk KR.out (by omega))
       replace BT := Lib.hid hbt
       replace HKT := Lib.hid (m'.blk HKT.out (by omega))
       clear m' hbt
       generalize wr.setCell ⟨b4, 2, none⟩ (.int .i64 N1) = w101 at *
       have hb : Below w101.heap.size w101 w101.drew := (Below.refl _ _).drew
       have hsz102 := hb.size
       replace KR := Lib.hid (KR.out.below hb)
       replace BT := Lib.hid (BT.out.below hb)
       replace HKT := Lib.hid (HKT.out.below hb)
       replace HS := Lib.hid (HS.out.below hb)
       replace HM := Lib.hid (HM.out.below_ hb)
       clear hb
       go_wp2_with fail
       go_roundg g
       case measure => omega
       case rel => exact ⟨k + 1, by go_num, by omega, Lib.hid ⟨HS.out, HM.out, KR.out, by rw [HN1.out]; simpa using BT.out, HKT.out⟩⟩
      ·have hi3 : ¬ (k : Int) < (TS.size : Int) := by omega
       have hk2 : k = TS.size := by omega
       have hv : ((decF 0 (TS.data.toList.take k) : Nat) : Int) = valT TS := by
        rw [hk2, List.take_of_length_le (by rw [Array.length_toList]; exact Nat.le_refl _), HV.out]; rfl
       have hBT := BT.out
       rw [hv] at hBT
       replace BT := Lib.hid hBT
       clear hv hBT hk2
       generalize valT TS = V at *
       have bBT0 := BT.out.cell 0 (.int .i64 22) rfl
       have bBT1 := BT.out.cell 1 (.string ⟨#[]⟩) rfl
       have bBT2 := BT.out.cell 2 (.int .i64 V) rfl
       have bBT3 := BT.out.cell 3 (.slice none 0 0) rfl
       have f0 := KR.out.free 0
       have f1 := KR.out.free 1
       have f2 := KR.out.free 2
       have f3 := KR.out.free 3
       have g0 := KR.out.cell 0 (.int .i64 0) rfl
       have g1 := KR.out.cell 1 (.string ⟨#[]⟩) rfl
       have g2 := KR.out.cell 2 (.int .i64 0) rfl
       have g3 := KR.out.cell 3 (.slice none 0 0) rfl
       go_wp2_with fail
       have hf := fin_nodeR H0.out (n := .mk 22 ⟨#[]⟩ V []) (A := none) (c := 0) (r0 := w.heap.size) (C := C) (w := w) KR.out HS.out HM.out (Nat.le_refl _) (leafV (V := fun _ => False) hvi (Nat.zero_le _)) (fun b h => h.elim) (mbr_fin HR.out)
       simp only [Nd.k, Nd.t, Nd.num, Nd.kids, List.length_append, List.length_cons, List.length_nil, Nat.zero_add] at hf
       exact bodyPost_ret (v := .agg _) (results_cell4 (fn := Tryz.f47) rfl hf.1 rfl) rfl (by exact hf.2)
    ·have e2 : (tk != 2) = true := by simpa using h2
     have e3 : (tk != 3) = true := by simpa using h3
     have HF : Hid (∀ x, Fol R x i true) := fun x => by
      rw [← hR, if_neg h2, if_neg h3]
      simp [mbr, Fol]
     clear hR
     go_quiet (fail)
     go_wp2_with fail
     have hb : Below w0.heap.size w0 (w0.drewN nq) := Below.drewN_ (Below.refl _ _) _
     have hsz1 := hb.size
     replace KR := Lib.hid (KR.out.below hb)
     replace HS := Lib.hid (HS.out.below hb)
     replace HM := Lib.hid (HM.out.below_ hb)
     clear hb
     generalize w0.drewN nq = w1 at *
     refine (failR_any C _ _ false HS.out).mono ?_
     rintro e w2 ⟨rfl, h', m'⟩
     have hsz2 := m'.size
     replace KR := Lib.hid (m'.blk KR.out (by omega))
     replace HS := Lib.hid h'
     replace HM := Lib.hid (HM.out.trans_ m')
     clear m'
     clear h'
     have f0 := KR.out.free 0
     have f1 := KR.out.free 1
     have f2 := KR.out.free 2
     have f3 := KR.out.free 3
     have g0 := KR.out.cell 0 (.int .i64 0) rfl
     have g1 := KR.out.cell 1 (.string ⟨#[]⟩) rfl
     have g2 := KR.out.cell 2 (.int .i64 0) rfl
     have g3 := KR.out.cell 3 (.slice none 0 0) rfl
     go_wp2_with fail
     have hf := fin_nodeR H0.out (n := .mk 0 ⟨#[]⟩ 0 []) (A := none) (c := 0) (r0 := w.heap.size) (C := C) (w := w) KR.out HS.out HM.out (Nat.le_refl _) (leafV (V := fun _ => False) i64_0 (Nat.zero_le _)) (fun b h => h.elim) (HF.out _)
     simp only [Nd.k, Nd.t, Nd.num, Nd.kids, List.length_append, List.length_cons, List.length_nil, Nat.zero_add] at hf
     exact bodyPost_ret (v := .agg _) (results_cell4 (fn := Tryz.f47) rfl hf.1 rfl) rfl (by exact hf.2)
  ·have HF : Hid (∀ x, Fol R x i true) := fun x => by
    rw [← HR.out]
    unfold numM
    rw [List.getElem?_eq_none (by omega)]
    simp [mbr, Fol]
   have i1 : ¬ (i : Int) < (C.L.length : Int) := by omega
   have i2 : (C.L.length : Int) ≤ (i : Int) := by omega
   have d1 : decide ((C.L.length : Int) ≤ (i : Int)) = true := by simpa using i2
   go_quiet (fail)
   go_wp2_with fail
   have hb : Below w0.heap.size w0 (w0.drewN nq) := Below.drewN_ (Below.refl _ _) _
   have hsz1 := hb.size
   replace KR := Lib.hid (KR.out.below hb)
   replace HS := Lib.hid (HS.out.below hb)
   replace HM := Lib.hid (HM.out.below_ hb)
   clear hb
   generalize w0.drewN nq = w1 at *
   refine (failR_any C _ _ false HS.out).mono ?_
   rintro e w2 ⟨rfl, h', m'⟩
   have hsz2 := m'.size
   replace KR := Lib.hid (m'.blk KR.out (by omega))
   replace HS := Lib.hid h'
   replace HM := Lib.hid (HM.out.trans_ m')
   clear m'
   clear h'
   have f0 := KR.out.free 0
   have f1 := KR.out.free 1
   have f2 := KR.out.free 2
   have f3 := KR.out.free 3
   have g0 := KR.out.cell 0 (.int .i64 0) rfl
   have g1 := KR.out.cell 1 (.string ⟨#[]⟩) rfl
   have g2 := KR.out.cell 2 (.int .i64 0) rfl
   have g3 := KR.out.cell 3 (.slice none 0 0) rfl
   go_wp2_with fail
   have hf := fin_nodeR H0.out (n := .mk 0 ⟨#[]⟩ 0 []) (A := none) (c := 0) (r0 := w.heap.size) (C := C) (w := w) KR.out HS.out HM.out (Nat.le_refl _) (leafV (V := fun _ => False) i64_0 (Nat.zero_le _)) (fun b h => h.elim) (HF.out _)
   simp only [Nd.k, Nd.t, Nd.num, Nd.kids, List.length_append, List.length_cons, List.length_nil, Nat.zero_add] at hf
   exact bodyPost_ret (v := .agg _) (results_cell4 (fn := Tryz.f47) rfl hf.1 rfl) rfl (by exact hf.2)
end Go.Proofs.YtgegfbopogcjpaaGreatDoor
