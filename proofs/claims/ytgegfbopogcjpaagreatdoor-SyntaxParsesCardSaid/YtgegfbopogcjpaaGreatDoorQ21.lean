/- The reference's reader: what binds so closely at least. -/
import Derived.Test.YtgegfbopogcjpaaGreatDoorQ20
namespace Go.Proofs.YtgegfbopogcjpaaGreatDoor
open Go.RowKit
set_option linter.unusedVariables false
set_option linter.unusedSimpArgs false
set_option maxRecDepth 100000
set_option maxHeartbeats 2000000
theorem sgI_or (t : ByteArray) : (∃ j, j < 10 ∧ sgI j = t) ∨ ∀ j, j < 10 → sgI j ≠ t := by
 by_cases h : ∃ j, j < 10 ∧ sgI j = t
 ·exact .inl h
 ·exact .inr fun j hj e => h ⟨j, hj, e⟩
theorem sign_set2 (t : ByteArray) : ([⟨#[42]⟩, ⟨#[47]⟩, ⟨#[37]⟩, ⟨#[38]⟩].any fun s => decide (t = s)) = decide ((signR t).1 = 2) := by
 rcases sgI_or t with ⟨j, hj, rfl⟩ | h
 ·rw [signR_sg j hj]
  exact ten (fun j => ([⟨#[42]⟩, ⟨#[47]⟩, ⟨#[37]⟩, ⟨#[38]⟩].any fun s => decide (sgI j = s)) = decide ((kI j, opI j).1 = 2)) (by decide) (by decide) (by decide) (by decide) (by decide) (by decide) (by decide) (by decide) (by decide) (by decide) j hj
 ·rw [signR_no h]
  have hn : ∀ j, j < 10 → decide (t = sgI j) = false := fun j hj => decide_eq_false fun e => h j hj e.symm
  simp only [List.any_cons, List.any_nil]
  rw [show decide (t = ⟨#[42]⟩) = false from hn 6 (by omega), show decide (t = ⟨#[47]⟩) = false from hn 7 (by omega), show decide (t = ⟨#[37]⟩) = false from hn 8 (by omega), show decide (t = ⟨#[38]⟩) = false from hn 9 (by omega)]
  decide
theorem tIn_set2 {L : List Tok} (hok : ∀ t ∈ L, TokOk t.k t.s) (i : Nat) : tIn L [⟨#[42]⟩, ⟨#[47]⟩, ⟨#[37]⟩, ⟨#[38]⟩] i = decide ((signR (txR L i)).1 = 2) := by
 rw [← sign_set2]
 unfold tIn
 simp only [List.any_cons, List.any_nil]
 rw [txR_is hok (s := ⟨#[42]⟩) (by decide) i, txR_is hok (s := ⟨#[47]⟩) (by decide) i, txR_is hok (s := ⟨#[37]⟩) (by decide) i, txR_is hok (s := ⟨#[38]⟩) (by decide) i]
theorem sign_set1 (t : ByteArray) : ([⟨#[43]⟩, ⟨#[45]⟩, ⟨#[124]⟩, ⟨#[94]⟩].any fun s => decide (t = s)) = decide ((signR t).1 = 1) := by
 rcases sgI_or t with ⟨j, hj, rfl⟩ | h
 ·rw [signR_sg j hj]
  exact ten (fun j => ([⟨#[43]⟩, ⟨#[45]⟩, ⟨#[124]⟩, ⟨#[94]⟩].any fun s => decide (sgI j = s)) = decide ((kI j, opI j).1 = 1)) (by decide) (by decide) (by decide) (by decide) (by decide) (by decide) (by decide) (by decide) (by decide) (by decide) j hj
 ·rw [signR_no h]
  have hn : ∀ j, j < 10 → decide (t = sgI j) = false := fun j hj => decide_eq_false fun e => h j hj e.symm
  simp only [List.any_cons, List.any_nil]
  rw [show decide (t = ⟨#[43]⟩) = false from hn 2 (by omega), show decide (t = ⟨#[45]⟩) = false from hn 3 (by omega), show decide (t = ⟨#[124]⟩) = false from hn 4 (by omega), show decide (t = ⟨#[94]⟩) = false from hn 5 (by omega)]
  decide
theorem tIn_set1 {L : List Tok} (hok : ∀ t ∈ L, TokOk t.k t.s) (i : Nat) : tIn L [⟨#[43]⟩, ⟨#[45]⟩, ⟨#[124]⟩, ⟨#[94]⟩] i = decide ((signR (txR L i)).1 = 1) := by
 rw [← sign_set1]
 unfold tIn
 simp only [List.any_cons, List.any_nil]
 rw [txR_is hok (s := ⟨#[43]⟩) (by decide) i, txR_is hok (s := ⟨#[45]⟩) (by decide) i, txR_is hok (s := ⟨#[124]⟩) (by decide) i, txR_is hok (s := ⟨#[94]⟩) (by decide) i]
theorem sign_set0 (t : ByteArray) : ([⟨#[61, 61]⟩, ⟨#[60]⟩].any fun s => decide (t = s)) = decide ((signR t).1 = 0) := by
 rcases sgI_or t with ⟨j, hj, rfl⟩ | h
 ·rw [signR_sg j hj]
  exact ten (fun j => ([⟨#[61, 61]⟩, ⟨#[60]⟩].any fun s => decide (sgI j = s)) = decide ((kI j, opI j).1 = 0)) (by decide) (by decide) (by decide) (by decide) (by decide) (by decide) (by decide) (by decide) (by decide) (by decide) j hj
 ·rw [signR_no h]
  have hn : ∀ j, j < 10 → decide (t = sgI j) = false := fun j hj => decide_eq_false fun e => h j hj e.symm
  simp only [List.any_cons, List.any_nil]
  rw [show decide (t = ⟨#[61, 61]⟩) = false from hn 0 (by omega), show decide (t = ⟨#[60]⟩) = false from hn 1 (by omega)]
  decide
theorem tIn_set0 {L : List Tok} (hok : ∀ t ∈ L, TokOk t.k t.s) (i : Nat) : tIn L [⟨#[61, 61]⟩, ⟨#[60]⟩] i = decide ((signR (txR L i)).1 = 0) := by
 rw [← sign_set0]
 unfold tIn
 simp only [List.any_cons, List.any_nil]
 rw [txR_is hok (s := ⟨#[61, 61]⟩) (by decide) i, txR_is hok (s := ⟨#[60]⟩) (by decide) i]
theorem tIn_text {L : List Tok} (hok : ∀ t ∈ L, TokOk t.k t.s) {i : Nat} {l : Int} (hl : 0 ≤ l) (h : (signR (txR L i)).1 = l) : opOf (tTx L i) = (signR (txR L i)).2 := by
 rcases sgI_or (txR L i) with ⟨j, hj, e⟩ | h'
 ·have hne : sgI j ≠ ⟨#[]⟩ := ten (fun j => sgI j ≠ ⟨#[]⟩) (by decide) (by decide) (by decide) (by decide) (by decide) (by decide) (by decide) (by decide) (by decide) (by decide) j hj
  have e2 : tTx L i = txR L i := by
   unfold tTx
   rcases hL : L[i]? with _ | t
   ·rw [txR_none hL]
   ·rw [txR_some hL] at e ⊢
    by_cases h2 : t.k = 2 ∨ t.k = 3
    ·rw [if_pos h2] at e; exact absurd e hne
    ·rw [if_neg h2]
  rw [e2, ← e, signR_sg j hj]
  exact ten (fun j => opOf (sgI j) = (kI j, opI j).2) (by decide) (by decide) (by decide) (by decide) (by decide) (by decide) (by decide) (by decide) (by decide) (by decide) j hj
 ·rw [signR_no h'] at h
  simp at h
  omega
theorem signR_i64 (t : ByteArray) : I64 (signR t).2 := by
 rcases sgI_or t with ⟨j, hj, rfl⟩ | h
 ·rw [signR_sg j hj]
  unfold I64
  exact ten (fun j => -9223372036854775808 ≤ (kI j, opI j).2 ∧ (kI j, opI j).2 ≤ 9223372036854775807) (by decide) (by decide) (by decide) (by decide) (by decide) (by decide) (by decide) (by decide) (by decide) (by decide) j hj
 ·rw [signR_no h]
  unfold I64
  decide
def RBnd (C : RC) (l : Int) (m : Nat → Res Nd) : Prop := ∀ (w : World) (i : Nat) (b : Bool), RSt C w i b → mbr (m i) i b ≠ .dry → Calls Tryz.prog 98 #[.pointer (some ⟨C.p, 0, none⟩), .int .i64 l] w (RNode C w (mbr (m i) i b))
def BdRel (C : RC) (m : Nat → Res Nd) (sg : List ByteArray) (R : Res Nd) (w : World) (B bt : Nat) (gk : Nat) (wr : World) : Prop :=
 ∃ (nk : Int) (nt : ByteArray) (nn : Int) (nl : List Nd) (An : Option Addr) (cn i : Nat) (b : Bool), Hid (Blk wr bt 24 #[.int .i64 nk, .string nt, .int .i64 nn, .slice An nl.length cn] ∧ RepV (fun b => B ≤ b ∧ b ≠ bt) wr (.mk nk nt nn nl) [.int .i64 nk, .string nt, .int .i64 nn, .slice An nl.length cn] ∧ RSt C wr i b ∧ Mv C.p w wr ∧ Blk wr w.heap.size 24 #[.int .i64 0, .string ⟨#[]⟩, .int .i64 0, .slice none 0 0] ∧ B ≤ wr.heap.size ∧ mbr (chainM C.L m sg gk (.mk nk nt nn nl) i) i b = R)
theorem bound3_of (C : RC) {u : Nat → Res Nd} (hf : ROk C 125 u) : RBnd C 3 (u) := by
 intro w i b h hwet
 have HF := Lib.hid hf
 clear hf
 obtain ⟨R, HR⟩ : ∃ R, Hid (mbr ((u) i) i b = R) := ⟨_, rfl⟩
 rw [HR.out] at hwet ⊢
 have HW := Lib.hid hwet
 have HOK := Lib.hid h.ok
 clear hwet
 have hlw := h.lt
 have hlen := h.len
 have hr0 : w.heap.size ≠ C.p := by omega
 have hb0 : Below w.heap.size w (w.alloc (.cells #[.int .i64 0, .string ⟨#[]⟩, .int .i64 0, .slice none 0 0] 24)) := by (repeat (first | with_reducible assumption | with_reducible exact Below.refl _ _ | (refine Below.setCell ?_ (by first | omega | (simp; done) | (simp; omega)) _) | (refine Below.drewN_ ?_ _) | (refine Below.drew ?_) | (refine Below.alloc ?_ (by first | omega | (simp; done) | (simp; omega)) _)))
 have H0 := Lib.hid h
 have HS := Lib.hid (h.below hb0)
 have HM : Hid (Mv C.p w (w.alloc (.cells #[.int .i64 0, .string ⟨#[]⟩, .int .i64 0, .slice none 0 0] 24))) := mv_below hb0
 have KR := Lib.hid (Blk.new_ w 24 #[.int .i64 0, .string ⟨#[]⟩, .int .i64 0, .slice none 0 0])
 have hsz0 : w.heap.size < (w.alloc (.cells #[.int .i64 0, .string ⟨#[]⟩, .int .i64 0, .slice none 0 0] 24)).heap.size := KR.out.lt
 clear h hb0
 go_enter Tryz.func98, Tryz.ntmps98
 go_wp2_with fail
 generalize (w.alloc (.cells #[.int .i64 0, .string ⟨#[]⟩, .int .i64 0, .slice none 0 0] 24)) = w0 at *
 go_wp2_with fail
 have hpx := HS.out.lt
 refine (HF.out _ _ b HS.out ((fun e => HW.out (HR.out.symm.trans e)))).mono ?_
 rintro e w1 ⟨⟨xk, xt, xn, xl⟩, Ax, cx, j1, b1, rfl, hrep, h', m', hf⟩
 replace HR := Lib.hid (mbr_last HR.out hf)
 simp only [Nd.k, Nd.t, Nd.num, Nd.kids] at hrep ⊢
 have REPx := Lib.hid (hrep.toI (E := w1.heap.size) rfl)
 clear hf hrep
 have hsz1 := m'.size
 replace KR := Lib.hid (m'.blk KR.out (by omega))
 replace HS := Lib.hid h'
 replace HM := Lib.hid (HM.out.trans_ m')
 clear m'
 clear h'
 have f0 := KR.out.free 0
 have f1 := KR.out.free 1
 have f2 := KR.out.free 2
 have f3 := KR.out.free 3
 have g0 := KR.out.cell 0 (.int .i64 0) rfl
 have g1 := KR.out.cell 1 (.string ⟨#[]⟩) rfl
 have g2 := KR.out.cell 2 (.int .i64 0) rfl
 have g3 := KR.out.cell 3 (.slice none 0 0) rfl
 go_wp2_with fail
 have hf := fin_nodeR H0.out (n := (Nd.mk xk xt xn xl)) (A := Ax) (c := cx) (r0 := w.heap.size) (C := C) (w := w) KR.out HS.out HM.out (Nat.le_refl _) REPx.out (fun b h => by have h1 := h.1; have h2 := h.2; exact ⟨by omega, by omega⟩) HR.out
 simp only [Nd.k, Nd.t, Nd.num, Nd.kids, List.length_append, List.length_cons, List.length_nil, Nat.zero_add] at hf
 exact bodyPost_ret (v := .agg _) (results_cell4 (fn := Tryz.f98) rfl hf.1 rfl) rfl (by exact hf.2)
theorem bound2_of (C : RC) {m : Nat → Res Nd} (hf : RBnd C (2 + 1) m) : RBnd C 2 (fun i => (m i).bind fun x j => chainM C.L m [⟨#[42]⟩, ⟨#[47]⟩, ⟨#[37]⟩, ⟨#[38]⟩] (C.L.length + 1) x j) := by
 intro w i b h hwet
 have HF := Lib.hid hf
 clear hf
 obtain ⟨R, HR⟩ : ∃ R, Hid (mbr ((fun i => (m i).bind fun x j => chainM C.L m [⟨#[42]⟩, ⟨#[47]⟩, ⟨#[37]⟩, ⟨#[38]⟩] (C.L.length + 1) x j) i) i b = R) := ⟨_, rfl⟩
 rw [HR.out] at hwet ⊢
 have HW := Lib.hid hwet
 have HOK := Lib.hid h.ok
 clear hwet
 have hlw := h.lt
 have hlen := h.len
 have hr0 : w.heap.size ≠ C.p := by omega
 have hb0 : Below w.heap.size w (w.alloc (.cells #[.int .i64 0, .string ⟨#[]⟩, .int .i64 0, .slice none 0 0] 24)) := by (repeat (first | with_reducible assumption | with_reducible exact Below.refl _ _ | (refine Below.setCell ?_ (by first | omega | (simp; done) | (simp; omega)) _) | (refine Below.drewN_ ?_ _) | (refine Below.drew ?_) | (refine Below.alloc ?_ (by first | omega | (simp; done) | (simp; omega)) _)))
 have H0 := Lib.hid h
 have HS := Lib.hid (h.below hb0)
 have HM : Hid (Mv C.p w (w.alloc (.cells #[.int .i64 0, .string ⟨#[]⟩, .int .i64 0, .slice none 0 0] 24))) := mv_below hb0
 have KR := Lib.hid (Blk.new_ w 24 #[.int .i64 0, .string ⟨#[]⟩, .int .i64 0, .slice none 0 0])
 have hsz0 : w.heap.size < (w.alloc (.cells #[.int .i64 0, .string ⟨#[]⟩, .int .i64 0, .slice none 0 0] 24)).heap.size := KR.out.lt
 clear h hb0
 go_enter Tryz.func98, Tryz.ntmps98
 go_wp2_with fail
 generalize (w.alloc (.cells #[.int .i64 0, .string ⟨#[]⟩, .int .i64 0, .slice none 0 0] 24)) = w0 at *
 go_wp2_with fail
 have hpx := HS.out.lt
 refine (HF.out _ _ b HS.out (mbr_wet HR.out HW.out)).mono ?_
 rintro e w1 ⟨⟨xk, xt, xn, xl⟩, Ax, cx, j1, b1, rfl, hrep, h', m', hf⟩
 replace HR := Lib.hid (mbr_seq HR.out HW.out hf)
 simp only [Nd.k, Nd.t, Nd.num, Nd.kids] at hrep ⊢
 have REPx := Lib.hid (hrep.toI (E := w1.heap.size) rfl)
 clear hf hrep
 have hsz1 := m'.size
 replace KR := Lib.hid (m'.blk KR.out (by omega))
 replace HS := Lib.hid h'
 replace HM := Lib.hid (HM.out.trans_ m')
 clear m'
 clear h'
 go_wp2_with fail
 have KX := Blk.new_ w1 24 #[.int .i64 xk, .string xt, .int .i64 xn, .slice Ax xl.length cx]
 have hb : Below w1.heap.size w1 (w1.alloc (.cells #[.int .i64 xk, .string xt, .int .i64 xn, .slice Ax xl.length cx] 24)) := by (repeat (first | with_reducible assumption | with_reducible exact Below.refl _ _ | (refine Below.setCell ?_ (by first | omega | (simp; done) | (simp; omega)) _) | (refine Below.drewN_ ?_ _) | (refine Below.drew ?_) | (refine Below.alloc ?_ (by first | omega | (simp; done) | (simp; omega)) _)))
 have hbzbt : w1.heap.size < (w1.alloc (.cells #[.int .i64 xk, .string xt, .int .i64 xn, .slice Ax xl.length cx] 24)).heap.size := KX.lt
 have hsz2 := hb.size
 replace KR := Lib.hid (KR.out.below hb)
 replace REPx := Lib.hid (REPx.out.belI hb)
 replace HS := Lib.hid (HS.out.below hb)
 replace HM := Lib.hid (HM.out.below_ hb)
 clear hb
 have BT := Lib.hid KX
 clear KX
 have HBSbt : Hid ((w1.alloc (.cells #[.int .i64 xk, .string xt, .int .i64 xn, .slice Ax xl.length cx] 24)).heap.size = w1.heap.size + 1) := by show _ = _; simp
 generalize (w1.alloc (.cells #[.int .i64 xk, .string xt, .int .i64 xn, .slice Ax xl.length cx] 24)) = w2 at *
 obtain ⟨bt, hbwbt⟩ : ∃ x, x = w1.heap.size := ⟨_, rfl⟩
 rw [← hbwbt] at BT
 have hbvbt : w1.heap.size ≤ bt := by omega
 have hbxbt : bt < w2.heap.size := by omega
 rw [← hbwbt]
 clear hbwbt
 have hrx : RepV (fun b => w0.heap.size ≤ b ∧ b ≠ bt) w2 (Nd.mk xk xt xn xl) [.int .i64 xk, .string xt, .int .i64 xn, .slice Ax xl.length cx] := REPx.out.ofI fun b h1 h2 => ⟨h1, by omega⟩
 have hBb : w0.heap.size ≤ bt := by omega
 go_loopg [] (C.L.length + 1) (fun gk wr => BdRel C m [⟨#[42]⟩, ⟨#[47]⟩, ⟨#[37]⟩, ⟨#[38]⟩] R w w0.heap.size bt gk wr)
 case atStart => exact ⟨xk, xt, xn, xl, Ax, cx, j1, b1, Lib.hid ⟨BT.out, hrx, HS.out, HM.out, KR.out, by omega, HR.out⟩⟩
 case round =>
  obtain ⟨nk, nt, nn, nl, An, cn, j, b, HX⟩ := hrel
  clear HS HM HR KR BT hrx REPx
  have BT := Lib.hid HX.out.1
  have REPn := Lib.hid HX.out.2.1
  have HS := Lib.hid HX.out.2.2.1
  have HM := Lib.hid HX.out.2.2.2.1
  have KR := Lib.hid HX.out.2.2.2.2.1
  have hszB := HX.out.2.2.2.2.2.1
  have hR := HX.out.2.2.2.2.2.2
  clear HX
  have hszr := HM.out.size
  have hbtl := BT.out.lt
  have hcb := HS.out.blk.cell 2 (.bool b) rfl
  cases b with
  | true =>
   have HR := Lib.hid hR
   clear hR
   have bBT0 := BT.out.cell 0 (.int .i64 nk) rfl
   have bBT1 := BT.out.cell 1 (.string nt) rfl
   have bBT2 := BT.out.cell 2 (.int .i64 nn) rfl
   have bBT3 := BT.out.cell 3 (.slice An nl.length cn) rfl
   have f0 := KR.out.free 0
   have f1 := KR.out.free 1
   have f2 := KR.out.free 2
   have f3 := KR.out.free 3
   have g0 := KR.out.cell 0 (.int .i64 0) rfl
   have g1 := KR.out.cell 1 (.string ⟨#[]⟩) rfl
   have g2 := KR.out.cell 2 (.int .i64 0) rfl
   have g3 := KR.out.cell 3 (.slice none 0 0) rfl
   go_wp2_with fail
   have hf := fin_nodeR H0.out (n := (Nd.mk nk nt nn nl)) (A := An) (c := cn) (r0 := w.heap.size) (C := C) (w := w) KR.out HS.out HM.out (Nat.le_refl _) REPn.out (fun b h => by have h1 := h.1; have h2 := h.2; exact ⟨by omega, by omega⟩) (mbr_true HR.out)
   simp only [Nd.k, Nd.t, Nd.num, Nd.kids, List.length_append, List.length_cons, List.length_nil, Nat.zero_add] at hf
   exact bodyPost_ret (v := .agg _) (results_cell4 (fn := Tryz.f98) rfl hf.1 rfl) rfl (by exact hf.2)
  | false =>
   cases gk with
   | zero => exact absurd (show Res.dry = R from hR) (fun e => HW.out e.symm)
   | succ g =>
   rw [chainM] at hR
   have HR := Lib.hid hR
   clear hR
   go_wp2_with fail
   refine (txtR_any C _ _ 0 false HS.out (by omega)).mono ?_
   rintro e w101 ⟨rfl, hb⟩
   rw [Nat.add_zero]
   have hsz101 := hb.size
   replace KR := Lib.hid (KR.out.below hb)
   replace BT := Lib.hid (BT.out.below hb)
   replace REPn := Lib.hid (REPn.out.belowG hb)
   replace HS := Lib.hid (HS.out.below hb)
   replace HM := Lib.hid (HM.out.below_ hb)
   clear hb
   go_wp2_with fail
   refine (signB_any (txR C.L j) _).mono ?_
   rintro e w102 ⟨rfl, hb⟩
   have hsz102 := hb.size
   replace KR := Lib.hid (KR.out.below hb)
   replace BT := Lib.hid (BT.out.below hb)
   replace REPn := Lib.hid (REPn.out.belowG hb)
   replace HS := Lib.hid (HS.out.below hb)
   replace HM := Lib.hid (HM.out.below_ hb)
   clear hb
   have HIN := Lib.hid (tIn_set2 HOK.out j)
   have HTX := Lib.hid (tIn_text (i := j) (l := 2) HOK.out (by omega))
   have HI64 := Lib.hid (signR_i64 (txR C.L j))
   generalize (signR (txR C.L j)).1 = sk at *
   generalize (signR (txR C.L j)).2 = so at *
   by_cases hk : sk = 2
   ·subst hk
    have ht : tIn C.L [⟨#[42]⟩, ⟨#[47]⟩, ⟨#[37]⟩, ⟨#[38]⟩] j = true := by rw [HIN.out]; simp
    have hso := HTX.out rfl
    have hlti := tIn_lt ht
    have hR := HR.out
    rw [hso] at hR
    replace HR := Lib.hid (mbr_yes (j := j + 1) hR ht)
    clear hR ht hso HIN HTX
    have q1 := HS.out.blk.cell 1 (.int .i64 (j : Int)) rfl
    have f1 := HS.out.blk.free 1
    have hw1 : IntKind.i64.wrap ((j : Int) + 1) = (j : Int) + 1 := IntWalk.i64_in _ (by omega)
    go_upto_region 8 with (fail)
    clear q1 f1 hw1
    have hm := HS.out.move (j + 1) (by omega)
    have h' := hm.1
    have m' := hm.2
    clear hm
    simp only [Int.natCast_add, Int.cast_ofNat_Int] at h' m'
    generalize w102.setCell ⟨C.p, 1, none⟩ (.int .i64 ((j : Int) + 1)) = w103 at *
    have hsz103 := m'.size
    replace KR := Lib.hid (m'.blk KR.out (by omega))
    replace BT := Lib.hid (m'.blk BT.out (by omega))
    replace REPn := Lib.hid (REPn.out.mvG m' (fun b h => by have h1 := h.1; have h2 := h.2; omega))
    replace HS := Lib.hid h'
    replace HM := Lib.hid (HM.out.trans_ m')
    clear m'
    clear h'
    go_wp2_with fail
    have hpy := HS.out.lt
    refine (HF.out _ _ false HS.out (mbr_wet HR.out HW.out)).mono ?_
    rintro e w104 ⟨⟨yk, yt, yn, yl⟩, Ay, cy, j51, b51, rfl, hrep, h', m', hf⟩
    replace HR := Lib.hid (mbr_seq HR.out HW.out hf)
    simp only [Nd.k, Nd.t, Nd.num, Nd.kids] at hrep ⊢
    have REPy := Lib.hid (hrep.toI (E := w104.heap.size) rfl)
    clear hf hrep
    have hsz104 := m'.size
    replace KR := Lib.hid (m'.blk KR.out (by omega))
    replace BT := Lib.hid (m'.blk BT.out (by omega))
    replace REPn := Lib.hid (REPn.out.mvG m' (fun b h => by have h1 := h.1; have h2 := h.2; omega))
    replace HS := Lib.hid h'
    replace HM := Lib.hid (HM.out.trans_ m')
    clear m'
    clear h'
    go_upto_region 9 with (fail)
    have KX := Blk.new_ w104 24 #[.int .i64 yk, .string yt, .int .i64 yn, .slice Ay yl.length cy]
    have hb : Below w104.heap.size w104 (w104.alloc (.cells #[.int .i64 yk, .string yt, .int .i64 yn, .slice Ay yl.length cy] 24)) := by (repeat (first | with_reducible assumption | with_reducible exact Below.refl _ _ | (refine Below.setCell ?_ (by first | omega | (simp; done) | (simp; omega)) _) | (refine Below.drewN_ ?_ _) | (refine Below.drew ?_) | (refine Below.alloc ?_ (by first | omega | (simp; done) | (simp; omega)) _)))
    have hbzb8 : w104.heap.size < (w104.alloc (.cells #[.int .i64 yk, .string yt, .int .i64 yn, .slice Ay yl.length cy] 24)).heap.size := KX.lt
    have hsz105 := hb.size
    replace KR := Lib.hid (KR.out.below hb)
    replace BT := Lib.hid (BT.out.below hb)
    replace REPn := Lib.hid (REPn.out.belowG hb)
    replace REPy := Lib.hid (REPy.out.belI hb)
    replace HS := Lib.hid (HS.out.below hb)
    replace HM := Lib.hid (HM.out.below_ hb)
    clear hb
    have B8 := Lib.hid KX
    clear KX
    have HBSb8 : Hid ((w104.alloc (.cells #[.int .i64 yk, .string yt, .int .i64 yn, .slice Ay yl.length cy] 24)).heap.size = w104.heap.size + 1) := by show _ = _; simp
    generalize (w104.alloc (.cells #[.int .i64 yk, .string yt, .int .i64 yn, .slice Ay yl.length cy] 24)) = w105 at *
    obtain ⟨b8, hbwb8⟩ : ∃ x, x = w104.heap.size := ⟨_, rfl⟩
    rw [← hbwb8] at B8
    have hbvb8 : w104.heap.size ≤ b8 := by omega
    have hbxb8 : b8 < w105.heap.size := by omega
    rw [← hbwb8]
    clear hbwb8
    have bBT0 := BT.out.cell 0 (.int .i64 nk) rfl
    have bBT1 := BT.out.cell 1 (.string nt) rfl
    have bBT2 := BT.out.cell 2 (.int .i64 nn) rfl
    have bBT3 := BT.out.cell 3 (.slice An nl.length cn) rfl
    have bB80 := B8.out.cell 0 (.int .i64 yk) rfl
    have bB81 := B8.out.cell 1 (.string yt) rfl
    have bB82 := B8.out.cell 2 (.int .i64 yn) rfl
    have bB83 := B8.out.cell 3 (.slice Ay yl.length cy) rfl
    have f0 := BT.out.free 0
    have g0 := BT.out.cell 0 (.int .i64 nk) rfl
    have f1 := BT.out.free 1
    have g1 := BT.out.cell 1 (.string nt) rfl
    have f2 := BT.out.free 2
    have g2 := BT.out.cell 2 (.int .i64 nn) rfl
    have f3 := BT.out.free 3
    have g3 := BT.out.cell 3 (.slice An nl.length cn) rfl
    have hneby_ := Nat.ne_of_lt (BT.out.lt)
    have hltby_ := BT.out.lt
    go_upto_region 10 with (fail)
    clear f0 f1 f2 f3 g0 g1 g2 g3 hneby_ hltby_
    have m' := put4_mv w105 bt (.int .i64 32) (.string ⟨#[]⟩) (.int .i64 so) (.slice (some ⟨w105.heap.size, 0, none⟩) 2 2)
    have hbt := blk_put4 BT.out (.int .i64 32) (.string ⟨#[]⟩) (.int .i64 so) (.slice (some ⟨w105.heap.size, 0, none⟩) 2 2)
    have hsq : (((((w105).setCell ⟨bt, 0, none⟩ (.int .i64 32)).setCell ⟨bt, 1, none⟩ (.string ⟨#[]⟩)).setCell ⟨bt, 2, none⟩ (.int .i64 so)).setCell ⟨bt, 3, none⟩ (.slice (some ⟨w105.heap.size, 0, none⟩) 2 2)).heap.size = w105.heap.size := by simp [World.setCell]
    have hsz106 := m'.size
    replace HS := Lib.hid (RSt.put H0.out HS.out HM.out (by omega) m')
    replace HM := Lib.hid (HM.out.put (by omega) m')
    replace KR := Lib.hid (m'.blk KR.out (by omega))
    replace BT := Lib.hid hbt
    replace REPn := Lib.hid (REPn.out.mvG m' (fun b h => by have h1 := h.1; have h2 := h.2; omega))
    replace REPy := Lib.hid (REPy.out.mvI m' (by omega))
    replace B8 := Lib.hid (m'.blk B8.out (by omega))
    clear m' hbt
    generalize (((((w105).setCell ⟨bt, 0, none⟩ (.int .i64 32)).setCell ⟨bt, 1, none⟩ (.string ⟨#[]⟩)).setCell ⟨bt, 2, none⟩ (.int .i64 so)).setCell ⟨bt, 3, none⟩ (.slice (some ⟨w105.heap.size, 0, none⟩) 2 2)) = w106 at *
    have KX := Blk.new_ w106 24 #[.int .i64 nk, .string nt, .int .i64 nn, .slice An nl.length cn, .int .i64 yk, .string yt, .int .i64 yn, .slice Ay yl.length cy]
    rw [hsq] at KX
    have hb : Below w106.heap.size w106 (w106.alloc (.cells #[.int .i64 nk, .string nt, .int .i64 nn, .slice An nl.length cn, .int .i64 yk, .string yt, .int .i64 yn, .slice Ay yl.length cy] 24)) := by (repeat (first | with_reducible assumption | with_reducible exact Below.refl _ _ | (refine Below.setCell ?_ (by first | omega | (simp; done) | (simp; omega)) _) | (refine Below.drewN_ ?_ _) | (refine Below.drew ?_) | (refine Below.alloc ?_ (by first | omega | (simp; done) | (simp; omega)) _)))
    have hsz107 := hb.size
    replace KR := Lib.hid (KR.out.below hb)
    replace BT := Lib.hid (BT.out.below hb)
    replace REPn := Lib.hid (REPn.out.belowG hb)
    replace REPy := Lib.hid (REPy.out.belI hb)
    replace B8 := Lib.hid (B8.out.below hb)
    replace HS := Lib.hid (HS.out.below hb)
    replace HM := Lib.hid (HM.out.below_ hb)
    clear hb
    have BY := Lib.hid KX
    clear KX
    generalize (w106.alloc (.cells #[.int .i64 nk, .string nt, .int .i64 nn, .slice An nl.length cn, .int .i64 yk, .string yt, .int .i64 yn, .slice Ay yl.length cy] 24)) = w107 at *
    obtain ⟨by_, hbwby_⟩ : ∃ x, x = w105.heap.size := ⟨_, rfl⟩
    rw [← hbwby_] at BY BT
    have hbvby_ : w105.heap.size ≤ by_ := by omega
    have hbxby_ : by_ < w107.heap.size := BY.out.lt
    rw [← hbwby_]
    clear hbwby_ hsq
    have REPm := Lib.hid (two_kids1 (V := fun b => w0.heap.size ≤ b ∧ b ≠ bt) (k := 32) (num := so) (x := (Nd.mk nk nt nn nl)) (y := (Nd.mk yk yt yn yl)) BY.out REPn.out (REPy.out.ofI fun b h1 h2 => ⟨by omega, by omega⟩) ⟨by omega, by omega⟩ HI64.out)
    clear REPn REPy BY B8
    go_wp2_with fail
    go_roundg g
    case measure => omega
    case rel => exact ⟨32, ⟨#[]⟩, so, [(Nd.mk nk nt nn nl), (Nd.mk yk yt yn yl)], some ⟨by_, 0, none⟩, 2, j51, b51, Lib.hid ⟨BT.out, REPm.out, HS.out, HM.out, KR.out, by omega, HR.out⟩⟩
   ·have ht : tIn C.L [⟨#[42]⟩, ⟨#[47]⟩, ⟨#[37]⟩, ⟨#[38]⟩] j = false := by rw [HIN.out]; simpa using hk
    have ht2 : ¬ tIn C.L [⟨#[42]⟩, ⟨#[47]⟩, ⟨#[37]⟩, ⟨#[38]⟩] j = true := by rw [ht]; simp
    replace HR := Lib.hid (mbr_no HR.out (fun _ => ht2))
    clear ht ht2 HIN HTX
    have hk2 : (sk == 2) = false := by simpa using hk
    have bBT0 := BT.out.cell 0 (.int .i64 nk) rfl
    have bBT1 := BT.out.cell 1 (.string nt) rfl
    have bBT2 := BT.out.cell 2 (.int .i64 nn) rfl
    have bBT3 := BT.out.cell 3 (.slice An nl.length cn) rfl
    have f0 := KR.out.free 0
    have f1 := KR.out.free 1
    have f2 := KR.out.free 2
    have f3 := KR.out.free 3
    have g0 := KR.out.cell 0 (.int .i64 0) rfl
    have g1 := KR.out.cell 1 (.string ⟨#[]⟩) rfl
    have g2 := KR.out.cell 2 (.int .i64 0) rfl
    have g3 := KR.out.cell 3 (.slice none 0 0) rfl
    go_wp2_with fail
    have hf := fin_nodeR H0.out (n := (Nd.mk nk nt nn nl)) (A := An) (c := cn) (r0 := w.heap.size) (C := C) (w := w) KR.out HS.out HM.out (Nat.le_refl _) REPn.out (fun b h => by have h1 := h.1; have h2 := h.2; exact ⟨by omega, by omega⟩) (mbr_fin HR.out)
    simp only [Nd.k, Nd.t, Nd.num, Nd.kids, List.length_append, List.length_cons, List.length_nil, Nat.zero_add] at hf
    exact bodyPost_ret (v := .agg _) (results_cell4 (fn := Tryz.f98) rfl hf.1 rfl) rfl (by exact hf.2)
theorem bound1_of (C : RC) {m : Nat → Res Nd} (hf : RBnd C (1 + 1) m) : RBnd C 1 (fun i => (m i).bind fun x j => chainM C.L m [⟨#[43]⟩, ⟨#[45]⟩, ⟨#[124]⟩, ⟨#[94]⟩] (C.L.length + 1) x j) := by
 intro w i b h hwet
 have HF := Lib.hid hf
 clear hf
 obtain ⟨R, HR⟩ : ∃ R, Hid (mbr ((fun i => (m i).bind fun x j => chainM C.L m [⟨#[43]⟩, ⟨#[45]⟩, ⟨#[124]⟩, ⟨#[94]⟩] (C.L.length + 1) x j) i) i b = R) := ⟨_, rfl⟩
 rw [HR.out] at hwet ⊢
 have HW := Lib.hid hwet
 have HOK := Lib.hid h.ok
 clear hwet
 have hlw := h.lt
 have hlen := h.len
 have hr0 : w.heap.size ≠ C.p := by omega
 have hb0 : Below w.heap.size w (w.alloc (.cells #[.int .i64 0, .string ⟨#[]⟩, .int .i64 0, .slice none 0 0] 24)) := by (repeat (first | with_reducible assumption | with_reducible exact Below.refl _ _ | (refine Below.setCell ?_ (by first | omega | (simp; done) | (simp; omega)) _) | (refine Below.drewN_ ?_ _) | (refine Below.drew ?_) | (refine Below.alloc ?_ (by first | omega | (simp; done) | (simp; omega)) _)))
 have H0 := Lib.hid h
 have HS := Lib.hid (h.below hb0)
 have HM : Hid (Mv C.p w (w.alloc (.cells #[.int .i64 0, .string ⟨#[]⟩, .int .i64 0, .slice none 0 0] 24))) := mv_below hb0
 have KR := Lib.hid (Blk.new_ w 24 #[.int .i64 0, .string ⟨#[]⟩, .int .i64 0, .slice none 0 0])
 have hsz0 : w.heap.size < (w.alloc (.cells #[.int .i64 0, .string ⟨#[]⟩, .int .i64 0, .slice none 0 0] 24)).heap.size := KR.out.lt
 clear h hb0
 go_enter Tryz.func98, Tryz.ntmps98
 go_wp2_with fail
 generalize (w.alloc (.cells #[.int .i64 0, .string ⟨#[]⟩, .int .i64 0, .slice none 0 0] 24)) = w0 at *
 go_wp2_with fail
 have hpx := HS.out.lt
 refine (HF.out _ _ b HS.out (mbr_wet HR.out HW.out)).mono ?_
 rintro e w1 ⟨⟨xk, xt, xn, xl⟩, Ax, cx, j1, b1, rfl, hrep, h', m', hf⟩
 replace HR := Lib.hid (mbr_seq HR.out HW.out hf)
 simp only [Nd.k, Nd.t, Nd.num, Nd.kids] at hrep ⊢
 have REPx := Lib.hid (hrep.toI (E := w1.heap.size) rfl)
 clear hf hrep
 have hsz1 := m'.size
 replace KR := Lib.hid (m'.blk KR.out (by omega))
 replace HS := Lib.hid h'
 replace HM := Lib.hid (HM.out.trans_ m')
 clear m'
 clear h'
 go_wp2_with fail
 have KX := Blk.new_ w1 24 #[.int .i64 xk, .string xt, .int .i64 xn, .slice Ax xl.length cx]
 have hb : Below w1.heap.size w1 (w1.alloc (.cells #[.int .i64 xk, .string xt, .int .i64 xn, .slice Ax xl.length cx] 24)) := by (repeat (first | with_reducible assumption | with_reducible exact Below.refl _ _ | (refine Below.setCell ?_ (by first | omega | (simp; done) | (simp; omega)) _) | (refine Below.drewN_ ?_ _) | (refine Below.drew ?_) | (refine Below.alloc ?_ (by first | omega | (simp; done) | (simp; omega)) _)))
 have hbzbt : w1.heap.size < (w1.alloc (.cells #[.int .i64 xk, .string xt, .int .i64 xn, .slice Ax xl.length cx] 24)).heap.size := KX.lt
 have hsz2 := hb.size
 replace KR := Lib.hid (KR.out.below hb)
 replace REPx := Lib.hid (REPx.out.belI hb)
 replace HS := Lib.hid (HS.out.below hb)
 replace HM := Lib.hid (HM.out.below_ hb)
 clear hb
 have BT := Lib.hid KX
 clear KX
 have HBSbt : Hid ((w1.alloc (.cells #[.int .i64 xk, .string xt, .int .i64 xn, .slice Ax xl.length cx] 24)).heap.size = w1.heap.size + 1) := by show _ = _; simp
 generalize (w1.alloc (.cells #[.int .i64 xk, .string xt, .int .i64 xn, .slice Ax xl.length cx] 24)) = w2 at *
 obtain ⟨bt, hbwbt⟩ : ∃ x, x = w1.heap.size := ⟨_, rfl⟩
 rw [← hbwbt] at BT
 have hbvbt : w1.heap.size ≤ bt := by omega
 have hbxbt : bt < w2.heap.size := by omega
 rw [← hbwbt]
 clear hbwbt
 have hrx : RepV (fun b => w0.heap.size ≤ b ∧ b ≠ bt) w2 (Nd.mk xk xt xn xl) [.int .i64 xk, .string xt, .int .i64 xn, .slice Ax xl.length cx] := REPx.out.ofI fun b h1 h2 => ⟨h1, by omega⟩
 have hBb : w0.heap.size ≤ bt := by omega
 go_loopg [] (C.L.length + 1) (fun gk wr => BdRel C m [⟨#[43]⟩, ⟨#[45]⟩, ⟨#[124]⟩, ⟨#[94]⟩] R w w0.heap.size bt gk wr)
 case atStart => exact ⟨xk, xt, xn, xl, Ax, cx, j1, b1, Lib.hid ⟨BT.out, hrx, HS.out, HM.out, KR.out, by omega, HR.out⟩⟩
 case round =>
  obtain ⟨nk, nt, nn, nl, An, cn, j, b, HX⟩ := hrel
  clear HS HM HR KR BT hrx REPx
  have BT := Lib.hid HX.out.1
  have REPn := Lib.hid HX.out.2.1
  have HS := Lib.hid HX.out.2.2.1
  have HM := Lib.hid HX.out.2.2.2.1
  have KR := Lib.hid HX.out.2.2.2.2.1
  have hszB := HX.out.2.2.2.2.2.1
  have hR := HX.out.2.2.2.2.2.2
  clear HX
  have hszr := HM.out.size
  have hbtl := BT.out.lt
  have hcb := HS.out.blk.cell 2 (.bool b) rfl
  cases b with
  | true =>
   have HR := Lib.hid hR
   clear hR
   have bBT0 := BT.out.cell 0 (.int .i64 nk) rfl
   have bBT1 := BT.out.cell 1 (.string nt) rfl
   have bBT2 := BT.out.cell 2 (.int .i64 nn) rfl
   have bBT3 := BT.out.cell 3 (.slice An nl.length cn) rfl
   have f0 := KR.out.free 0
   have f1 := KR.out.free 1
   have f2 := KR.out.free 2
   have f3 := KR.out.free 3
   have g0 := KR.out.cell 0 (.int .i64 0) rfl
   have g1 := KR.out.cell 1 (.string ⟨#[]⟩) rfl
   have g2 := KR.out.cell 2 (.int .i64 0) rfl
   have g3 := KR.out.cell 3 (.slice none 0 0) rfl
   go_wp2_with fail
   have hf := fin_nodeR H0.out (n := (Nd.mk nk nt nn nl)) (A := An) (c := cn) (r0 := w.heap.size) (C := C) (w := w) KR.out HS.out HM.out (Nat.le_refl _) REPn.out (fun b h => by have h1 := h.1; have h2 := h.2; exact ⟨by omega, by omega⟩) (mbr_true HR.out)
   simp only [Nd.k, Nd.t, Nd.num, Nd.kids, List.length_append, List.length_cons, List.length_nil, Nat.zero_add] at hf
   exact bodyPost_ret (v := .agg _) (results_cell4 (fn := Tryz.f98) rfl hf.1 rfl) rfl (by exact hf.2)
  | false =>
   cases gk with
   | zero => exact absurd (show Res.dry = R from hR) (fun e => HW.out e.symm)
   | succ g =>
   rw [chainM] at hR
   have HR := Lib.hid hR
   clear hR
   go_wp2_with fail
   refine (txtR_any C _ _ 0 false HS.out (by omega)).mono ?_
   rintro e w101 ⟨rfl, hb⟩
   rw [Nat.add_zero]
   have hsz101 := hb.size
   replace KR := Lib.hid (KR.out.below hb)
   replace BT := Lib.hid (BT.out.below hb)
   replace REPn := Lib.hid (REPn.out.belowG hb)
   replace HS := Lib.hid (HS.out.below hb)
   replace HM := Lib.hid (HM.out.below_ hb)
   clear hb
   go_wp2_with fail
   refine (signB_any (txR C.L j) _).mono ?_
   rintro e w102 ⟨rfl, hb⟩
   have hsz102 := hb.size
   replace KR := Lib.hid (KR.out.below hb)
   replace BT := Lib.hid (BT.out.below hb)
   replace REPn := Lib.hid (REPn.out.belowG hb)
   replace HS := Lib.hid (HS.out.below hb)
   replace HM := Lib.hid (HM.out.below_ hb)
   clear hb
   have HIN := Lib.hid (tIn_set1 HOK.out j)
   have HTX := Lib.hid (tIn_text (i := j) (l := 1) HOK.out (by omega))
   have HI64 := Lib.hid (signR_i64 (txR C.L j))
   generalize (signR (txR C.L j)).1 = sk at *
   generalize (signR (txR C.L j)).2 = so at *
   by_cases hk : sk = 1
   ·subst hk
    have ht : tIn C.L [⟨#[43]⟩, ⟨#[45]⟩, ⟨#[124]⟩, ⟨#[94]⟩] j = true := by rw [HIN.out]; simp
    have hso := HTX.out rfl
    have hlti := tIn_lt ht
    have hR := HR.out
    rw [hso] at hR
    replace HR := Lib.hid (mbr_yes (j := j + 1) hR ht)
    clear hR ht hso HIN HTX
    have q1 := HS.out.blk.cell 1 (.int .i64 (j : Int)) rfl
    have f1 := HS.out.blk.free 1
    have hw1 : IntKind.i64.wrap ((j : Int) + 1) = (j : Int) + 1 := IntWalk.i64_in _ (by omega)
    go_upto_region 8 with (fail)
    clear q1 f1 hw1
    have hm := HS.out.move (j + 1) (by omega)
    have h' := hm.1
    have m' := hm.2
    clear hm
    simp only [Int.natCast_add, Int.cast_ofNat_Int] at h' m'
    generalize w102.setCell ⟨C.p, 1, none⟩ (.int .i64 ((j : Int) + 1)) = w103 at *
    have hsz103 := m'.size
    replace KR := Lib.hid (m'.blk KR.out (by omega))
    replace BT := Lib.hid (m'.blk BT.out (by omega))
    replace REPn := Lib.hid (REPn.out.mvG m' (fun b h => by have h1 := h.1; have h2 := h.2; omega))
    replace HS := Lib.hid h'
    replace HM := Lib.hid (HM.out.trans_ m')
    clear m'
    clear h'
    go_wp2_with fail
    have hpy := HS.out.lt
    refine (HF.out _ _ false HS.out (mbr_wet HR.out HW.out)).mono ?_
    rintro e w104 ⟨⟨yk, yt, yn, yl⟩, Ay, cy, j51, b51, rfl, hrep, h', m', hf⟩
    replace HR := Lib.hid (mbr_seq HR.out HW.out hf)
    simp only [Nd.k, Nd.t, Nd.num, Nd.kids] at hrep ⊢
    have REPy := Lib.hid (hrep.toI (E := w104.heap.size) rfl)
    clear hf hrep
    have hsz104 := m'.size
    replace KR := Lib.hid (m'.blk KR.out (by omega))
    replace BT := Lib.hid (m'.blk BT.out (by omega))
    replace REPn := Lib.hid (REPn.out.mvG m' (fun b h => by have h1 := h.1; have h2 := h.2; omega))
    replace HS := Lib.hid h'
    replace HM := Lib.hid (HM.out.trans_ m')
    clear m'
    clear h'
    go_upto_region 9 with (fail)
    have KX := Blk.new_ w104 24 #[.int .i64 yk, .string yt, .int .i64 yn, .slice Ay yl.length cy]
    have hb : Below w104.heap.size w104 (w104.alloc (.cells #[.int .i64 yk, .string yt, .int .i64 yn, .slice Ay yl.length cy] 24)) := by (repeat (first | with_reducible assumption | with_reducible exact Below.refl _ _ | (refine Below.setCell ?_ (by first | omega | (simp; done) | (simp; omega)) _) | (refine Below.drewN_ ?_ _) | (refine Below.drew ?_) | (refine Below.alloc ?_ (by first | omega | (simp; done) | (simp; omega)) _)))
    have hbzb8 : w104.heap.size < (w104.alloc (.cells #[.int .i64 yk, .string yt, .int .i64 yn, .slice Ay yl.length cy] 24)).heap.size := KX.lt
    have hsz105 := hb.size
    replace KR := Lib.hid (KR.out.below hb)
    replace BT := Lib.hid (BT.out.below hb)
    replace REPn := Lib.hid (REPn.out.belowG hb)
    replace REPy := Lib.hid (REPy.out.belI hb)
    replace HS := Lib.hid (HS.out.below hb)
    replace HM := Lib.hid (HM.out.below_ hb)
    clear hb
    have B8 := Lib.hid KX
    clear KX
    have HBSb8 : Hid ((w104.alloc (.cells #[.int .i64 yk, .string yt, .int .i64 yn, .slice Ay yl.length cy] 24)).heap.size = w104.heap.size + 1) := by show _ = _; simp
    generalize (w104.alloc (.cells #[.int .i64 yk, .string yt, .int .i64 yn, .slice Ay yl.length cy] 24)) = w105 at *
    obtain ⟨b8, hbwb8⟩ : ∃ x, x = w104.heap.size := ⟨_, rfl⟩
    rw [← hbwb8] at B8
    have hbvb8 : w104.heap.size ≤ b8 := by omega
    have hbxb8 : b8 < w105.heap.size := by omega
    rw [← hbwb8]
    clear hbwb8
    have bBT0 := BT.out.cell 0 (.int .i64 nk) rfl
    have bBT1 := BT.out.cell 1 (.string nt) rfl
    have bBT2 := BT.out.cell 2 (.int .i64 nn) rfl
    have bBT3 := BT.out.cell 3 (.slice An nl.length cn) rfl
    have bB80 := B8.out.cell 0 (.int .i64 yk) rfl
    have bB81 := B8.out.cell 1 (.string yt) rfl
    have bB82 := B8.out.cell 2 (.int .i64 yn) rfl
    have bB83 := B8.out.cell 3 (.slice Ay yl.length cy) rfl
    have f0 := BT.out.free 0
    have g0 := BT.out.cell 0 (.int .i64 nk) rfl
    have f1 := BT.out.free 1
    have g1 := BT.out.cell 1 (.string nt) rfl
    have f2 := BT.out.free 2
    have g2 := BT.out.cell 2 (.int .i64 nn) rfl
    have f3 := BT.out.free 3
    have g3 := BT.out.cell 3 (.slice An nl.length cn) rfl
    have hneby_ := Nat.ne_of_lt (BT.out.lt)
    have hltby_ := BT.out.lt
    go_upto_region 10 with (fail)
    clear f0 f1 f2 f3 g0 g1 g2 g3 hneby_ hltby_
    have m' := put4_mv w105 bt (.int .i64 32) (.string ⟨#[]⟩) (.int .i64 so) (.slice (some ⟨w105.heap.size, 0, none⟩) 2 2)
    have hbt := blk_put4 BT.out (.int .i64 32) (.string ⟨#[]⟩) (.int .i64 so) (.slice (some ⟨w105.heap.size, 0, none⟩) 2 2)
    have hsq : (((((w105).setCell ⟨bt, 0, none⟩ (.int .i64 32)).setCell ⟨bt, 1, none⟩ (.string ⟨#[]⟩)).setCell ⟨bt, 2, none⟩ (.int .i64 so)).setCell ⟨bt, 3, none⟩ (.slice (some ⟨w105.heap.size, 0, none⟩) 2 2)).heap.size = w105.heap.size := by simp [World.setCell]
    have hsz106 := m'.size
    replace HS := Lib.hid (RSt.put H0.out HS.out HM.out (by omega) m')
    replace HM := Lib.hid (HM.out.put (by omega) m')
    replace KR := Lib.hid (m'.blk KR.out (by omega))
    replace BT := Lib.hid hbt
    replace REPn := Lib.hid (REPn.out.mvG m' (fun b h => by have h1 := h.1; have h2 := h.2; omega))
    replace REPy := Lib.hid (REPy.out.mvI m' (by omega))
    replace B8 := Lib.hid (m'.blk B8.out (by omega))
    clear m' hbt
    generalize (((((w105).setCell ⟨bt, 0, none⟩ (.int .i64 32)).setCell ⟨bt, 1, none⟩ (.string ⟨#[]⟩)).setCell ⟨bt, 2, none⟩ (.int .i64 so)).setCell ⟨bt, 3, none⟩ (.slice (some ⟨w105.heap.size, 0, none⟩) 2 2)) = w106 at *
    have KX := Blk.new_ w106 24 #[.int .i64 nk, .string nt, .int .i64 nn, .slice An nl.length cn, .int .i64 yk, .string yt, .int .i64 yn, .slice Ay yl.length cy]
    rw [hsq] at KX
    have hb : Below w106.heap.size w106 (w106.alloc (.cells #[.int .i64 nk, .string nt, .int .i64 nn, .slice An nl.length cn, .int .i64 yk, .string yt, .int .i64 yn, .slice Ay yl.length cy] 24)) := by (repeat (first | with_reducible assumption | with_reducible exact Below.refl _ _ | (refine Below.setCell ?_ (by first | omega | (simp; done) | (simp; omega)) _) | (refine Below.drewN_ ?_ _) | (refine Below.drew ?_) | (refine Below.alloc ?_ (by first | omega | (simp; done) | (simp; omega)) _)))
    have hsz107 := hb.size
    replace KR := Lib.hid (KR.out.below hb)
    replace BT := Lib.hid (BT.out.below hb)
    replace REPn := Lib.hid (REPn.out.belowG hb)
    replace REPy := Lib.hid (REPy.out.belI hb)
    replace B8 := Lib.hid (B8.out.below hb)
    replace HS := Lib.hid (HS.out.below hb)
    replace HM := Lib.hid (HM.out.below_ hb)
    clear hb
    have BY := Lib.hid KX
    clear KX
    generalize (w106.alloc (.cells #[.int .i64 nk, .string nt, .int .i64 nn, .slice An nl.length cn, .int .i64 yk, .string yt, .int .i64 yn, .slice Ay yl.length cy] 24)) = w107 at *
    obtain ⟨by_, hbwby_⟩ : ∃ x, x = w105.heap.size := ⟨_, rfl⟩
    rw [← hbwby_] at BY BT
    have hbvby_ : w105.heap.size ≤ by_ := by omega
    have hbxby_ : by_ < w107.heap.size := BY.out.lt
    rw [← hbwby_]
    clear hbwby_ hsq
    have REPm := Lib.hid (two_kids1 (V := fun b => w0.heap.size ≤ b ∧ b ≠ bt) (k := 32) (num := so) (x := (Nd.mk nk nt nn nl)) (y := (Nd.mk yk yt yn yl)) BY.out REPn.out (REPy.out.ofI fun b h1 h2 => ⟨by omega, by omega⟩) ⟨by omega, by omega⟩ HI64.out)
    clear REPn REPy BY B8
    go_wp2_with fail
    go_roundg g
    case measure => omega
    case rel => exact ⟨32, ⟨#[]⟩, so, [(Nd.mk nk nt nn nl), (Nd.mk yk yt yn yl)], some ⟨by_, 0, none⟩, 2, j51, b51, Lib.hid ⟨BT.out, REPm.out, HS.out, HM.out, KR.out, by omega, HR.out⟩⟩
   ·have ht : tIn C.L [⟨#[43]⟩, ⟨#[45]⟩, ⟨#[124]⟩, ⟨#[94]⟩] j = false := by rw [HIN.out]; simpa using hk
    have ht2 : ¬ tIn C.L [⟨#[43]⟩, ⟨#[45]⟩, ⟨#[124]⟩, ⟨#[94]⟩] j = true := by rw [ht]; simp
    replace HR := Lib.hid (mbr_no HR.out (fun _ => ht2))
    clear ht ht2 HIN HTX
    have hk2 : (sk == 1) = false := by simpa using hk
    have bBT0 := BT.out.cell 0 (.int .i64 nk) rfl
    have bBT1 := BT.out.cell 1 (.string nt) rfl
    have bBT2 := BT.out.cell 2 (.int .i64 nn) rfl
    have bBT3 := BT.out.cell 3 (.slice An nl.length cn) rfl
    have f0 := KR.out.free 0
    have f1 := KR.out.free 1
    have f2 := KR.out.free 2
    have f3 := KR.out.free 3
    have g0 := KR.out.cell 0 (.int .i64 0) rfl
    have g1 := KR.out.cell 1 (.string ⟨#[]⟩) rfl
    have g2 := KR.out.cell 2 (.int .i64 0) rfl
    have g3 := KR.out.cell 3 (.slice none 0 0) rfl
    go_wp2_with fail
    have hf := fin_nodeR H0.out (n := (Nd.mk nk nt nn nl)) (A := An) (c := cn) (r0 := w.heap.size) (C := C) (w := w) KR.out HS.out HM.out (Nat.le_refl _) REPn.out (fun b h => by have h1 := h.1; have h2 := h.2; exact ⟨by omega, by omega⟩) (mbr_fin HR.out)
    simp only [Nd.k, Nd.t, Nd.num, Nd.kids, List.length_append, List.length_cons, List.length_nil, Nat.zero_add] at hf
    exact bodyPost_ret (v := .agg _) (results_cell4 (fn := Tryz.f98) rfl hf.1 rfl) rfl (by exact hf.2)
def BdRel0 (C : RC) (m : Nat → Res Nd) (R : Res Nd) (w : World) (B bt : Nat) (gk : Nat) (wr : World) : Prop :=
 ∃ (nk : Int) (nt : ByteArray) (nn : Int) (nl : List Nd) (An : Option Addr) (cn i : Nat) (b : Bool), Hid (Blk wr bt 24 #[.int .i64 nk, .string nt, .int .i64 nn, .slice An nl.length cn] ∧ RepV (fun b => B ≤ b ∧ b ≠ bt) wr (.mk nk nt nn nl) [.int .i64 nk, .string nt, .int .i64 nn, .slice An nl.length cn] ∧ RSt C wr i b ∧ Mv C.p w wr ∧ Blk wr w.heap.size 24 #[.int .i64 0, .string ⟨#[]⟩, .int .i64 0, .slice none 0 0] ∧ B ≤ wr.heap.size ∧ mbr (if tIn C.L [⟨#[61, 61]⟩, ⟨#[60]⟩] i = true then (m (i + 1)).bind fun y k => .ok (.mk 32 ⟨#[]⟩ (opOf (tTx C.L i)) [.mk nk nt nn nl, y]) k else .ok (.mk nk nt nn nl) i) i b = R)
theorem bound0_of (C : RC) {m : Nat → Res Nd} (hf : RBnd C (0 + 1) m) : RBnd C 0 (fun i => (m i).bind fun x j => if tIn C.L [⟨#[61, 61]⟩, ⟨#[60]⟩] j = true then (m (j + 1)).bind fun y k => .ok (.mk 32 ⟨#[]⟩ (opOf (tTx C.L j)) [x, y]) k else .ok x j) := by
 intro w i b h hwet
 have HF := Lib.hid hf
 clear hf
 obtain ⟨R, HR⟩ : ∃ R, Hid (mbr ((fun i => (m i).bind fun x j => if tIn C.L [⟨#[61, 61]⟩, ⟨#[60]⟩] j = true then (m (j + 1)).bind fun y k => .ok (.mk 32 ⟨#[]⟩ (opOf (tTx C.L j)) [x, y]) k else .ok x j) i) i b = R) := ⟨_, rfl⟩
 rw [HR.out] at hwet ⊢
 have HW := Lib.hid hwet
 have HOK := Lib.hid h.ok
 clear hwet
 have hlw := h.lt
 have hlen := h.len
 have hr0 : w.heap.size ≠ C.p := by omega
 have hb0 : Below w.heap.size w (w.alloc (.cells #[.int .i64 0, .string ⟨#[]⟩, .int .i64 0, .slice none 0 0] 24)) := by (repeat (first | with_reducible assumption | with_reducible exact Below.refl _ _ | (refine Below.setCell ?_ (by first | omega | (simp; done) | (simp; omega)) _) | (refine Below.drewN_ ?_ _) | (refine Below.drew ?_) | (refine Below.alloc ?_ (by first | omega | (simp; done) | (simp; omega)) _)))
 have H0 := Lib.hid h
 have HS := Lib.hid (h.below hb0)
 have HM : Hid (Mv C.p w (w.alloc (.cells #[.int .i64 0, .string ⟨#[]⟩, .int .i64 0, .slice none 0 0] 24))) := mv_below hb0
 have KR := Lib.hid (Blk.new_ w 24 #[.int .i64 0, .string ⟨#[]⟩, .int .i64 0, .slice none 0 0])
 have hsz0 : w.heap.size < (w.alloc (.cells #[.int .i64 0, .string ⟨#[]⟩, .int .i64 0, .slice none 0 0] 24)).heap.size := KR.out.lt
 clear h hb0
 go_enter Tryz.func98, Tryz.ntmps98
 go_wp2_with fail
 generalize (w.alloc (.cells #[.int .i64 0, .string ⟨#[]⟩, .int .i64 0, .slice none 0 0] 24)) = w0 at *
 go_wp2_with fail
 have hpx := HS.out.lt
 refine (HF.out _ _ b HS.out (mbr_wet HR.out HW.out)).mono ?_
 rintro e w1 ⟨⟨xk, xt, xn, xl⟩, Ax, cx, j1, b1, rfl, hrep, h', m', hf⟩
 replace HR := Lib.hid (mbr_seq HR.out HW.out hf)
 simp only [Nd.k, Nd.t, Nd.num, Nd.kids] at hrep ⊢
 have REPx := Lib.hid (hrep.toI (E := w1.heap.size) rfl)
 clear hf hrep
 have hsz1 := m'.size
 replace KR := Lib.hid (m'.blk KR.out (by omega))
 replace HS := Lib.hid h'
 replace HM := Lib.hid (HM.out.trans_ m')
 clear m'
 clear h'
 go_wp2_with fail
 have KX := Blk.new_ w1 24 #[.int .i64 xk, .string xt, .int .i64 xn, .slice Ax xl.length cx]
 have hb : Below w1.heap.size w1 (w1.alloc (.cells #[.int .i64 xk, .string xt, .int .i64 xn, .slice Ax xl.length cx] 24)) := by (repeat (first | with_reducible assumption | with_reducible exact Below.refl _ _ | (refine Below.setCell ?_ (by first | omega | (simp; done) | (simp; omega)) _) | (refine Below.drewN_ ?_ _) | (refine Below.drew ?_) | (refine Below.alloc ?_ (by first | omega | (simp; done) | (simp; omega)) _)))
 have hbzbt : w1.heap.size < (w1.alloc (.cells #[.int .i64 xk, .string xt, .int .i64 xn, .slice Ax xl.length cx] 24)).heap.size := KX.lt
 have hsz2 := hb.size
 replace KR := Lib.hid (KR.out.below hb)
 replace REPx := Lib.hid (REPx.out.belI hb)
 replace HS := Lib.hid (HS.out.below hb)
 replace HM := Lib.hid (HM.out.below_ hb)
 clear hb
 have BT := Lib.hid KX
 clear KX
 have HBSbt : Hid ((w1.alloc (.cells #[.int .i64 xk, .string xt, .int .i64 xn, .slice Ax xl.length cx] 24)).heap.size = w1.heap.size + 1) := by show _ = _; simp
 generalize (w1.alloc (.cells #[.int .i64 xk, .string xt, .int .i64 xn, .slice Ax xl.length cx] 24)) = w2 at *
 obtain ⟨bt, hbwbt⟩ : ∃ x, x = w1.heap.size := ⟨_, rfl⟩
 rw [← hbwbt] at BT
 have hbvbt : w1.heap.size ≤ bt := by omega
 have hbxbt : bt < w2.heap.size := by omega
 rw [← hbwbt]
 clear hbwbt
 have hrx : RepV (fun b => w0.heap.size ≤ b ∧ b ≠ bt) w2 (Nd.mk xk xt xn xl) [.int .i64 xk, .string xt, .int .i64 xn, .slice Ax xl.length cx] := REPx.out.ofI fun b h1 h2 => ⟨h1, by omega⟩
 have hBb : w0.heap.size ≤ bt := by omega
 go_loopg [] (C.L.length + 1) (fun gk wr => BdRel0 C m R w w0.heap.size bt gk wr)
 case atStart => exact ⟨xk, xt, xn, xl, Ax, cx, j1, b1, Lib.hid ⟨BT.out, hrx, HS.out, HM.out, KR.out, by omega, HR.out⟩⟩
 case round =>
  obtain ⟨nk, nt, nn, nl, An, cn, j, b, HX⟩ := hrel
  clear HS HM HR KR BT hrx REPx
  have BT := Lib.hid HX.out.1
  have REPn := Lib.hid HX.out.2.1
  have HS := Lib.hid HX.out.2.2.1
  have HM := Lib.hid HX.out.2.2.2.1
  have KR := Lib.hid HX.out.2.2.2.2.1
  have hszB := HX.out.2.2.2.2.2.1
  have hR := HX.out.2.2.2.2.2.2
  clear HX
  have hszr := HM.out.size
  have hbtl := BT.out.lt
  have hcb := HS.out.blk.cell 2 (.bool b) rfl
  cases b with
  | true =>
   have HR := Lib.hid hR
   clear hR
   have bBT0 := BT.out.cell 0 (.int .i64 nk) rfl
   have bBT1 := BT.out.cell 1 (.string nt) rfl
   have bBT2 := BT.out.cell 2 (.int .i64 nn) rfl
   have bBT3 := BT.out.cell 3 (.slice An nl.length cn) rfl
   have f0 := KR.out.free 0
   have f1 := KR.out.free 1
   have f2 := KR.out.free 2
   have f3 := KR.out.free 3
   have g0 := KR.out.cell 0 (.int .i64 0) rfl
   have g1 := KR.out.cell 1 (.string ⟨#[]⟩) rfl
   have g2 := KR.out.cell 2 (.int .i64 0) rfl
   have g3 := KR.out.cell 3 (.slice none 0 0) rfl
   go_wp2_with fail
   have hf := fin_nodeR H0.out (n := (Nd.mk nk nt nn nl)) (A := An) (c := cn) (r0 := w.heap.size) (C := C) (w := w) KR.out HS.out HM.out (Nat.le_refl _) REPn.out (fun b h => by have h1 := h.1; have h2 := h.2; exact ⟨by omega, by omega⟩) (mbr_true HR.out)
   simp only [Nd.k, Nd.t, Nd.num, Nd.kids, List.length_append, List.length_cons, List.length_nil, Nat.zero_add] at hf
   exact bodyPost_ret (v := .agg _) (results_cell4 (fn := Tryz.f98) rfl hf.1 rfl) rfl (by exact hf.2)
  | false =>
   have HR := Lib.hid hR
   clear hR
   go_wp2_with fail
   refine (txtR_any C _ _ 0 false HS.out (by omega)).mono ?_
   rintro e w101 ⟨rfl, hb⟩
   rw [Nat.add_zero]
   have hsz101 := hb.size
   replace KR := Lib.hid (KR.out.below hb)
   replace BT := Lib.hid (BT.out.below hb)
   replace REPn := Lib.hid (REPn.out.belowG hb)
   replace HS := Lib.hid (HS.out.below hb)
   replace HM := Lib.hid (HM.out.below_ hb)
   clear hb
   go_wp2_with fail
   refine (signB_any (txR C.L j) _).mono ?_
   rintro e w102 ⟨rfl, hb⟩
   have hsz102 := hb.size
   replace KR := Lib.hid (KR.out.below hb)
   replace BT := Lib.hid (BT.out.below hb)
   replace REPn := Lib.hid (REPn.out.belowG hb)
   replace HS := Lib.hid (HS.out.below hb)
   replace HM := Lib.hid (HM.out.below_ hb)
   clear hb
   have HIN := Lib.hid (tIn_set0 HOK.out j)
   have HTX := Lib.hid (tIn_text (i := j) (l := 0) HOK.out (by omega))
   have HI64 := Lib.hid (signR_i64 (txR C.L j))
   generalize (signR (txR C.L j)).1 = sk at *
   generalize (signR (txR C.L j)).2 = so at *
   by_cases hk : sk = 0
   ·subst hk
    have ht : tIn C.L [⟨#[61, 61]⟩, ⟨#[60]⟩] j = true := by rw [HIN.out]; simp
    have hso := HTX.out rfl
    have hlti := tIn_lt ht
    have hR := HR.out
    rw [hso] at hR
    replace HR := Lib.hid (mbr_yes (j := j + 1) hR ht)
    clear hR ht hso HIN HTX
    have q1 := HS.out.blk.cell 1 (.int .i64 (j : Int)) rfl
    have f1 := HS.out.blk.free 1
    have hw1 : IntKind.i64.wrap ((j : Int) + 1) = (j : Int) + 1 := IntWalk.i64_in _ (by omega)
    go_upto_region 8 with (fail)
    clear q1 f1 hw1
    have hm := HS.out.move (j + 1) (by omega)
    have h' := hm.1
    have m' := hm.2
    clear hm
    simp only [Int.natCast_add, Int.cast_ofNat_Int] at h' m'
    generalize w102.setCell ⟨C.p, 1, none⟩ (.int .i64 ((j : Int) + 1)) = w103 at *
    have hsz103 := m'.size
    replace KR := Lib.hid (m'.blk KR.out (by omega))
    replace BT := Lib.hid (m'.blk BT.out (by omega))
    replace REPn := Lib.hid (REPn.out.mvG m' (fun b h => by have h1 := h.1; have h2 := h.2; omega))
    replace HS := Lib.hid h'
    replace HM := Lib.hid (HM.out.trans_ m')
    clear m'
    clear h'
    go_wp2_with fail
    have hpy := HS.out.lt
    refine (HF.out _ _ false HS.out (mbr_wet HR.out HW.out)).mono ?_
    rintro e w104 ⟨⟨yk, yt, yn, yl⟩, Ay, cy, j51, b51, rfl, hrep, h', m', hf⟩
    replace HR := Lib.hid (mbr_seq HR.out HW.out hf)
    simp only [Nd.k, Nd.t, Nd.num, Nd.kids] at hrep ⊢
    have REPy := Lib.hid (hrep.toI (E := w104.heap.size) rfl)
    clear hf hrep
    have hsz104 := m'.size
    replace KR := Lib.hid (m'.blk KR.out (by omega))
    replace BT := Lib.hid (m'.blk BT.out (by omega))
    replace REPn := Lib.hid (REPn.out.mvG m' (fun b h => by have h1 := h.1; have h2 := h.2; omega))
    replace HS := Lib.hid h'
    replace HM := Lib.hid (HM.out.trans_ m')
    clear m'
    clear h'
    go_upto_region 9 with (fail)
    have KX := Blk.new_ w104 24 #[.int .i64 yk, .string yt, .int .i64 yn, .slice Ay yl.length cy]
    have hb : Below w104.heap.size w104 (w104.alloc (.cells #[.int .i64 yk, .string yt, .int .i64 yn, .slice Ay yl.length cy] 24)) := by (repeat (first | with_reducible assumption | with_reducible exact Below.refl _ _ | (refine Below.setCell ?_ (by first | omega | (simp; done) | (simp; omega)) _) | (refine Below.drewN_ ?_ _) | (refine Below.drew ?_) | (refine Below.alloc ?_ (by first | omega | (simp; done) | (simp; omega)) _)))
    have hbzb8 : w104.heap.size < (w104.alloc (.cells #[.int .i64 yk, .string yt, .int .i64 yn, .slice Ay yl.length cy] 24)).heap.size := KX.lt
    have hsz105 := hb.size
    replace KR := Lib.hid (KR.out.below hb)
    replace BT := Lib.hid (BT.out.below hb)
    replace REPn := Lib.hid (REPn.out.belowG hb)
    replace REPy := Lib.hid (REPy.out.belI hb)
    replace HS := Lib.hid (HS.out.below hb)
    replace HM := Lib.hid (HM.out.below_ hb)
    clear hb
    have B8 := Lib.hid KX
    clear KX
    have HBSb8 : Hid ((w104.alloc (.cells #[.int .i64 yk, .string yt, .int .i64 yn, .slice Ay yl.length cy] 24)).heap.size = w104.heap.size + 1) := by show _ = _; simp
    generalize (w104.alloc (.cells #[.int .i64 yk, .string yt, .int .i64 yn, .slice Ay yl.length cy] 24)) = w105 at *
    obtain ⟨b8, hbwb8⟩ : ∃ x, x = w104.heap.size := ⟨_, rfl⟩
    rw [← hbwb8] at B8
    have hbvb8 : w104.heap.size ≤ b8 := by omega
    have hbxb8 : b8 < w105.heap.size := by omega
    rw [← hbwb8]
    clear hbwb8
    have bBT0 := BT.out.cell 0 (.int .i64 nk) rfl
    have bBT1 := BT.out.cell 1 (.string nt) rfl
    have bBT2 := BT.out.cell 2 (.int .i64 nn) rfl
    have bBT3 := BT.out.cell 3 (.slice An nl.length cn) rfl
    have bB80 := B8.out.cell 0 (.int .i64 yk) rfl
    have bB81 := B8.out.cell 1 (.string yt) rfl
    have bB82 := B8.out.cell 2 (.int .i64 yn) rfl
    have bB83 := B8.out.cell 3 (.slice Ay yl.length cy) rfl
    have f0 := BT.out.free 0
    have g0 := BT.out.cell 0 (.int .i64 nk) rfl
    have f1 := BT.out.free 1
    have g1 := BT.out.cell 1 (.string nt) rfl
    have f2 := BT.out.free 2
    have g2 := BT.out.cell 2 (.int .i64 nn) rfl
    have f3 := BT.out.free 3
    have g3 := BT.out.cell 3 (.slice An nl.length cn) rfl
    have hneby_ := Nat.ne_of_lt (BT.out.lt)
    have hltby_ := BT.out.lt
    go_upto_region 10 with (fail)
    clear f0 f1 f2 f3 g0 g1 g2 g3 hneby_ hltby_
    have m' := put4_mv w105 bt (.int .i64 32) (.string ⟨#[]⟩) (.int .i64 so) (.slice (some ⟨w105.heap.size, 0, none⟩) 2 2)
    have hbt := blk_put4 BT.out (.int .i64 32) (.string ⟨#[]⟩) (.int .i64 so) (.slice (some ⟨w105.heap.size, 0, none⟩) 2 2)
    have hsq : (((((w105).setCell ⟨bt, 0, none⟩ (.int .i64 32)).setCell ⟨bt, 1, none⟩ (.string ⟨#[]⟩)).setCell ⟨bt, 2, none⟩ (.int .i64 so)).setCell ⟨bt, 3, none⟩ (.slice (some ⟨w105.heap.size, 0, none⟩) 2 2)).heap.size = w105.heap.size := by simp [World.setCell]
    have hsz106 := m'.size
    replace HS := Lib.hid (RSt.put H0.out HS.out HM.out (by omega) m')
    replace HM := Lib.hid (HM.out.put (by omega) m')
    replace KR := Lib.hid (m'.blk KR.out (by omega))
    replace BT := Lib.hid hbt
    replace REPn := Lib.hid (REPn.out.mvG m' (fun b h => by have h1 := h.1; have h2 := h.2; omega))
    replace REPy := Lib.hid (REPy.out.mvI m' (by omega))
    replace B8 := Lib.hid (m'.blk B8.out (by omega))
    clear m' hbt
    generalize (((((w105).setCell ⟨bt, 0, none⟩ (.int .i64 32)).setCell ⟨bt, 1, none⟩ (.string ⟨#[]⟩)).setCell ⟨bt, 2, none⟩ (.int .i64 so)).setCell ⟨bt, 3, none⟩ (.slice (some ⟨w105.heap.size, 0, none⟩) 2 2)) = w106 at *
    have KX := Blk.new_ w106 24 #[.int .i64 nk, .string nt, .int .i64 nn, .slice An nl.length cn, .int .i64 yk, .string yt, .int .i64 yn, .slice Ay yl.length cy]
    rw [hsq] at KX
    have hb : Below w106.heap.size w106 (w106.alloc (.cells #[.int .i64 nk, .string nt, .int .i64 nn, .slice An nl.length cn, .int .i64 yk, .string yt, .int .i64 yn, .slice Ay yl.length cy] 24)) := by (repeat (first | with_reducible assumption | with_reducible exact Below.refl _ _ | (refine Below.setCell ?_ (by first | omega | (simp; done) | (simp; omega)) _) | (refine Below.drewN_ ?_ _) | (refine Below.drew ?_) | (refine Below.alloc ?_ (by first | omega | (simp; done) | (simp; omega)) _)))
    have hsz107 := hb.size
    replace KR := Lib.hid (KR.out.below hb)
    replace BT := Lib.hid (BT.out.below hb)
    replace REPn := Lib.hid (REPn.out.belowG hb)
    replace REPy := Lib.hid (REPy.out.belI hb)
    replace B8 := Lib.hid (B8.out.below hb)
    replace HS := Lib.hid (HS.out.below hb)
    replace HM := Lib.hid (HM.out.below_ hb)
    clear hb
    have BY := Lib.hid KX
    clear KX
    generalize (w106.alloc (.cells #[.int .i64 nk, .string nt, .int .i64 nn, .slice An nl.length cn, .int .i64 yk, .string yt, .int .i64 yn, .slice Ay yl.length cy] 24)) = w107 at *
    obtain ⟨by_, hbwby_⟩ : ∃ x, x = w105.heap.size := ⟨_, rfl⟩
    rw [← hbwby_] at BY BT
    have hbvby_ : w105.heap.size ≤ by_ := by omega
    have hbxby_ : by_ < w107.heap.size := BY.out.lt
    rw [← hbwby_]
    clear hbwby_ hsq
    have REPm := Lib.hid (two_kids1 (V := fun b => w0.heap.size ≤ b ∧ b ≠ bt) (k := 32) (num := so) (x := (Nd.mk nk nt nn nl)) (y := (Nd.mk yk yt yn yl)) BY.out REPn.out (REPy.out.ofI fun b h1 h2 => ⟨by omega, by omega⟩) ⟨by omega, by omega⟩ HI64.out)
    clear REPn REPy BY B8
    have bBT0 := BT.out.cell 0 (.int .i64 32) rfl
    have bBT1 := BT.out.cell 1 (.string ⟨#[]⟩) rfl
    have bBT2 := BT.out.cell 2 (.int .i64 so) rfl
    have bBT3 := BT.out.cell 3 (.slice (some ⟨by_, 0, none⟩) 2 2) rfl
    have f0 := KR.out.free 0
    have f1 := KR.out.free 1
    have f2 := KR.out.free 2
    have f3 := KR.out.free 3
    have g0 := KR.out.cell 0 (.int .i64 0) rfl
    have g1 := KR.out.cell 1 (.string ⟨#[]⟩) rfl
    have g2 := KR.out.cell 2 (.int .i64 0) rfl
    have g3 := KR.out.cell 3 (.slice none 0 0) rfl
    go_wp2_with fail
    have hf := fin_nodeR H0.out (n := (Nd.mk 32 ⟨#[]⟩ so [(Nd.mk nk nt nn nl), (Nd.mk yk yt yn yl)])) (A := (some ⟨by_, 0, none⟩)) (c := 2) (r0 := w.heap.size) (C := C) (w := w) KR.out HS.out HM.out (Nat.le_refl _) REPm.out (fun b h => by have h1 := h.1; have h2 := h.2; exact ⟨by omega, by omega⟩) (mbr_fin HR.out)
    simp only [Nd.k, Nd.t, Nd.num, Nd.kids, List.length_append, List.length_cons, List.length_nil, Nat.zero_add] at hf
    exact bodyPost_ret (v := .agg _) (results_cell4 (fn := Tryz.f98) rfl hf.1 rfl) rfl (by exact hf.2)
   ·have ht : tIn C.L [⟨#[61, 61]⟩, ⟨#[60]⟩] j = false := by rw [HIN.out]; simpa using hk
    have ht2 : ¬ tIn C.L [⟨#[61, 61]⟩, ⟨#[60]⟩] j = true := by rw [ht]; simp
    replace HR := Lib.hid (mbr_no HR.out (fun _ => ht2))
    clear ht ht2 HIN HTX
    have hk2 : (sk == 0) = false := by simpa using hk
    have bBT0 := BT.out.cell 0 (.int .i64 nk) rfl
    have bBT1 := BT.out.cell 1 (.string nt) rfl
    have bBT2 := BT.out.cell 2 (.int .i64 nn) rfl
    have bBT3 := BT.out.cell 3 (.slice An nl.length cn) rfl
    have f0 := KR.out.free 0
    have f1 := KR.out.free 1
    have f2 := KR.out.free 2
    have f3 := KR.out.free 3
    have g0 := KR.out.cell 0 (.int .i64 0) rfl
    have g1 := KR.out.cell 1 (.string ⟨#[]⟩) rfl
    have g2 := KR.out.cell 2 (.int .i64 0) rfl
    have g3 := KR.out.cell 3 (.slice none 0 0) rfl
    go_wp2_with fail
    have hf := fin_nodeR H0.out (n := (Nd.mk nk nt nn nl)) (A := An) (c := cn) (r0 := w.heap.size) (C := C) (w := w) KR.out HS.out HM.out (Nat.le_refl _) REPn.out (fun b h => by have h1 := h.1; have h2 := h.2; exact ⟨by omega, by omega⟩) (mbr_fin HR.out)
    simp only [Nd.k, Nd.t, Nd.num, Nd.kids, List.length_append, List.length_cons, List.length_nil, Nat.zero_add] at hf
    exact bodyPost_ret (v := .agg _) (results_cell4 (fn := Tryz.f98) rfl hf.1 rfl) rfl (by exact hf.2)
theorem rexpr_of (C : RC) {u : Nat → Res Nd} (hf : ROk C 125 u) : ROk C 79 (exprM C.L u) := by
 intro w i b h hwet
 have HF : Hid (RBnd C 0 (exprM C.L u)) := Lib.hid (bound0_of C (bound1_of C (bound2_of C (bound3_of C hf))))
 obtain ⟨R, HR⟩ : ∃ R, Hid (mbr (exprM C.L u i) i b = R) := ⟨_, rfl⟩
 rw [HR.out] at hwet ⊢
 have HW := Lib.hid hwet
 clear hwet
 have hlw := h.lt
 have hlen := h.len
 have hr0 : w.heap.size ≠ C.p := by omega
 have hb0 : Below w.heap.size w (w.alloc (.cells #[.int .i64 0, .string ⟨#[]⟩, .int .i64 0, .slice none 0 0] 24)) := by (repeat (first | with_reducible assumption | with_reducible exact Below.refl _ _ | (refine Below.setCell ?_ (by first | omega | (simp; done) | (simp; omega)) _) | (refine Below.drewN_ ?_ _) | (refine Below.drew ?_) | (refine Below.alloc ?_ (by first | omega | (simp; done) | (simp; omega)) _)))
 have H0 := Lib.hid h
 have HS := Lib.hid (h.below hb0)
 have HM : Hid (Mv C.p w (w.alloc (.cells #[.int .i64 0, .string ⟨#[]⟩, .int .i64 0, .slice none 0 0] 24))) := mv_below hb0
 have KR := Lib.hid (Blk.new_ w 24 #[.int .i64 0, .string ⟨#[]⟩, .int .i64 0, .slice none 0 0])
 have hsz0 : w.heap.size < (w.alloc (.cells #[.int .i64 0, .string ⟨#[]⟩, .int .i64 0, .slice none 0 0] 24)).heap.size := KR.out.lt
 clear h hb0
 go_enter Tryz.func79, Tryz.ntmps79
 go_wp2_with fail
 generalize (w.alloc (.cells #[.int .i64 0, .string ⟨#[]⟩, .int .i64 0, .slice none 0 0] 24)) = w0 at *
 go_wp2_with fail
 have hpx := HS.out.lt
 refine (HF.out _ _ b HS.out ((fun e => HW.out (HR.out.symm.trans e)))).mono ?_
 rintro e w1 ⟨⟨xk, xt, xn, xl⟩, Ax, cx, j1, b1, rfl, hrep, h', m', hf⟩
 replace HR := Lib.hid (mbr_last HR.out hf)
 simp only [Nd.k, Nd.t, Nd.num, Nd.kids] at hrep ⊢
 have REPx := Lib.hid (hrep.toI (E := w1.heap.size) rfl)
 clear hf hrep
 have hsz1 := m'.size
 replace KR := Lib.hid (m'.blk KR.out (by omega))
 replace HS := Lib.hid h'
 replace HM := Lib.hid (HM.out.trans_ m')
 clear m'
 clear h'
 have f0 := KR.out.free 0
 have f1 := KR.out.free 1
 have f2 := KR.out.free 2
 have f3 := KR.out.free 3
 have g0 := KR.out.cell 0 (.int .i64 0) rfl
 have g1 := KR.out.cell 1 (.string ⟨#[]⟩) rfl
 have g2 := KR.out.cell 2 (.int .i64 0) rfl
 have g3 := KR.out.cell 3 (.slice none 0 0) rfl
 go_wp2_with fail
 have hf := fin_nodeR H0.out (n := (Nd.mk xk xt xn xl)) (A := Ax) (c := cx) (r0 := w.heap.size) (C := C) (w := w) KR.out HS.out HM.out (Nat.le_refl _) REPx.out (fun b h => by have h1 := h.1; have h2 := h.2; exact ⟨by omega, by omega⟩) HR.out
 simp only [Nd.k, Nd.t, Nd.num, Nd.kids, List.length_append, List.length_cons, List.length_nil, Nat.zero_add] at hf
 exact bodyPost_ret (v := .agg _) (results_cell4 (fn := Tryz.f79) rfl hf.1 rfl) rfl (by exact hf.2)
end Go.Proofs.YtgegfbopogcjpaaGreatDoor
