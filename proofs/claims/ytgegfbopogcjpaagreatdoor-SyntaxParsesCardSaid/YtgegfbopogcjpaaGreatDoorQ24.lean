/- The reference's reader: unary expressions; all expressions. -/
import Derived.Test.YtgegfbopogcjpaaGreatDoorQ23
namespace Go.Proofs.YtgegfbopogcjpaaGreatDoor
open Go.RowKit
set_option linter.unusedVariables false
set_option linter.unusedSimpArgs false
set_option maxRecDepth 100000
set_option maxHeartbeats 4000000
theorem rfirst_bad (C : RC) (m : Nat → Res Nd) (w : World) (i : Nat) (h : RSt C w i true) : Calls Tryz.prog 146 #[.pointer (some ⟨C.p, 0, none⟩)] w (RNode C w (mbr (m i) i true)) := by
 obtain ⟨R, HR⟩ : ∃ R, Hid (mbr (m i) i true = R) := ⟨_, rfl⟩
 rw [HR.out]
 have hwet : True := trivial
 clear hwet
 have hlw := h.lt
 have hlen := h.len
 have hr0 : w.heap.size ≠ C.p := by omega
 have hb0 : Below w.heap.size w (w.alloc (.cells #[.int .i64 0, .string ⟨#[]⟩, .int .i64 0, .slice none 0 0] 24)) := by (repeat (first | with_reducible assumption | with_reducible exact Below.refl _ _ | (refine Below.setCell ?_ (by first | omega | (simp; done) | (simp; omega)) _) | (refine Below.drewN_ ?_ _) | (refine Below.drew ?_) | (refine Below.alloc ?_ (by first | omega | (simp; done) | (simp; omega)) _)))
 have H0 := Lib.hid h
 have HS := Lib.hid (h.below hb0)
 have HM : Hid (Mv C.p w (w.alloc (.cells #[.int .i64 0, .string ⟨#[]⟩, .int .i64 0, .slice none 0 0] 24))) := mv_below hb0
 have KR := Lib.hid (Blk.new_ w 24 #[.int .i64 0, .string ⟨#[]⟩, .int .i64 0, .slice none 0 0])
 have hsz0 : w.heap.size < (w.alloc (.cells #[.int .i64 0, .string ⟨#[]⟩, .int .i64 0, .slice none 0 0] 24)).heap.size := KR.out.lt
 clear h hb0
 go_enter Tryz.func146, Tryz.ntmps146
 go_upto_region 1 with (fail)
 generalize (w.alloc (.cells #[.int .i64 0, .string ⟨#[]⟩, .int .i64 0, .slice none 0 0] 24)) = w0 at *
 have hcb := HS.out.blk.cell 2 (.bool true) rfl
 have f0 := KR.out.free 0
 have f1 := KR.out.free 1
 have f2 := KR.out.free 2
 have f3 := KR.out.free 3
 have g0 := KR.out.cell 0 (.int .i64 0) rfl
 have g1 := KR.out.cell 1 (.string ⟨#[]⟩) rfl
 have g2 := KR.out.cell 2 (.int .i64 0) rfl
 have g3 := KR.out.cell 3 (.slice none 0 0) rfl
 go_wp2_with fail
 have hf := fin_nodeR H0.out (n := .mk 0 ⟨#[]⟩ 0 []) (A := none) (c := 0) (r0 := w.heap.size) (C := C) (w := w) KR.out HS.out HM.out (Nat.le_refl _) (leafV (V := fun _ => False) i64_0 (Nat.zero_le _)) (fun b h => h.elim) (mbr_true HR.out)
 simp only [Nd.k, Nd.t, Nd.num, Nd.kids, List.length_append, List.length_cons, List.length_nil, Nat.zero_add] at hf
 exact bodyPost_ret (v := .agg _) (results_cell4 (fn := Tryz.f146) rfl hf.1 rfl) rfl (by exact hf.2)
theorem runary_bad (C : RC) (m : Nat → Res Nd) (w : World) (i : Nat) (h : RSt C w i true) : Calls Tryz.prog 125 #[.pointer (some ⟨C.p, 0, none⟩)] w (RNode C w (mbr (m i) i true)) := by
 obtain ⟨R, HR⟩ : ∃ R, Hid (mbr (m i) i true = R) := ⟨_, rfl⟩
 rw [HR.out]
 have hwet : True := trivial
 clear hwet
 have hlw := h.lt
 have hlen := h.len
 have hr0 : w.heap.size ≠ C.p := by omega
 have hb0 : Below w.heap.size w (w.alloc (.cells #[.int .i64 0, .string ⟨#[]⟩, .int .i64 0, .slice none 0 0] 24)) := by (repeat (first | with_reducible assumption | with_reducible exact Below.refl _ _ | (refine Below.setCell ?_ (by first | omega | (simp; done) | (simp; omega)) _) | (refine Below.drewN_ ?_ _) | (refine Below.drew ?_) | (refine Below.alloc ?_ (by first | omega | (simp; done) | (simp; omega)) _)))
 have H0 := Lib.hid h
 have HS := Lib.hid (h.below hb0)
 have HM : Hid (Mv C.p w (w.alloc (.cells #[.int .i64 0, .string ⟨#[]⟩, .int .i64 0, .slice none 0 0] 24))) := mv_below hb0
 have KR := Lib.hid (Blk.new_ w 24 #[.int .i64 0, .string ⟨#[]⟩, .int .i64 0, .slice none 0 0])
 have hsz0 : w.heap.size < (w.alloc (.cells #[.int .i64 0, .string ⟨#[]⟩, .int .i64 0, .slice none 0 0] 24)).heap.size := KR.out.lt
 clear h hb0
 go_enter Tryz.func125, Tryz.ntmps125
 go_wp2_with fail
 generalize (w.alloc (.cells #[.int .i64 0, .string ⟨#[]⟩, .int .i64 0, .slice none 0 0] 24)) = w0 at *
 go_wp2_with fail
 have HV := Lib.hid (eat_any C _ _ true ⟨#[45]⟩ HS.out (by decide))
 simp only [Bool.not_true, Bool.false_and] at HV
 unfold EatOut at HV
 refine HV.out.mono ?_
 rintro e w1 ⟨rfl, h', m'⟩
 clear HV
 have hsz1 := m'.size
 replace KR := Lib.hid (m'.blk KR.out (by omega))
 replace HS := Lib.hid (show RSt C w1 i true by simpa using h')
 replace HM := Lib.hid (HM.out.trans_ m')
 clear m'
 clear h'
 go_wp2_with fail
 have HV := Lib.hid (eat_any C _ _ true ⟨#[33]⟩ HS.out (by decide))
 simp only [Bool.not_true, Bool.false_and] at HV
 unfold EatOut at HV
 refine HV.out.mono ?_
 rintro e w2 ⟨rfl, h', m'⟩
 clear HV
 have hsz2 := m'.size
 replace KR := Lib.hid (m'.blk KR.out (by omega))
 replace HS := Lib.hid (show RSt C w2 i true by simpa using h')
 replace HM := Lib.hid (HM.out.trans_ m')
 clear m'
 clear h'
 go_wp2_with fail
 have hpx := HS.out.lt
 refine (rfirst_bad C m _ _ HS.out).mono ?_
 rintro e w3 ⟨⟨xk, xt, xn, xl⟩, Ax, cx, j1, b1, rfl, hrep, h', m', hf⟩
 obtain ⟨rfl, rfl⟩ : j1 = i ∧ b1 = true := by simpa [mbr, Fol] using hf
 simp only [Nd.k, Nd.t, Nd.num, Nd.kids] at hrep ⊢
 have REPx := Lib.hid (hrep.toI (E := w3.heap.size) rfl)
 clear hf hrep
 have hsz3 := m'.size
 replace KR := Lib.hid (m'.blk KR.out (by omega))
 replace HS := Lib.hid h'
 replace HM := Lib.hid (HM.out.trans_ m')
 clear m'
 clear h'
 go_wp2_with fail
 have KX := Blk.new_ w3 24 #[.int .i64 xk, .string xt, .int .i64 xn, .slice Ax xl.length cx]
 have hb : Below w3.heap.size w3 (w3.alloc (.cells #[.int .i64 xk, .string xt, .int .i64 xn, .slice Ax xl.length cx] 24)) := by (repeat (first | with_reducible assumption | with_reducible exact Below.refl _ _ | (refine Below.setCell ?_ (by first | omega | (simp; done) | (simp; omega)) _) | (refine Below.drewN_ ?_ _) | (refine Below.drew ?_) | (refine Below.alloc ?_ (by first | omega | (simp; done) | (simp; omega)) _)))
 have hbzbt : w3.heap.size < (w3.alloc (.cells #[.int .i64 xk, .string xt, .int .i64 xn, .slice Ax xl.length cx] 24)).heap.size := KX.lt
 have hsz4 := hb.size
 replace KR := Lib.hid (KR.out.below hb)
 replace REPx := Lib.hid (REPx.out.belI hb)
 replace HS := Lib.hid (HS.out.below hb)
 replace HM := Lib.hid (HM.out.below_ hb)
 clear hb
 have BT := Lib.hid KX
 clear KX
 have HBSbt : Hid ((w3.alloc (.cells #[.int .i64 xk, .string xt, .int .i64 xn, .slice Ax xl.length cx] 24)).heap.size = w3.heap.size + 1) := by show _ = _; simp
 generalize (w3.alloc (.cells #[.int .i64 xk, .string xt, .int .i64 xn, .slice Ax xl.length cx] 24)) = w4 at *
 obtain ⟨bt, hbwbt⟩ : ∃ x, x = w3.heap.size := ⟨_, rfl⟩
 rw [← hbwbt] at BT
 have hbvbt : w3.heap.size ≤ bt := by omega
 have hbxbt : bt < w4.heap.size := by omega
 rw [← hbwbt]
 clear hbwbt
 go_loopg [] 0 (fun gk wr => wr = w4)
 case atStart => rfl
 case round =>
  subst hrel
  have hcb := HS.out.blk.cell 2 (.bool true) rfl
  have bBT0 := BT.out.cell 0 (.int .i64 xk) rfl
  have bBT1 := BT.out.cell 1 (.string xt) rfl
  have bBT2 := BT.out.cell 2 (.int .i64 xn) rfl
  have bBT3 := BT.out.cell 3 (.slice Ax xl.length cx) rfl
  have f0 := KR.out.free 0
  have f1 := KR.out.free 1
  have f2 := KR.out.free 2
  have f3 := KR.out.free 3
  have g0 := KR.out.cell 0 (.int .i64 0) rfl
  have g1 := KR.out.cell 1 (.string ⟨#[]⟩) rfl
  have g2 := KR.out.cell 2 (.int .i64 0) rfl
  have g3 := KR.out.cell 3 (.slice none 0 0) rfl
  go_wp2_with fail
  have hf := fin_nodeR H0.out (n := (Nd.mk xk xt xn xl)) (A := Ax) (c := cx) (r0 := w.heap.size) (C := C) (w := w) KR.out HS.out HM.out (Nat.le_refl _) REPx.out (fun b h => by have h1 := h.1; have h2 := h.2; exact ⟨by omega, by omega⟩) (mbr_true HR.out)
  simp only [Nd.k, Nd.t, Nd.num, Nd.kids, List.length_append, List.length_cons, List.length_nil, Nat.zero_add] at hf
  exact bodyPost_ret (v := .agg _) (results_cell4 (fn := Tryz.f125) rfl hf.1 rfl) rfl (by exact hf.2)
def UnRel (C : RC) (u : Nat → Res Nd) (R : Res Nd) (w : World) (B bt : Nat) (gk : Nat) (wr : World) : Prop :=
 ∃ (nk : Int) (nt : ByteArray) (nn : Int) (nl : List Nd) (An : Option Addr) (cn i : Nat) (b : Bool), Hid (Blk wr bt 24 #[.int .i64 nk, .string nt, .int .i64 nn, .slice An nl.length cn] ∧ RepV (fun b => B ≤ b ∧ b ≠ bt) wr (.mk nk nt nn nl) [.int .i64 nk, .string nt, .int .i64 nn, .slice An nl.length cn] ∧ RSt C wr i b ∧ Mv C.p w wr ∧ Blk wr w.heap.size 24 #[.int .i64 0, .string ⟨#[]⟩, .int .i64 0, .slice none 0 0] ∧ B ≤ wr.heap.size ∧ mbr (postM C.L u gk (.mk nk nt nn nl) i) i b = R)
theorem runary_all (C : RC) : ∀ F, ROk C 125 (unaryM C.L F)
 | 0, w, i, b, h, hwet => by
  cases b
  ·exact absurd rfl hwet
  ·exact runary_bad C (unaryM C.L 0) w i h
 | F + 1, w, i, b, h, hwet => by
  have IH := Lib.hid (runary_all C F)
  have XX := Lib.hid (rexpr_of C (runary_all C F))
  have FF := Lib.hid (rfirst_of C (rexpr_of C (runary_all C F)))
  obtain ⟨R, HR⟩ : ∃ R, Hid (mbr (unaryM C.L (F + 1) i) i b = R) := ⟨_, rfl⟩
  rw [HR.out] at hwet ⊢
  have HW := Lib.hid hwet
  have hR := HR.out
  rw [unaryM] at hR
  replace HR := Lib.hid hR
  clear hR
  clear hwet
  have hlw := h.lt
  have hlen := h.len
  have hr0 : w.heap.size ≠ C.p := by omega
  have hb0 : Below w.heap.size w (w.alloc (.cells #[.int .i64 0, .string ⟨#[]⟩, .int .i64 0, .slice none 0 0] 24)) := by (repeat (first | with_reducible assumption | with_reducible exact Below.refl _ _ | (refine Below.setCell ?_ (by first | omega | (simp; done) | (simp; omega)) _) | (refine Below.drewN_ ?_ _) | (refine Below.drew ?_) | (refine Below.alloc ?_ (by first | omega | (simp; done) | (simp; omega)) _)))
  have H0 := Lib.hid h
  have HS := Lib.hid (h.below hb0)
  have HM : Hid (Mv C.p w (w.alloc (.cells #[.int .i64 0, .string ⟨#[]⟩, .int .i64 0, .slice none 0 0] 24))) := mv_below hb0
  have KR := Lib.hid (Blk.new_ w 24 #[.int .i64 0, .string ⟨#[]⟩, .int .i64 0, .slice none 0 0])
  have hsz0 : w.heap.size < (w.alloc (.cells #[.int .i64 0, .string ⟨#[]⟩, .int .i64 0, .slice none 0 0] 24)).heap.size := KR.out.lt
  clear h hb0
  go_enter Tryz.func125, Tryz.ntmps125
  go_wp2_with fail
  generalize (w.alloc (.cells #[.int .i64 0, .string ⟨#[]⟩, .int .i64 0, .slice none 0 0] 24)) = w0 at *
  go_wp2_with fail
  rcases ht : (!b && tIs C.L ⟨#[45]⟩ i) with _ | _
  ·have HV := Lib.hid (eat_any C _ _ b ⟨#[45]⟩ HS.out (by decide))
   rw [ht] at HV
   unfold EatOut at HV
   replace HR := Lib.hid (mbr_no HR.out (eat_no ht))
   clear ht
   refine HV.out.mono ?_
   rintro e w1 ⟨rfl, h', m'⟩
   clear HV
   have hsz1 := m'.size
   replace KR := Lib.hid (m'.blk KR.out (by omega))
   replace HS := Lib.hid (show RSt C w1 i b by simpa using h')
   replace HM := Lib.hid (HM.out.trans_ m')
   clear m'
   clear h'
   go_wp2_with fail
   rcases ht : (!b && tIs C.L ⟨#[33]⟩ i) with _ | _
   ·have HV := Lib.hid (eat_any C _ _ b ⟨#[33]⟩ HS.out (by decide))
    rw [ht] at HV
    unfold EatOut at HV
    replace HR := Lib.hid (mbr_no HR.out (eat_no ht))
    clear ht
    refine HV.out.mono ?_
    rintro e w2 ⟨rfl, h', m'⟩
    clear HV
    have hsz2 := m'.size
    replace KR := Lib.hid (m'.blk KR.out (by omega))
    replace HS := Lib.hid (show RSt C w2 i b by simpa using h')
    replace HM := Lib.hid (HM.out.trans_ m')
    clear m'
    clear h'
    go_wp2_with fail
    have hpx := HS.out.lt
    refine (FF.out _ _ b HS.out (mbr_wet HR.out HW.out)).mono ?_
    rintro e w3 ⟨⟨xk, xt, xn, xl⟩, Ax, cx, j1, b1, rfl, hrep, h', m', hf⟩
    replace HR := Lib.hid (mbr_seq HR.out HW.out hf)
    simp only [Nd.k, Nd.t, Nd.num, Nd.kids] at hrep ⊢
    have REPx := Lib.hid (hrep.toI (E := w3.heap.size) rfl)
    clear hf hrep
    have hsz3 := m'.size
    replace KR := Lib.hid (m'.blk KR.out (by omega))
    replace HS := Lib.hid h'
    replace HM := Lib.hid (HM.out.trans_ m')
    clear m'
    clear h'
    go_wp2_with fail
    have KX := Blk.new_ w3 24 #[.int .i64 xk, .string xt, .int .i64 xn, .slice Ax xl.length cx]
    have hb : Below w3.heap.size w3 (w3.alloc (.cells #[.int .i64 xk, .string xt, .int .i64 xn, .slice Ax xl.length cx] 24)) := by (repeat (first | with_reducible assumption | with_reducible exact Below.refl _ _ | (refine Below.setCell ?_ (by first | omega | (simp; done) | (simp; omega)) _) | (refine Below.drewN_ ?_ _) | (refine Below.drew ?_) | (refine Below.alloc ?_ (by first | omega | (simp; done) | (simp; omega)) _)))
    have hbzbt : w3.heap.size < (w3.alloc (.cells #[.int .i64 xk, .string xt, .int .i64 xn, .slice Ax xl.length cx] 24)).heap.size := KX.lt
    have hsz4 := hb.size
    replace KR := Lib.hid (KR.out.below hb)
    replace REPx := Lib.hid (REPx.out.belI hb)
    replace HS := Lib.hid (HS.out.below hb)
    replace HM := Lib.hid (HM.out.below_ hb)
    clear hb
    have BT := Lib.hid KX
    clear KX
    have HBSbt : Hid ((w3.alloc (.cells #[.int .i64 xk, .string xt, .int .i64 xn, .slice Ax xl.length cx] 24)).heap.size = w3.heap.size + 1) := by show _ = _; simp
    generalize (w3.alloc (.cells #[.int .i64 xk, .string xt, .int .i64 xn, .slice Ax xl.length cx] 24)) = w4 at *
    obtain ⟨bt, hbwbt⟩ : ∃ x, x = w3.heap.size := ⟨_, rfl⟩
    rw [← hbwbt] at BT
    have hbvbt : w3.heap.size ≤ bt := by omega
    have hbxbt : bt < w4.heap.size := by omega
    rw [← hbwbt]
    clear hbwbt
    have hrx : RepV (fun b => w2.heap.size ≤ b ∧ b ≠ bt) w4 (Nd.mk xk xt xn xl) [.int .i64 xk, .string xt, .int .i64 xn, .slice Ax xl.length cx] := REPx.out.ofI fun b h1 h2 => ⟨h1, by omega⟩
    have hBb : w2.heap.size ≤ bt := by omega
    go_loopg [] (C.L.length + 1) (fun gk wr => UnRel C (unaryM C.L F) R w w2.heap.size bt gk wr)
    case atStart => exact ⟨xk, xt, xn, xl, Ax, cx, j1, b1, Lib.hid ⟨BT.out, hrx, HS.out, HM.out, KR.out, by omega, HR.out⟩⟩
    case round =>
     obtain ⟨nk, nt, nn, nl, An, cn, j, b, HX⟩ := hrel
     clear HS HM HR KR BT hrx REPx
     have BT := Lib.hid HX.out.1
     have REPn := Lib.hid HX.out.2.1
     have HS := Lib.hid HX.out.2.2.1
     have HM := Lib.hid HX.out.2.2.2.1
     have KR := Lib.hid HX.out.2.2.2.2.1
     have hszB := HX.out.2.2.2.2.2.1
     have hR := HX.out.2.2.2.2.2.2
     clear HX
     have hszr := HM.out.size
     have hbtl := BT.out.lt
     have hcb := HS.out.blk.cell 2 (.bool b) rfl
     cases b with
     | true =>
      have HR := Lib.hid hR
      clear hR
      have bBT0 := BT.out.cell 0 (.int .i64 nk) rfl
      have bBT1 := BT.out.cell 1 (.string nt) rfl
      have bBT2 := BT.out.cell 2 (.int .i64 nn) rfl
      have bBT3 := BT.out.cell 3 (.slice An nl.length cn) rfl
      have f0 := KR.out.free 0
      have f1 := KR.out.free 1
      have f2 := KR.out.free 2
      have f3 := KR.out.free 3
      have g0 := KR.out.cell 0 (.int .i64 0) rfl
      have g1 := KR.out.cell 1 (.string ⟨#[]⟩) rfl
      have g2 := KR.out.cell 2 (.int .i64 0) rfl
      have g3 := KR.out.cell 3 (.slice none 0 0) rfl
      go_wp2_with fail
      have hf := fin_nodeR H0.out (n := (Nd.mk nk nt nn nl)) (A := An) (c := cn) (r0 := w.heap.size) (C := C) (w := w) KR.out HS.out HM.out (Nat.le_refl _) REPn.out (fun b h => by have h1 := h.1; have h2 := h.2; exact ⟨by omega, by omega⟩) (mbr_true HR.out)
      simp only [Nd.k, Nd.t, Nd.num, Nd.kids, List.length_append, List.length_cons, List.length_nil, Nat.zero_add] at hf
      exact bodyPost_ret (v := .agg _) (results_cell4 (fn := Tryz.f125) rfl hf.1 rfl) rfl (by exact hf.2)
     | false =>
      cases gk with
      | zero => exact absurd (show Res.dry = R from hR) (fun e => HW.out e.symm)
      | succ g =>
      rw [postM] at hR
      have HR := Lib.hid hR
      clear hR
      go_wp2_with fail
      rcases ht : (!false && tIs C.L ⟨#[46]⟩ j) with _ | _
      ·have HV := Lib.hid (eat_any C _ _ false ⟨#[46]⟩ HS.out (by decide))
       rw [ht] at HV
       unfold EatOut at HV
       replace HR := Lib.hid (mbr_no HR.out (eat_no ht))
       clear ht
       refine HV.out.mono ?_
       rintro e w101 ⟨rfl, h', m'⟩
       clear HV
       have hsz101 := m'.size
       replace KR := Lib.hid (m'.blk KR.out (by omega))
       replace BT := Lib.hid (m'.blk BT.out (by omega))
       replace REPn := Lib.hid (REPn.out.mvG m' (fun b h => by have h1 := h.1; have h2 := h.2; omega))
       replace HS := Lib.hid (show RSt C w101 j false by simpa using h')
       replace HM := Lib.hid (HM.out.trans_ m')
       clear m'
       clear h'
       go_wp2_with fail
       refine (txtR_any C _ _ 0 false HS.out (by omega)).mono ?_
       rintro e w102 ⟨rfl, hb⟩
       rw [Nat.add_zero]
       have hsz102 := hb.size
       replace KR := Lib.hid (KR.out.below hb)
       replace BT := Lib.hid (BT.out.below hb)
       replace REPn := Lib.hid (REPn.out.belowG hb)
       replace HS := Lib.hid (HS.out.below hb)
       replace HM := Lib.hid (HM.out.below_ hb)
       clear hb
       rcases ht : tIs C.L ⟨#[40]⟩ j with _ | _
       ·have hx : ((txR C.L j).toList == [40]) = false := (lit_beq _ _).trans ((txR_is H0.out.ok (s := ⟨#[40]⟩) (by decide) _).trans ht)
        have ht2 : ¬ tIs C.L ⟨#[40]⟩ j = true := by rw [ht]; simp
        replace HR := Lib.hid (mbr_no HR.out (fun _ => ht2))
        clear ht2
        clear ht
        generalize txR C.L j = tx at *
        have bBT0 := BT.out.cell 0 (.int .i64 nk) rfl
        have bBT1 := BT.out.cell 1 (.string nt) rfl
        have bBT2 := BT.out.cell 2 (.int .i64 nn) rfl
        have bBT3 := BT.out.cell 3 (.slice An nl.length cn) rfl
        have f0 := KR.out.free 0
        have f1 := KR.out.free 1
        have f2 := KR.out.free 2
        have f3 := KR.out.free 3
        have g0 := KR.out.cell 0 (.int .i64 0) rfl
        have g1 := KR.out.cell 1 (.string ⟨#[]⟩) rfl
        have g2 := KR.out.cell 2 (.int .i64 0) rfl
        have g3 := KR.out.cell 3 (.slice none 0 0) rfl
        go_wp2_with fail
        have hf := fin_nodeR H0.out (n := (Nd.mk nk nt nn nl)) (A := An) (c := cn) (r0 := w.heap.size) (C := C) (w := w) KR.out HS.out HM.out (Nat.le_refl _) REPn.out (fun b h => by have h1 := h.1; have h2 := h.2; exact ⟨by omega, by omega⟩) (mbr_fin HR.out)
        simp only [Nd.k, Nd.t, Nd.num, Nd.kids, List.length_append, List.length_cons, List.length_nil, Nat.zero_add] at hf
        exact bodyPost_ret (v := .agg _) (results_cell4 (fn := Tryz.f125) rfl hf.1 rfl) rfl (by exact hf.2)
       have hx : ((txR C.L j).toList == [40]) = true := (lit_beq _ _).trans ((txR_is H0.out.ok (s := ⟨#[40]⟩) (by decide) _).trans ht)
       replace HR := Lib.hid (mbr_yes (j := j) HR.out ht)
       clear ht
       generalize txR C.L j = tx at *
       go_wp2_with fail
       have hR := HR.out
       unfold callM at hR
       rw [Res.bind_assoc] at hR
       simp only [Res.bind_ok] at hR
       replace HR := Lib.hid hR
       clear hR hx
       have hpks := HS.out.lt
       refine ((rows2_of C XX.out) _ _ false HS.out (mbr_wet HR.out HW.out)).mono ?_
       rintro e w103 ⟨ks, d, Aks, cks, j51, b51, rfl, hacc, hcnks, h', m', hf⟩
       replace HR := Lib.hid (mbr_seq HR.out HW.out hf)
       have ACks := Lib.hid (hacc.toI (E := w103.heap.size) rfl)
       clear hf hacc
       have hsz103 := m'.size
       replace KR := Lib.hid (m'.blk KR.out (by omega))
       replace BT := Lib.hid (m'.blk BT.out (by omega))
       replace REPn := Lib.hid (REPn.out.mvG m' (fun b h => by have h1 := h.1; have h2 := h.2; omega))
       replace HS := Lib.hid h'
       replace HM := Lib.hid (HM.out.trans_ m')
       clear m'
       clear h'
       obtain ⟨xs, hcs, hvo, ho⟩ := ACks.out
       have hones := RepCs.one _ _ hcs
       have hcv : RepCs (fun b => w2.heap.size ≤ b ∧ b ≠ bt) w103 ks xs := RepCs.keep (Nat.le_refl _) (fun b hv _ => ⟨rfl, by have h1 := hv.1.1; have h2 := hv.1.2; exact ⟨by omega, by omega⟩⟩) _ _ hcs
       have HCV := Lib.hid hcv
       have HO := Lib.hid ho
       have hxl : xs.length = ks.length * 4 := ho.1
       have HONE := Lib.hid hones
       clear hcs hvo ho hcv hones
       have OL : Hid ((w103.alloc (.cells #[.int .i64 nk, .string nt, .int .i64 nn, .slice An nl.length cn] 24)).ownsRow w103.heap.size 24 4 (.slice (some ⟨w103.heap.size, 0, none⟩) 1 1) 1 [.int .i64 nk, .string nt, .int .i64 nn, .slice An nl.length cn]) := World.ownsRow_lit w103 #[.int .i64 nk, .string nt, .int .i64 nn, .slice An nl.length cn] 1 (Nat.le_refl _) (by unfold maxLen; omega) rfl
       have hba : Below w103.heap.size w103 (w103.alloc (.cells #[.int .i64 nk, .string nt, .int .i64 nn, .slice An nl.length cn] 24)) := by (repeat (first | with_reducible assumption | with_reducible exact Below.refl _ _ | (refine Below.setCell ?_ (by first | omega | (simp; done) | (simp; omega)) _) | (refine Below.drewN_ ?_ _) | (refine Below.drew ?_) | (refine Below.alloc ?_ (by first | omega | (simp; done) | (simp; omega)) _)))
       obtain ⟨i0, hi0, hz0, hz1, hz2⟩ := info_parts info_nodes
       have hbtw := BT.out.lt
       rcases HO.out.2 with ⟨hv, h0⟩ | ⟨gq, cap, cur, hv, -⟩
       ·injection hv with e1 e2 e3
        subst e1 e3
        have hks : ks = [] := List.eq_nil_of_length_eq_zero h0
        subst hks
        have hxs : xs = [] := List.eq_nil_of_length_eq_zero (by simpa using hxl)
        subst hxs
        clear e2 h0 ACks hba
        have bBT0 := BT.out.cell 0 (.int .i64 nk) rfl
        have bBT1 := BT.out.cell 1 (.string nt) rfl
        have bBT2 := BT.out.cell 2 (.int .i64 nn) rfl
        have bBT3 := BT.out.cell 3 (.slice An nl.length cn) rfl
        have f0 := BT.out.free 0
        have g0 := BT.out.cell 0 (.int .i64 nk) rfl
        have f1 := BT.out.free 1
        have g1 := BT.out.cell 1 (.string nt) rfl
        have f2 := BT.out.free 2
        have g2 := BT.out.cell 2 (.int .i64 nn) rfl
        have f3 := BT.out.free 3
        have g3 := BT.out.cell 3 (.slice An nl.length cn) rfl
        have hneby_ := Nat.ne_of_lt (BT.out.lt)
        have hltby_ := BT.out.lt
        go_wp2_with (at_builtin; refine wpList_append_own_none rfl _ _ 22 rfl w103.heap.size 24 i0 4 Tryz.underlying22 hi0 _ _ _ rfl OL.out rfl ?_)
        clear f0 f1 f2 f3 g0 g1 g2 g3 hneby_ hltby_
        have m' := put4_mv w103 bt (.int .i64 25) (.string ⟨#[]⟩) (.int .i64 0) (.slice (some ⟨w103.heap.size, 0, none⟩) 1 1)
        have hbt := blk_put4 BT.out (.int .i64 25) (.string ⟨#[]⟩) (.int .i64 0) (.slice (some ⟨w103.heap.size, 0, none⟩) 1 1)
        have hsq : (((((w103).setCell ⟨bt, 0, none⟩ (.int .i64 25)).setCell ⟨bt, 1, none⟩ (.string ⟨#[]⟩)).setCell ⟨bt, 2, none⟩ (.int .i64 0)).setCell ⟨bt, 3, none⟩ (.slice (some ⟨w103.heap.size, 0, none⟩) 1 1)).heap.size = w103.heap.size := by simp [World.setCell]
        have hsz104 := m'.size
        replace HS := Lib.hid (RSt.put H0.out HS.out HM.out (by omega) m')
        replace HM := Lib.hid (HM.out.put (by omega) m')
        replace KR := Lib.hid (m'.blk KR.out (by omega))
        replace BT := Lib.hid hbt
        replace REPn := Lib.hid (REPn.out.mvG m' (fun b h => by have h1 := h.1; have h2 := h.2; omega))
        clear m' hbt
        generalize (((((w103).setCell ⟨bt, 0, none⟩ (.int .i64 25)).setCell ⟨bt, 1, none⟩ (.string ⟨#[]⟩)).setCell ⟨bt, 2, none⟩ (.int .i64 0)).setCell ⟨bt, 3, none⟩ (.slice (some ⟨w103.heap.size, 0, none⟩) 1 1)) = w104 at *
        have KX := Blk.new_ w104 24 #[.int .i64 nk, .string nt, .int .i64 nn, .slice An nl.length cn]
        rw [hsq] at KX
        have hb : Below w104.heap.size w104 (w104.alloc (.cells #[.int .i64 nk, .string nt, .int .i64 nn, .slice An nl.length cn] 24)) := by (repeat (first | with_reducible assumption | with_reducible exact Below.refl _ _ | (refine Below.setCell ?_ (by first | omega | (simp; done) | (simp; omega)) _) | (refine Below.drewN_ ?_ _) | (refine Below.drew ?_) | (refine Below.alloc ?_ (by first | omega | (simp; done) | (simp; omega)) _)))
        have hsz105 := hb.size
        replace KR := Lib.hid (KR.out.below hb)
        replace BT := Lib.hid (BT.out.below hb)
        replace REPn := Lib.hid (REPn.out.belowG hb)
        replace HS := Lib.hid (HS.out.below hb)
        replace HM := Lib.hid (HM.out.below_ hb)
        clear hb
        have BY := Lib.hid KX
        clear KX
        generalize (w104.alloc (.cells #[.int .i64 nk, .string nt, .int .i64 nn, .slice An nl.length cn] 24)) = w105 at *
        obtain ⟨by_, hbwby_⟩ : ∃ x, x = w103.heap.size := ⟨_, rfl⟩
        rw [← hbwby_] at BY BT
        have hbvby_ : w103.heap.size ≤ by_ := by omega
        have hbxby_ : by_ < w105.heap.size := BY.out.lt
        rw [← hbwby_]
        clear hbwby_ hsq
        have REPm := Lib.hid (one_kidV (V := (fun b => w2.heap.size ≤ b ∧ b ≠ bt)) (k := 25) (t := ⟨#[]⟩) (x := (Nd.mk nk nt nn nl)) BY.out REPn.out ⟨by omega, by omega⟩ (Nat.zero_le _))
        clear REPn BY HO HCV HONE OL hi0 hz0 hz1 hz2
        go_wp2_with fail
        go_roundg g
        case measure => omega
        case rel => exact ⟨25, ⟨#[]⟩, 0, [(Nd.mk nk nt nn nl)], some ⟨by_, 0, none⟩, 1, j51, b51, Lib.hid ⟨by simpa using BT.out, by simpa using REPm.out, HS.out, HM.out, KR.out, by omega, HR.out⟩⟩
       injection hv with e1 e2 e3
       subst e1 e3
       clear e2 ACks
       have bBT0 := BT.out.cell 0 (.int .i64 nk) rfl
       have bBT1 := BT.out.cell 1 (.string nt) rfl
       have bBT2 := BT.out.cell 2 (.int .i64 nn) rfl
       have bBT3 := BT.out.cell 3 (.slice An nl.length cn) rfl
       go_wp2_with (at_builtin; (refine wpList_append_own_at _ rfl _ _ 22 rfl w103.heap.size 24 i0 (.agg #[.int .i64 0, .string ⟨#[]⟩, .int .i64 0, .slice none 0 0]) 4 56 Tryz.underlying22 hi0 hz0 hz1 hz2 rfl (by decide) _ _ _ rfl OL.out ⟨gq, 0, none⟩ ks.length cks xs rfl HO.out.1 ?c1 ?c2 ?c3 ?c4 ?c5 ?_))
       case c1 => exact fun j v hj => ((HO.out.alloc _).cells (g := gq) rfl j v hj)
       case c2 => exact HONE.out
       case c3 => unfold maxLen; omega
       case c4 => omega
       case c5 => simp
       intro v5 w104 hown5 hg5 _ hob5
       clear hi0 hz0 hz1 hz2 bBT0 bBT1 bBT2 bBT3
       have hb : Below w103.heap.size w103 w104 := hba.grown hg5 (by simp) (fun k e => by have e2 : some w103.heap.size = some k := e; injection e2 with e2; omega)
       have hfinr := call_repV (V := (fun b => w2.heap.size ≤ b ∧ b ≠ bt)) (ks := ks) (xs := xs) (x := (Nd.mk nk nt nn nl)) (B5 := w103.heap.size) hown5 (fun g hg => ⟨by omega, by omega⟩) (REPn.out.belowG hb) (RepCs.keep hb.size (fun b hv hlt => ⟨hb.block b hlt, hv⟩) _ _ HCV.out)
       obtain ⟨A5, c5, rfl, hrep5⟩ := hfinr
       have REPm := Lib.hid hrep5
       clear hrep5 hown5 hg5 hob5 hba HO HCV HONE OL REPn
       have hsz104 := hb.size
       replace KR := Lib.hid (KR.out.below hb)
       replace BT := Lib.hid (BT.out.below hb)
       replace HS := Lib.hid (HS.out.below hb)
       replace HM := Lib.hid (HM.out.below_ hb)
       clear hb
       have f0 := BT.out.free 0
       have g0 := BT.out.cell 0 (.int .i64 nk) rfl
       have f1 := BT.out.free 1
       have g1 := BT.out.cell 1 (.string nt) rfl
       have f2 := BT.out.free 2
       have g2 := BT.out.cell 2 (.int .i64 nn) rfl
       have f3 := BT.out.free 3
       have g3 := BT.out.cell 3 (.slice An nl.length cn) rfl
       go_wp2_with fail
       clear f0 f1 f2 f3 g0 g1 g2 g3
       have m' := put4_mv w104 bt (.int .i64 25) (.string ⟨#[]⟩) (.int .i64 0) (.slice A5 (ks.length + 1) c5)
       have hbt := blk_put4 BT.out (.int .i64 25) (.string ⟨#[]⟩) (.int .i64 0) (.slice A5 (ks.length + 1) c5)
       have hsz105 := m'.size
       replace HS := Lib.hid (RSt.put H0.out HS.out HM.out (by omega) m')
       replace HM := Lib.hid (HM.out.put (by omega) m')
       replace KR := Lib.hid (m'.blk KR.out (by omega))
       replace BT := Lib.hid hbt
       replace REPm := Lib.hid (REPm.out.mvG m' (fun b h => by have h1 := h.1; have h2 := h.2; omega))
       clear m' hbt
       generalize (((((w104).setCell ⟨bt, 0, none⟩ (.int .i64 25)).setCell ⟨bt, 1, none⟩ (.string ⟨#[]⟩)).setCell ⟨bt, 2, none⟩ (.int .i64 0)).setCell ⟨bt, 3, none⟩ (.slice A5 (ks.length + 1) c5)) = w105 at *
       go_wp2_with fail
       go_roundg g
       case measure => omega
       case rel => exact ⟨25, ⟨#[]⟩, 0, ((Nd.mk nk nt nn nl) :: ks), A5, c5, j51, b51, Lib.hid ⟨by simpa using BT.out, by simpa using REPm.out, HS.out, HM.out, KR.out, by omega, HR.out⟩⟩
      have HV := Lib.hid (eat_any C _ _ false ⟨#[46]⟩ HS.out (by decide))
      rw [ht] at HV
      unfold EatOut at HV
      obtain ⟨hb, hyt⟩ := eat_yes ht
      clear ht
      cases hb
      replace HR := Lib.hid (mbr_yes (j := j + 1) HR.out hyt)
      clear hyt
      refine HV.out.mono ?_
      rintro e w101 ⟨rfl, h', m'⟩
      clear HV
      have hsz101 := m'.size
      replace KR := Lib.hid (m'.blk KR.out (by omega))
      replace BT := Lib.hid (m'.blk BT.out (by omega))
      replace REPn := Lib.hid (REPn.out.mvG m' (fun b h => by have h1 := h.1; have h2 := h.2; omega))
      replace HS := Lib.hid (show RSt C w101 (j + 1) false by simpa using h')
      replace HM := Lib.hid (HM.out.trans_ m')
      clear m'
      clear h'
      go_wp2_with fail
      have hb : Below w101.heap.size w101 w101.drew := (Below.refl _ _).drew
      have hsz102 := hb.size
      replace KR := Lib.hid (KR.out.below hb)
      replace BT := Lib.hid (BT.out.below hb)
      replace REPn := Lib.hid (REPn.out.belowG hb)
      replace HS := Lib.hid (HS.out.below hb)
      replace HM := Lib.hid (HM.out.below_ hb)
      clear hb
      refine wp_region_held_drew (S := (fun W => True)) (by kernel_rfl) trivial (fun hHeld => ?_)
      generalize w101.drew = w102 at *
      ((refine wpAnyH_take (i := 0) (v := ?_) rfl (by kernel_rfl) (by kernel_rfl) (by kernel_rfl) (fun _ _ _ h => h) (Or.inl ⟨by rfl, ?_⟩) (by assumption) ?_; rotate_left; · ((intro w hSw; (try dsimp only at hSw); go_simp) <;> with_reducible rfl); (try simp only [List.getElem_toArray, List.getElem_cons_succ, List.getElem_cons_zero, Act.put, List.setIfInBounds_toArray, List.set_cons_zero, List.set_cons_succ])))
      refine wpAnyH_ready (rs := [1, 2]) (by kernel_rfl) (by simp) (AllReadyH.cons rfl (fun K hK => ?_) (AllReadyH.cons rfl (fun K hK => ?_) AllReadyH.nil))
      ·go_simp
       refine (nameRd_any C _ _ false HS.out).mono ?_
       rintro e w103 ⟨nm, j51, b51, rfl, hsz, h', m', hf⟩
       have hnm := nm_max hsz
       replace HR := Lib.hid (mbr_seq HR.out HW.out hf)
       clear hf hsz
       have hsz103 := m'.size
       replace KR := Lib.hid (m'.blk KR.out (by omega))
       replace BT := Lib.hid (m'.blk BT.out (by omega))
       replace REPn := Lib.hid (REPn.out.mvG m' (fun b h => by have h1 := h.1; have h2 := h.2; omega))
       replace HS := Lib.hid h'
       replace HM := Lib.hid (HM.out.trans_ m')
       clear m'
       clear h'
       refine hK.out _ _ trivial (fun hHeld => ?_)
       clear hK K
       (try simp only [List.getElem_toArray, List.getElem_cons_succ, List.getElem_cons_zero, Act.put, List.setIfInBounds_toArray, List.set_cons_zero, List.set_cons_succ])
       refine wpAnyH_ready (rs := [2]) (by kernel_rfl) (by simp) (AllReadyH.cons rfl (fun K hK => ?_) AllReadyH.nil)
       have b0 := BT.out.cell 0 (.int .i64 nk) rfl
       have b1 := BT.out.cell 1 (.string nt) rfl
       have b2 := BT.out.cell 2 (.int .i64 nn) rfl
       have b3 := BT.out.cell 3 (.slice An nl.length cn) rfl
       go_simp
       clear b0 b1 b2 b3
       refine hK.out _ _ trivial (fun hHeld => ?_)
       clear hK K
       (try simp only [List.getElem_toArray, List.getElem_cons_succ, List.getElem_cons_zero, Act.put, List.setIfInBounds_toArray, List.set_cons_zero, List.set_cons_succ])
       refine wpAnyH_ready (rs := [3]) (by kernel_rfl) (by simp) (AllReadyH.cons rfl (fun K hK => ?_) AllReadyH.nil)
       go_simp
       have KX := Blk.new_ w103 24 #[.int .i64 nk, .string nt, .int .i64 nn, .slice An nl.length cn]
       have hb : Below w103.heap.size w103 (w103.alloc (.cells #[.int .i64 nk, .string nt, .int .i64 nn, .slice An nl.length cn] 24)) := by (repeat (first | with_reducible assumption | with_reducible exact Below.refl _ _ | (refine Below.setCell ?_ (by first | omega | (simp; done) | (simp; omega)) _) | (refine Below.drewN_ ?_ _) | (refine Below.drew ?_) | (refine Below.alloc ?_ (by first | omega | (simp; done) | (simp; omega)) _)))
       have hbzby_ : w103.heap.size < (w103.alloc (.cells #[.int .i64 nk, .string nt, .int .i64 nn, .slice An nl.length cn] 24)).heap.size := KX.lt
       have hsz104 := hb.size
       replace KR := Lib.hid (KR.out.below hb)
       replace BT := Lib.hid (BT.out.below hb)
       replace REPn := Lib.hid (REPn.out.belowG hb)
       replace HS := Lib.hid (HS.out.below hb)
       replace HM := Lib.hid (HM.out.below_ hb)
       clear hb
       have BY := Lib.hid KX
       clear KX
       have HBSby_ : Hid ((w103.alloc (.cells #[.int .i64 nk, .string nt, .int .i64 nn, .slice An nl.length cn] 24)).heap.size = w103.heap.size + 1) := by show _ = _; simp
       generalize (w103.alloc (.cells #[.int .i64 nk, .string nt, .int .i64 nn, .slice An nl.length cn] 24)) = w104 at *
       obtain ⟨by_, hbwby_⟩ : ∃ x, x = w103.heap.size := ⟨_, rfl⟩
       rw [← hbwby_] at BY
       have hbvby_ : w103.heap.size ≤ by_ := by omega
       have hbxby_ : by_ < w104.heap.size := by omega
       rw [← hbwby_]
       clear hbwby_
       refine hK.out _ _ trivial (fun hHeld => ?_)
       clear hK K
       (try simp only [List.getElem_toArray, List.getElem_cons_succ, List.getElem_cons_zero, Act.put, List.setIfInBounds_toArray, List.set_cons_zero, List.set_cons_succ])
       ((refine wpAnyH_take (i := 4) (v := ?_) rfl (by kernel_rfl) (by kernel_rfl) (by kernel_rfl) (fun _ _ _ h => h) (Or.inl ⟨by rfl, ?_⟩) (by assumption) ?_; rotate_left; · ((intro w hSw; (try dsimp only at hSw); go_simp) <;> with_reducible rfl); (try simp only [List.getElem_toArray, List.getElem_cons_succ, List.getElem_cons_zero, Act.put, List.setIfInBounds_toArray, List.set_cons_zero, List.set_cons_succ])))
       refine wpAnyH_ready (rs := [5]) (by kernel_rfl) (by simp) (AllReadyH.cons rfl (fun K hK => ?_) AllReadyH.nil)
       have f0 := BT.out.free 0
       have g0 := BT.out.cell 0 (.int .i64 nk) rfl
       have f1 := BT.out.free 1
       have g1 := BT.out.cell 1 (.string nt) rfl
       have f2 := BT.out.free 2
       have g2 := BT.out.cell 2 (.int .i64 nn) rfl
       have f3 := BT.out.free 3
       have g3 := BT.out.cell 3 (.slice An nl.length cn) rfl
       go_simp
       clear f0 f1 f2 f3 g0 g1 g2 g3
       have m' := put4_mv w104 bt (.int .i64 24) (.string nm) (.int .i64 0) (.slice (some ⟨by_, 0, none⟩) 1 1)
       have hbt := blk_put4 BT.out (.int .i64 24) (.string nm) (.int .i64 0) (.slice (some ⟨by_, 0, none⟩) 1 1)
       have hsz105 := m'.size
       replace HS := Lib.hid (RSt.put H0.out HS.out HM.out (by omega) m')
       replace HM := Lib.hid (HM.out.put (by omega) m')
       replace KR := Lib.hid (m'.blk KR.out (by omega))
       replace BT := Lib.hid hbt
       replace REPn := Lib.hid (REPn.out.mvG m' (fun b h => by have h1 := h.1; have h2 := h.2; omega))
       replace BY := Lib.hid (m'.blk BY.out (by omega))
       clear m' hbt
       generalize (((((w104).setCell ⟨bt, 0, none⟩ (.int .i64 24)).setCell ⟨bt, 1, none⟩ (.string nm)).setCell ⟨bt, 2, none⟩ (.int .i64 0)).setCell ⟨bt, 3, none⟩ (.slice (some ⟨by_, 0, none⟩) 1 1)) = w105 at *
       refine hK.out _ _ trivial (fun hHeld => ?_)
       clear hK K
       (try simp only [List.getElem_toArray, List.getElem_cons_succ, List.getElem_cons_zero, Act.put, List.setIfInBounds_toArray, List.set_cons_zero, List.set_cons_succ])
       refine wpAnyH_done (by kernel_rfl) ?_ _
       clear hHeld
       have REPm := Lib.hid (one_kidV (V := (fun b => w2.heap.size ≤ b ∧ b ≠ bt)) (k := 24) (t := nm) (x := (Nd.mk nk nt nn nl)) BY.out REPn.out ⟨by omega, by omega⟩ hnm)
       clear REPn BY
       go_wp2_with fail
       go_roundg g
       case measure => omega
       case rel => exact ⟨24, nm, 0, [(Nd.mk nk nt nn nl)], some ⟨by_, 0, none⟩, 1, j51, b51, Lib.hid ⟨BT.out, REPm.out, HS.out, HM.out, KR.out, by omega, HR.out⟩⟩
      have b0 := BT.out.cell 0 (.int .i64 nk) rfl
      have b1 := BT.out.cell 1 (.string nt) rfl
      have b2 := BT.out.cell 2 (.int .i64 nn) rfl
      have b3 := BT.out.cell 3 (.slice An nl.length cn) rfl
      go_simp
      clear b0 b1 b2 b3
      refine hK.out _ _ trivial (fun hHeld => ?_)
      clear hK K
      (try simp only [List.getElem_toArray, List.getElem_cons_succ, List.getElem_cons_zero, Act.put, List.setIfInBounds_toArray, List.set_cons_zero, List.set_cons_succ])
      refine wpAnyH_ready (rs := [1, 3]) (by kernel_rfl) (by simp) (AllReadyH.cons rfl (fun K hK => ?_) (AllReadyH.cons rfl (fun K hK => ?_) AllReadyH.nil))
      ·go_simp
       refine (nameRd_any C _ _ false HS.out).mono ?_
       rintro e w103 ⟨nm, j51, b51, rfl, hsz, h', m', hf⟩
       have hnm := nm_max hsz
       replace HR := Lib.hid (mbr_seq HR.out HW.out hf)
       clear hf hsz
       have hsz103 := m'.size
       replace KR := Lib.hid (m'.blk KR.out (by omega))
       replace BT := Lib.hid (m'.blk BT.out (by omega))
       replace REPn := Lib.hid (REPn.out.mvG m' (fun b h => by have h1 := h.1; have h2 := h.2; omega))
       replace HS := Lib.hid h'
       replace HM := Lib.hid (HM.out.trans_ m')
       clear m'
       clear h'
       refine hK.out _ _ trivial (fun hHeld => ?_)
       clear hK K
       (try simp only [List.getElem_toArray, List.getElem_cons_succ, List.getElem_cons_zero, Act.put, List.setIfInBounds_toArray, List.set_cons_zero, List.set_cons_succ])
       refine wpAnyH_ready (rs := [3]) (by kernel_rfl) (by simp) (AllReadyH.cons rfl (fun K hK => ?_) AllReadyH.nil)
       go_simp
       have KX := Blk.new_ w103 24 #[.int .i64 nk, .string nt, .int .i64 nn, .slice An nl.length cn]
       have hb : Below w103.heap.size w103 (w103.alloc (.cells #[.int .i64 nk, .string nt, .int .i64 nn, .slice An nl.length cn] 24)) := by (repeat (first | with_reducible assumption | with_reducible exact Below.refl _ _ | (refine Below.setCell ?_ (by first | omega | (simp; done) | (simp; omega)) _) | (refine Below.drewN_ ?_ _) | (refine Below.drew ?_) | (refine Below.alloc ?_ (by first | omega | (simp; done) | (simp; omega)) _)))
       have hbzby_ : w103.heap.size < (w103.alloc (.cells #[.int .i64 nk, .string nt, .int .i64 nn, .slice An nl.length cn] 24)).heap.size := KX.lt
       have hsz104 := hb.size
       replace KR := Lib.hid (KR.out.below hb)
       replace BT := Lib.hid (BT.out.below hb)
       replace REPn := Lib.hid (REPn.out.belowG hb)
       replace HS := Lib.hid (HS.out.below hb)
       replace HM := Lib.hid (HM.out.below_ hb)
       clear hb
       have BY := Lib.hid KX
       clear KX
       have HBSby_ : Hid ((w103.alloc (.cells #[.int .i64 nk, .string nt, .int .i64 nn, .slice An nl.length cn] 24)).heap.size = w103.heap.size + 1) := by show _ = _; simp
       generalize (w103.alloc (.cells #[.int .i64 nk, .string nt, .int .i64 nn, .slice An nl.length cn] 24)) = w104 at *
       obtain ⟨by_, hbwby_⟩ : ∃ x, x = w103.heap.size := ⟨_, rfl⟩
       rw [← hbwby_] at BY
       have hbvby_ : w103.heap.size ≤ by_ := by omega
       have hbxby_ : by_ < w104.heap.size := by omega
       rw [← hbwby_]
       clear hbwby_
       refine hK.out _ _ trivial (fun hHeld => ?_)
       clear hK K
       (try simp only [List.getElem_toArray, List.getElem_cons_succ, List.getElem_cons_zero, Act.put, List.setIfInBounds_toArray, List.set_cons_zero, List.set_cons_succ])
       ((refine wpAnyH_take (i := 4) (v := ?_) rfl (by kernel_rfl) (by kernel_rfl) (by kernel_rfl) (fun _ _ _ h => h) (Or.inl ⟨by rfl, ?_⟩) (by assumption) ?_; rotate_left; · ((intro w hSw; (try dsimp only at hSw); go_simp) <;> with_reducible rfl); (try simp only [List.getElem_toArray, List.getElem_cons_succ, List.getElem_cons_zero, Act.put, List.setIfInBounds_toArray, List.set_cons_zero, List.set_cons_succ])))
       refine wpAnyH_ready (rs := [5]) (by kernel_rfl) (by simp) (AllReadyH.cons rfl (fun K hK => ?_) AllReadyH.nil)
       have f0 := BT.out.free 0
       have g0 := BT.out.cell 0 (.int .i64 nk) rfl
       have f1 := BT.out.free 1
       have g1 := BT.out.cell 1 (.string nt) rfl
       have f2 := BT.out.free 2
       have g2 := BT.out.cell 2 (.int .i64 nn) rfl
       have f3 := BT.out.free 3
       have g3 := BT.out.cell 3 (.slice An nl.length cn) rfl
       go_simp
       clear f0 f1 f2 f3 g0 g1 g2 g3
       have m' := put4_mv w104 bt (.int .i64 24) (.string nm) (.int .i64 0) (.slice (some ⟨by_, 0, none⟩) 1 1)
       have hbt := blk_put4 BT.out (.int .i64 24) (.string nm) (.int .i64 0) (.slice (some ⟨by_, 0, none⟩) 1 1)
       have hsz105 := m'.size
       replace HS := Lib.hid (RSt.put H0.out HS.out HM.out (by omega) m')
       replace HM := Lib.hid (HM.out.put (by omega) m')
       replace KR := Lib.hid (m'.blk KR.out (by omega))
       replace BT := Lib.hid hbt
       replace REPn := Lib.hid (REPn.out.mvG m' (fun b h => by have h1 := h.1; have h2 := h.2; omega))
       replace BY := Lib.hid (m'.blk BY.out (by omega))
       clear m' hbt
       generalize (((((w104).setCell ⟨bt, 0, none⟩ (.int .i64 24)).setCell ⟨bt, 1, none⟩ (.string nm)).setCell ⟨bt, 2, none⟩ (.int .i64 0)).setCell ⟨bt, 3, none⟩ (.slice (some ⟨by_, 0, none⟩) 1 1)) = w105 at *
       refine hK.out _ _ trivial (fun hHeld => ?_)
       clear hK K
       (try simp only [List.getElem_toArray, List.getElem_cons_succ, List.getElem_cons_zero, Act.put, List.setIfInBounds_toArray, List.set_cons_zero, List.set_cons_succ])
       refine wpAnyH_done (by kernel_rfl) ?_ _
       clear hHeld
       have REPm := Lib.hid (one_kidV (V := (fun b => w2.heap.size ≤ b ∧ b ≠ bt)) (k := 24) (t := nm) (x := (Nd.mk nk nt nn nl)) BY.out REPn.out ⟨by omega, by omega⟩ hnm)
       clear REPn BY
       go_wp2_with fail
       go_roundg g
       case measure => omega
       case rel => exact ⟨24, nm, 0, [(Nd.mk nk nt nn nl)], some ⟨by_, 0, none⟩, 1, j51, b51, Lib.hid ⟨BT.out, REPm.out, HS.out, HM.out, KR.out, by omega, HR.out⟩⟩
      go_simp
      have KX := Blk.new_ w102 24 #[.int .i64 nk, .string nt, .int .i64 nn, .slice An nl.length cn]
      have hb : Below w102.heap.size w102 (w102.alloc (.cells #[.int .i64 nk, .string nt, .int .i64 nn, .slice An nl.length cn] 24)) := by (repeat (first | with_reducible assumption | with_reducible exact Below.refl _ _ | (refine Below.setCell ?_ (by first | omega | (simp; done) | (simp; omega)) _) | (refine Below.drewN_ ?_ _) | (refine Below.drew ?_) | (refine Below.alloc ?_ (by first | omega | (simp; done) | (simp; omega)) _)))
      have hbzby_ : w102.heap.size < (w102.alloc (.cells #[.int .i64 nk, .string nt, .int .i64 nn, .slice An nl.length cn] 24)).heap.size := KX.lt
      have hsz103 := hb.size
      replace KR := Lib.hid (KR.out.below hb)
      replace BT := Lib.hid (BT.out.below hb)
      replace REPn := Lib.hid (REPn.out.belowG hb)
      replace HS := Lib.hid (HS.out.below hb)
      replace HM := Lib.hid (HM.out.below_ hb)
      clear hb
      have BY := Lib.hid KX
      clear KX
      have HBSby_ : Hid ((w102.alloc (.cells #[.int .i64 nk, .string nt, .int .i64 nn, .slice An nl.length cn] 24)).heap.size = w102.heap.size + 1) := by show _ = _; simp
      generalize (w102.alloc (.cells #[.int .i64 nk, .string nt, .int .i64 nn, .slice An nl.length cn] 24)) = w103 at *
      obtain ⟨by_, hbwby_⟩ : ∃ x, x = w102.heap.size := ⟨_, rfl⟩
      rw [← hbwby_] at BY
      have hbvby_ : w102.heap.size ≤ by_ := by omega
      have hbxby_ : by_ < w103.heap.size := by omega
      rw [← hbwby_]
      clear hbwby_
      refine hK.out _ _ trivial (fun hHeld => ?_)
      clear hK K
      (try simp only [List.getElem_toArray, List.getElem_cons_succ, List.getElem_cons_zero, Act.put, List.setIfInBounds_toArray, List.set_cons_zero, List.set_cons_succ])
      refine wpAnyH_ready (rs := [1]) (by kernel_rfl) (by simp) (AllReadyH.cons rfl (fun K hK => ?_) AllReadyH.nil)
      go_simp
      refine (nameRd_any C _ _ false HS.out).mono ?_
      rintro e w104 ⟨nm, j51, b51, rfl, hsz, h', m', hf⟩
      have hnm := nm_max hsz
      replace HR := Lib.hid (mbr_seq HR.out HW.out hf)
      clear hf hsz
      have hsz104 := m'.size
      replace KR := Lib.hid (m'.blk KR.out (by omega))
      replace BT := Lib.hid (m'.blk BT.out (by omega))
      replace REPn := Lib.hid (REPn.out.mvG m' (fun b h => by have h1 := h.1; have h2 := h.2; omega))
      replace BY := Lib.hid (m'.blk BY.out (by omega))
      replace HS := Lib.hid h'
      replace HM := Lib.hid (HM.out.trans_ m')
      clear m'
      clear h'
      refine hK.out _ _ trivial (fun hHeld => ?_)
      clear hK K
      (try simp only [List.getElem_toArray, List.getElem_cons_succ, List.getElem_cons_zero, Act.put, List.setIfInBounds_toArray, List.set_cons_zero, List.set_cons_succ])
      ((refine wpAnyH_take (i := 4) (v := ?_) rfl (by kernel_rfl) (by kernel_rfl) (by kernel_rfl) (fun _ _ _ h => h) (Or.inl ⟨by rfl, ?_⟩) (by assumption) ?_; rotate_left; · ((intro w hSw; (try dsimp only at hSw); go_simp) <;> with_reducible rfl); (try simp only [List.getElem_toArray, List.getElem_cons_succ, List.getElem_cons_zero, Act.put, List.setIfInBounds_toArray, List.set_cons_zero, List.set_cons_succ])))
      refine wpAnyH_ready (rs := [5]) (by kernel_rfl) (by simp) (AllReadyH.cons rfl (fun K hK => ?_) AllReadyH.nil)
      have f0 := BT.out.free 0
      have g0 := BT.out.cell 0 (.int .i64 nk) rfl
      have f1 := BT.out.free 1
      have g1 := BT.out.cell 1 (.string nt) rfl
      have f2 := BT.out.free 2
      have g2 := BT.out.cell 2 (.int .i64 nn) rfl
      have f3 := BT.out.free 3
      have g3 := BT.out.cell 3 (.slice An nl.length cn) rfl
      go_simp
      clear f0 f1 f2 f3 g0 g1 g2 g3
      have m' := put4_mv w104 bt (.int .i64 24) (.string nm) (.int .i64 0) (.slice (some ⟨by_, 0, none⟩) 1 1)
      have hbt := blk_put4 BT.out (.int .i64 24) (.string nm) (.int .i64 0) (.slice (some ⟨by_, 0, none⟩) 1 1)
      have hsz105 := m'.size
      replace HS := Lib.hid (RSt.put H0.out HS.out HM.out (by omega) m')
      replace HM := Lib.hid (HM.out.put (by omega) m')
      replace KR := Lib.hid (m'.blk KR.out (by omega))
      replace BT := Lib.hid hbt
      replace REPn := Lib.hid (REPn.out.mvG m' (fun b h => by have h1 := h.1; have h2 := h.2; omega))
      replace BY := Lib.hid (m'.blk BY.out (by omega))
      clear m' hbt
      generalize (((((w104).setCell ⟨bt, 0, none⟩ (.int .i64 24)).setCell ⟨bt, 1, none⟩ (.string nm)).setCell ⟨bt, 2, none⟩ (.int .i64 0)).setCell ⟨bt, 3, none⟩ (.slice (some ⟨by_, 0, none⟩) 1 1)) = w105 at *
      refine hK.out _ _ trivial (fun hHeld => ?_)
      clear hK K
      (try simp only [List.getElem_toArray, List.getElem_cons_succ, List.getElem_cons_zero, Act.put, List.setIfInBounds_toArray, List.set_cons_zero, List.set_cons_succ])
      refine wpAnyH_done (by kernel_rfl) ?_ _
      clear hHeld
      have REPm := Lib.hid (one_kidV (V := (fun b => w2.heap.size ≤ b ∧ b ≠ bt)) (k := 24) (t := nm) (x := (Nd.mk nk nt nn nl)) BY.out REPn.out ⟨by omega, by omega⟩ hnm)
      clear REPn BY
      go_wp2_with fail
      go_roundg g
      case measure => omega
      case rel => exact ⟨24, nm, 0, [(Nd.mk nk nt nn nl)], some ⟨by_, 0, none⟩, 1, j51, b51, Lib.hid ⟨BT.out, REPm.out, HS.out, HM.out, KR.out, by omega, HR.out⟩⟩
   have HV := Lib.hid (eat_any C _ _ b ⟨#[33]⟩ HS.out (by decide))
   rw [ht] at HV
   unfold EatOut at HV
   obtain ⟨hb, hyt⟩ := eat_yes ht
   clear ht
   cases hb
   replace HR := Lib.hid (mbr_yes (j := i + 1) HR.out hyt)
   clear hyt
   refine HV.out.mono ?_
   rintro e w2 ⟨rfl, h', m'⟩
   clear HV
   have hsz2 := m'.size
   replace KR := Lib.hid (m'.blk KR.out (by omega))
   replace HS := Lib.hid (show RSt C w2 (i + 1) false by simpa using h')
   replace HM := Lib.hid (HM.out.trans_ m')
   clear m'
   clear h'
   go_wp2_with fail
   have hpx := HS.out.lt
   refine (IH.out _ _ false HS.out (mbr_wet HR.out HW.out)).mono ?_
   rintro e w3 ⟨⟨xk, xt, xn, xl⟩, Ax, cx, j1, b1, rfl, hrep, h', m', hf⟩
   replace HR := Lib.hid (mbr_seq HR.out HW.out hf)
   simp only [Nd.k, Nd.t, Nd.num, Nd.kids] at hrep ⊢
   have REPx := Lib.hid (hrep.toI (E := w3.heap.size) rfl)
   clear hf hrep
   have hsz3 := m'.size
   replace KR := Lib.hid (m'.blk KR.out (by omega))
   replace HS := Lib.hid h'
   replace HM := Lib.hid (HM.out.trans_ m')
   clear m'
   clear h'
   go_upto_region 6 with (fail)
   have KX := Blk.new_ w3 24 #[.int .i64 xk, .string xt, .int .i64 xn, .slice Ax xl.length cx]
   have hb : Below w3.heap.size w3 (w3.alloc (.cells #[.int .i64 xk, .string xt, .int .i64 xn, .slice Ax xl.length cx] 24)) := by (repeat (first | with_reducible assumption | with_reducible exact Below.refl _ _ | (refine Below.setCell ?_ (by first | omega | (simp; done) | (simp; omega)) _) | (refine Below.drewN_ ?_ _) | (refine Below.drew ?_) | (refine Below.alloc ?_ (by first | omega | (simp; done) | (simp; omega)) _)))
   have hbzbx : w3.heap.size < (w3.alloc (.cells #[.int .i64 xk, .string xt, .int .i64 xn, .slice Ax xl.length cx] 24)).heap.size := KX.lt
   have hsz4 := hb.size
   replace KR := Lib.hid (KR.out.below hb)
   replace REPx := Lib.hid (REPx.out.belI hb)
   replace HS := Lib.hid (HS.out.below hb)
   replace HM := Lib.hid (HM.out.below_ hb)
   clear hb
   have BX := Lib.hid KX
   clear KX
   have HBSbx : Hid ((w3.alloc (.cells #[.int .i64 xk, .string xt, .int .i64 xn, .slice Ax xl.length cx] 24)).heap.size = w3.heap.size + 1) := by show _ = _; simp
   generalize (w3.alloc (.cells #[.int .i64 xk, .string xt, .int .i64 xn, .slice Ax xl.length cx] 24)) = w4 at *
   obtain ⟨bx, hbwbx⟩ : ∃ x, x = w3.heap.size := ⟨_, rfl⟩
   rw [← hbwbx] at BX
   have hbvbx : w3.heap.size ≤ bx := by omega
   have hbxbx : bx < w4.heap.size := by omega
   rw [← hbwbx]
   clear hbwbx
   have bBX0 := BX.out.cell 0 (.int .i64 xk) rfl
   have bBX1 := BX.out.cell 1 (.string xt) rfl
   have bBX2 := BX.out.cell 2 (.int .i64 xn) rfl
   have bBX3 := BX.out.cell 3 (.slice Ax xl.length cx) rfl
   have f0 := KR.out.free 0
   have g0 := KR.out.cell 0 (.int .i64 0) rfl
   have f1 := KR.out.free 1
   have g1 := KR.out.cell 1 (.string ⟨#[]⟩) rfl
   have f2 := KR.out.free 2
   have g2 := KR.out.cell 2 (.int .i64 0) rfl
   have f3 := KR.out.free 3
   have g3 := KR.out.cell 3 (.slice none 0 0) rfl
   have hneby_ := Nat.ne_of_lt (KR.out.lt)
   have hltby_ := KR.out.lt
   go_wp2_with fail
   clear f0 f1 f2 f3 g0 g1 g2 g3 hneby_ hltby_
   have m' := put4_mv w4 w.heap.size (.int .i64 29) (.string ⟨#[]⟩) (.int .i64 0) (.slice (some ⟨w4.heap.size, 0, none⟩) 1 1)
   have hbt := blk_put4 KR.out (.int .i64 29) (.string ⟨#[]⟩) (.int .i64 0) (.slice (some ⟨w4.heap.size, 0, none⟩) 1 1)
   have hsq : (((((w4).setCell ⟨w.heap.size, 0, none⟩ (.int .i64 29)).setCell ⟨w.heap.size, 1, none⟩ (.string ⟨#[]⟩)).setCell ⟨w.heap.size, 2, none⟩ (.int .i64 0)).setCell ⟨w.heap.size, 3, none⟩ (.slice (some ⟨w4.heap.size, 0, none⟩) 1 1)).heap.size = w4.heap.size := by simp [World.setCell]
   have hsz5 := m'.size
   replace HS := Lib.hid (RSt.put H0.out HS.out HM.out (by omega) m')
   replace HM := Lib.hid (HM.out.put (by omega) m')
   replace KR := Lib.hid hbt
   replace REPx := Lib.hid (REPx.out.mvI m' (by omega))
   replace BX := Lib.hid (m'.blk BX.out (by omega))
   clear m' hbt
   generalize (((((w4).setCell ⟨w.heap.size, 0, none⟩ (.int .i64 29)).setCell ⟨w.heap.size, 1, none⟩ (.string ⟨#[]⟩)).setCell ⟨w.heap.size, 2, none⟩ (.int .i64 0)).setCell ⟨w.heap.size, 3, none⟩ (.slice (some ⟨w4.heap.size, 0, none⟩) 1 1)) = w5 at *
   have KX := Blk.new_ w5 24 #[.int .i64 xk, .string xt, .int .i64 xn, .slice Ax xl.length cx]
   rw [hsq] at KX
   have hb : Below w5.heap.size w5 (w5.alloc (.cells #[.int .i64 xk, .string xt, .int .i64 xn, .slice Ax xl.length cx] 24)) := by (repeat (first | with_reducible assumption | with_reducible exact Below.refl _ _ | (refine Below.setCell ?_ (by first | omega | (simp; done) | (simp; omega)) _) | (refine Below.drewN_ ?_ _) | (refine Below.drew ?_) | (refine Below.alloc ?_ (by first | omega | (simp; done) | (simp; omega)) _)))
   have hsz6 := hb.size
   replace KR := Lib.hid (KR.out.below hb)
   replace REPx := Lib.hid (REPx.out.belI hb)
   replace BX := Lib.hid (BX.out.below hb)
   replace HS := Lib.hid (HS.out.below hb)
   replace HM := Lib.hid (HM.out.below_ hb)
   clear hb
   have BY := Lib.hid KX
   clear KX
   generalize (w5.alloc (.cells #[.int .i64 xk, .string xt, .int .i64 xn, .slice Ax xl.length cx] 24)) = w6 at *
   obtain ⟨by_, hbwby_⟩ : ∃ x, x = w4.heap.size := ⟨_, rfl⟩
   rw [← hbwby_] at BY KR
   have hbvby_ : w4.heap.size ≤ by_ := by omega
   have hbxby_ : by_ < w6.heap.size := BY.out.lt
   rw [← hbwby_]
   clear hbwby_ hsq
   exact bodyPost_ret (v := .agg _) (results_cell4 (fn := Tryz.f125) rfl KR.out rfl) rfl (by exact ⟨(Nd.mk 29 ⟨#[]⟩ 0 [(Nd.mk xk xt xn xl)]), (some ⟨by_, 0, none⟩), 1, j1, b1, rfl, (one_kidV (V := From w.heap.size) (k := 29) (t := ⟨#[]⟩) (x := (Nd.mk xk xt xn xl)) BY.out (REPx.out.ofI fun b h1 h2 => by show w.heap.size ≤ b; omega) (by show w.heap.size ≤ by_; omega) (Nat.zero_le _)), HS.out, HM.out, (mbr_fin HR.out)⟩)
  have HV := Lib.hid (eat_any C _ _ b ⟨#[45]⟩ HS.out (by decide))
  rw [ht] at HV
  unfold EatOut at HV
  obtain ⟨hb, hyt⟩ := eat_yes ht
  clear ht
  cases hb
  replace HR := Lib.hid (mbr_yes (j := i + 1) HR.out hyt)
  clear hyt
  refine HV.out.mono ?_
  rintro e w1 ⟨rfl, h', m'⟩
  clear HV
  have hsz1 := m'.size
  replace KR := Lib.hid (m'.blk KR.out (by omega))
  replace HS := Lib.hid (show RSt C w1 (i + 1) false by simpa using h')
  replace HM := Lib.hid (HM.out.trans_ m')
  clear m'
  clear h'
  go_wp2_with fail
  have hpx := HS.out.lt
  refine (IH.out _ _ false HS.out (mbr_wet HR.out HW.out)).mono ?_
  rintro e w2 ⟨⟨xk, xt, xn, xl⟩, Ax, cx, j1, b1, rfl, hrep, h', m', hf⟩
  replace HR := Lib.hid (mbr_seq HR.out HW.out hf)
  simp only [Nd.k, Nd.t, Nd.num, Nd.kids] at hrep ⊢
  have REPx := Lib.hid (hrep.toI (E := w2.heap.size) rfl)
  clear hf hrep
  have hsz2 := m'.size
  replace KR := Lib.hid (m'.blk KR.out (by omega))
  replace HS := Lib.hid h'
  replace HM := Lib.hid (HM.out.trans_ m')
  clear m'
  clear h'
  go_upto_region 3 with (fail)
  have KX := Blk.new_ w2 24 #[.int .i64 xk, .string xt, .int .i64 xn, .slice Ax xl.length cx]
  have hb : Below w2.heap.size w2 (w2.alloc (.cells #[.int .i64 xk, .string xt, .int .i64 xn, .slice Ax xl.length cx] 24)) := by (repeat (first | with_reducible assumption | with_reducible exact Below.refl _ _ | (refine Below.setCell ?_ (by first | omega | (simp; done) | (simp; omega)) _) | (refine Below.drewN_ ?_ _) | (refine Below.drew ?_) | (refine Below.alloc ?_ (by first | omega | (simp; done) | (simp; omega)) _)))
  have hbzbx : w2.heap.size < (w2.alloc (.cells #[.int .i64 xk, .string xt, .int .i64 xn, .slice Ax xl.length cx] 24)).heap.size := KX.lt
  have hsz3 := hb.size
  replace KR := Lib.hid (KR.out.below hb)
  replace REPx := Lib.hid (REPx.out.belI hb)
  replace HS := Lib.hid (HS.out.below hb)
  replace HM := Lib.hid (HM.out.below_ hb)
  clear hb
  have BX := Lib.hid KX
  clear KX
  have HBSbx : Hid ((w2.alloc (.cells #[.int .i64 xk, .string xt, .int .i64 xn, .slice Ax xl.length cx] 24)).heap.size = w2.heap.size + 1) := by show _ = _; simp
  generalize (w2.alloc (.cells #[.int .i64 xk, .string xt, .int .i64 xn, .slice Ax xl.length cx] 24)) = w3 at *
  obtain ⟨bx, hbwbx⟩ : ∃ x, x = w2.heap.size := ⟨_, rfl⟩
  rw [← hbwbx] at BX
  have hbvbx : w2.heap.size ≤ bx := by omega
  have hbxbx : bx < w3.heap.size := by omega
  rw [← hbwbx]
  clear hbwbx
  have bBX0 := BX.out.cell 0 (.int .i64 xk) rfl
  have bBX1 := BX.out.cell 1 (.string xt) rfl
  have bBX2 := BX.out.cell 2 (.int .i64 xn) rfl
  have bBX3 := BX.out.cell 3 (.slice Ax xl.length cx) rfl
  have f0 := KR.out.free 0
  have g0 := KR.out.cell 0 (.int .i64 0) rfl
  have f1 := KR.out.free 1
  have g1 := KR.out.cell 1 (.string ⟨#[]⟩) rfl
  have f2 := KR.out.free 2
  have g2 := KR.out.cell 2 (.int .i64 0) rfl
  have f3 := KR.out.free 3
  have g3 := KR.out.cell 3 (.slice none 0 0) rfl
  have hneby_ := Nat.ne_of_lt (KR.out.lt)
  have hltby_ := KR.out.lt
  go_wp2_with fail
  clear f0 f1 f2 f3 g0 g1 g2 g3 hneby_ hltby_
  have m' := put4_mv w3 w.heap.size (.int .i64 28) (.string ⟨#[]⟩) (.int .i64 0) (.slice (some ⟨w3.heap.size, 0, none⟩) 1 1)
  have hbt := blk_put4 KR.out (.int .i64 28) (.string ⟨#[]⟩) (.int .i64 0) (.slice (some ⟨w3.heap.size, 0, none⟩) 1 1)
  have hsq : (((((w3).setCell ⟨w.heap.size, 0, none⟩ (.int .i64 28)).setCell ⟨w.heap.size, 1, none⟩ (.string ⟨#[]⟩)).setCell ⟨w.heap.size, 2, none⟩ (.int .i64 0)).setCell ⟨w.heap.size, 3, none⟩ (.slice (some ⟨w3.heap.size, 0, none⟩) 1 1)).heap.size = w3.heap.size := by simp [World.setCell]
  have hsz4 := m'.size
  replace HS := Lib.hid (RSt.put H0.out HS.out HM.out (by omega) m')
  replace HM := Lib.hid (HM.out.put (by omega) m')
  replace KR := Lib.hid hbt
  replace REPx := Lib.hid (REPx.out.mvI m' (by omega))
  replace BX := Lib.hid (m'.blk BX.out (by omega))
  clear m' hbt
  generalize (((((w3).setCell ⟨w.heap.size, 0, none⟩ (.int .i64 28)).setCell ⟨w.heap.size, 1, none⟩ (.string ⟨#[]⟩)).setCell ⟨w.heap.size, 2, none⟩ (.int .i64 0)).setCell ⟨w.heap.size, 3, none⟩ (.slice (some ⟨w3.heap.size, 0, none⟩) 1 1)) = w4 at *
  have KX := Blk.new_ w4 24 #[.int .i64 xk, .string xt, .int .i64 xn, .slice Ax xl.length cx]
  rw [hsq] at KX
  have hb : Below w4.heap.size w4 (w4.alloc (.cells #[.int .i64 xk, .string xt, .int .i64 xn, .slice Ax xl.length cx] 24)) := by (repeat (first | with_reducible assumption | with_reducible exact Below.refl _ _ | (refine Below.setCell ?_ (by first | omega | (simp; done) | (simp; omega)) _) | (refine Below.drewN_ ?_ _) | (refine Below.drew ?_) | (refine Below.alloc ?_ (by first | omega | (simp; done) | (simp; omega)) _)))
  have hsz5 := hb.size
  replace KR := Lib.hid (KR.out.below hb)
  replace REPx := Lib.hid (REPx.out.belI hb)
  replace BX := Lib.hid (BX.out.below hb)
  replace HS := Lib.hid (HS.out.below hb)
  replace HM := Lib.hid (HM.out.below_ hb)
  clear hb
  have BY := Lib.hid KX
  clear KX
  generalize (w4.alloc (.cells #[.int .i64 xk, .string xt, .int .i64 xn, .slice Ax xl.length cx] 24)) = w5 at *
  obtain ⟨by_, hbwby_⟩ : ∃ x, x = w3.heap.size := ⟨_, rfl⟩
  rw [← hbwby_] at BY KR
  have hbvby_ : w3.heap.size ≤ by_ := by omega
  have hbxby_ : by_ < w5.heap.size := BY.out.lt
  rw [← hbwby_]
  clear hbwby_ hsq
  exact bodyPost_ret (v := .agg _) (results_cell4 (fn := Tryz.f125) rfl KR.out rfl) rfl (by exact ⟨(Nd.mk 28 ⟨#[]⟩ 0 [(Nd.mk xk xt xn xl)]), (some ⟨by_, 0, none⟩), 1, j1, b1, rfl, (one_kidV (V := From w.heap.size) (k := 28) (t := ⟨#[]⟩) (x := (Nd.mk xk xt xn xl)) BY.out (REPx.out.ofI fun b h1 h2 => by show w.heap.size ≤ b; omega) (by show w.heap.size ≤ by_; omega) (Nat.zero_le _)), HS.out, HM.out, (mbr_fin HR.out)⟩)
end Go.Proofs.YtgegfbopogcjpaaGreatDoor
