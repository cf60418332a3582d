/- The reference's reader: text, fail, eat, must, isName, name; The reference's reader's small functions, over a walk's one fact; The reference's reader: declarations: struct; The reference's reader: declarations: extern. -/
import Derived.Test.YtgegfbopogcjpaaGreatDoorQ04
import Derived.Test.YtgegfbopogcjpaaGreatDoorQ09
import Derived.Test.YtgegfbopogcjpaaGreatDoorQ10
import Derived.BigQuiet
namespace Go.Proofs.YtgegfbopogcjpaaGreatDoor
open Go.RowKit
set_option linter.unusedVariables false
set_option linter.unusedSimpArgs false
set_option maxRecDepth 100000
set_option maxHeartbeats 1000000
theorem txtR_any (C : RC) (w : World) (i k : Nat) (b : Bool) (h : RSt C w i b) (hk : k ≤ 1) : Calls Tryz.prog 44 #[.pointer (some ⟨C.p, 0, none⟩), .int .i64 (k : Int)] w fun e w' => e = .returned (.string (txR C.L (i + k))) ∧ Below w.heap.size w w' := by
 have HROW := Lib.hid h.row
 have H := Lib.hid h
 obtain ⟨R, HR⟩ : ∃ R, Hid (txR C.L (i + k) = R) := ⟨_, rfl⟩
 rw [HR.out]
 have len := h.len
 have hat := h.at_
 have hw : IntKind.i64.wrap ((i : Int) + (k : Int)) = (i : Int) + (k : Int) := IntWalk.i64_in _ (by omega)
 have ht : ((i : Int) + (k : Int)).toNat = i + k := by omega
 clear h
 obtain ⟨p, A, c, L⟩ := C
 simp only at *
 have q1 := H.out.blk.cell 1 (.int .i64 (i : Int)) rfl
 simp only [Nat.zero_add] at q1
 by_cases hlt : i + k < L.length
 ·have i1 : (i : Int) + (k : Int) < (L.length : Int) := by omega
  have i2 : ¬ (L.length : Int) ≤ (i : Int) + (k : Int) := by omega
  have i0 : 0 ≤ (i : Int) + (k : Int) := by omega
  have d1 : decide ((L.length : Int) ≤ (i : Int) + (k : Int)) = false := by simpa using i1
  have HR2 : Hid (R = if L[i + k].k = 2 ∨ L[i + k].k = 3 then ⟨#[]⟩ else L[i + k].s) := by show _ = _; rw [← HR.out]; unfold txR; rw [List.getElem?_eq_getElem hlt]
  obtain ⟨b0, o, rfl, hbl, c0, c1, -⟩ := tok_cells HROW.out hlt
  have q0 := H.out.blk.cell 0 (.slice (some ⟨b0, o, none⟩) L.length c) rfl
  generalize L[i + k].k = tk at *
  generalize L[i + k].s = ts at *
  clear HR hlt HROW
  generalize L.length = n at *
  by_cases h2 : tk = 2
  ·subst h2
   have HR3 : Hid (R = ⟨#[]⟩) := by show _ = _; rw [HR2.out]; simp
   clear HR2
   go_enter Tryz.func44, Tryz.ntmps44
   go_wp2_with fail
   go_quiet (fail)
   go_wp2_with fail
   go_ret
   exact ⟨by rw [HR3.out]; rfl, by (repeat (first | with_reducible assumption | with_reducible exact Below.refl _ _ | (refine Below.setCell ?_ (by first | omega | (simp; done) | (simp; omega)) _) | (refine Below.drewN_ ?_ _) | (refine Below.drew ?_) | (refine Below.alloc ?_ (by first | omega | (simp; done) | (simp; omega)) _)))⟩
  ·have e2 : (tk == 2) = false := by simpa using h2
   by_cases h3 : tk = 3
   ·subst h3
    have HR3 : Hid (R = ⟨#[]⟩) := by show _ = _; rw [HR2.out]; simp
    clear HR2 h2
    go_enter Tryz.func44, Tryz.ntmps44
    go_wp2_with fail
    go_quiet (fail)
    go_wp2_with fail
    go_ret
    exact ⟨by rw [HR3.out]; rfl, by (repeat (first | with_reducible assumption | with_reducible exact Below.refl _ _ | (refine Below.setCell ?_ (by first | omega | (simp; done) | (simp; omega)) _) | (refine Below.drewN_ ?_ _) | (refine Below.drew ?_) | (refine Below.alloc ?_ (by first | omega | (simp; done) | (simp; omega)) _)))⟩
   ·have e3 : (tk == 3) = false := by simpa using h3
    have HR3 : Hid (R = ts) := by show _ = _; rw [HR2.out, if_neg (by omega)]
    clear HR2 h2 h3
    go_enter Tryz.func44, Tryz.ntmps44
    go_wp2_with fail
    go_quiet (fail)
    go_wp2_with fail
    go_quiet (fail)
    go_wp2_with fail
    go_ret
    exact ⟨by rw [HR3.out]; rfl, by (repeat (first | with_reducible assumption | with_reducible exact Below.refl _ _ | (refine Below.setCell ?_ (by first | omega | (simp; done) | (simp; omega)) _) | (refine Below.drewN_ ?_ _) | (refine Below.drew ?_) | (refine Below.alloc ?_ (by first | omega | (simp; done) | (simp; omega)) _)))⟩
 ·have i1 : ¬ (i : Int) + (k : Int) < (L.length : Int) := by omega
  have i2 : (L.length : Int) ≤ (i : Int) + (k : Int) := by omega
  have d1 : decide ((L.length : Int) ≤ (i : Int) + (k : Int)) = true := by simpa using i2
  have HR3 : Hid (R = ⟨#[]⟩) := by show _ = _; rw [← HR.out]; unfold txR; rw [List.getElem?_eq_none (by omega)]
  have q0 := H.out.blk.cell 0 (.slice A L.length c) rfl
  clear HR hlt HROW
  generalize L.length = n at *
  go_enter Tryz.func44, Tryz.ntmps44
  go_wp2_with fail
  go_quiet (fail)
  go_wp2_with fail
  go_ret
  exact ⟨by rw [HR3.out]; rfl, by (repeat (first | with_reducible assumption | with_reducible exact Below.refl _ _ | (refine Below.setCell ?_ (by first | omega | (simp; done) | (simp; omega)) _) | (refine Below.drewN_ ?_ _) | (refine Below.drew ?_) | (refine Below.alloc ?_ (by first | omega | (simp; done) | (simp; omega)) _)))⟩
theorem failR_any (C : RC) (w : World) (i : Nat) (b : Bool) (h : RSt C w i b) : Calls Tryz.prog 78 #[.pointer (some ⟨C.p, 0, none⟩)] w fun e w' => e = .returned (.tuple #[]) ∧ RSt C w' i true ∧ Mv C.p w w' := by
 have H := Lib.hid h
 have f2 := h.blk.free 2
 have q2 := h.blk.cell 2 (.bool b) rfl
 clear h
 go_enter Tryz.func78, Tryz.ntmps78
 go_wp2_with fail
 go_end0
 exact ⟨rfl, H.out.fails.1, H.out.fails.2⟩
def EatOut (C : RC) (v : Bool) (i : Nat) (b : Bool) (w : World) (e : Ending) (w' : World) : Prop := e = .returned (.bool v) ∧ RSt C w' (if v = true then i + 1 else i) b ∧ Mv C.p w w'
theorem eat_any (C : RC) (w : World) (i : Nat) (b : Bool) (s : ByteArray) (h : RSt C w i b) (hs : s ≠ ⟨#[]⟩) : Calls Tryz.prog 40 #[.pointer (some ⟨C.p, 0, none⟩), .string s] w (EatOut C (!b && tIs C.L s i) i b w) := by
 have H := Lib.hid h
 have len := h.len
 have hat := h.at_
 have TX := Lib.hid (txtR_any C w i 0 b h (by omega))
 rw [Nat.add_zero] at TX
 have HIS := Lib.hid (txR_is h.ok hs i)
 have q1 := h.blk.cell 1 (.int .i64 (i : Int)) rfl
 have q2 := h.blk.cell 2 (.bool b) rfl
 clear h hs
 unfold EatOut
 cases b with
 | true =>
  simp only [Bool.not_true, Bool.false_and, Bool.false_eq_true, if_false]
  go_enter Tryz.func40, Tryz.ntmps40
  go_wp2_with fail
  go_ret
  exact ⟨rfl, H.out, Mv.refl_ _ _⟩
 | false =>
  simp only [Bool.not_false, Bool.true_and]
  rcases hb : tIs C.L s i with _ | _
  ·have hne := HIS.out
   rw [hb] at hne
   have HNE := Lib.hid (of_decide_eq_false hne)
   have hx : ((txR C.L i).toList == s.toList) = false := by rw [str_beq]; exact hne
   simp only [Bool.false_eq_true, if_false]
   generalize txR C.L i = t at *
   clear hne HIS HNE hb
   go_enter Tryz.func40, Tryz.ntmps40
   go_wp2_with fail
   refine TX.out.mono ?_
   rintro e w1 ⟨rfl, hb1⟩
   have HB := Lib.hid hb1
   clear hb1
   go_wp2_with fail
   go_ret
   exact ⟨rfl, H.out.below HB.out, mv_below HB.out⟩
  ·have hlt := tIs_lt hb
   have hne := HIS.out
   rw [hb] at hne
   have hx : ((txR C.L i).toList == s.toList) = true := by rw [str_beq]; exact hne
   simp only [if_true]
   generalize txR C.L i = t at *
   clear hne HIS hb
   have hw : IntKind.i64.wrap ((i : Int) + 1) = (i : Int) + 1 := IntWalk.i64_in _ (by omega)
   go_enter Tryz.func40, Tryz.ntmps40
   go_wp2_with fail
   refine TX.out.mono ?_
   rintro e w1 ⟨rfl, hb1⟩
   have HB := Lib.hid hb1
   have H1 := Lib.hid (H.out.below hb1)
   have q1 := H1.out.blk.cell 1 (.int .i64 (i : Int)) rfl
   have f1 := H1.out.blk.free 1
   clear hb1
   go_wp2_with fail
   go_ret
   have hm := H1.out.move (i + 1) (by omega)
   exact ⟨rfl, hm.1, (mv_below HB.out).trans_ hm.2⟩
def MustOut (C : RC) (r : Res Unit) (w : World) (e : Ending) (w' : World) : Prop := ∃ j b, e = .returned (.tuple #[]) ∧ RSt C w' j b ∧ Mv C.p w w' ∧ Fol r () j b
theorem must_any (C : RC) (w : World) (i : Nat) (b : Bool) (s : ByteArray) (h : RSt C w i b) (hs : s ≠ ⟨#[]⟩) : Calls Tryz.prog 42 #[.pointer (some ⟨C.p, 0, none⟩), .string s] w (MustOut C (mbr (needM C.L s i) i b) w) := by
 have EV := Lib.hid (eat_any C w i b s h hs)
 have FL := Lib.hid (fun W (hW : RSt C W i b) => failR_any C W i b hW)
 clear h hs
 obtain ⟨v, HV⟩ : ∃ v, Hid ((!b && tIs C.L s i) = v) := ⟨_, rfl⟩
 rw [HV.out] at EV
 unfold EatOut at EV
 have HF : Hid (if v = true then Fol (mbr (needM C.L s i) i b) () (i + 1) b else Fol (mbr (needM C.L s i) i b) () i true) := by
  show ite _ _ _
  rw [← HV.out]
  unfold needM
  cases b <;> cases tIs C.L s i <;> simp [mbr, Fol]
 clear HV
 obtain ⟨R, HR⟩ : ∃ R, Hid (mbr (needM C.L s i) i b = R) := ⟨_, rfl⟩
 rw [HR.out] at HF ⊢
 clear HR
 unfold MustOut
 cases v with
 | false =>
  simp only [Bool.false_eq_true, if_false] at EV HF
  go_enter Tryz.func42, Tryz.ntmps42
  go_wp2_with fail
  refine EV.out.mono ?_
  rintro e w1 ⟨rfl, h1, m1⟩
  have H1 := Lib.hid h1
  have M1 := Lib.hid m1
  clear h1 m1 EV
  go_wp2_with fail
  refine (FL.out _ H1.out).mono ?_
  rintro e w2 ⟨rfl, h2, m2⟩
  have H2 := Lib.hid h2
  have M2 := Lib.hid m2
  clear h2 m2 FL
  go_wp2
  go_end0
  exact ⟨i, true, rfl, H2.out, M1.out.trans_ M2.out, HF.out⟩
 | true =>
  simp only [if_true] at EV HF
  go_enter Tryz.func42, Tryz.ntmps42
  go_wp2_with fail
  refine EV.out.mono ?_
  rintro e w1 ⟨rfl, h1, m1⟩
  have H1 := Lib.hid h1
  have M1 := Lib.hid m1
  clear h1 m1 EV
  go_wp2
  go_end0
  exact ⟨i + 1, b, rfl, H1.out, M1.out, HF.out⟩
theorem isNameR_any (C : RC) (w : World) (i k : Nat) (b : Bool) (h : RSt C w i b) (hk : k ≤ 1) : Calls Tryz.prog 77 #[.pointer (some ⟨C.p, 0, none⟩), .int .i64 (k : Int)] w fun e w' => e = .returned (.bool (tNm C.L (i + k))) ∧ Below w.heap.size w w' := by
 have TX := Lib.hid (txtR_any C w i k b h hk)
 obtain ⟨R, HR⟩ : ∃ R, Hid (tNm C.L (i + k) = R) := ⟨_, rfl⟩
 rw [HR.out]
 have HN : Hid (nameOf (txR C.L (i + k)) = R) := (txR_name h.ok _).trans HR.out
 generalize txR C.L (i + k) = t at *
 have NM := Lib.hid (n6_nameR_any t)
 rw [HN.out] at NM
 clear h HR HN
 go_enter Tryz.func77, Tryz.ntmps77
 go_wp2_with fail
 refine TX.out.mono ?_
 rintro e w1 ⟨rfl, hb1⟩
 have HB := Lib.hid hb1
 clear hb1
 go_wp2_with fail
 refine (NM.out w1).mono ?_
 rintro e w2 ⟨rfl, hb2⟩
 have HB2 := Lib.hid hb2
 clear hb2
 go_wp2_with fail
 go_ret
 exact ⟨rfl, below_trans HB.out (Nat.le_refl _) HB2.out⟩
def NmOut (C : RC) (r : Res ByteArray) (w : World) (e : Ending) (w' : World) : Prop := ∃ s j b, e = .returned (.string s) ∧ s.size ≤ 16 ∧ RSt C w' j b ∧ Mv C.p w w' ∧ Fol r s j b
theorem nameRd_any (C : RC) (w : World) (i : Nat) (b : Bool) (h : RSt C w i b) : Calls Tryz.prog 41 #[.pointer (some ⟨C.p, 0, none⟩)] w (NmOut C (mbr (nameM C.L i) i b) w) := by
 have H := Lib.hid h
 have len := h.len
 have hat := h.at_
 have TX := Lib.hid (txtR_any C w i 0 b h (by omega))
 have IN := Lib.hid (fun W (hW : RSt C W i b) => isNameR_any C W i 0 b hW (by omega))
 have FL := Lib.hid (fun W (hW : RSt C W i b) => failR_any C W i b hW)
 simp only [Nat.add_zero] at TX IN
 have HOK := Lib.hid h.ok
 have HSZ := Lib.hid (txR_size h.ok i)
 clear h
 unfold NmOut
 cases b with
 | true =>
  have HF : Hid (∀ s, Fol (mbr (nameM C.L i) i true) s i true) := fun s => by simp [mbr, Fol]
  generalize mbr (nameM C.L i) i true = R at *
  generalize txR C.L i = t at *
  clear HOK IN
  go_enter Tryz.func41, Tryz.ntmps41
  go_wp2_with fail
  refine TX.out.mono ?_
  rintro e w1 ⟨rfl, hb1⟩
  have HB := Lib.hid hb1
  have H1 := Lib.hid (H.out.below hb1)
  have q2 := H1.out.blk.cell 2 (.bool true) rfl
  clear hb1
  go_wp2_with fail
  refine (FL.out _ H1.out).mono ?_
  rintro e w2 ⟨rfl, h2, m2⟩
  have H2 := Lib.hid h2
  have M2 := Lib.hid m2
  clear h2 m2 FL
  go_wp2
  go_ret
  exact ⟨⟨#[]⟩, i, true, rfl, Nat.zero_le _, H2.out, (mv_below HB.out).trans_ M2.out, HF.out _⟩
 | false =>
  rcases hb : tNm C.L i with _ | _
  ·have HF : Hid (∀ s, Fol (mbr (nameM C.L i) i false) s i true) := fun s => by (simp only [mbr, Fol, nameM, hb]; simp)
   rw [hb] at IN
   generalize mbr (nameM C.L i) i false = R at *
   generalize txR C.L i = t at *
   clear HOK hb
   go_enter Tryz.func41, Tryz.ntmps41
   go_wp2_with fail
   refine TX.out.mono ?_
   rintro e w1 ⟨rfl, hb1⟩
   have HB := Lib.hid hb1
   have H1 := Lib.hid (H.out.below hb1)
   have q2 := H1.out.blk.cell 2 (.bool false) rfl
   clear hb1
   go_wp2_with fail
   refine (IN.out _ H1.out).mono ?_
   rintro e w2 ⟨rfl, hb2⟩
   have HB2 := Lib.hid (below_trans HB.out (Nat.le_refl _) hb2)
   have H2 := Lib.hid (H1.out.below hb2)
   clear hb2 IN
   go_wp2_with fail
   refine (FL.out _ H2.out).mono ?_
   rintro e w3 ⟨rfl, h3, m3⟩
   have H3 := Lib.hid h3
   have M3 := Lib.hid m3
   clear h3 m3 FL
   go_wp2
   go_ret
   exact ⟨⟨#[]⟩, i, true, rfl, Nat.zero_le _, H3.out, (mv_below HB2.out).trans_ M3.out, HF.out _⟩
  ·have HF : Hid (Fol (mbr (nameM C.L i) i false) (txR C.L i) (i + 1) false) := by
    show Fol _ _ _ _
    rw [txR_of_name HOK.out hb]
    (simp only [mbr, Fol, nameM, hb]; simp)
   have hlt := tNm_lt hb
   rw [hb] at IN
   generalize mbr (nameM C.L i) i false = R at *
   generalize txR C.L i = t at *
   clear HOK hb FL
   have hw : IntKind.i64.wrap ((i : Int) + 1) = (i : Int) + 1 := IntWalk.i64_in _ (by omega)
   go_enter Tryz.func41, Tryz.ntmps41
   go_wp2_with fail
   refine TX.out.mono ?_
   rintro e w1 ⟨rfl, hb1⟩
   have HB := Lib.hid hb1
   have H1 := Lib.hid (H.out.below hb1)
   have q2 := H1.out.blk.cell 2 (.bool false) rfl
   clear hb1
   go_wp2_with fail
   refine (IN.out _ H1.out).mono ?_
   rintro e w2 ⟨rfl, hb2⟩
   have HB2 := Lib.hid (below_trans HB.out (Nat.le_refl _) hb2)
   have H2 := Lib.hid (H1.out.below hb2)
   have r1 := H2.out.blk.cell 1 (.int .i64 (i : Int)) rfl
   have f1 := H2.out.blk.free 1
   clear hb2 IN q2
   go_wp2_with fail
   go_ret
   have hm := H2.out.move (i + 1) (by omega)
   exact ⟨t, i + 1, false, rfl, HSZ.out, hm.1, (mv_below HB2.out).trans_ hm.2, HF.out⟩
end Go.Proofs.YtgegfbopogcjpaaGreatDoor
namespace Go.Proofs.YtgegfbopogcjpaaGreatDoor
open Go.RowKit
set_option linter.unusedVariables false
set_option linter.unusedSimpArgs false
set_option maxRecDepth 100000
set_option maxHeartbeats 1000000
theorem RSt.fam {C : RC} {w : World} {i0 : Nat} {b0 : Bool} (h0 : RSt C w i0 b0) (j : Nat × Bool) (W W' : World) (h : RSt C W j.1 j.2) (hs : W.heap.size ≤ W'.heap.size) (hk : ∀ b, b < w.heap.size → W'.heap[b]? = W.heap[b]?) : RSt C W' j.1 j.2 := by
 refine ⟨(hk C.p h0.lt).trans h.blk, ?_, h.ne, h.len, h.at_, h.ok⟩
 rcases h0.row with h1 | ⟨b, o, hA, hlt, hc⟩
 ·exact .inl h1
 ·rcases h.row with h2 | ⟨b2, o2, hA2, hlt2, hc2⟩
  ·exact .inl h2
  ·rw [hA] at hA2
   injection hA2 with e
   injection e with e1 e2
   subst e1 e2
   exact .inr ⟨b, o, hA, Nat.lt_of_lt_of_le hlt2 hs, fun j v hj => (World.cell?_of_block (a := ⟨b, o + j, none⟩) (hk b hlt)).trans (hc2 j v hj)⟩
theorem num_fol {L : List Tok} (hok : ∀ t ∈ L, TokOk t.k t.s) {i j : Nat} {b c : Bool} {x : Nd} (h : Fol (mbr (numM L i) i b) x j c) (hc : c = false) : 0 ≤ x.num ∧ I64 x.num := by
 subst hc
 cases b with
 | true => simp [mbr, Fol] at h
 | false =>
  simp only [mbr, Bool.false_eq_true, if_false] at h
  unfold numM at h
  rcases hL : L[i]? with _ | t
  ·rw [hL] at h; simp [Fol] at h
  ·rw [hL] at h
   have hm := hok t (List.mem_of_getElem? hL)
   simp only at h
   by_cases h2 : t.k = 2
   ·rw [if_pos h2] at h
    obtain ⟨rfl, -, -⟩ := h
    exact ⟨(num_ok hm (.inl h2)).2.2.2, (num_ok hm (.inl h2)).2.2.1⟩
   ·rw [if_neg h2] at h
    by_cases h3 : t.k = 3
    ·rw [if_pos h3] at h
     obtain ⟨rfl, -, -⟩ := h
     exact ⟨(num_ok hm (.inr h3)).2.2.2, (num_ok hm (.inr h3)).2.2.1⟩
    ·rw [if_neg h3] at h; simp [Fol] at h
theorem i64_wrap (n : Int) : I64 (IntKind.i64.wrap n) := by
 rw [IntKind.wrap_i64]
 unfold I64
 omega
theorem i64_neg {n : Int} (h0 : 0 ≤ n) (h : I64 n) : IntKind.i64.wrap (-n) = -n := IntWalk.i64_in _ (by unfold I64 at h; omega)
abbrev SD (C : RC) (w W : World) (i : Nat) (b : Bool) (l : List Rc) : Prop := St (fun ib W => RSt C W ib.1 ib.2) C.p (fun x => x < w.heap.size) w W (i, b) l
section
variable {C : RC} {w W : World} {i : Nat} {b : Bool} {l : List Rc}
theorem RSt.st (h : RSt C w i b) : SD C w w i b [] := St.init h h.lt h.fam
theorem eatN (h : SD C w W i b l) {s : ByteArray} (hv : (!b && tIs C.L s i) = false) (hs : s ≠ ⟨#[]⟩ := by decide) : Calls Tryz.prog 40 #[.pointer (some ⟨C.p, 0, none⟩), .string s] W fun e W' => e = .returned (.bool false) ∧ Hid (SD C w W' i b l) := by
 refine (eat_any C W i b s h.z hs).mono ?_
 rw [hv]
 rintro e W' ⟨rfl, h', m⟩
 exact ⟨rfl, h.to m (by simpa using h')⟩
theorem eatY (h : SD C w W i false l) {s : ByteArray} (hv : tIs C.L s i = true) (hs : s ≠ ⟨#[]⟩ := by decide) : Calls Tryz.prog 40 #[.pointer (some ⟨C.p, 0, none⟩), .string s] W fun e W' => e = .returned (.bool true) ∧ Hid (SD C w W' (i + 1) false l) := by
 refine (eat_any C W i false s h.z hs).mono ?_
 rw [hv]
 rintro e W' ⟨rfl, h', m⟩
 exact ⟨rfl, h.to m (by simpa using h')⟩
theorem mustq (h : SD C w W i b l) (s : ByteArray) (hs : s ≠ ⟨#[]⟩ := by decide) : Calls Tryz.prog 42 #[.pointer (some ⟨C.p, 0, none⟩), .string s] W fun e W' => ∃ j b', e = .returned (.tuple #[]) ∧ Hid (SD C w W' j b' l) ∧ Fol (mbr (needM C.L s i) i b) () j b' := by
 refine (must_any C W i b s h.z hs).mono ?_
 rintro e W' ⟨j, b', rfl, h', m, hf⟩
 exact ⟨j, b', rfl, h.to (j := (j, b')) m h', hf⟩
theorem nmq (h : SD C w W i b l) : Calls Tryz.prog 41 #[.pointer (some ⟨C.p, 0, none⟩)] W fun e W' => ∃ s j b', e = .returned (.string s) ∧ s.size ≤ maxLen ∧ Hid (SD C w W' j b' l) ∧ Fol (mbr (nameM C.L i) i b) s j b' := by
 refine (nameRd_any C W i b h.z).mono ?_
 rintro e W' ⟨s, j, b', rfl, hs, h', m, hf⟩
 exact ⟨s, j, b', rfl, by unfold maxLen; omega, h.to (j := (j, b')) m h', hf⟩
theorem txtq (h : SD C w W i b l) (k : Nat) (hk : k ≤ 1) : Calls Tryz.prog 44 #[.pointer (some ⟨C.p, 0, none⟩), .int .i64 (k : Int)] W fun e W' => e = .returned (.string (txR C.L (i + k))) ∧ Hid (SD C w W' i b l) := by
 refine (txtR_any C W i k b h.z hk).mono ?_
 rintro e W' ⟨rfl, hb⟩
 exact ⟨rfl, h.below hb⟩
theorem isnq (h : SD C w W i b l) (k : Nat) (hk : k ≤ 1) {v : Bool} (ht : tNm C.L (i + k) = v) : Calls Tryz.prog 77 #[.pointer (some ⟨C.p, 0, none⟩), .int .i64 (k : Int)] W fun e W' => e = .returned (.bool v) ∧ Hid (SD C w W' i b l) := by
 refine (isNameR_any C W i k b h.z hk).mono ?_
 rw [ht]
 rintro e W' ⟨rfl, hb⟩
 exact ⟨rfl, h.below hb⟩
theorem rnodeq {r : Res Nd} {e : Ending} {W' : World} (h : SD C w W i b l) (hr : RNode C W r e W') : ∃ x j b' A c V, e = .returned (.agg #[.int .i64 x.k, .string x.t, .int .i64 x.num, .slice A x.kids.length c]) ∧ Hid (SD C w W' j b' (nd V x A c :: l)) ∧ Fol r x j b' := by
 obtain ⟨x, A, c, j, b', rfl, hr, h', m, hf⟩ := hr
 exact ⟨x, j, b', A, c, fun b => W.heap.size ≤ b ∧ b < W'.heap.size, rfl, h.add (h.to (j := (j, b')) m h') (RepV.keep (Nat.le_refl _) (fun b hv hlt => ⟨rfl, hv, hlt⟩) _ _ hr) (fun b hb => hb), hf⟩
theorem rsubq {f : FuncId} {m : Nat → Res Nd} (hf : ROk C f m) (h : SD C w W i b l) (hw : mbr (m i) i b ≠ .dry) : Calls Tryz.prog f #[.pointer (some ⟨C.p, 0, none⟩)] W fun e W' => ∃ x j b' A c V, e = .returned (.agg #[.int .i64 x.k, .string x.t, .int .i64 x.num, .slice A x.kids.length c]) ∧ Hid (SD C w W' j b' (nd V x A c :: l)) ∧ Fol (mbr (m i) i b) x j b' :=
 (hf W i b h.z hw).mono fun e W' hr => rnodeq h hr
theorem rrowq {r : Res (List Nd × Bool)} {e : Ending} {W' : World} (h : SD C w W i b l) (hr : RList C W r e W') : ∃ ks d j b' A c V, e = .returned (.tuple #[.slice A ks.length c, .bool d]) ∧ ks.length ≤ 4001 ∧ Hid (SD C w W' j b' (rw_ w.heap.size V ks A c :: l)) ∧ Fol r (ks, d) j b' := by
 obtain ⟨ks, d, A, c, j, b', rfl, hacc, hn, h', m, hf⟩ := hr
 refine ⟨ks, d, j, b', A, c, fun b => W.heap.size ≤ b ∧ b < W'.heap.size, rfl, hn, h.add (h.to (j := (j, b')) m h') ?_ (fun b hb => hb), hf⟩
 obtain ⟨xs, h1, ho⟩ := hacc
 refine ⟨xs, RepCs.keep (Nat.le_refl _) (fun b hv hlt => ⟨rfl, ⟨hv.1, hlt⟩, hv.2⟩) _ _ h1, fun g e => ho.lt g e, ho.1, ?_⟩
 rcases ho.2 with h3 | ⟨g, cap, cur, e, h4, h5⟩
 ·exact .inl h3
 ·exact .inr ⟨g, cap, cur, e, Nat.le_trans h.mv.size h4, h5⟩
theorem rfinO {R : Res Nd} {r0 : Nat} {a0 a1 a2 a3 : Value} {nk nn : Int} {nt : ByteArray} {nl : List Nd} {A : Option Addr} {c : Nat} {V : Nat → Prop} (h : SD C w W i b (nd V (.mk nk nt nn nl) A c :: bx r0 24 #[a0, a1, a2, a3] :: l)) (hf : Fol R (.mk nk nt nn nl) i b) :
 Blk ((((W.setCell ⟨r0, 0, none⟩ (.int .i64 nk)).setCell ⟨r0, 1, none⟩ (.string nt)).setCell ⟨r0, 2, none⟩ (.int .i64 nn)).setCell ⟨r0, 3, none⟩ (.slice A nl.length c)) r0 24 #[.int .i64 nk, .string nt, .int .i64 nn, .slice A nl.length c] ∧
 RNode C w R (.returned (.agg #[.int .i64 nk, .string nt, .int .i64 nn, .slice A nl.length c])) ((((W.setCell ⟨r0, 0, none⟩ (.int .i64 nk)).setCell ⟨r0, 1, none⟩ (.string nt)).setCell ⟨r0, 2, none⟩ (.int .i64 nn)).setCell ⟨r0, 3, none⟩ (.slice A nl.length c)) := by
 have h' := h.f1.put4 (.int .i64 nk) (.string nt) (.int .i64 nn) (.slice A nl.length c)
 exact ⟨h'.one, .mk nk nt nn nl, A, c, i, b, rfl, RepV.keep (Nat.le_refl _) (fun b hv _ => ⟨rfl, (h'.inn _ (.tail _ (.head _)) b hv).1⟩) _ _ h'.f1.one, h'.z, h'.mv, hf⟩
theorem rfinN {R : Res Nd} {r0 : Nat} {a0 a1 a2 a3 : Value} {x : Nd} {A : Option Addr} {c : Nat} {V : Nat → Prop} (h : SD C w W i b (nd V x A c :: bx r0 24 #[a0, a1, a2, a3] :: l)) (hf : Fol R x i b) :
 Blk ((((W.setCell ⟨r0, 0, none⟩ (.int .i64 x.k)).setCell ⟨r0, 1, none⟩ (.string x.t)).setCell ⟨r0, 2, none⟩ (.int .i64 x.num)).setCell ⟨r0, 3, none⟩ (.slice A x.kids.length c)) r0 24 #[.int .i64 x.k, .string x.t, .int .i64 x.num, .slice A x.kids.length c] ∧
 RNode C w R (.returned (.agg #[.int .i64 x.k, .string x.t, .int .i64 x.num, .slice A x.kids.length c])) ((((W.setCell ⟨r0, 0, none⟩ (.int .i64 x.k)).setCell ⟨r0, 1, none⟩ (.string x.t)).setCell ⟨r0, 2, none⟩ (.int .i64 x.num)).setCell ⟨r0, 3, none⟩ (.slice A x.kids.length c)) := by
 cases x
 exact rfinO h hf
theorem rfinP {R : Res Nd} {r0 : Nat} {nk nn : Int} {nt : ByteArray} {nl : List Nd} {A : Option Addr} {c m : Nat} {V : Nat → Prop} (h : SD C w W i b (nd V (.mk nk nt nn nl) A c :: bx r0 24 #[.int .i64 nk, .string nt, .int .i64 nn, .slice A m c] :: l)) (hm : nl.length = m) (hf : Fol R (.mk nk nt nn nl) i b) :
 Blk W r0 24 #[.int .i64 nk, .string nt, .int .i64 nn, .slice A m c] ∧ RNode C w R (.returned (.agg #[.int .i64 nk, .string nt, .int .i64 nn, .slice A m c])) W := by
 refine ⟨h.f1.one, ?_⟩
 subst hm
 exact ⟨.mk nk nt nn nl, A, c, i, b, rfl, RepV.keep (Nat.le_refl _) (fun b hv _ => ⟨rfl, (h.inn _ (.head _) b hv).1⟩) _ _ h.one, h.z, h.mv, hf⟩
end
end Go.Proofs.YtgegfbopogcjpaaGreatDoor
namespace Go.Proofs.YtgegfbopogcjpaaGreatDoor
open Go.RowKit
set_option linter.unusedVariables false
set_option linter.unusedSimpArgs false
set_option maxRecDepth 100000
set_option maxHeartbeats 4000000
def FeRel (C : RC) (F : Nat) (nm : ByteArray) (R : Res Nd) (w : World) (bt gk : Nat) (wr : World) : Prop :=
 ∃ (l : List Nd) (A : Option Addr) (c : Nat) (V : Nat → Prop) (j : Nat) (b : Bool), Hid (SD C w wr j b [rw_ w.heap.size V l A c, bx bt 24 #[.int .i64 2, .string nm, .int .i64 0, .slice A l.length c], bx w.heap.size 24 #[.int .i64 0, .string ⟨#[]⟩, .int .i64 0, .slice none 0 0]]) ∧ Hid (b = false → l ≠ [] → ¬ tIs C.L ⟨#[125]⟩ j = true) ∧ Hid (mbr ((fieldsM C.L F gk l j).bind (fun l m => .ok (.mk 2 nm 0 l) m)) j b = R) ∧ l.length + gk ≤ C.L.length + 1
theorem rdec_struct (C : RC) (F : Nat) (w : World) (i : Nat) (h : RSt C w i false) (hwet : mbr (declM C.L F i) i false ≠ .dry) (HTY : ROk C 43 (typM C.L F)) (HRW : ∀ (w : World) (i : Nat) (b : Bool), RSt C w i b → mbr (listM C.L (paramM C.L F) true i) i b ≠ .dry → Calls Tryz.prog 45 #[.pointer (some ⟨C.p, 0, none⟩), .int .i64 1] w (RList C w (mbr (listM C.L (paramM C.L F) true i) i b))) (HBL : ROk C 46 (blockF C.L F)) (HNU : ROk C 47 (numM C.L)) (h1 : tIs C.L ⟨#[115, 116, 114, 117, 99, 116]⟩ i = true) : Calls Tryz.prog 15 #[.pointer (some ⟨C.p, 0, none⟩)] w (RNode C w (mbr (declM C.L F i) i false)) := by
 obtain ⟨R, HR⟩ : ∃ R, Hid (mbr (declM C.L F i) i false = R) := ⟨_, rfl⟩
 rw [HR.out] at hwet ⊢
 have HW := Lib.hid hwet
 have hR := HR.out
 unfold declM at hR
 replace HR := Lib.hid hR
 have HS := Lib.hid (h.st.box 24 #[.int .i64 0, .string ⟨#[]⟩, .int .i64 0, .slice none 0 0])
 clear h hR hwet
 go_enter Tryz.func15, Tryz.ntmps15
 go_wp2_with fail
 generalize w.alloc (.cells #[.int .i64 0, .string ⟨#[]⟩, .int .i64 0, .slice none 0 0] 24) = w0 at *
 refine (eatY HS.out h1).mono ?_
 clear HS; rintro e w1 ⟨rfl, HS⟩
 replace HR := Lib.hid (mbr_yes (j := i + 1) HR.out h1)
 go_wp2_with fail
 refine (nmq HS.out).mono ?_
 clear HS; rintro e w2 ⟨nm, j1, b1, rfl, hnm, HS, hf⟩
 replace HR := Lib.hid (mbr_seq HR.out HW.out hf)
 clear hf
 go_wp2_with fail
 replace HS := Lib.hid (HS.out.box 24 #[.int .i64 2, .string nm, .int .i64 0, .slice none 0 0])
 generalize w2.alloc (.cells #[.int .i64 2, .string nm, .int .i64 0, .slice none 0 0] 24) = w3 at *
 generalize w2.heap.size = bt at *
 refine (mustq HS.out ⟨#[123]⟩).mono ?_
 clear HS; rintro e w4 ⟨j2, b2, rfl, HS, hf⟩
 replace HR := Lib.hid (mbr_seq HR.out HW.out hf)
 clear hf
 go_wp2_with fail
 have hlen := HS.out.z.len
 go_loopg [] (C.L.length + 1) (fun gk wr => FeRel C F nm R w bt gk wr)
 case atStart => exact ⟨[], none, 0, _, j2, b2, HS.out.row0, (fun _ h => absurd rfl h), HR, by simp⟩
 case round =>
  clear HS HR; obtain ⟨l, Al, cl, Vl, j, b, HS, HNO, HR, hc⟩ := hrel
  have q2 := HS.out.z.blk.cell 2 (.bool b) rfl
  obtain ⟨w100, rfl⟩ : ∃ x, x = wr := ⟨_, rfl⟩
  rcases b with _ | _
  rotate_left
  ·replace HS := Lib.hid (HS.out.kids 2 nm 0 i64_0 hnm)
   replace HS := Lib.hid HS.out.f2
   replace HS := Lib.hid HS.out.f1
   obtain ⟨-, -, -, -, b0, b1, b2, b3⟩ := (HS.out.blk 2 rfl).all4
   obtain ⟨f0, f1, f2, f3, g0, g1, g2, g3⟩ := (HS.out.blk 1 rfl).all4
   go_wp2_with fail
   have hf := rfinO HS.out (mbr_true HR.out)
   try simp only [List.length_append, List.length_cons, List.length_nil, Nat.zero_add] at hf
   exact bodyPost_ret (v := .agg _) (results_cell4 (fn := Tryz.f15) rfl hf.1 rfl) rfl hf.2
  cases gk with
  | zero => exact absurd (show Res.dry = R from HR.out) (fun e => HW.out e.symm)
  | succ g =>
  have hR := HR.out
  rw [fieldsM, if_neg (fun h => HNO.out rfl h.1 h.2)] at hR
  simp only [Res.assoc_] at hR
  replace HR := Lib.hid hR
  clear hR HNO
  go_wp2_with fail
  clear q2
  refine (rsubq HTY HS.out (mbr_wet HR.out HW.out)).mono ?_
  clear HS; rintro e w101 ⟨t, j3, b3, At, ct, Vt, rfl, HS, hf⟩
  replace HR := Lib.hid (mbr_seq HR.out HW.out hf)
  clear hf
  go_wp2_with fail
  replace HS := Lib.hid (HS.out.box 24 #[.int .i64 t.k, .string t.t, .int .i64 t.num, .slice At t.kids.length ct])
  generalize w101.alloc (.cells #[.int .i64 t.k, .string t.t, .int .i64 t.num, .slice At t.kids.length ct] 24) = w102 at *
  generalize w101.heap.size = b4 at *
  replace HS := Lib.hid (HS.out.below (Below.refl _ _).drew)
  refine wp_region_held_drew (S := fun _ => True) (by kernel_rfl) trivial (fun _ => ?_)
  generalize w102.drew = w103 at *
  (refine wpAnyH_take (i := 0) (v := ?_) rfl (by kernel_rfl) (by kernel_rfl) (by kernel_rfl) (fun _ _ _ h => h) (Or.inl ⟨by rfl, ?_⟩) (by assumption) ?_; rotate_left; · ((intro w hSw; (try dsimp only at hSw); go_simp) <;> with_reducible rfl); (try simp only [List.getElem_toArray, List.getElem_cons_succ, List.getElem_cons_zero, Act.put, List.setIfInBounds_toArray, List.set_cons_zero, List.set_cons_succ]))
  replace HS := Lib.hid HS.out.f4
  replace HS := Lib.hid HS.out.f1
  replace HS := Lib.hid HS.out.f4
  replace HS := Lib.hid HS.out.f3
  replace HS := Lib.hid HS.out.f4
  refine wpAnyH_grp [⟨1, some 30, []⟩, ⟨2, some 31, []⟩, ⟨3, some 32, [2]⟩, ⟨4, some 33, [1, 2, 3]⟩, ⟨5, some 5, []⟩] 1 (fun vs W => ∃ x jq bq y z, Hid (SD C w W (altq (vs 1) j3 jq) (altq (vs 1) b3 bq) (ifq (vs 3) (bx y 24 #[.int .i64 t.k, .string t.t, .int .i64 t.num, .slice At t.kids.length ct]) ++ (ifq (vs 5) (bx z 24 #[.int .i64 0, .string ⟨#[]⟩, .int .i64 0, .slice none 0 0]) ++ [rw_ w.heap.size Vl l Al cl, nd Vt t At ct, bx bt 24 #[.int .i64 2, .string nm, .int .i64 0, .slice Al l.length cl], bx b4 24 #[.int .i64 t.k, .string t.t, .int .i64 t.num, .slice At t.kids.length ct], bx w.heap.size 24 #[.int .i64 0, .string ⟨#[]⟩, .int .i64 0, .slice none 0 0]]))) ∧ OP (vs 1) (fun u => u = .string x ∧ x.size ≤ maxLen ∧ Fol (mbr (nameM C.L j3) j3 b3) x jq bq) ∧ OV (vs 2) (.agg #[.int .i64 t.k, .string t.t, .int .i64 t.num, .slice At t.kids.length ct]) ∧ OV (vs 3) (.slice (some ⟨y, 0, none⟩) 1 1) ∧ OV (vs 4) (.agg #[.int .i64 3, .string x, .int .i64 0, .slice (some ⟨y, 0, none⟩) 1 1]) ∧ OV (vs 5) (.pointer (some ⟨z, 0, none⟩))) (by rfl) (by kernel_rfl) ⟨⟨#[]⟩, 0, false, 0, 0, HS, OP.no _ rfl, OP.no _ rfl, OP.no _ rfl, OP.no _ rfl, OP.no _ rfl⟩ (fun _ _ _ => trivial) ⟨?_, ?_, ?_, ?_, ?_, trivial⟩ ?_
  ·clear HS; refine ⟨_, rfl, fun vs W h1 hd hn ⟨x, jq, bq, y, z, HS, e1, e2, e3, e4, e5⟩ => ?_⟩
   rw [h1] at HS
   simp only [actG, old, Option.getD_some]; (try simp only [List.getElem_toArray, List.getElem_cons_succ, List.getElem_cons_zero, Act.put, List.setIfInBounds_toArray, List.set_cons_zero, List.set_cons_succ]); intro K hK
   go_simp
   refine (nmq HS.out).mono ?_
   clear HS; rintro e W ⟨x, jq, bq, rfl, hs, HS, hf⟩
   exact hK.out _ _ ⟨x, jq, bq, y, z, HS, OP.is ⟨rfl, hs, hf⟩, e2, e3, OP.no _ hn.2.2.2.1, e5⟩
  ·clear HS; refine ⟨_, rfl, fun vs W h2 hd hn ⟨x, jq, bq, y, z, HS, e1, e2, e3, e4, e5⟩ => ?_⟩
   obtain ⟨-, -, -, -, b0, b1, b2, b3⟩ := Blk.all4 (HS.out.ok (bx b4 24 #[.int .i64 t.k, .string t.t, .int .i64 t.num, .slice At t.kids.length ct]) (by simp))
   simp only [actG, old, Option.getD_some]; (try simp only [List.getElem_toArray, List.getElem_cons_succ, List.getElem_cons_zero, Act.put, List.setIfInBounds_toArray, List.set_cons_zero, List.set_cons_succ]); intro K hK
   go_simp
   clear b0 b1 b2 b3
   exact hK.out _ _ ⟨x, jq, bq, y, z, HS, e1, OP.is rfl, OP.no _ hn.2.2.1, OP.no _ hn.2.2.2.1, e5⟩
  ·clear HS; refine ⟨_, rfl, fun vs W h3 hd hn ⟨x, jq, bq, y, z, HS, e1, e2, e3, e4, e5⟩ => ?_⟩
   obtain ⟨⟨v2, h2⟩, -⟩ := hd
   obtain rfl := e2 _ h2
   rw [h3] at HS
   simp only [actG, old, h2, Option.getD_some]; (try simp only [List.getElem_toArray, List.getElem_cons_succ, List.getElem_cons_zero, Act.put, List.setIfInBounds_toArray, List.set_cons_zero, List.set_cons_succ]); intro K hK
   go_simp
   exact hK.out _ _ ⟨x, jq, bq, W.heap.size, z, (HS.out.box 24 #[.int .i64 t.k, .string t.t, .int .i64 t.num, .slice At t.kids.length ct]), e1, e2, OP.is rfl, OP.no _ hn.2.2.2.1, e5⟩
  ·clear HS; refine ⟨_, rfl, fun vs W h4 hd hn ⟨x, jq, bq, y, z, HS, e1, e2, e3, e4, e5⟩ => ?_⟩
   obtain ⟨⟨v1, h1⟩, ⟨v2, h2⟩, ⟨v3, h3⟩, -⟩ := hd
   obtain ⟨rfl, -, -⟩ := e1 _ h1
   obtain rfl := e2 _ h2
   obtain rfl := e3 _ h3
   simp only [actG, old, h1, h2, h3, Option.getD_some]; (try simp only [List.getElem_toArray, List.getElem_cons_succ, List.getElem_cons_zero, Act.put, List.setIfInBounds_toArray, List.set_cons_zero, List.set_cons_succ]); intro K hK
   go_simp
   exact hK.out _ _ ⟨x, jq, bq, y, z, HS, e1, e2, e3, OP.is rfl, e5⟩
  ·clear HS; refine ⟨_, rfl, fun vs W h5 hd hn ⟨x, jq, bq, y, z, HS, e1, e2, e3, e4, e5⟩ => ?_⟩
   rw [h5] at HS
   simp only [actG, old, Option.getD_some]; (try simp only [List.getElem_toArray, List.getElem_cons_succ, List.getElem_cons_zero, Act.put, List.setIfInBounds_toArray, List.set_cons_zero, List.set_cons_succ]); intro K hK
   go_simp
   exact hK.out _ _ ⟨x, jq, bq, y, W.heap.size, ((HS.out.box 24 #[.int .i64 0, .string ⟨#[]⟩, .int .i64 0, .slice none 0 0]).perm List.perm_middle.symm), e1, e2, e3, e4, OP.is rfl⟩
  clear HS; intro vs W ⟨x, jq, bq, y, z, HS, e1, e2, e3, e4, e5⟩ hall
  obtain ⟨⟨v1, h1⟩, ⟨v2, h2⟩, ⟨v3, h3⟩, ⟨v4, h4⟩, ⟨v5, h5⟩, -⟩ := hall
  obtain ⟨rfl, hx, hf⟩ := e1 _ h1
  obtain rfl := e2 _ h2
  obtain rfl := e3 _ h3
  obtain rfl := e4 _ h4
  obtain rfl := e5 _ h5
  rw [h1, h3, h5] at HS
  simp only [altq_some, ifq, List.cons_append, List.nil_append] at HS
  simp only [actG, lisG, old, h1, h2, h3, h4, h5, Option.getD_some, Option.isSome_some, if_true, List.length_cons, List.length_nil]; (try simp only [List.getElem_toArray, List.getElem_cons_succ, List.getElem_cons_zero, Act.put, List.setIfInBounds_toArray, List.set_cons_zero, List.set_cons_succ])
  clear h1 e1 h2 e2 h3 e3 h4 e4 h5 e5 vs
  obtain ⟨w104, rfl⟩ : ∃ x, x = W := ⟨_, rfl⟩
  replace HR := Lib.hid (mbr_seq HR.out HW.out hf)
  clear hf
  obtain ⟨j4, rfl⟩ : ∃ x, x = jq := ⟨_, rfl⟩
  obtain ⟨b4, rfl⟩ : ∃ x, x = bq := ⟨_, rfl⟩
  refine wpAnyH_ready (rs := [6]) (by kernel_rfl) (by simp) (AllReadyH.cons rfl (fun K hK => ?_) AllReadyH.nil)
  replace HS := Lib.hid HS.out.f1
  obtain ⟨f0, f1, f2, f3, g0, g1, g2, g3⟩ := HS.out.one.all4
  go_wp2_with fail
  clear f0 f1 f2 f3 g0 g1 g2 g3
  replace HS := Lib.hid (HS.out.put4 (.int .i64 3) (.string x) (.int .i64 0) (.slice (some ⟨y, 0, none⟩) 1 1))
  generalize (((((w104).setCell ⟨z, 0, none⟩ (.int .i64 3)).setCell ⟨z, 1, none⟩ (.string x)).setCell ⟨z, 2, none⟩ (.int .i64 0)).setCell ⟨z, 3, none⟩ (.slice (some ⟨y, 0, none⟩) 1 1)) = w105 at *
  refine hK.out _ _ trivial (fun _ => ?_)
  clear hK K
  (try simp only [List.getElem_toArray, List.getElem_cons_succ, List.getElem_cons_zero, Act.put, List.setIfInBounds_toArray, List.set_cons_zero, List.set_cons_succ])
  refine wpAnyH_done (by kernel_rfl) ?_ _
  go_wp2_with fail
  replace HS := Lib.hid HS.out.f3
  replace HS := Lib.hid HS.out.f2
  replace HS := Lib.hid (HS.out.kid1 3 x 0 i64_0 hx)
  refine (mustq HS.out ⟨#[59]⟩).mono ?_
  clear HS; rintro e w106 ⟨j5, b5, rfl, HS, hf⟩
  replace HR := Lib.hid (mbr_seq HR.out HW.out hf)
  clear hf
  obtain ⟨-, -, -, -, b0, b1, b2, b3⟩ := (HS.out.blk 1 rfl).all4
  have q3 := (HS.out.blk 3 rfl).cell 3 (.slice Al l.length cl) rfl
  replace HS := Lib.hid HS.out.f2
  have HB := Lib.hid (HS.out.box 24 #[.int .i64 3, .string x, .int .i64 0, .slice (some ⟨y, 0, none⟩) 1 1]).f2.f2
  clear HS
  go_wp2_with (at_builtin; refine wpList_push (x := .mk 3 x 0 [t]) HB.out (by first | rfl | simp) (by omega) rfl _ _ rfl rfl rfl ?_)
  clear HB b0 b1 b2 b3 q3; intro A2 c2 V2 w107 HS
  replace HS := Lib.hid HS.out.f2
  have f3 := HS.out.one.free 3
  have g3 := HS.out.one.cell 3 (.slice Al l.length cl) rfl
  go_wp2_with fail
  clear f3 g3
  replace HS := Lib.hid (HS.out.put1 3 (.slice A2 (l.length + 1) c2))
  generalize w107.setCell ⟨bt, 3, none⟩ (.slice A2 (l.length + 1) c2) = w108 at *
  replace HS := Lib.hid HS.out.f4
  replace HS := Lib.hid HS.out.f1
  replace HS := Lib.hid HS.out.f2
  replace HS := Lib.hid HS.out.k3
  rcases ht : (!b5 && tIs C.L ⟨#[125]⟩ j5) with _ | _
  ·refine (eatN HS.out ht).mono ?_
   clear HS; rintro e w109 ⟨rfl, HS⟩
   go_wp2_with fail
   go_roundg g
   case measure => omega
   case rel => exact ⟨_, A2, c2, V2, _, _, (by have h := HS.out; rw [show l.length + 1 = (l ++ [Nd.mk 3 x 0 [t]]).length by simp] at h; exact h), (fun e _ h' => by rw [h', e] at ht; cases ht), HR, by simp; omega⟩
  rw [Bool.and_eq_true, Bool.not_eq_true'] at ht
  obtain ⟨hb, ht⟩ := ht
  subst hb
  refine (eatY HS.out ht).mono ?_
  clear HS; rintro e w109 ⟨rfl, HS⟩
  cases g with
  | zero => exact absurd (show Res.dry = R from HR.out) (fun e => HW.out e.symm)
  | succ g2 =>
  have hR := HR.out
  rw [fieldsM, if_pos ⟨by simp, ht⟩] at hR
  replace HR := Lib.hid (show mbr _ (j5 + 1) false = R from hR)
  clear hR ht
  replace HS := Lib.hid (HS.out.kids 2 nm 0 i64_0 hnm)
  replace HS := Lib.hid HS.out.f2
  replace HS := Lib.hid HS.out.f1
  obtain ⟨-, -, -, -, b0, b1, b2, b3⟩ := (HS.out.blk 2 rfl).all4
  obtain ⟨f0, f1, f2, f3, g0, g1, g2, g3⟩ := (HS.out.blk 1 rfl).all4
  go_wp2_with fail
  have hf := rfinO HS.out (mbr_fin HR.out)
  try simp only [List.length_append, List.length_cons, List.length_nil, Nat.zero_add] at hf
  exact bodyPost_ret (v := .agg _) (results_cell4 (fn := Tryz.f15) rfl hf.1 rfl) rfl hf.2
end Go.Proofs.YtgegfbopogcjpaaGreatDoor
namespace Go.Proofs.YtgegfbopogcjpaaGreatDoor
open Go.RowKit
set_option linter.unusedVariables false
set_option linter.unusedSimpArgs false
set_option maxRecDepth 100000
set_option maxHeartbeats 4000000
theorem rdec_extern (C : RC) (F : Nat) (w : World) (i : Nat) (h : RSt C w i false) (hwet : mbr (declM C.L F i) i false ≠ .dry) (HTY : ROk C 43 (typM C.L F)) (HRW : ∀ (w : World) (i : Nat) (b : Bool), RSt C w i b → mbr (listM C.L (paramM C.L F) true i) i b ≠ .dry → Calls Tryz.prog 45 #[.pointer (some ⟨C.p, 0, none⟩), .int .i64 1] w (RList C w (mbr (listM C.L (paramM C.L F) true i) i b))) (HBL : ROk C 46 (blockF C.L F)) (HNU : ROk C 47 (numM C.L)) (h1 : tIs C.L ⟨#[115, 116, 114, 117, 99, 116]⟩ i = false) (h2 : tIs C.L ⟨#[101, 120, 116, 101, 114, 110]⟩ i = true) : Calls Tryz.prog 15 #[.pointer (some ⟨C.p, 0, none⟩)] w (RNode C w (mbr (declM C.L F i) i false)) := by
 obtain ⟨R, HR⟩ : ∃ R, Hid (mbr (declM C.L F i) i false = R) := ⟨_, rfl⟩
 rw [HR.out] at hwet ⊢
 have HW := Lib.hid hwet
 have hR := HR.out
 unfold declM at hR
 replace HR := Lib.hid hR
 have HS := Lib.hid (h.st.box 24 #[.int .i64 0, .string ⟨#[]⟩, .int .i64 0, .slice none 0 0])
 clear h hR hwet
 go_enter Tryz.func15, Tryz.ntmps15
 go_wp2_with fail
 generalize w.alloc (.cells #[.int .i64 0, .string ⟨#[]⟩, .int .i64 0, .slice none 0 0] 24) = w0 at *
 refine (eatN HS.out (by simp [h1])).mono ?_
 clear HS; rintro e w1 ⟨rfl, HS⟩
 replace HR := Lib.hid (mbr_no HR.out (fun _ => by rw [h1]; simp))
 go_wp2_with fail
 refine (eatY HS.out h2).mono ?_
 clear HS; rintro e w2 ⟨rfl, HS⟩
 replace HR := Lib.hid (mbr_yes (j := i + 1) HR.out h2)
 go_wp2_with fail
 refine (rsubq HTY HS.out (mbr_wet HR.out HW.out)).mono ?_
 clear HS; rintro e w3 ⟨t, j1, b1, At, ct, Vt, rfl, HS, hf⟩
 replace HR := Lib.hid (mbr_seq HR.out HW.out hf)
 clear hf
 go_wp2_with fail
 replace HS := Lib.hid (HS.out.box 24 #[.int .i64 t.k, .string t.t, .int .i64 t.num, .slice At t.kids.length ct])
 generalize w3.alloc (.cells #[.int .i64 t.k, .string t.t, .int .i64 t.num, .slice At t.kids.length ct] 24) = w4 at *
 generalize w3.heap.size = bt at *
 refine (nmq HS.out).mono ?_
 clear HS; rintro e w5 ⟨x, j2, b2, rfl, hx, HS, hf⟩
 replace HR := Lib.hid (mbr_seq HR.out HW.out hf)
 clear hf
 go_upto_region 17 with (fail)
 replace HS := Lib.hid (HS.out.box 24 #[.int .i64 0, .string x, .int .i64 0, .slice none 0 0])
 generalize w5.alloc (.cells #[.int .i64 0, .string x, .int .i64 0, .slice none 0 0] 24) = w6 at *
 generalize w5.heap.size = bn at *
 have q2 := HS.out.z.blk.cell 2 (.bool b2) rfl
 rcases b2 with _ | _
 rotate_left
 ·go_upto_region 31 with (fail)
  clear q2
  replace HR := Lib.hid (mbr_no HR.out (fun e => by cases e))
  have f0 := HS.out.one.free 0
  have g0 := HS.out.one.cell 0 _ rfl
  go_upto_region 32 with (fail)
  clear f0 g0
  replace HS := Lib.hid (HS.out.put1 0 (.int .i64 5))
  simp only [List.setIfInBounds_toArray, List.set_cons_zero, List.set_cons_succ] at HS
  generalize w6.setCell ⟨bn, 0, none⟩ (.int .i64 5) = w7 at *
  obtain ⟨-, -, -, -, b0, b1, b2, b3⟩ := (HS.out.blk 1 rfl).all4
  have f3 := HS.out.one.free 3
  have g3 := HS.out.one.cell 3 _ rfl
  have hne := Nat.ne_of_lt HS.out.one.lt
  have hlt := HS.out.one.lt
  go_wp2_with fail
  clear f3 g3 hne hlt b0 b1 b2 b3
  replace HS := Lib.hid (HS.out.putbox1 3 (.slice (some ⟨w7.heap.size, 0, none⟩) 1 1) 24 #[.int .i64 t.k, .string t.t, .int .i64 t.num, .slice At t.kids.length ct])
  simp only [List.setIfInBounds_toArray, List.set_cons_zero, List.set_cons_succ] at HS
  generalize (w7.setCell ⟨bn, 3, none⟩ (.slice (some ⟨w7.heap.size, 0, none⟩) 1 1)).alloc (.cells #[.int .i64 t.k, .string t.t, .int .i64 t.num, .slice At t.kids.length ct] 24) = w8 at *
  generalize w7.heap.size = y_ at *
  refine (mustq HS.out ⟨#[59]⟩).mono ?_
  clear HS; rintro e w9 ⟨j3, b3, rfl, HS, hf⟩
  replace HR := Lib.hid (mbr_seq HR.out HW.out hf)
  clear hf
  replace HS := Lib.hid HS.out.f3
  replace HS := Lib.hid HS.out.f1
  replace HS := Lib.hid (HS.out.kid1 5 x 0 i64_0 hx)
  replace HS := Lib.hid HS.out.f3
  replace HS := Lib.hid HS.out.f1
  obtain ⟨-, -, -, -, b0, b1, b2, b3⟩ := (HS.out.blk 2 rfl).all4
  obtain ⟨f0, f1, f2, f3, g0, g1, g2, g3⟩ := (HS.out.blk 1 rfl).all4
  go_wp2_with fail
  have hf := rfinO HS.out (mbr_fin HR.out)
  try simp only [List.length_append, List.length_cons, List.length_nil, Nat.zero_add] at hf
  exact bodyPost_ret (v := .agg _) (results_cell4 (fn := Tryz.f15) rfl hf.1 rfl) rfl hf.2
 go_wp2_with fail
 clear q2
 refine (txtq HS.out 0 (by omega)).mono ?_
 clear HS; rintro e w7 ⟨rfl, HS⟩
 rw [Nat.add_zero]
 rcases ht : tIs C.L ⟨#[40]⟩ j2 with _ | _
 ·have hx : ((txR C.L j2).toList == [40]) = false := (lit_beq _ _).trans ((txR_is HS.out.z.ok (s := ⟨#[40]⟩) (by decide) _).trans ht)
  replace HR := Lib.hid (mbr_no HR.out (fun _ => by rw [ht]; simp))
  clear ht
  generalize txR C.L j2 = tx at *
  go_upto_region 31 with (fail)
  clear hx
  have f0 := HS.out.one.free 0
  have g0 := HS.out.one.cell 0 _ rfl
  go_upto_region 32 with (fail)
  clear f0 g0
  replace HS := Lib.hid (HS.out.put1 0 (.int .i64 5))
  simp only [List.setIfInBounds_toArray, List.set_cons_zero, List.set_cons_succ] at HS
  generalize w7.setCell ⟨bn, 0, none⟩ (.int .i64 5) = w8 at *
  obtain ⟨-, -, -, -, b0, b1, b2, b3⟩ := (HS.out.blk 1 rfl).all4
  have f3 := HS.out.one.free 3
  have g3 := HS.out.one.cell 3 _ rfl
  have hne := Nat.ne_of_lt HS.out.one.lt
  have hlt := HS.out.one.lt
  go_wp2_with fail
  clear f3 g3 hne hlt b0 b1 b2 b3
  replace HS := Lib.hid (HS.out.putbox1 3 (.slice (some ⟨w8.heap.size, 0, none⟩) 1 1) 24 #[.int .i64 t.k, .string t.t, .int .i64 t.num, .slice At t.kids.length ct])
  simp only [List.setIfInBounds_toArray, List.set_cons_zero, List.set_cons_succ] at HS
  generalize (w8.setCell ⟨bn, 3, none⟩ (.slice (some ⟨w8.heap.size, 0, none⟩) 1 1)).alloc (.cells #[.int .i64 t.k, .string t.t, .int .i64 t.num, .slice At t.kids.length ct] 24) = w9 at *
  generalize w8.heap.size = y_ at *
  refine (mustq HS.out ⟨#[59]⟩).mono ?_
  clear HS; rintro e w10 ⟨j4, b4, rfl, HS, hf⟩
  replace HR := Lib.hid (mbr_seq HR.out HW.out hf)
  clear hf
  replace HS := Lib.hid HS.out.f3
  replace HS := Lib.hid HS.out.f1
  replace HS := Lib.hid (HS.out.kid1 5 x 0 i64_0 hx)
  replace HS := Lib.hid HS.out.f3
  replace HS := Lib.hid HS.out.f1
  obtain ⟨-, -, -, -, b0, b1, b2, b3⟩ := (HS.out.blk 2 rfl).all4
  obtain ⟨f0, f1, f2, f3, g0, g1, g2, g3⟩ := (HS.out.blk 1 rfl).all4
  go_wp2_with fail
  have hf := rfinO HS.out (mbr_fin HR.out)
  try simp only [List.length_append, List.length_cons, List.length_nil, Nat.zero_add] at hf
  exact bodyPost_ret (v := .agg _) (results_cell4 (fn := Tryz.f15) rfl hf.1 rfl) rfl hf.2
 have hx : ((txR C.L j2).toList == [40]) = true := (lit_beq _ _).trans ((txR_is HS.out.z.ok (s := ⟨#[40]⟩) (by decide) _).trans ht)
 replace HR := Lib.hid (mbr_yes (j := j2) HR.out ht)
 clear ht
 generalize txR C.L j2 = tx at *
 go_wp2_with fail
 clear hx
 refine ((HRW _ _ _ HS.out.z (mbr_wet HR.out HW.out)).mono fun e W' hr => rrowq HS.out hr).mono ?_
 clear HS; rintro e w8 ⟨ks, d, j5, b5, Aks, cks, Vks, rfl, hnks, HS, hf⟩
 replace HR := Lib.hid (mbr_seq HR.out HW.out hf)
 clear hf
 replace HS := Lib.hid HS.out.f1
 have f0 := HS.out.one.free 0
 have g0 := HS.out.one.cell 0 _ rfl
 go_upto_region 20 with (fail)
 clear f0 g0
 replace HS := Lib.hid (HS.out.put1 0 (.int .i64 4))
 simp only [List.setIfInBounds_toArray, List.set_cons_zero, List.set_cons_succ] at HS
 generalize w8.setCell ⟨bn, 0, none⟩ (.int .i64 4) = w9 at *
 obtain ⟨-, -, -, -, b0, b1, b2, b3⟩ := (HS.out.blk 2 rfl).all4
 replace HS := Lib.hid HS.out.f3
 replace HS := Lib.hid HS.out.f2
 have HB := Lib.hid (HS.out.box 24 #[.int .i64 t.k, .string t.t, .int .i64 t.num, .slice At t.kids.length ct]).f2.f2
 clear HS
 go_wp2_with (at_builtin; refine wpList_push (x := t) HB.out (by first | rfl | simp) (by omega) rfl _ _ rfl rfl rfl ?_)
 clear HB; intro A2 c2 V2 w10 HS
 clear b0 b1 b2 b3
 replace HS := Lib.hid HS.out.f1
 have f3 := HS.out.one.free 3
 have g3 := HS.out.one.cell 3 _ rfl
 go_upto_region 21 with (fail)
 clear f3 g3
 replace HS := Lib.hid (HS.out.put1 3 (.slice A2 (ks.length + 1) c2))
 simp only [List.setIfInBounds_toArray, List.set_cons_zero, List.set_cons_succ] at HS
 generalize w10.setCell ⟨bn, 3, none⟩ (.slice A2 (ks.length + 1) c2) = w11 at *
 rcases d with _ | _
 ·go_wp2_with fail
  refine (mustq HS.out ⟨#[59]⟩).mono ?_
  clear HS; rintro e w12 ⟨j6, b6, rfl, HS, hf⟩
  replace HR := Lib.hid (mbr_seq HR.out HW.out hf)
  clear hf
  replace HS := Lib.hid HS.out.f1
  replace HS := Lib.hid (HS.out.kids 4 x 0 (by unfold I64; decide) hx)
  replace HS := Lib.hid HS.out.f3
  replace HS := Lib.hid HS.out.f1
  obtain ⟨-, -, -, -, b0, b1, b2, b3⟩ := (HS.out.blk 2 rfl).all4
  obtain ⟨f0, f1, f2, f3, g0, g1, g2, g3⟩ := (HS.out.blk 1 rfl).all4
  go_wp2_with fail
  have hf := rfinO HS.out (mbr_fin HR.out)
  try simp only [List.length_append, List.length_cons, List.length_nil, Nat.zero_add] at hf
  exact bodyPost_ret (v := .agg _) (results_cell4 (fn := Tryz.f15) rfl hf.1 rfl) rfl hf.2
 have f2 := HS.out.one.free 2
 have g2 := HS.out.one.cell 2 _ rfl
 go_wp2_with fail
 clear f2 g2
 replace HS := Lib.hid (HS.out.put1 2 (.int .i64 1))
 simp only [List.setIfInBounds_toArray, List.set_cons_zero, List.set_cons_succ] at HS
 generalize w11.setCell ⟨bn, 2, none⟩ (.int .i64 1) = w12 at *
 refine (mustq HS.out ⟨#[59]⟩).mono ?_
 clear HS; rintro e w13 ⟨j7, b7, rfl, HS, hf⟩
 replace HR := Lib.hid (mbr_seq HR.out HW.out hf)
 clear hf
 replace HS := Lib.hid HS.out.f1
 replace HS := Lib.hid (HS.out.kids 4 x 1 (by unfold I64; decide) hx)
 replace HS := Lib.hid HS.out.f3
 replace HS := Lib.hid HS.out.f1
 obtain ⟨-, -, -, -, b0, b1, b2, b3⟩ := (HS.out.blk 2 rfl).all4
 obtain ⟨f0, f1, f2, f3, g0, g1, g2, g3⟩ := (HS.out.blk 1 rfl).all4
 go_wp2_with fail
 have hf := rfinO HS.out (mbr_fin HR.out)
 try simp only [List.length_append, List.length_cons, List.length_nil, Nat.zero_add] at hf
 exact bodyPost_ret (v := .agg _) (results_cell4 (fn := Tryz.f15) rfl hf.1 rfl) rfl hf.2
end Go.Proofs.YtgegfbopogcjpaaGreatDoor
