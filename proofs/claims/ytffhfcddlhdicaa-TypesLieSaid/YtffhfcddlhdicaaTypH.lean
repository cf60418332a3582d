/- The walk of the law TypesLie. -/
import Derived.Test.YtffhfcddlhdicaaTypG
import Derived.Deep.RegionHeld3
import Derived.Deep.DrawnRows
namespace Go.Proofs.Ytffhfcddlhdicaa
open Go.RowKit
set_option linter.unusedVariables false
set_option linter.unusedSimpArgs false
set_option maxRecDepth 100000
set_option maxHeartbeats 4000000
theorem mayT_mono : ∀ (d : Nat) (T : Ty), mayT d T = true → mayT (d + 1) T = true
  | 0, T, h => by cases h
  | d + 1, T, h => by
    unfold mayT at h ⊢
    by_cases h12 : T.k = 1 ∨ T.k = 2
    · rw [if_pos h12] at h ⊢; exact h
    · rw [if_neg h12] at h ⊢
      by_cases h3 : T.k = 3
      · rw [if_pos h3] at h ⊢
        simp only [Bool.and_eq_true, decide_eq_true_eq, List.all_eq_true] at h ⊢
        obtain ⟨⟨⟨h1, ⟨h2, hp⟩⟩, h4⟩, h5⟩ := h
        exact ⟨⟨⟨h1, ⟨h2, fun p hp' => mayT_mono d p (hp p hp')⟩⟩, h4⟩, h5⟩
      · rw [if_neg h3] at h ⊢
        by_cases h4 : T.k = 4
        · rw [if_pos h4] at h ⊢
          simp only [Bool.and_eq_true, decide_eq_true_eq, List.all_eq_true] at h ⊢
          obtain ⟨h1, ⟨h2, hp⟩⟩ := h
          exact ⟨h1, ⟨h2, fun p hp' => mayT_mono d p (hp p hp')⟩⟩
        · rw [if_neg h4] at h; cases h
theorem may_struct {T : Ty} (h : may T = true) (h3 : T.k = 3) : T.ps.length ≤ 6 ∧ T.ns.length = T.ps.length ∧ (∀ p ∈ T.ps, may p = true ∧ Sized p ∧ (sizeT p).1 ≤ 12) ∧ (sizeT T).1 ≤ 12 := by
  unfold may mayT at h
  rw [if_neg (by omega), if_pos h3] at h
  simp only [Bool.and_eq_true, decide_eq_true_eq, List.all_eq_true, beq_iff_eq] at h
  obtain ⟨⟨⟨⟨-, hn⟩, ⟨⟨_, hl⟩, hp⟩⟩, -⟩, hs⟩ := h
  exact ⟨hl, hn, fun p h => ⟨mayT_mono 3 p (hp p h), (sized_of_may _ p (hp p h)).1, (sized_of_may _ p (hp p h)).2⟩, hs⟩
def longT : Ty := .mk 2 ByteArray.empty [] [] false
theorem may_long : may longT = true := by
  unfold may mayT longT
  simp [Ty.k, bareT, Ty.nm, Ty.ns, Ty.ps, Ty.many]
theorem long_rep (w : World) : Rep w longT [.int .i64 2, .string ByteArray.empty, .slice none 0 0, .slice none 0 0, .bool false] := by
  have := Rep.of (w := w) (T := longT) (An := none) (Ap := none) (cn := 0) (cp := 0) (.inl rfl) (by show RepL w [] none; unfold RepL; trivial)
  exact this
def Box5 (w1 : World) (H : Nat) (a0 a1 a2 a3 a4 : Value) : Prop :=
  (w1.cell? ⟨H, 0, none⟩ = some a0 ∧ w1.cell? ⟨H, 1, none⟩ = some a1 ∧ w1.cell? ⟨H, 2, none⟩ = some a2 ∧ w1.cell? ⟨H, 3, none⟩ = some a3 ∧ w1.cell? ⟨H, 4, none⟩ = some a4) ∧ H < w1.heap.size
theorem Box5.keep {w1 w2 : World} {H : Nat} {a0 a1 a2 a3 a4 : Value} (h : Box5 w1 H a0 a1 a2 a3 a4) (hb : Below w1.heap.size w1 w2) : Box5 w2 H a0 a1 a2 a3 a4 := by
  obtain ⟨⟨h0, h1, h2, h3, h4⟩, hl⟩ := h
  exact ⟨⟨(hb.cell (p := ⟨H, 0, none⟩) hl).trans h0, (hb.cell (p := ⟨H, 1, none⟩) hl).trans h1, (hb.cell (p := ⟨H, 2, none⟩) hl).trans h2, (hb.cell (p := ⟨H, 3, none⟩) hl).trans h3, (hb.cell (p := ⟨H, 4, none⟩) hl).trans h4⟩, Nat.lt_of_lt_of_le hl hb.size⟩
theorem Box5.made (w : World) (a0 a1 a2 a3 a4 : Value) : Box5 (w.alloc (.cells #[a0, a1, a2, a3, a4] 51)) w.heap.size a0 a1 a2 a3 a4 :=
  ⟨⟨by go_simp, by go_simp, by go_simp, by go_simp, by go_simp⟩, by simp⟩
def LieRel (zs : List (Nat × Bool)) (m : Nat) (wl w : World) (en i : Value) (wr : World) : Prop :=
  ∃ k : Nat, k ≤ m ∧ i = .int .i64 k ∧ en = .int .i64 (endZ zs k) ∧ Below wl.heap.size wl wr
theorem st_keep {w6 w w' : World} {bl ol k q H b o : Nat} {sv v0 v1 v2 v3 v4 : Value} (h1 : bl < w6.heap.size) (h2 : H < w6.heap.size) (h3 : b < w6.heap.size)
    (h : Below w6.heap.size w6 w ∧ w.cell? ⟨bl, ol + k, none⟩ = some (.int .i64 (q : Int)) ∧ w.cell? ⟨H, 3, none⟩ = some sv ∧ w.cell? ⟨b, o + k * 5, none⟩ = some v0 ∧ w.cell? ⟨b, o + k * 5 + 1, none⟩ = some v1 ∧ w.cell? ⟨b, o + k * 5 + 2, none⟩ = some v2 ∧ w.cell? ⟨b, o + k * 5 + 3, none⟩ = some v3 ∧ w.cell? ⟨b, o + k * 5 + 4, none⟩ = some v4) (hb : Below w.heap.size w w') : Below w6.heap.size w6 w' ∧ w'.cell? ⟨bl, ol + k, none⟩ = some (.int .i64 (q : Int)) ∧ w'.cell? ⟨H, 3, none⟩ = some sv ∧ w'.cell? ⟨b, o + k * 5, none⟩ = some v0 ∧ w'.cell? ⟨b, o + k * 5 + 1, none⟩ = some v1 ∧ w'.cell? ⟨b, o + k * 5 + 2, none⟩ = some v2 ∧ w'.cell? ⟨b, o + k * 5 + 3, none⟩ = some v3 ∧ w'.cell? ⟨b, o + k * 5 + 4, none⟩ = some v4 := by
  obtain ⟨h0, c0, c1, c2, c3, c4, c5, c6⟩ := h
  have hs := h0.size
  exact ⟨h0.trans (hb.mono hs), (keep_cell hb (by omega)).trans c0, (keep_cell hb (by omega)).trans c1, (keep_cell hb (by omega)).trans c2, (keep_cell hb (by omega)).trans c3, (keep_cell hb (by omega)).trans c4, (keep_cell hb (by omega)).trans c5, (keep_cell hb (by omega)).trans c6⟩
theorem st_draw {w6 w : World} {bl ol k q H b o : Nat} {sv v0 v1 v2 v3 v4 : Value}
    (h : Below w6.heap.size w6 w ∧ w.cell? ⟨bl, ol + k, none⟩ = some (.int .i64 (q : Int)) ∧ w.cell? ⟨H, 3, none⟩ = some sv ∧ w.cell? ⟨b, o + k * 5, none⟩ = some v0 ∧ w.cell? ⟨b, o + k * 5 + 1, none⟩ = some v1 ∧ w.cell? ⟨b, o + k * 5 + 2, none⟩ = some v2 ∧ w.cell? ⟨b, o + k * 5 + 3, none⟩ = some v3 ∧ w.cell? ⟨b, o + k * 5 + 4, none⟩ = some v4) : Below w6.heap.size w6 w.drew ∧ w.drew.cell? ⟨bl, ol + k, none⟩ = some (.int .i64 (q : Int)) ∧ w.drew.cell? ⟨H, 3, none⟩ = some sv ∧ w.drew.cell? ⟨b, o + k * 5, none⟩ = some v0 ∧ w.drew.cell? ⟨b, o + k * 5 + 1, none⟩ = some v1 ∧ w.drew.cell? ⟨b, o + k * 5 + 2, none⟩ = some v2 ∧ w.drew.cell? ⟨b, o + k * 5 + 3, none⟩ = some v3 ∧ w.drew.cell? ⟨b, o + k * 5 + 4, none⟩ = some v4 := ⟨h.1.drew, h.2⟩
theorem st_left {w6 w : World} (bl ol k q H b o : Nat) (sv v0 v1 v2 v3 v4 : Value)
    (h : Below w6.heap.size w6 w ∧ w.cell? ⟨bl, ol + k, none⟩ = some (.int .i64 (q : Int)) ∧ w.cell? ⟨H, 3, none⟩ = some sv ∧ w.cell? ⟨b, o + k * 5, none⟩ = some v0 ∧ w.cell? ⟨b, o + k * 5 + 1, none⟩ = some v1 ∧ w.cell? ⟨b, o + k * 5 + 2, none⟩ = some v2 ∧ w.cell? ⟨b, o + k * 5 + 3, none⟩ = some v3 ∧ w.cell? ⟨b, o + k * 5 + 4, none⟩ = some v4) : Below w6.heap.size w6 w := h.1
theorem types_lie (T : Ty) (cs : List Value) (w : World) (hr : Rep w T cs) (hm : ML w) : Calls Try.prog 8 #[.agg cs.toArray] w fun e w' => e = .returned (.bool true) ∧ Below w.heap.size w w' := by
  have hr0 := hr
  obtain ⟨An, cn, Ap, cp, rfl, hN, hP⟩ := hr.five
  clear hr hN
  have HR := Lib.hid hr0
  clear hr0
  go_enter Try.func8, Try.ntmps8
  go_wp2_with fail
  refine (words_any T _ _ (Rep.keep (by (repeat (first | with_reducible assumption | with_reducible exact Below.refl _ _ | (refine Below.setCell ?_ (by first | omega | (simp; done) | (simp; omega)) _) | (refine Below.drewN_ ?_ _) | (refine Below.drew ?_) | (refine Below.alloc ?_ (by first | omega | (simp; done) | (simp; omega)) _)))) _ _ HR.out) (hm.keep (by (repeat (first | with_reducible assumption | with_reducible exact Below.refl _ _ | (refine Below.setCell ?_ (by first | omega | (simp; done) | (simp; omega)) _) | (refine Below.drewN_ ?_ _) | (refine Below.drew ?_) | (refine Below.alloc ?_ (by first | omega | (simp; done) | (simp; omega)) _)))))).mono ?_
  rintro e w1 ⟨rfl, hb⟩
  have hb1 : Below w.heap.size w w1 := Below.trans (by (repeat (first | with_reducible assumption | with_reducible exact Below.refl _ _ | (refine Below.setCell ?_ (by first | omega | (simp; done) | (simp; omega)) _) | (refine Below.drewN_ ?_ _) | (refine Below.drew ?_) | (refine Below.alloc ?_ (by first | omega | (simp; done) | (simp; omega)) _)))) (hb.mono (by simp))
  have hbx := (Box5.made w (.int .i64 T.k) (.string T.nm) (.slice An T.ns.length cn) (.slice Ap T.ps.length cp) (.bool T.many)).keep hb
  clear hb
  go_wp2_with fail
  refine (may_any longT _ _ (long_rep _) (hm.keep hb1)).mono ?_
  rintro e w2 ⟨rfl, hb⟩
  rw [may_long]
  have hb2 := hb1.trans (hb.mono hb1.size)
  have hbx2 := hbx.keep hb
  clear hb hb1 hbx
  obtain ⟨⟨q0, q1, q2, q3, q4⟩, ql⟩ := id hbx2
  go_wp2_with fail
  refine (may_any T _ _ (Rep.keep hb2 _ _ HR.out) (hm.keep hb2)).mono ?_
  rintro e w3 ⟨rfl, hb⟩
  have hb3 := hb2.trans (hb.mono hb2.size)
  have hbx3 := hbx2.keep hb
  clear hb hb2 hbx2 q0 q1 q2 q3 q4 ql
  obtain ⟨⟨q0, q1, q2, q3, q4⟩, ql⟩ := id hbx3
  rcases hmy : may T with _ | _
  · have hw : wordsT T = 0 := by simp [wordsT, hmy]
    go_wp2
    go_ret
    exact ⟨rfl, hb3⟩
  go_wp2_with fail
  refine (places_any T _ _ (Rep.keep hb3 _ _ HR.out) (hm.keep hb3)).mono ?_
  rintro e w4 ⟨⟨Al, cl, rfl, hRow⟩, hb⟩
  have hb4 := hb3.trans (hb.mono hb3.size)
  have hbx4 := hbx3.keep hb
  clear hb hb3 hbx3 q0 q1 q2 q3 q4 ql
  obtain ⟨⟨q0, q1, q2, q3, q4⟩, ql⟩ := id hbx4
  have hw : wordsT T = ((sizeT T).1 : Int) := by simp [wordsT, hmy]
  have hev : evenT T = (sizeT T).2 := by simp [evenT, hmy]
  by_cases h3 : T.k = 3
  · have h3' : (T.k != 3) = false := by simp [h3]
    obtain ⟨hl6, hns, hps, hs12⟩ := may_struct hmy h3
    have hpl : placesT T = (List.range T.ps.length).map (plcZ (T.ps.map sizeT)) := by unfold placesT; rw [if_pos ⟨h3, hmy⟩]
    have hln : (placesT T).length = T.ps.length := by rw [hpl]; simp
    have hsz : sizeT T = sizeZ (T.ps.map sizeT) := by rw [sizeT_eq, if_neg (by omega), if_pos h3]
    have hn12 : ¬ (12 < wordsT T) := by rw [hw]; omega
    have hpar : (sizeT T).2 = true → (sizeT T).1 % 2 = 0 := by
      rw [hsz]
      unfold sizeZ
      dsimp only
      intro h
      rw [if_pos h]
      omega
    have hcond : Hid ((evenT T && (wordsT T % 2 == 1)) = false) := by
      unfold Hid
      rw [hev, hw]
      rcases h : (sizeT T).2 with _ | _
      · rfl
      · have := hpar h
        simp
        omega
    have HEND : Hid (evenT T = (T.ps.map sizeT).any (·.2) ∧ wordsT T = if (T.ps.map sizeT).any (·.2) then ((endZ (T.ps.map sizeT) T.ps.length + endZ (T.ps.map sizeT) T.ps.length % 2 : Nat) : Int) else (endZ (T.ps.map sizeT) T.ps.length : Int)) := by
      unfold Hid
      rw [hev, hw, hsz]
      unfold sizeZ
      dsimp only
      rw [List.length_map]
      refine ⟨rfl, ?_⟩
      split <;> rfl
    obtain ⟨n, hn⟩ : ∃ n : Nat, wordsT T = (n : Int) := ⟨(sizeT T).1, hw⟩
    rw [hn] at hn12 hcond HEND ⊢
    have hn13 : decide (12 < (n : Int)) = false := by simpa using hn12
    have HPL := Lib.hid hpl
    have HPS := Lib.hid hps
    have HL6 := Lib.hid hl6
    have HRW := Lib.hid hRow
    rw [hln]
    clear hpl hps hns hsz hw hev h3 hpar hs12 hRow hmy hl6 hn
    have hlq : (((placesT T).length : Nat) : Int) = (T.ps.length : Int) := by rw [hln]
    clear hln hlq
    go_wp2_with fail
    with_reducible refine (even_any T _ _ (Rep.keep hb4 _ _ HR.out) (hm.keep hb4)).mono ?_
    rintro e w5 ⟨rfl, hb⟩
    have hb5 := hb4.trans (hb.mono hb4.size)
    have hbx5 := hbx4.keep hb
    have HRW5 := Lib.hid (HRW.out.keep hb)
    clear hb hb4 hbx4 HRW q0 q1 q2 q3 q4 ql
    obtain ⟨⟨q0, q1, q2, q3, q4⟩, ql⟩ := id hbx5
    rcases hee : evenT T with _ | _
    · go_wp2
      go_loopw [2, 5, 6, 7] (fun _ en i _ wr => LieRel (T.ps.map sizeT) T.ps.length w5 w en i wr) (fun _ _ i _ _ => T.ps.length - (intOf i).toNat)
      case atStart => exact ⟨0, Nat.zero_le _, rfl, rfl, Below.refl _ _⟩
      case round =>
        obtain ⟨k, hk, rfl, rfl, hbr⟩ := hrel
        have hb6 := hb5.trans (hbr.mono hb5.size)
        have hbx6 := hbx5.keep hbr
        clear q0 q1 q2 q3 q4 ql
        obtain ⟨⟨q0, q1, q2, q3, q4⟩, ql⟩ := id hbx6
        by_cases hlt : k < T.ps.length
        · obtain ⟨b, o, cs, rfl, hbl, hc, hrep0⟩ := RepL.at_ T.ps _ (RepL.keep hb6 T.ps _ hP) k hlt
          have hrep := hrep0
          obtain ⟨An', cn', Ap', cp', rfl, -, -⟩ := hrep.five
          have c0 := hc 0 _ rfl
          have c1 := hc 1 _ rfl
          have c2 := hc 2 _ rfl
          have c3 := hc 3 _ rfl
          have c4 := hc 4 _ rfl
          rw [Nat.add_zero] at c0
          clear hc hrep0
          have hq0 : (ints (placesT T))[k]? = some (.int .i64 (plcZ (T.ps.map sizeT) k : Int)) := by rw [HPL.out]; simp [ints, hlt]
          obtain ⟨bl, ol, rfl, hbl5, hcl⟩ := (HRW5.out.keep hbr).at_ (fun e => by rw [e] at hq0; simp at hq0)
          have d0 := hcl k _ hq0
          clear hcl hq0
          obtain ⟨hmp, -, hz12⟩ := HPS.out _ (List.getElem_mem hlt)
          have hz : (T.ps.map sizeT).getD k (0, false) = sizeT T.ps[k] := by simp [hlt]
          have hE : endZ (T.ps.map sizeT) k ≤ 91 := by
            have := endZ_le (T.ps.map sizeT) 12 (fun j => by
              by_cases hj : j < T.ps.length
              · simp [hj]
                exact (HPS.out _ (List.getElem_mem hj)).2.2
              · simp [hj]) k
            have := HL6.out
            omega
          have hsucc := endZ_succ (T.ps.map sizeT) k
          have hplc : plcZ (T.ps.map sizeT) k = if (sizeT T.ps[k]).2 then endZ (T.ps.map sizeT) k + endZ (T.ps.map sizeT) k % 2 else endZ (T.ps.map sizeT) k := by unfold plcZ; rw [hz]
          rw [hz] at hsucc
          clear hz
          have hi : (k : Int) < (T.ps.length : Int) := by omega
          have hk91 : (k : Int) < 7 := by have := HL6.out; omega
          generalize hps : T.ps[k] = p at *
          generalize endZ (T.ps.map sizeT) k = E at *
          generalize plcZ (T.ps.map sizeT) k = q at *
          go_wp2_with fail
          with_reducible refine (even_any p _ _ hrep (hm.keep hb6)).mono ?_
          rintro e w6 ⟨rfl, hb⟩
          have d0 := (keep_cell hb hbl5).trans d0
          have c0 := (keep_cell hb hbl).trans c0
          have c1 := (keep_cell hb hbl).trans c1
          have c2 := (keep_cell hb hbl).trans c2
          have c3 := (keep_cell hb hbl).trans c3
          have c4 := (keep_cell hb hbl).trans c4
          have hbl6 : bl < w6.heap.size := Nat.lt_of_lt_of_le hbl5 hb.size
          have hb6' : b < w6.heap.size := Nat.lt_of_lt_of_le hbl hb.size
          have hbx7 := hbx6.keep hb
          clear q0 q1 q2 q3 q4 ql hbx6
          obtain ⟨⟨e0, e1, e2, e3, e4⟩, ql⟩ := hbx7
          rcases hzz : sizeT p with ⟨z, ev⟩
          rw [hzz] at hsucc hplc hz12
          dsimp only at hsucc hplc hz12
          have hep : evenT p = ev := by simp [evenT, hmp, hzz]
          have hwp : wordsT p = (z : Int) := by simp [wordsT, hmp, hzz]
          rw [hep]
          have HWd : Hid (∀ W, (Below w6.heap.size w6 W ∧ W.cell? ⟨bl, ol + k, none⟩ = some (.int .i64 (q : Int)) ∧ W.cell? ⟨w.heap.size, 3, none⟩ = some (.slice (some ⟨b, o, none⟩) T.ps.length cp) ∧ W.cell? ⟨b, o + k * 5, none⟩ = some (.int .i64 p.k) ∧ W.cell? ⟨b, o + k * 5 + 1, none⟩ = some (.string p.nm) ∧ W.cell? ⟨b, o + k * 5 + 2, none⟩ = some (.slice An' p.ns.length cn') ∧ W.cell? ⟨b, o + k * 5 + 3, none⟩ = some (.slice Ap' p.ps.length cp') ∧ W.cell? ⟨b, o + k * 5 + 4, none⟩ = some (.bool p.many)) → Calls Try.prog 23 #[.agg #[.int .i64 p.k, .string p.nm, .slice An' p.ns.length cn', .slice Ap' p.ps.length cp', .bool p.many]] W fun e w' => e = .returned (.int .i64 (z : Int)) ∧ Below W.heap.size W w') := fun W hW => by
            rw [← hwp]
            exact words_any p _ W (Rep.keep (hb.trans (hW.1.mono hb.size)) _ _ hrep) (hm.keep ((hb6.trans (hb.mono hb6.size)).trans (hW.1.mono (Nat.le_trans hb6.size hb.size))))
          clear hep hwp hzz hmp
          have hEc : (E : Int) ≤ 91 := by omega
          have hzc : (z : Int) ≤ 12 := by omega
          cases ev
          · obtain rfl : q = E := by simpa using hplc
            clear hplc
            have t1 : ((q : Int) != (q : Int)) = false := by simp
            have hwr : IntKind.i64.wrap ((q : Int) + (z : Int)) = (q : Int) + (z : Int) := by simp [IntKind.wrap, IntKind.min, IntKind.max, IntKind.signed, IntKind.bits]; omega
            go_wp2_with fail
            go_region_held3 (fun w' => Below w6.heap.size w6 w' ∧ w'.cell? ⟨bl, ol + k, none⟩ = some (.int .i64 (q : Int)) ∧ w'.cell? ⟨w.heap.size, 3, none⟩ = some (.slice (some ⟨b, o, none⟩) T.ps.length cp) ∧ w'.cell? ⟨b, o + k * 5, none⟩ = some (.int .i64 p.k) ∧ w'.cell? ⟨b, o + k * 5 + 1, none⟩ = some (.string p.nm) ∧ w'.cell? ⟨b, o + k * 5 + 2, none⟩ = some (.slice An' p.ns.length cn') ∧ w'.cell? ⟨b, o + k * 5 + 3, none⟩ = some (.slice Ap' p.ps.length cp') ∧ w'.cell? ⟨b, o + k * 5 + 4, none⟩ = some (.bool p.many)) (first | exact ⟨(Below.refl _ _).drew, d0, e3, c0, c1, c2, c3, c4⟩ | exact st_keep hbl6 ql hb6' (by assumption) hbq | exact st_draw (by assumption) | go_keep) ((go_at_call 23; ((with_reducible refine (HWd.out _ (by assumption)).mono ?_); rintro e w' ⟨rfl, hbq⟩)))
            all_goals
              go_wp2
              go_roundw
              case rel => exact ⟨k + 1, by omega, by go_num, by rw [hsucc]; go_num, hbr.trans ((hb.mono hbr.size).trans ((st_left bl ol k _ w.heap.size b o _ _ _ _ _ _ (by assumption)).mono (Nat.le_trans hbr.size hb.size)))⟩
              case measure => (first | (simp [intOf]; done) | (simp [intOf]; omega))
          · have hq' : q = E + E % 2 := by simpa using hplc
            clear hplc
            rcases Nat.mod_two_eq_zero_or_one E with hE2 | hE2
            · obtain rfl : q = E := by omega
              have t2 : ((q : Int) % 2 == 1) = false := by simp; omega
              clear hq' hE2
              have hwr : IntKind.i64.wrap ((q : Int) + (z : Int)) = (q : Int) + (z : Int) := by simp [IntKind.wrap, IntKind.min, IntKind.max, IntKind.signed, IntKind.bits]; omega
              go_wp2_with fail
              go_region_held3 (fun w' => Below w6.heap.size w6 w' ∧ w'.cell? ⟨bl, ol + k, none⟩ = some (.int .i64 (q : Int)) ∧ w'.cell? ⟨w.heap.size, 3, none⟩ = some (.slice (some ⟨b, o, none⟩) T.ps.length cp) ∧ w'.cell? ⟨b, o + k * 5, none⟩ = some (.int .i64 p.k) ∧ w'.cell? ⟨b, o + k * 5 + 1, none⟩ = some (.string p.nm) ∧ w'.cell? ⟨b, o + k * 5 + 2, none⟩ = some (.slice An' p.ns.length cn') ∧ w'.cell? ⟨b, o + k * 5 + 3, none⟩ = some (.slice Ap' p.ps.length cp') ∧ w'.cell? ⟨b, o + k * 5 + 4, none⟩ = some (.bool p.many)) (first | exact ⟨(Below.refl _ _).drew, d0, e3, c0, c1, c2, c3, c4⟩ | exact st_keep hbl6 ql hb6' (by assumption) hbq | exact st_draw (by assumption) | go_keep) ((go_at_call 23; ((with_reducible refine (HWd.out _ (by assumption)).mono ?_); rintro e w' ⟨rfl, hbq⟩)))
              all_goals
                go_wp2
                go_roundw
                case rel => exact ⟨k + 1, by omega, by go_num, by rw [hsucc]; go_num, hbr.trans ((hb.mono hbr.size).trans ((st_left bl ol k _ w.heap.size b o _ _ _ _ _ _ (by assumption)).mono (Nat.le_trans hbr.size hb.size)))⟩
                case measure => (first | (simp [intOf]; done) | (simp [intOf]; omega))
            · obtain ⟨hqE⟩ : q = E + 1 ∧ True := ⟨by omega, trivial⟩
              have t1 : ¬ (q < E) := by omega
              have t2 : ((q : Int) % 2 == 1) = false := by simp; omega
              have t3 : ¬ ((E : Int) + 1 < (q : Int)) := by omega
              clear hq' hE2 hqE
              have hwr : IntKind.i64.wrap ((q : Int) + (z : Int)) = (q : Int) + (z : Int) := by simp [IntKind.wrap, IntKind.min, IntKind.max, IntKind.signed, IntKind.bits]; omega
              go_wp2_with fail
              go_region_held3 (fun w' => Below w6.heap.size w6 w' ∧ w'.cell? ⟨bl, ol + k, none⟩ = some (.int .i64 (q : Int)) ∧ w'.cell? ⟨w.heap.size, 3, none⟩ = some (.slice (some ⟨b, o, none⟩) T.ps.length cp) ∧ w'.cell? ⟨b, o + k * 5, none⟩ = some (.int .i64 p.k) ∧ w'.cell? ⟨b, o + k * 5 + 1, none⟩ = some (.string p.nm) ∧ w'.cell? ⟨b, o + k * 5 + 2, none⟩ = some (.slice An' p.ns.length cn') ∧ w'.cell? ⟨b, o + k * 5 + 3, none⟩ = some (.slice Ap' p.ps.length cp') ∧ w'.cell? ⟨b, o + k * 5 + 4, none⟩ = some (.bool p.many)) (first | exact ⟨(Below.refl _ _).drew, d0, e3, c0, c1, c2, c3, c4⟩ | exact st_keep hbl6 ql hb6' (by assumption) hbq | exact st_draw (by assumption) | go_keep) ((go_at_call 23; ((with_reducible refine (HWd.out _ (by assumption)).mono ?_); rintro e w' ⟨rfl, hbq⟩)))
              all_goals
                go_wp2
                go_roundw
                case rel => exact ⟨k + 1, by omega, by go_num, by rw [hsucc]; go_num, hbr.trans ((hb.mono hbr.size).trans ((st_left bl ol k _ w.heap.size b o _ _ _ _ _ _ (by assumption)).mono (Nat.le_trans hbr.size hb.size)))⟩
                case measure => (first | (simp [intOf]; done) | (simp [intOf]; omega))
        · have hi : (T.ps.length : Int) ≤ (k : Int) := by omega
          obtain rfl : k = T.ps.length := by omega
          obtain ⟨he, hnE⟩ := HEND.out
          rw [hee] at he
          rw [← he] at hnE
          have hnn : n = endZ (T.ps.map sizeT) T.ps.length := by
            have h : (n : Int) = (endZ (T.ps.map sizeT) T.ps.length : Int) := by simpa using hnE
            omega
          clear hnE he HEND
          generalize endZ (T.ps.map sizeT) T.ps.length = E at *
          subst hnn
          go_wp2
          go_ret
          exact ⟨rfl, hb6⟩
    · have hcond2 : ((n : Int) % 2 == 1) = false := by
        have := hcond.out
        rw [hee] at this
        simpa using this
      go_wp2
      go_loopw [2, 5, 6, 7] (fun _ en i _ wr => LieRel (T.ps.map sizeT) T.ps.length w5 w en i wr) (fun _ _ i _ _ => T.ps.length - (intOf i).toNat)
      case atStart => exact ⟨0, Nat.zero_le _, rfl, rfl, Below.refl _ _⟩
      case round =>
        obtain ⟨k, hk, rfl, rfl, hbr⟩ := hrel
        have hb6 := hb5.trans (hbr.mono hb5.size)
        have hbx6 := hbx5.keep hbr
        clear q0 q1 q2 q3 q4 ql
        obtain ⟨⟨q0, q1, q2, q3, q4⟩, ql⟩ := id hbx6
        by_cases hlt : k < T.ps.length
        · obtain ⟨b, o, cs, rfl, hbl, hc, hrep0⟩ := RepL.at_ T.ps _ (RepL.keep hb6 T.ps _ hP) k hlt
          have hrep := hrep0
          obtain ⟨An', cn', Ap', cp', rfl, -, -⟩ := hrep.five
          have c0 := hc 0 _ rfl
          have c1 := hc 1 _ rfl
          have c2 := hc 2 _ rfl
          have c3 := hc 3 _ rfl
          have c4 := hc 4 _ rfl
          rw [Nat.add_zero] at c0
          clear hc hrep0
          have hq0 : (ints (placesT T))[k]? = some (.int .i64 (plcZ (T.ps.map sizeT) k : Int)) := by rw [HPL.out]; simp [ints, hlt]
          obtain ⟨bl, ol, rfl, hbl5, hcl⟩ := (HRW5.out.keep hbr).at_ (fun e => by rw [e] at hq0; simp at hq0)
          have d0 := hcl k _ hq0
          clear hcl hq0
          obtain ⟨hmp, -, hz12⟩ := HPS.out _ (List.getElem_mem hlt)
          have hz : (T.ps.map sizeT).getD k (0, false) = sizeT T.ps[k] := by simp [hlt]
          have hE : endZ (T.ps.map sizeT) k ≤ 91 := by
            have := endZ_le (T.ps.map sizeT) 12 (fun j => by
              by_cases hj : j < T.ps.length
              · simp [hj]
                exact (HPS.out _ (List.getElem_mem hj)).2.2
              · simp [hj]) k
            have := HL6.out
            omega
          have hsucc := endZ_succ (T.ps.map sizeT) k
          have hplc : plcZ (T.ps.map sizeT) k = if (sizeT T.ps[k]).2 then endZ (T.ps.map sizeT) k + endZ (T.ps.map sizeT) k % 2 else endZ (T.ps.map sizeT) k := by unfold plcZ; rw [hz]
          rw [hz] at hsucc
          clear hz
          have hi : (k : Int) < (T.ps.length : Int) := by omega
          have hk91 : (k : Int) < 7 := by have := HL6.out; omega
          generalize hps : T.ps[k] = p at *
          generalize endZ (T.ps.map sizeT) k = E at *
          generalize plcZ (T.ps.map sizeT) k = q at *
          go_wp2_with fail
          with_reducible refine (even_any p _ _ hrep (hm.keep hb6)).mono ?_
          rintro e w6 ⟨rfl, hb⟩
          have d0 := (keep_cell hb hbl5).trans d0
          have c0 := (keep_cell hb hbl).trans c0
          have c1 := (keep_cell hb hbl).trans c1
          have c2 := (keep_cell hb hbl).trans c2
          have c3 := (keep_cell hb hbl).trans c3
          have c4 := (keep_cell hb hbl).trans c4
          have hbl6 : bl < w6.heap.size := Nat.lt_of_lt_of_le hbl5 hb.size
          have hb6' : b < w6.heap.size := Nat.lt_of_lt_of_le hbl hb.size
          have hbx7 := hbx6.keep hb
          clear q0 q1 q2 q3 q4 ql hbx6
          obtain ⟨⟨e0, e1, e2, e3, e4⟩, ql⟩ := hbx7
          rcases hzz : sizeT p with ⟨z, ev⟩
          rw [hzz] at hsucc hplc hz12
          dsimp only at hsucc hplc hz12
          have hep : evenT p = ev := by simp [evenT, hmp, hzz]
          have hwp : wordsT p = (z : Int) := by simp [wordsT, hmp, hzz]
          rw [hep]
          have HWd : Hid (∀ W, (Below w6.heap.size w6 W ∧ W.cell? ⟨bl, ol + k, none⟩ = some (.int .i64 (q : Int)) ∧ W.cell? ⟨w.heap.size, 3, none⟩ = some (.slice (some ⟨b, o, none⟩) T.ps.length cp) ∧ W.cell? ⟨b, o + k * 5, none⟩ = some (.int .i64 p.k) ∧ W.cell? ⟨b, o + k * 5 + 1, none⟩ = some (.string p.nm) ∧ W.cell? ⟨b, o + k * 5 + 2, none⟩ = some (.slice An' p.ns.length cn') ∧ W.cell? ⟨b, o + k * 5 + 3, none⟩ = some (.slice Ap' p.ps.length cp') ∧ W.cell? ⟨b, o + k * 5 + 4, none⟩ = some (.bool p.many)) → Calls Try.prog 23 #[.agg #[.int .i64 p.k, .string p.nm, .slice An' p.ns.length cn', .slice Ap' p.ps.length cp', .bool p.many]] W fun e w' => e = .returned (.int .i64 (z : Int)) ∧ Below W.heap.size W w') := fun W hW => by
            rw [← hwp]
            exact words_any p _ W (Rep.keep (hb.trans (hW.1.mono hb.size)) _ _ hrep) (hm.keep ((hb6.trans (hb.mono hb6.size)).trans (hW.1.mono (Nat.le_trans hb6.size hb.size))))
          clear hep hwp hzz hmp
          have hEc : (E : Int) ≤ 91 := by omega
          have hzc : (z : Int) ≤ 12 := by omega
          cases ev
          · obtain rfl : q = E := by simpa using hplc
            clear hplc
            have t1 : ((q : Int) != (q : Int)) = false := by simp
            have hwr : IntKind.i64.wrap ((q : Int) + (z : Int)) = (q : Int) + (z : Int) := by simp [IntKind.wrap, IntKind.min, IntKind.max, IntKind.signed, IntKind.bits]; omega
            go_wp2_with fail
            go_region_held3 (fun w' => Below w6.heap.size w6 w' ∧ w'.cell? ⟨bl, ol + k, none⟩ = some (.int .i64 (q : Int)) ∧ w'.cell? ⟨w.heap.size, 3, none⟩ = some (.slice (some ⟨b, o, none⟩) T.ps.length cp) ∧ w'.cell? ⟨b, o + k * 5, none⟩ = some (.int .i64 p.k) ∧ w'.cell? ⟨b, o + k * 5 + 1, none⟩ = some (.string p.nm) ∧ w'.cell? ⟨b, o + k * 5 + 2, none⟩ = some (.slice An' p.ns.length cn') ∧ w'.cell? ⟨b, o + k * 5 + 3, none⟩ = some (.slice Ap' p.ps.length cp') ∧ w'.cell? ⟨b, o + k * 5 + 4, none⟩ = some (.bool p.many)) (first | exact ⟨(Below.refl _ _).drew, d0, e3, c0, c1, c2, c3, c4⟩ | exact st_keep hbl6 ql hb6' (by assumption) hbq | exact st_draw (by assumption) | go_keep) ((go_at_call 23; ((with_reducible refine (HWd.out _ (by assumption)).mono ?_); rintro e w' ⟨rfl, hbq⟩)))
            all_goals
              go_wp2
              go_roundw
              case rel => exact ⟨k + 1, by omega, by go_num, by rw [hsucc]; go_num, hbr.trans ((hb.mono hbr.size).trans ((st_left bl ol k _ w.heap.size b o _ _ _ _ _ _ (by assumption)).mono (Nat.le_trans hbr.size hb.size)))⟩
              case measure => (first | (simp [intOf]; done) | (simp [intOf]; omega))
          · have hq' : q = E + E % 2 := by simpa using hplc
            clear hplc
            rcases Nat.mod_two_eq_zero_or_one E with hE2 | hE2
            · obtain rfl : q = E := by omega
              have t2 : ((q : Int) % 2 == 1) = false := by simp; omega
              clear hq' hE2
              have hwr : IntKind.i64.wrap ((q : Int) + (z : Int)) = (q : Int) + (z : Int) := by simp [IntKind.wrap, IntKind.min, IntKind.max, IntKind.signed, IntKind.bits]; omega
              go_wp2_with fail
              go_region_held3 (fun w' => Below w6.heap.size w6 w' ∧ w'.cell? ⟨bl, ol + k, none⟩ = some (.int .i64 (q : Int)) ∧ w'.cell? ⟨w.heap.size, 3, none⟩ = some (.slice (some ⟨b, o, none⟩) T.ps.length cp) ∧ w'.cell? ⟨b, o + k * 5, none⟩ = some (.int .i64 p.k) ∧ w'.cell? ⟨b, o + k * 5 + 1, none⟩ = some (.string p.nm) ∧ w'.cell? ⟨b, o + k * 5 + 2, none⟩ = some (.slice An' p.ns.length cn') ∧ w'.cell? ⟨b, o + k * 5 + 3, none⟩ = some (.slice Ap' p.ps.length cp') ∧ w'.cell? ⟨b, o + k * 5 + 4, none⟩ = some (.bool p.many)) (first | exact ⟨(Below.refl _ _).drew, d0, e3, c0, c1, c2, c3, c4⟩ | exact st_keep hbl6 ql hb6' (by assumption) hbq | exact st_draw (by assumption) | go_keep) ((go_at_call 23; ((with_reducible refine (HWd.out _ (by assumption)).mono ?_); rintro e w' ⟨rfl, hbq⟩)))
              all_goals
                go_wp2
                go_roundw
                case rel => exact ⟨k + 1, by omega, by go_num, by rw [hsucc]; go_num, hbr.trans ((hb.mono hbr.size).trans ((st_left bl ol k _ w.heap.size b o _ _ _ _ _ _ (by assumption)).mono (Nat.le_trans hbr.size hb.size)))⟩
                case measure => (first | (simp [intOf]; done) | (simp [intOf]; omega))
            · obtain ⟨hqE⟩ : q = E + 1 ∧ True := ⟨by omega, trivial⟩
              have t1 : ¬ (q < E) := by omega
              have t2 : ((q : Int) % 2 == 1) = false := by simp; omega
              have t3 : ¬ ((E : Int) + 1 < (q : Int)) := by omega
              clear hq' hE2 hqE
              have hwr : IntKind.i64.wrap ((q : Int) + (z : Int)) = (q : Int) + (z : Int) := by simp [IntKind.wrap, IntKind.min, IntKind.max, IntKind.signed, IntKind.bits]; omega
              go_wp2_with fail
              go_region_held3 (fun w' => Below w6.heap.size w6 w' ∧ w'.cell? ⟨bl, ol + k, none⟩ = some (.int .i64 (q : Int)) ∧ w'.cell? ⟨w.heap.size, 3, none⟩ = some (.slice (some ⟨b, o, none⟩) T.ps.length cp) ∧ w'.cell? ⟨b, o + k * 5, none⟩ = some (.int .i64 p.k) ∧ w'.cell? ⟨b, o + k * 5 + 1, none⟩ = some (.string p.nm) ∧ w'.cell? ⟨b, o + k * 5 + 2, none⟩ = some (.slice An' p.ns.length cn') ∧ w'.cell? ⟨b, o + k * 5 + 3, none⟩ = some (.slice Ap' p.ps.length cp') ∧ w'.cell? ⟨b, o + k * 5 + 4, none⟩ = some (.bool p.many)) (first | exact ⟨(Below.refl _ _).drew, d0, e3, c0, c1, c2, c3, c4⟩ | exact st_keep hbl6 ql hb6' (by assumption) hbq | exact st_draw (by assumption) | go_keep) ((go_at_call 23; ((with_reducible refine (HWd.out _ (by assumption)).mono ?_); rintro e w' ⟨rfl, hbq⟩)))
              all_goals
                go_wp2
                go_roundw
                case rel => exact ⟨k + 1, by omega, by go_num, by rw [hsucc]; go_num, hbr.trans ((hb.mono hbr.size).trans ((st_left bl ol k _ w.heap.size b o _ _ _ _ _ _ (by assumption)).mono (Nat.le_trans hbr.size hb.size)))⟩
                case measure => (first | (simp [intOf]; done) | (simp [intOf]; omega))
        · have hi : (T.ps.length : Int) ≤ (k : Int) := by omega
          obtain rfl : k = T.ps.length := by omega
          obtain ⟨he, hnE⟩ := HEND.out
          rw [hee] at he
          rw [← he, if_pos rfl] at hnE
          have hnn : n = endZ (T.ps.map sizeT) T.ps.length + endZ (T.ps.map sizeT) T.ps.length % 2 := by omega
          clear hnE he HEND
          generalize endZ (T.ps.map sizeT) T.ps.length = E at *
          rcases Nat.mod_two_eq_zero_or_one E with hE2 | hE2
          · obtain rfl : n = E := by omega
            clear hnn hE2
            go_wp2
            go_ret
            exact ⟨rfl, hb6⟩
          · have u1 : ((n : Int) == (E : Int)) = false := by simp; omega
            have u2 : ((n : Int) == (E : Int) + 1) = true := by simp; omega
            have u3 : ((E : Int) % 2 == 1) = true := by simp; omega
            have hEb : (E : Int) ≤ 12 := by omega
            clear hnn hE2
            have HEE := Lib.hid hee
            clear hee
            go_wp2_with fail
            with_reducible refine (even_any T _ _ (Rep.keep hb6 _ _ HR.out) (hm.keep hb6)).mono ?_
            rintro e w6 ⟨rfl, hb⟩
            rw [HEE.out]
            have hb7 := hb6.trans (hb.mono hb6.size)
            clear q0 q1 q2 q3 q4
            go_wp2
            go_ret
            exact ⟨rfl, hb7⟩
  · have h3' : (T.k != 3) = true := by simp [h3]
    have hpl : placesT T = [] := by simp [placesT, h3]
    have hs : (sizeT T).1 = 1 ∨ (sizeT T).1 = 2 := by
      rw [sizeT_eq]
      by_cases h2 : T.k = 2
      · rw [if_pos h2]; exact .inr rfl
      · rw [if_neg h2, if_neg h3]; exact .inl rfl
    rw [hpl]
    rcases hs with hs | hs
    · rw [hs] at hw
      go_wp2
      go_ret
      exact ⟨rfl, hb4⟩
    · rw [hs] at hw
      go_wp2
      go_ret
      exact ⟨rfl, hb4⟩
end Go.Proofs.Ytffhfcddlhdicaa
