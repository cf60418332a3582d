/- What may be a type; the walks of types.within, its inner function parts, types.May, types.Words, types.Even. -/
import Derived.Test.YtkkjkbljgaipcaaTypD
namespace Go.Proofs.Ytkkjkbljgaipcaa
open Go.RowKit Go.Shelf
set_option linter.unusedVariables false
set_option linter.unusedSimpArgs false
set_option maxRecDepth 100000
set_option maxHeartbeats 2000000
noncomputable def mayT : Nat → Ty → Bool
  | 0, _ => false
  | d + 1, T =>
    if T.k = 1 ∨ T.k = 2 then bareT T && (T.ps.length == 0) && !T.many
    else if T.k = 3 then !T.many && nameOf T.nm && (T.ns.length == T.ps.length) && (decide (1 ≤ T.ps.length) && decide (T.ps.length ≤ 6) && T.ps.all (mayT d)) && namedL T.ns && decide ((sizeT T).1 ≤ 12)
    else if T.k = 4 then bareT T && (decide (1 ≤ T.ps.length) && decide (T.ps.length ≤ 7) && T.ps.all (mayT d))
    else false
noncomputable def partsT (d lo hi : Nat) (ps : List Ty) : Bool := decide (lo ≤ ps.length) && decide (ps.length ≤ hi) && ps.all (mayT d)
theorem sized_of_may : ∀ (d : Nat) (T : Ty), mayT d T = true → Sized T ∧ (sizeT T).1 ≤ 12
  | 0, T, h => by cases h
  | d + 1, T, h => by
    unfold mayT at h
    by_cases h12 : T.k = 1 ∨ T.k = 2
    · rcases h12 with h1 | h1
      · exact ⟨size_other T (by omega) (by omega), by rw [sizeT_eq, if_neg (by omega), if_neg (by omega)]; decide⟩
      · exact ⟨size_long T h1, by rw [sizeT_eq, if_pos h1]; decide⟩
    · rw [if_neg h12] at h
      by_cases h3 : T.k = 3
      · rw [if_pos h3] at h
        simp only [Bool.and_eq_true, decide_eq_true_eq, List.all_eq_true] at h
        obtain ⟨⟨⟨-, ⟨⟨_, hl⟩, hp⟩⟩, -⟩, hs⟩ := h
        exact ⟨size_struct T h3 (by omega) (fun p hp' => (sized_of_may d p (hp p hp')).1) (fun p hp' => (sized_of_may d p (hp p hp')).2), hs⟩
      · exact ⟨size_other T (fun e => h12 (.inr e)) h3, by rw [sizeT_eq, if_neg (fun e => h12 (.inr e)), if_neg h3]; decide⟩
def Within (d : Nat) (T : Ty) : Prop := ∀ (cs : List Value) (w : World), Rep w T cs → ML w → Calls Try.prog 65 #[.agg cs.toArray, .int .i64 d] w fun e w' => e = .returned (.bool (mayT d T)) ∧ Below w.heap.size w w'
def PartsRel (d : Nat) (ps : List Ty) (w : World) (i : Value) (wr : World) : Prop :=
  ∃ k : Nat, k ≤ ps.length ∧ i = .int .i64 k ∧ (∀ j (h : j < ps.length), j < k → mayT d ps[j] = true) ∧ Below w.heap.size w wr
theorem parts_no {d lo mo : Nat} {ps : List Ty} {k : Nat} (hk : k < ps.length) (h : mayT d ps[k] = false) : partsT d lo mo ps = false := by
  rcases hn : partsT d lo mo ps with _ | _
  · rfl
  · simp only [partsT, Bool.and_eq_true, List.all_eq_true] at hn
    rw [hn.2 _ (List.getElem_mem hk)] at h
    cases h
theorem parts_yes {d lo mo : Nat} {ps : List Ty} (h1 : lo ≤ ps.length) (h2 : ps.length ≤ mo) (h : ∀ j (h : j < ps.length), mayT d ps[j] = true) : partsT d lo mo ps = true := by
  simp only [partsT, Bool.and_eq_true, List.all_eq_true, decide_eq_true_eq]
  refine ⟨⟨h1, h2⟩, fun x hx => ?_⟩
  obtain ⟨j, hj, rfl⟩ := List.getElem_of_mem hx
  exact h j hj
theorem parts_any (d lo mo : Nat) (hd : d ≤ 100) (hlo : lo ≤ 100) (hmo : mo ≤ 100) (ps : List Ty) (IH : ∀ p ∈ ps, Within d p) (B1 B2 : Nat) (A : Option Addr) (c : Nat) (w : World)
    (h1 : w.cell? ⟨B1, 3, none⟩ = some (.slice A ps.length c)) (h2 : w.cell? ⟨B2, 0, none⟩ = some (.int .i64 ((d : Int) + 1))) (hr : RepL w ps A) (hm : ML w) :
    Calls Try.prog 88 #[.int .i64 lo, .int .i64 mo, .pointer (some ⟨B1, 0, none⟩), .pointer (some ⟨B2, 0, none⟩)] w fun e w' => e = .returned (.bool (partsT d lo mo ps)) ∧ Below w.heap.size w w' := by
  by_cases hl1 : lo ≤ ps.length
  · by_cases hl2 : ps.length ≤ mo
    · have d1 : ¬ ps.length < lo := by omega
      have d2 : ¬ mo < ps.length := by omega
      go_enter Try.func88, Try.ntmps88
      go_wp2
      go_loopw [6, 8, 24] (fun _ _ i wr => PartsRel d ps w i wr) (fun _ _ i _ => ps.length - (intOf i).toNat)
      case atStart => exact ⟨0, Nat.zero_le _, rfl, fun j _ h => absurd h (by omega), Below.refl _ _⟩
      case round =>
        obtain ⟨k, hk, rfl, hg, hb⟩ := hrel
        have hsz := hb.size
        by_cases hlt : k < ps.length
        · obtain ⟨b, o, cs, rfl, hbl, hc, hrep0⟩ := RepL.at_ ps _ (RepL.keep hb ps _ hr) k hlt
          have hrep := hrep0
          obtain ⟨An', cn', Ap', cp', rfl, -, -⟩ := hrep.five
          have c0 := hc 0 _ rfl
          have c1 := hc 1 _ rfl
          have c2 := hc 2 _ rfl
          have c3 := hc 3 _ rfl
          have c4 := hc 4 _ rfl
          rw [Nat.add_zero] at c0
          have e2 := (hb.cell (p := ⟨B2, 0, none⟩) (World.block_lt_of_cell? w _ h2)).trans h2
          have hB2 : B2 < wr.heap.size := Nat.lt_of_lt_of_le (World.block_lt_of_cell? w _ h2) hsz
          have hIH := IH _ (List.getElem_mem hlt)
          have hml := hm.keep hb
          have hno := @parts_no d lo mo ps k hlt
          have HG : Hid (mayT d ps[k] = true → ∀ j (h : j < ps.length), j < k + 1 → mayT d ps[j] = true) := fun h0 j h hj => by
            rcases Nat.lt_or_ge j k with h1 | h1
            · exact hg j h h1
            · obtain rfl : j = k := by omega
              exact h0
          have hi : (k : Int) < (ps.length : Int) := by omega
          clear hc hg
          generalize hps : ps[k] = p at *
          rcases hmy : mayT d p with _ | _
          · have hN := Lib.hid (hno hmy)
            clear hno
            go_wp2_with fail
            refine (hIH _ _ (Rep.keep ((Below.refl _ _).alloc (Nat.le_refl _) _) _ _ hrep) (hml.keep ((Below.refl _ _).alloc (Nat.le_refl _) _))).mono ?_
            rintro e w2 ⟨rfl, hb2⟩
            have hb3 : Below w.heap.size w w2 := hb.trans (((Below.refl w.heap.size wr).alloc hsz _).trans (hb2.mono (by simp; omega)))
            rw [hmy]
            clear hrep hrep0 hb2 c0 c1 c2 c3 c4 hIH
            go_wp2
            go_ret
            exact ⟨by first | (rw [hN.out]; rfl) | rfl, hb3⟩
          · clear hno
            go_wp2_with fail
            refine (hIH _ _ (Rep.keep ((Below.refl _ _).alloc (Nat.le_refl _) _) _ _ hrep) (hml.keep ((Below.refl _ _).alloc (Nat.le_refl _) _))).mono ?_
            rintro e w2 ⟨rfl, hb2⟩
            have hb3 : Below w.heap.size w w2 := hb.trans (((Below.refl w.heap.size wr).alloc hsz _).trans (hb2.mono (by simp; omega)))
            rw [hmy]
            clear hrep hrep0 hb2 c0 c1 c2 c3 c4 hIH
            go_wp2
            go_roundw
            case rel => exact ⟨k + 1, by omega, by go_num, HG.out hmy, hb3⟩
            case measure => (first | (simp [intOf]; done) | (simp [intOf]; omega))
        · have hi : (ps.length : Int) ≤ (k : Int) := by omega
          obtain rfl : k = ps.length := by omega
          have hy : partsT d lo mo ps = true := parts_yes hl1 hl2 (fun j h => hg j h h)
          go_wp2
          go_ret
          exact ⟨by first | (rw [hy]; rfl) | rfl, by (repeat (first | with_reducible assumption | with_reducible exact Below.refl _ _ | (refine Below.setCell ?_ (by first | omega | (simp; done) | (simp; omega)) _) | (refine Below.drewN_ ?_ _) | (refine Below.drew ?_) | (refine Below.alloc ?_ (by first | omega | (simp; done) | (simp; omega)) _)))⟩
    · have hn : partsT d lo mo ps = false := by simp [partsT, hl2]
      have d1 : ¬ ps.length < lo := by omega
      have d2 : mo < ps.length := by omega
      go_enter Try.func88, Try.ntmps88
      go_wp2
      go_ret
      exact ⟨by first | (rw [hn]; rfl) | rfl, by (repeat (first | with_reducible assumption | with_reducible exact Below.refl _ _ | (refine Below.setCell ?_ (by first | omega | (simp; done) | (simp; omega)) _) | (refine Below.drewN_ ?_ _) | (refine Below.drew ?_) | (refine Below.alloc ?_ (by first | omega | (simp; done) | (simp; omega)) _)))⟩
  · have hn : partsT d lo mo ps = false := by simp [partsT, hl1]
    have d1 : ps.length < lo := by omega
    go_enter Try.func88, Try.ntmps88
    go_wp2
    go_ret
    exact ⟨by first | (rw [hn]; rfl) | rfl, by (repeat (first | with_reducible assumption | with_reducible exact Below.refl _ _ | (refine Below.setCell ?_ (by first | omega | (simp; done) | (simp; omega)) _) | (refine Below.drewN_ ?_ _) | (refine Below.drew ?_) | (refine Below.alloc ?_ (by first | omega | (simp; done) | (simp; omega)) _)))⟩
/-- the boxes of types.within: the type and how deep -/
def TBox (w1 : World) (H : Nat) (a0 a1 a2 a3 a4 d : Value) : Prop :=
  (w1.cell? ⟨H, 0, none⟩ = some a0 ∧ w1.cell? ⟨H, 1, none⟩ = some a1 ∧ w1.cell? ⟨H, 2, none⟩ = some a2 ∧ w1.cell? ⟨H, 3, none⟩ = some a3 ∧ w1.cell? ⟨H, 4, none⟩ = some a4 ∧ w1.cell? ⟨H + 1, 0, none⟩ = some d) ∧ H + 1 < w1.heap.size
theorem TBox.keep {w1 w2 : World} {H : Nat} {a0 a1 a2 a3 a4 d : Value} (h : TBox w1 H a0 a1 a2 a3 a4 d) (hb : Below w1.heap.size w1 w2) : TBox w2 H a0 a1 a2 a3 a4 d := by
  obtain ⟨⟨h0, h1, h2, h3, h4, h5⟩, hl⟩ := h
  have hl' : H < w1.heap.size := by omega
  exact ⟨⟨(hb.cell (p := ⟨H, 0, none⟩) hl').trans h0, (hb.cell (p := ⟨H, 1, none⟩) hl').trans h1, (hb.cell (p := ⟨H, 2, none⟩) hl').trans h2, (hb.cell (p := ⟨H, 3, none⟩) hl').trans h3, (hb.cell (p := ⟨H, 4, none⟩) hl').trans h4, (hb.cell (p := ⟨H + 1, 0, none⟩) hl).trans h5⟩, Nat.lt_of_lt_of_le hl hb.size⟩
theorem within_zero (T : Ty) : Within 0 T := by
  intro cs w hr hm
  obtain ⟨An, cn, Ap, cp, rfl, -, -⟩ := hr.five
  have hn : mayT 0 T = false := rfl
  go_enter Try.func65, Try.ntmps65
  go_wp2
  go_ret
  exact ⟨by first | (rw [hn]; rfl) | rfl, by (repeat (first | with_reducible assumption | with_reducible exact Below.refl _ _ | (refine Below.setCell ?_ (by first | omega | (simp; done) | (simp; omega)) _) | (refine Below.drewN_ ?_ _) | (refine Below.drew ?_) | (refine Below.alloc ?_ (by first | omega | (simp; done) | (simp; omega)) _)))⟩
theorem within_plain (d : Nat) (hd : d ≤ 50) (T : Ty) (h : T.k = 1 ∨ T.k = 2) : Within (d + 1) T := by
  intro cs w hr hm
  have hr0 := hr
  obtain ⟨An, cn, Ap, cp, rfl, -, -⟩ := hr.five
  have hn : mayT (d + 1) T = (bareT T && (T.ps.length == 0) && !T.many) := by unfold mayT; rw [if_pos h]
  rw [hn]
  have d0 : ¬ ((d : Int) + 1 < 1) := by omega
  have go : ∀ k, (k = 1 ∨ k = 2) → T.k = k → Calls Try.prog 65 #[.agg #[.int .i64 T.k, .string T.nm, .slice An T.ns.length cn, .slice Ap T.ps.length cp, .bool T.many], .int .i64 ((d + 1 : Nat) : Int)] w fun e w' => e = .returned (.bool (bareT T && (T.ps.length == 0) && !T.many)) ∧ Below w.heap.size w w' := by
    intro k hk hTk
    have hbx : TBox ((w.alloc (.cells #[.int .i64 T.k, .string T.nm, .slice An T.ns.length cn, .slice Ap T.ps.length cp, .bool T.many] 25)).alloc (.cells #[.int .i64 ((d : Int) + 1)] 3)) w.heap.size (.int .i64 T.k) (.string T.nm) (.slice An T.ns.length cn) (.slice Ap T.ps.length cp) (.bool T.many) (.int .i64 ((d : Int) + 1)) :=
      ⟨⟨by go_simp, by go_simp, by go_simp, by go_simp, by go_simp, by go_simp⟩, by simp⟩
    have hb0 : Below w.heap.size w ((w.alloc (.cells #[.int .i64 T.k, .string T.nm, .slice An T.ns.length cn, .slice Ap T.ps.length cp, .bool T.many] 25)).alloc (.cells #[.int .i64 ((d : Int) + 1)] 3)) := by (repeat (first | with_reducible assumption | with_reducible exact Below.refl _ _ | (refine Below.setCell ?_ (by first | omega | (simp; done) | (simp; omega)) _) | (refine Below.drewN_ ?_ _) | (refine Below.drew ?_) | (refine Below.alloc ?_ (by first | omega | (simp; done) | (simp; omega)) _)))
    have HR := Lib.hid (Rep.keep hb0 _ _ hr)
    rw [hTk] at hbx hb0 HR ⊢
    clear hr hn hr0
    generalize T.ps.length = np at *
    generalize T.many = mn at *
    rcases hk with rfl | rfl
    · go_enter Try.func65, Try.ntmps65
      go_wp2_with fail
      refine (bare_any T _ _ HR.out).mono ?_
      rintro e w1 ⟨rfl, hb1⟩
      obtain ⟨⟨q0, q1, q2, q3, q4, q5⟩, ql⟩ := hbx.keep hb1
      have hb2 := hb0.trans (hb1.mono (by simp; omega))
      clear hb1 hbx hb0 HR
      rcases hbt : bareT T with _ | _
      · go_wp2
        go_ret
        exact ⟨by first | (rw [hbt]; rfl) | (rw [hbt, hz2]; rfl), hb2⟩
      · by_cases hnp : np = 0
        · subst hnp
          cases mn
          · go_wp2
            go_ret
            exact ⟨by first | (rw [hbt]; rfl) | (rw [hbt, hz2]; rfl), hb2⟩
          · go_wp2
            go_ret
            exact ⟨by first | (rw [hbt]; rfl) | (rw [hbt, hz2]; rfl), hb2⟩
        · have hz : (((np : Nat) : Int) == 0) = false := by simpa using hnp
          have hz2 : (np == 0) = false := by simpa using hnp
          go_wp2
          go_ret
          exact ⟨by first | (rw [hbt]; rfl) | (rw [hbt, hz2]; rfl), hb2⟩
    · go_enter Try.func65, Try.ntmps65
      go_wp2_with fail
      refine (bare_any T _ _ HR.out).mono ?_
      rintro e w1 ⟨rfl, hb1⟩
      obtain ⟨⟨q0, q1, q2, q3, q4, q5⟩, ql⟩ := hbx.keep hb1
      have hb2 := hb0.trans (hb1.mono (by simp; omega))
      clear hb1 hbx hb0 HR
      rcases hbt : bareT T with _ | _
      · go_wp2
        go_ret
        exact ⟨by first | (rw [hbt]; rfl) | (rw [hbt, hz2]; rfl), hb2⟩
      · by_cases hnp : np = 0
        · subst hnp
          cases mn
          · go_wp2
            go_ret
            exact ⟨by first | (rw [hbt]; rfl) | (rw [hbt, hz2]; rfl), hb2⟩
          · go_wp2
            go_ret
            exact ⟨by first | (rw [hbt]; rfl) | (rw [hbt, hz2]; rfl), hb2⟩
        · have hz : (((np : Nat) : Int) == 0) = false := by simpa using hnp
          have hz2 : (np == 0) = false := by simpa using hnp
          go_wp2
          go_ret
          exact ⟨by first | (rw [hbt]; rfl) | (rw [hbt, hz2]; rfl), hb2⟩
  rcases h with h1 | h1
  · exact go 1 (.inl rfl) h1
  · exact go 2 (.inr rfl) h1
end Go.Proofs.Ytkkjkbljgaipcaa
