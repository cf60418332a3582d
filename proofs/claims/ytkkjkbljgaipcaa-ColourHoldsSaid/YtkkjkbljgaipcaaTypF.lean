/- The walk of types.within, at whatever type. -/
import Derived.Test.YtkkjkbljgaipcaaTypE
namespace Go.Proofs.Ytkkjkbljgaipcaa
open Go.RowKit Go.Shelf
set_option linter.unusedVariables false
set_option linter.unusedSimpArgs false
set_option maxRecDepth 100000
set_option maxHeartbeats 2000000
theorem within_other (d : Nat) (hd : d ≤ 50) (T : Ty) (h1 : T.k ≠ 1) (h2 : T.k ≠ 2) (h3 : T.k ≠ 3) (h4 : T.k ≠ 4) : Within (d + 1) T := by
  intro cs w hr hm
  obtain ⟨An, cn, Ap, cp, rfl, -, -⟩ := hr.five
  have hn : mayT (d + 1) T = false := by unfold mayT; rw [if_neg (by omega), if_neg h3, if_neg h4]
  have d0 : ¬ ((d : Int) + 1 < 1) := by omega
  have e1 : (T.k == 1) = false := by simpa using h1
  have e2 : (T.k == 2) = false := by simpa using h2
  have e3 : (T.k == 3) = false := by simpa using h3
  have e4 : (T.k == 4) = false := by simpa using h4
  go_enter Try.func65, Try.ntmps65
  go_wp2
  go_ret
  exact ⟨by first | rfl | (rw [hn]; rfl), by (repeat (first | with_reducible assumption | with_reducible exact Below.refl _ _ | (refine Below.setCell ?_ (by first | omega | (simp; done) | (simp; omega)) _) | (refine Below.drewN_ ?_ _) | (refine Below.drew ?_) | (refine Below.alloc ?_ (by first | omega | (simp; done) | (simp; omega)) _)))⟩
theorem within_fn (d : Nat) (hd : d ≤ 50) (T : Ty) (h4 : T.k = 4) (IH : ∀ p ∈ T.ps, Within d p) : Within (d + 1) T := by
  intro cs w hr hm
  obtain ⟨An, cn, Ap, cp, rfl, -, hP⟩ := hr.five
  have hn : mayT (d + 1) T = (bareT T && partsT d 1 7 T.ps) := by unfold mayT; rw [if_neg (by omega), if_neg (by omega), if_pos h4]; rfl
  rw [hn]
  have d0 : ¬ ((d : Int) + 1 < 1) := by omega
  have hbx : TBox ((w.alloc (.cells #[.int .i64 T.k, .string T.nm, .slice An T.ns.length cn, .slice Ap T.ps.length cp, .bool T.many] 25)).alloc (.cells #[.int .i64 ((d : Int) + 1)] 3)) w.heap.size (.int .i64 T.k) (.string T.nm) (.slice An T.ns.length cn) (.slice Ap T.ps.length cp) (.bool T.many) (.int .i64 ((d : Int) + 1)) :=
    ⟨⟨by go_simp, by go_simp, by go_simp, by go_simp, by go_simp, by go_simp⟩, by simp⟩
  have hb0 : Below w.heap.size w ((w.alloc (.cells #[.int .i64 T.k, .string T.nm, .slice An T.ns.length cn, .slice Ap T.ps.length cp, .bool T.many] 25)).alloc (.cells #[.int .i64 ((d : Int) + 1)] 3)) := by (repeat (first | with_reducible assumption | with_reducible exact Below.refl _ _ | (refine Below.setCell ?_ (by first | omega | (simp; done) | (simp; omega)) _) | (refine Below.drewN_ ?_ _) | (refine Below.drew ?_) | (refine Below.alloc ?_ (by first | omega | (simp; done) | (simp; omega)) _)))
  have HR := Lib.hid (Rep.keep hb0 _ _ hr)
  rw [h4] at hbx hb0 HR ⊢
  clear hr hn
  go_enter Try.func65, Try.ntmps65
  go_wp2_with fail
  refine (bare_any T _ _ HR.out).mono ?_
  rintro e w1 ⟨rfl, hb1⟩
  obtain ⟨⟨q0, q1, q2, q3, q4, q5⟩, ql⟩ := hbx.keep hb1
  have hb2 := hb0.trans (hb1.mono (by simp; omega))
  clear hb1 hbx hb0 HR
  rcases hbt : bareT T with _ | _
  · go_wp2
    go_ret
    exact ⟨by rw [hbt]; rfl, hb2⟩
  · go_wp2_with fail
    refine (parts_any d 1 7 (by omega) (by omega) (by omega) T.ps IH _ _ Ap cp w1 q3 q5 (RepL.keep hb2 _ _ hP) (hm.keep hb2)).mono ?_
    rintro e w2 ⟨rfl, hb3⟩
    have hb4 := hb2.trans (hb3.mono hb2.size)
    clear q0 q1 q2 q3 q4 q5 hb3
    go_wp2
    go_ret
    exact ⟨by rw [hbt]; rfl, hb4⟩
theorem within_struct (d : Nat) (hd : d ≤ 50) (T : Ty) (h3 : T.k = 3) (IH : ∀ p ∈ T.ps, Within d p) : Within (d + 1) T := by
  intro cs w hr hm
  have hr0 := hr
  obtain ⟨An, cn, Ap, cp, rfl, hN, hP⟩ := hr.five
  have hn : mayT (d + 1) T = (!T.many && nameOf T.nm && (T.ns.length == T.ps.length) && partsT d 1 6 T.ps && namedL T.ns && decide ((sizeT T).1 ≤ 12)) := by
    unfold mayT; rw [if_neg (by omega), if_pos h3]; rfl
  rw [hn]
  have d0 : ¬ ((d : Int) + 1 < 1) := by omega
  have hbx : TBox ((w.alloc (.cells #[.int .i64 T.k, .string T.nm, .slice An T.ns.length cn, .slice Ap T.ps.length cp, .bool T.many] 25)).alloc (.cells #[.int .i64 ((d : Int) + 1)] 3)) w.heap.size (.int .i64 T.k) (.string T.nm) (.slice An T.ns.length cn) (.slice Ap T.ps.length cp) (.bool T.many) (.int .i64 ((d : Int) + 1)) :=
    ⟨⟨by go_simp, by go_simp, by go_simp, by go_simp, by go_simp, by go_simp⟩, by simp⟩
  have hb0 : Below w.heap.size w ((w.alloc (.cells #[.int .i64 T.k, .string T.nm, .slice An T.ns.length cn, .slice Ap T.ps.length cp, .bool T.many] 25)).alloc (.cells #[.int .i64 ((d : Int) + 1)] 3)) := by (repeat (first | with_reducible assumption | with_reducible exact Below.refl _ _ | (refine Below.setCell ?_ (by first | omega | (simp; done) | (simp; omega)) _) | (refine Below.drewN_ ?_ _) | (refine Below.drew ?_) | (refine Below.alloc ?_ (by first | omega | (simp; done) | (simp; omega)) _)))
  have hSz : Hid (mayT (d + 1) T = true → Sized T) := fun h => (sized_of_may _ _ h).1
  have HR := Lib.hid hr0
  rw [h3] at hbx hb0 HR ⊢
  clear hr hr0
  rcases hmn : T.many with _ | _
  · rcases hnm : nameOf T.nm with _ | _
    · rw [hmn] at hbx hb0
      go_enter Try.func65, Try.ntmps65
      go_wp2_with fail
      refine (isName_any _ _ (hm.keep hb0)).mono ?_
      rintro e w1 ⟨rfl, rfl⟩
      rw [hnm]
      clear hbx
      go_wp2
      go_ret
      exact ⟨by simp, hb0⟩
    · rw [hmn] at hbx hb0 HR
      by_cases hlen : T.ns.length = T.ps.length
      · have HL := Lib.hid hlen
        have t1 : (((T.ns.length : Nat) : Int) != ((T.ps.length : Nat) : Int)) = false := by rw [hlen]; simp
        have hN' := Lib.hid hN
        clear hN
        have HNP := Lib.hid (named_any An cn T.ns)
        rw [hlen] at hbx hb0 HR ⊢
        go_enter Try.func65, Try.ntmps65
        go_wp2_with fail
        refine (isName_any _ _ (hm.keep hb0)).mono ?_
        rintro e w1 ⟨rfl, hw⟩
        subst hw
        rw [hnm]
        go_wp2_with fail
        refine (parts_any d 1 6 (by omega) (by omega) (by omega) T.ps IH _ _ Ap cp _ hbx.1.2.2.2.1 hbx.1.2.2.2.2.2 (RepL.keep hb0 _ _ hP) (hm.keep hb0)).mono ?_
        rintro e w2 ⟨rfl, hb1⟩
        have hbx2 := hbx.keep hb1
        have hb2 := hb0.trans (hb1.mono hb0.size)
        clear hbx hb0 hb1
        rcases hpt : partsT d 1 6 T.ps with _ | _
        · obtain ⟨⟨q0, q1, q2, q3, q4, q5⟩, ql⟩ := hbx2
          go_wp2
          go_ret
          exact ⟨by rw [hpt]; simp, hb2⟩
        · have hp1 : T.ps.length ≤ 6 ∧ ∀ p ∈ T.ps, mayT d p = true := by
            simp only [partsT, Bool.and_eq_true, List.all_eq_true, decide_eq_true_eq] at hpt
            exact ⟨hpt.1.2, hpt.2⟩
          have hSized := size_struct T h3 (by omega) (fun p hp => (sized_of_may d p (hp1.2 p hp)).1) (fun p hp => (sized_of_may d p (hp1.2 p hp)).2)
          have hmx : T.ns.length ≤ 9223372036854775806 := by omega
          have HNP2 := Lib.hid (HNP.out w2 (hN'.out.keep hb2) hmx (hm.keep hb2))
          rw [hlen] at HNP2
          clear HNP hN' hmx t1
          obtain ⟨⟨q0, q1, q2, q3, q4, q5⟩, ql⟩ := id hbx2
          go_wp2_with fail
          refine HNP2.out.mono ?_
          rintro e w3 ⟨rfl, hb3⟩
          have hbx3 := hbx2.keep hb3
          have hb4 := hb2.trans (hb3.mono hb2.size)
          clear hbx2 hb3 hb2 q0 q1 q2 q3 q4 q5 ql HNP2
          obtain ⟨⟨q0, q1, q2, q3, q4, q5⟩, ql⟩ := hbx3
          rcases hnl : namedL T.ns with _ | _
          · go_wp2
            go_ret
            exact ⟨by simp [hnl], hb4⟩
          · go_wp2_with fail
            refine (hSized _ _ (Rep.keep hb4 _ _ HR.out)).mono ?_
            rintro e w4 ⟨rfl, hb5⟩
            have hb6 := hb4.trans (hb5.mono hb4.size)
            by_cases hsz : (sizeT T).1 ≤ 12
            · have hsz2 : ((sizeT T).1 : Int) ≤ 12 := by omega
              go_wp2
              go_ret
              exact ⟨by simp [hnl, hpt, hsz], hb6⟩
            · have hsz2 : 12 < ((sizeT T).1 : Int) := by omega
              go_wp2
              go_ret
              exact ⟨by simp [hnl, hpt, hsz]; omega, hb6⟩
      · have t1 : (((T.ns.length : Nat) : Int) != ((T.ps.length : Nat) : Int)) = true := by simp; omega
        have t2 : (T.ns.length == T.ps.length) = false := by simpa using hlen
        go_enter Try.func65, Try.ntmps65
        go_wp2_with fail
        refine (isName_any _ _ (hm.keep hb0)).mono ?_
        rintro e w1 ⟨rfl, hw⟩
        subst hw
        rw [hnm]
        clear hbx
        go_wp2
        go_ret
        exact ⟨by rw [t2]; simp, hb0⟩
  · rw [hmn] at hbx hb0
    go_enter Try.func65, Try.ntmps65
    go_wp2
    go_ret
    exact ⟨by simp, by (repeat (first | with_reducible assumption | with_reducible exact Below.refl _ _ | (refine Below.setCell ?_ (by first | omega | (simp; done) | (simp; omega)) _) | (refine Below.drewN_ ?_ _) | (refine Below.drew ?_) | (refine Below.alloc ?_ (by first | omega | (simp; done) | (simp; omega)) _)))⟩
theorem within_any : ∀ (d : Nat), d ≤ 50 → ∀ T : Ty, Within d T
  | 0, _, T => within_zero T
  | d + 1, hd, T => by
    have IH : ∀ p ∈ T.ps, Within d p := fun p _ => within_any d (by omega) p
    by_cases h1 : T.k = 1
    · exact within_plain d (by omega) T (.inl h1)
    · by_cases h2 : T.k = 2
      · exact within_plain d (by omega) T (.inr h2)
      · by_cases h3 : T.k = 3
        · exact within_struct d (by omega) T h3 IH
        · by_cases h4 : T.k = 4
          · exact within_fn d (by omega) T h4 IH
          · exact within_other d (by omega) T h1 h2 h3 h4
noncomputable def may (T : Ty) : Bool := mayT 4 T
theorem may_any (T : Ty) (cs : List Value) (w : World) (hr : Rep w T cs) (hm : ML w) : Calls Try.prog 33 #[.agg cs.toArray] w fun e w' => e = .returned (.bool (may T)) ∧ Below w.heap.size w w' := by
  have hr0 := hr
  obtain ⟨An, cn, Ap, cp, rfl, hN, hP⟩ := hr.five
  have h4 := Lib.hid (within_any 4 (by omega) T)
  go_enter Try.func33, Try.ntmps33
  go_wp2_with fail
  refine (h4.out _ _ (Rep.keep (by (repeat (first | with_reducible assumption | with_reducible exact Below.refl _ _ | (refine Below.setCell ?_ (by first | omega | (simp; done) | (simp; omega)) _) | (refine Below.drewN_ ?_ _) | (refine Below.drew ?_) | (refine Below.alloc ?_ (by first | omega | (simp; done) | (simp; omega)) _)))) _ _ hr0) (hm.keep (by (repeat (first | with_reducible assumption | with_reducible exact Below.refl _ _ | (refine Below.setCell ?_ (by first | omega | (simp; done) | (simp; omega)) _) | (refine Below.drewN_ ?_ _) | (refine Below.drew ?_) | (refine Below.alloc ?_ (by first | omega | (simp; done) | (simp; omega)) _)))))).mono ?_
  rintro e w1 ⟨rfl, hb⟩
  go_wp2
  go_ret
  exact ⟨rfl, Below.trans (by (repeat (first | with_reducible assumption | with_reducible exact Below.refl _ _ | (refine Below.setCell ?_ (by first | omega | (simp; done) | (simp; omega)) _) | (refine Below.drewN_ ?_ _) | (refine Below.drew ?_) | (refine Below.alloc ?_ (by first | omega | (simp; done) | (simp; omega)) _)))) (hb.mono (by simp))⟩
noncomputable def wordsT (T : Ty) : Int := if may T then ((sizeT T).1 : Int) else 0
noncomputable def evenT (T : Ty) : Bool := may T && (sizeT T).2
theorem words_any (T : Ty) (cs : List Value) (w : World) (hr : Rep w T cs) (hm : ML w) : Calls Try.prog 50 #[.agg cs.toArray] w fun e w' => e = .returned (.int .i64 (wordsT T)) ∧ Below w.heap.size w w' := by
  have hr0 := hr
  obtain ⟨An, cn, Ap, cp, rfl, hN, hP⟩ := hr.five
  have hb0 : Below w.heap.size w (w.alloc (.cells #[.int .i64 T.k, .string T.nm, .slice An T.ns.length cn, .slice Ap T.ps.length cp, .bool T.many] 25)) := by (repeat (first | with_reducible assumption | with_reducible exact Below.refl _ _ | (refine Below.setCell ?_ (by first | omega | (simp; done) | (simp; omega)) _) | (refine Below.drewN_ ?_ _) | (refine Below.drew ?_) | (refine Below.alloc ?_ (by first | omega | (simp; done) | (simp; omega)) _)))
  go_enter Try.func50, Try.ntmps50
  go_wp2_with fail
  refine (may_any T _ _ (Rep.keep hb0 _ _ hr0) (hm.keep hb0)).mono ?_
  rintro e w1 ⟨rfl, hb⟩
  have hb1 := hb0.trans (hb.mono (by simp))
  rcases hmy : may T with _ | _
  · go_wp2
    go_ret
    exact ⟨by first | (rw [wordsT, hmy]; rfl) | (simp [wordsT, hmy]), hb1⟩
  · have hS := Lib.hid (sized_of_may _ _ hmy).1
    have q0 : w1.cell? ⟨w.heap.size, 0, none⟩ = some (.int .i64 T.k) := (hb.cell (p := ⟨w.heap.size, 0, none⟩) (by simp)).trans (by go_simp)
    have q1 : w1.cell? ⟨w.heap.size, 1, none⟩ = some (.string T.nm) := (hb.cell (p := ⟨w.heap.size, 1, none⟩) (by simp)).trans (by go_simp)
    have q2 : w1.cell? ⟨w.heap.size, 2, none⟩ = some (.slice An T.ns.length cn) := (hb.cell (p := ⟨w.heap.size, 2, none⟩) (by simp)).trans (by go_simp)
    have q3 : w1.cell? ⟨w.heap.size, 3, none⟩ = some (.slice Ap T.ps.length cp) := (hb.cell (p := ⟨w.heap.size, 3, none⟩) (by simp)).trans (by go_simp)
    have q4 : w1.cell? ⟨w.heap.size, 4, none⟩ = some (.bool T.many) := (hb.cell (p := ⟨w.heap.size, 4, none⟩) (by simp)).trans (by go_simp)
    clear hb hb0
    go_wp2_with fail
    refine (hS.out _ _ (Rep.keep hb1 _ _ hr0)).mono ?_
    rintro e w2 ⟨rfl, hb2⟩
    go_wp2
    go_ret
    exact ⟨by first | (rw [wordsT, hmy]; rfl) | (simp [wordsT, hmy]), hb1.trans (hb2.mono hb1.size)⟩
theorem even_any (T : Ty) (cs : List Value) (w : World) (hr : Rep w T cs) (hm : ML w) : Calls Try.prog 72 #[.agg cs.toArray] w fun e w' => e = .returned (.bool (evenT T)) ∧ Below w.heap.size w w' := by
  have hr0 := hr
  obtain ⟨An, cn, Ap, cp, rfl, hN, hP⟩ := hr.five
  have hb0 : Below w.heap.size w (w.alloc (.cells #[.int .i64 T.k, .string T.nm, .slice An T.ns.length cn, .slice Ap T.ps.length cp, .bool T.many] 25)) := by (repeat (first | with_reducible assumption | with_reducible exact Below.refl _ _ | (refine Below.setCell ?_ (by first | omega | (simp; done) | (simp; omega)) _) | (refine Below.drewN_ ?_ _) | (refine Below.drew ?_) | (refine Below.alloc ?_ (by first | omega | (simp; done) | (simp; omega)) _)))
  go_enter Try.func72, Try.ntmps72
  go_wp2_with fail
  refine (may_any T _ _ (Rep.keep hb0 _ _ hr0) (hm.keep hb0)).mono ?_
  rintro e w1 ⟨rfl, hb⟩
  have hb1 := hb0.trans (hb.mono (by simp))
  rcases hmy : may T with _ | _
  · go_wp2
    go_ret
    exact ⟨by first | (rw [evenT, hmy]; rfl) | (simp [evenT, hmy]), hb1⟩
  · have hS := Lib.hid (sized_of_may _ _ hmy).1
    have q0 : w1.cell? ⟨w.heap.size, 0, none⟩ = some (.int .i64 T.k) := (hb.cell (p := ⟨w.heap.size, 0, none⟩) (by simp)).trans (by go_simp)
    have q1 : w1.cell? ⟨w.heap.size, 1, none⟩ = some (.string T.nm) := (hb.cell (p := ⟨w.heap.size, 1, none⟩) (by simp)).trans (by go_simp)
    have q2 : w1.cell? ⟨w.heap.size, 2, none⟩ = some (.slice An T.ns.length cn) := (hb.cell (p := ⟨w.heap.size, 2, none⟩) (by simp)).trans (by go_simp)
    have q3 : w1.cell? ⟨w.heap.size, 3, none⟩ = some (.slice Ap T.ps.length cp) := (hb.cell (p := ⟨w.heap.size, 3, none⟩) (by simp)).trans (by go_simp)
    have q4 : w1.cell? ⟨w.heap.size, 4, none⟩ = some (.bool T.many) := (hb.cell (p := ⟨w.heap.size, 4, none⟩) (by simp)).trans (by go_simp)
    clear hb hb0
    go_wp2_with fail
    refine (hS.out _ _ (Rep.keep hb1 _ _ hr0)).mono ?_
    rintro e w2 ⟨rfl, hb2⟩
    go_wp2
    go_ret
    exact ⟨by first | (rw [evenT, hmy]; rfl) | (simp [evenT, hmy]), hb1.trans (hb2.mono hb1.size)⟩
end Go.Proofs.Ytkkjkbljgaipcaa
