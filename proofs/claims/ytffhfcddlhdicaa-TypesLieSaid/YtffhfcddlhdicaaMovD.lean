/- The contract of the reference's Check: which fault it tells. -/
import Derived.Test.YtffhfcddlhdicaaMovC
namespace Go.Proofs.Ytffhfcddlhdicaa
open Go.RowKit
set_option linter.unusedVariables false
set_option linter.unusedSimpArgs false
set_option maxRecDepth 100000
attribute [local go_sem ↓] eq_loc ne_loc Go.wp_at_zero Go.wp_at_succ
def bad (l : List (Pl × Pl)) : Prop := ∃ j, ∃ h : j < l.length, (l[j].1.ok && l[j].2.ok) = false
def twice (l : List (Pl × Pl)) : Prop := ∃ i j, ∃ h : i < l.length, ∃ h' : j < i, l[j].2 = l[i].2
def usedT (l : List (Pl × Pl)) (t : Pl) : Prop := ∃ j, ∃ h : j < l.length, l[j].1 = t ∨ l[j].2 = t
open Classical in
/-- which fault a row of moves has (0: none) -/
noncomputable def chk (l : List (Pl × Pl)) (tmp : Int) : Int :=
  if 100 < l.length then 1 else if bad l then 6 else if tmp < 0 ∨ 15 < tmp then 6 else if twice l then 5 else if usedT l ⟨false, tmp⟩ then 3 else 0
theorem chk_1 (l : List (Pl × Pl)) (tmp : Int) (h : 100 < l.length) : chk l tmp = 1 := by unfold chk; rw [if_pos h]
theorem chk_bad (l : List (Pl × Pl)) (tmp : Int) (h : ¬ 100 < l.length) (hb : bad l) : chk l tmp = 6 := by unfold chk; rw [if_neg h, if_pos hb]
theorem chk_tmp (l : List (Pl × Pl)) (tmp : Int) (h : ¬ 100 < l.length) (ht : tmp < 0 ∨ 15 < tmp) : chk l tmp = 6 := by
  unfold chk; rw [if_neg h]
  by_cases hb : bad l
  · rw [if_pos hb]
  · rw [if_neg hb, if_pos ht]
theorem chk_twice (l : List (Pl × Pl)) (tmp : Int) (h : ¬ 100 < l.length) (hb : ¬ bad l) (ht : ¬ (tmp < 0 ∨ 15 < tmp)) (h2 : twice l) : chk l tmp = 5 := by unfold chk; rw [if_neg h, if_neg hb, if_neg ht, if_pos h2]
theorem chk_used (l : List (Pl × Pl)) (tmp : Int) (h : ¬ 100 < l.length) (hb : ¬ bad l) (ht : ¬ (tmp < 0 ∨ 15 < tmp)) (h2 : ¬ twice l) (hu : usedT l ⟨false, tmp⟩) : chk l tmp = 3 := by unfold chk; rw [if_neg h, if_neg hb, if_neg ht, if_neg h2, if_pos hu]
theorem chk_ok (l : List (Pl × Pl)) (tmp : Int) (h : ¬ 100 < l.length) (hb : ¬ bad l) (ht : ¬ (tmp < 0 ∨ 15 < tmp)) (h2 : ¬ twice l) (hu : ¬ usedT l ⟨false, tmp⟩) : chk l tmp = 0 := by unfold chk; rw [if_neg h, if_neg hb, if_neg ht, if_neg h2, if_neg hu]
def good1 (l : List (Pl × Pl)) (k : Nat) : Prop := ∀ j (h : j < l.length), j < k → (l[j].1.ok && l[j].2.ok) = true
theorem good1_all (l : List (Pl × Pl)) (h : good1 l l.length) : ¬ bad l := fun ⟨j, hj, hn⟩ => by rw [h j hj hj] at hn; cases hn
theorem good1_succ (l : List (Pl × Pl)) (k : Nat) (hk : k < l.length) (h : good1 l k) (h' : (l[k].1.ok && l[k].2.ok) = true) : good1 l (k + 1) := fun j hj hlt => by
  by_cases e : j = k
  · subst e; exact h'
  · exact h j hj (by omega)
def good2 (l : List (Pl × Pl)) (i : Nat) : Prop := ∀ j (h : j < l.length), j < i → ∀ k (h' : k < j), l[k].2 ≠ l[j].2
def good3 (l : List (Pl × Pl)) (i : Nat) (hi : i < l.length) (k : Nat) : Prop := ∀ j (h' : j < i), j < k → l[j].2 ≠ l[i].2
theorem good2_all (l : List (Pl × Pl)) (h : good2 l l.length) : ¬ twice l := fun ⟨i, j, hi, hj, he⟩ => h i hi hi j hj he
theorem good2_succ (l : List (Pl × Pl)) (i : Nat) (hi : i < l.length) (h : good2 l i) (h' : good3 l i hi i) : good2 l (i + 1) := fun j hj hlt k hk => by
  by_cases e : j = i
  · subst e; exact h' k hk hk
  · exact h j hj (by omega) k hk
theorem good3_succ (l : List (Pl × Pl)) (i : Nat) (hi : i < l.length) (k : Nat) (hk : k < i) (h : good3 l i hi k) (h' : l[k].2 ≠ l[i].2) : good3 l i hi (k + 1) := fun j hj hlt => by
  by_cases e : j = k
  · subst e; exact h'
  · exact h j hj (by omega)
def good4 (l : List (Pl × Pl)) (t : Pl) (k : Nat) : Prop := ∀ j (h : j < l.length), j < k → ¬ (l[j].1 = t ∨ l[j].2 = t)
theorem good4_all (l : List (Pl × Pl)) (t : Pl) (h : good4 l t l.length) : ¬ usedT l t := fun ⟨j, hj, he⟩ => h j hj hj he
theorem good4_succ (l : List (Pl × Pl)) (t : Pl) (k : Nat) (hk : k < l.length) (h : good4 l t k) (h' : ¬ (l[k].1 = t ∨ l[k].2 = t)) : good4 l t (k + 1) := fun j hj hlt => by
  by_cases e : j = k
  · subst e; exact h'
  · exact h j hj (by omega)
def Chk1 (l : List (Pl × Pl)) (w : World) (i : Value) (wr : World) : Prop := ∃ k : Nat, k ≤ l.length ∧ i = .int .i64 k ∧ good1 l k ∧ Below w.heap.size w wr
def Chk2 (l : List (Pl × Pl)) (w : World) (i : Value) (wr : World) : Prop := ∃ k : Nat, k ≤ l.length ∧ i = .int .i64 k ∧ good2 l k ∧ Below w.heap.size w wr
def Chk3 (l : List (Pl × Pl)) (i : Nat) (hi : i < l.length) (w : World) (v : Value) (wr : World) : Prop := ∃ k : Nat, k ≤ i ∧ v = .int .i64 k ∧ good3 l i hi k ∧ Below w.heap.size w wr
def Chk4 (l : List (Pl × Pl)) (t : Pl) (w w2 : World) (i : Value) (wr : World) : Prop := ∃ k m : Nat, k ≤ l.length ∧ i = .int .i64 k ∧ good4 l t k ∧ wr = (w2.alloc (.cells #[.bool t.s, .int .i64 t.n] 41)).drewN m
theorem check_any (A : Option Addr) (c : Nat) (l : List (Pl × Pl)) (tmp : Int) (w : World) (hr : Row w A (pcs l)) (hmx : l.length ≤ 9223372036854775807) :
    Calls Try.prog 18 #[.slice A l.length c, .int .i64 tmp] w fun e w' => e = .returned (.int .i64 (chk l tmp)) ∧ Below w.heap.size w w' := by
  by_cases hbig : 100 < l.length
  · go_enter Try.func18, Try.ntmps18
    go_wp2
    go_ret
    exact ⟨ret_i' (chk_1 l tmp hbig).symm, Below.refl _ _⟩
  go_enter Try.func18, Try.ntmps18
  go_wp2
  go_loopw [5] (fun i wr => Chk1 l w i wr) (fun i _ => l.length - (intOf i).toNat)
  case atStart => exact ⟨0, Nat.zero_le _, rfl, fun j _ h => absurd h (by omega), Below.refl _ _⟩
  case round =>
    obtain ⟨k, hk, rfl, hg, hb⟩ := hrel
    by_cases hlt : k < l.length
    · obtain ⟨b, o, rfl, hbl, c0, c1, c2, c3⟩ := hr.pair (k := k) (by omega)
      rw [← keep_cell hb hbl] at c0 c1 c2 c3
      have hbl2 : b < wr.heap.size := Nat.lt_of_lt_of_le hbl hb.size
      have hsz := hb.size
      have HG := Lib.hid (good1_succ l k hlt hg)
      have HB : Hid ((l[k].1.ok && l[k].2.ok) = false → chk l tmp = 6) := fun h => chk_bad l tmp hbig ⟨k, hlt, h⟩
      clear hg
      generalize l[k] = h at *
      rcases ho1 : h.1.ok with _ | _
      · have HB2 := HB.out (by rw [ho1]; rfl)
        have HB3 := Lib.hid HB2
        clear HB2 HB HG
        go_wp2_with (go_at_call 41; refine (place_any h.1 _).mono ?_; rintro e w1 ⟨rfl, rfl⟩)
        go_ret
        exact ⟨ret_i' HB3.out.symm, by (repeat (first | with_reducible assumption | with_reducible exact Below.refl _ _ | (refine Below.setCell ?_ (by first | omega | (simp; done) | (simp; omega)) _) | (refine Below.drewN_ ?_ _) | (refine Below.drew ?_) | (refine Below.alloc ?_ (by first | omega | (simp; done) | (simp; omega)) _)))⟩
      · rcases ho2 : h.2.ok with _ | _
        · have HB2 := HB.out (by rw [ho1, ho2]; rfl)
          have HB3 := Lib.hid HB2
          clear HB2 HB HG
          have c2' := c2
          have c3' := c3
          go_wp2_with fail
          refine (place_any h.1 _).mono ?_
          rintro e w1 ⟨rfl, rfl⟩
          go_wp2_with fail
          refine (place_any h.2 _).mono ?_
          rintro e w1 ⟨rfl, rfl⟩
          go_wp2
          go_ret
          exact ⟨ret_i' HB3.out.symm, by (repeat (first | with_reducible assumption | with_reducible exact Below.refl _ _ | (refine Below.setCell ?_ (by first | omega | (simp; done) | (simp; omega)) _) | (refine Below.drewN_ ?_ _) | (refine Below.drew ?_) | (refine Below.alloc ?_ (by first | omega | (simp; done) | (simp; omega)) _)))⟩
        · have HG2 := HG.out (by rw [ho1, ho2]; rfl)
          have HG3 := Lib.hid HG2
          clear HG2 HB HG
          go_wp2_with fail
          refine (place_any h.1 _).mono ?_
          rintro e w1 ⟨rfl, rfl⟩
          go_wp2_with fail
          refine (place_any h.2 _).mono ?_
          rintro e w1 ⟨rfl, rfl⟩
          go_wp2
          go_roundw
          case rel => exact ⟨k + 1, by omega, by go_num, HG3.out, by (repeat (first | with_reducible assumption | with_reducible exact Below.refl _ _ | (refine Below.setCell ?_ (by first | omega | (simp; done) | (simp; omega)) _) | (refine Below.drewN_ ?_ _) | (refine Below.drew ?_) | (refine Below.alloc ?_ (by first | omega | (simp; done) | (simp; omega)) _)))⟩
          case measure => (first | (simp [intOf]; done) | (simp [intOf]; omega))
    · obtain rfl : k = l.length := by omega
      have HB := Lib.hid (good1_all l hg)
      clear hg
      by_cases ht : tmp < 0 ∨ 15 < tmp
      · have HT := Lib.hid (chk_tmp l tmp hbig ht)
        by_cases ht1 : tmp < 0
        · have hd : decide (tmp < 0) = true := by simpa using ht1
          clear ht
          go_wp2
          go_ret
          exact ⟨ret_i' HT.out.symm, hb⟩
        · have hd : decide (tmp < 0) = false := by simpa using ht1
          have ht2 : 15 < tmp := by omega
          have hd2 : decide (15 < tmp) = true := by simpa using ht2
          clear ht
          go_wp2
          go_ret
          exact ⟨ret_i' HT.out.symm, hb⟩
      have ht1 : 0 ≤ tmp := by omega
      have ht2 : tmp ≤ 15 := by omega
      have hd : decide (tmp < 0) = false := by simp; omega
      have hd2 : decide (15 < tmp) = false := by simp; omega
      have HT := Lib.hid ht
      clear ht
      go_wp2
      obtain ⟨wo, rfl⟩ : ∃ wo : World, wo = wr := ⟨_, rfl⟩
      go_loopw [6, 7] (fun i _ wr => Chk2 l w i wr) (fun i _ _ => l.length - (intOf i).toNat)
      case atStart => exact ⟨0, Nat.zero_le _, rfl, fun j _ h => absurd h (by omega), hb⟩
      case round =>
        obtain ⟨i, hi, rfl, hg, hb⟩ := hrel
        by_cases hlt2 : i < l.length
        · have hii : (i : Int) < (l.length : Int) := by omega
          go_wp2
          obtain ⟨wp, rfl⟩ : ∃ wp : World, wp = wr := ⟨_, rfl⟩
          go_loopw [7] (fun v wr => Chk3 l i hlt2 w v wr) (fun v _ => i - (intOf v).toNat)
          case atStart => exact ⟨0, Nat.zero_le _, rfl, fun j _ h => absurd h (by omega), hb⟩
          case round =>
            obtain ⟨k, hk, rfl, hg3, hb⟩ := hrel
            by_cases hlt3 : k < i
            · obtain ⟨b, o, rfl, hbl, -, -, c2, c3⟩ := hr.pair (k := k) (by omega)
              obtain ⟨b', o', hA, -, -, -, d2, d3⟩ := hr.pair (k := i) (by omega)
              obtain ⟨rfl, rfl⟩ : b = b' ∧ o = o' := by simpa using hA
              clear hA
              rw [← keep_cell hb hbl] at c2 c3 d2 d3
              have HG := Lib.hid (good3_succ l i hlt2 k hlt3 hg3)
              have HB : Hid (l[k].2 = l[i].2 → chk l tmp = 5) := fun h => chk_twice l tmp hbig HB.out HT.out ⟨i, k, hlt2, hlt3, h⟩
              clear hg3 hg
              have hkk : (k : Int) < (l.length : Int) := by omega
              generalize l[k] = h at *
              generalize l[i] = h' at *
              by_cases he : h.2 = h'.2
              · have hq := leq_yes he
                have HB2 := Lib.hid (HB.out he)
                clear HB HG he
                go_wp2_with fail
                go_quiet (fail)
                go_wp2
                go_ret
                exact ⟨ret_i' HB2.out.symm, by (repeat (first | with_reducible assumption | with_reducible exact Below.refl _ _ | (refine Below.setCell ?_ (by first | omega | (simp; done) | (simp; omega)) _) | (refine Below.drewN_ ?_ _) | (refine Below.drew ?_) | (refine Below.alloc ?_ (by first | omega | (simp; done) | (simp; omega)) _)))⟩
              · have hq := leq_no he
                have HG2 := Lib.hid (HG.out he)
                clear HB HG he
                go_wp2_with fail
                go_quiet (fail)
                go_wp2
                go_roundw
                case rel => exact ⟨k + 1, by omega, by go_num, HG2.out, by (repeat (first | with_reducible assumption | with_reducible exact Below.refl _ _ | (refine Below.setCell ?_ (by first | omega | (simp; done) | (simp; omega)) _) | (refine Below.drewN_ ?_ _) | (refine Below.drew ?_) | (refine Below.alloc ?_ (by first | omega | (simp; done) | (simp; omega)) _)))⟩
                case measure => (first | (simp [intOf]; done) | (simp [intOf]; omega))
            · obtain rfl : k = i := by omega
              have HG := Lib.hid (good2_succ l k hlt2 hg hg3)
              clear hg hg3
              go_wp2
              go_roundw
              case rel => exact ⟨k + 1, by omega, by go_num, HG.out, by (repeat (first | with_reducible assumption | with_reducible exact Below.refl _ _ | (refine Below.setCell ?_ (by first | omega | (simp; done) | (simp; omega)) _) | (refine Below.drewN_ ?_ _) | (refine Below.drew ?_) | (refine Below.alloc ?_ (by first | omega | (simp; done) | (simp; omega)) _)))⟩
              case measure => (first | (simp [intOf]; done) | (simp [intOf]; omega))
        · obtain rfl : i = l.length := by omega
          have H2 := Lib.hid (good2_all l hg)
          clear hg
          go_wp2
          obtain ⟨w2, rfl⟩ : ∃ w2 : World, w2 = wr := ⟨_, rfl⟩
          have hsz := hb.size
          go_loopw [9] (fun i wr => Chk4 l ⟨false, tmp⟩ w w2 i wr) (fun i _ => l.length - (intOf i).toNat)
          case atStart => exact ⟨0, 0, Nat.zero_le _, rfl, fun j _ h => absurd h (by omega), rfl⟩
          case round =>
            obtain ⟨k, m, hk, rfl, hg, rfl⟩ := hrel
            by_cases hlt4 : k < l.length
            · obtain ⟨b, o, rfl, hbl, c0, c1, c2, c3⟩ := hr.pair (k := k) (by omega)
              rw [← keep_cell hb hbl] at c0 c1 c2 c3
              have hbl2 : b < w2.heap.size := by omega
              have HG := Lib.hid (good4_succ l ⟨false, tmp⟩ k hlt4 hg)
              have HB4 : Hid (l[k].1 = ⟨false, tmp⟩ ∨ l[k].2 = ⟨false, tmp⟩ → chk l tmp = 3) := fun h => chk_used l tmp hbig HB.out HT.out H2.out ⟨k, hlt4, h⟩
              clear hg
              have hkk : (k : Int) < (l.length : Int) := by omega
              generalize l[k] = h at *
              by_cases he : h.1 = ⟨false, tmp⟩
              · have hq : leq h.1.s h.1.n false tmp = true := leq_yes (y := ⟨false, tmp⟩) he
                have HB5 := Lib.hid (HB4.out (.inl he))
                clear HB4 HG he
                go_wp2_with fail
                go_quiet (fail)
                go_wp2
                go_ret
                exact ⟨ret_i' HB5.out.symm, by (repeat (first | with_reducible assumption | with_reducible exact Below.refl _ _ | (refine Below.setCell ?_ (by first | omega | (simp; done) | (simp; omega)) _) | (refine Below.drewN_ ?_ _) | (refine Below.drew ?_) | (refine Below.alloc ?_ (by first | omega | (simp; done) | (simp; omega)) _)))⟩
              · have hq : leq h.1.s h.1.n false tmp = false := leq_no (y := ⟨false, tmp⟩) he
                by_cases he2 : h.2 = ⟨false, tmp⟩
                · have hq2 : leq h.2.s h.2.n false tmp = true := leq_yes (y := ⟨false, tmp⟩) he2
                  have HB5 := Lib.hid (HB4.out (.inr he2))
                  clear HB4 HG he he2
                  go_wp2_with fail
                  go_quiet (fail)
                  go_wp2
                  go_ret
                  exact ⟨ret_i' HB5.out.symm, by (repeat (first | with_reducible assumption | with_reducible exact Below.refl _ _ | (refine Below.setCell ?_ (by first | omega | (simp; done) | (simp; omega)) _) | (refine Below.drewN_ ?_ _) | (refine Below.drew ?_) | (refine Below.alloc ?_ (by first | omega | (simp; done) | (simp; omega)) _)))⟩
                · have hq2 : leq h.2.s h.2.n false tmp = false := leq_no (y := ⟨false, tmp⟩) he2
                  have HG5 := Lib.hid (HG.out (by rintro (x | x); exact he x; exact he2 x))
                  clear HB4 HG he he2
                  go_wp2_with fail
                  go_quiet (fail)
                  go_wp2
                  go_roundw
                  case rel => exact ⟨k + 1, m + nq, by omega, by go_num, HG5.out, rfl⟩
                  case measure => (first | (simp [intOf]; done) | (simp [intOf]; omega))
            · obtain rfl : k = l.length := by omega
              have H5 := Lib.hid (chk_ok l tmp hbig HB.out HT.out H2.out (good4_all l _ hg))
              clear hg
              go_wp2
              go_ret
              exact ⟨ret_i' H5.out.symm, by (repeat (first | with_reducible assumption | with_reducible exact Below.refl _ _ | (refine Below.setCell ?_ (by first | omega | (simp; done) | (simp; omega)) _) | (refine Below.drewN_ ?_ _) | (refine Below.drew ?_) | (refine Below.alloc ?_ (by first | omega | (simp; done) | (simp; omega)) _)))⟩
end Go.Proofs.Ytffhfcddlhdicaa
