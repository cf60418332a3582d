/- The walks of slices.Equal, slices.Index, slices.Contains (at bools), tail.last. -/
import Derived.Test.YtkkjkbljgaipcaaOrdM
import Derived.Deep.RegionHeld3
import Derived.Deep.QuietTactic
import Derived.BigQuiet
import Derived.IntWalk
namespace Go.Proofs.Ytkkjkbljgaipcaa
open Go.RowKit
set_option linter.unusedVariables false
set_option linter.unusedSimpArgs false
set_option maxRecDepth 100000
set_option maxHeartbeats 4000000
def EqRel (l l' : List Int) (w : World) (i : Value) (wr : World) : Prop := ∃ k : Nat, k ≤ l.length ∧ i = .int .i64 k ∧ (∀ j (h : j < l.length) (h' : j < l'.length), j < k → l[j] = l'[j]) ∧ ∃ n, wr = w.drewN n
theorem equal_any (A A' : Option Addr) (c c' : Nat) (l l' : List Int) (w : World) (hr : Row w A (l.map i64)) (hr' : Row w A' (l'.map i64)) (hn : l.length ≤ maxLen) (hn' : l'.length ≤ maxLen) :
    Calls Try.prog 53 #[.slice A l.length c, .slice A' l'.length c'] w (DrOut (decide (l = l')) w) := by
  unfold maxLen at hn hn'
  by_cases hl : l.length = l'.length
  case neg =>
    have hf : Hid (decide (l = l') = false) := by
      show _ = _
      rw [decide_eq_false_iff_not]
      rintro rfl; exact hl rfl
    have g1 : (l.length != l'.length) = true := by simpa using hl
    have g2 : ((l.length : Int) != (l'.length : Int)) = true := by simp; omega
    go_enter Try.func53, Try.ntmps53
    go_wp2
    go_ret
    exact ⟨by rw [hf.out]; rfl, 0, rfl⟩
  have g1 : (l.length != l'.length) = false := by simpa using hl
  have g2 : ((l.length : Int) != (l'.length : Int)) = false := by simp; omega
  have HL := Lib.hid hl
  clear hl
  go_enter Try.func53, Try.ntmps53
  go_wp2
  go_loopw [13] (fun i wr => EqRel l l' w i wr) (fun i _ => l.length - (intOf i).toNat)
  case atStart => exact ⟨0, Nat.zero_le _, rfl, fun j _ _ h => absurd h (by omega), 0, rfl⟩
  case round =>
    obtain ⟨k, hk, rfl, hg, nd, rfl⟩ := hrel
    by_cases hlt : k < l.length
    · obtain ⟨b, o, rfl, hbl, c0⟩ := hr.i64 hlt
      have hlt' : k < l'.length := by rw [← HL.out]; exact hlt
      obtain ⟨b', o', rfl, hbl', c0'⟩ := hr'.i64 hlt'
      have hi0 : (0 : Int) ≤ (k : Int) := by omega
      have hi : (k : Int) < (l.length : Int) := by omega
      have hi' : (k : Int) < (l'.length : Int) := by omega
      by_cases hx : l[k] = l'[k]
      · have hgg : Hid (∀ j (h : j < l.length) (h' : j < l'.length), j < k + 1 → l[j] = l'[j]) := fun j h h' hj => by
          rcases Nat.lt_or_ge j k with h1 | h1
          · exact hg j h h' h1
          · obtain rfl : j = k := by omega
            exact hx
        have e3 : (l[k] != l'[k]) = false := by simpa using hx
        clear hg hx
        generalize l[k] = x at *
        generalize l'[k] = y at *
        go_wp2
        go_quiet (fail)
        go_wp2
        go_roundw
        case rel => exact ⟨k + 1, by omega, by go_num, hgg.out, _, rfl⟩
        case measure => (first | (simp [intOf]; done) | (simp [intOf]; omega))
      · have hf : Hid (decide (l = l') = false) := by
          show _ = _
          rw [decide_eq_false_iff_not]
          rintro rfl; exact hx rfl
        have e3 : (l[k] != l'[k]) = true := by simpa using hx
        clear hg hx
        generalize l[k] = x at *
        generalize l'[k] = y at *
        go_wp2
        go_quiet (fail)
        go_wp2
        go_ret
        exact ⟨by rw [hf.out]; rfl, nd + nq, by simp⟩
    · have hi : ¬ (k : Int) < (l.length : Int) := by omega
      have hf : Hid (decide (l = l') = true) := by
        show _ = _
        rw [decide_eq_true_eq]
        exact List.ext_getElem HL.out fun j h h' => hg j h h' (by omega)
      clear hg
      go_wp2
      go_ret
      exact ⟨by rw [hf.out]; rfl, _, rfl⟩
def IdxOut (l : List Bool) (w : World) (e : Ending) (w' : World) : Prop := ∃ n : Int, e = .returned (.int .i64 n) ∧ decide (0 ≤ n) = l.contains true ∧ w = w'
def IdxRel (l : List Bool) (i : Value) : Prop := ∃ k : Nat, k ≤ l.length ∧ i = .int .i64 k ∧ ∀ j (h : j < l.length), j < k → l[j] = false
theorem Row.bool {w : World} {A : Option Addr} {l : List Bool} (h : Row w A (l.map .bool)) {k : Nat} (hk : k < l.length) : ∃ b o, A = some ⟨b, o, none⟩ ∧ b < w.heap.size ∧ w.cell? ⟨b, o + k, none⟩ = some (.bool l[k]) := by
  obtain ⟨b, o, hA, hl, hc⟩ := h.at_ (by intro e; have := congrArg List.length e; simp at this; subst this; simp at hk)
  exact ⟨b, o, hA, hl, hc k _ (by rw [List.getElem?_map, List.getElem?_eq_getElem hk]; rfl)⟩
theorem idxB_any (A : Option Addr) (c : Nat) (l : List Bool) (w : World) (hr : Row w A (l.map .bool)) (hn : l.length ≤ maxLen) :
    Calls Try.prog 54 #[.slice A l.length c, .bool true] w (IdxOut l w) := by
  unfold maxLen at hn
  go_enter Try.func54, Try.ntmps54
  go_wp2
  go_loop [8] (fun i => IdxRel l i) (fun i => l.length - (intOf i).toNat)
  case atStart => exact ⟨0, Nat.zero_le _, rfl, fun j _ h => absurd h (by omega)⟩
  case round =>
    obtain ⟨k, hk, rfl, hg⟩ := hrel
    by_cases hlt : k < l.length
    · obtain ⟨b, o, rfl, hbl, c0⟩ := hr.bool hlt
      have hi0 : (0 : Int) ≤ (k : Int) := by omega
      have hi : (k : Int) < (l.length : Int) := by omega
      rcases hx : l[k] with _ | _
      · have hgg : Hid (∀ j (h : j < l.length), j < k + 1 → l[j] = false) := fun j h hj => by
          rcases Nat.lt_or_ge j k with h1 | h1
          · exact hg j h h1
          · obtain rfl : j = k := by omega
            exact hx
        rw [hx] at c0
        clear hg hx
        go_wp2
        go_round
        case rel => exact ⟨k + 1, by omega, by go_num, hgg.out⟩
        case measure => (first | (simp [intOf]; done) | (simp [intOf]; omega))
      · have hf : Hid (l.contains true = true) := by
          show _ = _
          rw [List.contains_iff_mem]
          exact hx ▸ List.getElem_mem hlt
        rw [hx] at c0
        clear hg hx
        go_wp2
        go_ret
        exact ⟨_, rfl, by rw [hf.out]; simp, rfl⟩
    · have hi : ¬ (k : Int) < (l.length : Int) := by omega
      have hf : Hid (l.contains true = false) := by
        show _ = _
        rcases h : l.contains true with _ | _
        · rfl
        · rw [List.contains_iff_mem] at h
          obtain ⟨j, hj, hx⟩ := List.getElem_of_mem h
          rw [hg j hj (by omega)] at hx
          cases hx
      clear hg
      go_wp2
      go_ret
      exact ⟨_, rfl, by rw [hf.out]; rfl, rfl⟩
theorem containsB_any (A : Option Addr) (c : Nat) (l : List Bool) (w : World) (hr : Row w A (l.map .bool)) (hn : l.length ≤ maxLen) :
    Calls Try.prog 27 #[.slice A l.length c, .bool true] w fun e w' => e = .returned (.bool (l.contains true)) ∧ w = w' := by
  have HC := Lib.hid (idxB_any A c l w hr hn)
  clear hr hn
  go_enter Try.func27, Try.ntmps27
  go_wp2_with fail
  ((with_reducible refine (HC.out).mono ?_); rintro e w2 ⟨n, rfl, hd, rfl⟩)
  have HD := Lib.hid hd
  clear hd
  go_wp2
  go_ret
  exact ⟨by rw [← HD.out]; rfl, rfl⟩
end Go.Proofs.Ytkkjkbljgaipcaa
