/- Small words that the laws over bodies share: how long a body is; the law's own comparison of two rows of numbers. -/
import Derived.Test.YtkkjkbljgaipcaaOrdI
import Derived.Test.YtkkjkbljgaipcaaOrdR
import Derived.Deep.RegionHeld3
import Derived.Deep.QuietTactic
import Derived.BigQuiet
import Derived.IntWalk
import Derived.RangeFuncBox
namespace Go.Proofs.Ytkkjkbljgaipcaa
open Go.RowKit
set_option linter.unusedVariables false
set_option linter.unusedSimpArgs false
set_option maxRecDepth 100000
set_option maxHeartbeats 4000000
theorem code_le {b : Bo} (h : bodyB b = true) : b.code.length ≤ 6000 := by
  rcases hh : headB b with _ | _
  · rw [body_no hh] at h; cases h
  · exact (head_parts hh).2.2.2.2.2.2
def SameRel (l : List Int) (w : World) (i : Value) (wr : World) : Prop := ∃ k : Nat, k ≤ l.length ∧ i = .int .i64 k ∧ ∃ n, wr = w.drewN n
theorem intsEq_any (A A' : Option Addr) (c c' : Nat) (l : List Int) (w : World) (hr : Row w A (l.map i64)) (hr' : Row w A' (l.map i64)) (hn : l.length ≤ 10000) :
    Calls Try.prog 11 #[.slice A l.length c, .slice A' l.length c'] w (DrOut true w) := by
  go_enter Try.func11, Try.ntmps11
  go_wp2
  go_loopw [5] (fun i wr => SameRel l w i wr) (fun i _ => l.length - (intOf i).toNat)
  case atStart => exact ⟨0, Nat.zero_le _, rfl, 0, rfl⟩
  case round =>
    obtain ⟨k, hk, rfl, nd, rfl⟩ := hrel
    by_cases hlt : k < l.length
    · obtain ⟨b, o, rfl, hbl, c0⟩ := hr.i64 hlt
      obtain ⟨b', o', rfl, hbl', c0'⟩ := hr'.i64 hlt
      have hi : (k : Int) < (l.length : Int) := by omega
      have hi0 : (0 : Int) ≤ (k : Int) := by omega
      have hk6 : (k : Int) < 10000 := by omega
      generalize l[k] = x at *
      have t : ((x : Int) != (x : Int)) = false := by simp
      go_wp2_with fail
      go_quiet (fail)
      go_wp2
      go_roundw
      case rel => exact ⟨k + 1, by omega, by go_num, _, rfl⟩
      case measure => (first | (simp [intOf]; done) | (simp [intOf]; omega))
    · have hi : ¬ (k : Int) < (l.length : Int) := by omega
      go_wp2
      go_ret
      exact ⟨rfl, nd, rfl⟩
end Go.Proofs.Ytkkjkbljgaipcaa
