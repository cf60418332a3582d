/- Contracts of moves.is, of the reference's place and At. -/
import Derived.Test.YtffhfcddlhdicaaChecked
import Derived.Test.YtffhfcddlhdicaaLib
import Derived.WalkKit
import Derived.WalkLawsBesides
import Derived.Outline
import Derived.LoopTactic
import Derived.Deep.QuietTactic
import Derived.BigQuiet
namespace Go.Proofs.Ytffhfcddlhdicaa
open Go.RowKit
set_option linter.unusedVariables false
set_option linter.unusedSimpArgs false
structure Pl where
  s : Bool
  n : Int
  deriving DecidableEq
def Pl.cells (l : Pl) : List Value := [.bool l.s, .int .i64 l.n]
def Pl.ok (l : Pl) : Bool := decide (0 ≤ l.n) && (if l.s then decide (l.n ≤ 999) else decide (l.n ≤ 15))
/-- are two places the same? -/
def leq (a : Bool) (b : Int) (c : Bool) (d : Int) : Bool := a == c && b == d
theorem leq_iff (x y : Pl) : leq x.s x.n y.s y.n = true ↔ x = y := by
  obtain ⟨a, b⟩ := x
  obtain ⟨c, d⟩ := y
  simp [leq]
theorem leq_yes {x y : Pl} (h : x = y) : leq x.s x.n y.s y.n = true := (leq_iff x y).2 h
theorem leq_no {x y : Pl} (h : ¬ x = y) : leq x.s x.n y.s y.n = false := by
  cases e : leq x.s x.n y.s y.n
  · rfl
  · exact absurd ((leq_iff x y).1 e) h
theorem eq_loc (a c : Bool) (b d : Int) (w : World) : (binOp .eql 41 (.agg #[.bool a, .int .i64 b]) (.agg #[.bool c, .int .i64 d])).run Try.prog w = .ok (.bool (leq a b c d)) w := by
  unfold leq
  rw [run_eql_struct]
  cases h1 : a == c <;> cases h2 : b == d <;> simp [go_sem, h1, h2, Try.underlying41, Op.eqFields, Program.fieldsOf]
theorem ne_loc (a c : Bool) (b d : Int) (w : World) : (binOp .neq 41 (.agg #[.bool a, .int .i64 b]) (.agg #[.bool c, .int .i64 d])).run Try.prog w = .ok (.bool (!leq a b c d)) w := by
  unfold leq
  rw [run_neq_struct]
  cases h1 : a == c <;> cases h2 : b == d <;> simp [go_sem, h1, h2, Try.underlying41, Op.eqFields, Program.fieldsOf]
theorem ret_i' {k : IntKind} {a b : Int} (h : a = b) : Ending.returned (.int k a) = .returned (.int k b) := by rw [h]
theorem ret_bo {a b : Bool} (h : a = b) : Ending.returned (.bool a) = .returned (.bool b) := by rw [h]
theorem place_any (l : Pl) (w : World) :
    Calls Try.prog 41 #[.agg #[.bool l.s, .int .i64 l.n]] w fun e w' => e = .returned (.bool l.ok) ∧ w' = w.alloc (.cells #[.bool l.s, .int .i64 l.n] 41) := by
  obtain ⟨s, n⟩ := l
  cases s
  all_goals
    by_cases h : 0 ≤ n
    · have hd : decide (0 ≤ n) = true := by simpa using h
      go_enter Try.func41, Try.ntmps41
      go_wp2
      go_ret
      exact ⟨ret_bo (by simp [Pl.ok, h]), rfl⟩
    · have hd : decide (0 ≤ n) = false := by simpa using h
      go_enter Try.func41, Try.ntmps41
      go_wp2
      go_ret
      exact ⟨ret_bo (by simp [Pl.ok, hd]), rfl⟩
theorem is_any (l : Pl) (w : World) :
    Calls Try.prog 46 #[.agg #[.bool l.s, .int .i64 l.n]] w fun e w' => e = .returned (.bool l.ok) ∧ w' = w.alloc (.cells #[.bool l.s, .int .i64 l.n] 41) := by
  obtain ⟨s, n⟩ := l
  cases s
  all_goals
    by_cases h : 0 ≤ n
    · have hd : decide (0 ≤ n) = true := by simpa using h
      by_cases h9 : n ≤ 999
      · have hd9 : decide (n ≤ 999) = true := by simpa using h9
        go_enter Try.func46, Try.ntmps46
        go_wp2
        go_ret
        exact ⟨ret_bo (by simp [Pl.ok, h, h9]), rfl⟩
      · have hd9 : decide (n ≤ 999) = false := by simpa using h9
        go_enter Try.func46, Try.ntmps46
        go_wp2
        go_ret
        exact ⟨ret_bo (by simp [Pl.ok, h]; try omega), rfl⟩
    · have hd : decide (0 ≤ n) = false := by simpa using h
      go_enter Try.func46, Try.ntmps46
      go_wp2
      go_ret
      exact ⟨ret_bo (by simp [Pl.ok, hd]), rfl⟩
end Go.Proofs.Ytffhfcddlhdicaa
