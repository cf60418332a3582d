/- What stands first of dots and calls; a node's box written. -/
import Derived.Test.YtgegfbopogcjpaaDoorSynB
namespace Go.Proofs.YtgegfbopogcjpaaDoor
open Go.RowKit
set_option linter.unusedVariables false
set_option linter.unusedSimpArgs false
set_option maxRecDepth 100000
theorem blk_set4 {w : World} {b : Nat} {t : TypeId} {a0 a1 a2 a3 : Value} (k : Blk w b t #[a0, a1, a2, a3]) (b0 b1 b2 b3 : Value) : Blk ((((w.setCell ⟨b, 0, none⟩ b0).setCell ⟨b, 1, none⟩ b1).setCell ⟨b, 2, none⟩ b2).setCell ⟨b, 3, none⟩ b3) b t #[b0, b1, b2, b3] := (((k.set_ 0 b0).set_ 1 b1).set_ 2 b2).set_ 3 b3
theorem baseN_head {calls : Bool} {m : Nd} (h : headK calls m.k = true) (h0 : 0 < m.kids.length) : baseN calls m = baseN calls m.kids[0] := by
  rcases m with ⟨k, t, num, kids⟩
  cases kids with
  | nil => simp [Nd.kids] at h0
  | cons x xs =>
    simp only [Nd.k] at h
    rw [baseN, if_pos h]
    rfl
theorem baseN_stop {calls : Bool} {m : Nd} (h : headK calls m.k = false ∨ m.kids.length = 0) : baseN calls m = m := by
  rcases m with ⟨k, t, num, kids⟩
  cases kids with
  | nil => rw [baseN]
  | cons x xs =>
    rcases h with h | h
    · simp only [Nd.k] at h
      rw [baseN, if_neg (by rw [h]; decide)]
    · simp [Nd.kids] at h
def setC : List Nd → Bool
  | [] => false
  | m :: _ => (baseN false m).k == 23
def doC : List Nd → Bool
  | [] => false
  | m :: _ => m.k == 25 && (baseN true m).k == 23
end Go.Proofs.YtgegfbopogcjpaaDoor
