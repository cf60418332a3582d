/- abi.Places and the document's places: both answer the same. -/
import Derived.Test.YtkkjkbljgaipcaaAbiQ
import Derived.Test.YtkkjkbljgaipcaaAbiG
namespace Go.Proofs.Ytkkjkbljgaipcaa
open Go.RowKit
set_option linter.unusedVariables false
set_option linter.unusedSimpArgs false
set_option maxRecDepth 100000
set_option maxHeartbeats 4000000
theorem abiP_any (T : Ty) (cs : List Value) (bs : List Ty) (Ab : Option Addr) (cb : Nat) (w : World) (hr : Rep w T cs) (hbs : RepL w bs Ab) (hm : ML w) : Calls Try.prog 24 #[.agg cs.toArray, .slice Ab bs.length cb] w (PlOut T bs w) := by
  by_cases h4 : T.k = 4
  · rcases hmy : may T with _ | _
    · exact abiP_may T cs bs Ab cb w hr hm h4 hmy
    · by_cases hx : 6 < bs.length ∨ (0 < bs.length ∧ T.many = false)
      · exact abiP_range T cs bs Ab cb w hr hm h4 hmy hx
      · exact abiP_go T cs bs Ab cb w hr hm h4 hmy hbs (by omega) (fun h => by
          rcases h' : T.many with _ | _
          · exact absurd (.inr ⟨h, h'⟩) hx
          · rfl)
  · exact abiP_kind T cs bs Ab cb w hr h4
theorem abiR_any (T : Ty) (cs : List Value) (bs : List Ty) (Ab : Option Addr) (cb : Nat) (w : World) (hr : Rep w T cs) (hbs : RepL w bs Ab) : Calls Try.prog 29 #[.agg cs.toArray, .slice Ab bs.length cb] w (PlOut T bs w) := by
  by_cases h4 : T.k = 4
  · rcases hmy : may T with _ | _
    · exact abiR_may T cs bs Ab cb w hr h4 hmy
    · by_cases hx : 6 < bs.length ∨ (0 < bs.length ∧ T.many = false)
      · exact abiR_range T cs bs Ab cb w hr h4 hmy hx
      · exact abiR_go T cs bs Ab cb w hr h4 hmy hbs (by omega) (fun h => by
          rcases h' : T.many with _ | _
          · exact absurd (.inr ⟨h, h'⟩) hx
          · rfl)
  · exact abiR_kind T cs bs Ab cb w hr h4
theorem parK_rows (ts : List Ty) (g : Gv) (h : g.r ≤ 4) : ∀ k, ∀ l ∈ (parK ts g k).1, l.length ≤ 4
  | 0 => fun l hl => by cases hl
  | k + 1 => fun l hl => by
    have ih := parK_rows ts g h k
    have hb := (parK_p ts g h k).1
    simp only [parK] at hl
    rcases List.mem_append.1 hl with hl | hl
    · exact ih l hl
    · rw [List.mem_singleton] at hl
      subst hl
      exact (par_bd _ hb _ _ _).2.2.1
theorem abiV_len (T : Ty) (bs : List Ty) : (abiV T bs).pars.length ≤ 7 ∧ (abiV T bs).cops.length = (abiV T bs).pars.length ∧ (abiV T bs).ress.length ≤ 2 ∧ ∀ l ∈ (abiV T bs).pars, l.length ≤ 4 := by
  unfold abiV
  split
  · rename_i h
    have hmy : may T = true := by
      rcases hm : may T with _ | _
      · unfold abiE at h; rw [if_pos (.inr hm)] at h; cases h
      · rfl
    have h7 := may_len hmy
    have hl := parK_len T.ps (gvB T) (T.ps.length - 1)
    simp only [abiG]
    refine ⟨by omega, by omega, ?_, parK_rows _ _ (gvB_p T).1 _⟩
    split <;> simp
    omega
  · simp [Plc.zero]
end Go.Proofs.Ytkkjkbljgaipcaa
