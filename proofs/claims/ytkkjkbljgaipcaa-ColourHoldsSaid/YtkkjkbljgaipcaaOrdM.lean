/- A map from numbers to true that the call itself has made. -/
import Derived.Test.YtkkjkbljgaipcaaOrdC
namespace Go.Proofs.Ytkkjkbljgaipcaa
open Go.RowKit
open Go.Maps (Keyed)
set_option linter.unusedVariables false
set_option linter.unusedSimpArgs false
set_option maxRecDepth 100000
noncomputable def intF (l : List Int) : Value → Option Value := l.foldl (fun g s => gput g (.int .i64 s) (.bool true)) (fun _ => none)
theorem intF_snoc (l : List Int) (s : Int) : intF (l ++ [s]) = gput (intF l) (.int .i64 s) (.bool true) := by
  unfold intF; rw [List.foldl_append]; rfl
def intIn (l : List Int) (s : Int) : Bool := decide (s ∈ l)
theorem intF_get (l : List Int) (s : Int) : intF l.reverse (.int .i64 s) = if intIn l.reverse s then some (.bool true) else none := by
  induction l with
  | nil => simp [intF, intIn]
  | cons m l ih =>
    rw [List.reverse_cons, intF_snoc]
    by_cases h : s = m
    · subst h
      rw [gput_same, if_pos (by simp [intIn])]
    · rw [gput_other _ _ _ _ (fun e => h (by simpa using e)), ih]
      have : intIn (l.reverse ++ [m]) s = intIn l.reverse s := by
        unfold intIn
        rw [decide_eq_decide, List.mem_append]
        simp [h]
      rw [this]
theorem int_get (l : List Int) (s : Int) : (intF l (.int .i64 s)).getD (.bool false) = .bool (intIn l s) := by
  have h := intF_get l.reverse s
  rw [List.reverse_reverse] at h
  rw [h]
  cases intIn l s <;> rfl
theorem int_keyed : Keyed Try.prog 3 := Maps.int_keyed Try.underlying3
theorem keyOf_int (s : Int) (h0 : 0 ≤ s) (h1 : s ≤ 100000) : ∃ l, keyOf Try.prog 3 (.int .i64 s) = some l :=
  ⟨_, Maps.keyOf_int_mk Try.underlying3 (WalkArith.wf_i64 (by omega))⟩
theorem look_int (l : List Int) (W : World) (B : Nat) (s : Int) (h : MapIs Try.prog 3 W B (intF l)) {kl : Lit} (hkey : keyOf Try.prog 3 (.int .i64 s) = some kl) :
    (Instr.lookup 46 (.map (some B)) (.int .i64 s) false).run Try.prog W = .ok (.bool (intIn l s)) W := by
  rw [← int_get]
  exact MapIs.lookup h int_keyed Try.underlying46 (by kernel_rfl) hkey
theorem int_in_no {l : List Int} {k : Nat} (hk : k < l.length) (h : intIn (l.take k) l[k] = true) : decide l.Nodup = false := by
  simp only [intIn, decide_eq_true_eq] at h
  obtain ⟨j, hj, he⟩ := List.getElem_of_mem h
  rw [List.length_take] at hj
  rw [List.getElem_take] at he
  exact nodup_no (m := j) (by omega) hk he
theorem int_in_more {l : List Int} {k : Nat} (hk : k < l.length) (h : (l.take k).Nodup) (hs : intIn (l.take k) l[k] = false) : (l.take (k + 1)).Nodup := by
  refine nodup_more hk h fun j hj hjk he => ?_
  simp only [intIn, decide_eq_false_iff_not] at hs
  exact hs (by rw [← he]; exact List.mem_take_iff_getElem.2 ⟨j, by omega, rfl⟩)
def SeenRel (l : List Int) (w0 w : World) (B : Nat) (i : Value) (wr : World) : Prop :=
  ∃ k : Nat, k ≤ l.length ∧ i = .int .i64 k ∧ (l.take k).Nodup ∧ MapIs Try.prog 3 wr B (intF (l.take k)) ∧ Below w.heap.size w wr ∧ Below w0.heap.size w0 wr
theorem heldS {w4 : World} {C : World → Prop} (HF : Hid (∀ W, Below w4.heap.size w4 W → C W)) {W W' : World} (h : Below w4.heap.size w4 W ∧ C W) (hb : Below W.heap.size W W') : Below w4.heap.size w4 W' ∧ C W' :=
  have B := h.1.trans (hb.mono h.1.size)
  ⟨B, HF.out _ B⟩
theorem heldD {w4 : World} {C : World → Prop} (HF : Hid (∀ W, Below w4.heap.size w4 W → C W)) {W : World} (h : Below w4.heap.size w4 W ∧ C W) : Below w4.heap.size w4 W.drew ∧ C W.drew :=
  ⟨h.1.drew, HF.out _ h.1.drew⟩
theorem held0 {w4 : World} {C : World → Prop} (HF : Hid (∀ W, Below w4.heap.size w4 W → C W)) : Below w4.heap.size w4 w4.drew ∧ C w4.drew :=
  ⟨(Below.refl _ _).drew, HF.out _ (Below.refl _ _).drew⟩
theorem held1 {w4 : World} {C : World → Prop} (HF : Hid (∀ W, Below w4.heap.size w4 W → C W)) {W : World} (h : Below w4.heap.size w4 W) : Below w4.heap.size w4 W.drew ∧ C W.drew :=
  ⟨h.drew, HF.out _ h.drew⟩
theorem within_all {l : List Int} {r : Int} (h : withinB l r = true) : ∀ j (h : j < l.length), 0 ≤ l[j] ∧ l[j] < r := fun j hj => by
  unfold withinB at h
  rw [List.all_eq_true] at h
  have := h _ (List.getElem_mem hj)
  simpa using this
def spareI (m : Int) (many : Bool) : Bool := (m == 0) || (decide (0 < m) && many && decide (m ≤ 12))
theorem spare_7 (T : Ty) (s : Nat) : spareB T s = spareI ((s : Int) - (parW T : Int)) T.many := by
  unfold spareB spareI
  have e1 : ((s : Int) - (parW T : Int) == 0) = (s == parW T) := by rw [Bool.eq_iff_iff]; simp; omega
  have e2 : decide (0 < (s : Int) - (parW T : Int)) = decide (parW T < s) := by rw [decide_eq_decide]; omega
  have e3 : decide ((s : Int) - (parW T : Int) ≤ 12) = decide (s ≤ parW T + 12) := by rw [decide_eq_decide]; omega
  rw [e1, e2, e3]
theorem spare_8 (T : Ty) (s : Nat) : (decide (1 ≤ s) && spareB T (s - 1)) = spareI ((s : Int) - (parW T : Int) - 1) T.many := by
  rcases Nat.eq_zero_or_pos s with h | h
  · subst h
    unfold spareI
    have e1 : (((0 : Nat) : Int) - (parW T : Int) - 1 == 0) = false := by rw [beq_eq_false_iff_ne]; omega
    have e2 : decide (0 < ((0 : Nat) : Int) - (parW T : Int) - 1) = false := by rw [decide_eq_false_iff_not]; omega
    rw [e1, e2]; rfl
  · have e : ((s - 1 : Nat) : Int) = (s : Int) - 1 := by omega
    have h1 : decide (1 ≤ s) = true := by rw [decide_eq_true_eq]; exact h
    rw [h1, spare_7, e, Bool.true_and]
    congr 1
    omega
end Go.Proofs.Ytkkjkbljgaipcaa
