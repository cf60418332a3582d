/- The contract of moves.may: it tells the same fault as the reference's Check. -/
import Derived.Test.YtffhfcddlhdicaaMovD
import Derived.Test.YtffhfcddlhdicaaMap
namespace Go.Proofs.Ytffhfcddlhdicaa
open Go.RowKit
open Go.Maps (Keyed)
set_option linter.unusedVariables false
set_option linter.unusedSimpArgs false
set_option maxRecDepth 100000
theorem laid : laidOutB Try.prog = true := by kernel_rfl
theorem loc_keyed : Keyed Try.prog 41 := Keyed.of_law (deep_law_gate laid (of_decide_eq_true (by kernel_rfl)) (of_decide_eq_true (by kernel_rfl)) (by kernel_rfl) (by kernel_rfl))
theorem loc_type : Try.prog.keyType 41 = true := by kernel_rfl
theorem loc_cells : Try.prog.cellsOf 41 = 2 := by kernel_rfl
theorem int_cells : Try.prog.cellsOf 3 = 1 := by kernel_rfl
theorem bool_cells : Try.prog.cellsOf 4 = 1 := by kernel_rfl
theorem lits_bool (d : Nat) (s : Bool) : Try.prog.keyLits (d + 1) 4 [.bool s] = some [.bool s] := by
  simp only [Program.keyLits, Try.underlying4]
theorem lits_int (d : Nat) (n : Int) (hw : (Lit.int .i64 n).wf = true) : Try.prog.keyLits (d + 1) 3 [.int .i64 n] = some [.int .i64 n] := by
  simp only [Program.keyLits, Try.underlying3, hw, and_self, if_true]
theorem lits_loc (d : Nat) (s : Bool) (n : Int) (hw : (Lit.int .i64 n).wf = true) : Try.prog.keyLits (d + 2) 41 [.bool s, .int .i64 n] = some [.bool s, .int .i64 n] := by
  unfold Program.keyLits
  simp only [Try.underlying41, loc_cells]
  simp [lits_bool, lits_int _ _ hw, int_cells, bool_cells]
theorem keyOf_loc (s : Bool) (n : Int) (h0 : 0 ≤ n) (h : n ≤ 999) : ∃ l, keyOf Try.prog 41 (.agg #[.bool s, .int .i64 n]) = some l := by
  have hw : (Lit.int .i64 n).wf = true := WalkArith.wf_i64 (by omega)
  have hs : Try.prog.types.size + 1 = (Try.prog.types.size - 1) + 2 := by
    have h : 1 ≤ Try.prog.types.size := of_decide_eq_true (by kernel_rfl)
    omega
  have hf : Value.formed Try.prog 41 (.agg #[.bool s, .int .i64 n]) = true := by
    unfold Value.formed
    simp only [Try.underlying41, loc_cells]
    rfl
  unfold keyOf
  simp only [Try.underlying41, loc_type, hf]
  rw [hs]
  simp only [Value.cells, lits_loc _ s n hw]
  exact ⟨_, rfl⟩
attribute [local go_sem ↓] eq_loc ne_loc Go.wp_at_zero Go.wp_at_succ
def lv (p : Pl) : Value := .agg #[.bool p.s, .int .i64 p.n]
theorem lv_inj {p q : Pl} (h : lv p = lv q) : p = q := by
  obtain ⟨a, b⟩ := p
  obtain ⟨c, d⟩ := q
  simpa [lv] using h
noncomputable def seenF (l : List (Pl × Pl)) : Value → Option Value := l.foldl (fun g m => gput g (lv m.2) (.bool true)) (fun _ => none)
theorem seenF_snoc (l : List (Pl × Pl)) (m : Pl × Pl) : seenF (l ++ [m]) = gput (seenF l) (lv m.2) (.bool true) := by
  unfold seenF; rw [List.foldl_append]; rfl
def isIn (l : List (Pl × Pl)) (p : Pl) : Bool := decide (p ∈ l.map (·.2))
theorem seenF_get (l : List (Pl × Pl)) (p : Pl) : seenF l.reverse (lv p) = if isIn l.reverse p then some (.bool true) else none := by
  induction l with
  | nil => rfl
  | cons m l ih =>
    rw [List.reverse_cons, seenF_snoc]
    by_cases h : p = m.2
    · subst h
      rw [gput_same, if_pos (by simp [isIn])]
    · rw [gput_other _ _ _ _ (fun e => h (lv_inj e)), ih]
      have : isIn (l.reverse ++ [m]) p = isIn l.reverse p := by
        unfold isIn
        rw [decide_eq_decide, List.map_append, List.mem_append]
        simp [h]
      rw [this]
theorem seen_get (l : List (Pl × Pl)) (p : Pl) : (seenF l (lv p)).getD (.bool false) = .bool (isIn l p) := by
  have := seenF_get l.reverse p
  rw [List.reverse_reverse] at this
  rw [this]
  cases isIn l p <;> rfl
def twB (l : List (Pl × Pl)) : Nat → Bool
  | 0 => false
  | k + 1 => twB l k || (match l[k]? with
    | some m => isIn (l.take k) m.2
    | none => false)
theorem twB_succ (l : List (Pl × Pl)) (k : Nat) (hk : k < l.length) : twB l (k + 1) = (twB l k || isIn (l.take k) l[k].2) := by
  rw [twB, List.getElem?_eq_getElem hk]
def usB (l : List (Pl × Pl)) (t : Pl) : Nat → Bool
  | 0 => false
  | k + 1 => usB l t k || (match l[k]? with
    | some m => leq m.1.s m.1.n t.s t.n || leq m.2.s m.2.n t.s t.n
    | none => false)
theorem usB_succ (l : List (Pl × Pl)) (t : Pl) (k : Nat) (hk : k < l.length) : usB l t (k + 1) = (usB l t k || (leq l[k].1.s l[k].1.n t.s t.n || leq l[k].2.s l[k].2.n t.s t.n)) := by
  rw [usB, List.getElem?_eq_getElem hk]
theorem twB_iff (l : List (Pl × Pl)) (k : Nat) (hk : k ≤ l.length) : twB l k = true ↔ ∃ i j, ∃ h : i < l.length, ∃ h' : j < i, i < k ∧ l[j].2 = l[i].2 := by
  induction k with
  | zero => simp [twB]
  | succ k ih =>
    rw [twB_succ l k (by omega), Bool.or_eq_true, ih (by omega)]
    have hin : isIn (l.take k) l[k].2 = true ↔ ∃ j, ∃ h' : j < k, l[j].2 = l[k].2 := by
      unfold isIn
      rw [decide_eq_true_eq, List.mem_map]
      constructor
      · rintro ⟨m, hm, he⟩
        obtain ⟨j, hj, rfl⟩ := List.mem_iff_getElem.1 hm
        rw [List.length_take] at hj
        exact ⟨j, by omega, by rw [← he, List.getElem_take]⟩
      · rintro ⟨j, hj, he⟩
        exact ⟨l[j], List.mem_iff_getElem.2 ⟨j, by rw [List.length_take]; omega, by rw [List.getElem_take]⟩, he⟩
    rw [hin]
    constructor
    · rintro (⟨i, j, h, h', hlt, he⟩ | ⟨j, hj, he⟩)
      · exact ⟨i, j, h, h', by omega, he⟩
      · exact ⟨k, j, by omega, hj, by omega, he⟩
    · rintro ⟨i, j, h, h', hlt, he⟩
      by_cases e : i = k
      · subst e; exact .inr ⟨j, h', he⟩
      · exact .inl ⟨i, j, h, h', by omega, he⟩
theorem twB_all (l : List (Pl × Pl)) : twB l l.length = true ↔ twice l := by
  rw [twB_iff l _ (Nat.le_refl _)]
  constructor
  · rintro ⟨i, j, h, h', _, he⟩; exact ⟨i, j, h, h', he⟩
  · rintro ⟨i, j, h, h', he⟩; exact ⟨i, j, h, h', h, he⟩
theorem usB_iff (l : List (Pl × Pl)) (t : Pl) (k : Nat) (hk : k ≤ l.length) : usB l t k = true ↔ ∃ j, ∃ h : j < l.length, j < k ∧ (l[j].1 = t ∨ l[j].2 = t) := by
  induction k with
  | zero => simp [usB]
  | succ k ih =>
    rw [usB_succ l t k (by omega), Bool.or_eq_true, Bool.or_eq_true, leq_iff, leq_iff, ih (by omega)]
    constructor
    · rintro (⟨j, h, hlt, he⟩ | he)
      · exact ⟨j, h, by omega, he⟩
      · exact ⟨k, by omega, by omega, he⟩
    · rintro ⟨j, h, hlt, he⟩
      by_cases e : j = k
      · subst e; exact .inr he
      · exact .inl ⟨j, h, by omega, he⟩
theorem usB_all (l : List (Pl × Pl)) (t : Pl) : usB l t l.length = true ↔ usedT l t := by
  rw [usB_iff l t _ (Nat.le_refl _)]
  constructor
  · rintro ⟨j, h, _, he⟩; exact ⟨j, h, he⟩
  · rintro ⟨j, h, he⟩; exact ⟨j, h, h, he⟩
end Go.Proofs.Ytffhfcddlhdicaa
