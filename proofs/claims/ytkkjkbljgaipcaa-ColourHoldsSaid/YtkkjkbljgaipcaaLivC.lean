/- Rows of rows of one's own; who leads where. -/
import Derived.Test.YtkkjkbljgaipcaaLivB
namespace Go.Proofs.Ytkkjkbljgaipcaa
open Go.RowKit
set_option linter.unusedVariables false
set_option linter.unusedSimpArgs false
set_option maxRecDepth 100000
set_option maxHeartbeats 4000000
/-- rows of numbers, each in a block of its own -/
def RowsAt (w : World) (base : Nat) (vs : List Value) (xss : List (List Int)) : Prop :=
  vs.length = xss.length ∧ (∀ j (h : j < vs.length) (h' : j < xss.length), w.ownsRow base 3 1 vs[j] xss[j].length (xss[j].map i64)) ∧ ∀ i j (hi : i < vs.length) (hj : j < vs.length), i ≠ j → vs[i].ownBlock = none ∨ vs[i].ownBlock ≠ vs[j].ownBlock
theorem RowsAt.none_ (w : World) (base n : Nat) : RowsAt w base (List.replicate n (.slice none 0 0)) (List.replicate n []) := by
  refine ⟨by simp, fun j h h' => ?_, fun i j hi hj _ => ?_⟩
  · rw [List.getElem_replicate, List.getElem_replicate]
    exact World.ownsRow_nil _ _ _ _
  · rw [List.getElem_replicate]
    exact .inl rfl
theorem RowsAt.kept {w w' : World} {base : Nat} {vs : List Value} {xss : List (List Int)} {row : Option Nat} (h : RowsAt w base vs xss) (hg : w.grownBy w' row) (hne : ∀ j (h : j < vs.length), vs[j].ownBlock = none ∨ vs[j].ownBlock ≠ row) : RowsAt w' base vs xss :=
  ⟨h.1, fun j hj hj' => (h.2.1 j hj hj').kept hg (hne j hj), h.2.2⟩
theorem RowsAt.below {w w' : World} {base : Nat} {vs : List Value} {xss : List (List Int)} (h : RowsAt w base vs xss) (hb : Below w.heap.size w w') : RowsAt w' base vs xss :=
  h.kept (grow_below' hb none) (fun j hj => by cases h : vs[j].ownBlock <;> simp)
theorem RowsAt.put {w w' : World} {base k : Nat} {vs : List Value} {xss : List (List Int)} {v' : Value} {x : Int} (h : RowsAt w base vs xss) (hk : k < vs.length) (hk' : k < xss.length) (hown : w'.ownsRow base 3 1 v' (xss[k].length + 1) (xss[k].map i64 ++ [i64 x]))
    (hg : w.grownBy w' vs[k].ownBlock) (hat : v'.ownBlock = vs[k].ownBlock ∨ ∃ g, v'.ownBlock = some g ∧ w.heap.size ≤ g) : RowsAt w' base (vs.set k v') (xss.set k (xss[k] ++ [x])) := by
  have hlt : ∀ j (hj : j < vs.length) g, vs[j].ownBlock = some g → g < w.heap.size := fun j hj g hg' => ((h.2.1 j hj (by rw [← h.1]; exact hj)).lt g hg').2
  refine ⟨by simp [h.1], fun j hj hj' => ?_, fun i j hi hj hne => ?_⟩
  · rw [List.getElem_set, List.getElem_set]
    by_cases e : k = j
    · subst e
      rw [if_pos rfl, if_pos rfl]
      simpa using hown
    · rw [if_neg e, if_neg e]
      simp only [List.length_set] at hj hj'
      exact (h.2.1 j hj hj').kept hg (h.2.2 j k hj hk (Ne.symm e))
  · simp only [List.length_set] at hi hj
    rw [List.getElem_set, List.getElem_set]
    by_cases e1 : k = i
    · subst e1
      rw [if_pos rfl, if_neg hne]
      rcases hat with hat | ⟨g, hat, hge⟩
      · rw [hat]
        exact h.2.2 k j hk hj hne
      · rw [hat]
        refine .inr fun e => ?_
        have := hlt j hj g e.symm
        omega
    · rw [if_neg e1]
      by_cases e2 : k = j
      · subst e2
        rw [if_pos rfl]
        rcases hat with hat | ⟨g, hat, hge⟩
        · rw [hat]
          exact h.2.2 i k hi hk hne
        · rw [hat]
          refine .inr fun e => ?_
          have := hlt i hi g e
          omega
      · rw [if_neg e2]
        exact h.2.2 i j hi hj hne
/-! who leads to an order -/
def leadsAt (code : List Or) (j : Nat) : List Int := match code[j]? with
  | some o => leadsL o j
  | none => []
theorem leadsAt_eq {code : List Or} {j : Nat} (h : j < code.length) : leadsAt code j = leadsL code[j] j := by
  unfold leadsAt; rw [List.getElem?_eq_getElem h]
theorem leadsL_len (o : Or) (j : Nat) : (leadsL o j).length ≤ 2 := by
  unfold leadsL
  split
  · simp
  · split
    · simp
    · split <;> simp
/-- row k of xss: the orders ahead of i that lead to k, and i itself, if k is among the first m that it leads to -/
def PreOk (code : List Or) (xss : List (List Int)) (i m : Nat) : Prop := ∀ k, k < xss.length → (∀ x, x ∈ xss.getD k [] ↔ (∃ j : Nat, j < i ∧ x = (j : Int) ∧ (k : Int) ∈ leadsAt code j) ∨ (x = (i : Int) ∧ (k : Int) ∈ (leadsAt code i).take m)) ∧ (xss.getD k []).length ≤ 2 * i + m
theorem PreOk.start (code : List Or) (n : Nat) : PreOk code (List.replicate n []) 0 0 := fun k hk => by
  have : (List.replicate n ([] : List Int)).getD k [] = [] := by
    rw [List.getD_eq_getElem?_getD, List.getElem?_eq_getElem hk, List.getElem_replicate]; rfl
  rw [this]
  exact ⟨fun x => by simp, by simp⟩
theorem PreOk.step {code : List Or} {xss : List (List Int)} {i m k : Nat} (h : PreOk code xss i m) (hk : k < xss.length) (hm : m < (leadsAt code i).length) (hx : (leadsAt code i)[m] = (k : Int)) : PreOk code (xss.set k (xss.getD k [] ++ [(i : Int)])) i (m + 1) := fun j hj => by
  rw [List.length_set] at hj
  have hg : ∀ l, (xss.set k l).getD j [] = if k = j then l else xss.getD j [] := fun l => by
    rw [List.getD_eq_getElem?_getD, List.getD_eq_getElem?_getD, List.getElem?_set]
    split
    · rename_i e
      subst e
      simp [hk]
    · rfl
  rw [hg, List.take_succ_eq_append_getElem hm, hx]
  obtain ⟨h1, h2⟩ := h j hj
  split
  · rename_i e
    subst e
    refine ⟨fun x => ?_, by rw [List.length_append, List.length_singleton]; omega⟩
    rw [List.mem_append, h1 x]
    simp only [List.mem_append, List.mem_singleton]
    constructor
    · rintro ((h | ⟨h, h'⟩) | h)
      · exact .inl h
      · exact .inr ⟨h, .inl h'⟩
      · exact .inr ⟨h, .inr (by first | rfl | trivial)⟩
    · rintro (h | ⟨h, h' | h'⟩)
      · exact .inl (.inl h)
      · exact .inl (.inr ⟨h, h'⟩)
      · exact .inr h
  · rename_i e
    refine ⟨fun x => ?_, by omega⟩
    rw [h1 x]
    simp only [List.mem_append, List.mem_singleton]
    constructor
    · rintro (h | ⟨h, h'⟩)
      · exact .inl h
      · exact .inr ⟨h, .inl h'⟩
    · rintro (h | ⟨h, h' | h'⟩)
      · exact .inl h
      · exact .inr ⟨h, h'⟩
      · exact absurd h' (by omega)
theorem PreOk.next {code : List Or} {xss : List (List Int)} {i : Nat} (h : PreOk code xss i (leadsAt code i).length) (hi : i < code.length) : PreOk code xss (i + 1) 0 := fun k hk => by
  obtain ⟨h1, h2⟩ := h k hk
  have hl := leadsL_len code[i] i
  rw [← leadsAt_eq hi] at hl
  refine ⟨fun x => ?_, by omega⟩
  rw [h1 x, List.take_length]
  simp only [List.take_zero, List.not_mem_nil, and_false, or_false]
  constructor
  · rintro (⟨j, hj, h⟩ | ⟨rfl, h⟩)
    · exact ⟨j, by omega, h⟩
    · exact ⟨i, by omega, rfl, h⟩
  · rintro ⟨j, hj, rfl, h3⟩
    by_cases e : j = i
    · subst e; exact .inr ⟨rfl, h3⟩
    · exact .inl ⟨j, by omega, rfl, h3⟩
theorem PreOk.all {code : List Or} {xss : List (List Int)} (h : PreOk code xss code.length 0) {k : Nat} (hk : k < xss.length) (x : Int) : x ∈ xss[k] ↔ ∃ j, ∃ hj : j < code.length, x = (j : Int) ∧ (k : Int) ∈ leadsL code[j] j := by
  have h1 := (h k hk).1 x
  rw [List.getD_eq_getElem?_getD, List.getElem?_eq_getElem hk] at h1
  simp only [Option.getD_some, List.take_zero, List.not_mem_nil, and_false, or_false] at h1
  rw [h1]
  constructor
  · rintro ⟨j, hj, rfl, h⟩
    exact ⟨j, hj, rfl, by rw [← leadsAt_eq hj]; exact h⟩
  · rintro ⟨j, hj, rfl, h⟩
    exact ⟨j, hj, rfl, by rw [leadsAt_eq hj]; exact h⟩
/-- the length of a row of those that lead to an order -/
theorem PreOk.len {code : List Or} {xss : List (List Int)} {i m k : Nat} (h : PreOk code xss i m) (hk : k < xss.length) : xss[k].length ≤ 2 * i + m := by
  have h1 := (h k hk).2
  rw [List.getD_eq_getElem?_getD, List.getElem?_eq_getElem hk] at h1
  exact h1
/-- a row of one's own but for its last -/
theorem own_pop {w : World} {base : Nat} {e : TypeId} {size n cap : Nat} {A : Option Addr} {xs ys : List Value} (h : w.ownsRow base e size (.slice A (n + 1) cap) (n + 1) (xs ++ ys)) (hx : xs.length = n * size) : w.ownsRow base e size (.slice A n cap) n xs := by
  obtain ⟨hl, h | ⟨g, cap', cur, hv, hb, hg, hc, hm, hs, ht⟩⟩ := h
  · exact absurd h.2 (by omega)
  · simp only [Value.slice.injEq, true_and] at hv
    obtain ⟨rfl, rfl⟩ := hv
    refine ⟨hx, .inr ⟨g, cap, cur, rfl, hb, hg, by omega, hm, hs, ?_⟩⟩
    have e : cur.toList.take (n * size) = (cur.toList.take ((n + 1) * size)).take (n * size) := by
      rw [List.take_take]
      congr 1
      rw [Nat.min_eq_left]
      exact Nat.mul_le_mul_right _ (by omega)
    rw [e, ht, ← hx, List.take_left]
end Go.Proofs.Ytkkjkbljgaipcaa
