/- The plain law of a row of moves: taking out a move whose end nobody asks for, and keeping aside what lies at an end where all go round, keeps what is wanted; and how many moves that takes. -/
import Derived.Test.YtffhfcddlhdicaaMovG
namespace Go.Proofs.Ytffhfcddlhdicaa
set_option linter.unusedVariables false
/-- those that move anything -/
def leftK0 (l : List (Pl × Pl)) : List (Pl × Pl) := l.filter fun m => !decide (m.1 = m.2)
/-- done one by one -/
def sig (out : List (Pl × Pl)) (p : Pl) : Pl := atL (rowL out) p
/-- done at once -/
def want (l : List (Pl × Pl)) (p : Pl) : Pl := atL (l.map fun m => (m.2, m.1)) p
theorem sig_snoc (out : List (Pl × Pl)) (m : Pl × Pl) (p : Pl) : sig (out ++ [m]) p = if m.2 = p then sig out m.1 else sig out p := by
  unfold sig
  rw [rowL_snoc, atL_snoc]
def tos (l : List (Pl × Pl)) : List Pl := l.map (·.2)
def froms (l : List (Pl × Pl)) : List Pl := l.map (·.1)
def phase (t : Pl) (left : List (Pl × Pl)) (k r : Nat) : Prop :=
  (t ∉ froms left ∧ 2 * k ≤ r) ∨ (t ∈ froms left ∧ 2 * k ≤ r + 1) ∨ (t ∈ froms left ∧ 2 * k ≤ r + 2 ∧ ∀ m ∈ left, m.2 ∉ froms left → m.1 ≠ t)
structure Inv (l : List (Pl × Pl)) (t : Pl) (n0 : Nat) (left out : List (Pl × Pl)) : Prop where
  nodup : (tos left).Nodup
  noT : t ∉ tos left
  ne : ∀ m ∈ left, m.1 ≠ m.2
  done : ∀ p, p ≠ t → p ∉ tos left → sig out p = want l p
  still : ∀ p, p ≠ t → p ∈ tos left → sig out p = p
  goal : ∀ m ∈ left, sig out m.1 = want l m.2
  count : ∃ k r, out.length = r + k ∧ r + left.length = n0 ∧ phase t left k r
theorem asked_iff (l : List (Pl × Pl)) (p : Pl) : askedB l p = true ↔ p ∈ froms l := by
  unfold askedB froms
  rw [List.any_eq_true, List.mem_map]
  simp
theorem mem_tos {l : List (Pl × Pl)} {m : Pl × Pl} (h : m ∈ l) : m.2 ∈ tos l := List.mem_map.2 ⟨m, h, rfl⟩
theorem mem_froms {l : List (Pl × Pl)} {m : Pl × Pl} (h : m ∈ l) : m.1 ∈ froms l := List.mem_map.2 ⟨m, h, rfl⟩
theorem erase_facts (left : List (Pl × Pl)) (i : Nat) (hi : i < left.length) (hn : (tos left).Nodup) :
    (tos (left.eraseIdx i)).Nodup ∧ (∀ m ∈ left.eraseIdx i, m ∈ left) ∧ (∀ p, p ∈ tos (left.eraseIdx i) ↔ p ∈ tos left ∧ p ≠ left[i].2) ∧ (∀ p, p ∈ froms left → p ≠ left[i].1 → p ∈ froms (left.eraseIdx i)) := by
  have hsp : left = left.take i ++ left[i] :: left.drop (i + 1) := by rw [List.getElem_cons_drop hi, List.take_append_drop]
  have he : left.eraseIdx i = left.take i ++ left.drop (i + 1) := List.eraseIdx_eq_take_drop_succ left i
  generalize left[i] = m at *
  generalize left.take i = a at *
  generalize left.drop (i + 1) = b at *
  rw [he]
  subst hsp
  unfold tos froms at *
  rw [List.map_append, List.map_cons, List.nodup_append] at hn
  obtain ⟨n1, n2, n3⟩ := hn
  rw [List.nodup_cons] at n2
  refine ⟨?_, ?_, ?_, ?_⟩
  · rw [List.map_append, List.nodup_append]
    exact ⟨n1, n2.2, fun x hx y hy => n3 x hx y (List.mem_cons_of_mem _ hy)⟩
  · intro x hx
    rw [List.mem_append] at *
    exact hx.imp id (List.mem_cons_of_mem _)
  · intro p
    simp only [List.map_append, List.map_cons, List.mem_append, List.mem_cons]
    constructor
    · rintro (h | h)
      · exact ⟨.inl h, n3 p h m.2 List.mem_cons_self⟩
      · exact ⟨.inr (.inr h), fun e => n2.1 (e ▸ h)⟩
    · rintro ⟨h | h | h, hne⟩
      · exact .inl h
      · exact absurd h hne
      · exact .inr h
  · intro p hp hne
    simp only [List.map_append, List.map_cons, List.mem_append, List.mem_cons] at *
    rcases hp with h | h | h
    · exact .inl h
    · exact absurd h hne
    · exact .inr h
theorem inv_take {l : List (Pl × Pl)} {t : Pl} {n0 : Nat} {left out : List (Pl × Pl)} (h : Inv l t n0 left out) (i : Nat) (hi : i < left.length) (hu : left[i].2 ∉ froms left) :
    Inv l t n0 (left.eraseIdx i) (out ++ [left[i]]) := by
  obtain ⟨e1, e2, e3, e4⟩ := erase_facts left i hi h.nodup
  have hm : left[i] ∈ left := List.getElem_mem hi
  have hlen := List.length_eraseIdx_of_lt hi
  generalize left[i] = m at *
  have hmt : m.2 ≠ t := fun e => h.noT (e ▸ mem_tos hm)
  refine ⟨e1, fun ht => h.noT ((e3 t).1 ht).1, fun x hx => h.ne x (e2 x hx), fun p hp hn => ?_, fun p hp hn => ?_, fun x hx => ?_, ?_⟩
  · rw [sig_snoc]
    by_cases he : m.2 = p
    · rw [if_pos he, h.goal m hm, he]
    · rw [if_neg he]
      exact h.done p hp (fun hq => hn ((e3 p).2 ⟨hq, fun e => he e.symm⟩))
  · obtain ⟨h1, h2⟩ := (e3 p).1 hn
    rw [sig_snoc, if_neg (fun e => h2 e.symm)]
    exact h.still p hp h1
  · rw [sig_snoc, if_neg (fun e => hu ((show m.2 = x.1 from e) ▸ mem_froms (e2 x hx)))]
    exact h.goal x (e2 x hx)
  · obtain ⟨k, r, c1, c2, c3⟩ := h.count
    refine ⟨k, r + 1, by simp; omega, by rw [hlen]; omega, ?_⟩
    rcases c3 with ⟨p1, p2⟩ | ⟨p1, p2⟩ | ⟨p1, p2, p3⟩
    · refine .inl ⟨fun ht => p1 ?_, by omega⟩
      obtain ⟨x, hx, rfl⟩ := List.mem_map.1 ht
      exact mem_froms (e2 x hx)
    · by_cases ht : t ∈ froms (left.eraseIdx i)
      · exact .inr (.inl ⟨ht, by omega⟩)
      · exact .inl ⟨ht, by omega⟩
    · exact .inr (.inl ⟨e4 t p1 (fun e => p3 m hm hu e.symm), by omega⟩)
theorem all_asked {t : Pl} {left : List (Pl × Pl)} (hn : (tos left).Nodup) (ht : t ∉ tos left) (ha : ∀ m ∈ left, m.2 ∈ froms left) : t ∉ froms left := fun hf => by
  have h1 : (t :: tos left).Nodup := List.nodup_cons.2 ⟨ht, hn⟩
  have h2 : (t :: tos left) ⊆ froms left := by
    intro x hx
    rcases List.mem_cons.1 hx with rfl | hx
    · exact hf
    · obtain ⟨m, hm, rfl⟩ := List.mem_map.1 hx
      exact ha m hm
  have h3 := h1.length_le_of_subset h2
  simp [tos, froms] at h3
  omega
/-- what was to come from a place comes from t -/
def subst1 (held t : Pl) (m : Pl × Pl) : Pl × Pl := if m.1 = held then (t, m.2) else m
def substL (held t : Pl) (l : List (Pl × Pl)) : List (Pl × Pl) := l.map (subst1 held t)
theorem subst1_2 (held t : Pl) (m : Pl × Pl) : (subst1 held t m).2 = m.2 := by unfold subst1; split <;> rfl
theorem tos_subst (held t : Pl) (l : List (Pl × Pl)) : tos (substL held t l) = tos l := by
  unfold tos substL
  rw [List.map_map]
  congr 1
  funext m
  exact subst1_2 held t m
theorem inv_break {l : List (Pl × Pl)} {t : Pl} {n0 : Nat} {left out : List (Pl × Pl)} (h : Inv l t n0 left out) (hl : 0 < left.length) (ha : ∀ m ∈ left, m.2 ∈ froms left) :
    Inv l t n0 (substL left[0].2 t left) (out ++ [(left[0].2, t)]) ∧ t ∉ froms left ∧ t ∈ froms (substL left[0].2 t left) := by
  have hm0 : left[0] ∈ left := List.getElem_mem hl
  have htf := all_asked h.nodup h.noT ha
  generalize left[0] = m0 at *
  have hht : m0.2 ≠ t := fun e => h.noT (e ▸ mem_tos hm0)
  have htf' : t ∈ froms (substL m0.2 t left) := by
    obtain ⟨x, hx, hxe⟩ := List.mem_map.1 (ha m0 hm0)
    refine List.mem_map.2 ⟨subst1 m0.2 t x, List.mem_map.2 ⟨x, hx, rfl⟩, ?_⟩
    unfold subst1
    rw [if_pos hxe]
  refine ⟨⟨by rw [tos_subst]; exact h.nodup, by rw [tos_subst]; exact h.noT, ?_, fun p hp hn => ?_, fun p hp hn => ?_, ?_, ?_⟩, htf, htf'⟩
  · intro x hx
    obtain ⟨m, hm, rfl⟩ := List.mem_map.1 hx
    unfold subst1
    split
    · exact fun e => h.noT (show t ∈ tos left from (show t = m.2 from e) ▸ mem_tos hm)
    · exact h.ne m hm
  · rw [sig_snoc, if_neg (fun e => hp e.symm)]
    rw [tos_subst] at hn
    exact h.done p hp hn
  · rw [sig_snoc, if_neg (fun e => hp e.symm)]
    rw [tos_subst] at hn
    exact h.still p hp hn
  · intro x hx
    obtain ⟨m, hm, rfl⟩ := List.mem_map.1 hx
    rw [sig_snoc]
    by_cases he : m.1 = m0.2
    · have hs : subst1 m0.2 t m = (t, m.2) := by unfold subst1; rw [if_pos he]
      rw [hs, if_pos rfl]
      show sig out m0.2 = _
      rw [← he]
      exact h.goal m hm
    · have hs : subst1 m0.2 t m = m := by unfold subst1; rw [if_neg he]
      rw [hs, if_neg (fun e => htf ((show t = m.1 from e) ▸ mem_froms hm))]
      exact h.goal m hm
  · obtain ⟨k, r, c1, c2, c3⟩ := h.count
    have hk : 2 * k ≤ r := by
      rcases c3 with ⟨_, p⟩ | ⟨p, _⟩ | ⟨p, _⟩
      · exact p
      · exact absurd p htf
      · exact absurd p htf
    refine ⟨k + 1, r, by simp; omega, by simp [substL]; omega, .inr (.inr ⟨htf', by omega, ?_⟩)⟩
    intro x hx hnx hxt
    obtain ⟨m, hm, rfl⟩ := List.mem_map.1 hx
    rw [subst1_2] at hnx
    by_cases he : m.1 = m0.2
    · -- its From was the held one: then its To is another place, and asked for
      have hne : m.2 ≠ m0.2 := fun e => h.ne m hm (he.trans e.symm)
      obtain ⟨y, hy, hye⟩ := List.mem_map.1 (ha m hm)
      apply hnx
      refine List.mem_map.2 ⟨subst1 m0.2 t y, List.mem_map.2 ⟨y, hy, rfl⟩, ?_⟩
      unfold subst1
      rw [if_neg (fun e => hne (hye.symm.trans e))]
      exact hye
    · have hs : subst1 m0.2 t m = m := by unfold subst1; rw [if_neg he]
      rw [hs] at hxt
      exact htf (hxt ▸ mem_froms hm)
open Classical in
noncomputable def meas (t : Pl) (left : List (Pl × Pl)) : Nat := 2 * left.length + (if t ∈ froms left then 0 else 1)
theorem meas_take (t : Pl) (left : List (Pl × Pl)) (i : Nat) (hi : i < left.length) : meas t (left.eraseIdx i) < meas t left := by
  unfold meas
  rw [List.length_eraseIdx_of_lt hi]
  split <;> split <;> omega
theorem meas_break (t held : Pl) (left : List (Pl × Pl)) (h1 : t ∉ froms left) (h2 : t ∈ froms (substL held t left)) : meas t (substL held t left) < meas t left := by
  unfold meas
  rw [if_pos h2, if_neg h1]
  simp [substL]
theorem inv_end {l : List (Pl × Pl)} {t : Pl} {n0 : Nat} {out : List (Pl × Pl)} (h : Inv l t n0 [] out) (hn : n0 ≤ l.length) : out.length ≤ l.length + l.length / 2 ∧ ∀ p, p ≠ t → sig out p = want l p := by
  refine ⟨?_, fun p hp => h.done p hp (by simp [tos])⟩
  obtain ⟨k, r, c1, c2, c3⟩ := h.count
  simp at c2
  have hk : 2 * k ≤ r := by
    rcases c3 with ⟨_, p⟩ | ⟨p, _⟩ | ⟨p, _⟩
    · exact p
    · simp [froms] at p
    · simp [froms] at p
  omega
theorem atL_none (hs : List (Pl × Pl)) (p : Pl) (h : p ∉ froms hs) : atL hs p = p := by
  unfold atL
  have : hs.reverse.find? (fun h => decide (h.1 = p)) = none := by
    rw [List.find?_eq_none]
    intro x hx
    rw [List.mem_reverse] at hx
    simp only [decide_eq_true_eq]
    exact fun e => h (e ▸ mem_froms hx)
  rw [this]
theorem atL_some (hs : List (Pl × Pl)) (m : Pl × Pl) (hn : (froms hs).Nodup) (hm : m ∈ hs) : atL hs m.1 = m.2 := by
  unfold atL
  cases hf : hs.reverse.find? (fun h => decide (h.1 = m.1)) with
  | none =>
    rw [List.find?_eq_none] at hf
    exact absurd (hf m (List.mem_reverse.2 hm)) (by simp)
  | some x =>
    have hx := List.mem_reverse.1 (List.mem_of_find?_eq_some hf)
    have he := List.find?_some hf
    simp only [decide_eq_true_eq] at he
    obtain ⟨i, hi, rfl⟩ := List.mem_iff_getElem.1 hx
    obtain ⟨j, hj, rfl⟩ := List.mem_iff_getElem.1 hm
    have hp := List.pairwise_iff_getElem.1 hn
    simp only [froms, List.length_map, List.getElem_map] at hp
    rcases Nat.lt_trichotomy i j with h | h | h
    · exact absurd he (hp i j hi hj h)
    · subst h; rfl
    · exact absurd he.symm (hp j i hj hi h)
theorem froms_swap (l : List (Pl × Pl)) : froms (l.map fun m => (m.2, m.1)) = tos l := by
  unfold froms tos
  rw [List.map_map]
  rfl
theorem chk_zero {l : List (Pl × Pl)} {tmp : Int} (h : chk l tmp = 0) : ¬ 100 < l.length ∧ ¬ bad l ∧ ¬ (tmp < 0 ∨ 15 < tmp) ∧ ¬ twice l ∧ ¬ usedT l ⟨false, tmp⟩ := by
  unfold chk at h
  refine ⟨fun h1 => ?_, fun h2 => ?_, fun h3 => ?_, fun h4 => ?_, fun h5 => ?_⟩
  all_goals (split at h <;> try cases h)
  all_goals (split at h <;> try cases h)
  all_goals (split at h <;> try cases h)
  all_goals (split at h <;> try cases h)
  all_goals (split at h <;> try cases h)
  all_goals contradiction
theorem inv_start {l : List (Pl × Pl)} {tmp : Int} (h : chk l tmp = 0) : Inv l ⟨false, tmp⟩ (leftK0 l).length (leftK0 l) [] := by
  obtain ⟨_, _, _, h4, h5⟩ := chk_zero h
  have hnod : (tos l).Nodup := by
    unfold tos
    rw [List.Nodup, List.pairwise_iff_getElem]
    intro i j hi hj hlt
    exact fun e => h4 ⟨j, i, by simpa using hj, hlt, by simpa using e⟩
  have hsub : (tos (leftK0 l)).Nodup := hnod.sublist (List.Sublist.map _ List.filter_sublist)
  have hmem : ∀ m ∈ leftK0 l, m ∈ l := fun m hm => (List.mem_filter.1 hm).1
  have hnt : (⟨false, tmp⟩ : Pl) ∉ tos l := fun ht => by
    obtain ⟨m, hm, he⟩ := List.mem_map.1 ht
    obtain ⟨j, hj, rfl⟩ := List.mem_iff_getElem.1 hm
    exact h5 ⟨j, hj, .inr he⟩
  have hnf : (⟨false, tmp⟩ : Pl) ∉ froms l := fun ht => by
    obtain ⟨m, hm, he⟩ := List.mem_map.1 ht
    obtain ⟨j, hj, rfl⟩ := List.mem_iff_getElem.1 hm
    exact h5 ⟨j, hj, .inl he⟩
  have hsw : (froms (l.map fun m => (m.2, m.1))).Nodup := by rw [froms_swap]; exact hnod
  refine ⟨hsub, fun ht => hnt ?_, fun m hm => ?_, fun p hp hn => ?_, fun p hp hn => rfl, fun m hm => ?_, ⟨0, 0, rfl, by simp, .inl ⟨fun ht => hnf ?_, by omega⟩⟩⟩
  · obtain ⟨m, hm, he⟩ := List.mem_map.1 ht
    exact he ▸ mem_tos (hmem m hm)
  · have := (List.mem_filter.1 hm).2
    simpa using this
  · show p = want l p
    unfold want
    by_cases hin : p ∈ tos l
    · obtain ⟨m, hm, he⟩ := List.mem_map.1 hin
      have h1 : m.1 = m.2 := by
        by_cases h1 : m.1 = m.2
        · exact h1
        · exact absurd (List.mem_map.2 ⟨m, List.mem_filter.2 ⟨hm, by simpa using h1⟩, he⟩) hn
      have := atL_some (l.map fun m => (m.2, m.1)) (m.2, m.1) hsw (List.mem_map.2 ⟨m, hm, rfl⟩)
      rw [← he]
      exact (this.trans h1).symm
    · rw [atL_none _ _ (by rw [froms_swap]; exact hin)]
  · show m.1 = want l m.2
    exact (atL_some (l.map fun m => (m.2, m.1)) (m.2, m.1) hsw (List.mem_map.2 ⟨m, hmem m hm, rfl⟩)).symm
  · obtain ⟨m, hm, he⟩ := List.mem_map.1 ht
    exact he ▸ mem_froms (hmem m hm)
end Go.Proofs.Ytffhfcddlhdicaa
