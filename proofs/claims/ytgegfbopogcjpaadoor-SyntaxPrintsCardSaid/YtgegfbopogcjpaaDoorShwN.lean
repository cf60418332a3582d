/- Show answers the words as one text; ref6.Print. -/
import Derived.Test.YtgegfbopogcjpaaDoorShwM
import Derived.Test.YtgegfbopogcjpaaDoorSynY
import Derived.Test.YtgegfbopogcjpaaDoorSynT
namespace Go.Proofs.YtgegfbopogcjpaaDoor
open Go.RowKit
set_option linter.unusedVariables false
set_option linter.unusedSimpArgs false
set_option maxRecDepth 100000
set_option maxHeartbeats 1000000
theorem shw_all : ∀ (N : Nat) (n : Nd) (f : Bool), many n ≤ N → isN n f = true → (f = true → n.k = 21 ∨ n.k = 22) → many n ≤ 700 → ShwOk n
  | 0, n, f, h, _, _, _ => absurd h (by have := many_pos n; omega)
  | N + 1, n, f, hN, h, hf, hm => by
    have IH : ∀ m ∈ n.kids, ShwOk m := by
      intro m hmm
      obtain ⟨i, hi, rfl⟩ := List.getElem_of_mem hmm
      obtain ⟨s, hs, -, -, hl⟩ := isN_parts h
      have hk := (isNL_iff n.k n.kids.length n.kids 0).1 hl i hi
      unfold kidT kidB at hk
      rw [Nat.zero_add, Bool.and_eq_true] at hk
      have := many_kid (List.getElem_mem hi)
      refine shw_all N _ _ (by omega) hk.2 (fun e => ?_) (by omega)
      have h1 := hk.1
      rw [decide_eq_true_eq] at e
      simp only [Bool.and_eq_true, Bool.or_eq_true, decide_eq_true_eq, beq_iff_eq] at h1
      omega
    obtain ⟨s, hs, -⟩ := isN_parts h
    have hc : n.k = 1 ∨ n.k = 2 ∨ n.k = 3 ∨ n.k = 4 ∨ n.k = 5 ∨ n.k = 6 ∨ n.k = 7 ∨ n.k = 8 ∨ n.k = 9 ∨ n.k = 10 ∨ n.k = 11 ∨ n.k = 12 ∨ n.k = 13 ∨ n.k = 14 ∨ n.k = 15 ∨ n.k = 16 ∨ n.k = 17 ∨ n.k = 18 ∨ n.k = 19 ∨ n.k = 20 ∨ n.k = 21 ∨ n.k = 22 ∨ n.k = 23 ∨ n.k = 24 ∨ n.k = 25 ∨ n.k = 26 ∨ n.k = 27 ∨ n.k = 28 ∨ n.k = 29 ∨ n.k = 30 ∨ n.k = 31 ∨ n.k = 32 ∨ n.k = 33 ∨ n.k = 34 := by
      refine Classical.byContradiction fun hno => ?_
      unfold shp at hs
      rw [if_neg (by omega), if_neg (by omega), if_neg (by omega), if_neg (by omega), if_neg (by omega), if_neg (by omega), if_neg (by omega), if_neg (by omega), if_neg (by omega), if_neg (by omega), if_neg (by omega), if_neg (by omega), if_neg (by omega), if_neg (by omega), if_neg (by omega), if_neg (by omega), if_neg (by omega)] at hs
      cases hs
    have hff : n.k ≠ 21 → n.k ≠ 22 → isN n false = true := by
      intro a b
      cases f
      · exact h
      · rcases hf rfl with e | e
        · exact absurd e a
        · exact absurd e b
    have hz : n.kids = [] ∨ n.kids ≠ [] := by
      rcases n.kids with _ | ⟨x, l⟩
      · exact .inl rfl
      · exact .inr (by simp)
    rcases hc with hk | hk | hk | hk | hk | hk | hk | hk | hk | hk | hk | hk | hk | hk | hk | hk | hk | hk | hk | hk | hk | hk | hk | hk | hk | hk | hk | hk | hk | hk | hk | hk | hk | hk
    · exact show_1 n f h hm hk IH
    · exact show_2 n f h hm hk IH
    · exact show_3 n f h hm hk IH
    · have hn := num_in (hff (by omega) (by omega)) (s := ⟨true, 1, 1, -1⟩) (by rw [hk]; rfl)
      simp only at hn
      rcases (show n.num = 0 ∨ n.num = 1 by omega) with hv | hv
      · exact show_4_0 n f h hm hk hv IH
      · exact show_4_1 n f h hm hk hv IH
    · exact show_5 n f h hm hk IH
    · have hn := num_in (hff (by omega) (by omega)) (s := ⟨true, 1, 2, 2⟩) (by rw [hk]; rfl)
      simp only at hn
      rcases (show n.num = 0 ∨ n.num = 1 by omega) with hv | hv
      · exact show_6_0 n f h hm hk hv IH
      · exact show_6_1 n f h hm hk hv IH
    · have hn := num_in (hff (by omega) (by omega)) (s := ⟨true, 3, 2, -1⟩) (by rw [hk]; rfl)
      simp only at hn
      rcases (show n.num = 0 ∨ n.num = 1 ∨ n.num = 2 ∨ n.num = 3 by omega) with hv | hv | hv | hv
      · exact show_7_0 n f h hm hk hv IH
      · exact show_7_1 n f h hm hk hv IH
      · exact show_7_2 n f h hm hk hv IH
      · exact show_7_3 n f h hm hk hv IH
    · exact show_8 n f h hm hk IH
    · exact show_9 n f h hm hk IH
    · exact show_10 n f h hm hk IH
    · exact show_11 n f h hm hk IH
    · have hn := num_in (hff (by omega) (by omega)) (s := ⟨false, 1, 1, -1⟩) (by rw [hk]; rfl)
      simp only at hn
      rcases (show n.num = 0 ∨ n.num = 1 by omega) with hv | hv
      · exact show_12_0 n f h hm hk hv IH
      · exact show_12_1 n f h hm hk hv IH
    · rcases hz with h0 | h0
      · exact show_13_0 n f h hm hk h0 IH
      · exact show_13_1 n f h hm hk h0 IH
    · exact show_14 n f h hm hk IH
    · exact show_15 n f h hm hk IH
    · obtain ⟨hl, hl2⟩ := kids_at h (s := ⟨false, 0, 2, 3⟩) (by rw [hk]; rfl)
      simp only at hl hl2
      rcases (show n.kids.length = 2 ∨ n.kids.length = 3 by omega) with hl | hl
      · exact show_16_2 n f h hm hk hl IH
      · exact show_16_3 n f h hm hk hl IH
    · exact show_17 n f h hm hk IH
    · exact show_18 n f h hm hk IH
    · exact show_19 n f h hm hk IH
    · exact show_20 n f h hm hk IH
    · exact show_21 n f h hm hk IH
    · exact show_22 n f h hm hk IH
    · exact show_23 n f h hm hk IH
    · exact show_24 n f h hm hk IH
    · exact show_25 n f h hm hk IH
    · exact show_26 n f h hm hk IH
    · rcases hz with h0 | h0
      · exact show_27_0 n f h hm hk h0 IH
      · exact show_27_1 n f h hm hk h0 IH
    · exact show_28 n f h hm hk IH
    · exact show_29 n f h hm hk IH
    · exact show_30 n f h hm hk IH
    · exact show_31 n f h hm hk IH
    · exact show_32 n f h hm hk IH
    · exact show_33 n f h hm hk IH
    · exact show_34 n f h hm hk IH
theorem show_any {n : Nd} (h : isN n false = true) (hm : many n ≤ 700) : ShwOk n := shw_all _ n false (Nat.le_refl _) h (fun e => by cases e) hm
end Go.Proofs.YtgegfbopogcjpaaDoor
