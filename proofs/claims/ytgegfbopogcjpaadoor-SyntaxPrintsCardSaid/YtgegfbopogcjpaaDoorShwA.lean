/- The words of a node as one text, and how many they are. No program is in sight. -/
import Derived.Test.YtgegfbopogcjpaaDoorSynP
import Derived.Test.YtgegfbopogcjpaaDoorSynD
import Derived.Test.YtgegfbopogcjpaaDoorSynQ
namespace Go.Proofs.YtgegfbopogcjpaaDoor
set_option linter.unusedVariables false
set_option linter.unusedSimpArgs false
theorem joinW_cons (a : ByteArray) {l : List ByteArray} (h : l ≠ []) : joinW (a :: l) = a.data.toList ++ 32 :: joinW l := by
  cases l with
  | nil => exact absurd rfl h
  | cons b l => rw [joinW]
theorem joinW_app {r : List ByteArray} (hr : r ≠ []) : ∀ {l : List ByteArray}, l ≠ [] → joinW (l ++ r) = joinW l ++ 32 :: joinW r
  | [], h => absurd rfl h
  | [a], _ => by rw [List.cons_append, List.nil_append, joinW_cons a hr]; rfl
  | a :: b :: l, _ => by
    rw [List.cons_append, joinW_cons a (by simp), joinW_app hr (by simp), joinW_cons a (by simp)]
    simp
/-- texts with something between -/
def jn (sep : List UInt8) : List ByteArray → List UInt8
  | [] => []
  | [a] => a.data.toList
  | a :: b :: l => a.data.toList ++ (sep ++ jn sep (b :: l))
theorem jn_cons (sep : List UInt8) (a : ByteArray) {l : List ByteArray} (h : l ≠ []) : jn sep (a :: l) = a.data.toList ++ (sep ++ jn sep l) := by
  cases l with
  | nil => exact absurd rfl h
  | cons b l => rw [jn]
theorem jn_snoc (sep : List UInt8) (x : ByteArray) : ∀ {l : List ByteArray}, l ≠ [] → jn sep (l ++ [x]) = jn sep l ++ (sep ++ x.data.toList)
  | [], h => absurd rfl h
  | [a], _ => by rw [List.cons_append, List.nil_append, jn_cons _ _ (by simp)]; rfl
  | a :: b :: l, _ => by
    rw [List.cons_append, jn_cons _ a (by simp), jn_snoc sep x (by simp), jn_cons _ a (by simp)]
    simp
theorem jn_take_le (sep : List UInt8) : ∀ (l : List ByteArray) (k : Nat), (jn sep (l.take k)).length ≤ (jn sep l).length
  | [], k => by simp
  | a :: l, 0 => by simp [jn]
  | [a], k + 1 => by simp
  | a :: b :: l, 1 => by
    show a.data.toList.length ≤ _
    rw [jn_cons _ a (by simp)]
    simp
  | a :: b :: l, k + 2 => by
    have h := jn_take_le sep (b :: l) (k + 1)
    rw [List.take_succ_cons, jn_cons _ a (by simp), jn_cons _ a (by simp)]
    simp only [List.length_append] at h ⊢
    omega
theorem jn_at_le (sep : List UInt8) : ∀ (l : List ByteArray) (k : Nat) (h : k < l.length), l[k].size ≤ (jn sep l).length
  | [a], 0, _ => by simp [jn]
  | a :: b :: l, 0, _ => by rw [jn]; simp
  | [a], k + 1, h => by simp at h
  | a :: b :: l, k + 1, h => by
    have := jn_at_le sep (b :: l) k (by simpa using h)
    rw [jn]
    simp only [List.length_append]
    rw [List.getElem_cons_succ]
    omega
/-- the words as one text -/
def sB (l : List ByteArray) : ByteArray := ⟨(joinW l).toArray⟩
theorem sB_data (l : List ByteArray) : (sB l).data.toList = joinW l := by simp [sB]
theorem jn_blank : ∀ (ws : List (List ByteArray)), (∀ l ∈ ws, l ≠ []) → jn [32] (ws.map sB) = joinW ws.flatten
  | [], _ => rfl
  | [a], _ => by simp [jn, sB_data]
  | a :: b :: l, h => by
    have ih := jn_blank (b :: l) (fun x hx => h x (List.mem_cons_of_mem _ hx))
    have hb : (b :: l).flatten ≠ [] := by
      have := h b (by simp)
      simp [List.flatten_cons, this]
    show _ = joinW (a ++ (b :: l).flatten)
    rw [List.map_cons, jn_cons _ _ (by simp), ih, joinW_app hb (h a (by simp)), sB_data]
    rfl
theorem commas_ne {ws : List (List ByteArray)} (h : ∀ l ∈ ws, l ≠ []) (h0 : ws ≠ []) : commas ws ≠ [] := by
  cases ws with
  | nil => exact absurd rfl h0
  | cons a l =>
    have := h a (by simp)
    cases l with
    | nil => rw [commas]; exact this
    | cons b l => rw [commas]; simp [this]
theorem jn_comma : ∀ (ws : List (List ByteArray)), (∀ l ∈ ws, l ≠ []) → jn [32, 44, 32] (ws.map sB) = joinW (commas ws)
  | [], _ => rfl
  | [a], _ => by simp [jn, sB_data, commas]
  | a :: b :: l, h => by
    have hx : ∀ x ∈ b :: l, x ≠ [] := fun x hx => h x (List.mem_cons_of_mem _ hx)
    have ih := jn_comma (b :: l) hx
    rw [List.map_cons, jn_cons _ _ (by simp), ih, commas, joinW_app (by simp) (h a (by simp)), joinW_cons _ (commas_ne hx (by simp)), sB_data]
    simp
theorem rowW_ne (ws : List (List ByteArray)) (d : Bool) : rowW ws d ≠ [] := by simp [rowW]
theorem atW_ne {least b : Int} {w : List ByteArray} (h : w ≠ []) : atW least b w ≠ [] := by
  unfold atW
  split
  · simp
  · exact h
theorem numT_ne (k num : Int) : numT k num ≠ [] := by simp [numT]
theorem ne_ite {α : Type} {c : Prop} [Decidable c] {a b : List α} (h1 : c → a ≠ []) (h2 : ¬ c → b ≠ []) : (if c then a else b) ≠ [] := by
  split
  · exact h1 ‹_›
  · exact h2 ‹_›
theorem shw_ne {n : Nd} (h : n.k ≠ 1) : shw n ≠ [] := by
  rw [shw_eq]
  generalize n.kids.map shw = ws
  generalize n.kids.map bindN = bs
  unfold shwK
  dsimp only
  rw [if_neg h]
  repeat refine ne_ite (fun _ => by first | (simp [rowW]; done) | exact numT_ne _ _) fun _ => ?_
  simp
/-- how many words -/
def wsum (ws : List (List ByteArray)) : Nat := ws.flatten.length
theorem nth_sum1 (ws : List (List ByteArray)) : (nthW ws 0).length ≤ wsum ws := by
  cases ws <;> simp [nthW, wsum]
theorem nth_sum2 (ws : List (List ByteArray)) : (nthW ws 0).length + (nthW ws 1).length ≤ wsum ws := by
  rcases ws with _ | ⟨a, _ | ⟨b, l⟩⟩ <;> simp [nthW, wsum]
theorem nth_sum3 (ws : List (List ByteArray)) : (nthW ws 0).length + (nthW ws 1).length + (nthW ws 2).length ≤ wsum ws := by
  rcases ws with _ | ⟨a, _ | ⟨b, _ | ⟨c, l⟩⟩⟩ <;> simp [nthW, wsum] <;> omega
theorem tail_sum (ws : List (List ByteArray)) : (nthW ws 0).length + wsum ws.tail ≤ wsum ws := by
  cases ws <;> simp [nthW, wsum]
theorem last_sum (ws : List (List ByteArray)) : (nthW ws (ws.length - 1)).length + wsum ws.dropLast ≤ wsum ws := by
  rcases List.eq_nil_or_concat ws with rfl | ⟨l, a, rfl⟩
  · simp [nthW, wsum]
  · simp [nthW, wsum]; omega
theorem snoc2 {ws : List (List ByteArray)} (h : 2 ≤ ws.length) : ∃ l b a, ws = l ++ [b, a] := by
  refine ⟨ws.take (ws.length - 2), ws[ws.length - 2], ws[ws.length - 1], ?_⟩
  have h1 := (List.take_append_drop (ws.length - 2) ws).symm
  rw [List.drop_eq_getElem_cons (by omega), List.drop_eq_getElem_cons (by omega), List.drop_eq_nil_of_le (by omega)] at h1
  have e : ws.length - 2 + 1 = ws.length - 1 := by omega
  simp only [e] at h1
  exact h1
theorem last2_sum {ws : List (List ByteArray)} (h : 2 ≤ ws.length) : (nthW ws (ws.length - 2)).length + wsum ws.dropLast.dropLast + (nthW ws (ws.length - 1)).length ≤ wsum ws := by
  obtain ⟨l, b, a, rfl⟩ := snoc2 h
  have e : (l ++ [b, a]).length - 2 = l.length := by simp
  have e1 : (l ++ [b, a]).length - 1 = l.length + 1 := by simp
  have e2 : nthW (l ++ [b, a]) l.length = b := by simp [nthW]
  have e3 : nthW (l ++ [b, a]) (l.length + 1) = a := by simp [nthW]
  have e4 : (l ++ [b, a]).dropLast.dropLast = l := by
    rw [show l ++ [b, a] = l ++ [b] ++ [a] by simp, List.dropLast_concat, List.dropLast_concat]
  rw [e, e1, e2, e3, e4]
  simp [wsum]
  omega
theorem comma_len : ∀ ws : List (List ByteArray), (commas ws).length ≤ wsum ws + ws.length
  | [] => by simp [commas]
  | [a] => by simp [commas, wsum]
  | a :: b :: l => by
    have := comma_len (b :: l)
    rw [commas]
    simp [wsum] at this ⊢
    omega
theorem row_len (ws : List (List ByteArray)) (d : Bool) : (rowW ws d).length ≤ wsum ws + ws.length + 4 := by
  unfold rowW
  have := comma_len (ws ++ if d = true then [[⟨#[46, 46, 46]⟩]] else [])
  cases d <;> simp [wsum] at this ⊢ <;> omega
theorem at_len (least b : Int) (w : List ByteArray) : (atW least b w).length ≤ w.length + 2 := by
  unfold atW
  split <;> simp
theorem stat_len (num : Int) : (statW num).length ≤ 1 := by
  unfold statW
  split <;> simp
theorem num_len (k num : Int) : (numT k num).length ≤ 2 := by
  unfold numT
  split <;> simp
theorem len_ite {c : Prop} [Decidable c] {a b : List ByteArray} {m : Nat} (h1 : c → a.length ≤ m) (h2 : ¬ c → b.length ≤ m) : (if c then a else b).length ≤ m := by
  split
  · exact h1 ‹_›
  · exact h2 ‹_›
theorem shwK_len (k : Int) (t : ByteArray) (num : Int) (ws : List (List ByteArray)) (bs : List Int) (h7 : k = 7 → 2 ≤ ws.length) : (shwK k t num ws bs).length ≤ wsum ws + ws.length + 9 := by
  have s1 := nth_sum1 ws
  have s2 := nth_sum2 ws
  have s3 := nth_sum3 ws
  have st := tail_sum ws
  have sl := last_sum ws
  have cl := comma_len ws
  have rt := row_len ws.tail false
  have rd1 := row_len ws.dropLast (num == 1)
  have rd2 := row_len ws.dropLast.dropLast (decide (2 ≤ num))
  have t1 : ws.tail.length ≤ ws.length := by simp
  have t2 : ws.dropLast.length ≤ ws.length := by simp
  have t3 : ws.dropLast.dropLast.length ≤ ws.length := by simp; omega
  have a1 := at_len 4 ((bs[0]?).getD 0) (nthW ws 0)
  have a2 := at_len 3 ((bs[0]?).getD 0) (nthW ws 0)
  have a3 := at_len (max (sgnB num) 1) ((bs[0]?).getD 0) (nthW ws 0)
  have a4 := at_len (sgnB num + 1) ((bs[1]?).getD 0) (nthW ws 1)
  have u1 := stat_len num
  have u2 := num_len k num
  unfold shwK
  dsimp only
  have hw : ws.flatten.length = wsum ws := rfl
  by_cases hk : k = 7
  · have sl2 := last2_sum (h7 hk)
    subst hk
    simp only [Int.reduceEq, if_false, if_true, or_self]
    simp only [List.length_append, List.length_cons, List.length_nil]
    omega
  · repeat refine len_ite (fun _ => by
      first
        | (simp only [List.length_append, List.length_cons, List.length_nil, hw]; omega)
        | ((repeat' split) <;> simp only [List.length_append, List.length_cons, List.length_nil, hw] <;> omega)
        | omega) fun _ => ?_
    simp only [List.length_append, List.length_cons, List.length_nil, hw]
    omega
theorem wsum_le (l : List Nd) (h : ∀ m ∈ l, (shw m).length + 3 ≤ 12 * many m) : wsum (l.map shw) + 3 * l.length ≤ 12 * manyL l := by
  induction l with
  | nil => simp [wsum, manyL]
  | cons m l ih =>
    have h1 := h m (by simp)
    have h2 := ih (fun x hx => h x (List.mem_cons_of_mem _ hx))
    rw [manyL]
    simp [wsum] at h2 ⊢
    omega
theorem shw_cnt : ∀ (N : Nat) (n : Nd), many n ≤ N → ∀ f, isN n f = true → (shw n).length + 3 ≤ 12 * many n
  | 0, n, h => absurd h (by have := many_pos n; omega)
  | N + 1, n, h => by
    intro f hn
    obtain ⟨s, hs, -, -, hl⟩ := isN_parts hn
    have IH : ∀ m ∈ n.kids, (shw m).length + 3 ≤ 12 * many m := fun m hm => by
      obtain ⟨f', hf'⟩ := isNL_mem _ _ hl m hm
      exact shw_cnt N m (by have := many_kid hm; omega) f' hf'
    have h1 := wsum_le n.kids IH
    have h7 : n.k = 7 → 2 ≤ (n.kids.map shw).length := fun hk => by
      rw [isN_eq, hs] at hn
      simp only [Bool.and_eq_true, decide_eq_true_eq] at hn
      rw [hk] at hs
      have : s = ⟨true, 3, 2, -1⟩ := by simpa [shp] using hs.symm
      rw [this] at hn
      have := hn.1.1.1.1.1.1.1.1
      simpa using this
    have h2 := shwK_len n.k n.t n.num (n.kids.map shw) (n.kids.map bindN) h7
    have h3 := wmany_eq n
    rw [shw_eq]
    rw [List.length_map] at h2
    omega
/-- how long the text is -/
theorem shw_long {n : Nd} {f : Bool} (h : isN n f = true) (hm : many n ≤ 700) : (joinW (shw n)).length ≤ 200000 := by
  have h1 := join_short _ (shw_short _ n (Nat.le_refl _) f h)
  have h2 := shw_cnt _ n (Nat.le_refl _) f h
  omega
end Go.Proofs.YtgegfbopogcjpaaDoor
