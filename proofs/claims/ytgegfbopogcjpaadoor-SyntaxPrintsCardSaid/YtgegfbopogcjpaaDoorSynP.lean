/- The printed words are short. No program is in sight. -/
import Derived.Test.YtgegfbopogcjpaaDoorSynB
namespace Go.Proofs.YtgegfbopogcjpaaDoor
set_option linter.unusedVariables false
set_option linter.unusedSimpArgs false
def Short (l : List ByteArray) : Prop := ∀ x ∈ l, x.size ≤ 20
theorem Short.nil : Short [] := fun x h => by cases h
theorem Short.cons {a : ByteArray} {l : List ByteArray} (h : a.size ≤ 20) (hl : Short l) : Short (a :: l) := fun x hx => by
  rcases List.mem_cons.1 hx with rfl | hx
  · exact h
  · exact hl x hx
theorem Short.app {l r : List ByteArray} (hl : Short l) (hr : Short r) : Short (l ++ r) := fun x hx => by
  rcases List.mem_append.1 hx with h | h
  · exact hl x h
  · exact hr x h
theorem Short.flat {ws : List (List ByteArray)} (h : ∀ l ∈ ws, Short l) : Short ws.flatten := fun x hx => by
  obtain ⟨l, hl, hxl⟩ := List.mem_flatten.1 hx
  exact h l hl x hxl
theorem Short.nth {ws : List (List ByteArray)} (h : ∀ l ∈ ws, Short l) (i : Nat) : Short (nthW ws i) := by
  unfold nthW
  rcases hi : ws[i]? with _ | l
  · exact Short.nil
  · exact h l (List.mem_of_getElem? hi)
theorem Short.comma : ∀ {ws : List (List ByteArray)}, (∀ l ∈ ws, Short l) → Short (commas ws)
  | [], _ => Short.nil
  | [l], h => by rw [commas]; exact h l (by simp)
  | l :: m :: ws, h => by
    rw [commas]
    exact (h l (by simp)).app (.cons (by decide) (Short.comma fun x hx => h x (List.mem_cons_of_mem _ hx)))
theorem Short.row {ws : List (List ByteArray)} (h : ∀ l ∈ ws, Short l) (d : Bool) : Short (rowW ws d) := by
  unfold rowW
  refine .cons (by decide) (.app (Short.comma ?_) (.cons (by decide) .nil))
  intro l hl
  rcases List.mem_append.1 hl with h' | h'
  · exact h l h'
  · cases d
    · simp at h'
    · simp at h'; subst h'; exact .cons (by decide) .nil
theorem Short.at {least b : Int} {l : List ByteArray} (h : Short l) : Short (atW least b l) := by
  unfold atW
  split
  · exact .cons (by decide) (h.app (.cons (by decide) .nil))
  · exact h
theorem Short.ite {c : Prop} [Decidable c] {a b : List ByteArray} (h1 : c → Short a) (h2 : ¬ c → Short b) : Short (if c then a else b) := by
  split
  · exact h1 ‹_›
  · exact h2 ‹_›
theorem Short.stat (num : Int) : Short (statW num) := by
  unfold statW
  exact .ite (fun _ => .cons (by decide) .nil) (fun _ => .nil)
theorem sgnT_short (op : Int) : (sgnT op).size ≤ 20 := by
  unfold sgnT
  rcases hs : sgn op with _ | x
  · decide
  · unfold sgn at hs
    repeat' split at hs
    all_goals simp at hs
    all_goals (subst hs; decide)
theorem nDig_le : ∀ (m u : Nat), u < 10 ^ (m + 1) → Lib.nDigits u ≤ m + 1
  | 0, u, h => by rw [Lib.nDigits_small (by simpa using h)]; omega
  | m + 1, u, h => by
    by_cases hs : u < 10
    · rw [Lib.nDigits_small hs]; omega
    · rw [Lib.nDigits_big hs]
      have := nDig_le m (u / 10) (by rw [Nat.pow_succ] at h; omega)
      omega
theorem Short.num {k num : Int} (h : num.natAbs ≤ 9223372036854775807) : Short (numT k num) := by
  unfold numT
  refine .app (.ite (fun _ => .cons (by decide) .nil) (fun _ => .nil)) (.cons ?_ .nil)
  have h1 : (Lib.decDigits num.natAbs).length ≤ 19 := by
    rw [Lib.decDigits_length]
    exact nDig_le 18 _ (by omega)
  show (digsN num.natAbs ++ if k = 22 then [76] else []).toArray.size ≤ 20
  unfold digsN
  simp only [List.size_toArray, List.length_append]
  split <;> simp <;> omega
theorem isNL_mem {k : Int} {len : Nat} : ∀ (l : List Nd) (i : Nat), isNL k i len l = true → ∀ m ∈ l, ∃ f, isN m f = true
  | [], i, h, m, hm => by cases hm
  | n :: l, i, h, m, hm => by
    rw [isNL] at h
    simp only [Bool.and_eq_true] at h
    rcases List.mem_cons.1 hm with rfl | hm
    · exact ⟨_, h.1.2⟩
    · exact isNL_mem l (i + 1) h.2 m hm
theorem isN_parts {n : Nd} {f : Bool} (h : isN n f = true) : ∃ s, shp n.k = some s ∧ (s.text = true → nameOf n.t = true) ∧ numB n.k n.num s.num f = true ∧ isNL n.k 0 n.kids.length n.kids = true := by
  cases n with
  | mk k t num kids =>
    unfold isN at h
    simp only [Nd.k, Nd.t, Nd.num, Nd.kids]
    rcases hs : shp k with _ | s
    · rw [hs] at h; cases h
    · rw [hs] at h
      simp only [Bool.and_eq_true] at h
      exact ⟨s, rfl, fun ht => by have := h.1.1.1.1.1.2; rw [ht] at this; simpa using this, h.1.1.1.1.2, h.2⟩
theorem numB_abs {k num nm : Int} {f : Bool} (h : numB k num nm f = true) : num.natAbs ≤ 9223372036854775807 := by
  unfold numB at h
  simp only [Bool.and_eq_true, decide_eq_true_eq] at h
  obtain ⟨⟨⟨h1, h2⟩, -⟩, -⟩ := h
  split at h1 <;> split at h2 <;> omega
theorem shw_short : ∀ (N : Nat) (n : Nd), many n ≤ N → ∀ f, isN n f = true → Short (shw n)
  | 0, n, h => absurd h (by have := many_pos n; omega)
  | N + 1, n, h => by
    intro f hn
    obtain ⟨s, hs, ht, hnum, hl⟩ := isN_parts hn
    have IH : ∀ l ∈ n.kids.map shw, Short l := by
      intro l hl'
      obtain ⟨m, hm, rfl⟩ := List.mem_map.1 hl'
      obtain ⟨f', hf'⟩ := isNL_mem _ _ hl m hm
      exact shw_short N m (by have := many_kid hm; omega) f' hf'
    have IHd : ∀ l ∈ (n.kids.map shw).dropLast, Short l := fun l hl' => IH l ((List.dropLast_sublist _).subset hl')
    have IHdd : ∀ l ∈ (n.kids.map shw).dropLast.dropLast, Short l := fun l hl' => IHd l ((List.dropLast_sublist _).subset hl')
    have IHt : ∀ l ∈ (n.kids.map shw).tail, Short l := fun l hl' => IH l (List.mem_of_mem_tail hl')
    have htx : s.text = true → n.t.size ≤ 20 := fun h => by have := (name_false (ht h)).2.1; omega
    have hna := numB_abs hnum
    rw [shw_eq]
    generalize n.kids.map shw = ws at *
    generalize n.kids.map bindN = bs at *
    unfold shwK
    dsimp only
    have hk : ∀ c : Bool, ((shp n.k).map (·.text)) = some c → c = true → n.t.size ≤ 20 := fun c h1 h2 => by
      rw [hs] at h1
      exact htx (by simp at h1; rw [h1]; exact h2)
    refine .ite (fun h => .flat IH) fun h1 => ?_
    refine .ite (fun h => .app (.app (.cons (by decide) (.cons (hk true (by rw [h]; rfl) rfl) (.cons (by decide) .nil))) (.flat IH)) (.cons (by decide) .nil)) fun h2 => ?_
    refine .ite (fun h => .app (.nth IH _) (.cons (hk true (by rw [h]; rfl) rfl) (.cons (by decide) .nil))) fun h3 => ?_
    refine .ite (fun h => .app (.nth IH _) (.cons (hk true (by rw [h]; rfl) rfl) .nil)) fun h8 => ?_
    refine .ite (fun h => .cons (by decide) (.app (.nth IH _) (.cons (hk true (by rw [h]; rfl) rfl) (.cons (by decide) .nil)))) fun h5 => ?_
    refine .ite (fun h => .cons (by decide) (.app (.app (.app (.nth IH _) (.cons (hk true (by rw [h]; rfl) rfl) .nil)) (.row IHd _)) (.cons (by decide) .nil))) fun h4 => ?_
    refine .ite (fun h => .app (.app (.app (.app (.stat _) (.nth IH _)) (.cons (hk true (by rw [h]; rfl) rfl) (.cons (by decide) .nil))) (.nth IH _)) (.cons (by decide) .nil)) fun h6 => ?_
    refine .ite (fun h => .app (.app (.app (.app (.stat _) (.nth IH _)) (.cons (hk true (by rw [h]; rfl) rfl) .nil)) (.row IHdd _)) (.nth IH _)) fun h7 => ?_
    refine .ite (fun h => .cons (by decide) .nil) fun h9 => ?_
    refine .ite (fun h => .cons (by decide) .nil) fun h10 => ?_
    refine .ite (fun h => .cons (hk true (by rcases h with h | h <;> rw [h] <;> rfl) rfl) .nil) fun h11 => ?_
    refine .ite (fun h => .cons (by decide) (.app (.row IHd _) (.nth IH _))) fun h12 => ?_
    refine .ite (fun h => .cons (by decide) (.app (.flat IH) (.cons (by decide) .nil))) fun h13 => ?_
    refine .ite (fun h => .app (.app (.app (.nth IH _) (.cons (hk true (by rw [h]; rfl) rfl) (.cons (by decide) .nil))) (.nth IH _)) (.cons (by decide) .nil)) fun h14 => ?_
    refine .ite (fun h => .app (.app (.app (.nth IH _) (.cons (by decide) .nil)) (.nth IH _)) (.cons (by decide) .nil)) fun h15 => ?_
    refine .ite (fun h => .app (.app (.app (.app (.cons (by split <;> decide) (.cons (by decide) .nil)) (.nth IH _)) (.cons (by decide) .nil)) (.nth IH _)) (.ite (fun _ => .cons (by decide) (.nth IH _)) (fun _ => .nil))) fun h16 => ?_
    refine .ite (fun h => .cons (by decide) (.app (.nth IH _) (.cons (by decide) .nil))) fun h18 => ?_
    refine .ite (fun h => .app (.app (.cons (by decide) (.cons (by decide) .nil)) (.nth IH _)) (.cons (by decide) (.cons (by decide) .nil))) fun h19 => ?_
    refine .ite (fun h => .app (.nth IH _) (.cons (by decide) .nil)) fun h20 => ?_
    refine .ite (fun h => .num hna) fun h21 => ?_
    refine .ite (fun h => .app (.at (.nth IH _)) (.cons (by decide) (.cons (hk true (by rw [h]; rfl) rfl) .nil))) fun h24 => ?_
    refine .ite (fun h => .app (.at (.nth IH _)) (.row IHt _)) fun h25 => ?_
    refine .ite (fun h => .cons (by decide) (.cons (hk true (by rw [h]; rfl) rfl) .nil)) fun h26 => ?_
    refine .ite (fun h => .app (.app (.cons (hk true (by rw [h]; rfl) rfl) (.cons (by decide) .nil)) (.comma IH)) (.cons (by decide) .nil)) fun h27 => ?_
    refine .ite (fun h => .cons (by decide) (.at (.nth IH _))) fun h28 => ?_
    refine .ite (fun h => .cons (by decide) (.at (.nth IH _))) fun h29 => ?_
    refine .ite (fun h => .app (.app (.cons (by decide) (.cons (by decide) .nil)) (.nth IH _)) (.cons (by decide) .nil)) fun h30 => ?_
    refine .ite (fun h => .app (.app (.cons (by decide) (.cons (by decide) .nil)) (.nth IH _)) (.cons (by decide) .nil)) fun h31 => ?_
    refine .ite (fun h => .app (.app (.cons (by decide) (.cons (by decide) .nil)) (.nth IH _)) (.cons (by decide) .nil)) fun h34 => ?_
    refine .ite (fun h => .cons (by decide) .nil) fun h33 => ?_
    exact .app (.app (.at (.nth IH _)) (.cons (sgnT_short _) .nil)) (.at (.nth IH _))
theorem join_short : ∀ (l : List ByteArray), Short l → (joinW l).length ≤ 21 * l.length
  | [], _ => by simp [joinW]
  | [a], h => by
    have := h a (by simp)
    rw [joinW]
    simp only [Array.length_toList, ByteArray.size_data, List.length_cons, List.length_nil]
    omega
  | a :: b :: l, h => by
    have h1 := h a (by simp)
    have h2 := join_short (b :: l) (fun x hx => h x (List.mem_cons_of_mem _ hx))
    rw [joinW]
    simp only [List.length_append, List.length_cons, Array.length_toList, ByteArray.size_data] at h2 ⊢
    omega
end Go.Proofs.YtgegfbopogcjpaaDoor
