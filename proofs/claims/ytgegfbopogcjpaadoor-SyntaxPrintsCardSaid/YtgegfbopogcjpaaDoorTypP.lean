/- Plain: a word among words written with blanks between them. No program is in sight. -/
import Derived.Test.YtgegfbopogcjpaaDoorTypA
import Derived.Lib.IndexMore
namespace Go.Proofs.YtgegfbopogcjpaaDoor
set_option linter.unusedVariables false
set_option linter.unusedSimpArgs false
set_option maxRecDepth 100000
theorem isPrefixOf_iff (a b : List UInt8) : a.isPrefixOf b = true ↔ ∃ v, b = a ++ v := by
  rw [List.isPrefixOf_iff_prefix]
  constructor
  · rintro ⟨v, rfl⟩; exact ⟨v, rfl⟩
  · rintro ⟨v, rfl⟩; exact ⟨v, rfl⟩
theorem index_pos (sub : List UInt8) : ∀ s : List UInt8, 0 ≤ Lib.index s sub ↔ ∃ u v, s = u ++ (sub ++ v)
  | [] => by
    unfold Lib.index
    cases sub with
    | nil => simp
    | cons x l => simp
  | b :: l => by
    unfold Lib.index
    have ih := index_pos sub l
    by_cases hp : sub.isPrefixOf (b :: l) = true
    · rw [if_pos hp]
      obtain ⟨v, hv⟩ := (isPrefixOf_iff _ _).1 hp
      exact ⟨fun _ => ⟨[], v, by simpa using hv⟩, fun _ => Int.le_refl _⟩
    · rw [if_neg hp]
      have hge := Lib.index_ge l sub
      constructor
      · intro h
        by_cases h1 : Lib.index l sub = -1
        · simp [h1] at h
        · obtain ⟨u, v, e⟩ := ih.1 (by omega)
          exact ⟨b :: u, v, by rw [e]; rfl⟩
      · rintro ⟨u, v, e⟩
        cases u with
        | nil => exact absurd ((isPrefixOf_iff _ _).2 ⟨v, by simpa using e⟩) hp
        | cons c u =>
          simp only [List.cons_append, List.cons.injEq] at e
          have := ih.2 ⟨u, v, e.2⟩
          have h1 : ¬ (Lib.index l sub == -1) = true := by simp; omega
          rw [if_neg h1]
          omega
theorem split32 : ∀ (s w v r : List UInt8), 32 ∉ s → 32 ∉ w → s ++ 32 :: v = w ++ 32 :: r → s = w ∧ v = r
  | [], [], v, r, _, _, h => by simpa using h
  | [], c :: w, v, r, _, hw, h => by simp at h; exact absurd (by simp [h.1]) hw
  | c :: s, [], v, r, hs, _, h => by simp at h; exact absurd (by simp [h.1]) hs
  | c :: s, d :: w, v, r, hs, hw, h => by
    simp only [List.cons_append, List.cons.injEq] at h
    obtain ⟨h1, h2⟩ := split32 s w v r (fun x => hs (by simp [x])) (fun x => hw (by simp [x])) h.2
    exact ⟨by rw [h.1, h1], h2⟩
theorem drop32 : ∀ (w u m L : List UInt8), 32 ∉ w → w ++ L = u ++ 32 :: m → ∃ u', u = w ++ u' ∧ L = u' ++ 32 :: m
  | [], u, m, L, _, h => ⟨u, rfl, h⟩
  | c :: w, [], m, L, hw, h => by simp at h; exact absurd (by simp [h.1]) hw
  | c :: w, d :: u, m, L, hw, h => by
    simp only [List.cons_append, List.cons.injEq] at h
    obtain ⟨u', h1, h2⟩ := drop32 w u m L (fun x => hw (by simp [x])) h.2
    exact ⟨u', by rw [h.1, h1]; rfl, h2⟩
def joined (ws : List (List UInt8)) : List UInt8 := 32 :: ws.flatMap fun w => w ++ [32]
theorem joined_cons (w : List UInt8) (ws : List (List UInt8)) : joined (w :: ws) = 32 :: (w ++ joined ws) := by simp [joined]
theorem among_joined : ∀ (ws : List (List UInt8)) (s : List UInt8), (∀ w ∈ ws, 32 ∉ w) → 32 ∉ s → ((∃ u v, joined ws = u ++ ((32 :: (s ++ [32])) ++ v)) ↔ s ∈ ws)
  | [], s, _, hs => by
    constructor
    · rintro ⟨u, v, h⟩
      have := congrArg List.length h
      simp [joined] at this
      omega
    · intro h; cases h
  | w :: ws, s, hw, hs => by
    have ih := among_joined ws s (fun x hx => hw x (by simp [hx])) hs
    have hw1 := hw w (by simp)
    rw [joined_cons]
    constructor
    · rintro ⟨u, v, h⟩
      cases u with
      | nil =>
        simp only [List.nil_append, List.cons_append, List.cons.injEq, true_and, List.append_assoc] at h
        have := (split32 w s _ _ hw1 hs (by simpa [joined] using h)).1
        rw [this]; simp
      | cons c u =>
        simp only [List.cons_append, List.cons.injEq, List.append_assoc] at h
        obtain ⟨u', h1, h2⟩ := drop32 w u _ _ hw1 h.2
        exact List.mem_cons_of_mem _ (ih.1 ⟨u', v, by simpa using h2⟩)
    · intro h
      rcases List.mem_cons.1 h with rfl | h
      · exact ⟨[], ws.flatMap fun w => w ++ [32], by simp [joined]⟩
      · obtain ⟨u, v, e⟩ := ih.2 h
        exact ⟨32 :: (w ++ u), v, by rw [e]; simp⟩
def wordsR : List ByteArray := ["break".toUTF8, "count".toUTF8, "else".toUTF8, "extern".toUTF8, "extra".toUTF8, "fn".toUTF8, "if".toUTF8, "int".toUTF8, "long".toUTF8, "put".toUTF8, "return".toUTF8, "static".toUTF8, "struct".toUTF8, "while".toUTF8]
theorem words_joined : wordL = joined (wordsR.map fun s => s.data.toList) := by decide
theorem reserved_iff (s : ByteArray) (hs : 32 ∉ s.data.toList) : reserved s = true ↔ s.data.toList ∈ wordsR.map fun s => s.data.toList := by
  unfold reserved Lib.contains
  rw [decide_eq_true_iff, index_pos, words_joined, among_joined _ _ (by decide) hs]
end Go.Proofs.YtgegfbopogcjpaaDoor
