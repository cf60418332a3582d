/- Plain: what the words of a call get; had and giver agree. No program is in sight. -/
import Derived.Test.YtkkjkbljgaipcaaAbiW
namespace Go.Proofs.Ytkkjkbljgaipcaa
open Go.RowKit
set_option linter.unusedVariables false
set_option linter.unusedSimpArgs false
set_option maxRecDepth 100000
/-- what has been given is no more than what the giver says -/
def HadW (had : List Pl) (g : Gv) : Prop := g.r ≤ 4 ∧ (g.r < 4 → stk had = false ∧ regN had ≤ g.r ∧ g.p = 0) ∧ plcN had ≤ g.p
theorem stk_snoc (l : List Pl) (x : Pl) : stk (l ++ [x]) = (stk l || x.s) := by simp [stk]
theorem Had.weak {had : List Pl} {g : Gv} (h : Had had g) : HadW had g := by
  obtain ⟨h1, h2, h3⟩ := h
  refine ⟨h3, fun h4 => ?_, by omega⟩
  have hl := Had.low (had := had) (g := g) ⟨h1, h2, h3⟩ h4
  have hs : stk had = false := by
    unfold stk
    rw [List.any_eq_false]
    intro x hx
    rw [(hl.2 x hx).1]; decide
  unfold regF at h1
  rw [hs] at h1
  exact ⟨hs, by simp at h1; omega, hl.1⟩
theorem HadW.next {had : List Pl} {g : Gv} (h : HadW had g) : Had (had ++ [g.loc]) g.next := by
  obtain ⟨h3, h1, h2⟩ := h
  by_cases h4 : g.r < 4
  · obtain ⟨hs, hr, hp⟩ := h1 h4
    have e1 : g.loc = ⟨false, g.r⟩ := by simp [Gv.loc, h4]
    have e2 : g.next = ⟨g.r + 1, g.p⟩ := by simp [Gv.next, h4]
    rw [e1, e2]
    refine ⟨?_, ?_, by show g.r + 1 ≤ 4; omega⟩
    · unfold regF
      rw [stk_snoc, hs]
      simp only [Bool.false_or, Bool.false_eq_true, if_false]
      rw [regN_snoc, if_pos hr]
    · rw [plcN_snoc]
      simp only [Bool.false_and, Bool.false_eq_true, if_false]
      rw [plcN_no had hs, hp]
  · have hr4 : g.r = 4 := by omega
    have e1 : g.loc = ⟨true, g.p⟩ := by simp [Gv.loc, h4]
    have e2 : g.next = ⟨g.r, g.p + 1⟩ := by simp [Gv.next, h4]
    rw [e1, e2]
    refine ⟨?_, ?_, by show g.r ≤ 4; omega⟩
    · unfold regF
      rw [stk_snoc]
      simp [hr4]
    · rw [plcN_snoc]
      simp [h2]
theorem Had.nexts {had : List Pl} {g : Gv} (h : HadW had g) : ∀ n, Had (had ++ (g.nexts (n + 1)).1) (g.nexts (n + 1)).2
  | 0 => by simpa [Gv.nexts] using h.next
  | n + 1 => by
    have ih := (Had.nexts h n).weak.next
    rw [List.append_assoc] at ih
    exact ih
theorem HadW.even {had : List Pl} {g : Gv} (h : HadW had g) : HadW had g.even := by
  obtain ⟨h3, h1, h2⟩ := h
  by_cases h4 : g.r < 4
  · have e : g.even = ⟨g.r + g.r % 2, g.p⟩ := by simp [Gv.even, h4]
    rw [e]
    obtain ⟨a, b, c⟩ := h1 h4
    refine ⟨?_, fun h => ⟨a, by simp only; omega, c⟩, h2⟩
    have := even_r g h3
    rw [e] at this
    exact this.1
  · have e : g.even = ⟨g.r, g.p + g.p % 2⟩ := by simp [Gv.even, h4]
    rw [e]
    exact ⟨h3, fun h => absurd h h4, by simp only; omega⟩
theorem HadW.wst {had : List Pl} {g : Gv} (h : HadW had g) (n : Nat) (ev lg : Bool) : HadW had (g.wst n ev lg) := by
  have h1 : HadW had (if ev then g.even else g) := by cases ev; exact h; exact h.even
  unfold Gv.wst
  simp only
  generalize (if ev then g.even else g) = g1 at *
  split
  · refine HadW.even (g := ⟨4, g1.p⟩) ⟨Nat.le_refl _, fun h => absurd h (by simp), h1.2.2⟩
  · exact h1
theorem par_eq (g : Gv) (n : Nat) (ev lg : Bool) (h : n ≤ 4) : g.par n ev lg = (((g.wst n ev lg).nexts n).1, false, ((g.wst n ev lg).nexts n).2) := by
  unfold Gv.par
  rw [if_neg (by omega)]
  rfl
theorem par_copied (g : Gv) (n : Nat) (ev lg : Bool) (h : 4 < n) : g.par n ev lg = ([g.loc], true, g.next) := by
  unfold Gv.par
  rw [if_pos h]
theorem Had.par {had : List Pl} {g : Gv} (h : Had had g) (n : Nat) (ev lg : Bool) (hn : 1 ≤ n) : Had (had ++ (g.par n ev lg).1) (g.par n ev lg).2.2 := by
  by_cases h4 : 4 < n
  · rw [par_copied g n ev lg h4]
    exact h.weak.next
  · rw [par_eq g n ev lg (by omega)]
    obtain ⟨m, rfl⟩ : ∃ m, n = m + 1 := ⟨n - 1, by omega⟩
    exact Had.nexts (h.weak.wst _ ev lg) m
theorem wst_bd (g : Gv) (h : g.r ≤ 4) (n : Nat) (ev lg : Bool) : (g.wst n ev lg).r ≤ 4 ∧ (g.wst n ev lg).p ≤ g.p + 2 := by
  have h1 : (if ev then g.even else g).r ≤ 4 ∧ (if ev then g.even else g).p ≤ g.p + 1 := by
    cases ev
    · exact ⟨h, Nat.le_succ _⟩
    · exact even_r g h
  unfold Gv.wst
  simp only
  generalize (if ev then g.even else g) = g1 at *
  split
  · have := even_r ⟨4, g1.p⟩ (Nat.le_refl _)
    refine ⟨this.1, ?_⟩
    have h2 := this.2
    simp only at h2
    omega
  · omega
theorem par_bd (g : Gv) (h : g.r ≤ 4) (n : Nat) (ev lg : Bool) : (g.par n ev lg).2.2.r ≤ 4 ∧ (g.par n ev lg).2.2.p ≤ g.p + 6 ∧ (g.par n ev lg).1.length ≤ 4 ∧ ∀ x ∈ (g.par n ev lg).1, x.n ≤ g.p + 6 + 4 := by
  have hloc : ∀ G : Gv, G.r ≤ 4 → ∀ q, G.p ≤ q → G.loc.n ≤ q + 4 := fun G hG q hq => by unfold Gv.loc; split <;> simp <;> omega
  have hnx : ∀ G : Gv, G.r ≤ 4 → G.next.r ≤ 4 ∧ G.next.p ≤ G.p + 1 := fun G hG => by unfold Gv.next; split <;> simp <;> omega
  by_cases h4 : 4 < n
  · rw [par_copied g n ev lg h4]
    refine ⟨(hnx g h).1, by have := (hnx g h).2; simp only; omega, by simp, fun x hx => ?_⟩
    simp only [List.mem_singleton] at hx
    subst hx
    exact Nat.le_trans (hloc g h g.p (Nat.le_refl _)) (by omega)
  · rw [par_eq g n ev lg (by omega)]
    have hw := wst_bd g h n ev lg
    generalize g.wst n ev lg = G at *
    have hnr := nexts_r G hw.1 n
    refine ⟨hnr.1, by simp only; omega, by simp only; rw [nexts_len]; omega, fun x hx => ?_⟩
    simp only at hx
    have : ∀ k, k ≤ n → ∀ x ∈ (G.nexts k).1, x.n ≤ g.p + 6 + 4 := by
      intro k
      induction k with
      | zero => intro _ x hx; cases hx
      | succ k ih =>
        intro hk x hx
        simp only [Gv.nexts] at hx
        rcases List.mem_append.1 hx with hx | hx
        · exact ih (by omega) x hx
        · rw [List.mem_singleton] at hx
          subst hx
          have hk' := nexts_r G hw.1 k
          exact hloc _ hk'.1 _ (by omega)
    exact this n (Nat.le_refl _) x hx
/-- the parameters' words, one parameter after the other -/
def parK (ts : List Ty) (g : Gv) : Nat → List (List Pl) × List Bool × Gv
  | 0 => ([], [], g)
  | k + 1 => let s := parK ts g k; let t := sizeT (ts.getD k (.mk 0 ⟨#[]⟩ [] [] false)); let p := s.2.2.par t.1 t.2 ((ts.getD k (.mk 0 ⟨#[]⟩ [] [] false)).k == 2); (s.1 ++ [p.1], s.2.1 ++ [p.2.1], p.2.2)
theorem parK_succ {ts : List Ty} {k : Nat} (h : k < ts.length) (g : Gv) : parK ts g (k + 1) = ((parK ts g k).1 ++ [((parK ts g k).2.2.par (sizeT ts[k]).1 (sizeT ts[k]).2 (ts[k].k == 2)).1], (parK ts g k).2.1 ++ [((parK ts g k).2.2.par (sizeT ts[k]).1 (sizeT ts[k]).2 (ts[k].k == 2)).2.1], ((parK ts g k).2.2.par (sizeT ts[k]).1 (sizeT ts[k]).2 (ts[k].k == 2)).2.2) := by
  have e : ts.getD k (.mk 0 ⟨#[]⟩ [] [] false) = ts[k] := by simp [h]
  simp only [parK, e]
theorem parK_len (ts : List Ty) (g : Gv) : ∀ k, (parK ts g k).1.length = k ∧ (parK ts g k).2.1.length = k
  | 0 => ⟨rfl, rfl⟩
  | k + 1 => by
    have := parK_len ts g k
    simp [parK, this]
/-- sizes are at least 1 -/
theorem size_pos : ∀ (d : Nat) (T : Ty), mayT d T = true → 1 ≤ (sizeT T).1
  | 0, T, h => by cases h
  | d + 1, T, h => by
    rw [sizeT_eq]
    by_cases h2 : T.k = 2
    · rw [if_pos h2]; decide
    · rw [if_neg h2]
      by_cases h3 : T.k = 3
      · rw [if_pos h3]
        have hp := (may_st h h3).2.2.2.1
        have hl : 1 ≤ T.ps.length := by
          have h' := h
          unfold mayT at h'
          rw [if_neg (by omega), if_pos h3] at h'
          simp only [Bool.and_eq_true, decide_eq_true_eq] at h'
          omega
        obtain ⟨m, hm⟩ : ∃ m, T.ps.length = m + 1 := ⟨T.ps.length - 1, by omega⟩
        have h1 := size_pos d _ (hp _ (List.getElem_mem (by omega : m < T.ps.length)))
        have he : 1 ≤ endZ (T.ps.map sizeT) (T.ps.map sizeT).length := by
          rw [List.length_map, hm, endZ_succ]
          have : (T.ps.map sizeT).getD m (0, false) = sizeT T.ps[m] := by simp [hm]
          rw [this]
          omega
        unfold sizeZ
        simp only
        split <;> omega
      · rw [if_neg h3]; decide
end Go.Proofs.Ytkkjkbljgaipcaa
