/- Plain: no two words of a call lie together; longs lie in an even one and the next one; all places are in the area. No program is in sight. -/
import Derived.Test.YtkjlmllhhfacfaaAbiU
namespace Go.Proofs.Ytkjlmllhhfacfaa
open Go.RowKit
set_option linter.unusedVariables false
set_option linter.unusedSimpArgs false
set_option maxRecDepth 100000
/-- the how-manieth word that a giver gives -/
def Gv.code (g : Gv) : Nat := if g.r < 4 then g.r else 4 + g.p
def Pl.code (x : Pl) : Nat := if x.s then 4 + x.n else x.n
def GOk (g : Gv) : Prop := g.r ≤ 4 ∧ (g.r < 4 → g.p = 0)
/-- words that lie one behind the other, from a up to b -/
def Inc (a b : Nat) (l : List Pl) : Prop := l.Pairwise (fun x y => x.code < y.code) ∧ ∀ x ∈ l, a ≤ x.code ∧ x.code < b ∧ (x.s = false → x.n ≤ 3)
theorem Inc.nil_ (a b : Nat) : Inc a b [] := ⟨List.Pairwise.nil, fun x h => by cases h⟩
theorem Inc.mono {a b c d : Nat} {l : List Pl} (h : Inc a b l) (h1 : c ≤ a) (h2 : b ≤ d) : Inc c d l :=
  ⟨h.1, fun x hx => by have := h.2 x hx; exact ⟨by omega, by omega, this.2.2⟩⟩
theorem Inc.app {a b c : Nat} {l m : List Pl} (h : Inc a b l) (k : Inc b c m) (h1 : a ≤ b) (h2 : b ≤ c) : Inc a c (l ++ m) :=
  ⟨List.pairwise_append.2 ⟨h.1, k.1, fun x hx y hy => by have := (h.2 x hx).2.1; have := (k.2 y hy).1; omega⟩, fun x hx => by
    rcases List.mem_append.1 hx with hx | hx
    · have := h.2 x hx; exact ⟨this.1, by omega, this.2.2⟩
    · have := k.2 x hx; exact ⟨by omega, this.2.1, this.2.2⟩⟩
theorem gok_next {g : Gv} (h : GOk g) : GOk g.next ∧ g.next.code = g.code + 1 ∧ g.loc.code = g.code ∧ (g.loc.s = false → g.loc.n ≤ 3) := by
  obtain ⟨r, p⟩ := g
  obtain ⟨h1, h2⟩ := h
  have h1' : r ≤ 4 := h1
  have h2' : r < 4 → p = 0 := h2
  by_cases h4 : r < 4
  · have := h2' h4
    subst this
    have e1 : Gv.next ⟨r, 0⟩ = ⟨r + 1, 0⟩ := by simp [Gv.next, h4]
    have e2 : Gv.loc ⟨r, 0⟩ = ⟨false, r⟩ := by simp [Gv.loc, h4]
    have e3 : Gv.code ⟨r, 0⟩ = r := by simp [Gv.code, h4]
    rw [e1, e2, e3]
    refine ⟨⟨by show r + 1 ≤ 4; omega, fun _ => rfl⟩, ?_, rfl, fun _ => by show r ≤ 3; omega⟩
    show (if r + 1 < 4 then r + 1 else 4 + 0) = r + 1
    split <;> omega
  · have e1 : Gv.next ⟨r, p⟩ = ⟨r, p + 1⟩ := by simp [Gv.next, h4]
    have e2 : Gv.loc ⟨r, p⟩ = ⟨true, p⟩ := by simp [Gv.loc, h4]
    have e3 : Gv.code ⟨r, p⟩ = 4 + p := by simp [Gv.code, h4]
    have e4 : Gv.code ⟨r, p + 1⟩ = 4 + (p + 1) := by simp [Gv.code, h4]
    rw [e1, e2, e3, e4]
    exact ⟨⟨h1', fun h => absurd h h4⟩, by omega, rfl, fun h => by cases h⟩
theorem gok_even {g : Gv} (h : GOk g) : GOk g.even ∧ g.code ≤ g.even.code := by
  obtain ⟨r, p⟩ := g
  obtain ⟨h1, h2⟩ := h
  have h1' : r ≤ 4 := h1
  have h2' : r < 4 → p = 0 := h2
  by_cases h4 : r < 4
  · have := h2' h4
    subst this
    have e1 : Gv.even ⟨r, 0⟩ = ⟨r + r % 2, 0⟩ := by simp [Gv.even, h4]
    have e3 : Gv.code ⟨r, 0⟩ = r := by simp [Gv.code, h4]
    rw [e1, e3]
    refine ⟨⟨by show r + r % 2 ≤ 4; omega, fun _ => rfl⟩, ?_⟩
    show r ≤ (if r + r % 2 < 4 then r + r % 2 else 4 + 0)
    split <;> omega
  · have e1 : Gv.even ⟨r, p⟩ = ⟨r, p + p % 2⟩ := by simp [Gv.even, h4]
    have e3 : Gv.code ⟨r, p⟩ = 4 + p := by simp [Gv.code, h4]
    have e4 : Gv.code ⟨r, p + p % 2⟩ = 4 + (p + p % 2) := by simp [Gv.code, h4]
    rw [e1, e3, e4]
    exact ⟨⟨h1', fun h => absurd h h4⟩, by omega⟩
theorem gok_nexts {g : Gv} (h : GOk g) : ∀ n, GOk (g.nexts n).2 ∧ (g.nexts n).2.code = g.code + n ∧ Inc g.code (g.nexts n).2.code (g.nexts n).1
  | 0 => ⟨h, rfl, Inc.nil_ _ _⟩
  | n + 1 => by
    obtain ⟨h1, h2, h3⟩ := gok_nexts h n
    obtain ⟨k1, k2, k3, k4⟩ := gok_next h1
    refine ⟨k1, by simp only [Gv.nexts]; omega, ?_⟩
    simp only [Gv.nexts]
    refine h3.app ⟨List.pairwise_singleton _ _, fun x hx => ?_⟩ (by omega) (by omega)
    rw [List.mem_singleton] at hx
    subst hx
    exact ⟨by omega, by omega, k4⟩
theorem gok_wst {g : Gv} (h : GOk g) (n : Nat) (ev lg : Bool) : GOk (g.wst n ev lg) ∧ g.code ≤ (g.wst n ev lg).code := by
  have h1 : GOk (if ev then g.even else g) ∧ g.code ≤ (if ev then g.even else g).code := by
    cases ev
    · exact ⟨h, Nat.le_refl _⟩
    · exact gok_even h
  unfold Gv.wst
  simp only
  generalize (if ev then g.even else g) = g1 at *
  split
  · have h2 : GOk ⟨4, g1.p⟩ := ⟨Nat.le_refl _, fun h => absurd h (by simp)⟩
    have h3 := gok_even h2
    refine ⟨h3.1, Nat.le_trans (Nat.le_trans h1.2 ?_) h3.2⟩
    unfold Gv.code
    simp only
    split <;> (rw [if_neg (by omega)]; omega)
  · exact h1
theorem gok_par {g : Gv} (h : GOk g) (n : Nat) (ev lg : Bool) : GOk (g.par n ev lg).2.2 ∧ g.code ≤ (g.par n ev lg).2.2.code ∧ Inc g.code (g.par n ev lg).2.2.code (g.par n ev lg).1 := by
  by_cases h4 : 4 < n
  · rw [par_copied g n ev lg h4]
    obtain ⟨k1, k2, k3, k4⟩ := gok_next h
    refine ⟨k1, by simp only; omega, ⟨List.pairwise_singleton _ _, fun x hx => ?_⟩⟩
    rw [List.mem_singleton] at hx
    subst hx
    simp only
    exact ⟨by omega, by omega, k4⟩
  · rw [par_eq g n ev lg (by omega)]
    have hw := gok_wst h n ev lg
    obtain ⟨h1, h2, h3⟩ := gok_nexts hw.1 n
    exact ⟨h1, by simp only; omega, h3.mono hw.2 (Nat.le_refl _)⟩
theorem gok_parK (ts : List Ty) {g : Gv} (h : GOk g) : ∀ k, GOk (parK ts g k).2.2 ∧ g.code ≤ (parK ts g k).2.2.code ∧ Inc g.code (parK ts g k).2.2.code (parK ts g k).1.flatten
  | 0 => ⟨h, Nat.le_refl _, Inc.nil_ _ _⟩
  | k + 1 => by
    obtain ⟨h1, h2, h3⟩ := gok_parK ts h k
    simp only [parK]
    generalize (sizeT (ts.getD k (.mk 0 ⟨#[]⟩ [] [] false))).1 = n
    generalize (sizeT (ts.getD k (.mk 0 ⟨#[]⟩ [] [] false))).2 = ev
    generalize ((ts.getD k (.mk 0 ⟨#[]⟩ [] [] false)).k == 2) = lg
    obtain ⟨k1, k2, k3⟩ := gok_par h1 n ev lg
    refine ⟨k1, by omega, ?_⟩
    rw [List.flatten_append]
    refine h3.app ?_ h2 k2
    simpa using k3
theorem parK_getD (ts : List Ty) (g : Gv) : ∀ k i, i < k → ∃ g' : Gv, (GOk g → GOk g') ∧ (parK ts g k).1[i]? = some (g'.par (sizeT (ts.getD i (.mk 0 ⟨#[]⟩ [] [] false))).1 (sizeT (ts.getD i (.mk 0 ⟨#[]⟩ [] [] false))).2 ((ts.getD i (.mk 0 ⟨#[]⟩ [] [] false)).k == 2)).1
  | 0, i, h => absurd h (Nat.not_lt_zero _)
  | k + 1, i, h => by
    by_cases hi : i < k
    · obtain ⟨g', h0, h1⟩ := parK_getD ts g k i hi
      refine ⟨g', h0, ?_⟩
      simp only [parK]
      rw [List.getElem?_append_left (by rw [(parK_len ts g k).1]; exact hi)]
      exact h1
    · obtain rfl : i = k := by omega
      refine ⟨(parK ts g i).2.2, fun h => (gok_parK ts h i).1, ?_⟩
      simp only [parK]
      rw [List.getElem?_append_right (by rw [(parK_len ts g i).1]; exact Nat.le_refl _), (parK_len ts g i).1]
      simp
/-- longs -/
theorem par_long {g : Gv} (h : GOk g) : ∃ n s, (g.par 2 true true).1 = [⟨s, n⟩, ⟨s, n + 1⟩] ∧ n % 2 = 0 := by
  rw [par_eq g 2 true true (by omega)]
  obtain ⟨r, p⟩ := g
  obtain ⟨h1, h2⟩ := h
  simp only at h1 h2
  by_cases h4 : r < 4
  · have := h2 h4
    subst this
    have : r = 0 ∨ r = 1 ∨ r = 2 ∨ r = 3 := by omega
    rcases this with h | h | h | h <;> subst h
    · exact ⟨0, false, by decide, by decide⟩
    · exact ⟨2, false, by decide, by decide⟩
    · exact ⟨2, false, by decide, by decide⟩
    · exact ⟨0, true, by decide, by decide⟩
  · obtain rfl : r = 4 := by omega
    have e : (Gv.wst ⟨4, p⟩ 2 true true) = ⟨4, p + p % 2⟩ := by
      unfold Gv.wst Gv.even
      simp
      omega
    rw [e]
    refine ⟨p + p % 2, true, ?_, by omega⟩
    simp [Gv.nexts, Gv.loc, Gv.next]
/-- the hidden words -/
def hidL (V : Plc) : List Pl := (if 0 ≤ V.res then [⟨false, V.res.toNat⟩] else []) ++ (if 0 ≤ V.cnt then [⟨false, V.cnt.toNat⟩] else [])
theorem gok_B (T : Ty) : GOk (gvB T) := by unfold gvB gvA Gv.next GOk; split <;> split <;> simp
theorem hid_inc (T : Ty) : Inc 0 (gvB T).code (hidL (abiG T)) := by
  unfold hidL abiG gvB gvA
  simp only
  by_cases h2 : 2 < (sizeT (lastT T)).1
  · cases hm : T.many
    · simp only [if_pos h2, if_neg (show ¬ (false = true) by decide)]
      exact ⟨by simp, fun x hx => by simp at hx; subst hx; decide⟩
    · simp only [if_pos h2, if_pos rfl]
      refine ⟨?_, fun x hx => ?_⟩
      · decide
      · simp at hx
        rcases hx with rfl | rfl <;> decide
  · cases hm : T.many
    · simp only [if_neg h2, if_neg (show ¬ (false = true) by decide)]
      exact ⟨by simp, fun x hx => by simp at hx⟩
    · simp only [if_neg h2, if_pos rfl]
      refine ⟨?_, fun x hx => ?_⟩
      · decide
      · simp at hx
        subst hx
        decide
/-- all words of a call -/
def allL (V : Plc) : List Pl := hidL V ++ V.pars.flatten
theorem abiE_nil {T : Ty} {bs : List Ty} (h : abiE T bs = 0) : abiE T [] = 0 := by
  unfold abiE at h ⊢
  by_cases h1 : T.k ≠ 4 ∨ may T = false
  · rw [if_pos h1] at h; cases h
  · rw [if_neg h1]
    simp
theorem abiV_eq {T : Ty} {bs : List Ty} (h : abiE T bs = 0) : ∃ a : Nat, abiV T bs = { abiG T with area := a } ∧ a % 2 = 0 ∧ (parK T.ps (gvB T) (T.ps.length - 1)).2.2.p ≤ a := by
  refine ⟨_, by rw [abiV, if_pos h], ?_, ?_⟩
  · omega
  · split <;> omega
theorem apart_all {T : Ty} {bs : List Ty} (h : abiE T bs = 0) : (allL (abiV T bs)).Nodup ∧ ∀ x ∈ allL (abiV T bs), (x.s = false → x.n ≤ 3) ∧ (x.s = true → x.n < (abiV T bs).area) := by
  obtain ⟨a, hV, -, ha⟩ := abiV_eq h
  obtain ⟨h1, h2, h3⟩ := gok_parK T.ps (gok_B T) (T.ps.length - 1)
  have hi : Inc 0 (parK T.ps (gvB T) (T.ps.length - 1)).2.2.code (allL (abiV T bs)) := by
    rw [hV]
    exact (hid_inc T).app h3 (Nat.zero_le _) h2
  refine ⟨hi.1.imp (fun hxy he => by subst he; omega), fun x hx => ⟨(hi.2 x hx).2.2, fun hs => ?_⟩⟩
  rw [hV]
  have h4 := (hi.2 x hx).2.1
  generalize (parK T.ps (gvB T) (T.ps.length - 1)).2.2 = G at *
  unfold Pl.code Gv.code at h4
  rw [hs] at h4
  simp only [if_true] at h4
  simp only
  split at h4 <;> omega
theorem apart_extra {T : Ty} {bs : List Ty} (h : abiE T bs = 0) (hm : T.many = true) : ∀ l ∈ (abiV T bs).pars, ∀ x ∈ l, x.s = true → x.n < (abiV T bs).extra := by
  intro l hl x hx hs
  obtain ⟨a, hV, -, ha⟩ := abiV_eq h
  obtain ⟨h1, h2, h3⟩ := gok_parK T.ps (gok_B T) (T.ps.length - 1)
  rw [hV] at hl ⊢
  have h4 := (h3.2 x (List.mem_flatten.2 ⟨l, hl, hx⟩)).2.1
  simp only [abiG, hm, if_true]
  generalize (parK T.ps (gvB T) (T.ps.length - 1)).2.2 = G at *
  unfold Pl.code Gv.code at h4
  rw [hs] at h4
  simp only [if_true] at h4
  split at h4 <;> omega
theorem apart_long {T : Ty} {bs : List Ty} (h : abiE T bs = 0) (i : Nat) (hi : i < (abiV T bs).pars.length) : i < T.ps.length - 1 ∧ ∀ (hp : i < T.ps.length), T.ps[i].k = 2 → ∃ n s, (abiV T bs).pars[i] = [⟨s, n⟩, ⟨s, n + 1⟩] ∧ n % 2 = 0 := by
  obtain ⟨a, hV, -, ha⟩ := abiV_eq h
  have hl : (abiV T bs).pars.length = T.ps.length - 1 := by rw [hV]; exact (parK_len T.ps (gvB T) (T.ps.length - 1)).1
  refine ⟨by omega, fun hp hk => ?_⟩
  obtain ⟨g', h0, h1⟩ := parK_getD T.ps (gvB T) (T.ps.length - 1) i (by omega)
  have e : T.ps.getD i (.mk 0 ⟨#[]⟩ [] [] false) = T.ps[i] := by simp [hp]
  have hs : sizeT T.ps[i] = (2, true) := by rw [sizeT_eq, if_pos hk]
  rw [e, hs, hk] at h1
  have h2 : (abiV T bs).pars[i]? = some (g'.par 2 true true).1 := by rw [hV]; exact h1
  rw [List.getElem?_eq_getElem hi] at h2
  injection h2 with h2
  rw [h2]
  exact par_long (h0 (gok_B T))
theorem abiV_nil {T : Ty} {bs : List Ty} (h : abiE T bs = 0) : ∃ a b : Nat, abiV T bs = { abiG T with area := a } ∧ abiV T [] = { abiG T with area := b } ∧ a % 2 = 0 := by
  obtain ⟨a, h1, h2, -⟩ := abiV_eq h
  obtain ⟨b, h3, -, -⟩ := abiV_eq (abiE_nil h)
  exact ⟨a, b, h1, h3, h2⟩
end Go.Proofs.Ytkjlmllhhfacfaa
