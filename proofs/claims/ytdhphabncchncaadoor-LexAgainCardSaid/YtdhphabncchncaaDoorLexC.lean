/- The token of a row that begins with a digit (lex.number). -/
import Derived.Test.YtdhphabncchncaaDoorLexB
import Derived.Test.YtdhphabncchncaaDoorLexN
import Derived.Shelf.Strings.SlTrimAscii
import Derived.WalkSpells
namespace Go.Proofs.YtdhphabncchncaaDoor
open Go.RowKit Go.Shelf
set_option linter.unusedVariables false
set_option linter.unusedSimpArgs false
set_option maxRecDepth 100000
set_option maxHeartbeats 1000000
/-- the library's variable ErrRange holds an error -/
def ER (w : World) : Prop := ∃ tp p, w.var? Tryd.prog "strconv.ErrRange" = some #[.iface tp p]
theorem ER.keep {w w' : World} (h : ER w) (hb : Below w.heap.size w w') : ER w' := by
  obtain ⟨tp, p, h⟩ := h
  refine ⟨tp, p, ?_⟩
  unfold World.var? at h ⊢
  cases hg : Tryd.prog.globalNamed "strconv.ErrRange" with
  | none => rw [hg] at h; cases h
  | some g =>
    rw [hg] at h
    simp only [Option.bind_some] at h ⊢
    have hlt : g < w.heap.size := by
      rcases Nat.lt_or_ge g w.heap.size with h' | h'
      · exact h'
      · rw [Array.getElem?_eq_none h'] at h; cases h
    rw [hb.block g hlt]
    exact h
theorem ER.only {w w' : World} {g : Nat} (h : ER w) (ho : Only w w' g) (hg : ∀ k, Tryd.prog.globalNamed "strconv.ErrRange" = some k → k ≠ g) : ER w' := by
  obtain ⟨tp, p, h⟩ := h
  refine ⟨tp, p, ?_⟩
  unfold World.var? at h ⊢
  cases hk : Tryd.prog.globalNamed "strconv.ErrRange" with
  | none => rw [hk] at h; cases h
  | some k =>
    rw [hk] at h
    simp only [Option.bind_some] at h ⊢
    have hlt : k < w.heap.size := by
      rcases Nat.lt_or_ge k w.heap.size with h' | h'
      · exact h'
      · rw [Array.getElem?_eq_none h'] at h; cases h
    rw [ho.1.block k hlt (fun e => hg k hk (by injection e))]
    exact h
def tenB : ByteArray := ⟨#[48, 49, 50, 51, 52, 53, 54, 55, 56, 57]⟩
theorem ten_dig (b : UInt8) : tenB.data.toList.contains b = digU b := by
  rw [Bool.eq_iff_iff, digU_iff, List.contains_iff_mem]
  simp only [tenB, List.mem_cons, List.not_mem_nil, or_false, ← UInt8.toNat_inj]
  simp
  omega
theorem dw_nil {p : UInt8 → Bool} {l : List UInt8} : l.dropWhile p = [] ↔ ∀ b ∈ l, p b = true := by
  induction l with
  | nil => simp
  | cons b l ih =>
    rw [List.dropWhile_cons]
    split
    · rename_i h; rw [ih]; simp [h]
    · rename_i h; simp [h]
theorem trim_all {s : ByteArray} (h : allDigits s = true) : Lib.trimS s.data.toList tenB.data.toList = [] := by
  have h' : ∀ b ∈ s.data.toList, digU b = true := by
    unfold allDigits at h; rw [List.all_eq_true] at h; exact h
  have e : Lib.trimRightS s.data.toList tenB.data.toList = [] := by
    unfold Lib.trimRightS
    rw [dw_nil.2]
    · rfl
    · intro b hb
      rw [ten_dig]
      exact h' b (List.mem_reverse.1 hb)
  rw [Lib.trimS, e]
  rfl
theorem trim_some {s : ByteArray} (h : allDigits s = false) : ∃ b r, Lib.trimS s.data.toList tenB.data.toList = b :: r := by
  rcases e : Lib.trimS s.data.toList tenB.data.toList with _ | ⟨b, r⟩
  · exfalso
    have h' : ∃ b ∈ s.data.toList, digU b = false := by
      unfold allDigits at h
      rw [List.all_eq_false] at h
      obtain ⟨b, hb, h1⟩ := h
      refine ⟨b, hb, ?_⟩
      rcases h2 : digU b with _ | _
      · rfl
      · exact absurd h2 h1
    obtain ⟨b, hb, hn⟩ := h'
    unfold Lib.trimS Lib.trimLeftS at e
    rw [dw_nil] at e
    have hd : (s.data.toList.reverse.dropWhile (tenB.data.toList.contains ·)) = [] ∨ ∃ c r, s.data.toList.reverse.dropWhile (tenB.data.toList.contains ·) = c :: r := by
      cases s.data.toList.reverse.dropWhile (tenB.data.toList.contains ·) with
      | nil => exact .inl rfl
      | cons c r => exact .inr ⟨c, r, rfl⟩
    rcases hd with hd | ⟨c, r, hd⟩
    · rw [dw_nil] at hd
      have := hd b (List.mem_reverse.2 hb)
      rw [ten_dig, hn] at this
      cases this
    · have hc : tenB.data.toList.contains c = false := by
        have := List.head?_dropWhile_not (tenB.data.toList.contains ·) s.data.toList.reverse
        rw [hd] at this
        simpa using this
      have hm := e c (by unfold Lib.trimRightS; rw [hd]; simp)
      rw [hc] at hm
      cases hm
  · exact ⟨b, r, rfl⟩
theorem trim_any (s : ByteArray) (w : World) (hs : s.size ≤ 4000) :
    Calls Tryd.prog 26 #[.string s, .string tenB] w fun e w' => e = .returned (.string ⟨(Lib.trimS s.data.toList tenB.data.toList).toArray⟩) ∧ Below w.heap.size w w' :=
  Any.strings_Trim_laid sh_lays160 (by kernel_rfl) s tenB w (by omega) (by decide) (ascii_of_all (by decide))
theorem suffix_long (r : ByteArray) (h1 : 1 ≤ r.size) : Lib.hasSuffix r.data.toList [76] = isLong r := by
  have hne : r.data.toList ≠ [] := by
    intro h
    have hz : r.data.toList.length = 0 := by rw [h]; rfl
    have hsz : r.data.toList.length = r.size := Array.length_toList
    omega
  have hb : byteI r (r.size - 1) = ((r.data.toList.getLast hne).toNat : Int) := by
    rw [byteI_at (by omega), List.getLast_eq_getElem]
    have hsz : r.data.toList.length = r.size := Array.length_toList
    have e : ∀ i (h : i < r.data.toList.length) (h' : i < r.size), r.data.toList[i] = r[i] := fun i h h' => by
      rw [Array.getElem_toList]; rfl
    rw [e _ _ (by omega)]
    all_goals first | omega | (congr 2; done) | (congr 2; simp only [hsz]; done)
  unfold isLong
  rw [hb]
  conv => lhs; rw [← List.dropLast_concat_getLast hne]
  generalize r.data.toList.getLast hne = x
  generalize r.data.toList.dropLast = l
  unfold Lib.hasSuffix List.isSuffixOf
  rw [Bool.eq_iff_iff]
  simp [List.isPrefixOf, ← UInt8.toNat_inj]
  omega
end Go.Proofs.YtdhphabncchncaaDoor
