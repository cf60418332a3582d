/- Names: what is a name; the walk of types.IsName. -/
import Derived.Test.YtgegfbopogcjpaaDoorShelf
import Derived.Test.YtgegfbopogcjpaaDoorChr
import Derived.Test.YtgegfbopogcjpaaDoorLib
import Derived.Deep.LoopGhost
import Derived.WalkKit
import Derived.Lib.Hide
namespace Go.Proofs.YtgegfbopogcjpaaDoor
open Go.RowKit
set_option linter.unusedVariables false
set_option linter.unusedSimpArgs false
set_option maxRecDepth 100000
def wordL : List UInt8 := [32, 98, 114, 101, 97, 107, 32, 99, 111, 117, 110, 116, 32, 101, 108, 115, 101, 32, 101, 120, 116, 101, 114, 110, 32, 101, 120, 116, 114, 97, 32, 102, 110, 32, 105, 102, 32, 105, 110, 116, 32, 108, 111, 110, 103, 32, 112, 117, 116, 32, 114, 101, 116, 117, 114, 110, 32, 115, 116, 97, 116, 105, 99, 32, 115, 116, 114, 117, 99, 116, 32, 119, 104, 105, 108, 101, 32]
def reserved (s : ByteArray) : Bool := Lib.contains wordL (32 :: (s.data.toList ++ [32]))
def nameOf (s : ByteArray) : Bool := decide (1 ≤ s.size) && decide (s.size ≤ 16) && letterI (byteI s 0) && (List.range s.size).all (fun k => k == 0 || chrI (byteI s k)) && !reserved s
theorem letter_any (c : Int) (w : World) : Calls Tryd.prog 40 #[.int .u8 c] w fun e w' => e = .returned (.bool (letterI c)) ∧ w' = w := by
  go_enter Tryd.func40, Tryd.ntmps40
  go_wp2
  all_goals go_ret
  all_goals refine ⟨?_, rfl⟩
  all_goals
    have e1 : letterI c = ((decide (97 ≤ c) && decide (c ≤ 122)) || (decide (65 ≤ c) && decide (c ≤ 90))) := rfl
    rw [e1]
    simp_all <;> (try omega)
theorem name_false {s : ByteArray} (h : nameOf s = true) : 1 ≤ s.size ∧ s.size ≤ 16 ∧ letterI (byteI s 0) = true ∧ (∀ k, 1 ≤ k → k < s.size → chrI (byteI s k) = true) ∧ reserved s = false := by
  simp only [nameOf, Bool.and_eq_true, decide_eq_true_eq, List.all_eq_true, List.mem_range, Bool.or_eq_true, beq_iff_eq, Bool.not_eq_true'] at h
  obtain ⟨⟨⟨⟨h1, h2⟩, h3⟩, h4⟩, h5⟩ := h
  exact ⟨h1, h2, h3, fun k hk hs => by rcases h4 k hs with h | h <;> first | omega | exact h, h5⟩
theorem name_of {s : ByteArray} (h1 : 1 ≤ s.size) (h2 : s.size ≤ 16) (h3 : letterI (byteI s 0) = true) (h4 : ∀ k, 1 ≤ k → k < s.size → chrI (byteI s k) = true) : nameOf s = !reserved s := by
  have : (List.range s.size).all (fun k => k == 0 || chrI (byteI s k)) = true := by
    rw [List.all_eq_true]
    intro k hk
    rw [List.mem_range] at hk
    by_cases h0 : k = 0
    · simp [h0]
    · simp [h4 k (by omega) hk]
  simp [nameOf, h1, h2, h3, this]
theorem name_no {s : ByteArray} (h : ¬(1 ≤ s.size ∧ s.size ≤ 16 ∧ letterI (byteI s 0) = true ∧ ∀ k, 1 ≤ k → k < s.size → chrI (byteI s k) = true)) : nameOf s = false := by
  rcases hn : nameOf s with _ | _
  · rfl
  · obtain ⟨a, b, c, d, _⟩ := name_false hn
    exact absurd ⟨a, b, c, d⟩ h
theorem chr_split (c : Int) : chrI c = (letterI c || c == 95 || (decide (48 ≤ c) && decide (c ≤ 57))) := rfl
theorem add_bytes (a b : ByteArray) : (a ++ b).data.toList = a.data.toList ++ b.data.toList := by simp
def NameL (s : ByteArray) (i : Value) : Prop := ∃ k : Nat, i = .int .i64 k ∧ 1 ≤ k ∧ k ≤ s.size ∧ ∀ j, 1 ≤ j → j < k → chrI (byteI s j) = true
theorem isName_any (s : ByteArray) (w : World) (hm : ML w) : Calls Tryd.prog 15 #[.string s] w fun e w' => e = .returned (.bool (nameOf s)) ∧ w' = w := by
  by_cases h1 : 1 ≤ s.size
  · by_cases h2 : s.size ≤ 16
    · have e0 := byteI_at (s := s) (k := 0) h1
      have d0 : 0 < s.size := h1
      have d1 : ¬ ((s.size : Int) < 1) := by omega
      have d2 : ¬ (16 < (s.size : Int)) := by omega
      rcases hl : letterI (byteI s 0) with _ | _
      · have hn : nameOf s = false := name_no (by rintro ⟨-, -, h3, -⟩; rw [hl] at h3; cases h3)
        have hl0 : letterI ((s[0]'h1).toNat : Int) = false := by rw [← e0]; exact hl
        clear hl
        go_enter Tryd.func15, Tryd.ntmps15
        go_wp2_with (first
          | (go_at_call 40; refine (letter_any _ _).mono ?_; rintro e w' ⟨rfl, hw⟩; subst hw))
        go_ret
        first | exact ⟨rfl, rfl⟩ | (rw [hn]; exact ⟨rfl, rfl⟩)
      · have hl0 : letterI ((s[0]'h1).toNat : Int) = true := by rw [← e0]; exact hl
        go_enter Tryd.func15, Tryd.ntmps15
        go_wp2_with (first
          | (go_at_call 40; refine (letter_any _ _).mono ?_; rintro e w' ⟨rfl, hw⟩; subst hw))
        obtain ⟨wo, rfl⟩ : ∃ wo : World, wo = w' := ⟨_, rfl⟩
        go_loopw [2, 4, 5] (fun _ i _ wr => NameL s i ∧ wr = wo) (fun _ i _ _ => s.size - (intOf i).toNat)
        case atStart => exact ⟨⟨1, rfl, Nat.le_refl _, h1, fun j _ h => absurd h (by omega)⟩, rfl⟩
        case round =>
          obtain ⟨⟨k, rfl, hk1, hk2, hg⟩, rfl⟩ := hrel
          by_cases hlt : k < s.size
          · have hi : (k : Int) < (s.size : Int) := by omega
            have hb := byteI_at hlt
            go_wp2_with (first
              | (go_at_call 40; refine (letter_any _ _).mono ?_; rintro e w' ⟨rfl, hw⟩; subst hw))
            all_goals first
              | (go_ret
                 rw [name_no (by
                   rintro ⟨-, -, -, h4⟩
                   have h4k := h4 k hk1 hlt
                   rw [hb, chr_split] at h4k
                   simp_all
                   try omega)]
                 exact ⟨rfl, rfl⟩)
              | (have hc : chrI (byteI s k) = true := by
                   rw [hb, chr_split]
                   simp_all
                   try omega
                 go_roundw
                 case measure => simp [intOf]; omega
                 case rel => exact ⟨⟨k + 1, by go_num, by omega, by omega, fun j h1 h2 => by
                   rcases Nat.lt_or_ge j k with h | h
                   · exact hg j h1 h
                   · rw [show j = k by omega]
                     exact hc⟩, by first | trivial | rfl⟩)
          · have hi : (s.size : Int) ≤ (k : Int) := by omega
            go_wp2_with (first
              | (go_at_call 41; refine (contains_any _ _ _ (by decide) (by assumption)).mono ?_; rintro e w' ⟨rfl, hw⟩; subst hw))
            go_ret
            rw [name_of h1 h2 hl (fun j a b => hg j a (by omega)), reserved]
            exact ⟨rfl, rfl⟩
    · have hn : nameOf s = false := name_no (by rintro ⟨-, h2', -⟩; exact h2 h2')
      have d1 : ¬ ((s.size : Int) < 1) := by omega
      have d2 : 16 < (s.size : Int) := by omega
      go_enter Tryd.func15, Tryd.ntmps15
      go_wp2
      go_ret
      first | exact ⟨rfl, rfl⟩ | (rw [hn]; exact ⟨rfl, rfl⟩)
  · have hn : nameOf s = false := name_no (by rintro ⟨h1', -⟩; exact h1 h1')
    have d1 : (s.size : Int) < 1 := by omega
    go_enter Tryd.func15, Tryd.ntmps15
    go_wp2
    go_ret
    first | exact ⟨rfl, rfl⟩ | (rw [hn]; exact ⟨rfl, rfl⟩)
end Go.Proofs.YtgegfbopogcjpaaDoor
