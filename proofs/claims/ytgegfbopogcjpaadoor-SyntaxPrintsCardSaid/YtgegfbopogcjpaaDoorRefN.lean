/- (For seats without api.Type.) The document's words on names: letters, digits, a text among texts, what is a name. -/
import Derived.Test.YtgegfbopogcjpaaDoorTypP
import Derived.Test.YtgegfbopogcjpaaDoorLib
import Derived.ProofKit
namespace Go.Proofs.YtgegfbopogcjpaaDoor
open Go.RowKit
set_option linter.unusedVariables false
set_option linter.unusedSimpArgs false
set_option maxRecDepth 100000
open Classical in
noncomputable def strN (l : List ByteArray) (s : ByteArray) : Bool := decide (s ∈ l)
theorem Row.strN_ {w : World} {A : Option Addr} {l : List ByteArray} (h : Row w A (l.map .string)) {k : Nat} (hk : k < l.length) :
    ∃ b o, A = some ⟨b, o, none⟩ ∧ b < w.heap.size ∧ w.cell? ⟨b, o + k, none⟩ = some (.string l[k]) := by
  obtain ⟨b, o, hA, hlt, hc⟩ := h.at_ (fun e => by have := congrArg List.length e; simp at this; subst this; simp at hk)
  exact ⟨b, o, hA, hlt, hc k _ (by simp [hk])⟩
def digN (c : Int) : Bool := decide (48 ≤ c) && decide (c ≤ 57)
theorem n6_letterR_any (c : Int) (w : World) : Calls Tryd.prog 46 #[.int .u8 c] w fun e w' => e = .returned (.bool (letterI c)) ∧ w' = w := by
  go_enter Tryd.func46, Tryd.ntmps46
  go_wp2
  all_goals go_ret
  all_goals refine ⟨?_, rfl⟩
  all_goals
    have e1 : letterI c = ((decide (97 ≤ c) && decide (c ≤ 122)) || (decide (65 ≤ c) && decide (c ≤ 90))) := rfl
    rw [e1]
    simp_all <;> (try omega)
theorem n6_digitR_any (c : Int) (w : World) : Calls Tryd.prog 47 #[.int .u8 c] w fun e w' => e = .returned (.bool (digN c)) ∧ w' = w := by
  go_enter Tryd.func47, Tryd.ntmps47
  go_wp2
  all_goals go_ret
  all_goals refine ⟨?_, rfl⟩
  all_goals
    have e1 : digN c = (decide (48 ≤ c) && decide (c ≤ 57)) := rfl
    rw [e1]
    simp_all <;> (try omega)
theorem strN_no {l : List ByteArray} {s : ByteArray} (h : ∀ j (h : j < l.length), l[j] ≠ s) : strN l s = false := by
  simp only [strN, decide_eq_false_iff_not]
  intro hm
  obtain ⟨j, hj, e⟩ := List.getElem_of_mem hm
  exact h j hj e
theorem strN_yes {l : List ByteArray} {s : ByteArray} {k : Nat} (hk : k < l.length) (h : l[k] = s) : strN l s = true := by
  simp only [strN, decide_eq_true_eq]
  exact h ▸ List.getElem_mem hk
def n6_AmongRel (l : List ByteArray) (s : ByteArray) (i : Value) : Prop := ∃ k : Nat, k ≤ l.length ∧ i = .int .i64 k ∧ ∀ j (h : j < l.length), j < k → l[j] ≠ s
theorem n6_str_beq_iff' (x y : ByteArray) : (x.toList == y.toList) = true ↔ x = y := by
  rw [beq_iff_eq, ByteArray.toList_eq, ByteArray.toList_eq]
  exact ⟨fun h => ByteArray.ext (Array.toList_inj.mp h), fun h => by rw [h]⟩
theorem n6_among_any (A : Option Addr) (c : Nat) (l : List ByteArray) (s : ByteArray) (w : World) (hr : Row w A (l.map .string)) (hmx : l.length ≤ maxLen) :
    Calls Tryd.prog 48 #[.slice A l.length c, .string s] w fun e w' => e = .returned (.bool (strN l s)) ∧ w' = w := by
  unfold maxLen at hmx
  go_enter Tryd.func48, Tryd.ntmps48
  go_wp2
  go_loop [5] (fun i => n6_AmongRel l s i) (fun i => l.length - (intOf i).toNat)
  case atStart => exact ⟨0, Nat.zero_le _, rfl, fun j _ h => absurd h (by omega)⟩
  case round =>
    obtain ⟨k, hk, rfl, hg⟩ := hrel
    by_cases hlt : k < l.length
    · obtain ⟨b, o, rfl, hbl, c0⟩ := hr.strN_ hlt
      have hi : (k : Int) < (l.length : Int) := by omega
      have HG := Lib.hid hg
      clear hg
      by_cases he : l[k] = s
      · have hy := Lib.hid (strN_yes hlt he)
        have t : (l[k].toList == s.toList) = true := (n6_str_beq_iff' _ _).2 he
        clear he
        go_wp2
        go_ret
        exact ⟨by rw [hy.out]; rfl, rfl⟩
      · have HE := Lib.hid he
        have t : (l[k].toList == s.toList) = false := by
          rcases h : (l[k].toList == s.toList) with _ | _
          · rfl
          · exact absurd ((n6_str_beq_iff' _ _).1 h) he
        clear he
        go_wp2
        go_round
        case rel => exact ⟨k + 1, by omega, by go_num, fun j h hj => by
          rcases Nat.lt_or_ge j k with h1 | h1
          · exact HG.out j h h1
          · obtain rfl : j = k := by omega
            exact HE.out⟩
        case measure => (first | (simp [intOf]; done) | (simp [intOf]; omega))
    · have hi : (l.length : Int) ≤ (k : Int) := by omega
      have hy := Lib.hid (strN_no (l := l) (s := s) fun j h => hg j h (by omega))
      clear hg
      go_wp2
      go_ret
      exact ⟨by rw [hy.out]; rfl, rfl⟩
theorem n6_reserved_any (w : World) : Calls Tryd.prog 49 #[] w fun e w' => e = .returned (.slice (some ⟨w.heap.size, 0, none⟩) wordsR.length wordsR.length) ∧ Row w' (some ⟨w.heap.size, 0, none⟩) (wordsR.map .string) ∧ Below w.heap.size w w' := by
  go_enter Tryd.func49, Tryd.ntmps49
  go_wp2
  go_ret
  refine ⟨rfl, ?_, by (repeat (first | with_reducible assumption | with_reducible exact Below.refl _ _ | (refine Below.setCell ?_ (by first | omega | (simp; done) | (simp; omega)) _) | (refine Below.drewN_ ?_ _) | (refine Below.drew ?_) | (refine Below.alloc ?_ (by first | omega | (simp; done) | (simp; omega)) _)))⟩
  exact Row.of_blk (n := 14) (Blk.new_ _ _ _) (by kernel_rfl)
theorem n6_reserved_eq {s : ByteArray} (h : 32 ∉ s.data.toList) : reserved s = strN wordsR s := by
  rw [Bool.eq_iff_iff, reserved_iff s h]
  simp only [strN, decide_eq_true_eq, List.mem_map]
  exact ⟨fun ⟨a, ha, e⟩ => (Go.WideShapes.bytes_inj e) ▸ ha, fun hm => ⟨s, hm, rfl⟩⟩
def n6_NameRel (s : ByteArray) (i : Value) : Prop := ∃ k : Nat, k ≤ s.size ∧ i = .int .i64 k ∧ (1 ≤ k → letterI (byteI s 0) = true) ∧ ∀ j, 1 ≤ j → j < k → chrI (byteI s j) = true
theorem n6_nameR_any (s : ByteArray) (w : World) : Calls Tryd.prog 29 #[.string s] w fun e w' => e = .returned (.bool (nameOf s)) ∧ Below w.heap.size w w' := by
  by_cases h1 : 1 ≤ s.size
  · by_cases h2 : s.size ≤ 16
    · have d1 : ¬ ((s.size : Int) < 1) := by omega
      have d2 : ¬ (16 < (s.size : Int)) := by omega
      go_enter Tryd.func29, Tryd.ntmps29
      go_wp2
      go_loopw [3] (fun i wr => n6_NameRel s i ∧ wr = w) (fun i _ => s.size - (intOf i).toNat)
      case atStart => exact ⟨⟨0, Nat.zero_le _, rfl, fun h => absurd h (by omega), fun j _ h => absurd h (by omega)⟩, rfl⟩
      case round =>
        obtain ⟨⟨k, hk, rfl, hg0, hg⟩, rfl⟩ := hrel
        by_cases hlt : k < s.size
        · have hi : (k : Int) < (s.size : Int) := by omega
          have hb := byteI_at hlt
          have hno : (letterI (byteI s k) = false ∧ (k = 0 ∨ chrI (byteI s k) = false)) → nameOf s = false := fun ⟨hl, hc⟩ => name_no (by
            rintro ⟨-, -, h3, h4⟩
            by_cases h0 : k = 0
            · subst h0; rw [hl] at h3; cases h3
            · rcases hc with h | h
              · exact h0 h
              · rw [h4 k (by omega) hlt] at h; cases h)
          have hyes : (letterI (byteI s k) = true ∨ (k ≠ 0 ∧ chrI (byteI s k) = true)) → n6_NameRel s (.int .i64 ((k : Int) + 1)) := fun hc => ⟨k + 1, by omega, by go_num, fun _ => by
              by_cases h0 : k = 0
              · subst h0
                rcases hc with h | h
                · exact h
                · exact absurd rfl h.1
              · exact hg0 (by omega), fun j hj1 hj2 => by
              rcases Nat.lt_or_ge j k with h | h
              · exact hg j hj1 h
              · obtain rfl : j = k := by omega
                rcases hc with h | h
                · rw [chr_split, h]; rfl
                · exact h.2⟩
          rw [chr_split] at hno hyes
          rw [hb] at hno hyes
          clear hg0 hg hb
          have HNO := Lib.hid hno
          have HYES := Lib.hid hyes
          clear hno hyes
          have hc255 : ((s[k]'hlt).toNat : Int) < 256 := by have := (s[k]'hlt).toNat_lt; omega
          have hc0 : (0 : Int) ≤ ((s[k]'hlt).toNat : Int) := by omega
          rcases hl : letterI ((s[k]'hlt).toNat : Int) with _ | _
          · by_cases h0 : k = 0
            · subst h0
              have hn := Lib.hid (HNO.out ⟨hl, .inl rfl⟩)
              go_wp2_with (go_at_call 46; refine (n6_letterR_any _ _).mono ?_; rintro e w' ⟨rfl, hw⟩; subst hw)
              go_ret
              exact ⟨by rw [hn.out]; rfl, Below.refl _ _⟩
            · have hk0 : ((k : Int) == 0) = false := by simp; omega
              rcases hd : digN ((s[k]'hlt).toNat : Int) with _ | _
              · by_cases h95 : (s[k]'hlt).toNat = 95
                · have t : (((s[k]'hlt).toNat : Int) != 95) = false := by simp; omega
                  have hr := Lib.hid (HYES.out (.inr ⟨h0, by rw [h95]; rfl⟩))
                  clear h95
                  go_wp2_with (first | (go_at_call 46; refine (n6_letterR_any _ _).mono ?_; rintro e w' ⟨rfl, hw⟩; subst hw) | (go_at_call 47; refine (n6_digitR_any _ _).mono ?_; rintro e w' ⟨rfl, hw⟩; subst hw))
                  go_roundw
                  case rel => exact ⟨hr.out, by first | trivial | rfl⟩
                  case measure => (first | (simp [intOf]; done) | (simp [intOf]; omega))
                · have t : (((s[k]'hlt).toNat : Int) != 95) = true := by simp; omega
                  have hn := Lib.hid (HNO.out ⟨hl, .inr (by
                    have e1 : digN ((s[k]'hlt).toNat : Int) = (decide ((48 : Int) ≤ ((s[k]'hlt).toNat : Int)) && decide (((s[k]'hlt).toNat : Int) ≤ 57)) := rfl
                    rw [hl, ← e1, hd]
                    simp
                    omega)⟩)
                  clear h95
                  go_wp2_with (first | (go_at_call 46; refine (n6_letterR_any _ _).mono ?_; rintro e w' ⟨rfl, hw⟩; subst hw) | (go_at_call 47; refine (n6_digitR_any _ _).mono ?_; rintro e w' ⟨rfl, hw⟩; subst hw))
                  go_ret
                  exact ⟨by rw [hn.out]; rfl, Below.refl _ _⟩
              · have hr := Lib.hid (HYES.out (.inr ⟨h0, by
                    have e1 : digN ((s[k]'hlt).toNat : Int) = (decide ((48 : Int) ≤ ((s[k]'hlt).toNat : Int)) && decide (((s[k]'hlt).toNat : Int) ≤ 57)) := rfl
                    rw [← e1, hd]; simp⟩))
                go_wp2_with (first | (go_at_call 46; refine (n6_letterR_any _ _).mono ?_; rintro e w' ⟨rfl, hw⟩; subst hw) | (go_at_call 47; refine (n6_digitR_any _ _).mono ?_; rintro e w' ⟨rfl, hw⟩; subst hw))
                go_roundw
                case rel => exact ⟨hr.out, by first | trivial | rfl⟩
                case measure => (first | (simp [intOf]; done) | (simp [intOf]; omega))
          · have hr := Lib.hid (HYES.out (.inl hl))
            go_wp2_with (go_at_call 46; refine (n6_letterR_any _ _).mono ?_; rintro e w' ⟨rfl, hw⟩; subst hw)
            go_roundw
            case rel => exact ⟨hr.out, by first | trivial | rfl⟩
            case measure => (first | (simp [intOf]; done) | (simp [intOf]; omega))
        · have hi : (s.size : Int) ≤ (k : Int) := by omega
          have hl0 := hg0 (by omega)
          have hall : ∀ j, 1 ≤ j → j < s.size → chrI (byteI s j) = true := fun j a b => hg j a (by omega)
          have hno32 : 32 ∉ s.data.toList := fun hm => by
            obtain ⟨j, hj, e⟩ := List.getElem_of_mem hm
            have hj' : j < s.size := by simpa using hj
            have eb : byteI s j = 32 := by
              rw [byteI_at hj']
              have : s[j]'hj' = 32 := by rw [← e]; rfl
              rw [this]; rfl
            by_cases h0 : j = 0
            · subst h0; rw [eb] at hl0; exact absurd hl0 (by decide)
            · have := hall j (by omega) hj'; rw [eb] at this; exact absurd this (by decide)
          have hn : Hid (nameOf s = !strN wordsR s) := by show _ = _; rw [name_of h1 h2 hl0 hall, n6_reserved_eq hno32]
          clear hg0 hg hl0 hall hno32
          go_wp2_with fail
          refine (n6_reserved_any _).mono ?_
          rintro e w1 ⟨rfl, hrow, hb⟩
          go_wp2_with fail
          refine (n6_among_any _ _ wordsR s _ hrow (by unfold maxLen; decide)).mono ?_
          rintro e w2 ⟨rfl, hw⟩
          subst hw
          go_wp2
          go_ret
          exact ⟨by rw [hn.out]; rfl, hb⟩
    · have hn : nameOf s = false := name_no (by rintro ⟨-, h2', -⟩; exact h2 h2')
      have d1 : ¬ ((s.size : Int) < 1) := by omega
      have d2 : 16 < (s.size : Int) := by omega
      have HN := Lib.hid hn
      clear hn
      go_enter Tryd.func29, Tryd.ntmps29
      go_wp2
      go_ret
      exact ⟨by rw [HN.out]; rfl, Below.refl _ _⟩
  · have hn : nameOf s = false := name_no (by rintro ⟨h1', -⟩; exact h1 h1')
    have d1 : (s.size : Int) < 1 := by omega
    have HN := Lib.hid hn
    clear hn
    go_enter Tryd.func29, Tryd.ntmps29
    go_wp2
    go_ret
    exact ⟨by rw [HN.out]; rfl, Below.refl _ _⟩
end Go.Proofs.YtgegfbopogcjpaaDoor
