/- Contracts of word.Op, word.Wide and of the reference's Op, bits, Bit, Product, Wide: what each returns, operation by operation. True for all arguments in range. -/
import Derived.Test.YtffhfcddlhdicaaWordA
import Derived.LoopTactic
import Derived.Deep.QuietTactic
import Derived.BigQuiet
import Derived.Lib.Hide
namespace Go.Proofs.Ytffhfcddlhdicaa
open Go.RowKit
set_option linter.unusedVariables false
set_option linter.unusedSimpArgs false
def b2i (c : Bool) : Int := if c then 1 else 0
theorem ret_b {a b : Bool} (h : a = b) : Ending.returned (.bool a) = .returned (.bool b) := by rw [h]
theorem b2i_lo (c : Bool) : 0 ≤ b2i c := by cases c <;> decide
theorem b2i_hi (c : Bool) : b2i c ≤ 1 := by cases c <;> decide
theorem ret_ib {k : IntKind} {a b : Int} {c d : Bool} (h : a = b) (h' : c = d) : Ending.returned (.tuple #[.int k a, .bool c]) = .returned (.tuple #[.int k b, .bool d]) := by rw [h, h']

theorem one_any (c : Bool) (w : World) : Calls Try.prog 29 #[.bool c] w fun e w' => e = .returned (.int .i32 (b2i c)) ∧ w = w' := by
  cases c
  all_goals
    go_enter Try.func29, Try.ntmps29
    go_wp2
    go_ret
    exact ⟨rfl, rfl⟩
theorem truth_any (c : Bool) (w : World) : Calls Try.prog 32 #[.bool c] w fun e w' => e = .returned (.int .i32 (b2i c)) ∧ w = w' := by
  cases c
  all_goals
    go_enter Try.func32, Try.ntmps32
    go_wp2
    go_ret
    exact ⟨rfl, rfl⟩
theorem low_any (a : Int) (w : World) : Calls Try.prog 33 #[.int .i32 a] w fun e w' => e = .returned (.int .u64 (a % 4294967296)) ∧ w = w' := by
  go_enter Try.func33, Try.ntmps33
  go_wp2
  go_ret
  exact ⟨rfl, rfl⟩
theorem clo_and (x y : Bool) (w : World) : Calls Try.prog 36 #[.bool x, .bool y] w fun e w' => e = .returned (.bool (bop .and x y)) ∧ w = w' := by
  cases x <;> cases y
  all_goals
    go_enter Try.func36, Try.ntmps36
    go_wp2
    go_ret
    exact ⟨rfl, rfl⟩
theorem clo_or (x y : Bool) (w : World) : Calls Try.prog 37 #[.bool x, .bool y] w fun e w' => e = .returned (.bool (bop .or x y)) ∧ w = w' := by
  cases x <;> cases y
  all_goals
    go_enter Try.func37, Try.ntmps37
    go_wp2
    go_ret
    exact ⟨rfl, rfl⟩
theorem clo_xor (x y : Bool) (w : World) : Calls Try.prog 38 #[.bool x, .bool y] w fun e w' => e = .returned (.bool (bop .xor x y)) ∧ w = w' := by
  cases x <;> cases y
  all_goals
    go_enter Try.func38, Try.ntmps38
    go_wp2
    go_ret
    exact ⟨rfl, rfl⟩
theorem halve (n : Int) (i : Nat) (h : 0 ≤ n) : (n / 2 ^ i) / 2 = n / 2 ^ (i + 1) := by rw [Int.ediv_ediv_of_nonneg (Int.pow_nonneg (by decide)), Int.pow_succ]
theorem pow_le (n : Int) (i : Nat) (h : 0 ≤ n) : 0 ≤ n / 2 ^ i ∧ n / 2 ^ i ≤ n := ⟨Int.ediv_nonneg h (Int.pow_nonneg (by decide)), Int.ediv_le_self _ h⟩
theorem bit_eq (n : Int) (k : Nat) (h : 0 ≤ n) : ((n / 2 ^ k) % 2 == 1) = n.toNat.testBit k := by
  obtain ⟨m, rfl⟩ := Int.eq_ofNat_of_zero_le h
  rw [Nat.testBit_eq_decide_div_mod_eq, Int.toNat_natCast]
  have e : ((m : Int) / 2 ^ k) % 2 = ((m / 2 ^ k % 2 : Nat) : Int) := by norm_cast
  rw [e, Bool.eq_iff_iff]
  simp
  omega
def BitRel (n : Int) (k : Nat) (t i : Value) : Prop := ∃ j : Nat, j ≤ k ∧ i = .int .i64 j ∧ t = .int .i64 (n / 2 ^ j)
theorem bit_any (n : Int) (k : Nat) (h1 : 0 ≤ n) (h2 : n ≤ 4294967295) (hk : k ≤ 32) (w : World) : Calls Try.prog 45 #[.int .i64 n, .int .i64 k] w fun e w' => e = .returned (.bool (n.toNat.testBit k)) ∧ w = w' := by
  go_enter Try.func45, Try.ntmps45
  go_wp2
  go_loop [0, 5] (fun t i => BitRel n k t i) (fun _ i => k - (intOf i).toNat)
  case atStart => exact ⟨0, Nat.zero_le _, rfl, by simp⟩
  case round =>
    obtain ⟨j, hj, rfl, rfl⟩ := hrel
    have hp := pow_le n j h1
    have H := Lib.hid (halve n j h1)
    by_cases hlt : j < k
    · generalize n / 2 ^ j = m at *
      go_wp2
      go_round
      case rel => exact ⟨j + 1, by omega, by go_num, by rw [← H.out]⟩
      case measure => simp [intOf]; omega
    · obtain rfl : j = k := by omega
      have hb := bit_eq n j h1
      generalize n / 2 ^ j = m at *
      have hb' := Lib.hid hb
      clear hb
      go_wp2
      go_ret
      exact ⟨ret_b hb'.out, rfl⟩
def BitsRel (g : Nat → Bool) (n p i : Value) : Prop := ∃ j : Nat, j ≤ 32 ∧ i = .int .i64 j ∧ n = .int .i64 ((bsum g j : Nat) : Int) ∧ p = .int .i64 ((2 ^ j : Nat) : Int)
theorem pow_32 (j : Nat) (h : j ≤ 32) : 2 ^ j ≤ 4294967296 := Nat.pow_le_pow_right (by decide) h
theorem bsum_yes (g : Nat → Bool) (j : Nat) (h : g j = true) : ((bsum g (j + 1) : Nat) : Int) = ((bsum g j : Nat) : Int) + ((2 ^ j : Nat) : Int) := by rw [bsum, if_pos h]; omega
theorem bsum_no (g : Nat → Bool) (j : Nat) (h : g j = false) : ((bsum g (j + 1) : Nat) : Int) = ((bsum g j : Nat) : Int) := by rw [bsum, if_neg (by simp [h])]; omega
theorem two_pow (j : Nat) : ((2 ^ (j + 1) : Nat) : Int) = 2 * ((2 ^ j : Nat) : Int) := by rw [Nat.pow_succ]; omega
def gof (k : BinOp) (a b : Int) : Nat → Bool := fun i => bop k ((a % 4294967296).toNat.testBit i) ((b % 4294967296).toNat.testBit i)
theorem gof_eq (k : BinOp) (hk : isBit k) (a b : Int) : wrap32 ((bsum (gof k a b) 32 : Nat) : Int) = bits k .i32 a b := by
  rw [bits_i32 k hk]
  unfold gof
  rw [bsum_nop k _ _ (by omega) (by omega)]
theorem bits_and (a b : Int) (h1 : -2147483648 ≤ a) (h2 : a ≤ 2147483647) (h3 : -2147483648 ≤ b) (h4 : b ≤ 2147483647) (w : World) :
    Calls Try.prog 35 #[.int .i32 a, .int .i32 b, .func (.func 36) #[] #[]] w fun e w' => e = .returned (.int .i32 (bits .and .i32 a b)) ∧ w = w' := by
  go_enter Try.func35, Try.ntmps35
  go_wp2
  go_loop [7, 8, 9] (fun n p i => BitsRel (gof .and a b) n p i) (fun _ _ i => 32 - (intOf i).toNat)
  case atStart => exact ⟨0, by omega, rfl, rfl, rfl⟩
  case round =>
    obtain ⟨j, hj, rfl, rfl, rfl⟩ := hrel
    have hb := bsum_lt (gof .and a b) j
    have hp := pow_32 j hj
    by_cases hlt : j < 32
    · have hg : ∀ c, gof .and a b j = c → bop .and ((a % 4294967296).toNat.testBit j) ((b % 4294967296).toNat.testBit j) = c := fun c h => h
      have H2 := Lib.hid (two_pow j)
      rcases hc : gof .and a b j with _ | _
      · have H1 := Lib.hid (bsum_no _ j hc)
        have hg1 := hg _ hc
        clear hg hc
        generalize bsum (gof .and a b) j = m at *
        generalize 2 ^ j = p at *
        go_wp2_with (first
          | (go_at_call 28; refine (free_any _ (by omega) (by omega) _).mono ?_; rintro e w' ⟨rfl, rfl⟩)
          | (go_at_call 45; refine (bit_any _ _ (by omega) (by omega) (by omega) _).mono ?_; rintro e w' ⟨rfl, rfl⟩)
          | (go_at_call 36; refine (clo_and _ _ _).mono ?_; rintro e w' ⟨rfl, rfl⟩))
        go_round
        case rel => exact ⟨j + 1, by omega, by go_num, by rw [H1.out], by rw [H2.out]⟩
        case measure => simp [intOf]; omega
      · have H1 := Lib.hid (bsum_yes _ j hc)
        have hg1 := hg _ hc
        clear hg hc
        generalize bsum (gof .and a b) j = m at *
        generalize 2 ^ j = p at *
        go_wp2_with (first
          | (go_at_call 28; refine (free_any _ (by omega) (by omega) _).mono ?_; rintro e w' ⟨rfl, rfl⟩)
          | (go_at_call 45; refine (bit_any _ _ (by omega) (by omega) (by omega) _).mono ?_; rintro e w' ⟨rfl, rfl⟩)
          | (go_at_call 36; refine (clo_and _ _ _).mono ?_; rintro e w' ⟨rfl, rfl⟩))
        go_round
        case rel => exact ⟨j + 1, by omega, by go_num, by rw [H1.out], by rw [H2.out]⟩
        case measure => simp [intOf]; omega
    · obtain rfl : j = 32 := by omega
      have H := Lib.hid (gof_eq .and (by simp [isBit]) a b)
      generalize bsum (gof .and a b) 32 = m at *
      go_wp2_with (go_at_call 27; refine (word_any _ (by omega) (by omega) _).mono ?_; rintro e w' ⟨rfl, rfl⟩)
      go_ret
      exact ⟨ret_i H.out, rfl⟩
theorem bits_or (a b : Int) (h1 : -2147483648 ≤ a) (h2 : a ≤ 2147483647) (h3 : -2147483648 ≤ b) (h4 : b ≤ 2147483647) (w : World) :
    Calls Try.prog 35 #[.int .i32 a, .int .i32 b, .func (.func 37) #[] #[]] w fun e w' => e = .returned (.int .i32 (bits .or .i32 a b)) ∧ w = w' := by
  go_enter Try.func35, Try.ntmps35
  go_wp2
  go_loop [7, 8, 9] (fun n p i => BitsRel (gof .or a b) n p i) (fun _ _ i => 32 - (intOf i).toNat)
  case atStart => exact ⟨0, by omega, rfl, rfl, rfl⟩
  case round =>
    obtain ⟨j, hj, rfl, rfl, rfl⟩ := hrel
    have hb := bsum_lt (gof .or a b) j
    have hp := pow_32 j hj
    by_cases hlt : j < 32
    · have hg : ∀ c, gof .or a b j = c → bop .or ((a % 4294967296).toNat.testBit j) ((b % 4294967296).toNat.testBit j) = c := fun c h => h
      have H2 := Lib.hid (two_pow j)
      rcases hc : gof .or a b j with _ | _
      · have H1 := Lib.hid (bsum_no _ j hc)
        have hg1 := hg _ hc
        clear hg hc
        generalize bsum (gof .or a b) j = m at *
        generalize 2 ^ j = p at *
        go_wp2_with (first
          | (go_at_call 28; refine (free_any _ (by omega) (by omega) _).mono ?_; rintro e w' ⟨rfl, rfl⟩)
          | (go_at_call 45; refine (bit_any _ _ (by omega) (by omega) (by omega) _).mono ?_; rintro e w' ⟨rfl, rfl⟩)
          | (go_at_call 37; refine (clo_or _ _ _).mono ?_; rintro e w' ⟨rfl, rfl⟩))
        go_round
        case rel => exact ⟨j + 1, by omega, by go_num, by rw [H1.out], by rw [H2.out]⟩
        case measure => simp [intOf]; omega
      · have H1 := Lib.hid (bsum_yes _ j hc)
        have hg1 := hg _ hc
        clear hg hc
        generalize bsum (gof .or a b) j = m at *
        generalize 2 ^ j = p at *
        go_wp2_with (first
          | (go_at_call 28; refine (free_any _ (by omega) (by omega) _).mono ?_; rintro e w' ⟨rfl, rfl⟩)
          | (go_at_call 45; refine (bit_any _ _ (by omega) (by omega) (by omega) _).mono ?_; rintro e w' ⟨rfl, rfl⟩)
          | (go_at_call 37; refine (clo_or _ _ _).mono ?_; rintro e w' ⟨rfl, rfl⟩))
        go_round
        case rel => exact ⟨j + 1, by omega, by go_num, by rw [H1.out], by rw [H2.out]⟩
        case measure => simp [intOf]; omega
    · obtain rfl : j = 32 := by omega
      have H := Lib.hid (gof_eq .or (by simp [isBit]) a b)
      generalize bsum (gof .or a b) 32 = m at *
      go_wp2_with (go_at_call 27; refine (word_any _ (by omega) (by omega) _).mono ?_; rintro e w' ⟨rfl, rfl⟩)
      go_ret
      exact ⟨ret_i H.out, rfl⟩
theorem bits_xor (a b : Int) (h1 : -2147483648 ≤ a) (h2 : a ≤ 2147483647) (h3 : -2147483648 ≤ b) (h4 : b ≤ 2147483647) (w : World) :
    Calls Try.prog 35 #[.int .i32 a, .int .i32 b, .func (.func 38) #[] #[]] w fun e w' => e = .returned (.int .i32 (bits .xor .i32 a b)) ∧ w = w' := by
  go_enter Try.func35, Try.ntmps35
  go_wp2
  go_loop [7, 8, 9] (fun n p i => BitsRel (gof .xor a b) n p i) (fun _ _ i => 32 - (intOf i).toNat)
  case atStart => exact ⟨0, by omega, rfl, rfl, rfl⟩
  case round =>
    obtain ⟨j, hj, rfl, rfl, rfl⟩ := hrel
    have hb := bsum_lt (gof .xor a b) j
    have hp := pow_32 j hj
    by_cases hlt : j < 32
    · have hg : ∀ c, gof .xor a b j = c → bop .xor ((a % 4294967296).toNat.testBit j) ((b % 4294967296).toNat.testBit j) = c := fun c h => h
      have H2 := Lib.hid (two_pow j)
      rcases hc : gof .xor a b j with _ | _
      · have H1 := Lib.hid (bsum_no _ j hc)
        have hg1 := hg _ hc
        clear hg hc
        generalize bsum (gof .xor a b) j = m at *
        generalize 2 ^ j = p at *
        go_wp2_with (first
          | (go_at_call 28; refine (free_any _ (by omega) (by omega) _).mono ?_; rintro e w' ⟨rfl, rfl⟩)
          | (go_at_call 45; refine (bit_any _ _ (by omega) (by omega) (by omega) _).mono ?_; rintro e w' ⟨rfl, rfl⟩)
          | (go_at_call 38; refine (clo_xor _ _ _).mono ?_; rintro e w' ⟨rfl, rfl⟩))
        go_round
        case rel => exact ⟨j + 1, by omega, by go_num, by rw [H1.out], by rw [H2.out]⟩
        case measure => simp [intOf]; omega
      · have H1 := Lib.hid (bsum_yes _ j hc)
        have hg1 := hg _ hc
        clear hg hc
        generalize bsum (gof .xor a b) j = m at *
        generalize 2 ^ j = p at *
        go_wp2_with (first
          | (go_at_call 28; refine (free_any _ (by omega) (by omega) _).mono ?_; rintro e w' ⟨rfl, rfl⟩)
          | (go_at_call 45; refine (bit_any _ _ (by omega) (by omega) (by omega) _).mono ?_; rintro e w' ⟨rfl, rfl⟩)
          | (go_at_call 38; refine (clo_xor _ _ _).mono ?_; rintro e w' ⟨rfl, rfl⟩))
        go_round
        case rel => exact ⟨j + 1, by omega, by go_num, by rw [H1.out], by rw [H2.out]⟩
        case measure => simp [intOf]; omega
    · obtain rfl : j = 32 := by omega
      have H := Lib.hid (gof_eq .xor (by simp [isBit]) a b)
      generalize bsum (gof .xor a b) 32 = m at *
      go_wp2_with (go_at_call 27; refine (word_any _ (by omega) (by omega) _).mono ?_; rintro e w' ⟨rfl, rfl⟩)
      go_ret
      exact ⟨ret_i H.out, rfl⟩
end Go.Proofs.Ytffhfcddlhdicaa
