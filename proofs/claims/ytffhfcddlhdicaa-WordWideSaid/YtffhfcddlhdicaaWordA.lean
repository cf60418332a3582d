/- Contracts of the small functions of word and of its reference that only compute. Each is true for all arguments in range. -/
import Derived.Test.YtffhfcddlhdicaaChecked
import Derived.Test.YtffhfcddlhdicaaWordM
import Derived.WalkKit
import Derived.WalkLawsBesides
import Derived.Outline
import Derived.IntWalk
namespace Go.Proofs.Ytffhfcddlhdicaa
open Go.RowKit
set_option linter.unusedVariables false
theorem ret_i {k : IntKind} {a b : Int} (h : a = b) : Ending.returned (.int k a) = .returned (.int k b) := by rw [h]
theorem ret_ii {k l : IntKind} {a b c d : Int} (h : a = b) (h' : c = d) : Ending.returned (.tuple #[.int k a, .int l c]) = .returned (.tuple #[.int k b, .int l d]) := by rw [h, h']
theorem split_any (n : Int) (w : World) :
    Calls Try.prog 9 #[.int .i64 n] w fun e w' => e = .returned (.tuple #[.int .i32 (wrap32 n), .int .i32 (wrap32 (n / 4294967296))]) ∧ w = w' := by
  go_enter Try.func9, Try.ntmps9
  go_wp2
  go_ret2
  exact ⟨rfl, rfl⟩
theorem tmod_lo (n : Int) : -4294967296 < n.tmod 4294967296 := by have := Int.lt_tmod_of_pos n (b := 4294967296) (by omega); omega
theorem tmod_hi (n : Int) : n.tmod 4294967296 < 4294967296 := Int.tmod_lt_of_pos n (by omega)
theorem tmod_neg (n : Int) (h : n.tmod 4294967296 < 0) : n.tmod 4294967296 + 4294967296 = n % 4294967296 := by
  have h1 := Int.mul_tdiv_add_tmod n 4294967296
  have h2 := tmod_lo n
  generalize n.tmod 4294967296 = r at *
  generalize n.tdiv 4294967296 = q at *
  omega
theorem tmod_pos (n : Int) (h : ¬ n.tmod 4294967296 < 0) : n.tmod 4294967296 = n % 4294967296 := by
  have h1 := Int.mul_tdiv_add_tmod n 4294967296
  have h2 := tmod_hi n
  generalize n.tmod 4294967296 = r at *
  generalize n.tdiv 4294967296 = q at *
  omega
theorem wrap32_sub (n : Int) : wrap32 (n - 4294967296) = wrap32 n := by unfold wrap32; omega
theorem half_up (n : Int) (h1 : -9223372036854775808 ≤ n) (h2 : n ≤ 9223372036854775807) : wrap32 (wrap64 ((wrap64 (n - n % 4294967296)).tdiv 4294967296)) = wrap32 (n / 4294967296) := by
  have e : wrap64 (n - n % 4294967296) = n / 4294967296 * 4294967296 := by unfold wrap64; omega
  rw [e, Int.mul_tdiv_cancel _ (by omega)]
  unfold wrap32 wrap64
  omega
theorem word_any (n : Int) (h1 : -9223372036854775808 ≤ n) (h2 : n ≤ 9223372036854775807) (w : World) :
    Calls Try.prog 27 #[.int .i64 n] w fun e w' => e = .returned (.int .i32 (wrap32 n)) ∧ w = w' := by
  by_cases h : 2147483648 ≤ n
  · go_enter Try.func27, Try.ntmps27
    go_wp2
    go_ret
    exact ⟨ret_i (wrap32_sub n), rfl⟩
  · go_enter Try.func27, Try.ntmps27
    go_wp2
    go_ret
    exact ⟨rfl, rfl⟩
theorem free_any (a : Int) (h1 : -2147483648 ≤ a) (h2 : a ≤ 2147483647) (w : World) :
    Calls Try.prog 28 #[.int .i32 a] w fun e w' => e = .returned (.int .i64 (a % 4294967296)) ∧ w = w' := by
  by_cases h : a < 0
  · go_enter Try.func28, Try.ntmps28
    go_wp2
    go_ret
    exact ⟨ret_i (by omega), rfl⟩
  · go_enter Try.func28, Try.ntmps28
    go_wp2
    go_ret
    exact ⟨ret_i (by omega), rfl⟩
theorem cut_any (n : Int) (h1 : -9223372036854775808 ≤ n) (h2 : n ≤ 9223372036854775807) (w : World) :
    Calls Try.prog 30 #[.int .i64 n] w fun e w' => e = .returned (.int .i64 (n % 4294967296)) ∧ w = w' := by
  have hb1 := tmod_lo n
  have hb2 := tmod_hi n
  by_cases h : n.tmod 4294967296 < 0
  · go_enter Try.func30, Try.ntmps30
    go_wp2
    go_ret
    exact ⟨ret_i (tmod_neg n h), rfl⟩
  · go_enter Try.func30, Try.ntmps30
    go_wp2
    go_ret
    exact ⟨ret_i (tmod_pos n (by omega)), rfl⟩
theorem halves_any (n : Int) (h1 : -9223372036854775808 ≤ n) (h2 : n ≤ 9223372036854775807) (w : World) :
    Calls Try.prog 10 #[.int .i64 n] w fun e w' => e = .returned (.tuple #[.int .i32 (wrap32 n), .int .i32 (wrap32 (n / 4294967296))]) ∧ w = w' := by
  have hb1 := tmod_lo n
  have hb2 := tmod_hi n
  by_cases h : n.tmod 4294967296 < 0
  · go_enter Try.func10, Try.ntmps10
    go_wp2_with (go_at_call 27; refine (word_any _ (by omega) (by omega) _).mono ?_; rintro e w' ⟨rfl, rfl⟩)
    go_ret2
    exact ⟨ret_ii (by rw [tmod_neg n h, wrap32_mod]) (by rw [tmod_neg n h, half_up n h1 h2]), rfl⟩
  · go_enter Try.func10, Try.ntmps10
    go_wp2_with (go_at_call 27; refine (word_any _ (by omega) (by omega) _).mono ?_; rintro e w' ⟨rfl, rfl⟩)
    go_ret2
    exact ⟨ret_ii (by rw [tmod_pos n (by omega), wrap32_mod]) (by rw [tmod_pos n (by omega), half_up n h1 h2]), rfl⟩
theorem join_any (a b : Int) (h1 : -2147483648 ≤ a) (h2 : a ≤ 2147483647) (h3 : -2147483648 ≤ b) (h4 : b ≤ 2147483647) (w : World) :
    Calls Try.prog 11 #[.int .i32 a, .int .i32 b] w fun e w' => e = .returned (.int .i64 (b * 4294967296 + a % 4294967296)) ∧ w = w' := by
  go_enter Try.func11, Try.ntmps11
  go_wp2
  go_ret
  exact ⟨ret_i (or_join a b h3 h4), rfl⟩
theorem whole_any (a b : Int) (h1 : -2147483648 ≤ a) (h2 : a ≤ 2147483647) (h3 : -2147483648 ≤ b) (h4 : b ≤ 2147483647) (w : World) :
    Calls Try.prog 12 #[.int .i32 a, .int .i32 b] w fun e w' => e = .returned (.int .i64 (b * 4294967296 + a % 4294967296)) ∧ w = w' := by
  go_enter Try.func12, Try.ntmps12
  go_wp2_with (go_at_call 28; refine (free_any _ (by omega) (by omega) _).mono ?_; rintro e w' ⟨rfl, rfl⟩)
  go_ret
  exact ⟨rfl, rfl⟩
end Go.Proofs.Ytffhfcddlhdicaa
