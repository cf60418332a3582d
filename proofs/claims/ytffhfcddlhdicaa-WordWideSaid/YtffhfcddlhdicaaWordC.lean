/- Contracts of word.Op and of the reference's Op and Product, operation by operation: both return opV and opOk. True for all arguments in range. -/
import Derived.Test.YtffhfcddlhdicaaWordB
namespace Go.Proofs.Ytffhfcddlhdicaa
open Go.RowKit
set_option linter.unusedVariables false
set_option linter.unusedSimpArgs false
theorem prod_low' (a b : Int) :
    ((a / 65536) * (b % 65536) + ((a % 65536) * (b / 65536) + (a % 65536) * (b % 65536) / 65536)) % 65536 * 65536 + (a % 65536) * (b % 65536) % 65536 = a * b % 4294967296 := by
  rw [← prod_low a b]
  omega
theorem product_any (a b : Int) (h1 : 0 ≤ a) (h2 : a ≤ 4294967295) (h3 : 0 ≤ b) (h4 : b ≤ 4294967295) (w : World) :
    Calls Try.prog 31 #[.int .i64 a, .int .i64 b] w fun e w' => e = .returned (.tuple #[.int .i64 (a * b % 4294967296), .int .i64 (a * b / 4294967296)]) ∧ w = w' := by
  have m1 := mul_bound (a % 65536) (b % 65536) 65535 65535 (by omega) (by omega) (by omega) (by omega)
  have m2 := mul_bound (a % 65536) (b / 65536) 65535 65535 (by omega) (by omega) (by omega) (by omega)
  have m3 := mul_bound (a / 65536) (b % 65536) 65535 65535 (by omega) (by omega) (by omega) (by omega)
  have m4 := mul_bound (a / 65536) (b / 65536) 65535 65535 (by omega) (by omega) (by omega) (by omega)
  obtain ⟨m11, m12⟩ := m1
  obtain ⟨m21, m22⟩ := m2
  obtain ⟨m31, m32⟩ := m3
  obtain ⟨m41, m42⟩ := m4
  go_enter Try.func31, Try.ntmps31
  go_wp2
  go_ret2
  exact ⟨ret_ii (prod_low' a b) (prod_high a b), rfl⟩
/-- what an operation on two words makes: its value, and whether there is one -/
def opV (op a b : Int) : Int :=
  if op = 1 then wrap32 (a + b) else if op = 2 then wrap32 (a - b) else if op = 3 then wrap32 (a * b)
  else if op = 4 then wrap32 ((a % 4294967296) * (b % 4294967296) / 4294967296)
  else if op = 5 then (if b = 0 then 0 else wrap32 (a.tdiv b)) else if op = 6 then (if b = 0 then 0 else a.tmod b)
  else if op = 7 then bits .and .i32 a b else if op = 8 then bits .or .i32 a b else if op = 9 then bits .xor .i32 a b
  else if op = 10 then b2i (decide (a < b)) else if op = 11 then b2i (decide (a % 4294967296 < b % 4294967296)) else if op = 12 then b2i (a == b) else 0
def opOk (op b : Int) : Bool := if op = 5 ∨ op = 6 then !(b == 0) else decide (1 ≤ op ∧ op ≤ 12)

theorem divide_one (a : Int) (h1 : -2147483648 ≤ a) (h2 : a ≤ 2147483647) (w : World) : Calls Try.prog 34 #[.int .i32 a, .int .i32 (-1)] w fun e w' => e = .returned (.tuple #[.int .i32 (wrap32 (-a)), .int .i32 0]) ∧ ∃ n, w' = w.drewN n := by
  go_enter Try.func34, Try.ntmps34
  go_wp2
  go_ret2
  exact ⟨rfl, 0, rfl⟩
theorem divide_any (a b : Int) (h1 : -2147483648 ≤ a) (h2 : a ≤ 2147483647) (h3 : -2147483648 ≤ b) (h4 : b ≤ 2147483647) (hb0 : (b == 0) = false) (hb1 : (b == -1) = false) (w : World) :
    Calls Try.prog 34 #[.int .i32 a, .int .i32 b] w fun e w' => e = .returned (.tuple #[.int .i32 (wrap32 (a.tdiv b)), .int .i32 (a.tmod b)]) ∧ ∃ n, w' = w.drewN n := by
  go_enter Try.func34, Try.ntmps34
  go_wp2
  have hb2 : ¬ b = 0 := by simpa using hb0
  go_quiet (fail)
  go_wp2
  go_ret2
  exact ⟨rfl, _, rfl⟩
theorem tdiv_lo (a b : Int) (h1 : -2147483648 ≤ a) (h2 : a ≤ 2147483647) : -2147483648 ≤ a.tdiv b ∧ a.tdiv b ≤ 2147483648 := by
  have h := Int.natAbs_tdiv_le_natAbs a b
  omega
theorem tmod_lo' (a b : Int) (h1 : -2147483648 ≤ a) (h2 : a ≤ 2147483647) : -2147483648 ≤ a.tmod b ∧ a.tmod b ≤ 2147483647 := by
  by_cases h : a < 0
  · have e : a.tmod b = -((-a).tmod b) := by rw [Int.neg_tmod, Int.neg_neg]
    have e1 := Int.tmod_nonneg b (a := -a) (by omega)
    have e2 : (-a).tmod b ≤ -a := by
      obtain ⟨m, hm⟩ := Int.eq_ofNat_of_zero_le (a := -a) (by omega)
      rw [hm]
      rcases Int.natAbs_eq b with hb | hb <;> rw [hb]
      · rw [← Int.ofNat_tmod]; have := Nat.mod_le m b.natAbs; omega
      · rw [Int.tmod_neg, ← Int.ofNat_tmod]; have := Nat.mod_le m b.natAbs; omega
    omega
  · have h : 0 ≤ a := by omega
    have e1 := Int.tmod_nonneg b h
    have e2 : a.tmod b ≤ a := by
      obtain ⟨m, hm⟩ := Int.eq_ofNat_of_zero_le h
      rw [hm]
      rcases Int.natAbs_eq b with hb | hb <;> rw [hb]
      · rw [← Int.ofNat_tmod]; have := Nat.mod_le m b.natAbs; omega
      · rw [Int.tmod_neg, ← Int.ofNat_tmod]; have := Nat.mod_le m b.natAbs; omega
    omega
theorem low_mod (a b : Int) : wrap32 (a * b % 4294967296) = wrap32 (a * b) := wrap32_mod _

theorem op_1 (a b : Int) (h1 : -2147483648 ≤ a) (h2 : a ≤ 2147483647) (h3 : -2147483648 ≤ b) (h4 : b ≤ 2147483647) (w : World) :
    Calls Try.prog 15 #[.int .i64 1, .int .i32 a, .int .i32 b] w fun e w' => e = .returned (.tuple #[.int .i32 (opV 1 a b), .bool (opOk 1 b)]) ∧ w = w' := by
  go_enter Try.func15, Try.ntmps15
  go_wp2
  go_ret2
  exact ⟨ret_ib (by simp [opV]) (by simp [opOk]), rfl⟩
theorem op_2 (a b : Int) (h1 : -2147483648 ≤ a) (h2 : a ≤ 2147483647) (h3 : -2147483648 ≤ b) (h4 : b ≤ 2147483647) (w : World) :
    Calls Try.prog 15 #[.int .i64 2, .int .i32 a, .int .i32 b] w fun e w' => e = .returned (.tuple #[.int .i32 (opV 2 a b), .bool (opOk 2 b)]) ∧ w = w' := by
  go_enter Try.func15, Try.ntmps15
  go_wp2
  go_ret2
  exact ⟨ret_ib (by simp [opV]) (by simp [opOk]), rfl⟩
theorem op_3 (a b : Int) (h1 : -2147483648 ≤ a) (h2 : a ≤ 2147483647) (h3 : -2147483648 ≤ b) (h4 : b ≤ 2147483647) (w : World) :
    Calls Try.prog 15 #[.int .i64 3, .int .i32 a, .int .i32 b] w fun e w' => e = .returned (.tuple #[.int .i32 (opV 3 a b), .bool (opOk 3 b)]) ∧ w = w' := by
  go_enter Try.func15, Try.ntmps15
  go_wp2
  go_ret2
  exact ⟨ret_ib (by simp [opV]) (by simp [opOk]), rfl⟩
theorem op_4 (a b : Int) (h1 : -2147483648 ≤ a) (h2 : a ≤ 2147483647) (h3 : -2147483648 ≤ b) (h4 : b ≤ 2147483647) (w : World) :
    Calls Try.prog 15 #[.int .i64 4, .int .i32 a, .int .i32 b] w fun e w' => e = .returned (.tuple #[.int .i32 (opV 4 a b), .bool (opOk 4 b)]) ∧ w = w' := by
  obtain ⟨m1, m2⟩ := mul_bound (a % 4294967296) (b % 4294967296) 4294967295 4294967295 (by omega) (by omega) (by omega) (by omega)
  go_enter Try.func15, Try.ntmps15
  go_wp2_with (first
    | (go_at_call 33; refine (low_any _ _).mono ?_; rintro e w' ⟨rfl, rfl⟩))
  go_ret2
  exact ⟨ret_ib (by simp [opV]) (by simp [opOk]), rfl⟩
theorem op_5 (a b : Int) (h1 : -2147483648 ≤ a) (h2 : a ≤ 2147483647) (h3 : -2147483648 ≤ b) (h4 : b ≤ 2147483647) (hb0 : (b == 0) = false) (hb1 : (b == -1) = false) (w : World) :
    Calls Try.prog 15 #[.int .i64 5, .int .i32 a, .int .i32 b] w fun e w' => e = .returned (.tuple #[.int .i32 (opV 5 a b), .bool (opOk 5 b)]) ∧ ∃ n, w' = w.drewN n := by
  have hb2 : ¬ b = 0 := by simpa using hb0
  go_enter Try.func15, Try.ntmps15
  go_wp2_with (first
    | (go_at_call 34; refine (divide_any _ _ (by assumption) (by assumption) (by assumption) (by assumption) (by assumption) (by assumption) _).mono ?_; rintro e w' ⟨rfl, n, rfl⟩))
  go_ret2
  exact ⟨ret_ib (by simp [opV, hb2]) (by simp [opOk, hb2]), _, rfl⟩
theorem op_6 (a b : Int) (h1 : -2147483648 ≤ a) (h2 : a ≤ 2147483647) (h3 : -2147483648 ≤ b) (h4 : b ≤ 2147483647) (hb0 : (b == 0) = false) (hb1 : (b == -1) = false) (w : World) :
    Calls Try.prog 15 #[.int .i64 6, .int .i32 a, .int .i32 b] w fun e w' => e = .returned (.tuple #[.int .i32 (opV 6 a b), .bool (opOk 6 b)]) ∧ ∃ n, w' = w.drewN n := by
  have hb2 : ¬ b = 0 := by simpa using hb0
  go_enter Try.func15, Try.ntmps15
  go_wp2_with (first
    | (go_at_call 34; refine (divide_any _ _ (by assumption) (by assumption) (by assumption) (by assumption) (by assumption) (by assumption) _).mono ?_; rintro e w' ⟨rfl, n, rfl⟩))
  go_ret2
  exact ⟨ret_ib (by simp [opV, hb2]) (by simp [opOk, hb2]), _, rfl⟩
theorem op_5m (a : Int) (h1 : -2147483648 ≤ a) (h2 : a ≤ 2147483647) (w : World) :
    Calls Try.prog 15 #[.int .i64 5, .int .i32 a, .int .i32 (-1)] w fun e w' => e = .returned (.tuple #[.int .i32 (opV 5 a (-1)), .bool (opOk 5 (-1))]) ∧ ∃ n, w' = w.drewN n := by
  go_enter Try.func15, Try.ntmps15
  go_wp2_with (first
    | (go_at_call 34; refine (divide_one _ (by assumption) (by assumption) _).mono ?_; rintro e w' ⟨rfl, n, rfl⟩))
  go_ret2
  exact ⟨ret_ib (by simp [opV]) (by simp [opOk]), _, rfl⟩
theorem op_6m (a : Int) (h1 : -2147483648 ≤ a) (h2 : a ≤ 2147483647) (w : World) :
    Calls Try.prog 15 #[.int .i64 6, .int .i32 a, .int .i32 (-1)] w fun e w' => e = .returned (.tuple #[.int .i32 (opV 6 a (-1)), .bool (opOk 6 (-1))]) ∧ ∃ n, w' = w.drewN n := by
  go_enter Try.func15, Try.ntmps15
  go_wp2_with (first
    | (go_at_call 34; refine (divide_one _ (by assumption) (by assumption) _).mono ?_; rintro e w' ⟨rfl, n, rfl⟩))
  go_ret2
  exact ⟨ret_ib (by simp [opV]) (by simp [opOk]), _, rfl⟩
theorem op_5z (a : Int) (h1 : -2147483648 ≤ a) (h2 : a ≤ 2147483647) (w : World) :
    Calls Try.prog 15 #[.int .i64 5, .int .i32 a, .int .i32 0] w fun e w' => e = .returned (.tuple #[.int .i32 (opV 5 a 0), .bool (opOk 5 0)]) ∧ w = w' := by
  go_enter Try.func15, Try.ntmps15
  go_wp2
  go_ret2
  exact ⟨ret_ib (by simp [opV]) (by simp [opOk]), rfl⟩
theorem op_6z (a : Int) (h1 : -2147483648 ≤ a) (h2 : a ≤ 2147483647) (w : World) :
    Calls Try.prog 15 #[.int .i64 6, .int .i32 a, .int .i32 0] w fun e w' => e = .returned (.tuple #[.int .i32 (opV 6 a 0), .bool (opOk 6 0)]) ∧ w = w' := by
  go_enter Try.func15, Try.ntmps15
  go_wp2
  go_ret2
  exact ⟨ret_ib (by simp [opV]) (by simp [opOk]), rfl⟩
theorem op_7 (a b : Int) (h1 : -2147483648 ≤ a) (h2 : a ≤ 2147483647) (h3 : -2147483648 ≤ b) (h4 : b ≤ 2147483647) (w : World) :
    Calls Try.prog 15 #[.int .i64 7, .int .i32 a, .int .i32 b] w fun e w' => e = .returned (.tuple #[.int .i32 (opV 7 a b), .bool (opOk 7 b)]) ∧ w = w' := by
  go_enter Try.func15, Try.ntmps15
  go_wp2
  go_ret2
  exact ⟨ret_ib (by simp [opV]) (by simp [opOk]), rfl⟩
theorem op_8 (a b : Int) (h1 : -2147483648 ≤ a) (h2 : a ≤ 2147483647) (h3 : -2147483648 ≤ b) (h4 : b ≤ 2147483647) (w : World) :
    Calls Try.prog 15 #[.int .i64 8, .int .i32 a, .int .i32 b] w fun e w' => e = .returned (.tuple #[.int .i32 (opV 8 a b), .bool (opOk 8 b)]) ∧ w = w' := by
  go_enter Try.func15, Try.ntmps15
  go_wp2
  go_ret2
  exact ⟨ret_ib (by simp [opV]) (by simp [opOk]), rfl⟩
theorem op_9 (a b : Int) (h1 : -2147483648 ≤ a) (h2 : a ≤ 2147483647) (h3 : -2147483648 ≤ b) (h4 : b ≤ 2147483647) (w : World) :
    Calls Try.prog 15 #[.int .i64 9, .int .i32 a, .int .i32 b] w fun e w' => e = .returned (.tuple #[.int .i32 (opV 9 a b), .bool (opOk 9 b)]) ∧ w = w' := by
  go_enter Try.func15, Try.ntmps15
  go_wp2
  go_ret2
  exact ⟨ret_ib (by simp [opV]) (by simp [opOk]), rfl⟩
theorem op_10 (a b : Int) (h1 : -2147483648 ≤ a) (h2 : a ≤ 2147483647) (h3 : -2147483648 ≤ b) (h4 : b ≤ 2147483647) (w : World) :
    Calls Try.prog 15 #[.int .i64 10, .int .i32 a, .int .i32 b] w fun e w' => e = .returned (.tuple #[.int .i32 (opV 10 a b), .bool (opOk 10 b)]) ∧ w = w' := by
  go_enter Try.func15, Try.ntmps15
  go_wp2_with (first
    | (go_at_call 29; refine (one_any _ _).mono ?_; rintro e w' ⟨rfl, rfl⟩))
  go_ret2
  exact ⟨ret_ib (by simp [opV]) (by simp [opOk]), rfl⟩
theorem op_12 (a b : Int) (h1 : -2147483648 ≤ a) (h2 : a ≤ 2147483647) (h3 : -2147483648 ≤ b) (h4 : b ≤ 2147483647) (w : World) :
    Calls Try.prog 15 #[.int .i64 12, .int .i32 a, .int .i32 b] w fun e w' => e = .returned (.tuple #[.int .i32 (opV 12 a b), .bool (opOk 12 b)]) ∧ w = w' := by
  go_enter Try.func15, Try.ntmps15
  go_wp2_with (first
    | (go_at_call 29; refine (one_any _ _).mono ?_; rintro e w' ⟨rfl, rfl⟩))
  go_ret2
  exact ⟨ret_ib (by simp [opV]) (by simp [opOk]), rfl⟩
theorem op_11 (a b : Int) (h1 : -2147483648 ≤ a) (h2 : a ≤ 2147483647) (h3 : -2147483648 ≤ b) (h4 : b ≤ 2147483647) (w : World) :
    Calls Try.prog 15 #[.int .i64 11, .int .i32 a, .int .i32 b] w fun e w' => e = .returned (.tuple #[.int .i32 (opV 11 a b), .bool (opOk 11 b)]) ∧ w = w' := by
  go_enter Try.func15, Try.ntmps15
  go_wp2_with (first
    | (go_at_call 33; refine (low_any _ _).mono ?_; rintro e w' ⟨rfl, rfl⟩)
    | (go_at_call 29; refine (one_any _ _).mono ?_; rintro e w' ⟨rfl, rfl⟩))
  go_ret2
  exact ⟨ret_ib (by simp [opV]) (by simp [opOk]), rfl⟩
theorem op_no (op a b : Int) (hb : ∀ k : Int, 1 ≤ k → k ≤ 12 → (op == k) = false) (w : World) :
    Calls Try.prog 15 #[.int .i64 op, .int .i32 a, .int .i32 b] w fun e w' => e = .returned (.tuple #[.int .i32 (opV op a b), .bool (opOk op b)]) ∧ w = w' := by
  have k1 := hb 1 (by omega) (by omega)
  have k2 := hb 2 (by omega) (by omega)
  have k3 := hb 3 (by omega) (by omega)
  have k4 := hb 4 (by omega) (by omega)
  have k5 := hb 5 (by omega) (by omega)
  have k6 := hb 6 (by omega) (by omega)
  have k7 := hb 7 (by omega) (by omega)
  have k8 := hb 8 (by omega) (by omega)
  have k9 := hb 9 (by omega) (by omega)
  have k10 := hb 10 (by omega) (by omega)
  have k11 := hb 11 (by omega) (by omega)
  have k12 := hb 12 (by omega) (by omega)
  have hn : ¬ (1 ≤ op ∧ op ≤ 12) := fun ⟨x, y⟩ => by have := hb op x y; simp at this
  clear hb
  have HN := Lib.hid hn
  clear hn
  go_enter Try.func15, Try.ntmps15
  go_wp2
  go_ret2
  have hn := HN.out
  exact ⟨ret_ib (by unfold opV; repeat rw [if_neg (by omega)]) (by unfold opOk; rw [if_neg (by omega)]; simp; omega), rfl⟩
end Go.Proofs.Ytffhfcddlhdicaa
