/- Contracts of the reference's Op, operation by operation; both Op's for every operation. True for all arguments in range. -/
import Derived.Test.YtffhfcddlhdicaaWordC
namespace Go.Proofs.Ytffhfcddlhdicaa
open Go.RowKit
set_option linter.unusedVariables false
set_option linter.unusedSimpArgs false
theorem rop_1 (a b : Int) (h1 : -2147483648 ≤ a) (h2 : a ≤ 2147483647) (h3 : -2147483648 ≤ b) (h4 : b ≤ 2147483647) (w : World) :
    Calls Try.prog 16 #[.int .i64 1, .int .i32 a, .int .i32 b] w fun e w' => e = .returned (.tuple #[.int .i32 (opV 1 a b), .bool (opOk 1 b)]) ∧ w = w' := by
  go_enter Try.func16, Try.ntmps16
  go_wp2_with (first
    | (go_at_call 27; refine (word_any _ (by omega) (by omega) _).mono ?_; rintro e w' ⟨rfl, rfl⟩)
    | (go_at_call 30; refine (cut_any _ (by omega) (by omega) _).mono ?_; rintro e w' ⟨rfl, rfl⟩))
  go_ret2
  exact ⟨ret_ib (by simp [opV, wrap32_mod, mul_mod32]) (by simp [opOk]), rfl⟩
theorem rop_2 (a b : Int) (h1 : -2147483648 ≤ a) (h2 : a ≤ 2147483647) (h3 : -2147483648 ≤ b) (h4 : b ≤ 2147483647) (w : World) :
    Calls Try.prog 16 #[.int .i64 2, .int .i32 a, .int .i32 b] w fun e w' => e = .returned (.tuple #[.int .i32 (opV 2 a b), .bool (opOk 2 b)]) ∧ w = w' := by
  go_enter Try.func16, Try.ntmps16
  go_wp2_with (first
    | (go_at_call 27; refine (word_any _ (by omega) (by omega) _).mono ?_; rintro e w' ⟨rfl, rfl⟩)
    | (go_at_call 30; refine (cut_any _ (by omega) (by omega) _).mono ?_; rintro e w' ⟨rfl, rfl⟩))
  go_ret2
  exact ⟨ret_ib (by simp [opV, wrap32_mod, mul_mod32]) (by simp [opOk]), rfl⟩
theorem rop_3 (a b : Int) (h1 : -2147483648 ≤ a) (h2 : a ≤ 2147483647) (h3 : -2147483648 ≤ b) (h4 : b ≤ 2147483647) (w : World) :
    Calls Try.prog 16 #[.int .i64 3, .int .i32 a, .int .i32 b] w fun e w' => e = .returned (.tuple #[.int .i32 (opV 3 a b), .bool (opOk 3 b)]) ∧ w = w' := by
  go_enter Try.func16, Try.ntmps16
  go_wp2_with (first
    | (go_at_call 28; refine (free_any _ (by omega) (by omega) _).mono ?_; rintro e w' ⟨rfl, rfl⟩)
    | (go_at_call 31; refine (product_any _ _ (by omega) (by omega) (by omega) (by omega) _).mono ?_; rintro e w' ⟨rfl, rfl⟩)
    | (go_at_call 27; refine (word_any _ (by omega) (by omega) _).mono ?_; rintro e w' ⟨rfl, rfl⟩))
  go_ret2
  exact ⟨ret_ib (by simp [opV, wrap32_mod, mul_mod32]) (by simp [opOk]), rfl⟩
theorem rop_4 (a b : Int) (h1 : -2147483648 ≤ a) (h2 : a ≤ 2147483647) (h3 : -2147483648 ≤ b) (h4 : b ≤ 2147483647) (w : World) :
    Calls Try.prog 16 #[.int .i64 4, .int .i32 a, .int .i32 b] w fun e w' => e = .returned (.tuple #[.int .i32 (opV 4 a b), .bool (opOk 4 b)]) ∧ w = w' := by
  obtain ⟨m1, m2⟩ := mul_bound (a % 4294967296) (b % 4294967296) 4294967295 4294967295 (by omega) (by omega) (by omega) (by omega)
  have m3 : 0 ≤ (a % 4294967296) * (b % 4294967296) / 4294967296 := Int.ediv_nonneg m1 (by omega)
  have m4 : (a % 4294967296) * (b % 4294967296) / 4294967296 ≤ 4294967295 := by omega
  go_enter Try.func16, Try.ntmps16
  go_wp2_with (first
    | (go_at_call 28; refine (free_any _ (by omega) (by omega) _).mono ?_; rintro e w' ⟨rfl, rfl⟩)
    | (go_at_call 31; refine (product_any _ _ (by omega) (by omega) (by omega) (by omega) _).mono ?_; rintro e w' ⟨rfl, rfl⟩)
    | (go_at_call 27; refine (word_any _ (by omega) (by omega) _).mono ?_; rintro e w' ⟨rfl, rfl⟩))
  go_ret2
  exact ⟨ret_ib (by simp [opV, wrap32_mod, mul_mod32]) (by simp [opOk]), rfl⟩
theorem rop_5 (a b : Int) (h1 : -2147483648 ≤ a) (h2 : a ≤ 2147483647) (h3 : -2147483648 ≤ b) (h4 : b ≤ 2147483647) (hb0 : (b == 0) = false) (w : World) :
    Calls Try.prog 16 #[.int .i64 5, .int .i32 a, .int .i32 b] w fun e w' => e = .returned (.tuple #[.int .i32 (opV 5 a b), .bool (opOk 5 b)]) ∧ w = w' := by
  have hb2 : ¬ b = 0 := by simpa using hb0
  obtain ⟨t1, t2⟩ := tdiv_lo a b h1 h2
  go_enter Try.func16, Try.ntmps16
  go_wp2_with (first
    | (go_at_call 30; refine (cut_any _ (by omega) (by omega) _).mono ?_; rintro e w' ⟨rfl, rfl⟩)
    | (go_at_call 27; refine (word_any _ (by omega) (by omega) _).mono ?_; rintro e w' ⟨rfl, rfl⟩))
  go_ret2
  exact ⟨ret_ib (by simp [opV, hb2, wrap32_mod]) (by simp [opOk, hb2]), rfl⟩
theorem rop_6 (a b : Int) (h1 : -2147483648 ≤ a) (h2 : a ≤ 2147483647) (h3 : -2147483648 ≤ b) (h4 : b ≤ 2147483647) (hb0 : (b == 0) = false) (w : World) :
    Calls Try.prog 16 #[.int .i64 6, .int .i32 a, .int .i32 b] w fun e w' => e = .returned (.tuple #[.int .i32 (opV 6 a b), .bool (opOk 6 b)]) ∧ w = w' := by
  have hb2 : ¬ b = 0 := by simpa using hb0
  obtain ⟨t1, t2⟩ := tmod_lo' a b h1 h2
  have tw : wrap32 (a.tmod b) = a.tmod b := by unfold wrap32; omega
  have tw := Lib.hid tw
  go_enter Try.func16, Try.ntmps16
  go_wp2_with (first
    | (go_at_call 30; refine (cut_any _ (by omega) (by omega) _).mono ?_; rintro e w' ⟨rfl, rfl⟩)
    | (go_at_call 27; refine (word_any _ (by omega) (by omega) _).mono ?_; rintro e w' ⟨rfl, rfl⟩))
  go_ret2
  exact ⟨ret_ib (by simp [opV, hb2, wrap32_mod]; exact tw.out) (by simp [opOk, hb2]), rfl⟩
theorem rop_5z (a : Int) (h1 : -2147483648 ≤ a) (h2 : a ≤ 2147483647) (w : World) :
    Calls Try.prog 16 #[.int .i64 5, .int .i32 a, .int .i32 0] w fun e w' => e = .returned (.tuple #[.int .i32 (opV 5 a 0), .bool (opOk 5 0)]) ∧ w = w' := by
  go_enter Try.func16, Try.ntmps16
  go_wp2
  go_ret2
  exact ⟨ret_ib (by simp [opV]) (by simp [opOk]), rfl⟩
theorem rop_6z (a : Int) (h1 : -2147483648 ≤ a) (h2 : a ≤ 2147483647) (w : World) :
    Calls Try.prog 16 #[.int .i64 6, .int .i32 a, .int .i32 0] w fun e w' => e = .returned (.tuple #[.int .i32 (opV 6 a 0), .bool (opOk 6 0)]) ∧ w = w' := by
  go_enter Try.func16, Try.ntmps16
  go_wp2
  go_ret2
  exact ⟨ret_ib (by simp [opV]) (by simp [opOk]), rfl⟩
theorem rop_7 (a b : Int) (h1 : -2147483648 ≤ a) (h2 : a ≤ 2147483647) (h3 : -2147483648 ≤ b) (h4 : b ≤ 2147483647) (w : World) :
    Calls Try.prog 16 #[.int .i64 7, .int .i32 a, .int .i32 b] w fun e w' => e = .returned (.tuple #[.int .i32 (opV 7 a b), .bool (opOk 7 b)]) ∧ w = w' := by
  go_enter Try.func16, Try.ntmps16
  go_wp2_with (first
    | (go_at_call 35; refine (bits_and _ _ (by omega) (by omega) (by omega) (by omega) _).mono ?_; rintro e w' ⟨rfl, rfl⟩))
  go_ret2
  exact ⟨ret_ib (by simp [opV]) (by simp [opOk]), rfl⟩
theorem rop_8 (a b : Int) (h1 : -2147483648 ≤ a) (h2 : a ≤ 2147483647) (h3 : -2147483648 ≤ b) (h4 : b ≤ 2147483647) (w : World) :
    Calls Try.prog 16 #[.int .i64 8, .int .i32 a, .int .i32 b] w fun e w' => e = .returned (.tuple #[.int .i32 (opV 8 a b), .bool (opOk 8 b)]) ∧ w = w' := by
  go_enter Try.func16, Try.ntmps16
  go_wp2_with (first
    | (go_at_call 35; refine (bits_or _ _ (by omega) (by omega) (by omega) (by omega) _).mono ?_; rintro e w' ⟨rfl, rfl⟩))
  go_ret2
  exact ⟨ret_ib (by simp [opV]) (by simp [opOk]), rfl⟩
theorem rop_9 (a b : Int) (h1 : -2147483648 ≤ a) (h2 : a ≤ 2147483647) (h3 : -2147483648 ≤ b) (h4 : b ≤ 2147483647) (w : World) :
    Calls Try.prog 16 #[.int .i64 9, .int .i32 a, .int .i32 b] w fun e w' => e = .returned (.tuple #[.int .i32 (opV 9 a b), .bool (opOk 9 b)]) ∧ w = w' := by
  go_enter Try.func16, Try.ntmps16
  go_wp2_with (first
    | (go_at_call 35; refine (bits_xor _ _ (by omega) (by omega) (by omega) (by omega) _).mono ?_; rintro e w' ⟨rfl, rfl⟩))
  go_ret2
  exact ⟨ret_ib (by simp [opV]) (by simp [opOk]), rfl⟩
theorem rop_10 (a b : Int) (h1 : -2147483648 ≤ a) (h2 : a ≤ 2147483647) (h3 : -2147483648 ≤ b) (h4 : b ≤ 2147483647) (w : World) :
    Calls Try.prog 16 #[.int .i64 10, .int .i32 a, .int .i32 b] w fun e w' => e = .returned (.tuple #[.int .i32 (opV 10 a b), .bool (opOk 10 b)]) ∧ w = w' := by
  go_enter Try.func16, Try.ntmps16
  go_wp2_with (first
    | (go_at_call 32; refine (truth_any _ _).mono ?_; rintro e w' ⟨rfl, rfl⟩))
  go_ret2
  exact ⟨ret_ib (by simp [opV]) (by simp [opOk]), rfl⟩
theorem rop_12 (a b : Int) (h1 : -2147483648 ≤ a) (h2 : a ≤ 2147483647) (h3 : -2147483648 ≤ b) (h4 : b ≤ 2147483647) (w : World) :
    Calls Try.prog 16 #[.int .i64 12, .int .i32 a, .int .i32 b] w fun e w' => e = .returned (.tuple #[.int .i32 (opV 12 a b), .bool (opOk 12 b)]) ∧ w = w' := by
  go_enter Try.func16, Try.ntmps16
  go_wp2_with (first
    | (go_at_call 32; refine (truth_any _ _).mono ?_; rintro e w' ⟨rfl, rfl⟩))
  go_ret2
  exact ⟨ret_ib (by simp [opV]) (by simp [opOk]), rfl⟩
theorem rop_11 (a b : Int) (h1 : -2147483648 ≤ a) (h2 : a ≤ 2147483647) (h3 : -2147483648 ≤ b) (h4 : b ≤ 2147483647) (w : World) :
    Calls Try.prog 16 #[.int .i64 11, .int .i32 a, .int .i32 b] w fun e w' => e = .returned (.tuple #[.int .i32 (opV 11 a b), .bool (opOk 11 b)]) ∧ w = w' := by
  go_enter Try.func16, Try.ntmps16
  go_wp2_with (first
    | (go_at_call 28; refine (free_any _ (by omega) (by omega) _).mono ?_; rintro e w' ⟨rfl, rfl⟩)
    | (go_at_call 32; refine (truth_any _ _).mono ?_; rintro e w' ⟨rfl, rfl⟩))
  go_ret2
  exact ⟨ret_ib (by simp [opV]) (by simp [opOk]), rfl⟩
theorem rop_no (op a b : Int) (hb : ∀ k : Int, 1 ≤ k → k ≤ 12 → (op == k) = false) (w : World) :
    Calls Try.prog 16 #[.int .i64 op, .int .i32 a, .int .i32 b] w fun e w' => e = .returned (.tuple #[.int .i32 (opV op a b), .bool (opOk op b)]) ∧ w = w' := by
  have k1 := hb 1 (by omega) (by omega)
  have k2 := hb 2 (by omega) (by omega)
  have k3 := hb 3 (by omega) (by omega)
  have k4 := hb 4 (by omega) (by omega)
  have k5 := hb 5 (by omega) (by omega)
  have k6 := hb 6 (by omega) (by omega)
  have k7 := hb 7 (by omega) (by omega)
  have k8 := hb 8 (by omega) (by omega)
  have k9 := hb 9 (by omega) (by omega)
  have k10 := hb 10 (by omega) (by omega)
  have k11 := hb 11 (by omega) (by omega)
  have k12 := hb 12 (by omega) (by omega)
  have hn : ¬ (1 ≤ op ∧ op ≤ 12) := fun ⟨x, y⟩ => by have := hb op x y; simp at this
  clear hb
  have HN := Lib.hid hn
  clear hn
  go_enter Try.func16, Try.ntmps16
  go_wp2
  go_ret2
  have hn := HN.out
  exact ⟨ret_ib (by unfold opV; repeat rw [if_neg (by omega)]) (by unfold opOk; rw [if_neg (by omega)]; simp; omega), rfl⟩
theorem no_op (op : Int) (h : ¬ (1 ≤ op ∧ op ≤ 12)) : ∀ k : Int, 1 ≤ k → k ≤ 12 → (op == k) = false := fun k h1 h2 => by
  rw [beq_eq_false_iff_ne]; omega
theorem zero_same {P : Program} {f : FuncId} {l : Array Value} {w : World} {v : Value} (h : Calls P f l w fun e w' => e = .returned v ∧ w = w') : Calls P f l w fun e w' => e = .returned v ∧ ∃ n, w' = w.drewN n :=
  h.mono fun _ _ ⟨a, b⟩ => ⟨a, 0, b.symm⟩
theorem op_any (op a b : Int) (h1 : -2147483648 ≤ a) (h2 : a ≤ 2147483647) (h3 : -2147483648 ≤ b) (h4 : b ≤ 2147483647) (w : World) :
    Calls Try.prog 15 #[.int .i64 op, .int .i32 a, .int .i32 b] w fun e w' => e = .returned (.tuple #[.int .i32 (opV op a b), .bool (opOk op b)]) ∧ ∃ n, w' = w.drewN n := by
  by_cases hop : 1 ≤ op ∧ op ≤ 12
  · obtain ⟨o1, o2⟩ := hop
    rcases (show op = 1 ∨ op = 2 ∨ op = 3 ∨ op = 4 ∨ op = 5 ∨ op = 6 ∨ op = 7 ∨ op = 8 ∨ op = 9 ∨ op = 10 ∨ op = 11 ∨ op = 12 by omega) with rfl | rfl | rfl | rfl | rfl | rfl | rfl | rfl | rfl | rfl | rfl | rfl
    · exact zero_same (op_1 a b h1 h2 h3 h4 w)
    · exact zero_same (op_2 a b h1 h2 h3 h4 w)
    · exact zero_same (op_3 a b h1 h2 h3 h4 w)
    · exact zero_same (op_4 a b h1 h2 h3 h4 w)
    · by_cases hb : b = 0
      · subst hb; exact zero_same (op_5z a h1 h2 w)
      · by_cases hb1 : b = -1
        · subst hb1; exact op_5m a h1 h2 w
        · exact op_5 a b h1 h2 h3 h4 (by simpa using hb) (by simpa using hb1) w
    · by_cases hb : b = 0
      · subst hb; exact zero_same (op_6z a h1 h2 w)
      · by_cases hb1 : b = -1
        · subst hb1; exact op_6m a h1 h2 w
        · exact op_6 a b h1 h2 h3 h4 (by simpa using hb) (by simpa using hb1) w
    · exact zero_same (op_7 a b h1 h2 h3 h4 w)
    · exact zero_same (op_8 a b h1 h2 h3 h4 w)
    · exact zero_same (op_9 a b h1 h2 h3 h4 w)
    · exact zero_same (op_10 a b h1 h2 h3 h4 w)
    · exact zero_same (op_11 a b h1 h2 h3 h4 w)
    · exact zero_same (op_12 a b h1 h2 h3 h4 w)
  · exact zero_same (op_no op a b (no_op op hop) w)
theorem rop_any (op a b : Int) (h1 : -2147483648 ≤ a) (h2 : a ≤ 2147483647) (h3 : -2147483648 ≤ b) (h4 : b ≤ 2147483647) (w : World) :
    Calls Try.prog 16 #[.int .i64 op, .int .i32 a, .int .i32 b] w fun e w' => e = .returned (.tuple #[.int .i32 (opV op a b), .bool (opOk op b)]) ∧ w = w' := by
  by_cases hop : 1 ≤ op ∧ op ≤ 12
  · obtain ⟨o1, o2⟩ := hop
    rcases (show op = 1 ∨ op = 2 ∨ op = 3 ∨ op = 4 ∨ op = 5 ∨ op = 6 ∨ op = 7 ∨ op = 8 ∨ op = 9 ∨ op = 10 ∨ op = 11 ∨ op = 12 by omega) with rfl | rfl | rfl | rfl | rfl | rfl | rfl | rfl | rfl | rfl | rfl | rfl
    · exact rop_1 a b h1 h2 h3 h4 w
    · exact rop_2 a b h1 h2 h3 h4 w
    · exact rop_3 a b h1 h2 h3 h4 w
    · exact rop_4 a b h1 h2 h3 h4 w
    · by_cases hb : b = 0
      · subst hb; exact rop_5z a h1 h2 w
      · exact rop_5 a b h1 h2 h3 h4 (by simpa using hb) w
    · by_cases hb : b = 0
      · subst hb; exact rop_6z a h1 h2 w
      · exact rop_6 a b h1 h2 h3 h4 (by simpa using hb) w
    · exact rop_7 a b h1 h2 h3 h4 w
    · exact rop_8 a b h1 h2 h3 h4 w
    · exact rop_9 a b h1 h2 h3 h4 w
    · exact rop_10 a b h1 h2 h3 h4 w
    · exact rop_11 a b h1 h2 h3 h4 w
    · exact rop_12 a b h1 h2 h3 h4 w
  · exact rop_no op a b (no_op op hop) w
theorem opV_lo (op a b : Int) (h1 : -2147483648 ≤ a) (h2 : a ≤ 2147483647) (h3 : -2147483648 ≤ b) (h4 : b ≤ 2147483647) : -2147483648 ≤ opV op a b ∧ opV op a b ≤ 2147483647 := by
  have hw : ∀ n, -2147483648 ≤ wrap32 n ∧ wrap32 n ≤ 2147483647 := fun n => by unfold wrap32; omega
  have hb : ∀ k, isBit k → -2147483648 ≤ bits k .i32 a b ∧ bits k .i32 a b ≤ 2147483647 := fun k hk => by rw [bits_i32 k hk]; exact hw _
  have hi : ∀ c, -2147483648 ≤ b2i c ∧ b2i c ≤ 2147483647 := fun c => by cases c <;> decide
  have hm := tmod_lo' a b h1 h2
  have ok : ∀ (c : Prop) [Decidable c] (x y : Int), (-2147483648 ≤ x ∧ x ≤ 2147483647) → (-2147483648 ≤ y ∧ y ≤ 2147483647) → (-2147483648 ≤ (if c then x else y) ∧ (if c then x else y) ≤ 2147483647) := by
    intro c _ x y hx hy; split <;> assumption
  unfold opV
  repeat' (first | exact hw _ | exact hb _ (by simp [isBit]) | exact hi _ | exact hm | refine ok _ _ _ ?_ ?_ | (constructor <;> decide))
end Go.Proofs.Ytffhfcddlhdicaa
