/- The plain laws of WordMade: what is reckoned of two longs is made of what is reckoned of their words; and the contract of the law's own op. -/
import Derived.Test.YtffhfcddlhdicaaWordE
namespace Go.Proofs.Ytffhfcddlhdicaa
open Go.RowKit
set_option linter.unusedVariables false
set_option linter.unusedSimpArgs false
theorem opV_b (op a b : Int) (h : op ≠ 6) : -2147483648 ≤ opV op a b ∧ opV op a b ≤ 2147483647 := by
  have hb : ∀ k, isBit k → -2147483648 ≤ bits k .i32 a b ∧ bits k .i32 a b ≤ 2147483647 := fun k hk => by rw [bits_i32 k hk]; exact w32 _
  have hi : ∀ c, -2147483648 ≤ b2i c ∧ b2i c ≤ 2147483647 := fun c => by cases c <;> decide
  have ok : ∀ (c : Prop) [Decidable c] (x y : Int), (-2147483648 ≤ x ∧ x ≤ 2147483647) → (-2147483648 ≤ y ∧ y ≤ 2147483647) → (-2147483648 ≤ (if c then x else y) ∧ (if c then x else y) ≤ 2147483647) := by
    intro c _ x y hx hy; split <;> assumption
  unfold opV
  rw [if_neg h]
  repeat' (first | exact w32 _ | exact hb _ (by simp [isBit]) | exact hi _ | refine ok _ _ _ ?_ ?_ | (constructor <;> decide))
theorem b2i_eq (c : Bool) (n : Int) (h1 : c = true → n = 1) (h2 : c = false → n = 0) : n = b2i c := by cases c <;> simp [b2i] at * <;> assumption
theorem opV1 (a b : Int) : opV 1 a b = wrap32 (a + b) := by simp [opV]
theorem opV2 (a b : Int) : opV 2 a b = wrap32 (a - b) := by simp [opV]
theorem opV3 (a b : Int) : opV 3 a b = wrap32 (a * b) := by simp [opV]
theorem opV4 (a b : Int) : opV 4 a b = wrap32 ((a % 4294967296) * (b % 4294967296) / 4294967296) := by simp [opV]
theorem opV7 (a b : Int) : opV 7 a b = bits .and .i32 a b := by simp [opV]
theorem opV8 (a b : Int) : opV 8 a b = bits .or .i32 a b := by simp [opV]
theorem opV10 (a b : Int) : opV 10 a b = b2i (decide (a < b)) := by simp [opV]
theorem opV11 (a b : Int) : opV 11 a b = b2i (decide (a % 4294967296 < b % 4294967296)) := by simp [opV]
theorem opV12 (a b : Int) : opV 12 a b = b2i (a == b) := by simp [opV]
theorem wideV1 (a b : Int) : wideV 1 a b = wrap64 (a + b) := by simp [wideV]
theorem wideV2 (a b : Int) : wideV 2 a b = wrap64 (a - b) := by simp [wideV]
theorem wideV3 (a b : Int) : wideV 3 a b = wrap64 (a * b) := by simp [wideV]
theorem wideV10 (a b : Int) : wideV 10 a b = b2i (decide (a < b)) := by simp [wideV]
theorem joined (a : Int) (h1 : -9223372036854775808 ≤ a) (h2 : a ≤ 9223372036854775807) : wrap32 (a / 4294967296) * 4294967296 + wrap32 a % 4294967296 = a := by unfold wrap32; omega
theorem b2i_lt (x y : Int) : b2i (decide (x < y)) = if x < y then 1 else 0 := by unfold b2i; simp
theorem made_add (a b : Int) : wideV 1 a b = opV 1 (opV 1 (wrap32 (a / 4294967296)) (wrap32 (b / 4294967296))) (opV 11 (opV 1 (wrap32 a) (wrap32 b)) (wrap32 a)) * 4294967296 + opV 1 (wrap32 a) (wrap32 b) % 4294967296 := by
  rw [wideV1, opV1, opV1, opV1, opV11, b2i_lt]
  split <;> unfold wrap32 wrap64 at * <;> omega
theorem made_sub (a b : Int) : wideV 2 a b = opV 2 (opV 2 (wrap32 (a / 4294967296)) (wrap32 (b / 4294967296))) (opV 11 (wrap32 a) (wrap32 b)) * 4294967296 + opV 2 (wrap32 a) (wrap32 b) % 4294967296 := by
  rw [wideV2, opV2, opV2, opV2, opV11, b2i_lt]
  split <;> unfold wrap32 wrap64 at * <;> omega
theorem wrap32_ww (a b : Int) : wrap32 (wrap32 a * wrap32 b) = wrap32 ((a % 4294967296) * (b % 4294967296)) := by
  rw [mul_mod32, ← mul_mod32, wl, wl, mul_mod32]
theorem wadd (x y z : Int) : wrap32 (x + wrap32 (y + z)) = wrap32 (x + y + z) := by unfold wrap32; omega
theorem wadd3 (x y z : Int) : wrap32 (wrap32 x + wrap32 (wrap32 y + wrap32 z)) = wrap32 (x + y % 4294967296 + z % 4294967296) := by unfold wrap32; omega
theorem made_mul (a b : Int) : wideV 3 a b = opV 1 (opV 4 (wrap32 a) (wrap32 b)) (opV 1 (opV 3 (wrap32 a) (wrap32 (b / 4294967296))) (opV 3 (wrap32 (a / 4294967296)) (wrap32 b))) * 4294967296 + opV 3 (wrap32 a) (wrap32 b) % 4294967296 := by
  rw [wideV3, opV1, opV1, opV3, opV3, opV3, opV4, wrap32_ww, wrap32_ww, wrap32_ww, wl, wl, wadd3, ← whole_mul]
theorem and_b (x y : Bool) : bits .and .i32 (b2i x) (b2i y) = b2i (x && y) := by cases x <;> cases y <;> decide
theorem or_b (x y : Bool) : bits .or .i32 (b2i x) (b2i y) = b2i (x || y) := by cases x <;> cases y <;> decide
theorem made_less (a b : Int) (h1 : -9223372036854775808 ≤ a) (h2 : a ≤ 9223372036854775807) (h3 : -9223372036854775808 ≤ b) (h4 : b ≤ 9223372036854775807) :
    wideV 10 a b = opV 8 (opV 10 (wrap32 (a / 4294967296)) (wrap32 (b / 4294967296))) (opV 7 (opV 12 (wrap32 (a / 4294967296)) (wrap32 (b / 4294967296))) (opV 11 (wrap32 a) (wrap32 b))) := by
  rw [wideV10, opV8, opV10, opV7, opV12, opV11, and_b, or_b]
  congr 1
  rw [Bool.eq_iff_iff]
  simp
  unfold wrap32
  omega
theorem kop_1 (a b : Int) (h1 : -2147483648 ≤ a) (h2 : a ≤ 2147483647) (h3 : -2147483648 ≤ b) (h4 : b ≤ 2147483647) (op : Int) (hop : op = 1 ∨ op = 2 ∨ op = 3 ∨ op = 4 ∨ op = 7 ∨ op = 8 ∨ op = 10 ∨ op = 11 ∨ op = 12) (w : World) :
    Calls Try.prog 15 #[.int .i64 op, .int .i32 a, .int .i32 b] w fun e w' => e = .returned (.tuple #[.int .i32 (opV op a b), .bool (opOk op b)]) ∧ w = w' := by
  rcases hop with rfl | rfl | rfl | rfl | rfl | rfl | rfl | rfl | rfl
  · exact op_1 a b h1 h2 h3 h4 w
  · exact op_2 a b h1 h2 h3 h4 w
  · exact op_3 a b h1 h2 h3 h4 w
  · exact op_4 a b h1 h2 h3 h4 w
  · exact op_7 a b h1 h2 h3 h4 w
  · exact op_8 a b h1 h2 h3 h4 w
  · exact op_10 a b h1 h2 h3 h4 w
  · exact op_11 a b h1 h2 h3 h4 w
  · exact op_12 a b h1 h2 h3 h4 w
theorem kop_any (op a b : Int) (h1 : -2147483648 ≤ a) (h2 : a ≤ 2147483647) (h3 : -2147483648 ≤ b) (h4 : b ≤ 2147483647) (hop : op = 1 ∨ op = 2 ∨ op = 3 ∨ op = 4 ∨ op = 7 ∨ op = 8 ∨ op = 10 ∨ op = 11 ∨ op = 12) (w : World) :
    Calls Try.prog 22 #[.int .i64 op, .int .i32 a, .int .i32 b] w fun e w' => e = .returned (.int .i32 (opV op a b)) ∧ w = w' := by
  have H := Lib.hid hop
  clear hop
  go_enter Try.func22, Try.ntmps22
  go_wp2_with (go_at_call 15; refine (kop_1 _ _ (by assumption) (by assumption) (by assumption) (by assumption) _ H.out _).mono ?_; rintro e w' ⟨rfl, rfl⟩)
  go_ret
  exact ⟨rfl, rfl⟩
theorem ne_false {a b : Int} (h : a = b) : (a != b) = false := by subst h; simp
end Go.Proofs.Ytffhfcddlhdicaa
