/- Contracts of word.Wide and of the reference's Wide, operation by operation: both return wideV and wideOk. True for all arguments in range. -/
import Derived.Test.YtffhfcddlhdicaaWordD
namespace Go.Proofs.Ytffhfcddlhdicaa
open Go.RowKit
set_option linter.unusedVariables false
set_option linter.unusedSimpArgs false
set_option maxRecDepth 100000
def wideV (op a b : Int) : Int :=
  if op = 1 then wrap64 (a + b) else if op = 2 then wrap64 (a - b) else if op = 3 then wrap64 (a * b)
  else if op = 7 then bits .and .i64 a b else if op = 8 then bits .or .i64 a b else if op = 9 then bits .xor .i64 a b
  else if op = 10 then b2i (decide (a < b)) else if op = 12 then b2i (a == b) else 0
def wideOk (op : Int) : Bool := decide (op = 1 ∨ op = 2 ∨ op = 3 ∨ op = 7 ∨ op = 8 ∨ op = 9 ∨ op = 10 ∨ op = 12)
theorem w32 (n : Int) : -2147483648 ≤ wrap32 n ∧ wrap32 n ≤ 2147483647 := by unfold wrap32; omega
theorem whole_add (a b : Int) : wrap32 ((wrap32 (a / 4294967296) % 4294967296 + wrap32 (b / 4294967296) % 4294967296 + (wrap32 a % 4294967296 + wrap32 b % 4294967296) / 4294967296) % 4294967296) * 4294967296 + wrap32 ((wrap32 a + wrap32 b) % 4294967296) % 4294967296 = wrap64 (a + b) := by
  unfold wrap32 wrap64; omega
theorem whole_sub1 (a b : Int) (h : wrap32 a % 4294967296 - wrap32 b % 4294967296 < 0) : wrap32 ((wrap32 (a / 4294967296) % 4294967296 - wrap32 (b / 4294967296) % 4294967296 - 1) % 4294967296) * 4294967296 + wrap32 ((wrap32 a - wrap32 b) % 4294967296) % 4294967296 = wrap64 (a - b) := by
  unfold wrap32 wrap64 at *; omega
theorem whole_sub2 (a b : Int) (h : ¬ wrap32 a % 4294967296 - wrap32 b % 4294967296 < 0) : wrap32 ((wrap32 (a / 4294967296) - wrap32 (b / 4294967296)) % 4294967296) * 4294967296 + wrap32 ((wrap32 a - wrap32 b) % 4294967296) % 4294967296 = wrap64 (a - b) := by
  unfold wrap32 wrap64 at *; omega
theorem wl (a : Int) : wrap32 a % 4294967296 = a % 4294967296 := by unfold wrap32; omega
theorem whole_mul' (a b : Int) : wrap32 ((wrap32 a % 4294967296 * (wrap32 b % 4294967296) / 4294967296 + wrap32 a % 4294967296 * (wrap32 (b / 4294967296) % 4294967296) % 4294967296 + wrap32 (a / 4294967296) % 4294967296 * (wrap32 b % 4294967296)) % 4294967296) * 4294967296 + wrap32 (wrap32 a % 4294967296 * (wrap32 b % 4294967296) % 4294967296) % 4294967296 = wrap64 (a * b) := by
  rw [wl, wl, wl, wl, wrap32_mod, wrap32_mod, ← whole_mul a b, ← wrap32_mod, ← wrap32_mod (_ + _ % 4294967296)]; congr 3; omega
theorem half_lt (a b : Int) (h1 : -9223372036854775808 ≤ a) (h2 : a ≤ 9223372036854775807) (h3 : -9223372036854775808 ≤ b) (h4 : b ≤ 9223372036854775807)
    (h : (wrap32 (a / 4294967296) == wrap32 (b / 4294967296)) = false) : decide (wrap32 (a / 4294967296) < wrap32 (b / 4294967296)) = decide (a < b) := by
  rw [beq_eq_false_iff_ne] at h
  rw [decide_eq_decide]; unfold wrap32 at *; omega
theorem half_lt' (a b : Int) (h1 : -9223372036854775808 ≤ a) (h2 : a ≤ 9223372036854775807) (h3 : -9223372036854775808 ≤ b) (h4 : b ≤ 9223372036854775807)
    (h : (wrap32 (a / 4294967296) == wrap32 (b / 4294967296)) = true) : decide (wrap32 a % 4294967296 < wrap32 b % 4294967296) = decide (a < b) := by
  rw [beq_iff_eq] at h
  rw [decide_eq_decide]; unfold wrap32 at *; omega
theorem half_eq (a b : Int) (h1 : -9223372036854775808 ≤ a) (h2 : a ≤ 9223372036854775807) (h3 : -9223372036854775808 ≤ b) (h4 : b ≤ 9223372036854775807)
    (h : (wrap32 a == wrap32 b) = true) : (wrap32 (a / 4294967296) == wrap32 (b / 4294967296)) = (a == b) := by
  rw [beq_iff_eq] at h
  rw [Bool.eq_iff_iff, beq_iff_eq, beq_iff_eq]; unfold wrap32 at *; omega
theorem half_ne (a b : Int) (h : (wrap32 a == wrap32 b) = false) : false = (a == b) := by
  rw [beq_eq_false_iff_ne] at h
  symm; rw [beq_eq_false_iff_ne]; intro e; subst e; exact h rfl

theorem wop_1 (a b : Int) (h1 : -9223372036854775808 ≤ a) (h2 : a ≤ 9223372036854775807) (h3 : -9223372036854775808 ≤ b) (h4 : b ≤ 9223372036854775807) (w : World) :
    Calls Try.prog 13 #[.int .i64 1, .int .i64 a, .int .i64 b] w fun e w' => e = .returned (.tuple #[.int .i64 (wideV 1 a b), .bool (wideOk 1)]) ∧ w = w' := by
  go_enter Try.func13, Try.ntmps13
  go_wp2
  go_ret2
  exact ⟨ret_ib (by simp [wideV]) (by simp [wideOk]), rfl⟩
theorem wop_2 (a b : Int) (h1 : -9223372036854775808 ≤ a) (h2 : a ≤ 9223372036854775807) (h3 : -9223372036854775808 ≤ b) (h4 : b ≤ 9223372036854775807) (w : World) :
    Calls Try.prog 13 #[.int .i64 2, .int .i64 a, .int .i64 b] w fun e w' => e = .returned (.tuple #[.int .i64 (wideV 2 a b), .bool (wideOk 2)]) ∧ w = w' := by
  go_enter Try.func13, Try.ntmps13
  go_wp2
  go_ret2
  exact ⟨ret_ib (by simp [wideV]) (by simp [wideOk]), rfl⟩
theorem wop_3 (a b : Int) (h1 : -9223372036854775808 ≤ a) (h2 : a ≤ 9223372036854775807) (h3 : -9223372036854775808 ≤ b) (h4 : b ≤ 9223372036854775807) (w : World) :
    Calls Try.prog 13 #[.int .i64 3, .int .i64 a, .int .i64 b] w fun e w' => e = .returned (.tuple #[.int .i64 (wideV 3 a b), .bool (wideOk 3)]) ∧ w = w' := by
  go_enter Try.func13, Try.ntmps13
  go_wp2
  go_ret2
  exact ⟨ret_ib (by simp [wideV]) (by simp [wideOk]), rfl⟩
theorem wop_7 (a b : Int) (h1 : -9223372036854775808 ≤ a) (h2 : a ≤ 9223372036854775807) (h3 : -9223372036854775808 ≤ b) (h4 : b ≤ 9223372036854775807) (w : World) :
    Calls Try.prog 13 #[.int .i64 7, .int .i64 a, .int .i64 b] w fun e w' => e = .returned (.tuple #[.int .i64 (wideV 7 a b), .bool (wideOk 7)]) ∧ w = w' := by
  go_enter Try.func13, Try.ntmps13
  go_wp2
  go_ret2
  exact ⟨ret_ib (by simp [wideV]) (by simp [wideOk]), rfl⟩
theorem wop_8 (a b : Int) (h1 : -9223372036854775808 ≤ a) (h2 : a ≤ 9223372036854775807) (h3 : -9223372036854775808 ≤ b) (h4 : b ≤ 9223372036854775807) (w : World) :
    Calls Try.prog 13 #[.int .i64 8, .int .i64 a, .int .i64 b] w fun e w' => e = .returned (.tuple #[.int .i64 (wideV 8 a b), .bool (wideOk 8)]) ∧ w = w' := by
  go_enter Try.func13, Try.ntmps13
  go_wp2
  go_ret2
  exact ⟨ret_ib (by simp [wideV]) (by simp [wideOk]), rfl⟩
theorem wop_9 (a b : Int) (h1 : -9223372036854775808 ≤ a) (h2 : a ≤ 9223372036854775807) (h3 : -9223372036854775808 ≤ b) (h4 : b ≤ 9223372036854775807) (w : World) :
    Calls Try.prog 13 #[.int .i64 9, .int .i64 a, .int .i64 b] w fun e w' => e = .returned (.tuple #[.int .i64 (wideV 9 a b), .bool (wideOk 9)]) ∧ w = w' := by
  go_enter Try.func13, Try.ntmps13
  go_wp2
  go_ret2
  exact ⟨ret_ib (by simp [wideV]) (by simp [wideOk]), rfl⟩
theorem wop_10 (a b : Int) (h1 : -9223372036854775808 ≤ a) (h2 : a ≤ 9223372036854775807) (h3 : -9223372036854775808 ≤ b) (h4 : b ≤ 9223372036854775807) (w : World) :
    Calls Try.prog 13 #[.int .i64 10, .int .i64 a, .int .i64 b] w fun e w' => e = .returned (.tuple #[.int .i64 (wideV 10 a b), .bool (wideOk 10)]) ∧ w = w' := by
  have i3 := b2i_lo (decide (a < b))
  have i4 := b2i_hi (decide (a < b))
  go_enter Try.func13, Try.ntmps13
  go_wp2_with (first
    | (go_at_call 29; refine (one_any _ _).mono ?_; rintro e w' ⟨rfl, rfl⟩))
  go_ret2
  exact ⟨ret_ib (by simp [wideV]) (by simp [wideOk]), rfl⟩
theorem wop_12 (a b : Int) (h1 : -9223372036854775808 ≤ a) (h2 : a ≤ 9223372036854775807) (h3 : -9223372036854775808 ≤ b) (h4 : b ≤ 9223372036854775807) (w : World) :
    Calls Try.prog 13 #[.int .i64 12, .int .i64 a, .int .i64 b] w fun e w' => e = .returned (.tuple #[.int .i64 (wideV 12 a b), .bool (wideOk 12)]) ∧ w = w' := by
  have i3 := b2i_lo (a == b)
  have i4 := b2i_hi (a == b)
  go_enter Try.func13, Try.ntmps13
  go_wp2_with (first
    | (go_at_call 29; refine (one_any _ _).mono ?_; rintro e w' ⟨rfl, rfl⟩))
  go_ret2
  exact ⟨ret_ib (by simp [wideV]) (by simp [wideOk]), rfl⟩
theorem wop_no (op a b : Int) (h1 : -9223372036854775808 ≤ a) (h2 : a ≤ 9223372036854775807) (h3 : -9223372036854775808 ≤ b) (h4 : b ≤ 9223372036854775807) (hb : ∀ k : Int, (k = 1 ∨ k = 2 ∨ k = 3 ∨ k = 7 ∨ k = 8 ∨ k = 9 ∨ k = 10 ∨ k = 12) → (op == k) = false) (w : World) :
    Calls Try.prog 13 #[.int .i64 op, .int .i64 a, .int .i64 b] w fun e w' => e = .returned (.tuple #[.int .i64 (wideV op a b), .bool (wideOk op)]) ∧ w = w' := by
  have k1 := hb 1 (by omega)
  have k2 := hb 2 (by omega)
  have k3 := hb 3 (by omega)
  have k7 := hb 7 (by omega)
  have k8 := hb 8 (by omega)
  have k9 := hb 9 (by omega)
  have k10 := hb 10 (by omega)
  have k12 := hb 12 (by omega)
  have hn : ¬ (op = 1 ∨ op = 2 ∨ op = 3 ∨ op = 7 ∨ op = 8 ∨ op = 9 ∨ op = 10 ∨ op = 12) := fun h => by have := hb op h; simp at this
  clear hb
  have HN := Lib.hid hn
  clear hn
  go_enter Try.func13, Try.ntmps13
  go_wp2
  go_ret2
  have hn := HN.out
  exact ⟨ret_ib (by unfold wideV; repeat rw [if_neg (by omega)]) (by unfold wideOk; simp; omega), rfl⟩
theorem rwop_1 (a b : Int) (h1 : -9223372036854775808 ≤ a) (h2 : a ≤ 9223372036854775807) (h3 : -9223372036854775808 ≤ b) (h4 : b ≤ 9223372036854775807) (w : World) :
    Calls Try.prog 14 #[.int .i64 1, .int .i64 a, .int .i64 b] w fun e w' => e = .returned (.tuple #[.int .i64 (wideV 1 a b), .bool (wideOk 1)]) ∧ w = w' := by
  obtain ⟨g1, g2⟩ := w32 a
  obtain ⟨g3, g4⟩ := w32 b
  obtain ⟨g5, g6⟩ := w32 (a / 4294967296)
  obtain ⟨g7, g8⟩ := w32 (b / 4294967296)
  obtain ⟨q0a, q0b⟩ := w32 ((wrap32 a % 4294967296 + wrap32 b % 4294967296) % 4294967296)
  obtain ⟨q1a, q1b⟩ := w32 ((wrap32 (a / 4294967296) % 4294967296 + wrap32 (b / 4294967296) % 4294967296 + (wrap32 a % 4294967296 + wrap32 b % 4294967296) / 4294967296) % 4294967296)
  go_enter Try.func14, Try.ntmps14
  go_wp2_with (first
    | (go_at_call 10; refine (halves_any _ (by omega) (by omega) _).mono ?_; rintro e w' ⟨rfl, rfl⟩)
    | (go_at_call 28; refine (free_any _ (by omega) (by omega) _).mono ?_; rintro e w' ⟨rfl, rfl⟩)
    | (go_at_call 27; refine (word_any _ (by omega) (by omega) _).mono ?_; rintro e w' ⟨rfl, rfl⟩)
    | (go_at_call 30; refine (cut_any _ (by omega) (by omega) _).mono ?_; rintro e w' ⟨rfl, rfl⟩)
    | (go_at_call 12; refine (whole_any _ _ (by first | omega | exact (w32 _).1) (by first | omega | exact (w32 _).2) (by first | omega | exact (w32 _).1) (by first | omega | exact (w32 _).2) _).mono ?_; rintro e w' ⟨rfl, rfl⟩))
  go_ret2
  exact ⟨ret_ib (show _ = wrap64 (a + b) from whole_add a b) (by simp [wideOk]), rfl⟩
theorem rwop_2a (a b : Int) (h1 : -9223372036854775808 ≤ a) (h2 : a ≤ 9223372036854775807) (h3 : -9223372036854775808 ≤ b) (h4 : b ≤ 9223372036854775807) (hs : wrap32 a % 4294967296 - wrap32 b % 4294967296 < 0) (w : World) :
    Calls Try.prog 14 #[.int .i64 2, .int .i64 a, .int .i64 b] w fun e w' => e = .returned (.tuple #[.int .i64 (wideV 2 a b), .bool (wideOk 2)]) ∧ w = w' := by
  obtain ⟨g1, g2⟩ := w32 a
  obtain ⟨g3, g4⟩ := w32 b
  obtain ⟨g5, g6⟩ := w32 (a / 4294967296)
  obtain ⟨g7, g8⟩ := w32 (b / 4294967296)
  obtain ⟨q0a, q0b⟩ := w32 ((wrap32 a % 4294967296 - wrap32 b % 4294967296) % 4294967296)
  obtain ⟨q1a, q1b⟩ := w32 ((wrap32 (a / 4294967296) % 4294967296 - wrap32 (b / 4294967296) % 4294967296 - 1) % 4294967296)
  go_enter Try.func14, Try.ntmps14
  go_wp2_with (first
    | (go_at_call 10; refine (halves_any _ (by omega) (by omega) _).mono ?_; rintro e w' ⟨rfl, rfl⟩)
    | (go_at_call 28; refine (free_any _ (by omega) (by omega) _).mono ?_; rintro e w' ⟨rfl, rfl⟩)
    | (go_at_call 27; refine (word_any _ (by omega) (by omega) _).mono ?_; rintro e w' ⟨rfl, rfl⟩)
    | (go_at_call 30; refine (cut_any _ (by omega) (by omega) _).mono ?_; rintro e w' ⟨rfl, rfl⟩)
    | (go_at_call 12; refine (whole_any _ _ (by first | omega | exact (w32 _).1) (by first | omega | exact (w32 _).2) (by first | omega | exact (w32 _).1) (by first | omega | exact (w32 _).2) _).mono ?_; rintro e w' ⟨rfl, rfl⟩))
  go_ret2
  exact ⟨ret_ib (show _ = wrap64 (a - b) from whole_sub1 a b hs) (by simp [wideOk]), rfl⟩
theorem rwop_2b (a b : Int) (h1 : -9223372036854775808 ≤ a) (h2 : a ≤ 9223372036854775807) (h3 : -9223372036854775808 ≤ b) (h4 : b ≤ 9223372036854775807) (hs : ¬ wrap32 a % 4294967296 - wrap32 b % 4294967296 < 0) (w : World) :
    Calls Try.prog 14 #[.int .i64 2, .int .i64 a, .int .i64 b] w fun e w' => e = .returned (.tuple #[.int .i64 (wideV 2 a b), .bool (wideOk 2)]) ∧ w = w' := by
  obtain ⟨g1, g2⟩ := w32 a
  obtain ⟨g3, g4⟩ := w32 b
  obtain ⟨g5, g6⟩ := w32 (a / 4294967296)
  obtain ⟨g7, g8⟩ := w32 (b / 4294967296)
  obtain ⟨q0a, q0b⟩ := w32 ((wrap32 a % 4294967296 - wrap32 b % 4294967296) % 4294967296)
  obtain ⟨q1a, q1b⟩ := w32 ((wrap32 (a / 4294967296) % 4294967296 - wrap32 (b / 4294967296) % 4294967296) % 4294967296)
  go_enter Try.func14, Try.ntmps14
  go_wp2_with (first
    | (go_at_call 10; refine (halves_any _ (by omega) (by omega) _).mono ?_; rintro e w' ⟨rfl, rfl⟩)
    | (go_at_call 28; refine (free_any _ (by omega) (by omega) _).mono ?_; rintro e w' ⟨rfl, rfl⟩)
    | (go_at_call 27; refine (word_any _ (by omega) (by omega) _).mono ?_; rintro e w' ⟨rfl, rfl⟩)
    | (go_at_call 30; refine (cut_any _ (by omega) (by omega) _).mono ?_; rintro e w' ⟨rfl, rfl⟩)
    | (go_at_call 12; refine (whole_any _ _ (by first | omega | exact (w32 _).1) (by first | omega | exact (w32 _).2) (by first | omega | exact (w32 _).1) (by first | omega | exact (w32 _).2) _).mono ?_; rintro e w' ⟨rfl, rfl⟩))
  go_ret2
  exact ⟨ret_ib (show _ = wrap64 (a - b) from whole_sub2 a b (by omega)) (by simp [wideOk]), rfl⟩
theorem rwop_3 (a b : Int) (h1 : -9223372036854775808 ≤ a) (h2 : a ≤ 9223372036854775807) (h3 : -9223372036854775808 ≤ b) (h4 : b ≤ 9223372036854775807) (w : World) :
    Calls Try.prog 14 #[.int .i64 3, .int .i64 a, .int .i64 b] w fun e w' => e = .returned (.tuple #[.int .i64 (wideV 3 a b), .bool (wideOk 3)]) ∧ w = w' := by
  obtain ⟨g1, g2⟩ := w32 a
  obtain ⟨g3, g4⟩ := w32 b
  obtain ⟨g5, g6⟩ := w32 (a / 4294967296)
  obtain ⟨g7, g8⟩ := w32 (b / 4294967296)
  obtain ⟨p1, p2⟩ := mul_bound (wrap32 a % 4294967296) (wrap32 b % 4294967296) 4294967295 4294967295 (by omega) (by omega) (by omega) (by omega)
  have p3 : 0 ≤ wrap32 a % 4294967296 * (wrap32 b % 4294967296) / 4294967296 := Int.ediv_nonneg p1 (by omega)
  have p4 : wrap32 a % 4294967296 * (wrap32 b % 4294967296) / 4294967296 ≤ 4294967295 := by omega
  obtain ⟨q0a, q0b⟩ := w32 (wrap32 a % 4294967296 * (wrap32 b % 4294967296) % 4294967296)
  obtain ⟨q1a, q1b⟩ := w32 ((wrap32 a % 4294967296 * (wrap32 b % 4294967296) / 4294967296 + wrap32 a % 4294967296 * (wrap32 (b / 4294967296) % 4294967296) % 4294967296 + wrap32 (a / 4294967296) % 4294967296 * (wrap32 b % 4294967296) % 4294967296) % 4294967296)
  go_enter Try.func14, Try.ntmps14
  go_wp2_with (first
    | (go_at_call 10; refine (halves_any _ (by omega) (by omega) _).mono ?_; rintro e w' ⟨rfl, rfl⟩)
    | (go_at_call 28; refine (free_any _ (by omega) (by omega) _).mono ?_; rintro e w' ⟨rfl, rfl⟩)
    | (go_at_call 31; refine (product_any _ _ (by omega) (by omega) (by omega) (by omega) _).mono ?_; rintro e w' ⟨rfl, rfl⟩)
    | (go_at_call 27; refine (word_any _ (by omega) (by omega) _).mono ?_; rintro e w' ⟨rfl, rfl⟩)
    | (go_at_call 30; refine (cut_any _ (by omega) (by omega) _).mono ?_; rintro e w' ⟨rfl, rfl⟩)
    | (go_at_call 12; refine (whole_any _ _ (by first | omega | exact (w32 _).1) (by first | omega | exact (w32 _).2) (by first | omega | exact (w32 _).1) (by first | omega | exact (w32 _).2) _).mono ?_; rintro e w' ⟨rfl, rfl⟩))
  go_ret2
  exact ⟨ret_ib (show _ = wrap64 (a * b) from whole_mul' a b) (by simp [wideOk]), rfl⟩
theorem rwop_7 (a b : Int) (h1 : -9223372036854775808 ≤ a) (h2 : a ≤ 9223372036854775807) (h3 : -9223372036854775808 ≤ b) (h4 : b ≤ 9223372036854775807) (w : World) :
    Calls Try.prog 14 #[.int .i64 7, .int .i64 a, .int .i64 b] w fun e w' => e = .returned (.tuple #[.int .i64 (wideV 7 a b), .bool (wideOk 7)]) ∧ w = w' := by
  obtain ⟨g1, g2⟩ := w32 a
  obtain ⟨g3, g4⟩ := w32 b
  obtain ⟨g5, g6⟩ := w32 (a / 4294967296)
  obtain ⟨g7, g8⟩ := w32 (b / 4294967296)
  obtain ⟨q1, q2⟩ := opV_lo 7 (wrap32 a) (wrap32 b) g1 g2 g3 g4
  obtain ⟨q3, q4⟩ := opV_lo 7 (wrap32 (a / 4294967296)) (wrap32 (b / 4294967296)) g5 g6 g7 g8
  go_enter Try.func14, Try.ntmps14
  go_wp2_with (first
    | (go_at_call 10; refine (halves_any _ (by omega) (by omega) _).mono ?_; rintro e w' ⟨rfl, rfl⟩)
    | (go_at_call 16; refine (rop_any _ _ _ (by omega) (by omega) (by omega) (by omega) _).mono ?_; rintro e w' ⟨rfl, rfl⟩)
    | (go_at_call 12; refine (whole_any _ _ (by first | omega | exact (w32 _).1) (by first | omega | exact (w32 _).2) (by first | omega | exact (w32 _).1) (by first | omega | exact (w32 _).2) _).mono ?_; rintro e w' ⟨rfl, rfl⟩))
  go_ret2
  exact ⟨ret_ib (show _ = bits .and .i64 a b from whole_bits .and (by simp [isBit]) a b) (by simp [wideOk]), rfl⟩
theorem rwop_8 (a b : Int) (h1 : -9223372036854775808 ≤ a) (h2 : a ≤ 9223372036854775807) (h3 : -9223372036854775808 ≤ b) (h4 : b ≤ 9223372036854775807) (w : World) :
    Calls Try.prog 14 #[.int .i64 8, .int .i64 a, .int .i64 b] w fun e w' => e = .returned (.tuple #[.int .i64 (wideV 8 a b), .bool (wideOk 8)]) ∧ w = w' := by
  obtain ⟨g1, g2⟩ := w32 a
  obtain ⟨g3, g4⟩ := w32 b
  obtain ⟨g5, g6⟩ := w32 (a / 4294967296)
  obtain ⟨g7, g8⟩ := w32 (b / 4294967296)
  obtain ⟨q1, q2⟩ := opV_lo 8 (wrap32 a) (wrap32 b) g1 g2 g3 g4
  obtain ⟨q3, q4⟩ := opV_lo 8 (wrap32 (a / 4294967296)) (wrap32 (b / 4294967296)) g5 g6 g7 g8
  go_enter Try.func14, Try.ntmps14
  go_wp2_with (first
    | (go_at_call 10; refine (halves_any _ (by omega) (by omega) _).mono ?_; rintro e w' ⟨rfl, rfl⟩)
    | (go_at_call 16; refine (rop_any _ _ _ (by omega) (by omega) (by omega) (by omega) _).mono ?_; rintro e w' ⟨rfl, rfl⟩)
    | (go_at_call 12; refine (whole_any _ _ (by first | omega | exact (w32 _).1) (by first | omega | exact (w32 _).2) (by first | omega | exact (w32 _).1) (by first | omega | exact (w32 _).2) _).mono ?_; rintro e w' ⟨rfl, rfl⟩))
  go_ret2
  exact ⟨ret_ib (show _ = bits .or .i64 a b from whole_bits .or (by simp [isBit]) a b) (by simp [wideOk]), rfl⟩
theorem rwop_9 (a b : Int) (h1 : -9223372036854775808 ≤ a) (h2 : a ≤ 9223372036854775807) (h3 : -9223372036854775808 ≤ b) (h4 : b ≤ 9223372036854775807) (w : World) :
    Calls Try.prog 14 #[.int .i64 9, .int .i64 a, .int .i64 b] w fun e w' => e = .returned (.tuple #[.int .i64 (wideV 9 a b), .bool (wideOk 9)]) ∧ w = w' := by
  obtain ⟨g1, g2⟩ := w32 a
  obtain ⟨g3, g4⟩ := w32 b
  obtain ⟨g5, g6⟩ := w32 (a / 4294967296)
  obtain ⟨g7, g8⟩ := w32 (b / 4294967296)
  obtain ⟨q1, q2⟩ := opV_lo 9 (wrap32 a) (wrap32 b) g1 g2 g3 g4
  obtain ⟨q3, q4⟩ := opV_lo 9 (wrap32 (a / 4294967296)) (wrap32 (b / 4294967296)) g5 g6 g7 g8
  go_enter Try.func14, Try.ntmps14
  go_wp2_with (first
    | (go_at_call 10; refine (halves_any _ (by omega) (by omega) _).mono ?_; rintro e w' ⟨rfl, rfl⟩)
    | (go_at_call 16; refine (rop_any _ _ _ (by omega) (by omega) (by omega) (by omega) _).mono ?_; rintro e w' ⟨rfl, rfl⟩)
    | (go_at_call 12; refine (whole_any _ _ (by first | omega | exact (w32 _).1) (by first | omega | exact (w32 _).2) (by first | omega | exact (w32 _).1) (by first | omega | exact (w32 _).2) _).mono ?_; rintro e w' ⟨rfl, rfl⟩))
  go_ret2
  exact ⟨ret_ib (show _ = bits .xor .i64 a b from whole_bits .xor (by simp [isBit]) a b) (by simp [wideOk]), rfl⟩
theorem rwop_10a (a b : Int) (h1 : -9223372036854775808 ≤ a) (h2 : a ≤ 9223372036854775807) (h3 : -9223372036854775808 ≤ b) (h4 : b ≤ 9223372036854775807) (hs : (wrap32 (a / 4294967296) == wrap32 (b / 4294967296)) = false) (w : World) :
    Calls Try.prog 14 #[.int .i64 10, .int .i64 a, .int .i64 b] w fun e w' => e = .returned (.tuple #[.int .i64 (wideV 10 a b), .bool (wideOk 10)]) ∧ w = w' := by
  obtain ⟨g1, g2⟩ := w32 a
  obtain ⟨g3, g4⟩ := w32 b
  obtain ⟨g5, g6⟩ := w32 (a / 4294967296)
  obtain ⟨g7, g8⟩ := w32 (b / 4294967296)
  have i3 := b2i_lo (decide (wrap32 (a / 4294967296) < wrap32 (b / 4294967296)))
  have i4 := b2i_hi (decide (wrap32 (a / 4294967296) < wrap32 (b / 4294967296)))
  have hs2 : (wrap32 (a / 4294967296) != wrap32 (b / 4294967296)) = true := by rw [bne, hs]; rfl
  have HL := Lib.hid (half_lt a b h1 h2 h3 h4 hs)
  go_enter Try.func14, Try.ntmps14
  go_wp2_with (first
    | (go_at_call 10; refine (halves_any _ (by omega) (by omega) _).mono ?_; rintro e w' ⟨rfl, rfl⟩)
    | (go_at_call 32; refine (truth_any _ _).mono ?_; rintro e w' ⟨rfl, rfl⟩))
  go_ret2
  exact ⟨ret_ib (show _ = b2i (decide (a < b)) from congrArg b2i HL.out) (by simp [wideOk]), rfl⟩
theorem rwop_10b (a b : Int) (h1 : -9223372036854775808 ≤ a) (h2 : a ≤ 9223372036854775807) (h3 : -9223372036854775808 ≤ b) (h4 : b ≤ 9223372036854775807) (hs : (wrap32 (a / 4294967296) == wrap32 (b / 4294967296)) = true) (w : World) :
    Calls Try.prog 14 #[.int .i64 10, .int .i64 a, .int .i64 b] w fun e w' => e = .returned (.tuple #[.int .i64 (wideV 10 a b), .bool (wideOk 10)]) ∧ w = w' := by
  obtain ⟨g1, g2⟩ := w32 a
  obtain ⟨g3, g4⟩ := w32 b
  obtain ⟨g5, g6⟩ := w32 (a / 4294967296)
  obtain ⟨g7, g8⟩ := w32 (b / 4294967296)
  have i3 := b2i_lo (decide (wrap32 a % 4294967296 < wrap32 b % 4294967296))
  have i4 := b2i_hi (decide (wrap32 a % 4294967296 < wrap32 b % 4294967296))
  have hs2 : (wrap32 (a / 4294967296) != wrap32 (b / 4294967296)) = false := by rw [bne, hs]; rfl
  have HL := Lib.hid (half_lt' a b h1 h2 h3 h4 hs)
  clear hs
  go_enter Try.func14, Try.ntmps14
  go_wp2_with (first
    | (go_at_call 10; refine (halves_any _ (by omega) (by omega) _).mono ?_; rintro e w' ⟨rfl, rfl⟩)
    | (go_at_call 28; refine (free_any _ (by omega) (by omega) _).mono ?_; rintro e w' ⟨rfl, rfl⟩)
    | (go_at_call 32; refine (truth_any _ _).mono ?_; rintro e w' ⟨rfl, rfl⟩))
  go_ret2
  exact ⟨ret_ib (show _ = b2i (decide (a < b)) from congrArg b2i HL.out) (by simp [wideOk]), rfl⟩
theorem rwop_12a (a b : Int) (h1 : -9223372036854775808 ≤ a) (h2 : a ≤ 9223372036854775807) (h3 : -9223372036854775808 ≤ b) (h4 : b ≤ 9223372036854775807) (hs : (wrap32 a == wrap32 b) = true) (w : World) :
    Calls Try.prog 14 #[.int .i64 12, .int .i64 a, .int .i64 b] w fun e w' => e = .returned (.tuple #[.int .i64 (wideV 12 a b), .bool (wideOk 12)]) ∧ w = w' := by
  obtain ⟨g1, g2⟩ := w32 a
  obtain ⟨g3, g4⟩ := w32 b
  obtain ⟨g5, g6⟩ := w32 (a / 4294967296)
  obtain ⟨g7, g8⟩ := w32 (b / 4294967296)
  have i3 := b2i_lo (wrap32 (a / 4294967296) == wrap32 (b / 4294967296))
  have i4 := b2i_hi (wrap32 (a / 4294967296) == wrap32 (b / 4294967296))
  have HL := Lib.hid (half_eq a b h1 h2 h3 h4 hs)
  go_enter Try.func14, Try.ntmps14
  go_wp2_with (first
    | (go_at_call 10; refine (halves_any _ (by omega) (by omega) _).mono ?_; rintro e w' ⟨rfl, rfl⟩)
    | (go_at_call 32; refine (truth_any _ _).mono ?_; rintro e w' ⟨rfl, rfl⟩))
  go_ret2
  exact ⟨ret_ib (show _ = b2i (a == b) from congrArg b2i HL.out) (by simp [wideOk]), rfl⟩
theorem rwop_12b (a b : Int) (h1 : -9223372036854775808 ≤ a) (h2 : a ≤ 9223372036854775807) (h3 : -9223372036854775808 ≤ b) (h4 : b ≤ 9223372036854775807) (hs : (wrap32 a == wrap32 b) = false) (w : World) :
    Calls Try.prog 14 #[.int .i64 12, .int .i64 a, .int .i64 b] w fun e w' => e = .returned (.tuple #[.int .i64 (wideV 12 a b), .bool (wideOk 12)]) ∧ w = w' := by
  obtain ⟨g1, g2⟩ := w32 a
  obtain ⟨g3, g4⟩ := w32 b
  obtain ⟨g5, g6⟩ := w32 (a / 4294967296)
  obtain ⟨g7, g8⟩ := w32 (b / 4294967296)
  have i3 := b2i_lo (false)
  have i4 := b2i_hi (false)
  have HL := Lib.hid (half_ne a b hs)
  go_enter Try.func14, Try.ntmps14
  go_wp2_with (first
    | (go_at_call 10; refine (halves_any _ (by omega) (by omega) _).mono ?_; rintro e w' ⟨rfl, rfl⟩)
    | (go_at_call 32; refine (truth_any _ _).mono ?_; rintro e w' ⟨rfl, rfl⟩))
  go_ret2
  exact ⟨ret_ib (show _ = b2i (a == b) from congrArg b2i HL.out) (by simp [wideOk]), rfl⟩
theorem rwop_no (op a b : Int) (h1 : -9223372036854775808 ≤ a) (h2 : a ≤ 9223372036854775807) (h3 : -9223372036854775808 ≤ b) (h4 : b ≤ 9223372036854775807) (hb : ∀ k : Int, (k = 1 ∨ k = 2 ∨ k = 3 ∨ k = 7 ∨ k = 8 ∨ k = 9 ∨ k = 10 ∨ k = 12) → (op == k) = false) (w : World) :
    Calls Try.prog 14 #[.int .i64 op, .int .i64 a, .int .i64 b] w fun e w' => e = .returned (.tuple #[.int .i64 (wideV op a b), .bool (wideOk op)]) ∧ w = w' := by
  have k1 := hb 1 (by omega)
  have k2 := hb 2 (by omega)
  have k3 := hb 3 (by omega)
  have k7 := hb 7 (by omega)
  have k8 := hb 8 (by omega)
  have k9 := hb 9 (by omega)
  have k10 := hb 10 (by omega)
  have k12 := hb 12 (by omega)
  have hn : ¬ (op = 1 ∨ op = 2 ∨ op = 3 ∨ op = 7 ∨ op = 8 ∨ op = 9 ∨ op = 10 ∨ op = 12) := fun h => by have := hb op h; simp at this
  clear hb
  have HN := Lib.hid hn
  clear hn
  obtain ⟨g1, g2⟩ := w32 a
  obtain ⟨g3, g4⟩ := w32 b
  obtain ⟨g5, g6⟩ := w32 (a / 4294967296)
  obtain ⟨g7, g8⟩ := w32 (b / 4294967296)
  go_enter Try.func14, Try.ntmps14
  go_wp2_with (first
    | (go_at_call 10; refine (halves_any _ (by omega) (by omega) _).mono ?_; rintro e w' ⟨rfl, rfl⟩))
  go_ret2
  have hn := HN.out
  exact ⟨ret_ib (by unfold wideV; repeat rw [if_neg (by omega)]) (by unfold wideOk; simp; omega), rfl⟩
theorem no_wide (op : Int) (h : ¬ (op = 1 ∨ op = 2 ∨ op = 3 ∨ op = 7 ∨ op = 8 ∨ op = 9 ∨ op = 10 ∨ op = 12)) : ∀ k : Int, (k = 1 ∨ k = 2 ∨ k = 3 ∨ k = 7 ∨ k = 8 ∨ k = 9 ∨ k = 10 ∨ k = 12) → (op == k) = false := fun k h1 => by
  rw [beq_eq_false_iff_ne]; omega
theorem wide_any (op a b : Int) (h1 : -9223372036854775808 ≤ a) (h2 : a ≤ 9223372036854775807) (h3 : -9223372036854775808 ≤ b) (h4 : b ≤ 9223372036854775807) (w : World) :
    Calls Try.prog 13 #[.int .i64 op, .int .i64 a, .int .i64 b] w fun e w' => e = .returned (.tuple #[.int .i64 (wideV op a b), .bool (wideOk op)]) ∧ w = w' := by
  by_cases hop : op = 1 ∨ op = 2 ∨ op = 3 ∨ op = 7 ∨ op = 8 ∨ op = 9 ∨ op = 10 ∨ op = 12
  · rcases hop with rfl | rfl | rfl | rfl | rfl | rfl | rfl | rfl
    · exact wop_1 a b h1 h2 h3 h4 w
    · exact wop_2 a b h1 h2 h3 h4 w
    · exact wop_3 a b h1 h2 h3 h4 w
    · exact wop_7 a b h1 h2 h3 h4 w
    · exact wop_8 a b h1 h2 h3 h4 w
    · exact wop_9 a b h1 h2 h3 h4 w
    · exact wop_10 a b h1 h2 h3 h4 w
    · exact wop_12 a b h1 h2 h3 h4 w
  · exact wop_no op a b h1 h2 h3 h4 (no_wide op hop) w
theorem rwide_any (op a b : Int) (h1 : -9223372036854775808 ≤ a) (h2 : a ≤ 9223372036854775807) (h3 : -9223372036854775808 ≤ b) (h4 : b ≤ 9223372036854775807) (w : World) :
    Calls Try.prog 14 #[.int .i64 op, .int .i64 a, .int .i64 b] w fun e w' => e = .returned (.tuple #[.int .i64 (wideV op a b), .bool (wideOk op)]) ∧ w = w' := by
  by_cases hop : op = 1 ∨ op = 2 ∨ op = 3 ∨ op = 7 ∨ op = 8 ∨ op = 9 ∨ op = 10 ∨ op = 12
  · rcases hop with rfl | rfl | rfl | rfl | rfl | rfl | rfl | rfl
    · exact rwop_1 a b h1 h2 h3 h4 w
    · by_cases hs : wrap32 a % 4294967296 - wrap32 b % 4294967296 < 0
      · exact rwop_2a a b h1 h2 h3 h4 hs w
      · exact rwop_2b a b h1 h2 h3 h4 hs w
    · exact rwop_3 a b h1 h2 h3 h4 w
    · exact rwop_7 a b h1 h2 h3 h4 w
    · exact rwop_8 a b h1 h2 h3 h4 w
    · exact rwop_9 a b h1 h2 h3 h4 w
    · rcases hs : (wrap32 (a / 4294967296) == wrap32 (b / 4294967296)) with _ | _
      · exact rwop_10a a b h1 h2 h3 h4 hs w
      · exact rwop_10b a b h1 h2 h3 h4 hs w
    · rcases hs : (wrap32 a == wrap32 b) with _ | _
      · exact rwop_12b a b h1 h2 h3 h4 hs w
      · exact rwop_12a a b h1 h2 h3 h4 hs w
  · exact rwop_no op a b h1 h2 h3 h4 (no_wide op hop) w
end Go.Proofs.Ytffhfcddlhdicaa
