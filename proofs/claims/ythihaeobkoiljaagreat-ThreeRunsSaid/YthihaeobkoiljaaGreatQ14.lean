/- Lemmas for the law. -/
import Derived.Test.YthihaeobkoiljaaGreatQ13
import Derived.Laws.BitsAllLaws
import Derived.Test.YthihaeobkoiljaaGreatChecked
set_option linter.unusedVariables false
set_option linter.unusedSimpArgs false
set_option maxRecDepth 100000
set_option maxHeartbeats 40000000
namespace Go.Proofs.YthihaeobkoiljaaGreat
open Go.RowKit
theorem own_at {w : World} {B : Nat} {e : TypeId} {n c : Nat} {A : Option Addr} {xs : List Value} (h : w.ownsRow B e 1 (.slice A n c) n xs) {k : Nat} (hk : k < xs.length) : ∃ g, A = some ⟨g, 0, none⟩ ∧ w.cell? ⟨g, k, none⟩ = some xs[k] := by
 rcases h.2 with ⟨hv, h0⟩ | ⟨g, cap, cur, hv, -⟩
 ·have := h.1
  rw [h0] at this
  omega
 ·injection hv with h1 h2 h3
  refine ⟨g, h1, ?_⟩
  have := h.cells (g := g) (by rw [h1]; rfl) k xs[k] (List.getElem?_eq_getElem hk)
  rwa [add_plain_, Nat.zero_add] at this
theorem own_cell {w : World} {B g : Nat} {e : TypeId} {n c : Nat} {xs : List Value} (h : w.ownsRow B e 1 (.slice (some ⟨g, 0, none⟩) n c) n xs) (k : Nat) (v : Value) (hk : xs[k]? = some v) : w.cell? ⟨g, k, none⟩ = some v := by
 have := h.cells (g := g) rfl k v hk
 rwa [add_plain_, Nat.zero_add] at this
def allB (l : List Un) (k : Nat) : List Bo := (l.take k).flatMap (·.bs)
def allG (l : List Un) (k : Nat) : List Gl := (l.take k).flatMap (·.gs)
def uns (l : List Un) (k : Nat) : List Value := (List.range k).flatMap fun j => List.replicate (unAt l j).bs.length (Value.int IntKind.i64 (j : Int))
theorem allB_succ {l : List Un} {k : Nat} (h : k < l.length) : allB l (k + 1) = allB l k ++ l[k].bs := by
 unfold allB; rw [List.take_succ_eq_append_getElem h, List.flatMap_append]; simp
theorem allG_succ {l : List Un} {k : Nat} (h : k < l.length) : allG l (k + 1) = allG l k ++ l[k].gs := by
 unfold allG; rw [List.take_succ_eq_append_getElem h, List.flatMap_append]; simp
theorem uns_succ {l : List Un} {k : Nat} (h : k < l.length) : uns l (k + 1) = uns l k ++ List.replicate l[k].bs.length (Value.int IntKind.i64 (k : Int)) := by
 unfold uns; rw [List.range_succ, List.flatMap_append]; simp [unAt_at h]
theorem allB_len {l : List Un} (h : ∀ u ∈ l, u.bs.length ≤ 40) (k : Nat) : (allB l k).length ≤ 40 * (l.take k).length := by
 unfold allB
 have : ∀ m : List Un, (∀ u ∈ m, u.bs.length ≤ 40) → (m.flatMap (·.bs)).length ≤ 40 * m.length := by
  intro m
  induction m with
  | nil => simp
  | cons u m ih =>
   intro hm
   have h1 := hm u (by simp)
   have h2 := ih fun v hv => hm v (by simp [hv])
   simp only [List.flatMap_cons, List.length_append, List.length_cons]
   omega
 exact this _ fun u hu => h u (List.mem_of_mem_take hu)
theorem allG_len {l : List Un} (h : ∀ u ∈ l, u.gs.length ≤ 40) (k : Nat) : (allG l k).length ≤ 40 * (l.take k).length := by
 unfold allG
 have : ∀ m : List Un, (∀ u ∈ m, u.gs.length ≤ 40) → (m.flatMap (·.gs)).length ≤ 40 * m.length := by
  intro m
  induction m with
  | nil => simp
  | cons u m ih =>
   intro hm
   have h1 := hm u (by simp)
   have h2 := ih fun v hv => hm v (by simp [hv])
   simp only [List.flatMap_cons, List.length_append, List.length_cons]
   omega
 exact this _ fun u hu => h u (List.mem_of_mem_take hu)
def nop (k : BinOp) (x y : Nat) : Nat := match k with
 | .and => x &&& y
 | .or => x ||| y
 | _ => x ^^^ y
def bop (k : BinOp) (x y : Bool) : Bool := match k with
 | .and => x && y
 | .or => x || y
 | _ => x ^^ y
def isBit (k : BinOp) : Prop := k = .and ∨ k = .or ∨ k = .xor
theorem nop_and (x y : Nat) : nop .and x y = x &&& y := rfl
theorem nop_or (x y : Nat) : nop .or x y = x ||| y := rfl
theorem nop_xor (x y : Nat) : nop .xor x y = x ^^^ y := rfl
theorem nop_testBit (k : BinOp) (x y i : Nat) : (nop k x y).testBit i = bop k (x.testBit i) (y.testBit i) := by
 unfold nop bop; split <;> simp
theorem nop_lt (k : BinOp) (x y n : Nat) (hx : x < 2 ^ n) (hy : y < 2 ^ n) : nop k x y < 2 ^ n := by
 unfold nop; split
 ·exact Nat.and_lt_two_pow _ hy
 ·exact Nat.or_lt_two_pow hx hy
 ·exact Nat.xor_lt_two_pow hx hy
theorem bits_i32 (k : BinOp) (hk : isBit k) (a b : Int) : bits k .i32 a b = wrap32 ((nop k (a % 4294967296).toNat (b % 4294967296).toNat : Nat) : Int) := by
 have ha : (BitVec.ofInt 32 a).toNat = (a % 4294967296).toNat := by rw [BitVec.toNat_ofInt]; rfl
 have hb : (BitVec.ofInt 32 b).toNat = (b % 4294967296).toNat := by rw [BitVec.toNat_ofInt]; rfl
 rcases hk with rfl | rfl | rfl
 ·show IntKind.i32.wrap ((BitVec.ofInt 32 a &&& BitVec.ofInt 32 b).toNat : Int) = _
  rw [BitVec.toNat_and, ha, hb, IntKind.wrap_i32, nop_and, wrap32]
 ·show IntKind.i32.wrap ((BitVec.ofInt 32 a ||| BitVec.ofInt 32 b).toNat : Int) = _
  rw [BitVec.toNat_or, ha, hb, IntKind.wrap_i32, nop_or, wrap32]
 ·show IntKind.i32.wrap ((BitVec.ofInt 32 a ^^^ BitVec.ofInt 32 b).toNat : Int) = _
  rw [BitVec.toNat_xor, ha, hb, IntKind.wrap_i32, nop_xor, wrap32]
def bitsum (g : Nat → Bool) : Nat → Nat
 | 0 => 0
 | k + 1 => bitsum g k + (if g k then 2 ^ k else 0)
theorem bsum_testBit (x k : Nat) : bitsum x.testBit k = x % 2 ^ k := by
 induction k with
 | zero => simp [bitsum, Nat.mod_one]
 | succ k ih =>
  rw [bitsum, ih, Nat.testBit_eq_decide_div_mod_eq, Nat.pow_succ]
  have h := Nat.mod_mul (x := x) (a := 2 ^ k) (b := 2)
  rw [h]
  rcases Nat.mod_two_eq_zero_or_one (x / 2 ^ k) with h' | h' <;> simp [h']
theorem bsum_lt (g : Nat → Bool) (k : Nat) : bitsum g k < 2 ^ k := by
 induction k with
 | zero => simp [bitsum]
 | succ k ih => rw [bitsum, Nat.pow_succ]; split <;> omega
theorem bsum_nop (k : BinOp) (x y : Nat) (hx : x < 4294967296) (hy : y < 4294967296) : bitsum (fun i => bop k (x.testBit i) (y.testBit i)) 32 = nop k x y := by
 have h : (fun i => bop k (x.testBit i) (y.testBit i)) = (nop k x y).testBit := funext fun i => (nop_testBit k x y i).symm
 rw [h, bsum_testBit, Nat.mod_eq_of_lt (nop_lt k x y 32 hx hy)]
theorem prod_parts (a b : Int) : a * b = (a / 65536) * (b / 65536) * 4294967296 + ((a % 65536) * (b / 65536) + (a / 65536) * (b % 65536)) * 65536 + (a % 65536) * (b % 65536) := by
 have ha : a = a / 65536 * 65536 + a % 65536 := by omega
 have hb : b = b / 65536 * 65536 + b % 65536 := by omega
 generalize a / 65536 = p at *
 generalize a % 65536 = q at *
 generalize b / 65536 = r at *
 generalize b % 65536 = s at *
 subst ha hb
 grind
theorem mul_bound (a b m n : Int) (h0 : 0 ≤ a) (h1 : a ≤ m) (h2 : 0 ≤ b) (h3 : b ≤ n) : 0 ≤ a * b ∧ a * b ≤ m * n :=
 ⟨Int.mul_nonneg h0 h2, Int.mul_le_mul h1 h3 h2 (by omega)⟩
theorem prod_low (a b : Int) :
 ((a / 65536) * (b % 65536) + ((a % 65536) * (b / 65536) + (a % 65536) * (b % 65536) / 65536) % 65536) % 65536 * 65536 + (a % 65536) * (b % 65536) % 65536 = a * b % 4294967296 := by
 rw [prod_parts a b]
 generalize (a / 65536) * (b / 65536) = p
 generalize (a % 65536) * (b / 65536) = q
 generalize (a / 65536) * (b % 65536) = r
 generalize (a % 65536) * (b % 65536) = s
 omega
theorem prod_high (a b : Int) :
 (a / 65536) * (b / 65536) + ((a % 65536) * (b / 65536) + (a % 65536) * (b % 65536) / 65536) / 65536 + ((a / 65536) * (b % 65536) + ((a % 65536) * (b / 65536) + (a % 65536) * (b % 65536) / 65536) % 65536) / 65536 = a * b / 4294967296 := by
 rw [prod_parts a b]
 generalize (a / 65536) * (b / 65536) = p
 generalize (a % 65536) * (b / 65536) = q
 generalize (a / 65536) * (b % 65536) = r
 generalize (a % 65536) * (b % 65536) = s
 omega
theorem wrap32_mod (n : Int) : wrap32 (n % 4294967296) = wrap32 n := by unfold wrap32; omega
theorem mul_mod32 (a b : Int) : wrap32 ((a % 4294967296) * (b % 4294967296)) = wrap32 (a * b) := by
 rw [← wrap32_mod, ← wrap32_mod (a * b), ← Int.mul_emod]
theorem ret_i {k : IntKind} {a b : Int} (h : a = b) : Ending.returned (.int k a) = .returned (.int k b) := by rw [h]
theorem ret_ii {k l : IntKind} {a b c d : Int} (h : a = b) (h' : c = d) : Ending.returned (.tuple #[.int k a, .int l c]) = .returned (.tuple #[.int k b, .int l d]) := by rw [h, h']
theorem split_any (n : Int) (w : World) :
 Calls Tryz.prog 40 #[.int .i64 n] w fun e w' => e = .returned (.tuple #[.int .i32 (wrap32 n), .int .i32 (wrap32 (n / 4294967296))]) ∧ w = w' := by
 go_enter Tryz.func40, Tryz.ntmps40
 go_wp2
 go_ret2
 exact ⟨rfl, rfl⟩
theorem tmod_lo (n : Int) : -4294967296 < n.tmod 4294967296 := by have := Int.lt_tmod_of_pos n (b := 4294967296) (by omega); omega
theorem tmod_hi (n : Int) : n.tmod 4294967296 < 4294967296 := Int.tmod_lt_of_pos n (by omega)
theorem tmod_neg (n : Int) (h : n.tmod 4294967296 < 0) : n.tmod 4294967296 + 4294967296 = n % 4294967296 := by
 have h1 := Int.mul_tdiv_add_tmod n 4294967296
 have h2 := tmod_lo n
 generalize n.tmod 4294967296 = r at *
 generalize n.tdiv 4294967296 = q at *
 omega
theorem tmod_pos (n : Int) (h : ¬ n.tmod 4294967296 < 0) : n.tmod 4294967296 = n % 4294967296 := by
 have h1 := Int.mul_tdiv_add_tmod n 4294967296
 have h2 := tmod_hi n
 generalize n.tmod 4294967296 = r at *
 generalize n.tdiv 4294967296 = q at *
 omega
theorem wrap32_sub (n : Int) : wrap32 (n - 4294967296) = wrap32 n := by unfold wrap32; omega
theorem half_up (n : Int) (h1 : -9223372036854775808 ≤ n) (h2 : n ≤ 9223372036854775807) : wrap32 (wrap64 ((wrap64 (n - n % 4294967296)).tdiv 4294967296)) = wrap32 (n / 4294967296) := by
 have e : wrap64 (n - n % 4294967296) = n / 4294967296 * 4294967296 := by unfold wrap64; omega
 rw [e, Int.mul_tdiv_cancel _ (by omega)]
 unfold wrap32 wrap64
 omega
theorem word_any (n : Int) (h1 : -9223372036854775808 ≤ n) (h2 : n ≤ 9223372036854775807) (w : World) :
 Calls Tryz.prog 62 #[.int .i64 n] w fun e w' => e = .returned (.int .i32 (wrap32 n)) ∧ w = w' := by
 by_cases h : 2147483648 ≤ n
 ·go_enter Tryz.func62, Tryz.ntmps62
  go_wp2
  go_ret
  exact ⟨ret_i (wrap32_sub n), rfl⟩
 ·go_enter Tryz.func62, Tryz.ntmps62
  go_wp2
  go_ret
  exact ⟨rfl, rfl⟩
theorem free_any (a : Int) (h1 : -2147483648 ≤ a) (h2 : a ≤ 2147483647) (w : World) :
 Calls Tryz.prog 83 #[.int .i32 a] w fun e w' => e = .returned (.int .i64 (a % 4294967296)) ∧ w = w' := by
 by_cases h : a < 0
 ·go_enter Tryz.func83, Tryz.ntmps83
  go_wp2
  go_ret
  exact ⟨ret_i (by omega), rfl⟩
 ·go_enter Tryz.func83, Tryz.ntmps83
  go_wp2
  go_ret
  exact ⟨ret_i (by omega), rfl⟩
theorem cut_any (n : Int) (h1 : -9223372036854775808 ≤ n) (h2 : n ≤ 9223372036854775807) (w : World) :
 Calls Tryz.prog 81 #[.int .i64 n] w fun e w' => e = .returned (.int .i64 (n % 4294967296)) ∧ w = w' := by
 have hb1 := tmod_lo n
 have hb2 := tmod_hi n
 by_cases h : n.tmod 4294967296 < 0
 ·go_enter Tryz.func81, Tryz.ntmps81
  go_wp2
  go_ret
  exact ⟨ret_i (tmod_neg n h), rfl⟩
 ·go_enter Tryz.func81, Tryz.ntmps81
  go_wp2
  go_ret
  exact ⟨ret_i (tmod_pos n (by omega)), rfl⟩
theorem halves_any (n : Int) (h1 : -9223372036854775808 ≤ n) (h2 : n ≤ 9223372036854775807) (w : World) :
 Calls Tryz.prog 33 #[.int .i64 n] w fun e w' => e = .returned (.tuple #[.int .i32 (wrap32 n), .int .i32 (wrap32 (n / 4294967296))]) ∧ w = w' := by
 have hb1 := tmod_lo n
 have hb2 := tmod_hi n
 by_cases h : n.tmod 4294967296 < 0
 ·go_enter Tryz.func33, Tryz.ntmps33
  go_wp2_with (go_at_call 62; refine (word_any _ (by omega) (by omega) _).mono ?_; rintro e w' ⟨rfl, rfl⟩)
  go_ret2
  exact ⟨ret_ii (by rw [tmod_neg n h, wrap32_mod]) (by rw [tmod_neg n h, half_up n h1 h2]), rfl⟩
 ·go_enter Tryz.func33, Tryz.ntmps33
  go_wp2_with (go_at_call 62; refine (word_any _ (by omega) (by omega) _).mono ?_; rintro e w' ⟨rfl, rfl⟩)
  go_ret2
  exact ⟨ret_ii (by rw [tmod_pos n (by omega), wrap32_mod]) (by rw [tmod_pos n (by omega), half_up n h1 h2]), rfl⟩
def b2i (c : Bool) : Int := if c then 1 else 0
theorem ret_b {a b : Bool} (h : a = b) : Ending.returned (.bool a) = .returned (.bool b) := by rw [h]
theorem ret_ib {k : IntKind} {a b : Int} {c d : Bool} (h : a = b) (h' : c = d) : Ending.returned (.tuple #[.int k a, .bool c]) = .returned (.tuple #[.int k b, .bool d]) := by rw [h, h']
theorem one_any (c : Bool) (w : World) : Calls Tryz.prog 95 #[.bool c] w fun e w' => e = .returned (.int .i32 (b2i c)) ∧ w = w' := by
 cases c
 all_goals
  go_enter Tryz.func95, Tryz.ntmps95
  go_wp2
  go_ret
  exact ⟨rfl, rfl⟩
theorem truth_any (c : Bool) (w : World) : Calls Tryz.prog 88 #[.bool c] w fun e w' => e = .returned (.int .i32 (b2i c)) ∧ w = w' := by
 cases c
 all_goals
  go_enter Tryz.func88, Tryz.ntmps88
  go_wp2
  go_ret
  exact ⟨rfl, rfl⟩
theorem low_any (a : Int) (w : World) : Calls Tryz.prog 93 #[.int .i32 a] w fun e w' => e = .returned (.int .u64 (a % 4294967296)) ∧ w = w' := by
 go_enter Tryz.func93, Tryz.ntmps93
 go_wp2
 go_ret
 exact ⟨rfl, rfl⟩
theorem clo_and (x y : Bool) (w : World) : Calls Tryz.prog 85 #[.bool x, .bool y] w fun e w' => e = .returned (.bool (bop .and x y)) ∧ w = w' := by
 cases x <;> cases y
 all_goals
  go_enter Tryz.func85, Tryz.ntmps85
  go_wp2
  go_ret
  exact ⟨rfl, rfl⟩
theorem clo_or (x y : Bool) (w : World) : Calls Tryz.prog 86 #[.bool x, .bool y] w fun e w' => e = .returned (.bool (bop .or x y)) ∧ w = w' := by
 cases x <;> cases y
 all_goals
  go_enter Tryz.func86, Tryz.ntmps86
  go_wp2
  go_ret
  exact ⟨rfl, rfl⟩
theorem clo_xor (x y : Bool) (w : World) : Calls Tryz.prog 87 #[.bool x, .bool y] w fun e w' => e = .returned (.bool (bop .xor x y)) ∧ w = w' := by
 cases x <;> cases y
 all_goals
  go_enter Tryz.func87, Tryz.ntmps87
  go_wp2
  go_ret
  exact ⟨rfl, rfl⟩
theorem halve (n : Int) (i : Nat) (h : 0 ≤ n) : (n / 2 ^ i) / 2 = n / 2 ^ (i + 1) := by rw [Int.ediv_ediv_of_nonneg (Int.pow_nonneg (by decide)), Int.pow_succ]
theorem pow_le (n : Int) (i : Nat) (h : 0 ≤ n) : 0 ≤ n / 2 ^ i ∧ n / 2 ^ i ≤ n := ⟨Int.ediv_nonneg h (Int.pow_nonneg (by decide)), Int.ediv_le_self _ h⟩
theorem bit_eq (n : Int) (k : Nat) (h : 0 ≤ n) : ((n / 2 ^ k) % 2 == 1) = n.toNat.testBit k := by
 obtain ⟨m, rfl⟩ := Int.eq_ofNat_of_zero_le h
 rw [Nat.testBit_eq_decide_div_mod_eq, Int.toNat_natCast]
 have e : ((m : Int) / 2 ^ k) % 2 = ((m / 2 ^ k % 2 : Nat) : Int) := by norm_cast
 rw [e, Bool.eq_iff_iff]
 simp
 omega
def BitRel (n : Int) (k : Nat) (t i : Value) : Prop := ∃ j : Nat, j ≤ k ∧ i = .int .i64 j ∧ t = .int .i64 (n / 2 ^ j)
theorem bit_any (n : Int) (k : Nat) (h1 : 0 ≤ n) (h2 : n ≤ 4294967295) (hk : k ≤ 32) (w : World) : Calls Tryz.prog 96 #[.int .i64 n, .int .i64 k] w fun e w' => e = .returned (.bool (n.toNat.testBit k)) ∧ w = w' := by
 go_enter Tryz.func96, Tryz.ntmps96
 go_wp2
 go_loop [0, 5] (fun t i => BitRel n k t i) (fun _ i => k - (intOf i).toNat)
 case atStart => exact ⟨0, Nat.zero_le _, rfl, by simp⟩
 case round =>
  obtain ⟨j, hj, rfl, rfl⟩ := hrel
  have hp := pow_le n j h1
  have H := Lh (halve n j h1)
  by_cases hlt : j < k
  ·generalize n / 2 ^ j = m at *
   go_wp2
   go_round
   case rel => exact ⟨j + 1, by omega, by go_num, by rw [← H.out]⟩
   case measure => simp [intOf]; omega
  ·obtain rfl : j = k := by omega
   have hb := bit_eq n j h1
   generalize n / 2 ^ j = m at *
   have hb' := Lh hb
   clear hb
   go_wp2
   go_ret
   exact ⟨ret_b hb'.out, rfl⟩
def BitsRel (g : Nat → Bool) (n p i : Value) : Prop := ∃ j : Nat, j ≤ 32 ∧ i = .int .i64 j ∧ n = .int .i64 ((bitsum g j : Nat) : Int) ∧ p = .int .i64 ((2 ^ j : Nat) : Int)
theorem pow_32 (j : Nat) (h : j ≤ 32) : 2 ^ j ≤ 4294967296 := Nat.pow_le_pow_right (by decide) h
theorem bsum_yes (g : Nat → Bool) (j : Nat) (h : g j = true) : ((bitsum g (j + 1) : Nat) : Int) = ((bitsum g j : Nat) : Int) + ((2 ^ j : Nat) : Int) := by rw [bitsum, if_pos h]; omega
theorem bsum_no (g : Nat → Bool) (j : Nat) (h : g j = false) : ((bitsum g (j + 1) : Nat) : Int) = ((bitsum g j : Nat) : Int) := by rw [bitsum, if_neg (by simp [h])]; omega
theorem two_pow (j : Nat) : ((2 ^ (j + 1) : Nat) : Int) = 2 * ((2 ^ j : Nat) : Int) := by rw [Nat.pow_succ]; omega
def gof (k : BinOp) (a b : Int) : Nat → Bool := fun i => bop k ((a % 4294967296).toNat.testBit i) ((b % 4294967296).toNat.testBit i)
theorem gof_eq (k : BinOp) (hk : isBit k) (a b : Int) : wrap32 ((bitsum (gof k a b) 32 : Nat) : Int) = bits k .i32 a b := by
 rw [bits_i32 k hk]
 unfold gof
 rw [bsum_nop k _ _ (by omega) (by omega)]
theorem bits_and (a b : Int) (h1 : -2147483648 ≤ a) (h2 : a ≤ 2147483647) (h3 : -2147483648 ≤ b) (h4 : b ≤ 2147483647) (w : World) :
 Calls Tryz.prog 84 #[.int .i32 a, .int .i32 b, .func (.func 85) #[] #[]] w fun e w' => e = .returned (.int .i32 (bits .and .i32 a b)) ∧ w = w' := by
 go_enter Tryz.func84, Tryz.ntmps84
 go_wp2
 go_loop [7, 8, 9] (fun n p i => BitsRel (gof .and a b) n p i) (fun _ _ i => 32 - (intOf i).toNat)
 case atStart => exact ⟨0, by omega, rfl, rfl, rfl⟩
 case round =>
  obtain ⟨j, hj, rfl, rfl, rfl⟩ := hrel
  have hb := bsum_lt (gof .and a b) j
  have hp := pow_32 j hj
  by_cases hlt : j < 32
  ·have hg : ∀ c, gof .and a b j = c → bop .and ((a % 4294967296).toNat.testBit j) ((b % 4294967296).toNat.testBit j) = c := fun c h => h
   have H2 := Lh (two_pow j)
   rcases hc : gof .and a b j with _ | _
   ·have H1 := Lh (bsum_no _ j hc)
    have hg1 := hg _ hc
    clear hg hc
    generalize bitsum (gof .and a b) j = m at *
    generalize 2 ^ j = p at *
    go_wp2_with (first
     | (go_at_call 83; refine (free_any _ (by omega) (by omega) _).mono ?_; rintro e w' ⟨rfl, rfl⟩)
     | (go_at_call 96; refine (bit_any _ _ (by omega) (by omega) (by omega) _).mono ?_; rintro e w' ⟨rfl, rfl⟩)
     | (go_at_call 85; refine (clo_and _ _ _).mono ?_; rintro e w' ⟨rfl, rfl⟩))
    go_round
    case rel => exact ⟨j + 1, by omega, by go_num, by rw [H1.out], by rw [H2.out]⟩
    case measure => simp [intOf]; omega
   ·have H1 := Lh (bsum_yes _ j hc)
    have hg1 := hg _ hc
    clear hg hc
    generalize bitsum (gof .and a b) j = m at *
    generalize 2 ^ j = p at *
    go_wp2_with (first
     | (go_at_call 83; refine (free_any _ (by omega) (by omega) _).mono ?_; rintro e w' ⟨rfl, rfl⟩)
     | (go_at_call 96; refine (bit_any _ _ (by omega) (by omega) (by omega) _).mono ?_; rintro e w' ⟨rfl, rfl⟩)
     | (go_at_call 85; refine (clo_and _ _ _).mono ?_; rintro e w' ⟨rfl, rfl⟩))
    go_round
    case rel => exact ⟨j + 1, by omega, by go_num, by rw [H1.out], by rw [H2.out]⟩
    case measure => simp [intOf]; omega
  ·obtain rfl : j = 32 := by omega
   have H := Lh (gof_eq .and (by simp [isBit]) a b)
   generalize bitsum (gof .and a b) 32 = m at *
   go_wp2_with (go_at_call 62; refine (word_any _ (by omega) (by omega) _).mono ?_; rintro e w' ⟨rfl, rfl⟩)
   go_ret
   exact ⟨ret_i H.out, rfl⟩
theorem bits_or (a b : Int) (h1 : -2147483648 ≤ a) (h2 : a ≤ 2147483647) (h3 : -2147483648 ≤ b) (h4 : b ≤ 2147483647) (w : World) :
 Calls Tryz.prog 84 #[.int .i32 a, .int .i32 b, .func (.func 86) #[] #[]] w fun e w' => e = .returned (.int .i32 (bits .or .i32 a b)) ∧ w = w' := by
 go_enter Tryz.func84, Tryz.ntmps84
 go_wp2
 go_loop [7, 8, 9] (fun n p i => BitsRel (gof .or a b) n p i) (fun _ _ i => 32 - (intOf i).toNat)
 case atStart => exact ⟨0, by omega, rfl, rfl, rfl⟩
 case round =>
  obtain ⟨j, hj, rfl, rfl, rfl⟩ := hrel
  have hb := bsum_lt (gof .or a b) j
  have hp := pow_32 j hj
  by_cases hlt : j < 32
  ·have hg : ∀ c, gof .or a b j = c → bop .or ((a % 4294967296).toNat.testBit j) ((b % 4294967296).toNat.testBit j) = c := fun c h => h
   have H2 := Lh (two_pow j)
   rcases hc : gof .or a b j with _ | _
   ·have H1 := Lh (bsum_no _ j hc)
    have hg1 := hg _ hc
    clear hg hc
    generalize bitsum (gof .or a b) j = m at *
    generalize 2 ^ j = p at *
    go_wp2_with (first
     | (go_at_call 83; refine (free_any _ (by omega) (by omega) _).mono ?_; rintro e w' ⟨rfl, rfl⟩)
     | (go_at_call 96; refine (bit_any _ _ (by omega) (by omega) (by omega) _).mono ?_; rintro e w' ⟨rfl, rfl⟩)
     | (go_at_call 86; refine (clo_or _ _ _).mono ?_; rintro e w' ⟨rfl, rfl⟩))
    go_round
    case rel => exact ⟨j + 1, by omega, by go_num, by rw [H1.out], by rw [H2.out]⟩
    case measure => simp [intOf]; omega
   ·have H1 := Lh (bsum_yes _ j hc)
    have hg1 := hg _ hc
    clear hg hc
    generalize bitsum (gof .or a b) j = m at *
    generalize 2 ^ j = p at *
    go_wp2_with (first
     | (go_at_call 83; refine (free_any _ (by omega) (by omega) _).mono ?_; rintro e w' ⟨rfl, rfl⟩)
     | (go_at_call 96; refine (bit_any _ _ (by omega) (by omega) (by omega) _).mono ?_; rintro e w' ⟨rfl, rfl⟩)
     | (go_at_call 86; refine (clo_or _ _ _).mono ?_; rintro e w' ⟨rfl, rfl⟩))
    go_round
    case rel => exact ⟨j + 1, by omega, by go_num, by rw [H1.out], by rw [H2.out]⟩
    case measure => simp [intOf]; omega
  ·obtain rfl : j = 32 := by omega
   have H := Lh (gof_eq .or (by simp [isBit]) a b)
   generalize bitsum (gof .or a b) 32 = m at *
   go_wp2_with (go_at_call 62; refine (word_any _ (by omega) (by omega) _).mono ?_; rintro e w' ⟨rfl, rfl⟩)
   go_ret
   exact ⟨ret_i H.out, rfl⟩
theorem bits_xor (a b : Int) (h1 : -2147483648 ≤ a) (h2 : a ≤ 2147483647) (h3 : -2147483648 ≤ b) (h4 : b ≤ 2147483647) (w : World) :
 Calls Tryz.prog 84 #[.int .i32 a, .int .i32 b, .func (.func 87) #[] #[]] w fun e w' => e = .returned (.int .i32 (bits .xor .i32 a b)) ∧ w = w' := by
 go_enter Tryz.func84, Tryz.ntmps84
 go_wp2
 go_loop [7, 8, 9] (fun n p i => BitsRel (gof .xor a b) n p i) (fun _ _ i => 32 - (intOf i).toNat)
 case atStart => exact ⟨0, by omega, rfl, rfl, rfl⟩
 case round =>
  obtain ⟨j, hj, rfl, rfl, rfl⟩ := hrel
  have hb := bsum_lt (gof .xor a b) j
  have hp := pow_32 j hj
  by_cases hlt : j < 32
  ·have hg : ∀ c, gof .xor a b j = c → bop .xor ((a % 4294967296).toNat.testBit j) ((b % 4294967296).toNat.testBit j) = c := fun c h => h
   have H2 := Lh (two_pow j)
   rcases hc : gof .xor a b j with _ | _
   ·have H1 := Lh (bsum_no _ j hc)
    have hg1 := hg _ hc
    clear hg hc
    generalize bitsum (gof .xor a b) j = m at *
    generalize 2 ^ j = p at *
    go_wp2_with (first
     | (go_at_call 83; refine (free_any _ (by omega) (by omega) _).mono ?_; rintro e w' ⟨rfl, rfl⟩)
     | (go_at_call 96; refine (bit_any _ _ (by omega) (by omega) (by omega) _).mono ?_; rintro e w' ⟨rfl, rfl⟩)
     | (go_at_call 87; refine (clo_xor _ _ _).mono ?_; rintro e w' ⟨rfl, rfl⟩))
    go_round
    case rel => exact ⟨j + 1, by omega, by go_num, by rw [H1.out], by rw [H2.out]⟩
    case measure => simp [intOf]; omega
   ·have H1 := Lh (bsum_yes _ j hc)
    have hg1 := hg _ hc
    clear hg hc
    generalize bitsum (gof .xor a b) j = m at *
    generalize 2 ^ j = p at *
    go_wp2_with (first
     | (go_at_call 83; refine (free_any _ (by omega) (by omega) _).mono ?_; rintro e w' ⟨rfl, rfl⟩)
     | (go_at_call 96; refine (bit_any _ _ (by omega) (by omega) (by omega) _).mono ?_; rintro e w' ⟨rfl, rfl⟩)
     | (go_at_call 87; refine (clo_xor _ _ _).mono ?_; rintro e w' ⟨rfl, rfl⟩))
    go_round
    case rel => exact ⟨j + 1, by omega, by go_num, by rw [H1.out], by rw [H2.out]⟩
    case measure => simp [intOf]; omega
  ·obtain rfl : j = 32 := by omega
   have H := Lh (gof_eq .xor (by simp [isBit]) a b)
   generalize bitsum (gof .xor a b) 32 = m at *
   go_wp2_with (go_at_call 62; refine (word_any _ (by omega) (by omega) _).mono ?_; rintro e w' ⟨rfl, rfl⟩)
   go_ret
   exact ⟨ret_i H.out, rfl⟩
theorem prod_low' (a b : Int) :
 ((a / 65536) * (b % 65536) + ((a % 65536) * (b / 65536) + (a % 65536) * (b % 65536) / 65536)) % 65536 * 65536 + (a % 65536) * (b % 65536) % 65536 = a * b % 4294967296 := by
 rw [← prod_low a b]
 omega
theorem product_any (a b : Int) (h1 : 0 ≤ a) (h2 : a ≤ 4294967295) (h3 : 0 ≤ b) (h4 : b ≤ 4294967295) (w : World) :
 Calls Tryz.prog 82 #[.int .i64 a, .int .i64 b] w fun e w' => e = .returned (.tuple #[.int .i64 (a * b % 4294967296), .int .i64 (a * b / 4294967296)]) ∧ w = w' := by
 have m1 := mul_bound (a % 65536) (b % 65536) 65535 65535 (by omega) (by omega) (by omega) (by omega)
 have m2 := mul_bound (a % 65536) (b / 65536) 65535 65535 (by omega) (by omega) (by omega) (by omega)
 have m3 := mul_bound (a / 65536) (b % 65536) 65535 65535 (by omega) (by omega) (by omega) (by omega)
 have m4 := mul_bound (a / 65536) (b / 65536) 65535 65535 (by omega) (by omega) (by omega) (by omega)
 obtain ⟨m11, m12⟩ := m1
 obtain ⟨m21, m22⟩ := m2
 obtain ⟨m31, m32⟩ := m3
 obtain ⟨m41, m42⟩ := m4
 go_enter Tryz.func82, Tryz.ntmps82
 go_wp2
 go_ret2
 exact ⟨ret_ii (prod_low' a b) (prod_high a b), rfl⟩
def opV (op a b : Int) : Int :=
 if op = 1 then wrap32 (a + b) else if op = 2 then wrap32 (a - b) else if op = 3 then wrap32 (a * b)
 else if op = 4 then wrap32 ((a % 4294967296) * (b % 4294967296) / 4294967296)
 else if op = 5 then (if b = 0 then 0 else wrap32 (a.tdiv b)) else if op = 6 then (if b = 0 then 0 else a.tmod b)
 else if op = 7 then bits .and .i32 a b else if op = 8 then bits .or .i32 a b else if op = 9 then bits .xor .i32 a b
 else if op = 10 then b2i (decide (a < b)) else if op = 11 then b2i (decide (a % 4294967296 < b % 4294967296)) else if op = 12 then b2i (a == b) else 0
def opOk (op b : Int) : Bool := if op = 5 ∨ op = 6 then !(b == 0) else decide (1 ≤ op ∧ op ≤ 12)
theorem divide_one (a : Int) (h1 : -2147483648 ≤ a) (h2 : a ≤ 2147483647) (w : World) : Calls Tryz.prog 94 #[.int .i32 a, .int .i32 (-1)] w fun e w' => e = .returned (.tuple #[.int .i32 (wrap32 (-a)), .int .i32 0]) ∧ ∃ n, w' = w.drewN n := by
 go_enter Tryz.func94, Tryz.ntmps94
 go_wp2
 go_ret2
 exact ⟨rfl, 0, rfl⟩
theorem divide_any (a b : Int) (h1 : -2147483648 ≤ a) (h2 : a ≤ 2147483647) (h3 : -2147483648 ≤ b) (h4 : b ≤ 2147483647) (hb0 : (b == 0) = false) (hb1 : (b == -1) = false) (w : World) :
 Calls Tryz.prog 94 #[.int .i32 a, .int .i32 b] w fun e w' => e = .returned (.tuple #[.int .i32 (wrap32 (a.tdiv b)), .int .i32 (a.tmod b)]) ∧ ∃ n, w' = w.drewN n := by
 go_enter Tryz.func94, Tryz.ntmps94
 go_wp2
 have hb2 : ¬ b = 0 := by simpa using hb0
 go_quiet (fail)
 go_wp2
 go_ret2
 exact ⟨rfl, _, rfl⟩
theorem tdiv_lo (a b : Int) (h1 : -2147483648 ≤ a) (h2 : a ≤ 2147483647) : -2147483648 ≤ a.tdiv b ∧ a.tdiv b ≤ 2147483648 := by
 have h := Int.natAbs_tdiv_le_natAbs a b
 omega
theorem tmod_lo' (a b : Int) (h1 : -2147483648 ≤ a) (h2 : a ≤ 2147483647) : -2147483648 ≤ a.tmod b ∧ a.tmod b ≤ 2147483647 := by
 by_cases h : a < 0
 ·have e : a.tmod b = -((-a).tmod b) := by rw [Int.neg_tmod, Int.neg_neg]
  have e1 := Int.tmod_nonneg b (a := -a) (by omega)
  have e2 : (-a).tmod b ≤ -a := by
   obtain ⟨m, hm⟩ := Int.eq_ofNat_of_zero_le (a := -a) (by omega)
   rw [hm]
   rcases Int.natAbs_eq b with hb | hb <;> rw [hb]
   ·rw [← Int.ofNat_tmod]; have := Nat.mod_le m b.natAbs; omega
   ·rw [Int.tmod_neg, ← Int.ofNat_tmod]; have := Nat.mod_le m b.natAbs; omega
  omega
 ·have h : 0 ≤ a := by omega
  have e1 := Int.tmod_nonneg b h
  have e2 : a.tmod b ≤ a := by
   obtain ⟨m, hm⟩ := Int.eq_ofNat_of_zero_le h
   rw [hm]
   rcases Int.natAbs_eq b with hb | hb <;> rw [hb]
   ·rw [← Int.ofNat_tmod]; have := Nat.mod_le m b.natAbs; omega
   ·rw [Int.tmod_neg, ← Int.ofNat_tmod]; have := Nat.mod_le m b.natAbs; omega
  omega
theorem op_1 (a b : Int) (h1 : -2147483648 ≤ a) (h2 : a ≤ 2147483647) (h3 : -2147483648 ≤ b) (h4 : b ≤ 2147483647) (w : World) :
 Calls Tryz.prog 79 #[.int .i64 1, .int .i32 a, .int .i32 b] w fun e w' => e = .returned (.tuple #[.int .i32 (opV 1 a b), .bool (opOk 1 b)]) ∧ w = w' := by
 go_enter Tryz.func79, Tryz.ntmps79
 go_wp2
 go_ret2
 exact ⟨ret_ib (by simp [opV]) (by simp [opOk]), rfl⟩
theorem op_2 (a b : Int) (h1 : -2147483648 ≤ a) (h2 : a ≤ 2147483647) (h3 : -2147483648 ≤ b) (h4 : b ≤ 2147483647) (w : World) :
 Calls Tryz.prog 79 #[.int .i64 2, .int .i32 a, .int .i32 b] w fun e w' => e = .returned (.tuple #[.int .i32 (opV 2 a b), .bool (opOk 2 b)]) ∧ w = w' := by
 go_enter Tryz.func79, Tryz.ntmps79
 go_wp2
 go_ret2
 exact ⟨ret_ib (by simp [opV]) (by simp [opOk]), rfl⟩
theorem op_3 (a b : Int) (h1 : -2147483648 ≤ a) (h2 : a ≤ 2147483647) (h3 : -2147483648 ≤ b) (h4 : b ≤ 2147483647) (w : World) :
 Calls Tryz.prog 79 #[.int .i64 3, .int .i32 a, .int .i32 b] w fun e w' => e = .returned (.tuple #[.int .i32 (opV 3 a b), .bool (opOk 3 b)]) ∧ w = w' := by
 go_enter Tryz.func79, Tryz.ntmps79
 go_wp2
 go_ret2
 exact ⟨ret_ib (by simp [opV]) (by simp [opOk]), rfl⟩
theorem op_4 (a b : Int) (h1 : -2147483648 ≤ a) (h2 : a ≤ 2147483647) (h3 : -2147483648 ≤ b) (h4 : b ≤ 2147483647) (w : World) :
 Calls Tryz.prog 79 #[.int .i64 4, .int .i32 a, .int .i32 b] w fun e w' => e = .returned (.tuple #[.int .i32 (opV 4 a b), .bool (opOk 4 b)]) ∧ w = w' := by
 obtain ⟨m1, m2⟩ := mul_bound (a % 4294967296) (b % 4294967296) 4294967295 4294967295 (by omega) (by omega) (by omega) (by omega)
 go_enter Tryz.func79, Tryz.ntmps79
 go_wp2_with (first
  | (go_at_call 93; refine (low_any _ _).mono ?_; rintro e w' ⟨rfl, rfl⟩))
 go_ret2
 exact ⟨ret_ib (by simp [opV]) (by simp [opOk]), rfl⟩
theorem op_5 (a b : Int) (h1 : -2147483648 ≤ a) (h2 : a ≤ 2147483647) (h3 : -2147483648 ≤ b) (h4 : b ≤ 2147483647) (hb0 : (b == 0) = false) (hb1 : (b == -1) = false) (w : World) :
 Calls Tryz.prog 79 #[.int .i64 5, .int .i32 a, .int .i32 b] w fun e w' => e = .returned (.tuple #[.int .i32 (opV 5 a b), .bool (opOk 5 b)]) ∧ ∃ n, w' = w.drewN n := by
 have hb2 : ¬ b = 0 := by simpa using hb0
 go_enter Tryz.func79, Tryz.ntmps79
 go_wp2_with (first
  | (go_at_call 94; refine (divide_any _ _ (by assumption) (by assumption) (by assumption) (by assumption) (by assumption) (by assumption) _).mono ?_; rintro e w' ⟨rfl, n, rfl⟩))
 go_ret2
 exact ⟨ret_ib (by simp [opV, hb2]) (by simp [opOk, hb2]), _, rfl⟩
theorem op_6 (a b : Int) (h1 : -2147483648 ≤ a) (h2 : a ≤ 2147483647) (h3 : -2147483648 ≤ b) (h4 : b ≤ 2147483647) (hb0 : (b == 0) = false) (hb1 : (b == -1) = false) (w : World) :
 Calls Tryz.prog 79 #[.int .i64 6, .int .i32 a, .int .i32 b] w fun e w' => e = .returned (.tuple #[.int .i32 (opV 6 a b), .bool (opOk 6 b)]) ∧ ∃ n, w' = w.drewN n := by
 have hb2 : ¬ b = 0 := by simpa using hb0
 go_enter Tryz.func79, Tryz.ntmps79
 go_wp2_with (first
  | (go_at_call 94; refine (divide_any _ _ (by assumption) (by assumption) (by assumption) (by assumption) (by assumption) (by assumption) _).mono ?_; rintro e w' ⟨rfl, n, rfl⟩))
 go_ret2
 exact ⟨ret_ib (by simp [opV, hb2]) (by simp [opOk, hb2]), _, rfl⟩
theorem op_5m (a : Int) (h1 : -2147483648 ≤ a) (h2 : a ≤ 2147483647) (w : World) :
 Calls Tryz.prog 79 #[.int .i64 5, .int .i32 a, .int .i32 (-1)] w fun e w' => e = .returned (.tuple #[.int .i32 (opV 5 a (-1)), .bool (opOk 5 (-1))]) ∧ ∃ n, w' = w.drewN n := by
 go_enter Tryz.func79, Tryz.ntmps79
 go_wp2_with (first
  | (go_at_call 94; refine (divide_one _ (by assumption) (by assumption) _).mono ?_; rintro e w' ⟨rfl, n, rfl⟩))
 go_ret2
 exact ⟨ret_ib (by simp [opV]) (by simp [opOk]), _, rfl⟩
theorem op_6m (a : Int) (h1 : -2147483648 ≤ a) (h2 : a ≤ 2147483647) (w : World) :
 Calls Tryz.prog 79 #[.int .i64 6, .int .i32 a, .int .i32 (-1)] w fun e w' => e = .returned (.tuple #[.int .i32 (opV 6 a (-1)), .bool (opOk 6 (-1))]) ∧ ∃ n, w' = w.drewN n := by
 go_enter Tryz.func79, Tryz.ntmps79
 go_wp2_with (first
  | (go_at_call 94; refine (divide_one _ (by assumption) (by assumption) _).mono ?_; rintro e w' ⟨rfl, n, rfl⟩))
 go_ret2
 exact ⟨ret_ib (by simp [opV]) (by simp [opOk]), _, rfl⟩
theorem op_5z (a : Int) (h1 : -2147483648 ≤ a) (h2 : a ≤ 2147483647) (w : World) :
 Calls Tryz.prog 79 #[.int .i64 5, .int .i32 a, .int .i32 0] w fun e w' => e = .returned (.tuple #[.int .i32 (opV 5 a 0), .bool (opOk 5 0)]) ∧ w = w' := by
 go_enter Tryz.func79, Tryz.ntmps79
 go_wp2
 go_ret2
 exact ⟨ret_ib (by simp [opV]) (by simp [opOk]), rfl⟩
theorem op_6z (a : Int) (h1 : -2147483648 ≤ a) (h2 : a ≤ 2147483647) (w : World) :
 Calls Tryz.prog 79 #[.int .i64 6, .int .i32 a, .int .i32 0] w fun e w' => e = .returned (.tuple #[.int .i32 (opV 6 a 0), .bool (opOk 6 0)]) ∧ w = w' := by
 go_enter Tryz.func79, Tryz.ntmps79
 go_wp2
 go_ret2
 exact ⟨ret_ib (by simp [opV]) (by simp [opOk]), rfl⟩
theorem op_7 (a b : Int) (h1 : -2147483648 ≤ a) (h2 : a ≤ 2147483647) (h3 : -2147483648 ≤ b) (h4 : b ≤ 2147483647) (w : World) :
 Calls Tryz.prog 79 #[.int .i64 7, .int .i32 a, .int .i32 b] w fun e w' => e = .returned (.tuple #[.int .i32 (opV 7 a b), .bool (opOk 7 b)]) ∧ w = w' := by
 go_enter Tryz.func79, Tryz.ntmps79
 go_wp2
 go_ret2
 exact ⟨ret_ib (by simp [opV]) (by simp [opOk]), rfl⟩
theorem op_8 (a b : Int) (h1 : -2147483648 ≤ a) (h2 : a ≤ 2147483647) (h3 : -2147483648 ≤ b) (h4 : b ≤ 2147483647) (w : World) :
 Calls Tryz.prog 79 #[.int .i64 8, .int .i32 a, .int .i32 b] w fun e w' => e = .returned (.tuple #[.int .i32 (opV 8 a b), .bool (opOk 8 b)]) ∧ w = w' := by
 go_enter Tryz.func79, Tryz.ntmps79
 go_wp2
 go_ret2
 exact ⟨ret_ib (by simp [opV]) (by simp [opOk]), rfl⟩
theorem op_9 (a b : Int) (h1 : -2147483648 ≤ a) (h2 : a ≤ 2147483647) (h3 : -2147483648 ≤ b) (h4 : b ≤ 2147483647) (w : World) :
 Calls Tryz.prog 79 #[.int .i64 9, .int .i32 a, .int .i32 b] w fun e w' => e = .returned (.tuple #[.int .i32 (opV 9 a b), .bool (opOk 9 b)]) ∧ w = w' := by
 go_enter Tryz.func79, Tryz.ntmps79
 go_wp2
 go_ret2
 exact ⟨ret_ib (by simp [opV]) (by simp [opOk]), rfl⟩
theorem op_10 (a b : Int) (h1 : -2147483648 ≤ a) (h2 : a ≤ 2147483647) (h3 : -2147483648 ≤ b) (h4 : b ≤ 2147483647) (w : World) :
 Calls Tryz.prog 79 #[.int .i64 10, .int .i32 a, .int .i32 b] w fun e w' => e = .returned (.tuple #[.int .i32 (opV 10 a b), .bool (opOk 10 b)]) ∧ w = w' := by
 go_enter Tryz.func79, Tryz.ntmps79
 go_wp2_with (first
  | (go_at_call 95; refine (one_any _ _).mono ?_; rintro e w' ⟨rfl, rfl⟩))
 go_ret2
 exact ⟨ret_ib (by simp [opV]) (by simp [opOk]), rfl⟩
theorem op_12 (a b : Int) (h1 : -2147483648 ≤ a) (h2 : a ≤ 2147483647) (h3 : -2147483648 ≤ b) (h4 : b ≤ 2147483647) (w : World) :
 Calls Tryz.prog 79 #[.int .i64 12, .int .i32 a, .int .i32 b] w fun e w' => e = .returned (.tuple #[.int .i32 (opV 12 a b), .bool (opOk 12 b)]) ∧ w = w' := by
 go_enter Tryz.func79, Tryz.ntmps79
 go_wp2_with (first
  | (go_at_call 95; refine (one_any _ _).mono ?_; rintro e w' ⟨rfl, rfl⟩))
 go_ret2
 exact ⟨ret_ib (by simp [opV]) (by simp [opOk]), rfl⟩
theorem op_11 (a b : Int) (h1 : -2147483648 ≤ a) (h2 : a ≤ 2147483647) (h3 : -2147483648 ≤ b) (h4 : b ≤ 2147483647) (w : World) :
 Calls Tryz.prog 79 #[.int .i64 11, .int .i32 a, .int .i32 b] w fun e w' => e = .returned (.tuple #[.int .i32 (opV 11 a b), .bool (opOk 11 b)]) ∧ w = w' := by
 go_enter Tryz.func79, Tryz.ntmps79
 go_wp2_with (first
  | (go_at_call 93; refine (low_any _ _).mono ?_; rintro e w' ⟨rfl, rfl⟩)
  | (go_at_call 95; refine (one_any _ _).mono ?_; rintro e w' ⟨rfl, rfl⟩))
 go_ret2
 exact ⟨ret_ib (by simp [opV]) (by simp [opOk]), rfl⟩
theorem op_no (op a b : Int) (hb : ∀ k : Int, 1 ≤ k → k ≤ 12 → (op == k) = false) (w : World) :
 Calls Tryz.prog 79 #[.int .i64 op, .int .i32 a, .int .i32 b] w fun e w' => e = .returned (.tuple #[.int .i32 (opV op a b), .bool (opOk op b)]) ∧ w = w' := by
 have k1 := hb 1 (by omega) (by omega)
 have k2 := hb 2 (by omega) (by omega)
 have k3 := hb 3 (by omega) (by omega)
 have k4 := hb 4 (by omega) (by omega)
 have k5 := hb 5 (by omega) (by omega)
 have k6 := hb 6 (by omega) (by omega)
 have k7 := hb 7 (by omega) (by omega)
 have k8 := hb 8 (by omega) (by omega)
 have k9 := hb 9 (by omega) (by omega)
 have k10 := hb 10 (by omega) (by omega)
 have k11 := hb 11 (by omega) (by omega)
 have k12 := hb 12 (by omega) (by omega)
 have hn : ¬ (1 ≤ op ∧ op ≤ 12) := fun ⟨x, y⟩ => by have := hb op x y; simp at this
 clear hb
 have HN := Lh hn
 clear hn
 go_enter Tryz.func79, Tryz.ntmps79
 go_wp2
 go_ret2
 have hn := HN.out
 exact ⟨ret_ib (by unfold opV; repeat rw [if_neg (by omega)]) (by unfold opOk; rw [if_neg (by omega)]; simp; omega), rfl⟩
theorem rop_1 (a b : Int) (h1 : -2147483648 ≤ a) (h2 : a ≤ 2147483647) (h3 : -2147483648 ≤ b) (h4 : b ≤ 2147483647) (w : World) :
 Calls Tryz.prog 63 #[.int .i64 1, .int .i32 a, .int .i32 b] w fun e w' => e = .returned (.tuple #[.int .i32 (opV 1 a b), .bool (opOk 1 b)]) ∧ w = w' := by
 go_enter Tryz.func63, Tryz.ntmps63
 go_wp2_with (first
  | (go_at_call 62; refine (word_any _ (by omega) (by omega) _).mono ?_; rintro e w' ⟨rfl, rfl⟩)
  | (go_at_call 81; refine (cut_any _ (by omega) (by omega) _).mono ?_; rintro e w' ⟨rfl, rfl⟩))
 go_ret2
 exact ⟨ret_ib (by simp [opV, wrap32_mod, mul_mod32]) (by simp [opOk]), rfl⟩
theorem rop_2 (a b : Int) (h1 : -2147483648 ≤ a) (h2 : a ≤ 2147483647) (h3 : -2147483648 ≤ b) (h4 : b ≤ 2147483647) (w : World) :
 Calls Tryz.prog 63 #[.int .i64 2, .int .i32 a, .int .i32 b] w fun e w' => e = .returned (.tuple #[.int .i32 (opV 2 a b), .bool (opOk 2 b)]) ∧ w = w' := by
 go_enter Tryz.func63, Tryz.ntmps63
 go_wp2_with (first
  | (go_at_call 62; refine (word_any _ (by omega) (by omega) _).mono ?_; rintro e w' ⟨rfl, rfl⟩)
  | (go_at_call 81; refine (cut_any _ (by omega) (by omega) _).mono ?_; rintro e w' ⟨rfl, rfl⟩))
 go_ret2
 exact ⟨ret_ib (by simp [opV, wrap32_mod, mul_mod32]) (by simp [opOk]), rfl⟩
theorem rop_3 (a b : Int) (h1 : -2147483648 ≤ a) (h2 : a ≤ 2147483647) (h3 : -2147483648 ≤ b) (h4 : b ≤ 2147483647) (w : World) :
 Calls Tryz.prog 63 #[.int .i64 3, .int .i32 a, .int .i32 b] w fun e w' => e = .returned (.tuple #[.int .i32 (opV 3 a b), .bool (opOk 3 b)]) ∧ w = w' := by
 go_enter Tryz.func63, Tryz.ntmps63
 go_wp2_with (first
  | (go_at_call 83; refine (free_any _ (by omega) (by omega) _).mono ?_; rintro e w' ⟨rfl, rfl⟩)
  | (go_at_call 82; refine (product_any _ _ (by omega) (by omega) (by omega) (by omega) _).mono ?_; rintro e w' ⟨rfl, rfl⟩)
  | (go_at_call 62; refine (word_any _ (by omega) (by omega) _).mono ?_; rintro e w' ⟨rfl, rfl⟩))
 go_ret2
 exact ⟨ret_ib (by simp [opV, wrap32_mod, mul_mod32]) (by simp [opOk]), rfl⟩
theorem rop_4 (a b : Int) (h1 : -2147483648 ≤ a) (h2 : a ≤ 2147483647) (h3 : -2147483648 ≤ b) (h4 : b ≤ 2147483647) (w : World) :
 Calls Tryz.prog 63 #[.int .i64 4, .int .i32 a, .int .i32 b] w fun e w' => e = .returned (.tuple #[.int .i32 (opV 4 a b), .bool (opOk 4 b)]) ∧ w = w' := by
 obtain ⟨m1, m2⟩ := mul_bound (a % 4294967296) (b % 4294967296) 4294967295 4294967295 (by omega) (by omega) (by omega) (by omega)
 have m3 : 0 ≤ (a % 4294967296) * (b % 4294967296) / 4294967296 := Int.ediv_nonneg m1 (by omega)
 have m4 : (a % 4294967296) * (b % 4294967296) / 4294967296 ≤ 4294967295 := by omega
 go_enter Tryz.func63, Tryz.ntmps63
 go_wp2_with (first
  | (go_at_call 83; refine (free_any _ (by omega) (by omega) _).mono ?_; rintro e w' ⟨rfl, rfl⟩)
  | (go_at_call 82; refine (product_any _ _ (by omega) (by omega) (by omega) (by omega) _).mono ?_; rintro e w' ⟨rfl, rfl⟩)
  | (go_at_call 62; refine (word_any _ (by omega) (by omega) _).mono ?_; rintro e w' ⟨rfl, rfl⟩))
 go_ret2
 exact ⟨ret_ib (by simp [opV, wrap32_mod, mul_mod32]) (by simp [opOk]), rfl⟩
theorem rop_5 (a b : Int) (h1 : -2147483648 ≤ a) (h2 : a ≤ 2147483647) (h3 : -2147483648 ≤ b) (h4 : b ≤ 2147483647) (hb0 : (b == 0) = false) (w : World) :
 Calls Tryz.prog 63 #[.int .i64 5, .int .i32 a, .int .i32 b] w fun e w' => e = .returned (.tuple #[.int .i32 (opV 5 a b), .bool (opOk 5 b)]) ∧ w = w' := by
 have hb2 : ¬ b = 0 := by simpa using hb0
 obtain ⟨t1, t2⟩ := tdiv_lo a b h1 h2
 go_enter Tryz.func63, Tryz.ntmps63
 go_wp2_with (first
  | (go_at_call 81; refine (cut_any _ (by omega) (by omega) _).mono ?_; rintro e w' ⟨rfl, rfl⟩)
  | (go_at_call 62; refine (word_any _ (by omega) (by omega) _).mono ?_; rintro e w' ⟨rfl, rfl⟩))
 go_ret2
 exact ⟨ret_ib (by simp [opV, hb2, wrap32_mod]) (by simp [opOk, hb2]), rfl⟩
theorem rop_6 (a b : Int) (h1 : -2147483648 ≤ a) (h2 : a ≤ 2147483647) (h3 : -2147483648 ≤ b) (h4 : b ≤ 2147483647) (hb0 : (b == 0) = false) (w : World) :
 Calls Tryz.prog 63 #[.int .i64 6, .int .i32 a, .int .i32 b] w fun e w' => e = .returned (.tuple #[.int .i32 (opV 6 a b), .bool (opOk 6 b)]) ∧ w = w' := by
 have hb2 : ¬ b = 0 := by simpa using hb0
 obtain ⟨t1, t2⟩ := tmod_lo' a b h1 h2
 have tw : wrap32 (a.tmod b) = a.tmod b := by unfold wrap32; omega
 have tw := Lh tw
 go_enter Tryz.func63, Tryz.ntmps63
 go_wp2_with (first
  | (go_at_call 81; refine (cut_any _ (by omega) (by omega) _).mono ?_; rintro e w' ⟨rfl, rfl⟩)
  | (go_at_call 62; refine (word_any _ (by omega) (by omega) _).mono ?_; rintro e w' ⟨rfl, rfl⟩))
 go_ret2
 exact ⟨ret_ib (by simp [opV, hb2, wrap32_mod]; exact tw.out) (by simp [opOk, hb2]), rfl⟩
theorem rop_5z (a : Int) (h1 : -2147483648 ≤ a) (h2 : a ≤ 2147483647) (w : World) :
 Calls Tryz.prog 63 #[.int .i64 5, .int .i32 a, .int .i32 0] w fun e w' => e = .returned (.tuple #[.int .i32 (opV 5 a 0), .bool (opOk 5 0)]) ∧ w = w' := by
 go_enter Tryz.func63, Tryz.ntmps63
 go_wp2
 go_ret2
 exact ⟨ret_ib (by simp [opV]) (by simp [opOk]), rfl⟩
theorem rop_6z (a : Int) (h1 : -2147483648 ≤ a) (h2 : a ≤ 2147483647) (w : World) :
 Calls Tryz.prog 63 #[.int .i64 6, .int .i32 a, .int .i32 0] w fun e w' => e = .returned (.tuple #[.int .i32 (opV 6 a 0), .bool (opOk 6 0)]) ∧ w = w' := by
 go_enter Tryz.func63, Tryz.ntmps63
 go_wp2
 go_ret2
 exact ⟨ret_ib (by simp [opV]) (by simp [opOk]), rfl⟩
theorem rop_7 (a b : Int) (h1 : -2147483648 ≤ a) (h2 : a ≤ 2147483647) (h3 : -2147483648 ≤ b) (h4 : b ≤ 2147483647) (w : World) :
 Calls Tryz.prog 63 #[.int .i64 7, .int .i32 a, .int .i32 b] w fun e w' => e = .returned (.tuple #[.int .i32 (opV 7 a b), .bool (opOk 7 b)]) ∧ w = w' := by
 go_enter Tryz.func63, Tryz.ntmps63
 go_wp2_with (first
  | (go_at_call 84; refine (bits_and _ _ (by omega) (by omega) (by omega) (by omega) _).mono ?_; rintro e w' ⟨rfl, rfl⟩))
 go_ret2
 exact ⟨ret_ib (by simp [opV]) (by simp [opOk]), rfl⟩
theorem rop_8 (a b : Int) (h1 : -2147483648 ≤ a) (h2 : a ≤ 2147483647) (h3 : -2147483648 ≤ b) (h4 : b ≤ 2147483647) (w : World) :
 Calls Tryz.prog 63 #[.int .i64 8, .int .i32 a, .int .i32 b] w fun e w' => e = .returned (.tuple #[.int .i32 (opV 8 a b), .bool (opOk 8 b)]) ∧ w = w' := by
 go_enter Tryz.func63, Tryz.ntmps63
 go_wp2_with (first
  | (go_at_call 84; refine (bits_or _ _ (by omega) (by omega) (by omega) (by omega) _).mono ?_; rintro e w' ⟨rfl, rfl⟩))
 go_ret2
 exact ⟨ret_ib (by simp [opV]) (by simp [opOk]), rfl⟩
theorem rop_9 (a b : Int) (h1 : -2147483648 ≤ a) (h2 : a ≤ 2147483647) (h3 : -2147483648 ≤ b) (h4 : b ≤ 2147483647) (w : World) :
 Calls Tryz.prog 63 #[.int .i64 9, .int .i32 a, .int .i32 b] w fun e w' => e = .returned (.tuple #[.int .i32 (opV 9 a b), .bool (opOk 9 b)]) ∧ w = w' := by
 go_enter Tryz.func63, Tryz.ntmps63
 go_wp2_with (first
  | (go_at_call 84; refine (bits_xor _ _ (by omega) (by omega) (by omega) (by omega) _).mono ?_; rintro e w' ⟨rfl, rfl⟩))
 go_ret2
 exact ⟨ret_ib (by simp [opV]) (by simp [opOk]), rfl⟩
theorem rop_10 (a b : Int) (h1 : -2147483648 ≤ a) (h2 : a ≤ 2147483647) (h3 : -2147483648 ≤ b) (h4 : b ≤ 2147483647) (w : World) :
 Calls Tryz.prog 63 #[.int .i64 10, .int .i32 a, .int .i32 b] w fun e w' => e = .returned (.tuple #[.int .i32 (opV 10 a b), .bool (opOk 10 b)]) ∧ w = w' := by
 go_enter Tryz.func63, Tryz.ntmps63
 go_wp2_with (first
  | (go_at_call 88; refine (truth_any _ _).mono ?_; rintro e w' ⟨rfl, rfl⟩))
 go_ret2
 exact ⟨ret_ib (by simp [opV]) (by simp [opOk]), rfl⟩
theorem rop_12 (a b : Int) (h1 : -2147483648 ≤ a) (h2 : a ≤ 2147483647) (h3 : -2147483648 ≤ b) (h4 : b ≤ 2147483647) (w : World) :
 Calls Tryz.prog 63 #[.int .i64 12, .int .i32 a, .int .i32 b] w fun e w' => e = .returned (.tuple #[.int .i32 (opV 12 a b), .bool (opOk 12 b)]) ∧ w = w' := by
 go_enter Tryz.func63, Tryz.ntmps63
 go_wp2_with (first
  | (go_at_call 88; refine (truth_any _ _).mono ?_; rintro e w' ⟨rfl, rfl⟩))
 go_ret2
 exact ⟨ret_ib (by simp [opV]) (by simp [opOk]), rfl⟩
theorem rop_11 (a b : Int) (h1 : -2147483648 ≤ a) (h2 : a ≤ 2147483647) (h3 : -2147483648 ≤ b) (h4 : b ≤ 2147483647) (w : World) :
 Calls Tryz.prog 63 #[.int .i64 11, .int .i32 a, .int .i32 b] w fun e w' => e = .returned (.tuple #[.int .i32 (opV 11 a b), .bool (opOk 11 b)]) ∧ w = w' := by
 go_enter Tryz.func63, Tryz.ntmps63
 go_wp2_with (first
  | (go_at_call 83; refine (free_any _ (by omega) (by omega) _).mono ?_; rintro e w' ⟨rfl, rfl⟩)
  | (go_at_call 88; refine (truth_any _ _).mono ?_; rintro e w' ⟨rfl, rfl⟩))
 go_ret2
 exact ⟨ret_ib (by simp [opV]) (by simp [opOk]), rfl⟩
theorem rop_no (op a b : Int) (hb : ∀ k : Int, 1 ≤ k → k ≤ 12 → (op == k) = false) (w : World) :
 Calls Tryz.prog 63 #[.int .i64 op, .int .i32 a, .int .i32 b] w fun e w' => e = .returned (.tuple #[.int .i32 (opV op a b), .bool (opOk op b)]) ∧ w = w' := by
 have k1 := hb 1 (by omega) (by omega)
 have k2 := hb 2 (by omega) (by omega)
 have k3 := hb 3 (by omega) (by omega)
 have k4 := hb 4 (by omega) (by omega)
 have k5 := hb 5 (by omega) (by omega)
 have k6 := hb 6 (by omega) (by omega)
 have k7 := hb 7 (by omega) (by omega)
 have k8 := hb 8 (by omega) (by omega)
 have k9 := hb 9 (by omega) (by omega)
 have k10 := hb 10 (by omega) (by omega)
 have k11 := hb 11 (by omega) (by omega)
 have k12 := hb 12 (by omega) (by omega)
 have hn : ¬ (1 ≤ op ∧ op ≤ 12) := fun ⟨x, y⟩ => by have := hb op x y; simp at this
 clear hb
 have HN := Lh hn
 clear hn
 go_enter Tryz.func63, Tryz.ntmps63
 go_wp2
 go_ret2
 have hn := HN.out
 exact ⟨ret_ib (by unfold opV; repeat rw [if_neg (by omega)]) (by unfold opOk; rw [if_neg (by omega)]; simp; omega), rfl⟩
theorem no_op (op : Int) (h : ¬ (1 ≤ op ∧ op ≤ 12)) : ∀ k : Int, 1 ≤ k → k ≤ 12 → (op == k) = false := fun k h1 h2 => by
 rw [beq_eq_false_iff_ne]; omega
theorem zero_same {P : Program} {f : FuncId} {l : Array Value} {w : World} {v : Value} (h : Calls P f l w fun e w' => e = .returned v ∧ w = w') : Calls P f l w fun e w' => e = .returned v ∧ ∃ n, w' = w.drewN n :=
 h.mono fun _ _ ⟨a, b⟩ => ⟨a, 0, b.symm⟩
theorem op_any (op a b : Int) (h1 : -2147483648 ≤ a) (h2 : a ≤ 2147483647) (h3 : -2147483648 ≤ b) (h4 : b ≤ 2147483647) (w : World) :
 Calls Tryz.prog 79 #[.int .i64 op, .int .i32 a, .int .i32 b] w fun e w' => e = .returned (.tuple #[.int .i32 (opV op a b), .bool (opOk op b)]) ∧ ∃ n, w' = w.drewN n := by
 by_cases hop : 1 ≤ op ∧ op ≤ 12
 ·obtain ⟨o1, o2⟩ := hop
  rcases (show op = 1 ∨ op = 2 ∨ op = 3 ∨ op = 4 ∨ op = 5 ∨ op = 6 ∨ op = 7 ∨ op = 8 ∨ op = 9 ∨ op = 10 ∨ op = 11 ∨ op = 12 by omega) with rfl | rfl | rfl | rfl | rfl | rfl | rfl | rfl | rfl | rfl | rfl | rfl
  ·exact zero_same (op_1 a b h1 h2 h3 h4 w)
  ·exact zero_same (op_2 a b h1 h2 h3 h4 w)
  ·exact zero_same (op_3 a b h1 h2 h3 h4 w)
  ·exact zero_same (op_4 a b h1 h2 h3 h4 w)
  ·by_cases hb : b = 0
   ·subst hb; exact zero_same (op_5z a h1 h2 w)
   ·by_cases hb1 : b = -1
    ·subst hb1; exact op_5m a h1 h2 w
    ·exact op_5 a b h1 h2 h3 h4 (by simpa using hb) (by simpa using hb1) w
  ·by_cases hb : b = 0
   ·subst hb; exact zero_same (op_6z a h1 h2 w)
   ·by_cases hb1 : b = -1
    ·subst hb1; exact op_6m a h1 h2 w
    ·exact op_6 a b h1 h2 h3 h4 (by simpa using hb) (by simpa using hb1) w
  ·exact zero_same (op_7 a b h1 h2 h3 h4 w)
  ·exact zero_same (op_8 a b h1 h2 h3 h4 w)
  ·exact zero_same (op_9 a b h1 h2 h3 h4 w)
  ·exact zero_same (op_10 a b h1 h2 h3 h4 w)
  ·exact zero_same (op_11 a b h1 h2 h3 h4 w)
  ·exact zero_same (op_12 a b h1 h2 h3 h4 w)
 ·exact zero_same (op_no op a b (no_op op hop) w)
theorem rop_any (op a b : Int) (h1 : -2147483648 ≤ a) (h2 : a ≤ 2147483647) (h3 : -2147483648 ≤ b) (h4 : b ≤ 2147483647) (w : World) :
 Calls Tryz.prog 63 #[.int .i64 op, .int .i32 a, .int .i32 b] w fun e w' => e = .returned (.tuple #[.int .i32 (opV op a b), .bool (opOk op b)]) ∧ w = w' := by
 by_cases hop : 1 ≤ op ∧ op ≤ 12
 ·obtain ⟨o1, o2⟩ := hop
  rcases (show op = 1 ∨ op = 2 ∨ op = 3 ∨ op = 4 ∨ op = 5 ∨ op = 6 ∨ op = 7 ∨ op = 8 ∨ op = 9 ∨ op = 10 ∨ op = 11 ∨ op = 12 by omega) with rfl | rfl | rfl | rfl | rfl | rfl | rfl | rfl | rfl | rfl | rfl | rfl
  ·exact rop_1 a b h1 h2 h3 h4 w
  ·exact rop_2 a b h1 h2 h3 h4 w
  ·exact rop_3 a b h1 h2 h3 h4 w
  ·exact rop_4 a b h1 h2 h3 h4 w
  ·by_cases hb : b = 0
   ·subst hb; exact rop_5z a h1 h2 w
   ·exact rop_5 a b h1 h2 h3 h4 (by simpa using hb) w
  ·by_cases hb : b = 0
   ·subst hb; exact rop_6z a h1 h2 w
   ·exact rop_6 a b h1 h2 h3 h4 (by simpa using hb) w
  ·exact rop_7 a b h1 h2 h3 h4 w
  ·exact rop_8 a b h1 h2 h3 h4 w
  ·exact rop_9 a b h1 h2 h3 h4 w
  ·exact rop_10 a b h1 h2 h3 h4 w
  ·exact rop_11 a b h1 h2 h3 h4 w
  ·exact rop_12 a b h1 h2 h3 h4 w
 ·exact rop_no op a b (no_op op hop) w
theorem opV_lo (op a b : Int) (h1 : -2147483648 ≤ a) (h2 : a ≤ 2147483647) (h3 : -2147483648 ≤ b) (h4 : b ≤ 2147483647) : -2147483648 ≤ opV op a b ∧ opV op a b ≤ 2147483647 := by
 have hw : ∀ n, -2147483648 ≤ wrap32 n ∧ wrap32 n ≤ 2147483647 := fun n => by unfold wrap32; omega
 have hb : ∀ k, isBit k → -2147483648 ≤ bits k .i32 a b ∧ bits k .i32 a b ≤ 2147483647 := fun k hk => by rw [bits_i32 k hk]; exact hw _
 have hi : ∀ c, -2147483648 ≤ b2i c ∧ b2i c ≤ 2147483647 := fun c => by cases c <;> decide
 have hm := tmod_lo' a b h1 h2
 have ok : ∀ (c : Prop) [Decidable c] (x y : Int), (-2147483648 ≤ x ∧ x ≤ 2147483647) → (-2147483648 ≤ y ∧ y ≤ 2147483647) → (-2147483648 ≤ (if c then x else y) ∧ (if c then x else y) ≤ 2147483647) := by
  intro c _ x y hx hy; split <;> assumption
 unfold opV
 repeat' (first | exact hw _ | exact hb _ (by simp [isBit]) | exact hi _ | exact hm | refine ok _ _ _ ?_ ?_ | (constructor <;> decide))
def W32 (x : Int) : Prop := -2147483648 ≤ x ∧ x ≤ 2147483647
instance : Inhabited Or := ⟨⟨0, [], [], 0, ⟨#[]⟩, zT⟩⟩
structure Fr where
 u : Nat
 i : Nat
 r : List Int
 b : List Int
 pc : Nat
structure Ms where
 vs : List (List (Int × Int))
 out : List Int
def bod (l : List Un) (u i : Nat) : Bo := (unAt l u).bs.getD i default
def ord (l : List Un) (f : Fr) : Or := (bod l f.u f.i).code.getD f.pc default
def src (f : Fr) (o : Or) : List Int := o.s.map fun i => f.r.getD i.toNat 0
def fnd (l : List Un) (u : Nat) (s : ByteArray) : Nat × Nat := if (giv (unAt l u) s).1 = 3 then ((homR l s).1.toNat, (homR l s).2.2) else (u, (giv (unAt l u) s).2)
def nmb (l : List Un) (p : Nat × Nat) : Nat := (allB l p.1).length + p.2
def bckL : List Un → Nat → Nat → Option (Nat × Nat)
 | [], _, _ => none
 | v :: l, u, n => if n < v.bs.length then some (u, n) else bckL l (u + 1) (n - v.bs.length)
def bck (l : List Un) (x : Int) : Option (Nat × Nat) := if x < 0 then none else bckL l 0 x.toNat
def setR (r : List Int) : List Int → List Int → List Int
 | i :: D, x :: d => setR (r.set i.toNat x) D d
 | _, _ => r
def getV (vs : List (List (Int × Int))) (p : Nat × Nat) (n : Int) : Int := if n = 0 then ((vs.getD p.1 []).getD p.2 (0, 0)).1 else ((vs.getD p.1 []).getD p.2 (0, 0)).2
def setV (vs : List (List (Int × Int))) (p : Nat × Nat) (n x : Int) : List (List (Int × Int)) :=
 vs.set p.1 ((vs.getD p.1 []).set p.2 (if n = 0 then (x, ((vs.getD p.1 []).getD p.2 (0, 0)).2) else (((vs.getD p.1 []).getD p.2 (0, 0)).1, x)))
inductive Ac where
 | go (r : List Int) (pc : Nat) (m : Ms)
 | call (u i : Nat) (a : List Int)
 | ret (s : List Int)
 | stop (e : Int)
noncomputable def act (l : List Un) (f : Fr) (m : Ms) : Ac :=
 let o := ord l f
 let s := src f o
 if o.op = 1 then .go (setR f.r o.d [o.n]) (f.pc + 1) m
 else if o.op = 2 then .go (setR f.r o.d s) (f.pc + 1) m
 else if o.op = 3 then (if opOk o.n (s.getD 1 0) then .go (setR f.r o.d [opV o.n (s.getD 0 0) (s.getD 1 0)]) (f.pc + 1) m else .stop 2)
 else if o.op = 4 then .go (setR f.r o.d [getV m.vs (fnd l f.u o.nm) o.n]) (f.pc + 1) m
 else if o.op = 5 then .go f.r (f.pc + 1) ⟨setV m.vs (fnd l f.u o.nm) o.n (s.getD 0 0), m.out⟩
 else if o.op = 6 then .go (setR f.r o.d [(nmb l (fnd l f.u o.nm) : Int)]) (f.pc + 1) m
 else if o.op = 7 then .call (fnd l f.u o.nm).1 (fnd l f.u o.nm).2 s
 else if o.op = 8 then (match bck l (s.getD 0 0) with
  | some p => if eqB (bod l p.1 p.2).ty o.ty then .call p.1 p.2 s.tail else .stop 3
  | none => .stop 3)
 else if o.op = 9 then .go f.r o.n.toNat m
 else if o.op = 10 then .go f.r (if s.getD 0 0 = 0 then o.n.toNat else f.pc + 1) m
 else if o.op = 11 then .go f.r (f.pc + 1) ⟨m.vs, m.out ++ [s.getD 0 0]⟩
 else if o.op = 12 then .ret s
 else if o.op = 13 then .go (setR f.r o.d [(f.b.length : Int)]) (f.pc + 1) m
 else .go (setR f.r o.d [if 0 ≤ s.getD 0 0 ∧ s.getD 0 0 < (f.b.length : Int) then f.b.getD (s.getD 0 0).toNat 0 else 0]) (f.pc + 1) m
def beg (l : List Un) (u i : Nat) (a : List Int) : Fr := ⟨u, i, a.take (parW (bod l u i).ty) ++ List.replicate ((bod l u i).regs.toNat - parW (bod l u i).ty) 0, a.drop (parW (bod l u i).ty), 0⟩
structure Shw where
 e : Int
 v : Int
 out : List Int
 t : Nat
def gv (l : List Un) (g : Fr) (s : List Int) : Fr := { g with r := setR g.r (ord l { g with pc := g.pc - 1 }).d s }
noncomputable def run (l : List Un) : Nat → Fr → List Fr → Ms → Nat → Shw
 | 0, _, _, m, t => ⟨0, 0, m.out, t⟩
 | n + 1, f, K, m, t => match act l f m with
  | .go r pc m' => run l n { f with r := r, pc := pc } K m' (t + 1)
  | .call u i a => if 3000 ≤ K.length + 1 then ⟨0, 0, m.out, t + 1⟩ else run l n (beg l u i a) ({ f with pc := f.pc + 1 } :: K) m (t + 1)
  | .stop e => ⟨e, 0, m.out, t + 1⟩
  | .ret s => match K with
   | [] => ⟨1, s.getD 0 0, m.out, t + 1⟩
   | g :: K' => run l n (gv l g s) K' m (t + 1)
noncomputable def rgv (l : List Un) (n : Nat) (K : List Fr) (s : List Int) (m : Ms) (t : Nat) : Shw := match K with
 | [] => ⟨1, s.getD 0 0, m.out, t⟩
 | g :: K' => run l n (gv l g s) K' m t
noncomputable def rcl (l : List Un) (n : Nat) (u i : Nat) (a : List Int) (K : List Fr) (m : Ms) (t : Nat) : Shw := if 3000 ≤ K.length then ⟨0, 0, m.out, t⟩ else run l n (beg l u i a) K m t
theorem run_go {l : List Un} {n : Nat} {f : Fr} {K : List Fr} {m : Ms} {t : Nat} {r : List Int} {pc : Nat} {m' : Ms} (h : act l f m = .go r pc m') : run l (n + 1) f K m t = run l n { f with r := r, pc := pc } K m' (t + 1) := by
 rw [run, h]
theorem run_call {l : List Un} {n : Nat} {f : Fr} {K : List Fr} {m : Ms} {t u i : Nat} {a : List Int} (h : act l f m = .call u i a) : run l (n + 1) f K m t = rcl l n u i a ({ f with pc := f.pc + 1 } :: K) m (t + 1) := by
 rw [run, h]; rfl
theorem run_stop {l : List Un} {n : Nat} {f : Fr} {K : List Fr} {m : Ms} {t : Nat} {e : Int} (h : act l f m = .stop e) : run l (n + 1) f K m t = ⟨e, 0, m.out, t + 1⟩ := by
 rw [run, h]
theorem run_ret {l : List Un} {n : Nat} {f : Fr} {K : List Fr} {m : Ms} {t : Nat} {s : List Int} (h : act l f m = .ret s) : run l (n + 1) f K m t = rgv l n K s m (t + 1) := by
 rw [run, h]; cases K <;> rfl
/-! what belongs together -/
structure Lnk (l : List Un) : Prop where
 n1 : 1 ≤ l.length
 n4 : l.length ≤ 4
 un : ∀ u (h : u < l.length), unitB l[u] = true
 sp : ∀ u (h : u < l.length), ∀ i (hi : i < l[u].bs.length), spkB l[u] l[u].bs[i] = true
 os : ∀ u (h : u < l.length), ∀ i (hi : i < l[u].os.length), g4 l u i = none
 mn : ckMain l = none
theorem fst_all {α : Type} {n : Nat} {f : Nat → Option α} (h : fstO n f = none) : ∀ j, j < n → f j = none := fun j hj => by
 unfold fstO at h
 rw [List.findSome?_eq_none_iff] at h
 exact h j (List.mem_range.2 hj)
theorem fst_ok {n : Nat} {f : Nat → Option Trb} (h : ∀ j x, f j = some x → x.2.1 ≠ 0) {x : Trb} (hx : fstO n f = some x) : x.2.1 ≠ 0 := by
 unfold fstO at hx
 obtain ⟨l1, a, l2, -, h2, -⟩ := List.findSome?_eq_some_iff.1 hx
 exact h a x h2
theorem or_ok {a b : Option Trb} (ha : ∀ x, a = some x → x.2.1 ≠ 0) (hb : ∀ x, b = some x → x.2.1 ≠ 0) : ∀ x, a.or b = some x → x.2.1 ≠ 0 := fun x h => by
 cases a with
 | none => exact hb x h
 | some y => exact ha x h
theorem main_ok (l : List Un) : ∀ x, ckMain l = some x → x.2.1 ≠ 0 := fun x h => by
 unfold ckMain at h
 split at h
 ·injection h with h; subst h; decide
 ·split at h
  ·injection h with h; subst h; decide
  ·cases h
theorem check_zero {l : List Un} (h : checkP l = (0, 0, 0)) : Lnk l := by
 have h12 : ¬ (l.length < 1 ∨ 4 < l.length) := fun hh => by unfold checkP at h; rw [if_pos hh] at h; cases h
 have n1 : 1 ≤ l.length := by omega
 have n4 : l.length ≤ 4 := by omega
 rw [ck_un n1 n4] at h
 have k1 : ∀ x, fstO l.length (f1 l) = some x → x.2.1 ≠ 0 := fun x => fst_ok fun j x hx => by unfold f1 at hx; split at hx; cases hx; injection hx with hx; subst hx; simp
 have k2 : ∀ x, fstO l.length (f2 l) = some x → x.2.1 ≠ 0 := fun x => fst_ok fun j x hx => fst_ok (fun i y hy => by unfold g2 at hy; split at hy; cases hy; injection hy with hy; subst hy; simp) hx
 have k3 : ∀ x, fstO l.length (f3 l) = some x → x.2.1 ≠ 0 := fun x => fst_ok fun j x hx => fst_ok (fun i y hy => by unfold g3 at hy; split at hy; injection hy with hy; subst hy; simp; cases hy) hx
 have k4 : ∀ x, fstO l.length (f4 l) = some x → x.2.1 ≠ 0 := fun x => fst_ok fun j x hx => fst_ok (fun i y hy => by
  unfold g4 at hy
  split at hy
  ·injection hy with hy; subst hy; simp
  ·split at hy
   ·injection hy with hy; subst hy; simp
   ·cases hy) hx
 have hall : ((((fstO l.length (f1 l)).or (fstO l.length (f2 l))).or (fstO l.length (f3 l))).or (fstO l.length (f4 l))).or (ckMain l) = none := by
  rcases e : ((((fstO l.length (f1 l)).or (fstO l.length (f2 l))).or (fstO l.length (f3 l))).or (fstO l.length (f4 l))).or (ckMain l) with _ | x
  ·rfl
  ·rw [e] at h
   have := or_ok (or_ok (or_ok (or_ok k1 k2) k3) k4) (main_ok l) x e
   simp only [Option.getD_some] at h
   rw [h] at this
   exact absurd rfl this
 simp only [Option.or_eq_none_iff] at hall
 obtain ⟨⟨⟨⟨a1, a2⟩, -⟩, a4⟩, a5⟩ := hall
 refine ⟨n1, n4, fun u hu => f1_unit (fst_all a1) hu, fun u hu i hi => ?_, fun u hu i hi => ?_, a5⟩
 ·have h1 := fst_all a2 u hu
  unfold f2 at h1
  rw [unAt_at hu] at h1
  have h2 := fst_all h1 i hi
  unfold g2 at h2
  rw [unAt_at hu] at h2
  rcases e : spkB l[u] l[u].bs[i] with _ | _
  ·simp [List.getD_eq_getElem?_getD, hi, e] at h2
  ·rfl
 ·have h1 := fst_all a4 u hu
  unfold f4 at h1
  rw [unAt_at hu] at h1
  exact fst_all h1 i hi
end Go.Proofs.YthihaeobkoiljaaGreat
