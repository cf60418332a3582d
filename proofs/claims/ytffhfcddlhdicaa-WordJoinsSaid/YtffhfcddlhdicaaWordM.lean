/- Plain arithmetic on words of 32 and of 64 bits: products by halves, bits by bits, sums by halves. No program is in sight. -/
import Derived.WalkKit
import Derived.Laws.BitsAllLaws
namespace Go.Proofs.Ytffhfcddlhdicaa
open Go.RowKit

def nop (k : BinOp) (x y : Nat) : Nat := match k with
  | .and => x &&& y
  | .or => x ||| y
  | _ => x ^^^ y
def bop (k : BinOp) (x y : Bool) : Bool := match k with
  | .and => x && y
  | .or => x || y
  | _ => x ^^ y
def isBit (k : BinOp) : Prop := k = .and ∨ k = .or ∨ k = .xor
theorem nop_and (x y : Nat) : nop .and x y = x &&& y := rfl
theorem nop_or (x y : Nat) : nop .or x y = x ||| y := rfl
theorem nop_xor (x y : Nat) : nop .xor x y = x ^^^ y := rfl
theorem nop_testBit (k : BinOp) (x y i : Nat) : (nop k x y).testBit i = bop k (x.testBit i) (y.testBit i) := by
  unfold nop bop; split <;> simp
theorem nop_div (k : BinOp) (x y n : Nat) : nop k x y / 2 ^ n = nop k (x / 2 ^ n) (y / 2 ^ n) := by
  unfold nop; split <;> simp [Nat.and_div_two_pow, Nat.or_div_two_pow, Nat.xor_div_two_pow]
theorem nop_mod (k : BinOp) (x y n : Nat) : nop k x y % 2 ^ n = nop k (x % 2 ^ n) (y % 2 ^ n) := by
  unfold nop; split <;> simp [Nat.and_mod_two_pow, Nat.or_mod_two_pow, Nat.xor_mod_two_pow]
theorem nop_lt (k : BinOp) (x y n : Nat) (hx : x < 2 ^ n) (hy : y < 2 ^ n) : nop k x y < 2 ^ n := by
  unfold nop; split
  · exact Nat.and_lt_two_pow _ hy
  · exact Nat.or_lt_two_pow hx hy
  · exact Nat.xor_lt_two_pow hx hy
theorem bits_i32 (k : BinOp) (hk : isBit k) (a b : Int) : bits k .i32 a b = wrap32 ((nop k (a % 4294967296).toNat (b % 4294967296).toNat : Nat) : Int) := by
  have ha : (BitVec.ofInt 32 a).toNat = (a % 4294967296).toNat := by rw [BitVec.toNat_ofInt]; rfl
  have hb : (BitVec.ofInt 32 b).toNat = (b % 4294967296).toNat := by rw [BitVec.toNat_ofInt]; rfl
  rcases hk with rfl | rfl | rfl
  · show IntKind.i32.wrap ((BitVec.ofInt 32 a &&& BitVec.ofInt 32 b).toNat : Int) = _
    rw [BitVec.toNat_and, ha, hb, IntKind.wrap_i32, nop_and, wrap32]
  · show IntKind.i32.wrap ((BitVec.ofInt 32 a ||| BitVec.ofInt 32 b).toNat : Int) = _
    rw [BitVec.toNat_or, ha, hb, IntKind.wrap_i32, nop_or, wrap32]
  · show IntKind.i32.wrap ((BitVec.ofInt 32 a ^^^ BitVec.ofInt 32 b).toNat : Int) = _
    rw [BitVec.toNat_xor, ha, hb, IntKind.wrap_i32, nop_xor, wrap32]
theorem bits_i64 (k : BinOp) (hk : isBit k) (a b : Int) : bits k .i64 a b = wrap64 ((nop k (a % 18446744073709551616).toNat (b % 18446744073709551616).toNat : Nat) : Int) := by
  have ha : (BitVec.ofInt 64 a).toNat = (a % 18446744073709551616).toNat := by rw [BitVec.toNat_ofInt]; rfl
  have hb : (BitVec.ofInt 64 b).toNat = (b % 18446744073709551616).toNat := by rw [BitVec.toNat_ofInt]; rfl
  rcases hk with rfl | rfl | rfl
  · show IntKind.i64.wrap ((BitVec.ofInt 64 a &&& BitVec.ofInt 64 b).toNat : Int) = _
    rw [BitVec.toNat_and, ha, hb, IntKind.wrap_i64, nop_and, wrap64]
  · show IntKind.i64.wrap ((BitVec.ofInt 64 a ||| BitVec.ofInt 64 b).toNat : Int) = _
    rw [BitVec.toNat_or, ha, hb, IntKind.wrap_i64, nop_or, wrap64]
  · show IntKind.i64.wrap ((BitVec.ofInt 64 a ^^^ BitVec.ofInt 64 b).toNat : Int) = _
    rw [BitVec.toNat_xor, ha, hb, IntKind.wrap_i64, nop_xor, wrap64]

/-- the bits of a function of places, from 0 on -/
def bsum (g : Nat → Bool) : Nat → Nat
  | 0 => 0
  | k + 1 => bsum g k + (if g k then 2 ^ k else 0)
theorem bsum_testBit (x k : Nat) : bsum x.testBit k = x % 2 ^ k := by
  induction k with
  | zero => simp [bsum, Nat.mod_one]
  | succ k ih =>
    rw [bsum, ih, Nat.testBit_eq_decide_div_mod_eq, Nat.pow_succ]
    have h := Nat.mod_mul (x := x) (a := 2 ^ k) (b := 2)
    rw [h]
    rcases Nat.mod_two_eq_zero_or_one (x / 2 ^ k) with h' | h' <;> simp [h']
theorem bsum_lt (g : Nat → Bool) (k : Nat) : bsum g k < 2 ^ k := by
  induction k with
  | zero => simp [bsum]
  | succ k ih => rw [bsum, Nat.pow_succ]; split <;> omega
theorem bsum_nop (k : BinOp) (x y : Nat) (hx : x < 4294967296) (hy : y < 4294967296) : bsum (fun i => bop k (x.testBit i) (y.testBit i)) 32 = nop k x y := by
  have h : (fun i => bop k (x.testBit i) (y.testBit i)) = (nop k x y).testBit := funext fun i => (nop_testBit k x y i).symm
  rw [h, bsum_testBit, Nat.mod_eq_of_lt (nop_lt k x y 32 hx hy)]

theorem join_nat (X : Nat) (_h : X < 18446744073709551616) : wrap32 ((X / 4294967296 : Nat) : Int) * 4294967296 + wrap32 ((X % 4294967296 : Nat) : Int) % 4294967296 = wrap64 (X : Int) := by
  unfold wrap32 wrap64
  omega
theorem hi_nat (a : Int) : (wrap32 (a / 4294967296) % 4294967296).toNat = (a % 18446744073709551616).toNat / 4294967296 := by unfold wrap32; omega
theorem lo_nat (a : Int) : (wrap32 a % 4294967296).toNat = (a % 18446744073709551616).toNat % 4294967296 := by unfold wrap32; omega
theorem lt_nat (a : Int) : (a % 18446744073709551616).toNat < 18446744073709551616 := by omega
/-- a long's bits by its words' bits -/
theorem whole_bits (k : BinOp) (hk : isBit k) (a b : Int) :
    bits k .i32 (wrap32 (a / 4294967296)) (wrap32 (b / 4294967296)) * 4294967296 + bits k .i32 (wrap32 a) (wrap32 b) % 4294967296 = bits k .i64 a b := by
  rw [bits_i32 k hk, bits_i32 k hk, bits_i64 k hk]
  rw [hi_nat, hi_nat, lo_nat, lo_nat]
  have ha := lt_nat a
  have hb := lt_nat b
  generalize (a % 18446744073709551616).toNat = x at *
  generalize (b % 18446744073709551616).toNat = y at *
  have h1 := nop_div k x y 32
  have h2 := nop_mod k x y 32
  have h3 := nop_lt k x y 64 ha hb
  rw [show (2 : Nat) ^ 32 = 4294967296 from rfl] at h1 h2
  rw [← h1, ← h2]
  exact join_nat _ h3

/-- the bits of a word by those of a long: what is below 2^32 stands apart -/
theorem or_join (a b : Int) (h1 : -2147483648 ≤ b) (h2 : b ≤ 2147483647) : bits .or .i64 (b * 4294967296) (a % 4294967296) = b * 4294967296 + a % 4294967296 := by
  rw [bits_i64 .or (.inr (.inl rfl)), nop_or]
  have e1 : (b * 4294967296 % 18446744073709551616).toNat = (b % 4294967296).toNat * 4294967296 := by omega
  have e2 : (a % 4294967296 % 18446744073709551616).toNat = (a % 4294967296).toNat := by omega
  rw [e1, e2, nat_join 32 ((b % 4294967296).toNat * 4294967296) (a % 4294967296).toNat (Nat.mul_mod_left _ _) (by omega)]
  have e3 : (((b % 4294967296).toNat * 4294967296 + (a % 4294967296).toNat : Nat) : Int) = b % 4294967296 * 4294967296 + a % 4294967296 := by omega
  rw [e3, wrap64]
  clear e1 e2 e3
  omega

theorem prod_parts (a b : Int) : a * b = (a / 65536) * (b / 65536) * 4294967296 + ((a % 65536) * (b / 65536) + (a / 65536) * (b % 65536)) * 65536 + (a % 65536) * (b % 65536) := by
  have ha : a = a / 65536 * 65536 + a % 65536 := by omega
  have hb : b = b / 65536 * 65536 + b % 65536 := by omega
  generalize a / 65536 = p at *
  generalize a % 65536 = q at *
  generalize b / 65536 = r at *
  generalize b % 65536 = s at *
  subst ha hb
  grind
theorem mul_bound (a b m n : Int) (h0 : 0 ≤ a) (h1 : a ≤ m) (h2 : 0 ≤ b) (h3 : b ≤ n) : 0 ≤ a * b ∧ a * b ≤ m * n :=
  ⟨Int.mul_nonneg h0 h2, Int.mul_le_mul h1 h3 h2 (by omega)⟩
/-- the reference's product by halves: its lower part -/
theorem prod_low (a b : Int) :
    ((a / 65536) * (b % 65536) + ((a % 65536) * (b / 65536) + (a % 65536) * (b % 65536) / 65536) % 65536) % 65536 * 65536 + (a % 65536) * (b % 65536) % 65536 = a * b % 4294967296 := by
  rw [prod_parts a b]
  generalize (a / 65536) * (b / 65536) = p
  generalize (a % 65536) * (b / 65536) = q
  generalize (a / 65536) * (b % 65536) = r
  generalize (a % 65536) * (b % 65536) = s
  omega
theorem prod_high (a b : Int) :
    (a / 65536) * (b / 65536) + ((a % 65536) * (b / 65536) + (a % 65536) * (b % 65536) / 65536) / 65536 + ((a / 65536) * (b % 65536) + ((a % 65536) * (b / 65536) + (a % 65536) * (b % 65536) / 65536) % 65536) / 65536 = a * b / 4294967296 := by
  rw [prod_parts a b]
  generalize (a / 65536) * (b / 65536) = p
  generalize (a % 65536) * (b / 65536) = q
  generalize (a / 65536) * (b % 65536) = r
  generalize (a % 65536) * (b % 65536) = s
  omega
theorem wrap32_mod (n : Int) : wrap32 (n % 4294967296) = wrap32 n := by unfold wrap32; omega
theorem mul_mod32 (a b : Int) : wrap32 ((a % 4294967296) * (b % 4294967296)) = wrap32 (a * b) := by
  rw [← wrap32_mod, ← wrap32_mod (a * b), ← Int.mul_emod]
/-- a long's product by its words' products -/
theorem whole_mul (a b : Int) :
    wrap32 ((a % 4294967296) * (b % 4294967296) / 4294967296 + (a % 4294967296) * (b / 4294967296 % 4294967296) % 4294967296 + (a / 4294967296 % 4294967296) * (b % 4294967296) % 4294967296) * 4294967296
      + wrap32 ((a % 4294967296) * (b % 4294967296)) % 4294967296 = wrap64 (a * b) := by
  have ha : a = a % 4294967296 + (a / 4294967296 % 4294967296) * 4294967296 + a / 18446744073709551616 * 18446744073709551616 := by omega
  have hb : b = b % 4294967296 + (b / 4294967296 % 4294967296) * 4294967296 + b / 18446744073709551616 * 18446744073709551616 := by omega
  have e : ∃ K : Int, a * b = (a % 4294967296) * (b % 4294967296) + ((a % 4294967296) * (b / 4294967296 % 4294967296) + (a / 4294967296 % 4294967296) * (b % 4294967296)) * 4294967296 + K * 18446744073709551616 := by
    generalize a % 4294967296 = p at *
    generalize a / 4294967296 % 4294967296 = q at *
    generalize a / 18446744073709551616 = r at *
    generalize b % 4294967296 = p' at *
    generalize b / 4294967296 % 4294967296 = q' at *
    generalize b / 18446744073709551616 = r' at *
    subst ha hb
    exact ⟨p * r' + q * q' + q * r' * 4294967296 + r * p' + r * q' * 4294967296 + r * r' * 18446744073709551616, by grind⟩
  obtain ⟨K, e⟩ := e
  rw [e]
  clear e ha hb
  generalize (a % 4294967296) * (b % 4294967296) = p
  generalize (a % 4294967296) * (b / 4294967296 % 4294967296) = q
  generalize (a / 4294967296 % 4294967296) * (b % 4294967296) = r
  unfold wrap32 wrap64
  omega
end Go.Proofs.Ytffhfcddlhdicaa
