/- A row of digits' number: what strconv.ParseInt says of it, and which of two rows is the greater one by their texts. No program is in sight. -/
import Derived.Test.YtdhphabncchncaaDoorLexM
import Derived.Lib.ParseIntBCases
import GoSem.Op.String
namespace Go.Proofs.YtdhphabncchncaaDoor
set_option linter.unusedVariables false
def decF (a : Nat) (l : List UInt8) : Nat := l.foldl (fun a b => 10 * a + (b.toNat - 48)) a
def digU (b : UInt8) : Bool := digitI b.toNat
theorem decF_cons (a : Nat) (b : UInt8) (l : List UInt8) : decF a (b :: l) = decF (10 * a + (b.toNat - 48)) l := by unfold decF; rw [List.foldl_cons]
theorem decL_eq (l : List UInt8) : decL l = decF 0 l := rfl
theorem decF_ge (l : List UInt8) : ∀ a, a ≤ decF a l := by
  induction l with
  | nil => intro a; exact Nat.le_refl _
  | cons b l ih => intro a; rw [decF_cons]; exact Nat.le_trans (by omega) (ih _)
theorem digU_iff {b : UInt8} : digU b = true ↔ 48 ≤ b.toNat ∧ b.toNat ≤ 57 := by
  simp [digU, digitI]
  omega
theorem parse_step (M a : Nat) (b : UInt8) (l : List UInt8) (h : 48 ≤ b.toNat ∧ b.toNat ≤ 57) : ∃ K, 1844674407370955162 = K ∧ Lib.parseUintM M a (b :: l) = if K ≤ a then .range else if M < a * 10 + (b.toNat - 48) then .range else Lib.parseUintM M (a * 10 + (b.toNat - 48)) l := by
  refine ⟨1844674407370955162, rfl, ?_⟩
  simp only [Lib.parseUintM, if_pos h]
theorem parseM (M : Nat) (hM : ∀ a, 1844674407370955162 ≤ a → M < 10 * a) (l : List UInt8) (hl : l.all digU = true) : ∀ a, a ≤ M →
    (decF a l ≤ M → Lib.parseUintM M a l = .ok (decF a l)) ∧ (M < decF a l → Lib.parseUintM M a l = .range) := by
  induction l with
  | nil =>
    intro a ha
    exact ⟨fun _ => rfl, fun h => absurd h (by show ¬ M < a; omega)⟩
  | cons b l ih =>
    intro a ha
    simp only [List.all_cons, Bool.and_eq_true] at hl
    obtain ⟨hb, hl⟩ := hl
    have hb' := digU_iff.1 hb
    have hge := decF_ge l (10 * a + (b.toNat - 48))
    obtain ⟨K, hK, e⟩ := parse_step M a b l hb'
    rw [hK] at hM
    have hM' := hM a
    clear hK
    rw [decF_cons, e, show a * 10 + (b.toNat - 48) = 10 * a + (b.toNat - 48) by omega]
    by_cases h1 : K ≤ a
    · rw [if_pos h1]
      have := hM' h1
      exact ⟨fun h => by omega, fun _ => rfl⟩
    · rw [if_neg h1]
      by_cases h2 : M < 10 * a + (b.toNat - 48)
      · rw [if_pos h2]
        exact ⟨fun h => by omega, fun _ => rfl⟩
      · rw [if_neg h2]
        exact ih hl _ (by omega)
theorem parse_digits (B : Nat) (hB : B = 32 ∨ B = 64) (l : List UInt8) (hne : l ≠ []) (hl : l.all digU = true) :
    (decL l ≤ 2 ^ (B - 1) - 1 → Lib.parseIntB B l = .ok (decL l)) ∧ (2 ^ (B - 1) - 1 < decL l → Lib.parseIntB B l = .range) := by
  obtain ⟨b, r, rfl⟩ := List.exists_cons_of_ne_nil hne
  have hb : 48 ≤ b.toNat ∧ b.toNat ≤ 57 := by
    simp only [List.all_cons, Bool.and_eq_true] at hl
    exact digU_iff.1 hl.1
  have hp : 2 ^ B - 1 ≤ 18446744073709551615 ∧ 2 ^ (B - 1) - 1 < 2 ^ (B - 1) ∧ 2 ^ (B - 1) ≤ 2 ^ B - 1 := by rcases hB with rfl | rfl <;> decide
  generalize 2 ^ B - 1 = M at hp
  obtain ⟨h1, h2⟩ := parseM (2 ^ B - 1) (by rcases hB with rfl | rfl <;> (intro a ha; simp; omega)) _ hl 0 (Nat.zero_le _)
  unfold Lib.parseIntB
  have n1 : (b.toNat = 43) = False := by simp; omega
  have n2 : (b.toNat = 45) = False := by simp; omega
  simp only [n1, n2, or_false, if_false, Lib.parseUintB]
  rw [if_neg (by simp)]
  rw [decL_eq]
  constructor
  · intro h
    rw [h1 (by rcases hB with rfl | rfl <;> (simp at h ⊢; omega))]
    simp only [not_false_eq_true, true_and, false_and, if_false]
    rw [if_neg (by omega)]
  · intro h
    rcases Nat.lt_or_ge (2 ^ B - 1) (decF 0 (b :: r)) with h' | h'
    · rw [h2 h']
    · rw [h1 h']
      simp only [not_false_eq_true, true_and, false_and, if_false]
      rw [if_pos (by omega)]
/-! the greater of two rows of digits -/
theorem decF_split (l : List UInt8) : ∀ a, decF a l = a * 10 ^ l.length + decF 0 l := by
  induction l with
  | nil => intro a; simp [decF]
  | cons b l ih =>
    intro a
    rw [decF_cons, decF_cons, ih, ih (10 * 0 + (b.toNat - 48)), List.length_cons, Nat.pow_succ]
    generalize 10 ^ l.length = q
    rw [Nat.add_mul, Nat.add_mul, show 10 * 0 * q = 0 by simp, show a * (q * 10) = 10 * a * q by rw [Nat.mul_comm q 10, ← Nat.mul_assoc, Nat.mul_comm a 10]]
    omega
theorem decF_lt (l : List UInt8) (hl : l.all digU = true) : decF 0 l < 10 ^ l.length := by
  induction l with
  | nil => simp [decF]
  | cons b l ih =>
    simp only [List.all_cons, Bool.and_eq_true] at hl
    obtain ⟨hb, hl⟩ := hl
    have hb' := digU_iff.1 hb
    rw [decF_cons, decF_split, List.length_cons, Nat.pow_succ]
    have := ih hl
    generalize 10 ^ l.length = q at this
    have h9 : (10 * 0 + (b.toNat - 48)) * q ≤ 9 * q := Nat.mul_le_mul_right _ (by omega)
    generalize (10 * 0 + (b.toNat - 48)) * q = z at *
    omega
/-- of two rows of as many digits: which comes first by its bytes is the less -/
theorem less_digits (a b : List UInt8) (hlen : a.length = b.length) (ha : a.all digU = true) (hb : b.all digU = true) :
    (Op.bytesLess a b = true ↔ decF 0 a < decF 0 b) ∧ (a = b ↔ decF 0 a = decF 0 b) := by
  induction a generalizing b with
  | nil =>
    cases b with
    | nil => simp [Op.bytesLess, decF]
    | cons => simp at hlen
  | cons x a ih =>
    cases b with
    | nil => simp at hlen
    | cons y b =>
      simp only [List.length_cons, Nat.add_right_cancel_iff] at hlen
      simp only [List.all_cons, Bool.and_eq_true] at ha hb
      have hx := digU_iff.1 ha.1
      have hy := digU_iff.1 hb.1
      obtain ⟨i1, i2⟩ := ih b hlen ha.2 hb.2
      rw [decF_cons, decF_cons, decF_split, decF_split (a := 10 * 0 + (y.toNat - 48)), hlen]
      have l1 := decF_lt a ha.2
      have l2 := decF_lt b hb.2
      rw [hlen] at l1
      rw [Op.bytesLess]
      generalize decF 0 a = A at *
      generalize decF 0 b = B at *
      generalize 10 ^ b.length = q at *
      rcases Nat.lt_trichotomy x.toNat y.toNat with h | h | h
      · have hlt : x < y := by simpa [UInt8.lt_iff_toNat_lt] using h
        have hne : x ≠ y := fun e => by subst e; omega
        have hm : (10 * 0 + (x.toNat - 48) + 1) * q ≤ (10 * 0 + (y.toNat - 48)) * q := Nat.mul_le_mul_right _ (by omega)
        rw [Nat.add_mul] at hm
        generalize (10 * 0 + (x.toNat - 48)) * q = u at *
        generalize (10 * 0 + (y.toNat - 48)) * q = v at *
        refine ⟨by simp [hlt]; omega, ?_⟩
        constructor
        · intro e; injection e with e _; exact absurd e hne
        · intro e; omega
      · obtain rfl : x = y := UInt8.toNat_inj.1 h
        have hnl : ¬ x < x := by simp
        refine ⟨by simp [hnl, i1], ?_⟩
        constructor
        · intro e; injection e with _ e; have := i2.1 e; omega
        · intro e; rw [i2.2 (by omega)]
      · have hnl : ¬ x < y := by simp [UInt8.lt_iff_toNat_lt]; omega
        have hne : x ≠ y := fun e => by subst e; omega
        have hm : (10 * 0 + (y.toNat - 48) + 1) * q ≤ (10 * 0 + (x.toNat - 48)) * q := Nat.mul_le_mul_right _ (by omega)
        rw [Nat.add_mul] at hm
        generalize (10 * 0 + (x.toNat - 48)) * q = u at *
        generalize (10 * 0 + (y.toNat - 48)) * q = v at *
        refine ⟨by simp [hnl, hne]; omega, ?_⟩
        constructor
        · intro e; injection e with e _; exact absurd e hne
        · intro e; omega
/-- a row of more digits, no nought ahead, is the greater one -/
theorem more_digits (a b : List UInt8) (hlen : b.length < a.length) (ha : a.all digU = true) (hb : b.all digU = true) (h0 : 1 < a.length → a.head? ≠ some 48) (h1 : 1 ≤ b.length) : decF 0 b < decF 0 a := by
  cases a with
  | nil => simp at hlen
  | cons x a =>
    simp only [List.length_cons] at hlen
    have hx0 : x ≠ 48 := by have := h0 (by rw [List.length_cons]; omega); simpa using this
    simp only [List.all_cons, Bool.and_eq_true] at ha
    have hx := digU_iff.1 ha.1
    have hx1 : x.toNat ≠ 48 := fun e => hx0 (UInt8.toNat_inj.1 e)
    rw [decF_cons, decF_split a]
    have l2 := decF_lt b hb
    have hp : 10 ^ b.length ≤ 10 ^ a.length := Nat.pow_le_pow_right (by omega) (by omega)
    have hm : 1 * 10 ^ a.length ≤ (10 * 0 + (x.toNat - 48)) * 10 ^ a.length := Nat.mul_le_mul_right _ (by omega)
    generalize decF 0 a = A at *
    generalize (10 * 0 + (x.toNat - 48)) * 10 ^ a.length = u at *
    generalize 10 ^ a.length = v at *
    generalize 10 ^ b.length = w at *
    omega
def mostText (long : Bool) : List UInt8 := if long = true then [57, 50, 50, 51, 51, 55, 50, 48, 51, 54, 56, 53, 52, 55, 55, 53, 56, 48, 55] else [50, 49, 52, 55, 52, 56, 51, 54, 52, 55]
theorem mostText_ok (long : Bool) : decF 0 (mostText long) = numMost long ∧ (mostText long).all digU = true ∧ 10 ≤ (mostText long).length := by
  cases long <;> decide
/-- the reference's word for 'greater' -/
def aboveB (a b : List UInt8) : Bool := decide (b.length < a.length) || (decide (a.length = b.length) && !(Op.bytesLess a b || a == b))
theorem above_most (long : Bool) (a : List UInt8) (ha : a.all digU = true) (h0 : 1 < a.length → a.head? ≠ some 48) : aboveB a (mostText long) = decide (numMost long < decF 0 a) := by
  obtain ⟨e1, e2, e3⟩ := mostText_ok long
  rw [← e1]
  unfold aboveB
  rcases Nat.lt_trichotomy a.length (mostText long).length with h | h | h
  · rw [decide_eq_false (by omega), decide_eq_false (p := a.length = _) (by omega)]
    have hlt : decF 0 a < decF 0 (mostText long) := by
      rcases Nat.eq_zero_or_pos a.length with h0 | h0
      · rw [List.eq_nil_of_length_eq_zero h0, e1]
        cases long <;> decide
      · exact more_digits _ _ h e2 ha (fun _ => by cases long <;> decide) h0
    rw [decide_eq_false (by omega)]
    rfl
  · rw [decide_eq_false (by omega), decide_eq_true h]
    obtain ⟨i1, i2⟩ := less_digits a _ h ha e2
    have he : (a == mostText long) = decide (decF 0 a = decF 0 (mostText long)) := by
      rw [Bool.eq_iff_iff]; simp [i2]
    have hl : Op.bytesLess a (mostText long) = decide (decF 0 a < decF 0 (mostText long)) := by
      rw [Bool.eq_iff_iff]; simp [i1]
    rw [he, hl]
    rcases Nat.lt_trichotomy (decF 0 a) (decF 0 (mostText long)) with g | g | g
    · rw [decide_eq_true g, decide_eq_false (p := decF 0 (mostText long) < _) (by omega)]; rfl
    · rw [decide_eq_true g, decide_eq_false (p := decF 0 (mostText long) < _) (by omega)]; simp
    · rw [decide_eq_false (p := decF 0 a < _) (by omega), decide_eq_false (p := decF 0 a = _) (by omega), decide_eq_true g]; rfl
  · have hlt : decF 0 (mostText long) < decF 0 a := more_digits _ _ h ha e2 h0 (by omega)
    rw [decide_eq_true h, decide_eq_true hlt]
    rfl
end Go.Proofs.YtdhphabncchncaaDoor
