/- A row of digits' number: what strconv.ParseInt says of it, and which of two rows is the greater one by their texts. No program is in sight; The token of a row that begins with a digit (lex.number); The token of a row that begins with a digit (lex.number). -/
import Derived.Test.YtgegfbopogcjpaaGreatDoorQ02
import Derived.Lib.ParseIntBCases
import GoSem.Op.String
import Derived.Shelf.Strings.SlTrimAscii
import Derived.WalkSpells
import Derived.LaidMore
namespace Go.Proofs.YtgegfbopogcjpaaGreatDoor
set_option linter.unusedVariables false
def decF (a : Nat) (l : List UInt8) : Nat := l.foldl (fun a b => 10 * a + (b.toNat - 48)) a
def digU (b : UInt8) : Bool := digitI b.toNat
theorem decF_cons (a : Nat) (b : UInt8) (l : List UInt8) : decF a (b :: l) = decF (10 * a + (b.toNat - 48)) l := by unfold decF; rw [List.foldl_cons]
theorem decL_eq (l : List UInt8) : decL l = decF 0 l := rfl
theorem decF_ge (l : List UInt8) : ∀ a, a ≤ decF a l := by
 induction l with
 | nil => intro a; exact Nat.le_refl _
 | cons b l ih => intro a; rw [decF_cons]; exact Nat.le_trans (by omega) (ih _)
theorem digU_iff {b : UInt8} : digU b = true ↔ 48 ≤ b.toNat ∧ b.toNat ≤ 57 := by
 simp [digU, digitI]
 omega
theorem parse_step (M a : Nat) (b : UInt8) (l : List UInt8) (h : 48 ≤ b.toNat ∧ b.toNat ≤ 57) : ∃ K, 1844674407370955162 = K ∧ Lib.parseUintM M a (b :: l) = if K ≤ a then .range else if M < a * 10 + (b.toNat - 48) then .range else Lib.parseUintM M (a * 10 + (b.toNat - 48)) l := by
 refine ⟨1844674407370955162, rfl, ?_⟩
 simp only [Lib.parseUintM, if_pos h]
theorem parseM (M : Nat) (hM : ∀ a, 1844674407370955162 ≤ a → M < 10 * a) (l : List UInt8) (hl : l.all digU = true) : ∀ a, a ≤ M →
 (decF a l ≤ M → Lib.parseUintM M a l = .ok (decF a l)) ∧ (M < decF a l → Lib.parseUintM M a l = .range) := by
 induction l with
 | nil =>
  intro a ha
  exact ⟨fun _ => rfl, fun h => absurd h (by show ¬ M < a; omega)⟩
 | cons b l ih =>
  intro a ha
  simp only [List.all_cons, Bool.and_eq_true] at hl
  obtain ⟨hb, hl⟩ := hl
  have hb' := digU_iff.1 hb
  have hge := decF_ge l (10 * a + (b.toNat - 48))
  obtain ⟨K, hK, e⟩ := parse_step M a b l hb'
  rw [hK] at hM
  have hM' := hM a
  clear hK
  rw [decF_cons, e, show a * 10 + (b.toNat - 48) = 10 * a + (b.toNat - 48) by omega]
  by_cases h1 : K ≤ a
  ·rw [if_pos h1]
   have := hM' h1
   exact ⟨fun h => by omega, fun _ => rfl⟩
  ·rw [if_neg h1]
   by_cases h2 : M < 10 * a + (b.toNat - 48)
   ·rw [if_pos h2]
    exact ⟨fun h => by omega, fun _ => rfl⟩
   ·rw [if_neg h2]
    exact ih hl _ (by omega)
theorem parse_digits (B : Nat) (hB : B = 32 ∨ B = 64) (l : List UInt8) (hne : l ≠ []) (hl : l.all digU = true) :
 (decL l ≤ 2 ^ (B - 1) - 1 → Lib.parseIntB B l = .ok (decL l)) ∧ (2 ^ (B - 1) - 1 < decL l → Lib.parseIntB B l = .range) := by
 obtain ⟨b, r, rfl⟩ := List.exists_cons_of_ne_nil hne
 have hb : 48 ≤ b.toNat ∧ b.toNat ≤ 57 := by
  simp only [List.all_cons, Bool.and_eq_true] at hl
  exact digU_iff.1 hl.1
 have hp : 2 ^ B - 1 ≤ 18446744073709551615 ∧ 2 ^ (B - 1) - 1 < 2 ^ (B - 1) ∧ 2 ^ (B - 1) ≤ 2 ^ B - 1 := by rcases hB with rfl | rfl <;> decide
 generalize 2 ^ B - 1 = M at hp
 obtain ⟨h1, h2⟩ := parseM (2 ^ B - 1) (by rcases hB with rfl | rfl <;> (intro a ha; simp; omega)) _ hl 0 (Nat.zero_le _)
 unfold Lib.parseIntB
 have n1 : (b.toNat = 43) = False := by simp; omega
 have n2 : (b.toNat = 45) = False := by simp; omega
 simp only [n1, n2, or_false, if_false, Lib.parseUintB]
 rw [if_neg (by simp)]
 rw [decL_eq]
 constructor
 ·intro h
  rw [h1 (by rcases hB with rfl | rfl <;> (simp at h ⊢; omega))]
  simp only [not_false_eq_true, true_and, false_and, if_false]
  rw [if_neg (by omega)]
 ·intro h
  rcases Nat.lt_or_ge (2 ^ B - 1) (decF 0 (b :: r)) with h' | h'
  ·rw [h2 h']
  ·rw [h1 h']
   simp only [not_false_eq_true, true_and, false_and, if_false]
   rw [if_pos (by omega)]
/-! the greater of two rows of digits -/
theorem decF_split (l : List UInt8) : ∀ a, decF a l = a * 10 ^ l.length + decF 0 l := by
 induction l with
 | nil => intro a; simp [decF]
 | cons b l ih =>
  intro a
  rw [decF_cons, decF_cons, ih, ih (10 * 0 + (b.toNat - 48)), List.length_cons, Nat.pow_succ]
  generalize 10 ^ l.length = q
  rw [Nat.add_mul, Nat.add_mul, show 10 * 0 * q = 0 by simp, show a * (q * 10) = 10 * a * q by rw [Nat.mul_comm q 10, ← Nat.mul_assoc, Nat.mul_comm a 10]]
  omega
theorem decF_lt (l : List UInt8) (hl : l.all digU = true) : decF 0 l < 10 ^ l.length := by
 induction l with
 | nil => simp [decF]
 | cons b l ih =>
  simp only [List.all_cons, Bool.and_eq_true] at hl
  obtain ⟨hb, hl⟩ := hl
  have hb' := digU_iff.1 hb
  rw [decF_cons, decF_split, List.length_cons, Nat.pow_succ]
  have := ih hl
  generalize 10 ^ l.length = q at this
  have h9 : (10 * 0 + (b.toNat - 48)) * q ≤ 9 * q := Nat.mul_le_mul_right _ (by omega)
  generalize (10 * 0 + (b.toNat - 48)) * q = z at *
  omega
theorem less_digits (a b : List UInt8) (hlen : a.length = b.length) (ha : a.all digU = true) (hb : b.all digU = true) :
 (Op.bytesLess a b = true ↔ decF 0 a < decF 0 b) ∧ (a = b ↔ decF 0 a = decF 0 b) := by
 induction a generalizing b with
 | nil =>
  cases b with
  | nil => simp [Op.bytesLess, decF]
  | cons => simp at hlen
 | cons x a ih =>
  cases b with
  | nil => simp at hlen
  | cons y b =>
   simp only [List.length_cons, Nat.add_right_cancel_iff] at hlen
   simp only [List.all_cons, Bool.and_eq_true] at ha hb
   have hx := digU_iff.1 ha.1
   have hy := digU_iff.1 hb.1
   obtain ⟨i1, i2⟩ := ih b hlen ha.2 hb.2
   rw [decF_cons, decF_cons, decF_split, decF_split (a := 10 * 0 + (y.toNat - 48)), hlen]
   have l1 := decF_lt a ha.2
   have l2 := decF_lt b hb.2
   rw [hlen] at l1
   rw [Op.bytesLess]
   generalize decF 0 a = A at *
   generalize decF 0 b = B at *
   generalize 10 ^ b.length = q at *
   rcases Nat.lt_trichotomy x.toNat y.toNat with h | h | h
   ·have hlt : x < y := by simpa [UInt8.lt_iff_toNat_lt] using h
    have hne : x ≠ y := fun e => by subst e; omega
    have hm : (10 * 0 + (x.toNat - 48) + 1) * q ≤ (10 * 0 + (y.toNat - 48)) * q := Nat.mul_le_mul_right _ (by omega)
    rw [Nat.add_mul] at hm
    generalize (10 * 0 + (x.toNat - 48)) * q = u at *
    generalize (10 * 0 + (y.toNat - 48)) * q = v at *
    refine ⟨by simp [hlt]; omega, ?_⟩
    constructor
    ·intro e; injection e with e _; exact absurd e hne
    ·intro e; omega
   ·obtain rfl : x = y := UInt8.toNat_inj.1 h
    have hnl : ¬ x < x := by simp
    refine ⟨by simp [hnl, i1], ?_⟩
    constructor
    ·intro e; injection e with _ e; have := i2.1 e; omega
    ·intro e; rw [i2.2 (by omega)]
   ·have hnl : ¬ x < y := by simp [UInt8.lt_iff_toNat_lt]; omega
    have hne : x ≠ y := fun e => by subst e; omega
    have hm : (10 * 0 + (y.toNat - 48) + 1) * q ≤ (10 * 0 + (x.toNat - 48)) * q := Nat.mul_le_mul_right _ (by omega)
    rw [Nat.add_mul] at hm
    generalize (10 * 0 + (x.toNat - 48)) * q = u at *
    generalize (10 * 0 + (y.toNat - 48)) * q = v at *
    refine ⟨by simp [hnl, hne]; omega, ?_⟩
    constructor
    ·intro e; injection e with e _; exact absurd e hne
    ·intro e; omega
theorem more_digits (a b : List UInt8) (hlen : b.length < a.length) (ha : a.all digU = true) (hb : b.all digU = true) (h0 : 1 < a.length → a.head? ≠ some 48) (h1 : 1 ≤ b.length) : decF 0 b < decF 0 a := by
 cases a with
 | nil => simp at hlen
 | cons x a =>
  simp only [List.length_cons] at hlen
  have hx0 : x ≠ 48 := by have := h0 (by rw [List.length_cons]; omega); simpa using this
  simp only [List.all_cons, Bool.and_eq_true] at ha
  have hx := digU_iff.1 ha.1
  have hx1 : x.toNat ≠ 48 := fun e => hx0 (UInt8.toNat_inj.1 e)
  rw [decF_cons, decF_split a]
  have l2 := decF_lt b hb
  have hp : 10 ^ b.length ≤ 10 ^ a.length := Nat.pow_le_pow_right (by omega) (by omega)
  have hm : 1 * 10 ^ a.length ≤ (10 * 0 + (x.toNat - 48)) * 10 ^ a.length := Nat.mul_le_mul_right _ (by omega)
  generalize decF 0 a = A at *
  generalize (10 * 0 + (x.toNat - 48)) * 10 ^ a.length = u at *
  generalize 10 ^ a.length = v at *
  generalize 10 ^ b.length = w at *
  omega
def mostText (long : Bool) : List UInt8 := if long = true then [57, 50, 50, 51, 51, 55, 50, 48, 51, 54, 56, 53, 52, 55, 55, 53, 56, 48, 55] else [50, 49, 52, 55, 52, 56, 51, 54, 52, 55]
theorem mostText_ok (long : Bool) : decF 0 (mostText long) = numMost long ∧ (mostText long).all digU = true ∧ 10 ≤ (mostText long).length := by
 cases long <;> decide
def aboveB (a b : List UInt8) : Bool := decide (b.length < a.length) || (decide (a.length = b.length) && !(Op.bytesLess a b || a == b))
theorem above_most (long : Bool) (a : List UInt8) (ha : a.all digU = true) (h0 : 1 < a.length → a.head? ≠ some 48) : aboveB a (mostText long) = decide (numMost long < decF 0 a) := by
 obtain ⟨e1, e2, e3⟩ := mostText_ok long
 rw [← e1]
 unfold aboveB
 rcases Nat.lt_trichotomy a.length (mostText long).length with h | h | h
 ·rw [decide_eq_false (by omega), decide_eq_false (p := a.length = _) (by omega)]
  have hlt : decF 0 a < decF 0 (mostText long) := by
   rcases Nat.eq_zero_or_pos a.length with h0 | h0
   ·rw [List.eq_nil_of_length_eq_zero h0, e1]
    cases long <;> decide
   ·exact more_digits _ _ h e2 ha (fun _ => by cases long <;> decide) h0
  rw [decide_eq_false (by omega)]
  rfl
 ·rw [decide_eq_false (by omega), decide_eq_true h]
  obtain ⟨i1, i2⟩ := less_digits a _ h ha e2
  have he : (a == mostText long) = decide (decF 0 a = decF 0 (mostText long)) := by
   rw [Bool.eq_iff_iff]; simp [i2]
  have hl : Op.bytesLess a (mostText long) = decide (decF 0 a < decF 0 (mostText long)) := by
   rw [Bool.eq_iff_iff]; simp [i1]
  rw [he, hl]
  rcases Nat.lt_trichotomy (decF 0 a) (decF 0 (mostText long)) with g | g | g
  ·rw [decide_eq_true g, decide_eq_false (p := decF 0 (mostText long) < _) (by omega)]; rfl
  ·rw [decide_eq_true g, decide_eq_false (p := decF 0 (mostText long) < _) (by omega)]; simp
  ·rw [decide_eq_false (p := decF 0 a < _) (by omega), decide_eq_false (p := decF 0 a = _) (by omega), decide_eq_true g]; rfl
 ·have hlt : decF 0 (mostText long) < decF 0 a := more_digits _ _ h ha e2 h0 (by omega)
  rw [decide_eq_true h, decide_eq_true hlt]
  rfl
end Go.Proofs.YtgegfbopogcjpaaGreatDoor
namespace Go.Proofs.YtgegfbopogcjpaaGreatDoor
open Go.RowKit Go.Shelf
set_option linter.unusedVariables false
set_option linter.unusedSimpArgs false
set_option maxRecDepth 100000
set_option maxHeartbeats 1000000
def ER (w : World) : Prop := ∃ tp p, w.var? Tryz.prog "strconv.ErrRange" = some #[.iface tp p]
theorem ER.keep {w w' : World} (h : ER w) (hb : Below w.heap.size w w') : ER w' := by
 obtain ⟨tp, p, h⟩ := h
 refine ⟨tp, p, ?_⟩
 unfold World.var? at h ⊢
 cases hg : Tryz.prog.globalNamed "strconv.ErrRange" with
 | none => rw [hg] at h; cases h
 | some g =>
  rw [hg] at h
  simp only [Option.bind_some] at h ⊢
  have hlt : g < w.heap.size := by
   rcases Nat.lt_or_ge g w.heap.size with h' | h'
   ·exact h'
   ·rw [Array.getElem?_eq_none h'] at h; cases h
  rw [hb.block g hlt]
  exact h
theorem ER.only {w w' : World} {g : Nat} (h : ER w) (ho : Only w w' g) (hg : ∀ k, Tryz.prog.globalNamed "strconv.ErrRange" = some k → k ≠ g) : ER w' := by
 obtain ⟨tp, p, h⟩ := h
 refine ⟨tp, p, ?_⟩
 unfold World.var? at h ⊢
 cases hk : Tryz.prog.globalNamed "strconv.ErrRange" with
 | none => rw [hk] at h; cases h
 | some k =>
  rw [hk] at h
  simp only [Option.bind_some] at h ⊢
  have hlt : k < w.heap.size := by
   rcases Nat.lt_or_ge k w.heap.size with h' | h'
   ·exact h'
   ·rw [Array.getElem?_eq_none h'] at h; cases h
  rw [ho.1.block k hlt (fun e => hg k hk (by injection e))]
  exact h
def tenB : ByteArray := ⟨#[48, 49, 50, 51, 52, 53, 54, 55, 56, 57]⟩
theorem ten_dig (b : UInt8) : tenB.data.toList.contains b = digU b := by
 rw [Bool.eq_iff_iff, digU_iff, List.contains_iff_mem]
 simp only [tenB, List.mem_cons, List.not_mem_nil, or_false, ← UInt8.toNat_inj]
 simp
 omega
theorem dw_nil {p : UInt8 → Bool} {l : List UInt8} : l.dropWhile p = [] ↔ ∀ b ∈ l, p b = true := by
 induction l with
 | nil => simp
 | cons b l ih =>
  rw [List.dropWhile_cons]
  split
  ·rename_i h; rw [ih]; simp [h]
  ·rename_i h; simp [h]
theorem trim_all {s : ByteArray} (h : allDigits s = true) : Lib.trimS s.data.toList tenB.data.toList = [] := by
 have h' : ∀ b ∈ s.data.toList, digU b = true := by
  unfold allDigits at h; rw [List.all_eq_true] at h; exact h
 have e : Lib.trimRightS s.data.toList tenB.data.toList = [] := by
  unfold Lib.trimRightS
  rw [dw_nil.2]
  ·rfl
  ·intro b hb
   rw [ten_dig]
   exact h' b (List.mem_reverse.1 hb)
 rw [Lib.trimS, e]
 rfl
theorem trim_some {s : ByteArray} (h : allDigits s = false) : ∃ b r, Lib.trimS s.data.toList tenB.data.toList = b :: r := by
 rcases e : Lib.trimS s.data.toList tenB.data.toList with _ | ⟨b, r⟩
 ·exfalso
  have h' : ∃ b ∈ s.data.toList, digU b = false := by
   unfold allDigits at h
   rw [List.all_eq_false] at h
   obtain ⟨b, hb, h1⟩ := h
   refine ⟨b, hb, ?_⟩
   rcases h2 : digU b with _ | _
   ·rfl
   ·exact absurd h2 h1
  obtain ⟨b, hb, hn⟩ := h'
  unfold Lib.trimS Lib.trimLeftS at e
  rw [dw_nil] at e
  have hd : (s.data.toList.reverse.dropWhile (tenB.data.toList.contains ·)) = [] ∨ ∃ c r, s.data.toList.reverse.dropWhile (tenB.data.toList.contains ·) = c :: r := by
   cases s.data.toList.reverse.dropWhile (tenB.data.toList.contains ·) with
   | nil => exact .inl rfl
   | cons c r => exact .inr ⟨c, r, rfl⟩
  rcases hd with hd | ⟨c, r, hd⟩
  ·rw [dw_nil] at hd
   have := hd b (List.mem_reverse.2 hb)
   rw [ten_dig, hn] at this
   cases this
  ·have hc : tenB.data.toList.contains c = false := by
    have := List.head?_dropWhile_not (tenB.data.toList.contains ·) s.data.toList.reverse
    rw [hd] at this
    simpa using this
   have hm := e c (by unfold Lib.trimRightS; rw [hd]; simp)
   rw [hc] at hm
   cases hm
 ·exact ⟨b, r, rfl⟩
theorem trim_any (s : ByteArray) (w : World) (hs : s.size ≤ 4000) :
 Calls Tryz.prog 88 #[.string s, .string tenB] w fun e w' => e = .returned (.string ⟨(Lib.trimS s.data.toList tenB.data.toList).toArray⟩) ∧ Below w.heap.size w w' :=
 Any.strings_Trim_laid sh_lays160 (by kernel_rfl) s tenB w (by omega) (by decide) (ascii_of_all (by decide))
theorem suffix_long (r : ByteArray) (h1 : 1 ≤ r.size) : Lib.hasSuffix r.data.toList [76] = isLong r := by
 have hne : r.data.toList ≠ [] := by
  intro h
  have hz : r.data.toList.length = 0 := by rw [h]; rfl
  have hsz : r.data.toList.length = r.size := Array.length_toList
  omega
 have hb : byteI r (r.size - 1) = ((r.data.toList.getLast hne).toNat : Int) := by
  rw [byteI_at (by omega), List.getLast_eq_getElem]
  have hsz : r.data.toList.length = r.size := Array.length_toList
  have e : ∀ i (h : i < r.data.toList.length) (h' : i < r.size), r.data.toList[i] = r[i] := fun i h h' => by
   rw [Array.getElem_toList]; rfl
  rw [e _ _ (by omega)]
  all_goals first | omega | (congr 2; done) | (congr 2; simp only [hsz]; done)
 unfold isLong
 rw [hb]
 conv => lhs; rw [← List.dropLast_concat_getLast hne]
 generalize r.data.toList.getLast hne = x
 generalize r.data.toList.dropLast = l
 unfold Lib.hasSuffix List.isSuffixOf
 rw [Bool.eq_iff_iff]
 simp [List.isPrefixOf, ← UInt8.toNat_inj]
 omega
end Go.Proofs.YtgegfbopogcjpaaGreatDoor
namespace Go.Proofs.YtgegfbopogcjpaaGreatDoor
open Go.RowKit Go.Shelf
set_option linter.unusedVariables false
set_option linter.unusedSimpArgs false
set_option maxRecDepth 100000
set_option maxHeartbeats 1000000
def tokC (k : Int) (t : ByteArray) (p : Nat) : Array Value := #[.int .i64 k, .string t, .int .i64 p]
def zeroT : Array Value := #[.int .i64 0, .string ⟨#[]⟩, .int .i64 0]
def numC (r : ByteArray) : Array Value := if numE r = 0 then tokC (numK r) (digitsOf r) 0 else zeroT
def NumOut (w : World) (r : ByteArray) (e : Ending) (w' : World) : Prop := e = .returned (.tuple #[.agg (numC r), .int .i64 (numE r)]) ∧ Below w.heap.size w w'
theorem results_tok {fn : Func} (h : fn.results = #[.cell 2 50, .tmp 3]) {w : World} {b : Nat} {a0 a1 a2 x : Value} {tmps : Array Value} (k : Blk w b 50 #[a0, a1, a2]) (h2 : tmps.getD 2 undef = .pointer (some ⟨b, 0, none⟩)) (h3 : tmps.getD 3 undef = x) :
 (results fn tmps).run Tryz.prog w = .ok (.tuple #[.agg #[a0, a1, a2], x]) w := by
 have c0 := k.cell 0 _ rfl
 have c1 := k.cell 1 _ rfl
 have c2 := k.cell 2 _ rfl
 simp at c0 c1 c2
 simp only [Array.getD_eq_getD_getElem?] at h2 h3
 simp [results, h, go_sem, h2, h3, c0, c1, c2]
theorem below_set3 {B : Nat} {u w : World} {b : Nat} (h : Below B u w) (hB : B ≤ b) (b0 b1 b2 : Value) :
 Below B u (((w.setCell ⟨b, 0, none⟩ b0).setCell ⟨b, 1, none⟩ b1).setCell ⟨b, 2, none⟩ b2) :=
 ((h.setCell (p := ⟨b, 0, none⟩) hB _).setCell (p := ⟨b, 1, none⟩) hB _).setCell (p := ⟨b, 2, none⟩) hB _
theorem lblk_set3 {w : World} {b : Nat} {t : TypeId} {a0 a1 a2 : Value} (k : Blk w b t #[a0, a1, a2]) (b0 b1 b2 : Value) :
 Blk (((w.setCell ⟨b, 0, none⟩ b0).setCell ⟨b, 1, none⟩ b1).setCell ⟨b, 2, none⟩ b2) b t #[b0, b1, b2] :=
 ((k.set_ 0 b0).set_ 1 b1).set_ 2 b2
theorem digitsOf_pos {r : ByteArray} (h1 : 1 ≤ r.size) (hd : digitI (byteI r 0) = true) : 1 ≤ (digitsOf r).size ∧ (digitsOf r).size ≤ r.size ∧ byteI (digitsOf r) 0 = byteI r 0 := by
 unfold digitsOf
 rcases hl : isLong r with _ | _
 ·exact ⟨h1, Nat.le_refl _, rfl⟩
 ·have h2 : 2 ≤ r.size := by
   rcases Nat.lt_or_ge 1 r.size with h | h
   ·exact h
   ·exfalso
    have e : r.size - 1 = 0 := by omega
    unfold isLong at hl
    rw [e, beq_iff_eq] at hl
    rw [hl] at hd
    cases hd
  have hs : (r.extract 0 (r.size - 1)).size = r.size - 1 := by simp
  rw [if_pos rfl]
  refine ⟨by omega, by omega, ?_⟩
  rw [byteI_extract (by omega) (by omega), Nat.zero_add]
theorem numE_form {r : ByteArray} (h : allDigits (digitsOf r) = false) : numE r = 2 := by
 unfold numE; rw [if_pos h]
theorem numE_nought {r : ByteArray} (h : allDigits (digitsOf r) = true) (h1 : 1 < (digitsOf r).size) (h2 : byteI (digitsOf r) 0 = 48) : numE r = 2 := by
 unfold numE; rw [if_neg (by rw [h]; simp), if_pos ⟨h1, h2⟩]
theorem numE_range {r : ByteArray} (h : allDigits (digitsOf r) = true) (h1 : ¬(1 < (digitsOf r).size ∧ byteI (digitsOf r) 0 = 48)) (h2 : numMost (isLong r) < decL (digitsOf r).data.toList) : numE r = 6 := by
 unfold numE; rw [if_neg (by rw [h]; simp), if_neg h1, if_pos h2]
theorem numE_ok {r : ByteArray} (h : allDigits (digitsOf r) = true) (h1 : ¬(1 < (digitsOf r).size ∧ byteI (digitsOf r) 0 = 48)) (h2 : ¬ numMost (isLong r) < decL (digitsOf r).data.toList) : numE r = 0 := by
 unfold numE; rw [if_neg (by rw [h]; simp), if_neg h1, if_neg h2]
theorem numC_bad {r : ByteArray} {e : Int} (h : numE r = e) (he : e ≠ 0) : numC r = zeroT := by
 unfold numC; rw [if_neg (by rw [h]; exact he)]
theorem numC_ok {r : ByteArray} (h : numE r = 0) : numC r = tokC (numK r) (digitsOf r) 0 := by
 unfold numC; rw [if_pos h]
theorem bytes_empty {l : List UInt8} (h : l = []) : (⟨l.toArray⟩ : ByteArray) = ⟨#[]⟩ := by subst h; rfl
theorem number_short (r : ByteArray) (w : World) (h1 : 1 ≤ r.size) (h4 : r.size ≤ 4000) (hd : digitI (byteI r 0) = true) (he : ER w) (hl : isLong r = false) : Calls Tryz.prog 67 #[.string r] w (NumOut w r) := by
 have hsuf : Lib.hasSuffix r.data.toList [76] = false := (suffix_long r h1).trans hl
 have HX : Hid (∀ W : World, Calls Tryz.prog 87 #[.string r, .string ⟨#[76]⟩] W fun e w' => e = .returned (.bool false) ∧ w' = W) := fun W => by
  have := sh_strings_HasSuffix r ⟨#[76]⟩ W (by omega)
  rw [hsuf] at this
  exact this
 obtain ⟨hd1, hd2, hd3⟩ := digitsOf_pos h1 hd
 have HDE : Hid (digitsOf r = r) := by show _ = _; unfold digitsOf; rw [hl]; rfl
 have HK : Hid (numK r = 2) := by show _ = _; unfold numK; rw [hl]; rfl
 have HL := Lib.hid hl
 have HD3 := Lib.hid hd3
 clear hsuf hl hd3
 have hr1 : (1 : Int) ≤ (r.size : Int) := by omega
 have kb0 := Blk.new_ w 50 zeroT
 have HER : Hid (ER w) := he
 clear he
 go_enter Tryz.func67, Tryz.ntmps67
 go_wp2_with (go_at_call 87; refine (HX.out _).mono ?_; rintro e w' ⟨rfl, hw⟩; subst hw)
 have HT : Hid (∀ W : World, Calls Tryz.prog 88 #[.string (r), .string tenB] W fun e w' => e = .returned (.string ⟨(Lib.trimS (digitsOf r).data.toList tenB.data.toList).toArray⟩) ∧ Below W.heap.size W w') := fun W => by
  have := trim_any (digitsOf r) W (by omega)
  rw [HDE.out] at this ⊢
  exact this
 refine (HT.out _).mono ?_
 clear HT HX
 rintro e w1 ⟨rfl, hb⟩
 have hb1 : Below w.heap.size w w1 := Below.trans (by (repeat (first | with_reducible assumption | with_reducible exact Below.refl _ _ | (refine Below.setCell ?_ (by first | omega | (simp; done) | (simp; omega)) _) | (refine Below.drewN_ ?_ _) | (refine Below.drew ?_) | (refine Below.alloc ?_ (by first | omega | (simp; done) | (simp; omega)) _)))) (hb.mono (by simp))
 have kb := kb0.below hb
 have kb' : Blk w1 w.heap.size 50 #[.int .i64 0, .string ⟨#[]⟩, .int .i64 0] := kb
 have hlt1 : w.heap.size < w1.heap.size := kb.lt
 have x0 := kb'.cell 0 (.int .i64 0) rfl
 have x1 := kb'.cell 1 (.string ⟨#[]⟩) rfl
 have x2 := kb'.cell 2 (.int .i64 0) rfl
 have f0 := kb'.free 0
 have f1 := kb'.free 1
 have f2 := kb'.free 2
 have HER1 : Hid (ER w1) := HER.out.keep hb1
 have HB1 := Lib.hid hb1
 have KB := Lib.hid kb'
 clear hb kb kb' kb0 hb1 HER
 rcases had : allDigits (digitsOf r) with _ | _
 ·obtain ⟨b, t, hbt⟩ := trim_some had
  rw [hbt]
  have HN : Hid (numE r = 2) := numE_form had
  have g1 : ¬ (⟨(b :: t).toArray⟩ : ByteArray).toList = [] := by
   rw [ByteArray.toList_mk]; intro h; cases h
  clear hbt had
  generalize (⟨(b :: t).toArray⟩ : ByteArray) = T at *
  go_wp2_with fail
  exact bodyPost_ret (results_tok (by kernel_rfl) (lblk_set3 KB.out _ _ _) rfl rfl) rfl ⟨by rw [numC_bad HN.out (by decide), HN.out]; rfl, below_set3 HB1.out (Nat.le_refl _) _ _ _⟩
 ·rw [bytes_empty (trim_all had)]
  have HDS : Hid ((r : ByteArray) = digitsOf r) := HDE.out.symm
  rw [HDS.out]
  generalize hDr : digitsOf r = D at *
  have HDR := Lib.hid hDr
  clear hDr
  by_cases hone : 1 < D.size
  ·have d1 : (1 : Int) < (D.size : Int) := by omega
   have d1b : decide ((1 : Int) < (D.size : Int)) = true := by rw [decide_eq_true_eq]; exact d1
   by_cases h48 : byteI D 0 = 48
   ·have HN : Hid (numE r = 2) := numE_nought (by rw [HDR.out]; exact had) (by rw [HDR.out]; exact hone) (by rw [HDR.out]; exact h48)
    have d2 : (((D[0]'(by omega)).toNat : Int) == 48) = true := by rw [beq_iff_eq, ← byteI_at (by omega)]; exact h48
    clear had h48
    go_wp2_with fail
    exact bodyPost_ret (results_tok (by kernel_rfl) (lblk_set3 KB.out _ _ _) rfl rfl) rfl ⟨by rw [numC_bad HN.out (by decide), HN.out]; rfl, below_set3 HB1.out (Nat.le_refl _) _ _ _⟩
   ·have d2 : (((D[0]'(by omega)).toNat : Int) == 48) = false := by rw [beq_eq_false_iff_ne, ← byteI_at (by omega)]; exact h48
    have hnn : Hid (¬(1 < (digitsOf r).size ∧ byteI (digitsOf r) 0 = 48)) := by
     show ¬ _
     rw [HDR.out]; exact fun h => h48 h.2
    clear h48
    have had' : (digitsOf r).data.toList.all digU = true := by rw [HDR.out]; exact had
    have hne : (digitsOf r).data.toList ≠ [] := by
     intro h
     have hz : (digitsOf r).data.toList.length = (digitsOf r).size := Array.length_toList
     rw [h, HDR.out] at hz
     simp at hz
     omega
    obtain ⟨hp1, hp2⟩ := parse_digits 32 (by decide) _ hne had'
    by_cases hmost : numMost (isLong r) < decL (digitsOf r).data.toList
    ·have HN : Hid (numE r = 6) := numE_range (by rw [HDR.out]; exact had) hnn.out hmost
     have hrg := hp2 (by rw [HL.out] at hmost; exact hmost)
     obtain ⟨tp, p, hvar⟩ := HER1.out
     have HP : Hid (Calls Tryz.prog 74 #[.string D, .int .i64 10, .int .i64 32] w1 fun e w' => (∃ v t N, e = .returned (.tuple #[.int .i64 v, .iface t (.pointer (some ⟨N, 0, none⟩))])) ∧ Below w1.heap.size w1 w') := by
      have := sh_strconv_ParseInt_10_at32_range_var (digitsOf r) (by rw [HDR.out]; omega) hrg tp p w1 hvar
      rw [HDR.out] at this
      exact this.mono fun e w' ⟨N, h, _, _, hbw⟩ => ⟨⟨_, _, N, h⟩, hbw⟩
     clear hp1 hp2 hrg hvar hmost had had' hne
     go_wp2_with fail
     refine HP.out.mono ?_
     clear HP
     rintro e w2 ⟨⟨v, tt, NN, rfl⟩, hb2⟩
     have KB2 := Lib.hid (KB.out.below hb2)
     have HB2 := Lib.hid (below_trans HB1.out (Nat.le_refl _) hb2)
     clear hb2 x0 x1 x2 f0 f1 f2
     have x0 := KB2.out.cell 0 (.int .i64 0) rfl
     have x1 := KB2.out.cell 1 (.string ⟨#[]⟩) rfl
     have x2 := KB2.out.cell 2 (.int .i64 0) rfl
     have f0 := KB2.out.free 0
     have f1 := KB2.out.free 1
     have f2 := KB2.out.free 2
     go_wp2_with fail
     exact bodyPost_ret (results_tok (by kernel_rfl) (lblk_set3 KB2.out _ _ _) rfl rfl) rfl ⟨by rw [numC_bad HN.out (by decide), HN.out]; rfl, below_set3 HB2.out (Nat.le_refl _) _ _ _⟩
    ·have HN : Hid (numE r = 0) := numE_ok (by rw [HDR.out]; exact had) hnn.out hmost
     have hok := hp1 (by rw [HL.out] at hmost; exact Nat.le_of_not_lt hmost)
     have HP : Hid (Calls Tryz.prog 74 #[.string D, .int .i64 10, .int .i64 32] w1 fun e w' => (∃ v : Int, e = .returned (.tuple #[.int .i64 v, .nilIface])) ∧ Below w1.heap.size w1 w') := by
      have := sh_strconv_ParseInt_10_at32_ok (digitsOf r) (by rw [HDR.out]; omega) _ hok w1
      rw [HDR.out] at this
      refine this.mono fun e w' ⟨h, hbw⟩ => ⟨⟨_, h⟩, ?_⟩
      rcases hbw with rfl | ⟨t, rfl⟩
      ·exact Below.refl _ _
      ·exact Lib.bytesWorld_below _ _ _
     clear hp1 hp2 hok hmost had had' hne
     go_wp2_with fail
     refine HP.out.mono ?_
     clear HP
     rintro e w2 ⟨⟨v, rfl⟩, hb2⟩
     have KB2 := Lib.hid (KB.out.below hb2)
     have HB2 := Lib.hid (below_trans HB1.out (Nat.le_refl _) hb2)
     clear hb2 x0 x1 x2 f0 f1 f2
     have x0 := KB2.out.cell 0 (.int .i64 0) rfl
     have x1 := KB2.out.cell 1 (.string ⟨#[]⟩) rfl
     have x2 := KB2.out.cell 2 (.int .i64 0) rfl
     have f0 := KB2.out.free 0
     have f1 := KB2.out.free 1
     have f2 := KB2.out.free 2
     go_wp2_with fail
     exact bodyPost_ret (results_tok (by kernel_rfl) (lblk_set3 KB2.out _ _ _) rfl rfl) rfl ⟨by rw [numC_ok HN.out, HN.out, HK.out, HDR.out]; rfl, below_set3 HB2.out (Nat.le_refl _) _ _ _⟩
  ·have d1 : (D.size : Int) ≤ 1 := by omega
   have d1b : decide ((1 : Int) < (D.size : Int)) = false := by rw [decide_eq_false_iff_not]; omega
   have hnn : Hid (¬(1 < (digitsOf r).size ∧ byteI (digitsOf r) 0 = 48)) := by
    show ¬ _
    rw [HDR.out]; exact fun h => hone h.1
   have had' : (digitsOf r).data.toList.all digU = true := by rw [HDR.out]; exact had
   have hne : (digitsOf r).data.toList ≠ [] := by
    intro h
    have hz : (digitsOf r).data.toList.length = (digitsOf r).size := Array.length_toList
    rw [h, HDR.out] at hz
    simp at hz
    omega
   obtain ⟨hp1, hp2⟩ := parse_digits 32 (by decide) _ hne had'
   by_cases hmost : numMost (isLong r) < decL (digitsOf r).data.toList
   ·have HN : Hid (numE r = 6) := numE_range (by rw [HDR.out]; exact had) hnn.out hmost
    have hrg := hp2 (by rw [HL.out] at hmost; exact hmost)
    obtain ⟨tp, p, hvar⟩ := HER1.out
    have HP : Hid (Calls Tryz.prog 74 #[.string D, .int .i64 10, .int .i64 32] w1 fun e w' => (∃ v t N, e = .returned (.tuple #[.int .i64 v, .iface t (.pointer (some ⟨N, 0, none⟩))])) ∧ Below w1.heap.size w1 w') := by
     have := sh_strconv_ParseInt_10_at32_range_var (digitsOf r) (by rw [HDR.out]; omega) hrg tp p w1 hvar
     rw [HDR.out] at this
     exact this.mono fun e w' ⟨N, h, _, _, hbw⟩ => ⟨⟨_, _, N, h⟩, hbw⟩
    clear hp1 hp2 hrg hvar hmost had had' hne
    go_wp2_with fail
    refine HP.out.mono ?_
    clear HP
    rintro e w2 ⟨⟨v, tt, NN, rfl⟩, hb2⟩
    have KB2 := Lib.hid (KB.out.below hb2)
    have HB2 := Lib.hid (below_trans HB1.out (Nat.le_refl _) hb2)
    clear hb2 x0 x1 x2 f0 f1 f2
    have x0 := KB2.out.cell 0 (.int .i64 0) rfl
    have x1 := KB2.out.cell 1 (.string ⟨#[]⟩) rfl
    have x2 := KB2.out.cell 2 (.int .i64 0) rfl
    have f0 := KB2.out.free 0
    have f1 := KB2.out.free 1
    have f2 := KB2.out.free 2
    go_wp2_with fail
    exact bodyPost_ret (results_tok (by kernel_rfl) (lblk_set3 KB2.out _ _ _) rfl rfl) rfl ⟨by rw [numC_bad HN.out (by decide), HN.out]; rfl, below_set3 HB2.out (Nat.le_refl _) _ _ _⟩
   ·have HN : Hid (numE r = 0) := numE_ok (by rw [HDR.out]; exact had) hnn.out hmost
    have hok := hp1 (by rw [HL.out] at hmost; exact Nat.le_of_not_lt hmost)
    have HP : Hid (Calls Tryz.prog 74 #[.string D, .int .i64 10, .int .i64 32] w1 fun e w' => (∃ v : Int, e = .returned (.tuple #[.int .i64 v, .nilIface])) ∧ Below w1.heap.size w1 w') := by
     have := sh_strconv_ParseInt_10_at32_ok (digitsOf r) (by rw [HDR.out]; omega) _ hok w1
     rw [HDR.out] at this
     refine this.mono fun e w' ⟨h, hbw⟩ => ⟨⟨_, h⟩, ?_⟩
     rcases hbw with rfl | ⟨t, rfl⟩
     ·exact Below.refl _ _
     ·exact Lib.bytesWorld_below _ _ _
    clear hp1 hp2 hok hmost had had' hne
    go_wp2_with fail
    refine HP.out.mono ?_
    clear HP
    rintro e w2 ⟨⟨v, rfl⟩, hb2⟩
    have KB2 := Lib.hid (KB.out.below hb2)
    have HB2 := Lib.hid (below_trans HB1.out (Nat.le_refl _) hb2)
    clear hb2 x0 x1 x2 f0 f1 f2
    have x0 := KB2.out.cell 0 (.int .i64 0) rfl
    have x1 := KB2.out.cell 1 (.string ⟨#[]⟩) rfl
    have x2 := KB2.out.cell 2 (.int .i64 0) rfl
    have f0 := KB2.out.free 0
    have f1 := KB2.out.free 1
    have f2 := KB2.out.free 2
    go_wp2_with fail
    exact bodyPost_ret (results_tok (by kernel_rfl) (lblk_set3 KB2.out _ _ _) rfl rfl) rfl ⟨by rw [numC_ok HN.out, HN.out, HK.out, HDR.out]; rfl, below_set3 HB2.out (Nat.le_refl _) _ _ _⟩
theorem number_long (r : ByteArray) (w : World) (h1 : 1 ≤ r.size) (h4 : r.size ≤ 4000) (hd : digitI (byteI r 0) = true) (he : ER w) (hl : isLong r = true) : Calls Tryz.prog 67 #[.string r] w (NumOut w r) := by
 have hsuf : Lib.hasSuffix r.data.toList [76] = true := (suffix_long r h1).trans hl
 have HX : Hid (∀ W : World, Calls Tryz.prog 87 #[.string r, .string ⟨#[76]⟩] W fun e w' => e = .returned (.bool true) ∧ w' = W) := fun W => by
  have := sh_strings_HasSuffix r ⟨#[76]⟩ W (by omega)
  rw [hsuf] at this
  exact this
 obtain ⟨hd1, hd2, hd3⟩ := digitsOf_pos h1 hd
 have HDE : Hid (digitsOf r = r.extract 0 (r.size - 1)) := by show _ = _; unfold digitsOf; rw [hl]; rfl
 have HK : Hid (numK r = 3) := by show _ = _; unfold numK; rw [hl]; rfl
 have HL := Lib.hid hl
 have HD3 := Lib.hid hd3
 clear hsuf hl hd3
 have hr1 : (1 : Int) ≤ (r.size : Int) := by omega
 have kb0 := Blk.new_ w 50 zeroT
 have HER : Hid (ER w) := he
 clear he
 go_enter Tryz.func67, Tryz.ntmps67
 go_wp2_with (go_at_call 87; refine (HX.out _).mono ?_; rintro e w' ⟨rfl, hw⟩; subst hw)
 go_quiet (fail)
 go_wp2_with fail
 have HT : Hid (∀ W : World, Calls Tryz.prog 88 #[.string (r.extract 0 (r.size - 1)), .string tenB] W fun e w' => e = .returned (.string ⟨(Lib.trimS (digitsOf r).data.toList tenB.data.toList).toArray⟩) ∧ Below W.heap.size W w') := fun W => by
  have := trim_any (digitsOf r) W (by omega)
  rw [HDE.out] at this ⊢
  exact this
 refine (HT.out _).mono ?_
 clear HT HX
 rintro e w1 ⟨rfl, hb⟩
 have hb1 : Below w.heap.size w w1 := Below.trans (by (repeat (first | with_reducible assumption | with_reducible exact Below.refl _ _ | (refine Below.setCell ?_ (by first | omega | (simp; done) | (simp; omega)) _) | (refine Below.drewN_ ?_ _) | (refine Below.drew ?_) | (refine Below.alloc ?_ (by first | omega | (simp; done) | (simp; omega)) _)))) (hb.mono (by simp))
 have kb := (Blk.drewN kb0 _).below hb
 have kb' : Blk w1 w.heap.size 50 #[.int .i64 0, .string ⟨#[]⟩, .int .i64 0] := kb
 have hlt1 : w.heap.size < w1.heap.size := kb.lt
 have x0 := kb'.cell 0 (.int .i64 0) rfl
 have x1 := kb'.cell 1 (.string ⟨#[]⟩) rfl
 have x2 := kb'.cell 2 (.int .i64 0) rfl
 have f0 := kb'.free 0
 have f1 := kb'.free 1
 have f2 := kb'.free 2
 have HER1 : Hid (ER w1) := HER.out.keep hb1
 have HB1 := Lib.hid hb1
 have KB := Lib.hid kb'
 clear hb kb kb' kb0 hb1 HER
 rcases had : allDigits (digitsOf r) with _ | _
 ·obtain ⟨b, t, hbt⟩ := trim_some had
  rw [hbt]
  have HN : Hid (numE r = 2) := numE_form had
  have g1 : ¬ (⟨(b :: t).toArray⟩ : ByteArray).toList = [] := by
   rw [ByteArray.toList_mk]; intro h; cases h
  clear hbt had
  generalize (⟨(b :: t).toArray⟩ : ByteArray) = T at *
  go_wp2_with fail
  exact bodyPost_ret (results_tok (by kernel_rfl) (lblk_set3 KB.out _ _ _) rfl rfl) rfl ⟨by rw [numC_bad HN.out (by decide), HN.out]; rfl, below_set3 HB1.out (Nat.le_refl _) _ _ _⟩
 ·rw [bytes_empty (trim_all had)]
  have HDS : Hid ((r.extract 0 (r.size - 1) : ByteArray) = digitsOf r) := HDE.out.symm
  rw [HDS.out]
  generalize hDr : digitsOf r = D at *
  have HDR := Lib.hid hDr
  clear hDr
  by_cases hone : 1 < D.size
  ·have d1 : (1 : Int) < (D.size : Int) := by omega
   have d1b : decide ((1 : Int) < (D.size : Int)) = true := by rw [decide_eq_true_eq]; exact d1
   by_cases h48 : byteI D 0 = 48
   ·have HN : Hid (numE r = 2) := numE_nought (by rw [HDR.out]; exact had) (by rw [HDR.out]; exact hone) (by rw [HDR.out]; exact h48)
    have d2 : (((D[0]'(by omega)).toNat : Int) == 48) = true := by rw [beq_iff_eq, ← byteI_at (by omega)]; exact h48
    clear had h48
    go_wp2_with fail
    exact bodyPost_ret (results_tok (by kernel_rfl) (lblk_set3 KB.out _ _ _) rfl rfl) rfl ⟨by rw [numC_bad HN.out (by decide), HN.out]; rfl, below_set3 HB1.out (Nat.le_refl _) _ _ _⟩
   ·have d2 : (((D[0]'(by omega)).toNat : Int) == 48) = false := by rw [beq_eq_false_iff_ne, ← byteI_at (by omega)]; exact h48
    have hnn : Hid (¬(1 < (digitsOf r).size ∧ byteI (digitsOf r) 0 = 48)) := by
     show ¬ _
     rw [HDR.out]; exact fun h => h48 h.2
    clear h48
    have had' : (digitsOf r).data.toList.all digU = true := by rw [HDR.out]; exact had
    have hne : (digitsOf r).data.toList ≠ [] := by
     intro h
     have hz : (digitsOf r).data.toList.length = (digitsOf r).size := Array.length_toList
     rw [h, HDR.out] at hz
     simp at hz
     omega
    obtain ⟨hp1, hp2⟩ := parse_digits 64 (by decide) _ hne had'
    by_cases hmost : numMost (isLong r) < decL (digitsOf r).data.toList
    ·have HN : Hid (numE r = 6) := numE_range (by rw [HDR.out]; exact had) hnn.out hmost
     have hrg := hp2 (by rw [HL.out] at hmost; exact hmost)
     obtain ⟨tp, p, hvar⟩ := HER1.out
     have HP : Hid (Calls Tryz.prog 74 #[.string D, .int .i64 10, .int .i64 64] w1 fun e w' => (∃ v t N, e = .returned (.tuple #[.int .i64 v, .iface t (.pointer (some ⟨N, 0, none⟩))])) ∧ Below w1.heap.size w1 w') := by
      have := sh_strconv_ParseInt_10_at64_range_var (digitsOf r) (by rw [HDR.out]; omega) hrg tp p w1 hvar
      rw [HDR.out] at this
      exact this.mono fun e w' ⟨N, h, _, _, hbw⟩ => ⟨⟨_, _, N, h⟩, hbw⟩
     clear hp1 hp2 hrg hvar hmost had had' hne
     go_wp2_with fail
     refine HP.out.mono ?_
     clear HP
     rintro e w2 ⟨⟨v, tt, NN, rfl⟩, hb2⟩
     have KB2 := Lib.hid (KB.out.below hb2)
     have HB2 := Lib.hid (below_trans HB1.out (Nat.le_refl _) hb2)
     clear hb2 x0 x1 x2 f0 f1 f2
     have x0 := KB2.out.cell 0 (.int .i64 0) rfl
     have x1 := KB2.out.cell 1 (.string ⟨#[]⟩) rfl
     have x2 := KB2.out.cell 2 (.int .i64 0) rfl
     have f0 := KB2.out.free 0
     have f1 := KB2.out.free 1
     have f2 := KB2.out.free 2
     go_wp2_with fail
     exact bodyPost_ret (results_tok (by kernel_rfl) (lblk_set3 KB2.out _ _ _) rfl rfl) rfl ⟨by rw [numC_bad HN.out (by decide), HN.out]; rfl, below_set3 HB2.out (Nat.le_refl _) _ _ _⟩
    ·have HN : Hid (numE r = 0) := numE_ok (by rw [HDR.out]; exact had) hnn.out hmost
     have hok := hp1 (by rw [HL.out] at hmost; exact Nat.le_of_not_lt hmost)
     have HP : Hid (Calls Tryz.prog 74 #[.string D, .int .i64 10, .int .i64 64] w1 fun e w' => (∃ v : Int, e = .returned (.tuple #[.int .i64 v, .nilIface])) ∧ Below w1.heap.size w1 w') := by
      have := sh_strconv_ParseInt_10_at64_ok (digitsOf r) (by rw [HDR.out]; omega) _ hok w1
      rw [HDR.out] at this
      refine this.mono fun e w' ⟨h, hbw⟩ => ⟨⟨_, h⟩, ?_⟩
      rcases hbw with rfl | ⟨t, rfl⟩
      ·exact Below.refl _ _
      ·exact Lib.bytesWorld_below _ _ _
     clear hp1 hp2 hok hmost had had' hne
     go_wp2_with fail
     refine HP.out.mono ?_
     clear HP
     rintro e w2 ⟨⟨v, rfl⟩, hb2⟩
     have KB2 := Lib.hid (KB.out.below hb2)
     have HB2 := Lib.hid (below_trans HB1.out (Nat.le_refl _) hb2)
     clear hb2 x0 x1 x2 f0 f1 f2
     have x0 := KB2.out.cell 0 (.int .i64 0) rfl
     have x1 := KB2.out.cell 1 (.string ⟨#[]⟩) rfl
     have x2 := KB2.out.cell 2 (.int .i64 0) rfl
     have f0 := KB2.out.free 0
     have f1 := KB2.out.free 1
     have f2 := KB2.out.free 2
     go_wp2_with fail
     exact bodyPost_ret (results_tok (by kernel_rfl) (lblk_set3 KB2.out _ _ _) rfl rfl) rfl ⟨by rw [numC_ok HN.out, HN.out, HK.out, HDR.out]; rfl, below_set3 HB2.out (Nat.le_refl _) _ _ _⟩
  ·have d1 : (D.size : Int) ≤ 1 := by omega
   have d1b : decide ((1 : Int) < (D.size : Int)) = false := by rw [decide_eq_false_iff_not]; omega
   have hnn : Hid (¬(1 < (digitsOf r).size ∧ byteI (digitsOf r) 0 = 48)) := by
    show ¬ _
    rw [HDR.out]; exact fun h => hone h.1
   have had' : (digitsOf r).data.toList.all digU = true := by rw [HDR.out]; exact had
   have hne : (digitsOf r).data.toList ≠ [] := by
    intro h
    have hz : (digitsOf r).data.toList.length = (digitsOf r).size := Array.length_toList
    rw [h, HDR.out] at hz
    simp at hz
    omega
   obtain ⟨hp1, hp2⟩ := parse_digits 64 (by decide) _ hne had'
   by_cases hmost : numMost (isLong r) < decL (digitsOf r).data.toList
   ·have HN : Hid (numE r = 6) := numE_range (by rw [HDR.out]; exact had) hnn.out hmost
    have hrg := hp2 (by rw [HL.out] at hmost; exact hmost)
    obtain ⟨tp, p, hvar⟩ := HER1.out
    have HP : Hid (Calls Tryz.prog 74 #[.string D, .int .i64 10, .int .i64 64] w1 fun e w' => (∃ v t N, e = .returned (.tuple #[.int .i64 v, .iface t (.pointer (some ⟨N, 0, none⟩))])) ∧ Below w1.heap.size w1 w') := by
     have := sh_strconv_ParseInt_10_at64_range_var (digitsOf r) (by rw [HDR.out]; omega) hrg tp p w1 hvar
     rw [HDR.out] at this
     exact this.mono fun e w' ⟨N, h, _, _, hbw⟩ => ⟨⟨_, _, N, h⟩, hbw⟩
    clear hp1 hp2 hrg hvar hmost had had' hne
    go_wp2_with fail
    refine HP.out.mono ?_
    clear HP
    rintro e w2 ⟨⟨v, tt, NN, rfl⟩, hb2⟩
    have KB2 := Lib.hid (KB.out.below hb2)
    have HB2 := Lib.hid (below_trans HB1.out (Nat.le_refl _) hb2)
    clear hb2 x0 x1 x2 f0 f1 f2
    have x0 := KB2.out.cell 0 (.int .i64 0) rfl
    have x1 := KB2.out.cell 1 (.string ⟨#[]⟩) rfl
    have x2 := KB2.out.cell 2 (.int .i64 0) rfl
    have f0 := KB2.out.free 0
    have f1 := KB2.out.free 1
    have f2 := KB2.out.free 2
    go_wp2_with fail
    exact bodyPost_ret (results_tok (by kernel_rfl) (lblk_set3 KB2.out _ _ _) rfl rfl) rfl ⟨by rw [numC_bad HN.out (by decide), HN.out]; rfl, below_set3 HB2.out (Nat.le_refl _) _ _ _⟩
   ·have HN : Hid (numE r = 0) := numE_ok (by rw [HDR.out]; exact had) hnn.out hmost
    have hok := hp1 (by rw [HL.out] at hmost; exact Nat.le_of_not_lt hmost)
    have HP : Hid (Calls Tryz.prog 74 #[.string D, .int .i64 10, .int .i64 64] w1 fun e w' => (∃ v : Int, e = .returned (.tuple #[.int .i64 v, .nilIface])) ∧ Below w1.heap.size w1 w') := by
     have := sh_strconv_ParseInt_10_at64_ok (digitsOf r) (by rw [HDR.out]; omega) _ hok w1
     rw [HDR.out] at this
     refine this.mono fun e w' ⟨h, hbw⟩ => ⟨⟨_, h⟩, ?_⟩
     rcases hbw with rfl | ⟨t, rfl⟩
     ·exact Below.refl _ _
     ·exact Lib.bytesWorld_below _ _ _
    clear hp1 hp2 hok hmost had had' hne
    go_wp2_with fail
    refine HP.out.mono ?_
    clear HP
    rintro e w2 ⟨⟨v, rfl⟩, hb2⟩
    have KB2 := Lib.hid (KB.out.below hb2)
    have HB2 := Lib.hid (below_trans HB1.out (Nat.le_refl _) hb2)
    clear hb2 x0 x1 x2 f0 f1 f2
    have x0 := KB2.out.cell 0 (.int .i64 0) rfl
    have x1 := KB2.out.cell 1 (.string ⟨#[]⟩) rfl
    have x2 := KB2.out.cell 2 (.int .i64 0) rfl
    have f0 := KB2.out.free 0
    have f1 := KB2.out.free 1
    have f2 := KB2.out.free 2
    go_wp2_with fail
    exact bodyPost_ret (results_tok (by kernel_rfl) (lblk_set3 KB2.out _ _ _) rfl rfl) rfl ⟨by rw [numC_ok HN.out, HN.out, HK.out, HDR.out]; rfl, below_set3 HB2.out (Nat.le_refl _) _ _ _⟩
theorem lnumber_any (r : ByteArray) (w : World) (h1 : 1 ≤ r.size) (h4 : r.size ≤ 4000) (hd : digitI (byteI r 0) = true) (he : ER w) : Calls Tryz.prog 67 #[.string r] w (NumOut w r) := by
 rcases hl : isLong r with _ | _
 ·exact number_short r w h1 h4 hd he hl
 ·exact number_long r w h1 h4 hd he hl
end Go.Proofs.YtgegfbopogcjpaaGreatDoor
