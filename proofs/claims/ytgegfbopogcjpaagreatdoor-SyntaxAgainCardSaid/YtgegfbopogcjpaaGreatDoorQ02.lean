/- Tokens in plain words: how far bytes of a kind go on, what is passed over, which token begins at a place, all tokens of a text. No program is in sight; What a node may be, and the words that show it. No program is in sight; Units read, in plain words: from each place of a row of tokens on, the node and the place behind it, or where it is none (F1, F2). No program is in sight; The scanner's small functions; how far a row of bytes goes on (scanner.run, at each of its three askers); scanner.blanks: what is passed over. -/
import Derived.Test.YtgegfbopogcjpaaGreatDoorQ01
import Derived.Lib.ItoaNum
import Derived.Deep.LoopGhost
import Derived.WalkKit
import Derived.Lib.Hide
import Derived.Deep.QuietTactic
import Derived.BigQuiet
import Derived.IntWalk
import Derived.ScopeJumps
import Derived.WalkMore
namespace Go.Proofs.YtgegfbopogcjpaaGreatDoor
set_option linter.unusedVariables false
structure Tok where
 k : Int
 s : ByteArray
 p : Nat
instance : Inhabited Tok := ⟨⟨0, ⟨#[]⟩, 0⟩⟩
def digitI (c : Int) : Bool := decide (48 ≤ c) && decide (c ≤ 57)
def blankI (c : Int) : Bool := c == 32 || c == 10
def endN (s : ByteArray) (p : Int → Bool) : Nat → Nat → Nat
 | 0, k => k
 | n + 1, k => if k < s.size ∧ p (byteI s k) = true then endN s p n (k + 1) else k
def endOf (s : ByteArray) (p : Int → Bool) (k : Nat) : Nat := endN s p (s.size - k) k
section
variable {s : ByteArray} {p : Int → Bool} {k : Nat}
theorem endOf_go (h : k < s.size) (hp : p (byteI s k) = true) : endOf s p k = endOf s p (k + 1) := by
 unfold endOf
 rw [show s.size - k = (s.size - (k + 1)) + 1 by omega, endN, if_pos ⟨h, hp⟩]
theorem endOf_stop (h : k < s.size → p (byteI s k) = false) : endOf s p k = k := by
 unfold endOf
 cases e : s.size - k with
 | zero => rfl
 | succ n =>
  rw [endN, if_neg]
  rintro ⟨h1, h2⟩
  rw [h h1] at h2
  cases h2
theorem endN_ge (n : Nat) : ∀ k, k ≤ endN s p n k := by
 induction n with
 | zero => intro k; exact Nat.le_refl _
 | succ n ih =>
  intro k
  rw [endN]
  split
  ·exact Nat.le_trans (Nat.le_succ k) (ih (k + 1))
  ·exact Nat.le_refl _
theorem endOf_ge : k ≤ endOf s p k := endN_ge _ _
theorem endN_le (n : Nat) : ∀ k, k ≤ s.size → endN s p n k ≤ s.size := by
 induction n with
 | zero => intro k h; exact h
 | succ n ih =>
  intro k h
  rw [endN]
  split
  ·rename_i h'; exact ih _ h'.1
  ·exact h
theorem endOf_le (h : k ≤ s.size) : endOf s p k ≤ s.size := endN_le _ _ h
theorem endN_all (n : Nat) : ∀ k j, k ≤ j → j < endN s p n k → p (byteI s j) = true := by
 induction n with
 | zero => intro k j h1 h2; simp [endN] at h2; omega
 | succ n ih =>
  intro k j h1 h2
  rw [endN] at h2
  split at h2
  ·rename_i h'
   rcases Nat.eq_or_lt_of_le h1 with e | e
   ·subst e; exact h'.2
   ·exact ih _ _ e h2
  ·omega
theorem endOf_all {j : Nat} (h1 : k ≤ j) (h2 : j < endOf s p k) : p (byteI s j) = true := endN_all _ _ _ h1 h2
theorem endN_end (n : Nat) : ∀ k, s.size - k ≤ n → endN s p n k < s.size → p (byteI s (endN s p n k)) = false := by
 induction n with
 | zero => intro k h1 h2; simp [endN] at h2; omega
 | succ n ih =>
  intro k h1 h2
  rw [endN] at h2 ⊢
  by_cases h : k < s.size ∧ p (byteI s k) = true
  ·rw [if_pos h] at h2 ⊢; exact ih _ (by omega) h2
  ·rw [if_neg h] at h2 ⊢
   rcases hp : p (byteI s k) with _ | _
   ·rfl
   ·exact absurd ⟨h2, hp⟩ h
theorem endOf_end (h : endOf s p k < s.size) : p (byteI s (endOf s p k)) = false := endN_end _ _ (Nat.le_refl _) h
theorem endOf_is {j : Nat} (h1 : k ≤ j) (h2 : ∀ i, k ≤ i → i < j → p (byteI s i) = true) (hj : j ≤ s.size) (h3 : j < s.size → p (byteI s j) = false) : endOf s p k = j := by
 induction hn : j - k generalizing k with
 | zero => obtain rfl : k = j := by omega
           exact endOf_stop h3
 | succ n ih =>
  rw [endOf_go (by omega) (h2 k (Nat.le_refl _) (by omega))]
  exact ih (by omega) (fun i a b => h2 i (by omega) b) (by omega)
end
def noteI (note : Bool) (c : Int) : Bool := (note || c == 35) && c != 10
def passI (note : Bool) (c : Int) : Bool := note || blankI c || c == 35
def skipN (s : ByteArray) : Nat → Bool → Nat → Nat
 | 0, _, k => k
 | n + 1, note, k => if k < s.size ∧ passI note (byteI s k) = true then skipN s n (noteI note (byteI s k)) (k + 1) else k
def skip (s : ByteArray) (note : Bool) (k : Nat) : Nat := skipN s (s.size - k) note k
section
variable {s : ByteArray} {note : Bool} {k : Nat}
theorem skip_go (h : k < s.size) (hp : passI note (byteI s k) = true) : skip s note k = skip s (noteI note (byteI s k)) (k + 1) := by
 unfold skip
 rw [show s.size - k = (s.size - (k + 1)) + 1 by omega, skipN, if_pos ⟨h, hp⟩]
theorem skip_stop (h : k < s.size → passI note (byteI s k) = false) : skip s note k = k := by
 unfold skip
 cases e : s.size - k with
 | zero => rfl
 | succ n =>
  rw [skipN, if_neg]
  rintro ⟨h1, h2⟩
  rw [h h1] at h2
  cases h2
theorem skipN_ge (n : Nat) : ∀ note k, k ≤ skipN s n note k := by
 induction n with
 | zero => intro note k; exact Nat.le_refl _
 | succ n ih =>
  intro note k
  rw [skipN]
  split
  ·exact Nat.le_trans (Nat.le_succ k) (ih _ (k + 1))
  ·exact Nat.le_refl _
theorem skip_ge : k ≤ skip s note k := skipN_ge _ _ _
theorem skipN_le (n : Nat) : ∀ note k, k ≤ s.size → skipN s n note k ≤ s.size := by
 induction n with
 | zero => intro note k h; exact h
 | succ n ih =>
  intro note k h
  rw [skipN]
  split
  ·rename_i h'; exact ih _ _ h'.1
  ·exact h
theorem skip_le (h : k ≤ s.size) : skip s note k ≤ s.size := skipN_le _ _ _ h
theorem skip_blanks : skip s false k = skip s false (endOf s blankI k) := by
 induction hn : s.size - k generalizing k with
 | zero => rw [endOf_stop (by omega)]
 | succ n ih =>
  rcases hb : blankI (byteI s k) with _ | _
  ·rw [endOf_stop (fun _ => hb)]
  ·rw [endOf_go (by omega) hb, skip_go (by omega) (by simp [passI, hb])]
   rw [show noteI false (byteI s k) = false from ?_]
   ·exact ih (by omega)
   ·simp only [blankI, Bool.or_eq_true, beq_iff_eq] at hb
    rcases hb with h | h <;> rw [h] <;> rfl
def lineI (c : Int) : Bool := c != 10
theorem skip_in_note : skip s true k = skip s false (endOf s lineI k) := by
 induction hn : s.size - k generalizing k with
 | zero => rw [endOf_stop (by omega), skip_stop (by omega), skip_stop (by omega)]
 | succ n ih =>
  rcases hb : lineI (byteI s k) with _ | _
  ·have h10 : byteI s k = 10 := by simpa [lineI] using hb
   rw [endOf_stop (fun _ => hb), skip_go (by omega) (by simp [passI]), skip_go (note := false) (by omega) (by simp [passI, blankI, h10])]
   rw [h10]
   rfl
  ·rw [endOf_go (by omega) hb, skip_go (by omega) (by simp [passI])]
   rw [show noteI true (byteI s k) = true from by simpa [noteI, lineI] using hb]
   exact ih (by omega)
theorem skip_note (h : k < s.size) (hc : byteI s k = 35) : skip s false k = skip s false (endOf s lineI k) := by
 rw [skip_go h (by simp [passI, hc]), show noteI false (byteI s k) = true from by rw [hc]; rfl, skip_in_note, ← endOf_go h (by rw [hc]; rfl)]
theorem skip_here (h : k < s.size) (h1 : blankI (byteI s k) = false) (h2 : ¬ byteI s k = 35) : skip s false k = k :=
 skip_stop fun _ => by simp [passI, h1, h2]
theorem skipN_end (n : Nat) : ∀ note k, s.size - k ≤ n → skipN s n note k < s.size → blankI (byteI s (skipN s n note k)) = false ∧ byteI s (skipN s n note k) ≠ 35 := by
 induction n with
 | zero => intro note k h1 h2; simp [skipN] at h2; omega
 | succ n ih =>
  intro note k h1 h2
  rw [skipN] at h2 ⊢
  by_cases h : k < s.size ∧ passI note (byteI s k) = true
  ·rw [if_pos h] at h2 ⊢; exact ih _ _ (by omega) h2
  ·rw [if_neg h] at h2 ⊢
   rcases hp : passI note (byteI s k) with _ | _
   ·simp [passI] at hp
    exact ⟨hp.1.2, hp.2⟩
   ·exact absurd ⟨h2, hp⟩ h
theorem skip_end (h : skip s note k < s.size) : blankI (byteI s (skip s note k)) = false ∧ byteI s (skip s note k) ≠ 35 := skipN_end _ _ _ (Nat.le_refl _) h
end
def decL (l : List UInt8) : Nat := l.foldl (fun a b => 10 * a + (b.toNat - 48)) 0
def isLong (r : ByteArray) : Bool := byteI r (r.size - 1) == 76
def digitsOf (r : ByteArray) : ByteArray := if isLong r = true then r.extract 0 (r.size - 1) else r
def allDigits (d : ByteArray) : Bool := d.data.toList.all fun b => digitI b.toNat
def numMost (long : Bool) : Nat := if long = true then 9223372036854775807 else 2147483647
def numE (r : ByteArray) : Int :=
 if allDigits (digitsOf r) = false then 2
 else if 1 < (digitsOf r).size ∧ byteI (digitsOf r) 0 = 48 then 2
 else if numMost (isLong r) < decL (digitsOf r).data.toList then 6 else 0
def numK (r : ByteArray) : Int := if isLong r = true then 3 else 2
def oneSigns : List UInt8 := [123, 125, 40, 41, 59, 44, 46, 61, 60, 43, 45, 42, 47, 37, 38, 124, 94, 33]
def signI (c : Int) : Bool := oneSigns.any fun b => c == b.toNat
def signLen (s : ByteArray) (j : Nat) : Nat :=
 if byteI s j = 46 ∧ byteI s (j + 1) = 46 ∧ byteI s (j + 2) = 46 then 3
 else if byteI s j = 61 ∧ byteI s (j + 1) = 61 then 2
 else if signI (byteI s j) = true then 1 else 0
structure TokR where
 e : Int
 k : Int
 t : ByteArray
 z : Nat
def tokAt (s : ByteArray) (j : Nat) : TokR :=
 if letterI (byteI s j) = true then ⟨if 16 < endOf s chrI j - j then 1 else 0, 1, s.extract j (endOf s chrI j), endOf s chrI j⟩
 else if digitI (byteI s j) = true then ⟨numE (s.extract j (endOf s chrI j)), numK (s.extract j (endOf s chrI j)), digitsOf (s.extract j (endOf s chrI j)), endOf s chrI j⟩
 else ⟨if signLen s j = 0 then 2 else 0, 4, s.extract j (j + signLen s j), j + signLen s j⟩
structure LexR where
 l : List Tok
 e : Int
 p : Nat
def lexN (s : ByteArray) : Nat → Bool → Nat → List Tok → LexR
 | 0, _, _, acc => ⟨acc, 0, 0⟩
 | n + 1, note, k, acc =>
  if skip s note k < s.size then
   if (tokAt s (skip s note k)).e = 0 then lexN s n false (tokAt s (skip s note k)).z (acc ++ [⟨(tokAt s (skip s note k)).k, (tokAt s (skip s note k)).t, skip s note k⟩])
   else ⟨[], (tokAt s (skip s note k)).e, skip s note k⟩
  else ⟨acc, 0, 0⟩
def lexA (s : ByteArray) (note : Bool) (k : Nat) (acc : List Tok) : LexR := lexN s (s.size - k + 1) note k acc
def lexOf (s : ByteArray) : LexR := if 4000 < s.size then ⟨[], 1, 0⟩ else lexA s false 0 []
theorem chr_of_letter {c : Int} (h : letterI c = true) : chrI c = true := by simp [chrI, h]
theorem chr_of_digit {c : Int} (h : digitI c = true) : chrI c = true := by
 simp only [digitI] at h
 simp [chrI, h]
section
variable {s : ByteArray} {note : Bool} {k j : Nat}
theorem endOf_gt (h : j < s.size) (hp : chrI (byteI s j) = true) : j < endOf s chrI j := by
 rw [endOf_go h hp]
 exact endOf_ge
theorem signLen_le : signLen s j ≤ 3 := by
 unfold signLen
 repeat' split
 all_goals omega
theorem tokAt_gt (h : j < s.size) (he : (tokAt s j).e = 0) : j < (tokAt s j).z := by
 unfold tokAt at he ⊢
 by_cases h1 : letterI (byteI s j) = true
 ·rw [if_pos h1]; exact endOf_gt h (chr_of_letter h1)
 ·rw [if_neg h1] at he ⊢
  by_cases h2 : digitI (byteI s j) = true
  ·rw [if_pos h2]; exact endOf_gt h (chr_of_digit h2)
  ·rw [if_neg h2] at he ⊢
   simp only at he ⊢
   by_cases h0 : signLen s j = 0
   ·rw [if_pos h0] at he; cases he
   ·omega
theorem lexN_more (n : Nat) : ∀ m note k acc, s.size - k + 1 ≤ n → n ≤ m → lexN s m note k acc = lexN s n note k acc := by
 induction n with
 | zero => intro m note k acc h; omega
 | succ n ih =>
  intro m note k acc h1 h2
  obtain ⟨m, rfl⟩ : ∃ m', m = m' + 1 := ⟨m - 1, by omega⟩
  rw [lexN, lexN]
  split
  ·rename_i hlt
   split
   ·rename_i he
    have hgt := tokAt_gt hlt he
    have hge := skip_ge (s := s) (note := note) (k := k)
    rw [ih m false _ _ (by omega) (by omega)]
   ·rfl
  ·rfl
theorem lexA_end (h : ¬ skip s note k < s.size) (acc : List Tok) : lexA s note k acc = ⟨acc, 0, 0⟩ := by
 unfold lexA
 rw [lexN, if_neg h]
theorem lexA_bad (h : skip s note k < s.size) (he : ¬ (tokAt s (skip s note k)).e = 0) (acc : List Tok) : lexA s note k acc = ⟨[], (tokAt s (skip s note k)).e, skip s note k⟩ := by
 unfold lexA
 rw [lexN, if_pos h, if_neg he]
theorem lexA_one (h : skip s note k < s.size) (he : (tokAt s (skip s note k)).e = 0) (acc : List Tok) :
 lexA s note k acc = lexA s false (tokAt s (skip s note k)).z (acc ++ [⟨(tokAt s (skip s note k)).k, (tokAt s (skip s note k)).t, skip s note k⟩]) := by
 unfold lexA
 rw [lexN, if_pos h, if_pos he]
 have hgt := tokAt_gt h he
 have hge := skip_ge (s := s) (note := note) (k := k)
 exact lexN_more _ _ _ _ _ (Nat.le_refl _) (by omega)
theorem lexA_pass (h : k < s.size) (hp : passI note (byteI s k) = true) (acc : List Tok) : lexA s note k acc = lexA s (noteI note (byteI s k)) (k + 1) acc := by
 by_cases hlt : skip s note k < s.size
 ·have e := skip_go h hp
  by_cases he : (tokAt s (skip s note k)).e = 0
  ·rw [lexA_one hlt he]
   rw [e] at hlt he ⊢
   rw [lexA_one hlt he]
  ·rw [lexA_bad hlt he]
   rw [e] at hlt he ⊢
   rw [lexA_bad hlt he]
 ·rw [lexA_end hlt]
  rw [skip_go h hp] at hlt
  rw [lexA_end hlt]
theorem lexA_skip (acc : List Tok) : lexA s false k acc = lexA s false (skip s false k) acc := by
 have hs : skip s false (skip s false k) = skip s false k := by
  by_cases h : skip s false k < s.size
  ·obtain ⟨h1, h2⟩ := skip_end h
   exact skip_here h h1 h2
  ·exact skip_stop fun h' => absurd h' h
 by_cases hlt : skip s false k < s.size
 ·by_cases he : (tokAt s (skip s false k)).e = 0
  ·rw [lexA_one hlt he, lexA_one (k := skip s false k) (by rw [hs]; exact hlt) (by rw [hs]; exact he), hs]
  ·rw [lexA_bad hlt he, lexA_bad (k := skip s false k) (by rw [hs]; exact hlt) (by rw [hs]; exact he), hs]
 ·rw [lexA_end hlt, lexA_end (by rw [hs]; exact hlt)]
end
def TokOk (k : Int) (s : ByteArray) : Prop :=
 (k = 1 ∧ 1 ≤ s.size ∧ s.size ≤ 16 ∧ letterI (byteI s 0) = true ∧ ∀ i, i < s.size → chrI (byteI s i) = true) ∨
 ((k = 2 ∨ k = 3) ∧ 1 ≤ s.size ∧ allDigits s = true ∧ ¬(1 < s.size ∧ byteI s 0 = 48) ∧ ¬ numMost (k == 3) < decL s.data.toList) ∨
 (k = 4 ∧ (s = ⟨#[46, 46, 46]⟩ ∨ s = ⟨#[61, 61]⟩ ∨ ∃ b : UInt8, s = ⟨#[b]⟩ ∧ signI b.toNat = true))
end Go.Proofs.YtgegfbopogcjpaaGreatDoor
namespace Go.Proofs.YtgegfbopogcjpaaGreatDoor
set_option linter.unusedVariables false
set_option linter.unusedSimpArgs false
structure Shp where
 text : Bool
 num : Int
 least : Nat
 most : Int
def shp (k : Int) : Option Shp :=
 if k = 1 ∨ k = 13 then some ⟨false, 0, 0, -1⟩
 else if k = 2 then some ⟨true, 0, 1, -1⟩
 else if k = 3 ∨ k = 5 ∨ k = 8 ∨ k = 24 then some ⟨true, 0, 1, 1⟩
 else if k = 4 then some ⟨true, 1, 1, -1⟩
 else if k = 6 then some ⟨true, 1, 2, 2⟩
 else if k = 7 then some ⟨true, 3, 2, -1⟩
 else if k = 9 ∨ k = 10 ∨ k = 33 then some ⟨false, 0, 0, 0⟩
 else if k = 11 ∨ k = 23 ∨ k = 26 then some ⟨true, 0, 0, 0⟩
 else if k = 12 then some ⟨false, 1, 1, -1⟩
 else if k = 14 then some ⟨true, 0, 2, 2⟩
 else if k = 15 ∨ k = 17 then some ⟨false, 0, 2, 2⟩
 else if k = 16 then some ⟨false, 0, 2, 3⟩
 else if k = 18 ∨ k = 19 ∨ k = 20 ∨ k = 28 ∨ k = 29 ∨ k = 30 ∨ k = 31 ∨ k = 34 then some ⟨false, 0, 1, 1⟩
 else if k = 21 ∨ k = 22 then some ⟨false, -1, 0, 0⟩
 else if k = 25 then some ⟨false, 0, 1, -1⟩
 else if k = 27 then some ⟨true, 0, 0, -1⟩
 else if k = 32 then some ⟨false, 12, 2, 2⟩
 else none
def cls (k : Int) : Int :=
 if k = 2 ∨ 4 ≤ k ∧ k ≤ 7 then 1
 else if 9 ≤ k ∧ k ≤ 12 then 2
 else if 14 ≤ k ∧ k ≤ 20 then 3
 else if 21 ≤ k ∧ k ≤ 34 then 4
 else 5
def sgn (op : Int) : Option (ByteArray × Int) :=
 if op = 12 then some (⟨#[61, 61]⟩, 0)
 else if op = 10 then some (⟨#[60]⟩, 0)
 else if op = 1 then some (⟨#[43]⟩, 1)
 else if op = 2 then some (⟨#[45]⟩, 1)
 else if op = 8 then some (⟨#[124]⟩, 1)
 else if op = 9 then some (⟨#[94]⟩, 1)
 else if op = 3 then some (⟨#[42]⟩, 2)
 else if op = 5 then some (⟨#[47]⟩, 2)
 else if op = 6 then some (⟨#[37]⟩, 2)
 else if op = 7 then some (⟨#[38]⟩, 2)
 else none
def sgnB (op : Int) : Int := match sgn op with
 | some x => x.2
 | none => -1
def sgnT (op : Int) : ByteArray := match sgn op with
 | some x => x.1
 | none => ⟨#[]⟩
def bindK (k num : Int) : Int := if k = 28 ∨ k = 29 then 3 else if k = 32 then sgnB num else 4
def bindN (n : Nd) : Int := bindK n.k n.num
def headK (d : Bool) (k : Int) : Bool := k == 24 || (d && k == 25)
def baseN (calls : Bool) : Nd → Nd
 | .mk k t num [] => .mk k t num []
 | .mk k t num (m :: ms) => if headK calls k = true then baseN calls m else .mk k t num (m :: ms)
def numB (k num nm : Int) (free : Bool) : Bool :=
 let m := if free = true ∧ num < 0 then -num else num
 decide (0 ≤ m) && decide (m ≤ 9223372036854775807) && (decide (nm < 0) || decide (m ≤ nm)) && (!(k == 21) || decide (m ≤ 2147483647))
def wantC (k : Int) (i len : Nat) : Int × Int :=
 if k = 1 then (1, 0)
 else if k = 2 then (5, 3)
 else if k = 3 ∨ k = 5 ∨ k = 8 ∨ k = 12 then (2, 0)
 else if k = 4 then (if i + 1 = len then (2, 0) else (5, 8))
 else if k = 6 then (if i = 0 then (2, 0) else (4, -1))
 else if k = 7 then (if i + 1 = len then (5, 13) else if i + 2 = len then (2, 0) else (5, 8))
 else if k = 13 then (3, 0)
 else if k = 14 then (if i = 0 then (2, 0) else (4, 0))
 else if k = 16 ∨ k = 17 then (if 0 < i then (5, 13) else (4, 0))
 else (4, 0)
def kidB (w : Int × Int) (k : Int) : Bool := (cls k == w.1) && (decide (w.2 ≤ 0) || k == w.2) && (decide (0 ≤ w.2) || (k == 21 || k == 22))
mutual
def isN : Nd → Bool → Bool
 | .mk k t num kids, free => match shp k with
  | none => false
  | some s => decide (s.least ≤ kids.length) && (decide (s.most < 0) || decide ((kids.length : Int) ≤ s.most)) && (s.text == decide (t.size ≠ 0)) && (!s.text || nameOf t) && numB k num s.num free &&
   (!(k == 32) || (sgn num).isSome) && (!(k == 15) || (match kids with | [] => false | m :: _ => (baseN false m).k == 23)) && (!(k == 20) || (match kids with | [] => false | m :: _ => m.k == 25 && (baseN true m).k == 23)) && isNL k 0 kids.length kids
def isNL (k : Int) (i len : Nat) : List Nd → Bool
 | [] => true
 | n :: ns => kidB (wantC k i len) n.k && isN n (decide ((wantC k i len).2 < 0)) && isNL k (i + 1) len ns
end
def digsN (n : Nat) : List UInt8 := Lib.decDigits n
def numT (k num : Int) : List ByteArray :=
 (if num < 0 then [⟨#[45]⟩] else []) ++ [⟨(digsN num.natAbs ++ if k = 22 then [76] else []).toArray⟩]
def commas : List (List ByteArray) → List ByteArray
 | [] => []
 | [w] => w
 | w :: v :: ws => w ++ (⟨#[44]⟩ :: commas (v :: ws))
def rowW (ws : List (List ByteArray)) (dots : Bool) : List ByteArray :=
 ⟨#[40]⟩ :: (commas (ws ++ if dots = true then [[⟨#[46, 46, 46]⟩]] else []) ++ [⟨#[41]⟩])
def atW (least b : Int) (w : List ByteArray) : List ByteArray := if b < least then ⟨#[40]⟩ :: (w ++ [⟨#[41]⟩]) else w
def statW (num : Int) : List ByteArray := if num % 2 = 1 then [⟨#[115, 116, 97, 116, 105, 99]⟩] else []
def nthW (ws : List (List ByteArray)) (i : Nat) : List ByteArray := (ws[i]?).getD []
def shwK (k : Int) (t : ByteArray) (num : Int) (ws : List (List ByteArray)) (bs : List Int) : List ByteArray :=
 let w0 := nthW ws 0
 let w1 := nthW ws 1
 let wl := nthW ws (ws.length - 1)
 if k = 1 then ws.flatten
 else if k = 2 then [⟨#[115, 116, 114, 117, 99, 116]⟩, t, ⟨#[123]⟩] ++ ws.flatten ++ [⟨#[125]⟩]
 else if k = 3 then w0 ++ [t, ⟨#[59]⟩]
 else if k = 8 then w0 ++ [t]
 else if k = 5 then ⟨#[101, 120, 116, 101, 114, 110]⟩ :: (w0 ++ [t, ⟨#[59]⟩])
 else if k = 4 then ⟨#[101, 120, 116, 101, 114, 110]⟩ :: (wl ++ [t] ++ rowW ws.dropLast (num == 1) ++ [⟨#[59]⟩])
 else if k = 6 then statW num ++ w0 ++ [t, ⟨#[61]⟩] ++ w1 ++ [⟨#[59]⟩]
 else if k = 7 then statW num ++ nthW ws (ws.length - 2) ++ [t] ++ rowW ws.dropLast.dropLast (decide (2 ≤ num)) ++ wl
 else if k = 9 then [⟨#[105, 110, 116]⟩]
 else if k = 10 then [⟨#[108, 111, 110, 103]⟩]
 else if k = 11 ∨ k = 23 then [t]
 else if k = 12 then ⟨#[102, 110]⟩ :: (rowW ws.dropLast (num == 1) ++ wl)
 else if k = 13 then ⟨#[123]⟩ :: (ws.flatten ++ [⟨#[125]⟩])
 else if k = 14 then w0 ++ [t, ⟨#[61]⟩] ++ w1 ++ [⟨#[59]⟩]
 else if k = 15 then w0 ++ [⟨#[61]⟩] ++ w1 ++ [⟨#[59]⟩]
 else if k = 16 ∨ k = 17 then [if k = 17 then ⟨#[119, 104, 105, 108, 101]⟩ else ⟨#[105, 102]⟩, ⟨#[40]⟩] ++ w0 ++ [⟨#[41]⟩] ++ w1 ++ (if ws.length = 3 then ⟨#[101, 108, 115, 101]⟩ :: nthW ws 2 else [])
 else if k = 18 then ⟨#[114, 101, 116, 117, 114, 110]⟩ :: (w0 ++ [⟨#[59]⟩])
 else if k = 19 then [⟨#[112, 117, 116]⟩, ⟨#[40]⟩] ++ w0 ++ [⟨#[41]⟩, ⟨#[59]⟩]
 else if k = 20 then w0 ++ [⟨#[59]⟩]
 else if k = 21 ∨ k = 22 then numT k num
 else if k = 24 then atW 4 ((bs[0]?).getD 0) w0 ++ [⟨#[46]⟩, t]
 else if k = 25 then atW 4 ((bs[0]?).getD 0) w0 ++ rowW ws.tail false
 else if k = 26 then [⟨#[38]⟩, t]
 else if k = 27 then [t, ⟨#[123]⟩] ++ commas ws ++ [⟨#[125]⟩]
 else if k = 28 then ⟨#[45]⟩ :: atW 3 ((bs[0]?).getD 0) w0
 else if k = 29 then ⟨#[33]⟩ :: atW 3 ((bs[0]?).getD 0) w0
 else if k = 30 then [⟨#[105, 110, 116]⟩, ⟨#[40]⟩] ++ w0 ++ [⟨#[41]⟩]
 else if k = 31 then [⟨#[108, 111, 110, 103]⟩, ⟨#[40]⟩] ++ w0 ++ [⟨#[41]⟩]
 else if k = 34 then [⟨#[101, 120, 116, 114, 97]⟩, ⟨#[40]⟩] ++ w0 ++ [⟨#[41]⟩]
 else if k = 33 then [⟨#[99, 111, 117, 110, 116]⟩]
 else atW (max (sgnB num) 1) ((bs[0]?).getD 0) w0 ++ [sgnT num] ++ atW (sgnB num + 1) ((bs[1]?).getD 0) w1
mutual
def shw : Nd → List ByteArray
 | .mk k t num kids => shwK k t num (shwL kids) (kids.map bindN)
def shwL : List Nd → List (List ByteArray)
 | [] => []
 | n :: ns => shw n :: shwL ns
end
theorem shwL_map (l : List Nd) : shwL l = l.map shw := by
 induction l with
 | nil => rfl
 | cons n l ih => rw [shwL, ih]; rfl
theorem shw_eq (n : Nd) : shw n = shwK n.k n.t n.num (n.kids.map shw) (n.kids.map bindN) := by
 cases n
 rw [shw, shwL_map]
 rfl
mutual
def many : Nd → Nat
 | .mk _ _ _ kids => manyL kids + 1
def manyL : List Nd → Nat
 | [] => 0
 | n :: ns => many n + manyL ns
end
mutual
def deep : Nd → Nat
 | .mk _ _ _ kids => deepL kids + 1
def deepL : List Nd → Nat
 | [] => 0
 | n :: ns => max (deep n) (deepL ns)
end
def fitsN (n : Nd) : Bool := decide (many n ≤ 700) && decide (deep n ≤ 16)
def joinW : List ByteArray → List UInt8
 | [] => []
 | [w] => w.data.toList
 | w :: v :: ws => w.data.toList ++ 32 :: joinW (v :: ws)
def printT (n : Nd) : ByteArray := if fitsN n = true ∧ n.k = 1 ∧ isN n false = true ∧ (joinW (shw n)).length ≤ 4000 then ⟨(joinW (shw n)).toArray⟩ else ⟨#[]⟩
def printE (n : Nd) : Int := if fitsN n = false then 1 else if ¬ (n.k = 1 ∧ isN n false = true) then 2 else if 4000 < (joinW (shw n)).length then 1 else 0
theorem many_pos (n : Nd) : 1 ≤ many n := by cases n; simp [many]
theorem many_kid {n m : Nd} (h : m ∈ n.kids) : many m < many n := by
 cases n with
 | mk k t num kids =>
  rw [many]
  have : ∀ l : List Nd, m ∈ l → many m ≤ manyL l := fun l => by
   induction l with
   | nil => intro h; cases h
   | cons x l ih =>
    intro h
    rw [manyL]
    rcases List.mem_cons.1 h with rfl | h
    ·omega
    ·have := ih h; omega
  have := this kids h
  omega
theorem manyL_len (l : List Nd) : l.length ≤ manyL l := by
 induction l with
 | nil => simp
 | cons n l ih => rw [manyL, List.length_cons]; have := many_pos n; omega
end Go.Proofs.YtgegfbopogcjpaaGreatDoor
namespace Go.Proofs.YtgegfbopogcjpaaGreatDoor
set_option linter.unusedVariables false
set_option linter.unusedSimpArgs false
inductive Res (α : Type) where
 | ok (a : α) (j : Nat)
 | bad (j : Nat)
 | dry
def Res.bind {α β : Type} (r : Res α) (f : α → Nat → Res β) : Res β :=
 match r with
 | .ok a j => f a j
 | .bad j => .bad j
 | .dry => .dry
@[simp] theorem Res.bind_ok {α β : Type} (a : α) (j : Nat) (f : α → Nat → Res β) : (Res.ok a j).bind f = f a j := rfl
@[simp] theorem Res.bind_bad {α β : Type} (j : Nat) (f : α → Nat → Res β) : (Res.bad j : Res α).bind f = .bad j := rfl
@[simp] theorem Res.bind_dry {α β : Type} (f : α → Nat → Res β) : (Res.dry : Res α).bind f = .dry := rfl
theorem Res.bind_wet {α β : Type} {r : Res α} {f : α → Nat → Res β} (h : r.bind f ≠ .dry) : r ≠ .dry := by
 intro e; rw [e] at h; exact h rfl
section
variable (L : List Tok)
def tIs (s : ByteArray) (i : Nat) : Bool := match L[i]? with
 | some t => (t.k == 1 || t.k == 4) && decide (t.s = s)
 | none => false
def tNm (i : Nat) : Bool := match L[i]? with
 | some t => t.k == 1 && nameOf t.s
 | none => false
def tTx (i : Nat) : ByteArray := match L[i]? with
 | some t => t.s
 | none => ⟨#[]⟩
def needM (s : ByteArray) (i : Nat) : Res Unit := if tIs L s i = true then .ok () (i + 1) else .bad i
def nameM (i : Nat) : Res ByteArray := if tNm L i = true then .ok (tTx L i) (i + 1) else .bad i
def valT (s : ByteArray) : Int := (decL s.data.toList : Nat)
def numM (i : Nat) : Res Nd := match L[i]? with
 | some t => if t.k = 2 then .ok (.mk 21 ⟨#[]⟩ (valT t.s) []) (i + 1) else if t.k = 3 then .ok (.mk 22 ⟨#[]⟩ (valT t.s) []) (i + 1) else .bad i
 | none => .bad i
def flagN (b : Bool) : Int := if b = true then 1 else 0
def itemsM (one : Nat → Res Nd) (many : Bool) : Nat → List Nd → Nat → Res (List Nd × Bool)
 | 0, _, _ => .dry
 | n + 1, l, i =>
  if l = [] ∧ tIs L ⟨#[41]⟩ i = true then .ok ([], false) (i + 1)
  else if many = true ∧ tIs L ⟨#[46, 46, 46]⟩ i = true then (needM L ⟨#[41]⟩ (i + 1)).bind fun _ k => .ok (l, true) k
  else (one i).bind fun x j => if tIs L ⟨#[44]⟩ j = true then itemsM one many n (l ++ [x]) (j + 1) else (needM L ⟨#[41]⟩ j).bind fun _ k => .ok (l ++ [x], false) k
def listM (one : Nat → Res Nd) (many : Bool) (i : Nat) : Res (List Nd × Bool) := (needM L ⟨#[40]⟩ i).bind fun _ j => itemsM L one many (L.length + 1) [] j
def typM : Nat → Nat → Res Nd
 | 0, _ => .dry
 | F + 1, i =>
  if tIs L ⟨#[105, 110, 116]⟩ i = true then .ok (.mk 9 ⟨#[]⟩ 0 []) (i + 1)
  else if tIs L ⟨#[108, 111, 110, 103]⟩ i = true then .ok (.mk 10 ⟨#[]⟩ 0 []) (i + 1)
  else if tIs L ⟨#[102, 110]⟩ i = true then (listM L (typM F) true (i + 1)).bind fun x j => (typM F j).bind fun r k => .ok (.mk 12 ⟨#[]⟩ (flagN x.2) (x.1 ++ [r])) k
  else (nameM L i).bind fun t j => .ok (.mk 11 t 0 []) j
def paramM (F i : Nat) : Res Nd := (typM L F i).bind fun t j => (nameM L j).bind fun s k => .ok (.mk 8 s 0 [t]) k
def opOf (s : ByteArray) : Int :=
 if s = ⟨#[61, 61]⟩ then 12 else if s = ⟨#[60]⟩ then 10 else if s = ⟨#[43]⟩ then 1 else if s = ⟨#[45]⟩ then 2 else if s = ⟨#[124]⟩ then 8 else if s = ⟨#[94]⟩ then 9
 else if s = ⟨#[42]⟩ then 3 else if s = ⟨#[47]⟩ then 5 else if s = ⟨#[37]⟩ then 6 else 7
def tIn (l : List ByteArray) (i : Nat) : Bool := l.any fun s => tIs L s i
def chainM (part : Nat → Res Nd) (signs : List ByteArray) : Nat → Nd → Nat → Res Nd
 | 0, _, _ => .dry
 | n + 1, x, i => if tIn L signs i = true then (part (i + 1)).bind fun y j => chainM part signs n (.mk 32 ⟨#[]⟩ (opOf (tTx L i)) [x, y]) j else .ok x i
def productM (u : Nat → Res Nd) (i : Nat) : Res Nd := (u i).bind fun x j => chainM L u [⟨#[42]⟩, ⟨#[47]⟩, ⟨#[37]⟩, ⟨#[38]⟩] (L.length + 1) x j
def sumM (u : Nat → Res Nd) (i : Nat) : Res Nd := (productM L u i).bind fun x j => chainM L (productM L u) [⟨#[43]⟩, ⟨#[45]⟩, ⟨#[124]⟩, ⟨#[94]⟩] (L.length + 1) x j
def exprM (u : Nat → Res Nd) (i : Nat) : Res Nd := (sumM L u i).bind fun x j =>
 if tIn L [⟨#[61, 61]⟩, ⟨#[60]⟩] j = true then (sumM L u (j + 1)).bind fun y k => .ok (.mk 32 ⟨#[]⟩ (opOf (tTx L j)) [x, y]) k else .ok x j
def roundM (u : Nat → Res Nd) (i : Nat) : Res Nd := (needM L ⟨#[40]⟩ i).bind fun _ j => (exprM L u j).bind fun x k => (needM L ⟨#[41]⟩ k).bind fun _ m => .ok x m
def callM (u : Nat → Res Nd) (x : Nd) (i : Nat) : Res Nd := (listM L (exprM L u) false i).bind fun y j => .ok (.mk 25 ⟨#[]⟩ 0 (x :: y.1)) j
def madeM (u : Nat → Res Nd) : Nat → List Nd → Nat → Res (List Nd)
 | 0, _, _ => .dry
 | n + 1, l, i =>
  if l = [] ∧ tIs L ⟨#[125]⟩ i = true then .ok [] (i + 1)
  else (exprM L u i).bind fun x j => if tIs L ⟨#[44]⟩ j = true then madeM u n (l ++ [x]) (j + 1) else (needM L ⟨#[125]⟩ j).bind fun _ k => .ok (l ++ [x]) k
def leafM (k : Int) : Nd := .mk k ⟨#[]⟩ 0 []
def oneM (k : Int) (x : Nd) : Nd := .mk k ⟨#[]⟩ 0 [x]
def firstM (u : Nat → Res Nd) (i : Nat) : Res Nd :=
 if tIs L ⟨#[40]⟩ i = true then roundM L u i
 else if tIs L ⟨#[38]⟩ i = true then (nameM L (i + 1)).bind fun s j => .ok (.mk 26 s 0 []) j
 else if tIs L ⟨#[105, 110, 116]⟩ i = true then (roundM L u (i + 1)).bind fun x j => .ok (oneM 30 x) j
 else if tIs L ⟨#[108, 111, 110, 103]⟩ i = true then (roundM L u (i + 1)).bind fun x j => .ok (oneM 31 x) j
 else if tIs L ⟨#[99, 111, 117, 110, 116]⟩ i = true then .ok (leafM 33) (i + 1)
 else if tIs L ⟨#[101, 120, 116, 114, 97]⟩ i = true then (roundM L u (i + 1)).bind fun x j => .ok (oneM 34 x) j
 else if tNm L i = true then
  if tIs L ⟨#[123]⟩ (i + 1) = true then (madeM L u (L.length + 1) [] (i + 2)).bind fun l j => .ok (.mk 27 (tTx L i) 0 l) j
  else .ok (.mk 23 (tTx L i) 0 []) (i + 1)
 else numM L i
def postM (u : Nat → Res Nd) : Nat → Nd → Nat → Res Nd
 | 0, _, _ => .dry
 | n + 1, x, i =>
  if tIs L ⟨#[46]⟩ i = true then (nameM L (i + 1)).bind fun s j => postM u n (.mk 24 s 0 [x]) j
  else if tIs L ⟨#[40]⟩ i = true then (callM L u x i).bind fun y j => postM u n y j
  else .ok x i
def unaryM : Nat → Nat → Res Nd
 | 0, _ => .dry
 | F + 1, i =>
  if tIs L ⟨#[45]⟩ i = true then (unaryM F (i + 1)).bind fun x j => .ok (oneM 28 x) j
  else if tIs L ⟨#[33]⟩ i = true then (unaryM F (i + 1)).bind fun x j => .ok (oneM 29 x) j
  else (firstM L (unaryM F) i).bind fun x j => postM L (unaryM F) (L.length + 1) x j
def exprF (F i : Nat) : Res Nd := exprM L (unaryM L F) i
def closedM (x : Nd) (i : Nat) : Res Nd := (needM L ⟨#[59]⟩ i).bind fun _ j => .ok x j
def simpleM (F : Nat) : Nat → Bool → Nd → Nat → Res Nd
 | 0, _, _, _ => .dry
 | n + 1, called, x, i =>
  if tIs L ⟨#[46]⟩ i = true then (nameM L (i + 1)).bind fun s j => simpleM F n called (.mk 24 s 0 [x]) j
  else if tIs L ⟨#[40]⟩ i = true then (callM L (unaryM L F) x i).bind fun y j => simpleM F n true y j
  else if called = false ∧ tIs L ⟨#[61]⟩ i = true then (exprF L F (i + 1)).bind fun y j => closedM L (.mk 15 ⟨#[]⟩ 0 [x, y]) j
  else if x.k = 25 then closedM L (oneM 20 x) i
  else .bad i
def blkM (st : Nat → Res Nd) : Nat → List Nd → Nat → Res Nd
 | 0, _, _ => .dry
 | n + 1, l, i => if tIs L ⟨#[125]⟩ i = true then .ok (.mk 13 ⟨#[]⟩ 0 l) (i + 1) else (st i).bind fun x j => blkM st n (l ++ [x]) j
def blockM (st : Nat → Res Nd) (i : Nat) : Res Nd := (needM L ⟨#[123]⟩ i).bind fun _ j => blkM L st (L.length + 1) [] j
def statM : Nat → Nat → Res Nd
 | 0, _ => .dry
 | F + 1, i =>
  if tIs L ⟨#[105, 102]⟩ i = true then (roundM L (unaryM L F) (i + 1)).bind fun c j => (blockM L (statM F) j).bind fun b k =>
   if tIs L ⟨#[101, 108, 115, 101]⟩ k = true then (blockM L (statM F) (k + 1)).bind fun e m => .ok (.mk 16 ⟨#[]⟩ 0 [c, b, e]) m else .ok (.mk 16 ⟨#[]⟩ 0 [c, b]) k
  else if tIs L ⟨#[119, 104, 105, 108, 101]⟩ i = true then (roundM L (unaryM L F) (i + 1)).bind fun c j => (blockM L (statM F) j).bind fun b k => .ok (.mk 17 ⟨#[]⟩ 0 [c, b]) k
  else if tIs L ⟨#[114, 101, 116, 117, 114, 110]⟩ i = true then (exprF L F (i + 1)).bind fun x j => closedM L (oneM 18 x) j
  else if tIs L ⟨#[112, 117, 116]⟩ i = true then (roundM L (unaryM L F) (i + 1)).bind fun x j => closedM L (oneM 19 x) j
  else if tIn L [⟨#[105, 110, 116]⟩, ⟨#[108, 111, 110, 103]⟩, ⟨#[102, 110]⟩] i = true ∨ (tNm L i = true ∧ tNm L (i + 1) = true) then
   (typM L F i).bind fun t j => (nameM L j).bind fun s k => (needM L ⟨#[61]⟩ k).bind fun _ m => (exprF L F m).bind fun x o => closedM L (.mk 14 s 0 [t, x]) o
  else (nameM L i).bind fun s j => simpleM L F (L.length + 1) false (.mk 23 s 0 []) j
def blockF (F i : Nat) : Res Nd := blockM L (statM L F) i
def fieldsM (F : Nat) : Nat → List Nd → Nat → Res (List Nd)
 | 0, _, _ => .dry
 | n + 1, l, i => if l ≠ [] ∧ tIs L ⟨#[125]⟩ i = true then .ok l (i + 1)
  else (typM L F i).bind fun t j => (nameM L j).bind fun s k => (needM L ⟨#[59]⟩ k).bind fun _ m => fieldsM F n (l ++ [.mk 3 s 0 [t]]) m
def declM (F i : Nat) : Res Nd :=
 if tIs L ⟨#[115, 116, 114, 117, 99, 116]⟩ i = true then (nameM L (i + 1)).bind fun s j => (needM L ⟨#[123]⟩ j).bind fun _ k => (fieldsM L F (L.length + 1) [] k).bind fun l m => .ok (.mk 2 s 0 l) m
 else if tIs L ⟨#[101, 120, 116, 101, 114, 110]⟩ i = true then (typM L F (i + 1)).bind fun t j => (nameM L j).bind fun s k =>
  if tIs L ⟨#[40]⟩ k = true then (listM L (paramM L F) true k).bind fun x m => closedM L (.mk 4 s (flagN x.2) (x.1 ++ [t])) m
  else closedM L (.mk 5 s 0 [t]) k
 else
  let st := tIs L ⟨#[115, 116, 97, 116, 105, 99]⟩ i
  let i0 := if st = true then i + 1 else i
  (typM L F i0).bind fun t j => (nameM L j).bind fun s k =>
  if tIs L ⟨#[40]⟩ k = true then (listM L (paramM L F) true k).bind fun x m => (blockF L F m).bind fun b o => .ok (.mk 7 s (flagN st + 2 * flagN x.2) (x.1 ++ [t, b])) o
  else (needM L ⟨#[61]⟩ k).bind fun _ m =>
   let less := tIs L ⟨#[45]⟩ m
   let m0 := if less = true then m + 1 else m
   (numM L m0).bind fun x o => closedM L (.mk 6 s (flagN st) [t, if less = true then .mk x.k x.t (-x.num) x.kids else x]) o
def unitM (F : Nat) : Nat → List Nd → Nat → Res Nd
 | 0, _, _ => .dry
 | n + 1, l, i => if i < L.length then (declM L F i).bind fun x j => unitM F n (l ++ [x]) j else .ok (.mk 1 ⟨#[]⟩ 0 l) i
end
end Go.Proofs.YtgegfbopogcjpaaGreatDoor
namespace Go.Proofs.YtgegfbopogcjpaaGreatDoor
open Go.RowKit
set_option linter.unusedVariables false
set_option linter.unusedSimpArgs false
set_option maxRecDepth 100000
theorem lexLetter_any (c : Int) (w : World) : Calls Tryz.prog 64 #[.int .u8 c] w fun e w' => e = .returned (.bool (letterI c)) ∧ w' = w := by
 go_enter Tryz.func64, Tryz.ntmps64
 go_wp2
 all_goals go_ret
 all_goals refine ⟨?_, rfl⟩
 all_goals
  have e1 : letterI c = ((decide (97 ≤ c) && decide (c ≤ 122)) || (decide (65 ≤ c) && decide (c ≤ 90))) := rfl
  rw [e1]
  simp_all <;> (try omega)
theorem lexDigit_any (c : Int) (w : World) : Calls Tryz.prog 66 #[.int .u8 c] w fun e w' => e = .returned (.bool (digitI c)) ∧ w' = w := by
 go_enter Tryz.func66, Tryz.ntmps66
 go_wp2
 all_goals go_ret
 all_goals refine ⟨?_, rfl⟩
 all_goals
  have e1 : digitI c = (decide (48 ≤ c) && decide (c ≤ 57)) := rfl
  rw [e1]
  simp_all <;> (try omega)
theorem chr_or (c : Int) : chrI c = ((letterI c || digitI c) || c == 95) := by
 unfold chrI digitI
 cases letterI c <;> cases (c == 95) <;> simp
theorem chr_any (c : Int) (w : World) : Calls Tryz.prog 65 #[.int .u8 c] w fun e w' => e = .returned (.bool (chrI c)) ∧ w' = w := by
 go_enter Tryz.func65, Tryz.ntmps65
 go_wp2_with (first
  | (go_at_call 64; refine (lexLetter_any _ _).mono ?_; rintro e w' ⟨rfl, hw⟩; subst hw)
  | (go_at_call 66; refine (lexDigit_any _ _).mono ?_; rintro e w' ⟨rfl, hw⟩; subst hw))
 all_goals go_ret
 all_goals refine ⟨?_, rfl⟩
 all_goals
  rw [chr_or]
  simp_all
theorem blank_any (c : Int) (w : World) : Calls Tryz.prog 62 #[.int .u8 c] w fun e w' => e = .returned (.bool (blankI c)) ∧ w' = w := by
 go_enter Tryz.func62, Tryz.ntmps62
 go_wp2
 all_goals go_ret
 all_goals refine ⟨?_, rfl⟩
 all_goals
  have e1 : blankI c = (c == 32 || c == 10) := rfl
  rw [e1]
  simp_all
theorem line_any (c : Int) (w : World) : Calls Tryz.prog 63 #[.int .u8 c] w fun e w' => e = .returned (.bool (lineI c)) ∧ w' = w := by
 go_enter Tryz.func63, Tryz.ntmps63
 go_wp2
 all_goals go_ret
 all_goals refine ⟨?_, rfl⟩
 all_goals
  have e1 : lineI c = (c != 10) := rfl
  rw [e1]
  first | rfl | simp_all
def Scn (w : World) (g : Nat) (s : ByteArray) (k : Nat) (e p : Int) : Prop := Blk w g 63 #[.string s, .int .i64 k, .int .i64 e, .int .i64 p]
def Only (w w' : World) (g : Nat) : Prop := w.grownBy w' (some g) ∧ w'.heap.size = w.heap.size
theorem Only.refl_ (w : World) (g : Nat) : Only w w g := ⟨World.grownBy.refl w _, rfl⟩
theorem Only.trans_ {a b c : World} {g : Nat} (h : Only a b g) (k : Only b c g) : Only a c g :=
 ⟨⟨k.1.os.trans h.1.os, k.1.tape.trans h.1.tape, k.1.output.trans h.1.output, Nat.le_trans h.1.size k.1.size, fun i hi hn => (k.1.block i (Nat.lt_of_lt_of_le hi h.1.size) hn).trans (h.1.block i hi hn)⟩, k.2.trans h.2⟩
theorem Only.drewN_ {a w : World} {g : Nat} (h : Only a w g) (n : Nat) : Only a (w.drewN n) g := ⟨⟨h.1.os, h.1.tape, h.1.output, h.1.size, h.1.block⟩, h.2⟩
theorem Only.set_ {a w : World} {g : Nat} (h : Only a w g) (o : Nat) (u : Value) : Only a (w.setCell ⟨g, o, none⟩ u) g :=
 ⟨⟨h.1.os, h.1.tape, h.1.output, by simpa [World.setCell] using h.1.size, fun i hi hne => (Below.heap_setCell w ⟨g, o, none⟩ u i (fun e => hne (by rw [e]))).trans (h.1.block i hi hne)⟩, by rw [← h.2]; simp [World.setCell]⟩
def scanLeft (s : ByteArray) (g : Nat) (w : World) : Nat := match w.cell? ⟨g, 1, none⟩ with
 | some (.int _ j) => s.size - j.toNat
 | _ => 0
theorem scanLeft_at {s : ByteArray} {g : Nat} {w : World} {j : Nat} (h : w.cell? ⟨g, 1, none⟩ = some (.int .i64 j)) : scanLeft s g w = s.size - j := by
 unfold scanLeft
 rw [h]
 simp
def RunOut (w : World) (g : Nat) (s : ByteArray) (k z : Nat) (ce cp : Int) (e : Ending) (w' : World) : Prop := e = .returned (.string (s.extract k z)) ∧ Scn w' g s z ce cp ∧ Only w w' g
theorem scn_set {w : World} {g j : Nat} {s : ByteArray} {e p : Int} (h : Scn w g s j e p) (n : Nat) : Scn ((w.drewN n).setCell ⟨g, 1, none⟩ (.int .i64 ((j : Int) + 1))) g s (j + 1) e p := by
 have := (Blk.drewN h n).set_ 1 (.int .i64 ((j : Int) + 1))
 exact this
theorem run_out {w wr : World} {g k j : Nat} {s : ByteArray} {ce cp : Int} {p : Int → Bool} (H : Hid (k ≤ j ∧ j ≤ s.size ∧ endOf s p j = endOf s p k ∧ Scn wr g s j ce cp ∧ Only w wr g)) (hz : endOf s p j = j) (n m : Nat) :
 RunOut w g s k (endOf s p k) ce cp (.returned (.string (s.extract k j))) ((wr.drewN n).drewN m) := by
 obtain ⟨-, -, h3, h4, h5⟩ := H.out
 rw [hz] at h3
 subst h3
 exact ⟨rfl, (Blk.drewN h4 n).drewN m, (h5.drewN_ n).drewN_ m⟩
theorem run_chr (g : Nat) (s : ByteArray) (k : Nat) (ce cp : Int) (w : World) (hk : k ≤ s.size) (hs : s.size ≤ 4000) (hb : Scn w g s k ce cp) :
 Calls Tryz.prog 61 #[.pointer (some ⟨g, 0, none⟩), .func (.func 65) #[] #[]] w (RunOut w g s k (endOf s chrI k) ce cp) := by
 have c0 := hb.cell 0 (.string s) rfl
 have c1 := hb.cell 1 (.int .i64 k) rfl
 have HB := Lib.hid hb
 clear hb
 have HE : Hid (∃ z, endOf s chrI k = z) := ⟨_, rfl⟩
 go_enter Tryz.func61, Tryz.ntmps61
 go_wp2_with fail
 go_loopw [] (fun wr => ∃ j : Nat, Hid (k ≤ j ∧ j ≤ s.size ∧ endOf s chrI j = endOf s chrI k ∧ Scn wr g s j ce cp ∧ Only w wr g)) (fun wr => scanLeft s g wr)
 case atStart => exact ⟨k, Lib.hid ⟨Nat.le_refl _, hk, rfl, HB.out, Only.refl_ _ _⟩⟩
 case round =>
  clear c0 c1
  obtain ⟨j, HJ⟩ := hrel
  have c0 := HJ.out.2.2.2.1.cell 0 (.string s) rfl
  have c1 := HJ.out.2.2.2.1.cell 1 (.int .i64 j) rfl
  have f1 := HJ.out.2.2.2.1.free 1
  have hj := HJ.out.2.1
  have hj0 : (0 : Int) ≤ (j : Int) := by omega
  have hkj := HJ.out.1
  by_cases hlt : j < s.size
  ·have g1 : decide ((j : Int) < (s.size : Int)) = true := by rw [decide_eq_true_eq]; omega
   have g2 : (j : Int) < (s.size : Int) := by omega
   rcases hp : chrI (byteI s j) with _ | _
   ·have hp' : chrI ((s[j]'hlt).toNat : Int) = false := by rw [← byteI_at hlt]; exact hp
    have HP := Lib.hid hp
    clear hp
    go_wp2_with fail
    go_quiet ((go_at_call 65; exact Calls.quiet_of_same (chr_any _ _)))
    go_wp2_with fail
    go_quiet (fail)
    go_wp2_with fail
    go_ret
    exact run_out HJ (endOf_stop fun _ => HP.out) _ _
   ·have hp' : chrI ((s[j]'hlt).toNat : Int) = true := by rw [← byteI_at hlt]; exact hp
    have HP := Lib.hid hp
    clear hp
    go_wp2_with fail
    go_quiet ((go_at_call 65; exact Calls.quiet_of_same (chr_any _ _)))
    go_wp2_with fail
    go_roundw
    case rel => exact ⟨j + 1, Lib.hid ⟨by omega, by omega, (endOf_go hlt HP.out).symm.trans HJ.out.2.2.1, scn_set HJ.out.2.2.2.1 _, (HJ.out.2.2.2.2.drewN_ _).set_ _ _⟩⟩
    case measure =>
     rw [scanLeft_at c1, scanLeft_at ((scn_set HJ.out.2.2.2.1 _).cell 1 (.int .i64 ((j + 1 : Nat) : Int)) rfl)]
     omega
  ·have g1 : decide ((j : Int) < (s.size : Int)) = false := by rw [decide_eq_false_iff_not]; omega
   go_wp2_with fail
   go_quiet (fail)
   go_wp2_with fail
   go_quiet (fail)
   go_wp2_with fail
   go_ret
   exact run_out HJ (endOf_stop fun h => absurd h hlt) _ _
theorem run_blank (g : Nat) (s : ByteArray) (k : Nat) (ce cp : Int) (w : World) (hk : k ≤ s.size) (hs : s.size ≤ 4000) (hb : Scn w g s k ce cp) :
 Calls Tryz.prog 61 #[.pointer (some ⟨g, 0, none⟩), .func (.func 62) #[] #[]] w (RunOut w g s k (endOf s blankI k) ce cp) := by
 have c0 := hb.cell 0 (.string s) rfl
 have c1 := hb.cell 1 (.int .i64 k) rfl
 have HB := Lib.hid hb
 clear hb
 have HE : Hid (∃ z, endOf s blankI k = z) := ⟨_, rfl⟩
 go_enter Tryz.func61, Tryz.ntmps61
 go_wp2_with fail
 go_loopw [] (fun wr => ∃ j : Nat, Hid (k ≤ j ∧ j ≤ s.size ∧ endOf s blankI j = endOf s blankI k ∧ Scn wr g s j ce cp ∧ Only w wr g)) (fun wr => scanLeft s g wr)
 case atStart => exact ⟨k, Lib.hid ⟨Nat.le_refl _, hk, rfl, HB.out, Only.refl_ _ _⟩⟩
 case round =>
  clear c0 c1
  obtain ⟨j, HJ⟩ := hrel
  have c0 := HJ.out.2.2.2.1.cell 0 (.string s) rfl
  have c1 := HJ.out.2.2.2.1.cell 1 (.int .i64 j) rfl
  have f1 := HJ.out.2.2.2.1.free 1
  have hj := HJ.out.2.1
  have hj0 : (0 : Int) ≤ (j : Int) := by omega
  have hkj := HJ.out.1
  by_cases hlt : j < s.size
  ·have g1 : decide ((j : Int) < (s.size : Int)) = true := by rw [decide_eq_true_eq]; omega
   have g2 : (j : Int) < (s.size : Int) := by omega
   rcases hp : blankI (byteI s j) with _ | _
   ·have hp' : blankI ((s[j]'hlt).toNat : Int) = false := by rw [← byteI_at hlt]; exact hp
    have HP := Lib.hid hp
    clear hp
    go_wp2_with fail
    go_quiet ((go_at_call 62; exact Calls.quiet_of_same (blank_any _ _)))
    go_wp2_with fail
    go_quiet (fail)
    go_wp2_with fail
    go_ret
    exact run_out HJ (endOf_stop fun _ => HP.out) _ _
   ·have hp' : blankI ((s[j]'hlt).toNat : Int) = true := by rw [← byteI_at hlt]; exact hp
    have HP := Lib.hid hp
    clear hp
    go_wp2_with fail
    go_quiet ((go_at_call 62; exact Calls.quiet_of_same (blank_any _ _)))
    go_wp2_with fail
    go_roundw
    case rel => exact ⟨j + 1, Lib.hid ⟨by omega, by omega, (endOf_go hlt HP.out).symm.trans HJ.out.2.2.1, scn_set HJ.out.2.2.2.1 _, (HJ.out.2.2.2.2.drewN_ _).set_ _ _⟩⟩
    case measure =>
     rw [scanLeft_at c1, scanLeft_at ((scn_set HJ.out.2.2.2.1 _).cell 1 (.int .i64 ((j + 1 : Nat) : Int)) rfl)]
     omega
  ·have g1 : decide ((j : Int) < (s.size : Int)) = false := by rw [decide_eq_false_iff_not]; omega
   go_wp2_with fail
   go_quiet (fail)
   go_wp2_with fail
   go_quiet (fail)
   go_wp2_with fail
   go_ret
   exact run_out HJ (endOf_stop fun h => absurd h hlt) _ _
theorem run_line (g : Nat) (s : ByteArray) (k : Nat) (ce cp : Int) (w : World) (hk : k ≤ s.size) (hs : s.size ≤ 4000) (hb : Scn w g s k ce cp) :
 Calls Tryz.prog 61 #[.pointer (some ⟨g, 0, none⟩), .func (.func 63) #[] #[]] w (RunOut w g s k (endOf s lineI k) ce cp) := by
 have c0 := hb.cell 0 (.string s) rfl
 have c1 := hb.cell 1 (.int .i64 k) rfl
 have HB := Lib.hid hb
 clear hb
 have HE : Hid (∃ z, endOf s lineI k = z) := ⟨_, rfl⟩
 go_enter Tryz.func61, Tryz.ntmps61
 go_wp2_with fail
 go_loopw [] (fun wr => ∃ j : Nat, Hid (k ≤ j ∧ j ≤ s.size ∧ endOf s lineI j = endOf s lineI k ∧ Scn wr g s j ce cp ∧ Only w wr g)) (fun wr => scanLeft s g wr)
 case atStart => exact ⟨k, Lib.hid ⟨Nat.le_refl _, hk, rfl, HB.out, Only.refl_ _ _⟩⟩
 case round =>
  clear c0 c1
  obtain ⟨j, HJ⟩ := hrel
  have c0 := HJ.out.2.2.2.1.cell 0 (.string s) rfl
  have c1 := HJ.out.2.2.2.1.cell 1 (.int .i64 j) rfl
  have f1 := HJ.out.2.2.2.1.free 1
  have hj := HJ.out.2.1
  have hj0 : (0 : Int) ≤ (j : Int) := by omega
  have hkj := HJ.out.1
  by_cases hlt : j < s.size
  ·have g1 : decide ((j : Int) < (s.size : Int)) = true := by rw [decide_eq_true_eq]; omega
   have g2 : (j : Int) < (s.size : Int) := by omega
   rcases hp : lineI (byteI s j) with _ | _
   ·have hp' : lineI ((s[j]'hlt).toNat : Int) = false := by rw [← byteI_at hlt]; exact hp
    have HP := Lib.hid hp
    clear hp
    go_wp2_with fail
    go_quiet ((go_at_call 63; exact Calls.quiet_of_same (line_any _ _)))
    go_wp2_with fail
    go_quiet (fail)
    go_wp2_with fail
    go_ret
    exact run_out HJ (endOf_stop fun _ => HP.out) _ _
   ·have hp' : lineI ((s[j]'hlt).toNat : Int) = true := by rw [← byteI_at hlt]; exact hp
    have HP := Lib.hid hp
    clear hp
    go_wp2_with fail
    go_quiet ((go_at_call 63; exact Calls.quiet_of_same (line_any _ _)))
    go_wp2_with fail
    go_roundw
    case rel => exact ⟨j + 1, Lib.hid ⟨by omega, by omega, (endOf_go hlt HP.out).symm.trans HJ.out.2.2.1, scn_set HJ.out.2.2.2.1 _, (HJ.out.2.2.2.2.drewN_ _).set_ _ _⟩⟩
    case measure =>
     rw [scanLeft_at c1, scanLeft_at ((scn_set HJ.out.2.2.2.1 _).cell 1 (.int .i64 ((j + 1 : Nat) : Int)) rfl)]
     omega
  ·have g1 : decide ((j : Int) < (s.size : Int)) = false := by rw [decide_eq_false_iff_not]; omega
   go_wp2_with fail
   go_quiet (fail)
   go_wp2_with fail
   go_quiet (fail)
   go_wp2_with fail
   go_ret
   exact run_out HJ (endOf_stop fun h => absurd h hlt) _ _
end Go.Proofs.YtgegfbopogcjpaaGreatDoor
namespace Go.Proofs.YtgegfbopogcjpaaGreatDoor
open Go.RowKit
set_option linter.unusedVariables false
set_option linter.unusedSimpArgs false
set_option maxRecDepth 100000
set_option maxHeartbeats 1000000
theorem results_none_ {fn : Func} (h : fn.results = #[]) (tmps : Array Value) (P : Program) (w : World) : (results fn tmps).run P w = .ok (.tuple #[]) w := by simp [results, h]
def BlOut (w : World) (g : Nat) (s : ByteArray) (z : Nat) (ce cp : Int) (e : Ending) (w' : World) : Prop := e = .returned (.tuple #[]) ∧ Scn w' g s z ce cp ∧ Only w w' g
def BlAt (w : World) (g : Nat) (s : ByteArray) (k j : Nat) (ce cp : Int) (w' : World) : Prop := j ≤ s.size ∧ skip s false j = skip s false k ∧ Scn w' g s j ce cp ∧ Only w w' g
def BlJ (w : World) (g : Nat) (s : ByteArray) (k : Nat) (ce cp : Int) (a : Act) (w' : World) : Prop := ∃ (j : Nat) (u2 u3 u4 u5 u6 u7 u8 u9 u10 u11 u12 u13 u14 u15 u16 u17 u18 u19 u20 u21 u22 u23 u24 u25 u26 u27 : Value), BlAt w g s k j ce cp w' ∧ a = { tmps := #[.pointer (some ⟨g, 0, none⟩), undef, u2, u3, u4, u5, u6, u7, u8, u9, u10, u11, u12, u13, u14, u15, u16, u17, u18, u19, u20, u21, u22, u23, u24, u25, u26, u27], defers := [] }
theorem blanks_any (g : Nat) (s : ByteArray) (k : Nat) (ce cp : Int) (w : World) (hk : k ≤ s.size) (hs : s.size ≤ 4000) (hb : Scn w g s k ce cp) :
 Calls Tryz.prog 22 #[.pointer (some ⟨g, 0, none⟩)] w (BlOut w g s (skip s false k) ce cp) := by
 have HB := Lib.hid hb
 clear hb
 go_enter Tryz.func22, Tryz.ntmps22
 go_wp2_with fail
 refine wp_scope_jumps 0 (BlJ w g s k ce cp) (fun _ wr => scanLeft s g wr) rfl ?_ ?_
 ·obtain ⟨j, hjk⟩ : ∃ j, j = k := ⟨k, rfl⟩
  have HJ : Hid (BlAt w g s k j ce cp w) := by subst hjk; exact ⟨hk, rfl, HB.out, Only.refl_ _ _⟩
  clear hjk
  go_wp2_with fail
  go_step3
  go_wp2_with fail
  refine (run_blank g s j ce cp _ HJ.out.1 hs HJ.out.2.2.1).mono ?_
  rintro e w1 ⟨rfl, hs1, ho1⟩
  have hj := HJ.out.1
  have hle : endOf s blankI j ≤ s.size := endOf_le hj
  have hge : j ≤ endOf s blankI j := endOf_ge
  have HS : Hid (skip s false (endOf s blankI j) = skip s false k) := by
   show _ = _
   rw [← skip_blanks]; exact HJ.out.2.1
  have HEND : Hid (endOf s blankI j < s.size → blankI (byteI s (endOf s blankI j)) = false) := fun h => endOf_end h
  have c0 := hs1.cell 0 (.string s) rfl
  have c1 := hs1.cell 1 (.int .i64 (endOf s blankI j : Nat)) rfl
  have HO1 := Lib.hid (HJ.out.2.2.2.trans_ ho1)
  have HS1 := Lib.hid hs1
  have HM : Hid (scanLeft s g w = s.size - j) := scanLeft_at (HJ.out.2.2.1.cell 1 (.int .i64 (j : Nat)) rfl)
  clear hs1 ho1
  generalize endOf s blankI j = j1 at *
  have hj0 : (0 : Int) ≤ (j1 : Int) := by omega
  by_cases hlt : j1 < s.size
  ·have g1 : decide ((j1 : Int) < (s.size : Int)) = true := by rw [decide_eq_true_eq]; omega
   have g2 : (j1 : Int) < (s.size : Int) := by omega
   rcases Bool.eq_false_or_eq_true (byteI s j1 == 35) with hp | hp
   ·have hp' : (((s[j1]'hlt).toNat : Int) == 35) = true := by rw [← byteI_at hlt]; exact hp
    have HP := Lib.hid hp
    clear hp
    go_wp2_with fail
    go_quiet (fail)
    go_wp2_with fail
    refine (run_line g s j1 ce cp _ hle hs (Blk.drewN HS1.out _)).mono ?_
    rintro e w2 ⟨rfl, hs2, ho2⟩
    have hgt : j1 < endOf s lineI j1 := by
     rw [endOf_go hlt (by have h := HP.out; rw [beq_iff_eq] at h; rw [h]; rfl)]
     exact endOf_ge
    have hle2 : endOf s lineI j1 ≤ s.size := endOf_le hle
    have HS2 : Hid (skip s false (endOf s lineI j1) = skip s false k) := by
     show _ = _
     rw [← skip_note hlt (by have h := HP.out; rwa [beq_iff_eq] at h)]; exact HS.out
    have HQ := Lib.hid hs2
    have HO2 := Lib.hid ((HO1.out.drewN_ _).trans_ ho2)
    clear hs2 ho2
    generalize endOf s lineI j1 = j2 at *
    go_wp2_with fail
    go_step3
    exact ⟨rfl, j2, _, _, _, _, _, _, _, _, _, _, _, _, _, _, _, _, _, _, _, _, _, _, _, _, _, _, ⟨hle2, HS2.out, HQ.out, HO2.out⟩, rfl⟩
   ·have hp' : (((s[j1]'hlt).toNat : Int) == 35) = false := by rw [← byteI_at hlt]; exact hp
    have HP := Lib.hid hp
    clear hp
    go_wp2_with fail
    go_quiet (fail)
    go_wp2_with fail
    simp only [Exit.jump]
    refine bodyPost_ret (results_none_ rfl _ _ _) rfl ?_
    have hz : skip s false j1 = j1 := skip_here hlt (HEND.out hlt) (by have h := HP.out; rwa [beq_eq_false_iff_ne] at h)
    have hkz := HS.out
    rw [hz] at hkz
    exact ⟨rfl, by rw [← hkz]; exact Blk.drewN HS1.out _, HO1.out.drewN_ _⟩
  ·have g1 : decide ((j1 : Int) < (s.size : Int)) = false := by rw [decide_eq_false_iff_not]; omega
   go_wp2_with fail
   go_quiet (fail)
   go_wp2_with fail
   simp only [Exit.jump]
   refine bodyPost_ret (results_none_ rfl _ _ _) rfl ?_
   have hz : skip s false j1 = j1 := skip_stop (fun h => absurd h hlt)
   have hkz := HS.out
   rw [hz] at hkz
   exact ⟨rfl, by rw [← hkz]; exact Blk.drewN HS1.out _, HO1.out.drewN_ _⟩
 ·rintro a wr ⟨j, u2, u3, u4, u5, u6, u7, u8, u9, u10, u11, u12, u13, u14, u15, u16, u17, u18, u19, u20, u21, u22, u23, u24, u25, u26, u27, HJ0, rfl⟩
  have HJ := Lib.hid HJ0
  clear HJ0
  go_wp2_with fail
  refine (run_blank g s j ce cp _ HJ.out.1 hs HJ.out.2.2.1).mono ?_
  rintro e w1 ⟨rfl, hs1, ho1⟩
  have hj := HJ.out.1
  have hle : endOf s blankI j ≤ s.size := endOf_le hj
  have hge : j ≤ endOf s blankI j := endOf_ge
  have HS : Hid (skip s false (endOf s blankI j) = skip s false k) := by
   show _ = _
   rw [← skip_blanks]; exact HJ.out.2.1
  have HEND : Hid (endOf s blankI j < s.size → blankI (byteI s (endOf s blankI j)) = false) := fun h => endOf_end h
  have c0 := hs1.cell 0 (.string s) rfl
  have c1 := hs1.cell 1 (.int .i64 (endOf s blankI j : Nat)) rfl
  have HO1 := Lib.hid (HJ.out.2.2.2.trans_ ho1)
  have HS1 := Lib.hid hs1
  have HM : Hid (scanLeft s g wr = s.size - j) := scanLeft_at (HJ.out.2.2.1.cell 1 (.int .i64 (j : Nat)) rfl)
  clear hs1 ho1
  generalize endOf s blankI j = j1 at *
  have hj0 : (0 : Int) ≤ (j1 : Int) := by omega
  by_cases hlt : j1 < s.size
  ·have g1 : decide ((j1 : Int) < (s.size : Int)) = true := by rw [decide_eq_true_eq]; omega
   have g2 : (j1 : Int) < (s.size : Int) := by omega
   rcases Bool.eq_false_or_eq_true (byteI s j1 == 35) with hp | hp
   ·have hp' : (((s[j1]'hlt).toNat : Int) == 35) = true := by rw [← byteI_at hlt]; exact hp
    have HP := Lib.hid hp
    clear hp
    go_wp2_with fail
    go_quiet (fail)
    go_wp2_with fail
    refine (run_line g s j1 ce cp _ hle hs (Blk.drewN HS1.out _)).mono ?_
    rintro e w2 ⟨rfl, hs2, ho2⟩
    have hgt : j1 < endOf s lineI j1 := by
     rw [endOf_go hlt (by have h := HP.out; rw [beq_iff_eq] at h; rw [h]; rfl)]
     exact endOf_ge
    have hle2 : endOf s lineI j1 ≤ s.size := endOf_le hle
    have HS2 : Hid (skip s false (endOf s lineI j1) = skip s false k) := by
     show _ = _
     rw [← skip_note hlt (by have h := HP.out; rwa [beq_iff_eq] at h)]; exact HS.out
    have HQ := Lib.hid hs2
    have HO2 := Lib.hid ((HO1.out.drewN_ _).trans_ ho2)
    clear hs2 ho2
    generalize endOf s lineI j1 = j2 at *
    go_wp2_with fail
    go_step3
    refine ⟨rfl, ⟨j2, _, _, _, _, _, _, _, _, _, _, _, _, _, _, _, _, _, _, _, _, _, _, _, _, _, _, ⟨hle2, HS2.out, HQ.out, HO2.out⟩, rfl⟩, ?_⟩
    have hm := HM.out
    show scanLeft s g w2 < scanLeft s g wr
    rw [hm, scanLeft_at (HQ.out.cell 1 (.int .i64 (j2 : Nat)) rfl)]
    omega
   ·have hp' : (((s[j1]'hlt).toNat : Int) == 35) = false := by rw [← byteI_at hlt]; exact hp
    have HP := Lib.hid hp
    clear hp
    go_wp2_with fail
    go_quiet (fail)
    go_wp2_with fail
    simp only [Exit.jump]
    refine bodyPost_ret (results_none_ rfl _ _ _) rfl ?_
    have hz : skip s false j1 = j1 := skip_here hlt (HEND.out hlt) (by have h := HP.out; rwa [beq_eq_false_iff_ne] at h)
    have hkz := HS.out
    rw [hz] at hkz
    exact ⟨rfl, by rw [← hkz]; exact Blk.drewN HS1.out _, HO1.out.drewN_ _⟩
  ·have g1 : decide ((j1 : Int) < (s.size : Int)) = false := by rw [decide_eq_false_iff_not]; omega
   go_wp2_with fail
   go_quiet (fail)
   go_wp2_with fail
   simp only [Exit.jump]
   refine bodyPost_ret (results_none_ rfl _ _ _) rfl ?_
   have hz : skip s false j1 = j1 := skip_stop (fun h => absurd h hlt)
   have hkz := HS.out
   rw [hz] at hkz
   exact ⟨rfl, by rw [← hkz]; exact Blk.drewN HS1.out _, HO1.out.drewN_ _⟩
end Go.Proofs.YtgegfbopogcjpaaGreatDoor
