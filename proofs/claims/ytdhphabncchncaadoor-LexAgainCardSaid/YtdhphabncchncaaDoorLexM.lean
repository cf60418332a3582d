/- Tokens in plain words: how far bytes of a kind go on, what is passed over, which token begins at a place, all tokens of a text. No program is in sight. -/
import Derived.Test.YtdhphabncchncaaDoorChr
namespace Go.Proofs.YtdhphabncchncaaDoor
set_option linter.unusedVariables false
/-- a token: its kind, its text, its first byte -/
structure Tok where
  k : Int
  s : ByteArray
  p : Nat
instance : Inhabited Tok := ⟨⟨0, ⟨#[]⟩, 0⟩⟩
def digitI (c : Int) : Bool := decide (48 ≤ c) && decide (c ≤ 57)
def blankI (c : Int) : Bool := c == 32 || c == 10
def endN (s : ByteArray) (p : Int → Bool) : Nat → Nat → Nat
  | 0, k => k
  | n + 1, k => if k < s.size ∧ p (byteI s k) = true then endN s p n (k + 1) else k
/-- from k on, how far bytes of a kind go on -/
def endOf (s : ByteArray) (p : Int → Bool) (k : Nat) : Nat := endN s p (s.size - k) k
section
variable {s : ByteArray} {p : Int → Bool} {k : Nat}
theorem endOf_go (h : k < s.size) (hp : p (byteI s k) = true) : endOf s p k = endOf s p (k + 1) := by
  unfold endOf
  rw [show s.size - k = (s.size - (k + 1)) + 1 by omega, endN, if_pos ⟨h, hp⟩]
theorem endOf_stop (h : k < s.size → p (byteI s k) = false) : endOf s p k = k := by
  unfold endOf
  cases e : s.size - k with
  | zero => rfl
  | succ n =>
    rw [endN, if_neg]
    rintro ⟨h1, h2⟩
    rw [h h1] at h2
    cases h2
theorem endN_ge (n : Nat) : ∀ k, k ≤ endN s p n k := by
  induction n with
  | zero => intro k; exact Nat.le_refl _
  | succ n ih =>
    intro k
    rw [endN]
    split
    · exact Nat.le_trans (Nat.le_succ k) (ih (k + 1))
    · exact Nat.le_refl _
theorem endOf_ge : k ≤ endOf s p k := endN_ge _ _
theorem endN_le (n : Nat) : ∀ k, k ≤ s.size → endN s p n k ≤ s.size := by
  induction n with
  | zero => intro k h; exact h
  | succ n ih =>
    intro k h
    rw [endN]
    split
    · rename_i h'; exact ih _ h'.1
    · exact h
theorem endOf_le (h : k ≤ s.size) : endOf s p k ≤ s.size := endN_le _ _ h
theorem endN_all (n : Nat) : ∀ k j, k ≤ j → j < endN s p n k → p (byteI s j) = true := by
  induction n with
  | zero => intro k j h1 h2; simp [endN] at h2; omega
  | succ n ih =>
    intro k j h1 h2
    rw [endN] at h2
    split at h2
    · rename_i h'
      rcases Nat.eq_or_lt_of_le h1 with e | e
      · subst e; exact h'.2
      · exact ih _ _ e h2
    · omega
theorem endOf_all {j : Nat} (h1 : k ≤ j) (h2 : j < endOf s p k) : p (byteI s j) = true := endN_all _ _ _ h1 h2
theorem endN_end (n : Nat) : ∀ k, s.size - k ≤ n → endN s p n k < s.size → p (byteI s (endN s p n k)) = false := by
  induction n with
  | zero => intro k h1 h2; simp [endN] at h2; omega
  | succ n ih =>
    intro k h1 h2
    rw [endN] at h2 ⊢
    by_cases h : k < s.size ∧ p (byteI s k) = true
    · rw [if_pos h] at h2 ⊢; exact ih _ (by omega) h2
    · rw [if_neg h] at h2 ⊢
      rcases hp : p (byteI s k) with _ | _
      · rfl
      · exact absurd ⟨h2, hp⟩ h
theorem endOf_end (h : endOf s p k < s.size) : p (byteI s (endOf s p k)) = false := endN_end _ _ (Nat.le_refl _) h
/-- who goes on from k to j and stops there -/
theorem endOf_is {j : Nat} (h1 : k ≤ j) (h2 : ∀ i, k ≤ i → i < j → p (byteI s i) = true) (hj : j ≤ s.size) (h3 : j < s.size → p (byteI s j) = false) : endOf s p k = j := by
  induction hn : j - k generalizing k with
  | zero => obtain rfl : k = j := by omega
            exact endOf_stop h3
  | succ n ih =>
    rw [endOf_go (by omega) (h2 k (Nat.le_refl _) (by omega))]
    exact ih (by omega) (fun i a b => h2 i (by omega) b) (by omega)
end
def noteI (note : Bool) (c : Int) : Bool := (note || c == 35) && c != 10
def passI (note : Bool) (c : Int) : Bool := note || blankI c || c == 35
def skipN (s : ByteArray) : Nat → Bool → Nat → Nat
  | 0, _, k => k
  | n + 1, note, k => if k < s.size ∧ passI note (byteI s k) = true then skipN s n (noteI note (byteI s k)) (k + 1) else k
/-- where blanks and notes end; 'note': in the middle of a note -/
def skip (s : ByteArray) (note : Bool) (k : Nat) : Nat := skipN s (s.size - k) note k
section
variable {s : ByteArray} {note : Bool} {k : Nat}
theorem skip_go (h : k < s.size) (hp : passI note (byteI s k) = true) : skip s note k = skip s (noteI note (byteI s k)) (k + 1) := by
  unfold skip
  rw [show s.size - k = (s.size - (k + 1)) + 1 by omega, skipN, if_pos ⟨h, hp⟩]
theorem skip_stop (h : k < s.size → passI note (byteI s k) = false) : skip s note k = k := by
  unfold skip
  cases e : s.size - k with
  | zero => rfl
  | succ n =>
    rw [skipN, if_neg]
    rintro ⟨h1, h2⟩
    rw [h h1] at h2
    cases h2
theorem skipN_ge (n : Nat) : ∀ note k, k ≤ skipN s n note k := by
  induction n with
  | zero => intro note k; exact Nat.le_refl _
  | succ n ih =>
    intro note k
    rw [skipN]
    split
    · exact Nat.le_trans (Nat.le_succ k) (ih _ (k + 1))
    · exact Nat.le_refl _
theorem skip_ge : k ≤ skip s note k := skipN_ge _ _ _
theorem skipN_le (n : Nat) : ∀ note k, k ≤ s.size → skipN s n note k ≤ s.size := by
  induction n with
  | zero => intro note k h; exact h
  | succ n ih =>
    intro note k h
    rw [skipN]
    split
    · rename_i h'; exact ih _ _ h'.1
    · exact h
theorem skip_le (h : k ≤ s.size) : skip s note k ≤ s.size := skipN_le _ _ _ h
/-- blanks are passed over -/
theorem skip_blanks : skip s false k = skip s false (endOf s blankI k) := by
  induction hn : s.size - k generalizing k with
  | zero => rw [endOf_stop (by omega)]
  | succ n ih =>
    rcases hb : blankI (byteI s k) with _ | _
    · rw [endOf_stop (fun _ => hb)]
    · rw [endOf_go (by omega) hb, skip_go (by omega) (by simp [passI, hb])]
      rw [show noteI false (byteI s k) = false from ?_]
      · exact ih (by omega)
      · simp only [blankI, Bool.or_eq_true, beq_iff_eq] at hb
        rcases hb with h | h <;> rw [h] <;> rfl
def lineI (c : Int) : Bool := c != 10
theorem skip_in_note : skip s true k = skip s false (endOf s lineI k) := by
  induction hn : s.size - k generalizing k with
  | zero => rw [endOf_stop (by omega), skip_stop (by omega), skip_stop (by omega)]
  | succ n ih =>
    rcases hb : lineI (byteI s k) with _ | _
    · have h10 : byteI s k = 10 := by simpa [lineI] using hb
      rw [endOf_stop (fun _ => hb), skip_go (by omega) (by simp [passI]), skip_go (note := false) (by omega) (by simp [passI, blankI, h10])]
      rw [h10]
      rfl
    · rw [endOf_go (by omega) hb, skip_go (by omega) (by simp [passI])]
      rw [show noteI true (byteI s k) = true from by simpa [noteI, lineI] using hb]
      exact ih (by omega)
/-- a note is passed over -/
theorem skip_note (h : k < s.size) (hc : byteI s k = 35) : skip s false k = skip s false (endOf s lineI k) := by
  rw [skip_go h (by simp [passI, hc]), show noteI false (byteI s k) = true from by rw [hc]; rfl, skip_in_note, ← endOf_go h (by rw [hc]; rfl)]
theorem skip_here (h : k < s.size) (h1 : blankI (byteI s k) = false) (h2 : ¬ byteI s k = 35) : skip s false k = k :=
  skip_stop fun _ => by simp [passI, h1, h2]
theorem skipN_end (n : Nat) : ∀ note k, s.size - k ≤ n → skipN s n note k < s.size → blankI (byteI s (skipN s n note k)) = false ∧ byteI s (skipN s n note k) ≠ 35 := by
  induction n with
  | zero => intro note k h1 h2; simp [skipN] at h2; omega
  | succ n ih =>
    intro note k h1 h2
    rw [skipN] at h2 ⊢
    by_cases h : k < s.size ∧ passI note (byteI s k) = true
    · rw [if_pos h] at h2 ⊢; exact ih _ _ (by omega) h2
    · rw [if_neg h] at h2 ⊢
      rcases hp : passI note (byteI s k) with _ | _
      · simp [passI] at hp
        exact ⟨hp.1.2, hp.2⟩
      · exact absurd ⟨h2, hp⟩ h
theorem skip_end (h : skip s note k < s.size) : blankI (byteI s (skip s note k)) = false ∧ byteI s (skip s note k) ≠ 35 := skipN_end _ _ _ (Nat.le_refl _) h
end
/-- a row of digits' number -/
def decL (l : List UInt8) : Nat := l.foldl (fun a b => 10 * a + (b.toNat - 48)) 0
def isLong (r : ByteArray) : Bool := byteI r (r.size - 1) == 76
def digitsOf (r : ByteArray) : ByteArray := if isLong r = true then r.extract 0 (r.size - 1) else r
def allDigits (d : ByteArray) : Bool := d.data.toList.all fun b => digitI b.toNat
def numMost (long : Bool) : Nat := if long = true then 9223372036854775807 else 2147483647
/-- of a row that begins with a digit: what is wrong -/
def numE (r : ByteArray) : Int :=
  if allDigits (digitsOf r) = false then 2
  else if 1 < (digitsOf r).size ∧ byteI (digitsOf r) 0 = 48 then 2
  else if numMost (isLong r) < decL (digitsOf r).data.toList then 6 else 0
def numK (r : ByteArray) : Int := if isLong r = true then 3 else 2
def oneSigns : List UInt8 := [123, 125, 40, 41, 59, 44, 46, 61, 60, 43, 45, 42, 47, 37, 38, 124, 94, 33]
def signI (c : Int) : Bool := oneSigns.any fun b => c == b.toNat
/-- how many bytes the sign at a place has; 0: there is none -/
def signLen (s : ByteArray) (j : Nat) : Nat :=
  if byteI s j = 46 ∧ byteI s (j + 1) = 46 ∧ byteI s (j + 2) = 46 then 3
  else if byteI s j = 61 ∧ byteI s (j + 1) = 61 then 2
  else if signI (byteI s j) = true then 1 else 0
/-- what begins at a place: what is wrong; kind, text, where it ends -/
structure TokR where
  e : Int
  k : Int
  t : ByteArray
  z : Nat
def tokAt (s : ByteArray) (j : Nat) : TokR :=
  if letterI (byteI s j) = true then ⟨if 16 < endOf s chrI j - j then 1 else 0, 1, s.extract j (endOf s chrI j), endOf s chrI j⟩
  else if digitI (byteI s j) = true then ⟨numE (s.extract j (endOf s chrI j)), numK (s.extract j (endOf s chrI j)), digitsOf (s.extract j (endOf s chrI j)), endOf s chrI j⟩
  else ⟨if signLen s j = 0 then 2 else 0, 4, s.extract j (j + signLen s j), j + signLen s j⟩
/-- all tokens from a place on, behind those that are known; what is wrong, and where -/
structure LexR where
  l : List Tok
  e : Int
  p : Nat
def lexN (s : ByteArray) : Nat → Bool → Nat → List Tok → LexR
  | 0, _, _, acc => ⟨acc, 0, 0⟩
  | n + 1, note, k, acc =>
    if skip s note k < s.size then
      if (tokAt s (skip s note k)).e = 0 then lexN s n false (tokAt s (skip s note k)).z (acc ++ [⟨(tokAt s (skip s note k)).k, (tokAt s (skip s note k)).t, skip s note k⟩])
      else ⟨[], (tokAt s (skip s note k)).e, skip s note k⟩
    else ⟨acc, 0, 0⟩
def lexA (s : ByteArray) (note : Bool) (k : Nat) (acc : List Tok) : LexR := lexN s (s.size - k + 1) note k acc
/-- what Scan answers -/
def lexOf (s : ByteArray) : LexR := if 4000 < s.size then ⟨[], 1, 0⟩ else lexA s false 0 []
theorem chr_of_letter {c : Int} (h : letterI c = true) : chrI c = true := by simp [chrI, h]
theorem chr_of_digit {c : Int} (h : digitI c = true) : chrI c = true := by
  simp only [digitI] at h
  simp [chrI, h]
section
variable {s : ByteArray} {note : Bool} {k j : Nat}
theorem endOf_gt (h : j < s.size) (hp : chrI (byteI s j) = true) : j < endOf s chrI j := by
  rw [endOf_go h hp]
  exact endOf_ge
theorem signLen_le : signLen s j ≤ 3 := by
  unfold signLen
  repeat' split
  all_goals omega
theorem tokAt_gt (h : j < s.size) (he : (tokAt s j).e = 0) : j < (tokAt s j).z := by
  unfold tokAt at he ⊢
  by_cases h1 : letterI (byteI s j) = true
  · rw [if_pos h1]; exact endOf_gt h (chr_of_letter h1)
  · rw [if_neg h1] at he ⊢
    by_cases h2 : digitI (byteI s j) = true
    · rw [if_pos h2]; exact endOf_gt h (chr_of_digit h2)
    · rw [if_neg h2] at he ⊢
      simp only at he ⊢
      by_cases h0 : signLen s j = 0
      · rw [if_pos h0] at he; cases he
      · omega
theorem lexN_more (n : Nat) : ∀ m note k acc, s.size - k + 1 ≤ n → n ≤ m → lexN s m note k acc = lexN s n note k acc := by
  induction n with
  | zero => intro m note k acc h; omega
  | succ n ih =>
    intro m note k acc h1 h2
    obtain ⟨m, rfl⟩ : ∃ m', m = m' + 1 := ⟨m - 1, by omega⟩
    rw [lexN, lexN]
    split
    · rename_i hlt
      split
      · rename_i he
        have hgt := tokAt_gt hlt he
        have hge := skip_ge (s := s) (note := note) (k := k)
        rw [ih m false _ _ (by omega) (by omega)]
      · rfl
    · rfl
theorem lexA_end (h : ¬ skip s note k < s.size) (acc : List Tok) : lexA s note k acc = ⟨acc, 0, 0⟩ := by
  unfold lexA
  rw [lexN, if_neg h]
theorem lexA_bad (h : skip s note k < s.size) (he : ¬ (tokAt s (skip s note k)).e = 0) (acc : List Tok) : lexA s note k acc = ⟨[], (tokAt s (skip s note k)).e, skip s note k⟩ := by
  unfold lexA
  rw [lexN, if_pos h, if_neg he]
theorem lexA_one (h : skip s note k < s.size) (he : (tokAt s (skip s note k)).e = 0) (acc : List Tok) :
    lexA s note k acc = lexA s false (tokAt s (skip s note k)).z (acc ++ [⟨(tokAt s (skip s note k)).k, (tokAt s (skip s note k)).t, skip s note k⟩]) := by
  unfold lexA
  rw [lexN, if_pos h, if_pos he]
  have hgt := tokAt_gt h he
  have hge := skip_ge (s := s) (note := note) (k := k)
  exact lexN_more _ _ _ _ _ (Nat.le_refl _) (by omega)
/-- who passes over a byte goes on behind it -/
theorem lexA_pass (h : k < s.size) (hp : passI note (byteI s k) = true) (acc : List Tok) : lexA s note k acc = lexA s (noteI note (byteI s k)) (k + 1) acc := by
  by_cases hlt : skip s note k < s.size
  · have e := skip_go h hp
    by_cases he : (tokAt s (skip s note k)).e = 0
    · rw [lexA_one hlt he]
      rw [e] at hlt he ⊢
      rw [lexA_one hlt he]
    · rw [lexA_bad hlt he]
      rw [e] at hlt he ⊢
      rw [lexA_bad hlt he]
  · rw [lexA_end hlt]
    rw [skip_go h hp] at hlt
    rw [lexA_end hlt]
theorem lexA_skip (acc : List Tok) : lexA s false k acc = lexA s false (skip s false k) acc := by
  have hs : skip s false (skip s false k) = skip s false k := by
    by_cases h : skip s false k < s.size
    · obtain ⟨h1, h2⟩ := skip_end h
      exact skip_here h h1 h2
    · exact skip_stop fun h' => absurd h' h
  by_cases hlt : skip s false k < s.size
  · by_cases he : (tokAt s (skip s false k)).e = 0
    · rw [lexA_one hlt he, lexA_one (k := skip s false k) (by rw [hs]; exact hlt) (by rw [hs]; exact he), hs]
    · rw [lexA_bad hlt he, lexA_bad (k := skip s false k) (by rw [hs]; exact hlt) (by rw [hs]; exact he), hs]
  · rw [lexA_end hlt, lexA_end (by rw [hs]; exact hlt)]
end
end Go.Proofs.YtdhphabncchncaaDoor
