/- Tokens written one behind the other, with a blank between, are read as the same. No program is in sight. -/
import Derived.Test.YtdhphabncchncaaDoorLexK
namespace Go.Proofs.YtdhphabncchncaaDoor
set_option linter.unusedVariables false
set_option linter.unusedSimpArgs false
theorem size_list (s : ByteArray) : s.data.toList.length = s.size := Array.length_toList
def TokOk (k : Int) (s : ByteArray) : Prop :=
  (k = 1 ∧ 1 ≤ s.size ∧ s.size ≤ 16 ∧ letterI (byteI s 0) = true ∧ ∀ i, i < s.size → chrI (byteI s i) = true) ∨
  ((k = 2 ∨ k = 3) ∧ 1 ≤ s.size ∧ allDigits s = true ∧ ¬(1 < s.size ∧ byteI s 0 = 48) ∧ ¬ numMost (k == 3) < decL s.data.toList) ∨
  (k = 4 ∧ (s = ⟨#[46, 46, 46]⟩ ∨ s = ⟨#[61, 61]⟩ ∨ ∃ b : UInt8, s = ⟨#[b]⟩ ∧ signI b.toNat = true))
def tail3 (k : Int) : List UInt8 := if k = 3 then [76] else []
def rendT (k : Int) (s : ByteArray) : List UInt8 := s.data.toList ++ tail3 k ++ [32]
def rendL (l : List Tok) : List UInt8 := l.flatMap fun t => rendT t.k t.s
theorem extract_all {s : ByteArray} {j z i : Nat} (hz : z ≤ s.size) (h : i < z - j) : byteI (s.extract j z) i = byteI s (j + i) := byteI_extract (by omega) hz
theorem tokAt_ok {s : ByteArray} {j : Nat} (hj : j < s.size) (he : (tokAt s j).e = 0) : TokOk (tokAt s j).k (tokAt s j).t ∧ (tokAt s j).t.size + (tail3 (tokAt s j).k).length = (tokAt s j).z - j := by
  unfold tokAt at he ⊢
  by_cases h1 : letterI (byteI s j) = true
  · rw [if_pos h1] at he ⊢
    have hgt := endOf_gt hj (chr_of_letter h1)
    have hle : endOf s chrI j ≤ s.size := endOf_le (by omega)
    have hsz : (s.extract j (endOf s chrI j)).size = endOf s chrI j - j := by rw [ByteArray.size_extract]; omega
    have h16 : ¬ 16 < endOf s chrI j - j := by
      intro h
      simp only [h, if_true] at he
      cases he
    refine ⟨.inl ⟨rfl, by simp only [hsz]; omega, by simp only [hsz]; omega, by simp only; rw [extract_all hle (by omega)]; exact h1, ?_⟩, by simp only [hsz, tail3]; simp⟩
    intro i hi
    simp only [hsz] at hi
    simp only
    rw [extract_all hle (by omega)]
    exact endOf_all (k := j) (by omega) (by omega)
  · rw [if_neg h1] at he ⊢
    by_cases h2 : digitI (byteI s j) = true
    · rw [if_pos h2] at he ⊢
      have hgt := endOf_gt hj (chr_of_digit h2)
      have hle : endOf s chrI j ≤ s.size := endOf_le (by omega)
      have hsz : (s.extract j (endOf s chrI j)).size = endOf s chrI j - j := by rw [ByteArray.size_extract]; omega
      have h0 : digitI (byteI (s.extract j (endOf s chrI j)) 0) = true := by rw [extract_all hle (by omega)]; exact h2
      simp only at he ⊢
      generalize s.extract j (endOf s chrI j) = r at *
      obtain ⟨p1, p2, p3⟩ := digitsOf_pos (by omega) h0
      have hk : (numK r == 3) = isLong r := by unfold numK; cases isLong r <;> rfl
      have hlen : (digitsOf r).size + (tail3 (numK r)).length = endOf s chrI j - j := by
        unfold digitsOf numK tail3
        cases hl : isLong r
        · simp; omega
        · simp; omega
      refine ⟨.inr (.inl ⟨?_, p1, ?_, ?_, ?_⟩), hlen⟩
      · unfold numK; cases isLong r
        · exact .inl rfl
        · exact .inr rfl
      · rcases ha : allDigits (digitsOf r) with _ | _
        · rw [numE_form ha] at he; cases he
        · rfl
      · intro hn
        have ha : allDigits (digitsOf r) = true := by
          rcases ha : allDigits (digitsOf r) with _ | _
          · rw [numE_form ha] at he; cases he
          · rfl
        rw [numE_nought ha hn.1 hn.2] at he
        cases he
      · intro hm
        rw [hk] at hm
        have ha : allDigits (digitsOf r) = true := by
          rcases ha : allDigits (digitsOf r) with _ | _
          · rw [numE_form ha] at he; cases he
          · rfl
        by_cases hn : 1 < (digitsOf r).size ∧ byteI (digitsOf r) 0 = 48
        · rw [numE_nought ha hn.1 hn.2] at he; cases he
        · rw [numE_range ha hn hm] at he; cases he
    · rw [if_neg h2] at he ⊢
      have hsz := signText_size hj
      have hs0 : signLen s j ≠ 0 := by
        intro h
        simp only [h, if_true] at he
        cases he
      simp only
      refine ⟨.inr (.inr ⟨rfl, ?_⟩), by rw [hsz]; simp [tail3]⟩
      rw [signLen_eq] at hs0 ⊢
      rcases hd : dots s j with _ | _
      · rcases hq : eqs s j with _ | _
        · rcases hg : signI (byteI s j) with _ | _
          · exfalso; apply hs0; rw [hd, hq, hg]; rfl
          · refine .inr (.inr ⟨s[j]'hj, ?_, by rw [← byteI_at hj]; exact hg⟩)
            simp only [Bool.false_eq_true, if_false, if_true]
            exact extract_one hj
        · exact .inr (.inl (by simp only [Bool.false_eq_true, if_false, if_true]; exact (eqs_size hq).2))
      · exact .inl (by simp only [if_true]; exact (dots_size hd).2)
/-- every token that is read may be one, and they are no longer than what they were read from -/
theorem lexN_ok (s : ByteArray) (n : Nat) : ∀ note k acc, k ≤ s.size → (∀ t ∈ acc, TokOk t.k t.s) → (lexN s n note k acc).e = 0 →
    (∀ t ∈ (lexN s n note k acc).l, TokOk t.k t.s) ∧ (rendL (lexN s n note k acc).l).length ≤ (rendL acc).length + 2 * (s.size - k) := by
  induction n with
  | zero => intro note k acc hk h _; simp only [lexN]; exact ⟨h, by omega⟩
  | succ n ih =>
    intro note k acc hk h he
    rw [lexN] at he ⊢
    by_cases hlt : skip s note k < s.size
    · rw [if_pos hlt] at he ⊢
      by_cases h0 : (tokAt s (skip s note k)).e = 0
      · rw [if_pos h0] at he ⊢
        have hge := skip_ge (s := s) (note := note) (k := k)
        have hgt := tokAt_gt hlt h0
        have hle := tokAt_le hlt
        obtain ⟨o1, o2⟩ := tokAt_ok hlt h0
        obtain ⟨i1, i2⟩ := ih false (tokAt s (skip s note k)).z (acc ++ [⟨(tokAt s (skip s note k)).k, (tokAt s (skip s note k)).t, skip s note k⟩]) hle (by
          intro t ht
          rcases List.mem_append.1 ht with ht | ht
          · exact h t ht
          · rw [List.mem_singleton] at ht; subst ht; exact o1) he
        refine ⟨i1, Nat.le_trans i2 ?_⟩
        have : (rendL (acc ++ [⟨(tokAt s (skip s note k)).k, (tokAt s (skip s note k)).t, skip s note k⟩])).length = (rendL acc).length + ((tokAt s (skip s note k)).z - skip s note k + 1) := by
          unfold rendL
          rw [List.flatMap_append, List.length_append, ← o2]
          simp only [List.flatMap_cons, List.flatMap_nil, List.append_nil, rendT, List.length_append, size_list, List.length_singleton]
        omega
      · rw [if_neg h0] at he
        exact absurd he h0
    · rw [if_neg hlt]
      exact ⟨h, by simp only; omega⟩
theorem byteI_list (S : ByteArray) (k : Nat) : byteI S k = match S.data.toList[k]? with
    | some b => (b.toNat : Int)
    | none => 0 := by
  by_cases h : k < S.size
  · rw [byteI_at h, List.getElem?_eq_getElem (by rw [Array.length_toList]; exact h), Array.getElem_toList]
    rfl
  · rw [byteI_none (by omega), List.getElem?_eq_none (by rw [Array.length_toList]; show S.size ≤ _; omega)]
theorem byte_drop {S : ByteArray} {p i : Nat} {L : List UInt8} (h : S.data.toList.drop p = L) : byteI S (p + i) = match L[i]? with
    | some b => (b.toNat : Int)
    | none => 0 := by
  rw [byteI_list, ← h, List.getElem?_drop]
theorem extract_drop {S : ByteArray} {p n : Nat} {a b : List UInt8} (h : S.data.toList.drop p = a ++ b) (hn : n = a.length) : S.extract p (p + n) = ⟨a.toArray⟩ := by
  rw [Lib.extract_eq, h, show p + n - p = n by omega, hn, List.take_left]
theorem mk_list (s : ByteArray) : (⟨s.data.toList.toArray⟩ : ByteArray) = s := Lib.mk_data s
/-- a token that may be, a blank behind it, is read as itself -/
theorem tokAt_back {S : ByteArray} {p : Nat} {k : Int} {s : ByteArray} {L : List UInt8} (ho : TokOk k s) (hd : S.data.toList.drop p = rendT k s ++ L) :
    tokAt S p = ⟨0, k, s, p + (s.size + (tail3 k).length)⟩ ∧ p + (s.size + (tail3 k).length) < S.size ∧ byteI S (p + (s.size + (tail3 k).length)) = 32 ∧ byteI S p ≠ 35 ∧ blankI (byteI S p) = false := by
  have hlen : p + (s.size + (tail3 k).length + 1 + L.length) = S.size ∨ S.size < p := by
    have := congrArg List.length hd
    rw [List.length_drop, size_list] at this
    simp only [rendT, List.length_append, size_list, List.length_singleton] at this
    omega
  have hpS : p + (s.size + (tail3 k).length + 1 + L.length) = S.size := by
    rcases hlen with h | h
    · exact h
    · have := congrArg List.length hd
      rw [List.length_drop, size_list] at this
      simp only [rendT, List.length_append, size_list, List.length_singleton] at this
      omega
  have hat : ∀ i, i < s.size → byteI S (p + i) = byteI s i := fun i hi => by
    rw [byte_drop hd, byteI_list s i]
    rw [show rendT k s ++ L = s.data.toList ++ (tail3 k ++ [32] ++ L) by simp [rendT], List.getElem?_append_left (by rw [size_list]; exact hi)]
  have h32 : byteI S (p + (s.size + (tail3 k).length)) = 32 := by
    rw [byte_drop hd, show rendT k s ++ L = (s.data.toList ++ tail3 k) ++ (32 :: L) by simp [rendT], List.getElem?_append_right (by simp [size_list])]
    simp [size_list]
  have h3 : k = 3 → byteI S (p + s.size) = 76 := fun hk => by
    rw [byte_drop hd, show rendT k s ++ L = s.data.toList ++ (76 :: 32 :: L) by simp [rendT, tail3, hk], List.getElem?_append_right (by simp [size_list])]
    simp [size_list]
  have hn32 : chrI 32 = false := rfl
  rcases ho with ⟨rfl, a1, a2, a3, a4⟩ | ⟨hk, a1, a2, a3, a4⟩ | ⟨rfl, a1⟩
  · -- a word
    have ht : (tail3 1).length = 0 := rfl
    rw [ht, Nat.add_zero] at hpS h32 ⊢
    have h0 : byteI S p = byteI s 0 := hat 0 a1
    have hend : endOf S chrI p = p + s.size := endOf_is (by omega) (fun i h1 h2 => by
      obtain ⟨d, rfl⟩ : ∃ d, i = p + d := ⟨i - p, by omega⟩
      rw [hat d (by omega)]; exact a4 d (by omega)) (by omega) (fun _ => by rw [h32]; rfl)
    have hex : S.extract p (p + s.size) = s := by
      have := extract_drop (S := S) (p := p) (n := s.size) (a := s.data.toList) (b := tail3 1 ++ [32] ++ L) (by rw [hd]; simp [rendT]) (size_list s).symm
      rw [this, mk_list]
    refine ⟨?_, by omega, h32, ?_, ?_⟩
    · unfold tokAt
      rw [h0, if_pos a3, hend, hex, if_neg (by omega)]
    · rw [h0]; intro h; rw [h] at a3; cases a3
    · rw [h0]
      rcases hb : blankI (byteI s 0) with _ | _
      · rfl
      · simp only [blankI, Bool.or_eq_true, beq_iff_eq] at hb
        rcases hb with h | h <;> rw [h] at a3 <;> cases a3
  · -- a number
    have hdg : ∀ i, i < s.size → digitI (byteI s i) = true := allDigits_iff.1 a2
    have h0 : byteI S p = byteI s 0 := hat 0 a1
    have hd0 := hdg 0 a1
    have hnl : letterI (byteI s 0) = false := by
      rcases hl : letterI (byteI s 0) with _ | _
      · rfl
      · simp only [digitI, letterI, Bool.and_eq_true, Bool.or_eq_true, decide_eq_true_eq] at hl hd0
        omega
    have hend : endOf S chrI p = p + (s.size + (tail3 k).length) := endOf_is (by omega) (fun i h1 h2 => by
      obtain ⟨d, rfl⟩ : ∃ d, i = p + d := ⟨i - p, by omega⟩
      by_cases hds : d < s.size
      · rw [hat d hds]; exact chr_of_digit (hdg d hds)
      · have hk3 : k = 3 := by
          by_cases h3 : k = 3
          · exact h3
          · simp only [tail3, if_neg h3, List.length_nil] at h2; omega
        have : d = s.size := by simp only [tail3, if_pos hk3, List.length_singleton] at h2; omega
        subst this
        rw [h3 hk3]; rfl) (by omega) (fun _ => by rw [h32]; rfl)
    have hex : S.extract p (p + (s.size + (tail3 k).length)) = ⟨(s.data.toList ++ tail3 k).toArray⟩ := extract_drop (b := [32] ++ L) (by rw [hd]; simp [rendT]) (by simp [size_list])
    have hrow : numE ⟨(s.data.toList ++ tail3 k).toArray⟩ = 0 ∧ numK ⟨(s.data.toList ++ tail3 k).toArray⟩ = k ∧ digitsOf ⟨(s.data.toList ++ tail3 k).toArray⟩ = s := by
      rcases hk with rfl | rfl
      · have e : (⟨(s.data.toList ++ tail3 2).toArray⟩ : ByteArray) = s := by rw [show tail3 2 = [] from rfl, List.append_nil, mk_list]
        have hlong : isLong s = false := by
          unfold isLong
          have := hdg (s.size - 1) (by omega)
          rw [beq_eq_false_iff_ne]
          intro h
          rw [h] at this
          cases this
        have hD : digitsOf s = s := by unfold digitsOf; rw [hlong]; rfl
        rw [e]
        refine ⟨numE_ok (by rw [hD]; exact a2) (by rw [hD]; exact a3) (by rw [hD, hlong]; exact a4), ?_, hD⟩
        unfold numK; rw [hlong]; rfl
      · have ht3 : tail3 3 = [76] := rfl
        have hsz : (⟨(s.data.toList ++ tail3 3).toArray⟩ : ByteArray).size = s.size + 1 := by
          rw [← size_list]; simp [ht3, size_list]
        have hlong : isLong ⟨(s.data.toList ++ tail3 3).toArray⟩ = true := by
          unfold isLong
          rw [hsz, byteI_list, ht3, Nat.add_sub_cancel]
          simp only [List.toList_toArray]
          rw [List.getElem?_append_right (by rw [size_list]; exact Nat.le_refl _), size_list, Nat.sub_self]
          rfl
        have hD : digitsOf ⟨(s.data.toList ++ tail3 3).toArray⟩ = s := by
          unfold digitsOf
          rw [if_pos hlong, hsz, Nat.add_sub_cancel]
          have := extract_drop (S := ⟨(s.data.toList ++ tail3 3).toArray⟩) (p := 0) (n := s.size) (a := s.data.toList) (b := tail3 3) (by simp) (size_list s).symm
          rw [Nat.zero_add] at this
          rw [this, mk_list]
        refine ⟨numE_ok (by rw [hD]; exact a2) (by rw [hD]; exact a3) (by rw [hD, hlong]; exact a4), ?_, hD⟩
        unfold numK; rw [hlong]; rfl
    obtain ⟨r1, r2, r3⟩ := hrow
    refine ⟨?_, by omega, h32, ?_, ?_⟩
    · unfold tokAt
      rw [h0, if_neg (by rw [hnl]; simp), if_pos hd0, hend, hex, r1, r2, r3]
    · rw [h0]; intro h; rw [h] at hd0; cases hd0
    · rw [h0]
      rcases hb : blankI (byteI s 0) with _ | _
      · rfl
      · simp only [blankI, Bool.or_eq_true, beq_iff_eq] at hb
        rcases hb with h | h <;> rw [h] at hd0 <;> cases hd0
  · -- a sign
    have ht : (tail3 4).length = 0 := rfl
    rw [ht, Nat.add_zero] at hpS h32 ⊢
    have hex : S.extract p (p + s.size) = s := by
      have := extract_drop (S := S) (p := p) (n := s.size) (a := s.data.toList) (b := tail3 4 ++ [32] ++ L) (by rw [hd]; simp [rendT]) (size_list s).symm
      rw [this, mk_list]
    have key : ∀ c : Int, byteI S p = c → signI c = true → signLen S p = s.size → s.size ≠ 0 → tokAt S p = ⟨0, 4, s, p + s.size⟩ ∧ byteI S p ≠ 35 ∧ blankI (byteI S p) = false := fun c hc hs hl hz => by
      have hall : ∀ b ∈ oneSigns, letterI b.toNat = false ∧ digitI b.toNat = false ∧ (b.toNat : Int) ≠ 35 ∧ blankI b.toNat = false := by decide
      unfold signI at hs
      rw [List.any_eq_true] at hs
      obtain ⟨b, hb, he⟩ := hs
      rw [beq_iff_eq] at he
      obtain ⟨q1, q2, q3, q4⟩ := hall b hb
      rw [← he] at q1 q2 q3 q4
      refine ⟨?_, by rw [hc]; exact q3, by rw [hc]; exact q4⟩
      unfold tokAt
      rw [hc, if_neg (by rw [q1]; simp), if_neg (by rw [q2]; simp), hl, hex, if_neg hz]
    rcases a1 with rfl | rfl | ⟨b, rfl, hb⟩
    · have e0 : byteI S p = 46 := hat 0 (by decide)
      have e1 : byteI S (p + 1) = 46 := hat 1 (by decide)
      have e2 : byteI S (p + 2) = 46 := hat 2 (by decide)
      obtain ⟨k1, k2, k3⟩ := key 46 e0 rfl (by unfold signLen; rw [if_pos ⟨e0, e1, e2⟩]; rfl) (by decide)
      exact ⟨k1, by omega, h32, k2, k3⟩
    · have e0 : byteI S p = 61 := hat 0 (by decide)
      have e1 : byteI S (p + 1) = 61 := hat 1 (by decide)
      obtain ⟨k1, k2, k3⟩ := key 61 e0 rfl (by unfold signLen; rw [if_neg (by rw [e0]; omega), if_pos ⟨e0, e1⟩]; rfl) (by decide)
      exact ⟨k1, by omega, h32, k2, k3⟩
    · have e0 : byteI S p = b.toNat := by
        have := hat 0 (Nat.zero_lt_one)
        rw [show p + 0 = p from rfl] at this
        rw [this, byteI_list]; rfl
      have e1 : byteI S (p + 1) = 32 := h32
      obtain ⟨k1, k2, k3⟩ := key b.toNat e0 hb (by
        unfold signLen
        rw [if_neg (by rw [e1]; omega), if_neg (by rw [e1]; omega), e0, if_pos hb]; rfl) (Nat.one_ne_zero)
      exact ⟨k1, by omega, h32, k2, k3⟩
theorem lex_back (l : List Tok) : (∀ t ∈ l, TokOk t.k t.s) → ∀ (S : ByteArray) (p : Nat) (acc : List Tok), p ≤ S.size → S.data.toList.drop p = rendL l →
    ∃ l', lexA S false p acc = ⟨acc ++ l', 0, 0⟩ ∧ l'.map (fun t => (t.k, t.s)) = l.map (fun t => (t.k, t.s)) := by
  induction l with
  | nil =>
    intro _ S p acc hp hd
    have hpS : p = S.size := by
      have := congrArg List.length hd
      rw [List.length_drop, size_list] at this
      simp [rendL] at this
      omega
    refine ⟨[], ?_, rfl⟩
    rw [lexA_end (by have := skip_ge (s := S) (note := false) (k := p); omega), List.append_nil]
  | cons t l ih =>
    intro ho S p acc hp hd
    have hd' : S.data.toList.drop p = rendT t.k t.s ++ rendL l := by rw [hd]; rfl
    obtain ⟨b1, b2, b3, b4, b5⟩ := tokAt_back (ho t (by simp)) hd'
    have hpS : p < S.size := by omega
    have hsk : skip S false p = p := skip_here hpS b5 b4
    have hone := lexA_one (s := S) (note := false) (k := p) (by rw [hsk]; exact hpS) (by rw [hsk, b1]) acc
    rw [hsk, b1] at hone
    simp only at hone
    have hpass := lexA_pass (s := S) (note := false) b2 (by rw [b3]; rfl) (acc ++ [⟨t.k, t.s, p⟩])
    rw [b3, show noteI false 32 = false from rfl] at hpass
    obtain ⟨l', e1, e2⟩ := ih (fun t' ht' => ho t' (by simp [ht'])) S (p + (t.s.size + (tail3 t.k).length) + 1) (acc ++ [⟨t.k, t.s, p⟩]) (by omega) (by
      rw [show p + (t.s.size + (tail3 t.k).length) + 1 = p + (rendT t.k t.s).length by simp [rendT, size_list]; omega, ← List.drop_drop, hd', List.drop_left])
    refine ⟨⟨t.k, t.s, p⟩ :: l', ?_, by simp [e2]⟩
    rw [hone, hpass, e1]
    simp
/-- what is read of the tokens' text -/
theorem lex_again {s S : ByteArray} (hs : s.size ≤ 1333) (he : (lexOf s).e = 0) (hS : S.data.toList = rendL (lexOf s).l) :
    (lexOf S).e = 0 ∧ (lexOf S).l.map (fun t => (t.k, t.s)) = (lexOf s).l.map (fun t => (t.k, t.s)) := by
  have hL : lexOf s = lexA s false 0 [] := by unfold lexOf; rw [if_neg (by omega)]
  rw [hL] at he hS ⊢
  obtain ⟨h1, h2⟩ := lexN_ok s (s.size - 0 + 1) false 0 [] (Nat.zero_le _) (by simp) he
  have hsz : S.size ≤ 4000 := by
    rw [← size_list, hS]
    have : (rendL (lexA s false 0 []).l).length ≤ (rendL []).length + 2 * (s.size - 0) := h2
    simp only [rendL, List.flatMap_nil, List.length_nil] at this
    have e : rendL (lexA s false 0 []).l = (lexA s false 0 []).l.flatMap fun t => rendT t.k t.s := rfl
    rw [e]
    omega
  obtain ⟨l', e1, e2⟩ := lex_back (lexA s false 0 []).l h1 S 0 [] (Nat.zero_le _) hS
  have hLS : lexOf S = lexA S false 0 [] := by unfold lexOf; rw [if_neg (by omega)]
  rw [hLS, e1]
  exact ⟨rfl, e2⟩
theorem rend_len {s : ByteArray} (hs : s.size ≤ 1333) (he : (lexOf s).e = 0) : (rendL (lexOf s).l).length ≤ 4000 := by
  have hL : lexOf s = lexA s false 0 [] := by unfold lexOf; rw [if_neg (by omega)]
  rw [hL] at he ⊢
  obtain ⟨h1, h2⟩ := lexN_ok s (s.size - 0 + 1) false 0 [] (Nat.zero_le _) (by simp) he
  have : (rendL (lexA s false 0 []).l).length ≤ (rendL []).length + 2 * (s.size - 0) := h2
  simp only [rendL, List.flatMap_nil, List.length_nil] at this
  have e : rendL (lexA s false 0 []).l = (lexA s false 0 []).l.flatMap fun t => rendT t.k t.s := rfl
  rw [e]
  omega
end Go.Proofs.YtdhphabncchncaaDoor
