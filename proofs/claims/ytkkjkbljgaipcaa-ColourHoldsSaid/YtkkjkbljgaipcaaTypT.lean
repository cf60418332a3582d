/- Plain: a type's text; it tells the type. No program is in sight. -/
import Derived.Test.YtkkjkbljgaipcaaTypP
import Derived.Test.YtkkjkbljgaipcaaTypE
namespace Go.Proofs.Ytkkjkbljgaipcaa
set_option linter.unusedVariables false
set_option linter.unusedSimpArgs false
set_option maxRecDepth 100000
/-- the text of a struct's fields, out of their names and texts -/
def fieldsTx : List ByteArray → List (List UInt8) → List UInt8
  | n :: ns, t :: ts => t ++ 32 :: (n.data.toList ++ 59 :: fieldsTx ns ts)
  | _, _ => []
/-- the text of parameters: those that are named, whether there are many beyond; 'first': nothing has come yet -/
def paramsTx (many : Bool) : Bool → List (List UInt8) → List UInt8
  | first, [] => if many then (if first then [46, 46, 46] else [44, 46, 46, 46]) else []
  | first, t :: ts => (if first then t else 44 :: t) ++ paramsTx many false ts
mutual
def textT : Ty → List UInt8
  | .mk k nm ns ps many =>
    if k = 1 then [105, 110, 116]
    else if k = 2 then [108, 111, 110, 103]
    else if k = 3 then [115, 116, 114, 117, 99, 116, 32] ++ (nm.data.toList ++ 123 :: (fieldsTx ns (textL ps) ++ [125]))
    else if k = 4 then [102, 110, 40] ++ (paramsTx many true (textL ps).dropLast ++ 41 :: ((textL ps).getLast?.getD []))
    else []
def textL : List Ty → List (List UInt8)
  | [] => []
  | t :: ts => textT t :: textL ts
end
theorem textL_map : ∀ ts : List Ty, textL ts = ts.map textT
  | [] => by unfold textL; rfl
  | t :: ts => by unfold textL; rw [textL_map ts]; rfl
theorem textT_eq (T : Ty) : textT T = if T.k = 1 then [105, 110, 116] else if T.k = 2 then [108, 111, 110, 103]
    else if T.k = 3 then [115, 116, 114, 117, 99, 116, 32] ++ (T.nm.data.toList ++ 123 :: (fieldsTx T.ns (T.ps.map textT) ++ [125]))
    else if T.k = 4 then [102, 110, 40] ++ (paramsTx T.many true (T.ps.map textT).dropLast ++ 41 :: ((T.ps.map textT).getLast?.getD [])) else [] := by
  cases T
  unfold textT
  rw [textL_map]
  rfl
/-- a byte that a name does not hold splits the text behind the name -/
theorem split_at (c : UInt8) : ∀ (s w v r : List UInt8), c ∉ s → c ∉ w → s ++ c :: v = w ++ c :: r → s = w ∧ v = r
  | [], [], v, r, _, _, h => by simpa using h
  | [], d :: w, v, r, _, hw, h => by simp at h; exact absurd (by simp [h.1]) hw
  | d :: s, [], v, r, hs, _, h => by simp at h; exact absurd (by simp [h.1]) hs
  | e :: s, d :: w, v, r, hs, hw, h => by
    simp only [List.cons_append, List.cons.injEq] at h
    obtain ⟨h1, h2⟩ := split_at c s w v r (fun x => hs (by simp [x])) (fun x => hw (by simp [x])) h.2
    exact ⟨by rw [h.1, h1], h2⟩
/-- T's text, with whatever behind it, is read as T alone -/
def Reads (T : Ty) : Prop := ∀ (d : Nat) (U : Ty) (x y : List UInt8), mayT d U = true → textT T ++ x = textT U ++ y → T = U ∧ x = y
/-- a text's first byte -/
theorem text_head {d : Nat} {T : Ty} (h : mayT d T = true) : ∃ c r, textT T = c :: r ∧ (c = 105 ∨ c = 108 ∨ c = 115 ∨ c = 102) := by
  cases d with
  | zero => cases h
  | succ d =>
    rw [textT_eq]
    unfold mayT at h
    by_cases h1 : T.k = 1
    · rw [if_pos h1]; exact ⟨_, _, rfl, .inl rfl⟩
    · rw [if_neg h1]
      by_cases h2 : T.k = 2
      · rw [if_pos h2]; exact ⟨_, _, rfl, .inr (.inl rfl)⟩
      · rw [if_neg h2]
        by_cases h3 : T.k = 3
        · rw [if_pos h3]; exact ⟨_, _, rfl, .inr (.inr (.inl rfl))⟩
        · rw [if_neg h3]
          by_cases h4 : T.k = 4
          · rw [if_pos h4]; exact ⟨_, _, rfl, .inr (.inr (.inr rfl))⟩
          · rw [if_neg (by omega), if_neg h3, if_neg h4] at h; cases h
/-- what bytes a name holds -/
theorem name_bytes {s : ByteArray} (h : nameOf s = true) (c : UInt8) (hc : c ∈ s.data.toList) : chrI (c.toNat : Int) = true := by
  obtain ⟨h1, h2, h3, h4, -⟩ := name_false h
  obtain ⟨k, hk, rfl⟩ := List.getElem_of_mem hc
  have hk' : k < s.size := by simpa using hk
  have e : byteI s k = (((s.data.toList[k]'hk).toNat : Nat) : Int) := by
    rw [byteI_at hk']
    rfl
  rw [← e]
  by_cases h0 : k = 0
  · subst h0
    rw [chr_split, h3]
    rfl
  · exact h4 k (by omega) hk'
theorem no_byte {s : ByteArray} (h : nameOf s = true) (c : UInt8) (hc : chrI (c.toNat : Int) = false) : c ∉ s.data.toList := fun hm => by
  rw [name_bytes h c hm] at hc
  cases hc
theorem fields_read {d d' : Nat} : ∀ (ns ns' : List ByteArray) (ps ps' : List Ty) (x y : List UInt8), ns.length = ps.length → ns'.length = ps'.length → (∀ n ∈ ns, nameOf n = true) → (∀ n ∈ ns', nameOf n = true) →
    (∀ p ∈ ps, mayT d p = true ∧ Reads p) → (∀ p ∈ ps', mayT d' p = true) → fieldsTx ns (ps.map textT) ++ 125 :: x = fieldsTx ns' (ps'.map textT) ++ 125 :: y → ns = ns' ∧ ps = ps' ∧ x = y
  | [], [], [], [], x, y, _, _, _, _, _, _, h => by simpa [fieldsTx] using h
  | [], n :: ns', [], p :: ps', x, y, _, _, _, _, _, hp', h => by
    obtain ⟨c, r, hc, hcc⟩ := text_head (hp' p (by simp))
    simp [fieldsTx, hc] at h
    rcases hcc with e | e | e | e <;> (rw [e] at h; simp at h)
  | n :: ns, [], p :: ps, [], x, y, _, _, _, _, hp, _, h => by
    obtain ⟨c, r, hc, hcc⟩ := text_head (hp p (by simp)).1
    simp [fieldsTx, hc] at h
    rcases hcc with e | e | e | e <;> (rw [e] at h; simp at h)
  | n :: ns, n' :: ns', p :: ps, p' :: ps', x, y, hl, hl', hn, hn', hp, hp', h => by
    simp only [List.map_cons, fieldsTx, List.append_assoc, List.cons_append] at h
    obtain ⟨rfl, hq⟩ := (hp p (by simp)).2 _ _ _ _ (hp' p' (by simp)) h
    simp only [List.cons.injEq, true_and] at hq
    obtain ⟨h1, h2⟩ := split_at 59 _ _ _ _ (no_byte (hn n (by simp)) 59 (by decide)) (no_byte (hn' n' (by simp)) 59 (by decide)) hq
    obtain ⟨h3, h4, h5⟩ := fields_read ns ns' ps ps' x y (by simpa using hl) (by simpa using hl') (fun a ha => hn a (by simp [ha])) (fun a ha => hn' a (by simp [ha])) (fun a ha => hp a (by simp [ha])) (fun a ha => hp' a (by simp [ha])) h2
    have hb : n = n' := by
      cases n
      cases n'
      simp at h1
      rw [h1]
    exact ⟨by rw [hb, h3], by rw [h4], h5⟩
  | [], _ :: _, _ :: _, _, _, _, hl, _, _, _, _, _, _ => by simp at hl
  | _ :: _, _, [], _, _, _, hl, _, _, _, _, _, _ => by simp at hl
  | _, [], _, _ :: _, _, _, _, hl', _, _, _, _, _ => by simp at hl'
  | _, _ :: _, _, [], _, _, _, hl', _, _, _, _, _ => by simp at hl'
  | [], _, _ :: _, _, _, _, hl, _, _, _, _, _, _ => by simp at hl
theorem params_head {d : Nat} {p : Ty} (h : mayT d p = true) (m m' first : Bool) (ts : List (List UInt8)) (x y : List UInt8) : paramsTx m first [] ++ 41 :: x ≠ paramsTx m' first (textT p :: ts) ++ 41 :: y := by
  obtain ⟨c, r, hc, hcc⟩ := text_head h
  intro e
  cases m <;> cases first <;> simp [paramsTx, hc] at e <;> rcases hcc with h | h | h | h <;> (rw [h] at e; simp at e)
theorem params_read {d d' : Nat} : ∀ (m m' first : Bool) (ps ps' : List Ty) (x y : List UInt8), (∀ p ∈ ps, mayT d p = true ∧ Reads p) → (∀ p ∈ ps', mayT d' p = true) →
    paramsTx m first (ps.map textT) ++ 41 :: x = paramsTx m' first (ps'.map textT) ++ 41 :: y → ps = ps' ∧ m = m' ∧ x = y
  | m, m', first, [], [], x, y, _, _, h => by
    cases m <;> cases m' <;> cases first <;> simp [paramsTx] at h <;> exact ⟨rfl, rfl, h⟩
  | m, m', first, [], p' :: ps', x, y, _, hp', h => absurd h (params_head (hp' p' (by simp)) m m' first _ x y)
  | m, m', first, p :: ps, [], x, y, hp, _, h => absurd h.symm (params_head (hp p (by simp)).1 m' m first _ y x)
  | m, m', first, p :: ps, p' :: ps', x, y, hp, hp', h => by
    have hq : textT p ++ (paramsTx m false (ps.map textT) ++ 41 :: x) = textT p' ++ (paramsTx m' false (ps'.map textT) ++ 41 :: y) := by
      cases first <;> simpa [paramsTx] using h
    obtain ⟨rfl, hr⟩ := (hp p (by simp)).2 _ _ _ _ (hp' p' (by simp)) hq
    obtain ⟨h1, h2, h3⟩ := params_read m m' false ps ps' x y (fun a ha => hp a (by simp [ha])) (fun a ha => hp' a (by simp [ha])) hr
    exact ⟨by rw [h1], h2, h3⟩
theorem loop_len (bs : ByteArray) : ∀ (k i : Nat) (r : List UInt8), bs.size - i = k → (ByteArray.toList.loop bs i r).length = k + r.length
  | 0, i, r, h => by
    unfold ByteArray.toList.loop
    rw [if_neg (by omega)]
    simp
  | k + 1, i, r, h => by
    unfold ByteArray.toList.loop
    rw [if_pos (by omega), loop_len bs k (i + 1) _ (by omega)]
    simp
    omega
theorem empty_of {s : ByteArray} (h : s.toList.isEmpty = true) : s = ByteArray.empty := by
  have h1 : s.toList = [] := by simpa using h
  have h2 := loop_len s s.size 0 [] (by omega)
  have h3 : ByteArray.toList.loop s 0 [] = [] := h1
  rw [h3] at h2
  simp at h2
  obtain ⟨⟨l⟩⟩ := s
  have h4 : 0 = l.length := h2
  have : l = [] := List.eq_nil_of_length_eq_zero h4.symm
  subst this
  rfl
theorem ty_ext {T U : Ty} (h1 : T.k = U.k) (h2 : T.nm = U.nm) (h3 : T.ns = U.ns) (h4 : T.ps = U.ps) (h5 : T.many = U.many) : T = U := by
  cases T
  cases U
  simp only [Ty.k, Ty.nm, Ty.ns, Ty.ps, Ty.many] at *
  subst h1 h2 h3 h4 h5
  rfl
theorem bare_of {T : Ty} (h : bareT T = true) : T.nm = ByteArray.empty ∧ T.ns = [] := by
  simp only [bareT, Bool.and_eq_true] at h
  exact ⟨empty_of h.1, by simpa using h.2⟩
theorem may_kind {d : Nat} {T : Ty} (h : mayT (d + 1) T = true) : T.k = 1 ∨ T.k = 2 ∨ T.k = 3 ∨ T.k = 4 := by
  unfold mayT at h
  by_cases h12 : T.k = 1 ∨ T.k = 2
  · omega
  · rw [if_neg h12] at h
    by_cases h3 : T.k = 3
    · omega
    · rw [if_neg h3] at h
      by_cases h4 : T.k = 4
      · omega
      · rw [if_neg h4] at h; cases h
theorem may_leaf {d : Nat} {T : Ty} (h : mayT (d + 1) T = true) (hk : T.k = 1 ∨ T.k = 2) : T.nm = ByteArray.empty ∧ T.ns = [] ∧ T.ps = [] ∧ T.many = false := by
  unfold mayT at h
  rw [if_pos hk] at h
  simp only [Bool.and_eq_true, beq_iff_eq, Bool.not_eq_true'] at h
  obtain ⟨a, b⟩ := bare_of h.1.1
  exact ⟨a, b, List.eq_nil_of_length_eq_zero h.1.2, h.2⟩
theorem may_st {d : Nat} {T : Ty} (h : mayT (d + 1) T = true) (hk : T.k = 3) : T.many = false ∧ nameOf T.nm = true ∧ T.ns.length = T.ps.length ∧ (∀ p ∈ T.ps, mayT d p = true) ∧ (∀ n ∈ T.ns, nameOf n = true) := by
  unfold mayT at h
  rw [if_neg (by omega), if_pos hk] at h
  simp only [Bool.and_eq_true, beq_iff_eq, Bool.not_eq_true', decide_eq_true_eq, List.all_eq_true] at h
  obtain ⟨⟨⟨⟨⟨h1, h2⟩, h3⟩, ⟨_, h4⟩⟩, h5⟩, -⟩ := h
  simp only [namedL, Bool.and_eq_true, List.all_eq_true] at h5
  exact ⟨h1, h2, h3, h4, h5.1⟩
theorem may_fn {d : Nat} {T : Ty} (h : mayT (d + 1) T = true) (hk : T.k = 4) : T.nm = ByteArray.empty ∧ T.ns = [] ∧ T.ps ≠ [] ∧ (∀ p ∈ T.ps, mayT d p = true) := by
  unfold mayT at h
  rw [if_neg (by omega), if_neg (by omega), if_pos hk] at h
  simp only [Bool.and_eq_true, decide_eq_true_eq, List.all_eq_true] at h
  obtain ⟨h1, ⟨h2, _⟩, h3⟩ := h
  obtain ⟨a, b⟩ := bare_of h1
  exact ⟨a, b, fun e => by rw [e] at h2; simp at h2, h3⟩
theorem text_1 {T : Ty} (h : T.k = 1) : textT T = [105, 110, 116] := by rw [textT_eq, if_pos h]
theorem text_2 {T : Ty} (h : T.k = 2) : textT T = [108, 111, 110, 103] := by rw [textT_eq, if_neg (by omega), if_pos h]
theorem text_3 {T : Ty} (h : T.k = 3) : textT T = [115, 116, 114, 117, 99, 116, 32] ++ (T.nm.data.toList ++ 123 :: (fieldsTx T.ns (T.ps.map textT) ++ [125])) := by rw [textT_eq, if_neg (by omega), if_neg (by omega), if_pos h]
theorem text_4 {T : Ty} (h : T.k = 4) (hp : T.ps ≠ []) : textT T = [102, 110, 40] ++ (paramsTx T.many true (T.ps.dropLast.map textT) ++ 41 :: textT (T.ps.getLast hp)) := by
  rw [textT_eq, if_neg (by omega), if_neg (by omega), if_neg (by omega), if_pos h, List.getLast?_map, List.getLast?_eq_some_getLast hp, List.map_dropLast]
  rfl
theorem reads_all : ∀ (d : Nat) (T : Ty), mayT d T = true → Reads T
  | 0, T, h => by cases h
  | d + 1, T, h => by
    intro d' U x y hU e
    cases d' with
    | zero => cases hU
    | succ d' =>
      have IH := reads_all d
      rcases may_kind h with k | k | k | k <;> rcases may_kind hU with k' | k' | k' | k'
      · obtain ⟨a, b, c, m⟩ := may_leaf h (.inl k)
        obtain ⟨a', b', c', m'⟩ := may_leaf hU (.inl k')
        rw [text_1 k, text_1 k'] at e
        exact ⟨ty_ext (by omega) (by rw [a, a']) (by rw [b, b']) (by rw [c, c']) (by rw [m, m']), by simpa using e⟩
      · rw [text_1 k, text_2 k'] at e; simp at e
      · rw [text_1 k, text_3 k'] at e; simp at e
      · obtain ⟨_, _, hp, _⟩ := may_fn hU k'
        rw [text_1 k, text_4 k' hp] at e; simp at e
      · rw [text_2 k, text_1 k'] at e; simp at e
      · obtain ⟨a, b, c, m⟩ := may_leaf h (.inr k)
        obtain ⟨a', b', c', m'⟩ := may_leaf hU (.inr k')
        rw [text_2 k, text_2 k'] at e
        exact ⟨ty_ext (by omega) (by rw [a, a']) (by rw [b, b']) (by rw [c, c']) (by rw [m, m']), by simpa using e⟩
      · rw [text_2 k, text_3 k'] at e; simp at e
      · obtain ⟨_, _, hp, _⟩ := may_fn hU k'
        rw [text_2 k, text_4 k' hp] at e; simp at e
      · rw [text_3 k, text_1 k'] at e; simp at e
      · rw [text_3 k, text_2 k'] at e; simp at e
      · obtain ⟨m, hn, hl, hp, hns⟩ := may_st h k
        obtain ⟨m', hn', hl', hp', hns'⟩ := may_st hU k'
        rw [text_3 k, text_3 k'] at e
        simp only [List.append_assoc, List.cons_append, List.nil_append, List.cons.injEq, true_and] at e
        obtain ⟨h1, h2⟩ := split_at 123 _ _ _ _ (no_byte hn 123 (by decide)) (no_byte hn' 123 (by decide)) e
        obtain ⟨h3, h4, h5⟩ := fields_read T.ns U.ns T.ps U.ps x y hl hl' hns hns' (fun p hpp => ⟨hp p hpp, IH p (hp p hpp)⟩) hp' h2
        exact ⟨ty_ext (by omega) (Go.WideShapes.bytes_inj h1) h3 h4 (by rw [m, m']), h5⟩
      · obtain ⟨_, _, hp, _⟩ := may_fn hU k'
        rw [text_3 k, text_4 k' hp] at e; simp at e
      · obtain ⟨_, _, hp, _⟩ := may_fn h k
        rw [text_4 k hp, text_1 k'] at e; simp at e
      · obtain ⟨_, _, hp, _⟩ := may_fn h k
        rw [text_4 k hp, text_2 k'] at e; simp at e
      · obtain ⟨_, _, hp, _⟩ := may_fn h k
        rw [text_4 k hp, text_3 k'] at e; simp at e
      · obtain ⟨a, b, hp, hps⟩ := may_fn h k
        obtain ⟨a', b', hp', hps'⟩ := may_fn hU k'
        rw [text_4 k hp, text_4 k' hp'] at e
        simp only [List.append_assoc, List.cons_append, List.nil_append, List.cons.injEq, true_and] at e
        obtain ⟨h1, h2, h3⟩ := params_read T.many U.many true T.ps.dropLast U.ps.dropLast _ _ (fun p hpp => ⟨hps p (List.dropLast_subset _ hpp), IH p (hps p (List.dropLast_subset _ hpp))⟩) (fun p hpp => hps' p (List.dropLast_subset _ hpp)) e
        obtain ⟨h4, h5⟩ := IH _ (hps _ (List.getLast_mem hp)) _ _ _ _ (hps' _ (List.getLast_mem hp')) h3
        exact ⟨ty_ext (by omega) (by rw [a, a']) (by rw [b, b']) (by rw [← List.dropLast_concat_getLast hp, ← List.dropLast_concat_getLast hp', h1, h4]) h2, h5⟩
theorem text_inj {d d' : Nat} {T U : Ty} (h : mayT d T = true) (hU : mayT d' U = true) (e : textT T = textT U) : T = U :=
  (reads_all d T h d' U [] [] hU (by rw [e])).1
theorem may_len {d : Nat} {T : Ty} (h : mayT (d + 1) T = true) : T.ps.length ≤ 7 := by
  unfold mayT at h
  by_cases h12 : T.k = 1 ∨ T.k = 2
  · rw [if_pos h12] at h
    simp only [Bool.and_eq_true, beq_iff_eq] at h
    omega
  · rw [if_neg h12] at h
    by_cases h3 : T.k = 3
    · rw [if_pos h3] at h
      simp only [Bool.and_eq_true, decide_eq_true_eq] at h
      omega
    · rw [if_neg h3] at h
      by_cases h4 : T.k = 4
      · rw [if_pos h4] at h
        simp only [Bool.and_eq_true, decide_eq_true_eq] at h
        omega
      · rw [if_neg h4] at h; cases h
end Go.Proofs.Ytkkjkbljgaipcaa
