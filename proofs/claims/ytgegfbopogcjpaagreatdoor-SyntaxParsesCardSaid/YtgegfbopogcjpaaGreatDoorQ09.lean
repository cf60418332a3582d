/- Tokens written one behind the other, with a blank between, are read as the same. No program is in sight; Operations of a drawn region that may come in any order: one relation over what is done serves for every order; A row's last node written over; a walk's pieces: more; syntax.Parse. -/
import Derived.Test.YtgegfbopogcjpaaGreatDoorQ04
import Derived.Test.YtgegfbopogcjpaaGreatDoorQ07
import Derived.Test.YtgegfbopogcjpaaGreatDoorQ08
import Derived.Deep.RegionHeld
import Derived.Laws.OwnMore
namespace Go.Proofs.YtgegfbopogcjpaaGreatDoor
set_option linter.unusedVariables false
set_option linter.unusedSimpArgs false
theorem size_list (s : ByteArray) : s.data.toList.length = s.size := Array.length_toList
def tail3 (k : Int) : List UInt8 := if k = 3 then [76] else []
def rendT (k : Int) (s : ByteArray) : List UInt8 := s.data.toList ++ tail3 k ++ [32]
def rendL (l : List Tok) : List UInt8 := l.flatMap fun t => rendT t.k t.s
theorem extract_all {s : ByteArray} {j z i : Nat} (hz : z ≤ s.size) (h : i < z - j) : byteI (s.extract j z) i = byteI s (j + i) := byteI_extract (by omega) hz
theorem tokAt_ok {s : ByteArray} {j : Nat} (hj : j < s.size) (he : (tokAt s j).e = 0) : TokOk (tokAt s j).k (tokAt s j).t ∧ (tokAt s j).t.size + (tail3 (tokAt s j).k).length = (tokAt s j).z - j := by
 unfold tokAt at he ⊢
 by_cases h1 : letterI (byteI s j) = true
 ·rw [if_pos h1] at he ⊢
  have hgt := endOf_gt hj (chr_of_letter h1)
  have hle : endOf s chrI j ≤ s.size := endOf_le (by omega)
  have hsz : (s.extract j (endOf s chrI j)).size = endOf s chrI j - j := by rw [ByteArray.size_extract]; omega
  have h16 : ¬ 16 < endOf s chrI j - j := by
   intro h
   simp only [h, if_true] at he
   cases he
  refine ⟨.inl ⟨rfl, by simp only [hsz]; omega, by simp only [hsz]; omega, by simp only; rw [extract_all hle (by omega)]; exact h1, ?_⟩, by simp only [hsz, tail3]; simp⟩
  intro i hi
  simp only [hsz] at hi
  simp only
  rw [extract_all hle (by omega)]
  exact endOf_all (k := j) (by omega) (by omega)
 ·rw [if_neg h1] at he ⊢
  by_cases h2 : digitI (byteI s j) = true
  ·rw [if_pos h2] at he ⊢
   have hgt := endOf_gt hj (chr_of_digit h2)
   have hle : endOf s chrI j ≤ s.size := endOf_le (by omega)
   have hsz : (s.extract j (endOf s chrI j)).size = endOf s chrI j - j := by rw [ByteArray.size_extract]; omega
   have h0 : digitI (byteI (s.extract j (endOf s chrI j)) 0) = true := by rw [extract_all hle (by omega)]; exact h2
   simp only at he ⊢
   generalize s.extract j (endOf s chrI j) = r at *
   obtain ⟨p1, p2, p3⟩ := digitsOf_pos (by omega) h0
   have hk : (numK r == 3) = isLong r := by unfold numK; cases isLong r <;> rfl
   have hlen : (digitsOf r).size + (tail3 (numK r)).length = endOf s chrI j - j := by
    unfold digitsOf numK tail3
    cases hl : isLong r
    ·simp; omega
    ·simp; omega
   refine ⟨.inr (.inl ⟨?_, p1, ?_, ?_, ?_⟩), hlen⟩
   ·unfold numK; cases isLong r
    ·exact .inl rfl
    ·exact .inr rfl
   ·rcases ha : allDigits (digitsOf r) with _ | _
    ·rw [numE_form ha] at he; cases he
    ·rfl
   ·intro hn
    have ha : allDigits (digitsOf r) = true := by
     rcases ha : allDigits (digitsOf r) with _ | _
     ·rw [numE_form ha] at he; cases he
     ·rfl
    rw [numE_nought ha hn.1 hn.2] at he
    cases he
   ·intro hm
    rw [hk] at hm
    have ha : allDigits (digitsOf r) = true := by
     rcases ha : allDigits (digitsOf r) with _ | _
     ·rw [numE_form ha] at he; cases he
     ·rfl
    by_cases hn : 1 < (digitsOf r).size ∧ byteI (digitsOf r) 0 = 48
    ·rw [numE_nought ha hn.1 hn.2] at he; cases he
    ·rw [numE_range ha hn hm] at he; cases he
  ·rw [if_neg h2] at he ⊢
   have hsz := signText_size hj
   have hs0 : signLen s j ≠ 0 := by
    intro h
    simp only [h, if_true] at he
    cases he
   simp only
   refine ⟨.inr (.inr ⟨rfl, ?_⟩), by rw [hsz]; simp [tail3]⟩
   rw [signLen_eq] at hs0 ⊢
   rcases hd : dots s j with _ | _
   ·rcases hq : eqs s j with _ | _
    ·rcases hg : signI (byteI s j) with _ | _
     ·exfalso; apply hs0; rw [hd, hq, hg]; rfl
     ·refine .inr (.inr ⟨s[j]'hj, ?_, by rw [← byteI_at hj]; exact hg⟩)
      simp only [Bool.false_eq_true, if_false, if_true]
      exact extract_one hj
    ·exact .inr (.inl (by simp only [Bool.false_eq_true, if_false, if_true]; exact (eqs_size hq).2))
   ·exact .inl (by simp only [if_true]; exact (dots_size hd).2)
theorem lexN_ok (s : ByteArray) (n : Nat) : ∀ note k acc, k ≤ s.size → (∀ t ∈ acc, TokOk t.k t.s) → (lexN s n note k acc).e = 0 →
 (∀ t ∈ (lexN s n note k acc).l, TokOk t.k t.s) ∧ (rendL (lexN s n note k acc).l).length ≤ (rendL acc).length + 2 * (s.size - k) := by
 induction n with
 | zero => intro note k acc hk h _; simp only [lexN]; exact ⟨h, by omega⟩
 | succ n ih =>
  intro note k acc hk h he
  rw [lexN] at he ⊢
  by_cases hlt : skip s note k < s.size
  ·rw [if_pos hlt] at he ⊢
   by_cases h0 : (tokAt s (skip s note k)).e = 0
   ·rw [if_pos h0] at he ⊢
    have hge := skip_ge (s := s) (note := note) (k := k)
    have hgt := tokAt_gt hlt h0
    have hle := tokAt_le hlt
    obtain ⟨o1, o2⟩ := tokAt_ok hlt h0
    obtain ⟨i1, i2⟩ := ih false (tokAt s (skip s note k)).z (acc ++ [⟨(tokAt s (skip s note k)).k, (tokAt s (skip s note k)).t, skip s note k⟩]) hle (by
     intro t ht
     rcases List.mem_append.1 ht with ht | ht
     ·exact h t ht
     ·rw [List.mem_singleton] at ht; subst ht; exact o1) he
    refine ⟨i1, Nat.le_trans i2 ?_⟩
    have : (rendL (acc ++ [⟨(tokAt s (skip s note k)).k, (tokAt s (skip s note k)).t, skip s note k⟩])).length = (rendL acc).length + ((tokAt s (skip s note k)).z - skip s note k + 1) := by
     unfold rendL
     rw [List.flatMap_append, List.length_append, ← o2]
     simp only [List.flatMap_cons, List.flatMap_nil, List.append_nil, rendT, List.length_append, size_list, List.length_singleton]
    omega
   ·rw [if_neg h0] at he
    exact absurd he h0
  ·rw [if_neg hlt]
   exact ⟨h, by simp only; omega⟩
theorem lexOf_ok (s : ByteArray) (he : (lexOf s).e = 0) : ∀ t ∈ (lexOf s).l, TokOk t.k t.s := by
 unfold lexOf at he ⊢
 split at he
 ·rename_i h; rw [if_pos h]; simp
 ·rename_i h
  rw [if_neg h]
  exact (lexN_ok s (s.size - 0 + 1) false 0 [] (Nat.zero_le _) (by simp) he).1
end Go.Proofs.YtgegfbopogcjpaaGreatDoor
namespace Go.Proofs.YtgegfbopogcjpaaGreatDoor
set_option linter.unusedVariables false
set_option linter.unusedSimpArgs false
def old (a : Act) : Option Tmp → Value
 | some d => a.tmps.getD d undef
 | none => undef
theorem put_old (a : Act) (d : Option Tmp) : a.put d (old a d) = a := by
 cases d with
 | none => rfl
 | some d =>
  obtain ⟨t, ds⟩ := a
  simp only [Act.put, old, Act.mk.injEq, and_true]
  apply Array.ext
  ·simp
  ·intro i h1 h2
   by_cases hd : d = i
   ·subst hd
    simp at h1
    simp [h1]
   ·rw [Array.getElem_setIfInBounds_ne h2 hd]
theorem put_put (a : Act) (d : Option Tmp) (u v : Value) : (a.put d u).put d v = a.put d v := by
 cases d with
 | none => rfl
 | some d =>
  obtain ⟨t, ds⟩ := a
  simp [Act.put]
section
variable {P : Program} {ops : Array Oper} {Q : Exit → Act → World → Prop} {md : Region.Mode} {S : World → Prop}
def Stp (P : Program) (ops : Array Oper) (Q : Exit → Act → World → Prop) (o : Oper) (a : Act) (w : World) (T : Value → World → Prop) : Prop :=
 ∀ K' : Act → World → Prop, Shut (∀ v w', T v w' → K' (a.put o.dst v) w') → if Region.wanted o (yielded ops a.tmps) = true then Oper.wp P o a w K' Q else K' (a.put o.dst undef) w
theorem Stp.op {i : Nat} {o : Oper} {a : Act} {w : World} {T : Value → World → Prop} {K : Act → World → Prop} (h : Stp P ops Q o a w T) (ho : ops[i]? = some o) (hK : ∀ v w', T v w' → K (a.put o.dst v) w') : wpOp P ops Q i K a w :=
 wpOp_step ho fun K' hK' => h K' (fun v w' hT => hK' _ _ (hK v w' hT))
structure Ge where
 n : Nat
 d : Option Tmp
 a : List Nat
def actG (a : Act) (vs : Nat → Option Value) : List Ge → Act
 | [] => a
 | g :: G => (actG a vs G).put g.d ((vs g.n).getD (old a g.d))
def lisG (listed : Array Bool) (vs : Nat → Option Value) : List Ge → Array Bool
 | [] => listed
 | g :: G => if (vs g.n).isSome = true then (lisG listed vs G).setIfInBounds g.n true else lisG listed vs G
def upd (vs : Nat → Option Value) (i : Nat) (v : Value) : Nat → Option Value := fun j => if j = i then some v else vs j
@[simp] theorem upd_same (vs : Nat → Option Value) (i : Nat) (v : Value) : upd vs i v i = some v := by simp [upd]
theorem upd_ne (vs : Nat → Option Value) {i j : Nat} (v : Value) (h : j ≠ i) : upd vs i v j = vs j := by simp [upd, h]
def offG : List Ge → Bool
 | [] => true
 | g :: G => (G.all fun h => g.n != h.n && (match g.d with
  | some d => h.d != some d
  | none => true)) && offG G
def subs : List Ge → List (List Ge)
 | [] => [[]]
 | g :: G => (subs G).map (g :: ·) ++ subs G
def lisD (listed : Array Bool) : List Ge → Array Bool
 | [] => listed
 | g :: D => (lisD listed D).setIfInBounds g.n true
def okG (md : Region.Mode) (ops : Array Oper) (listed : Array Bool) (G : List Ge) : Bool :=
 offG G && (G.all fun g => g.a.all fun m => G.any fun d => d.n == m) && (G.all fun g => (ops[g.n]?).map (·.dst) == some g.d) &&
 (subs G).all fun D => D.length == G.length || !(D.all fun g => g.a.all fun m => D.any fun d => d.n == m) || (!(Region.ready md ops (lisD listed D)).isEmpty && (Region.ready md ops (lisD listed D)).all fun i => G.any fun g => g.n == i && !(D.any fun d => d.n == i) && g.a.all fun m => D.any fun d => d.n == m)
theorem actG_congr (a : Act) {vs us : Nat → Option Value} : ∀ (G : List Ge), (∀ g ∈ G, vs g.n = us g.n) → actG a vs G = actG a us G
 | [], _ => rfl
 | g :: G, h => by
  rw [actG, actG, h g (by simp), actG_congr a G (fun x hx => h x (by simp [hx]))]
theorem lisG_congr (l : Array Bool) {vs us : Nat → Option Value} : ∀ (G : List Ge), (∀ g ∈ G, vs g.n = us g.n) → lisG l vs G = lisG l us G
 | [], _ => rfl
 | g :: G, h => by
  rw [lisG, lisG, h g (by simp), lisG_congr l G (fun x hx => h x (by simp [hx]))]
theorem offG_ne {g h : Ge} {G : List Ge} (ho : offG (g :: G) = true) (hh : h ∈ G) : g.n ≠ h.n ∧ ∀ t, g.d = some t → h.d ≠ some t := by
 simp only [offG, Bool.and_eq_true, List.all_eq_true] at ho
 have := ho.1 h hh
 refine ⟨by simpa using this.1, fun t ht => ?_⟩
 have h2 := this.2
 rw [ht] at h2
 simpa using h2
theorem offG_tail {g : Ge} {G : List Ge} (ho : offG (g :: G) = true) : offG G = true := by
 simp only [offG, Bool.and_eq_true] at ho
 exact ho.2
theorem offG_inj : ∀ {G : List Ge}, offG G = true → ∀ {x y : Ge}, x ∈ G → y ∈ G → x ≠ y → x.n ≠ y.n
 | [], _, _, _, h, _, _ => by cases h
 | g :: G, ho, x, y, hx, hy, hne => by
  rcases List.mem_cons.1 hx with e | hx'
  ·rcases List.mem_cons.1 hy with e2 | hy'
   ·exact absurd (e.trans e2.symm) hne
   ·rw [e]; exact (offG_ne ho hy').1
  ·rcases List.mem_cons.1 hy with e2 | hy'
   ·rw [e2]; exact Ne.symm (offG_ne ho hx').1
   ·exact offG_inj (offG_tail ho) hx' hy' hne
theorem actG_upd (a : Act) (vs : Nat → Option Value) (v : Value) : ∀ (G : List Ge) (g : Ge), g ∈ G → offG G = true → vs g.n = none → actG a (upd vs g.n v) G = (actG a vs G).put g.d v
 | [], _, h, _, _ => by cases h
 | g' :: G, g, h, ho, hn => by
  rcases List.mem_cons.1 h with rfl | h
  ·rw [actG, actG, hn, upd_same, actG_congr a (vs := upd vs g.n v) (us := vs) G (fun x hx => upd_ne _ _ (Ne.symm (offG_ne ho hx).1)), put_put]
   rfl
  ·rw [actG, actG, actG_upd a vs v G g h (offG_tail ho) hn, upd_ne _ _ (offG_ne ho h).1]
   exact (Act.put_comm _ _ _ (offG_ne ho h).2).symm
theorem lisG_upd (l : Array Bool) (vs : Nat → Option Value) (v : Value) : ∀ (G : List Ge) (g : Ge), g ∈ G → offG G = true → vs g.n = none → lisG l (upd vs g.n v) G = (lisG l vs G).setIfInBounds g.n true
 | [], _, h, _, _ => by cases h
 | g' :: G, g, h, ho, hn => by
  rcases List.mem_cons.1 h with rfl | h
  ·rw [lisG, lisG, hn, upd_same, lisG_congr l (vs := upd vs g.n v) (us := vs) G (fun x hx => upd_ne _ _ (Ne.symm (offG_ne ho hx).1))]
   simp
  ·rw [lisG, lisG, lisG_upd l vs v G g h (offG_tail ho) hn, upd_ne _ _ (offG_ne ho h).1]
   split
   ·exact Array.setIfInBounds_comm _ _ (Ne.symm (offG_ne ho h).1)
   ·rfl
def doneG (vs : Nat → Option Value) (G : List Ge) : List Ge := G.filter fun g => (vs g.n).isSome
theorem doneG_sub (vs : Nat → Option Value) : ∀ (G : List Ge), doneG vs G ∈ subs G
 | [] => by simp [doneG, subs]
 | g :: G => by
  have ih := doneG_sub vs G
  unfold doneG at ih ⊢
  rw [List.filter_cons, subs]
  split
  ·exact List.mem_append_left _ (List.mem_map.2 ⟨_, ih, rfl⟩)
  ·exact List.mem_append_right _ ih
theorem lisG_done (l : Array Bool) (vs : Nat → Option Value) : ∀ (G : List Ge), lisG l vs G = lisD l (doneG vs G)
 | [] => rfl
 | g :: G => by
  have ih := lisG_done l vs G
  unfold doneG at ih ⊢
  rw [List.filter_cons, lisG]
  split
  ·rw [lisD, ih]
  ·exact ih
def hasG (vs : Nat → Option Value) : List Nat → Prop
 | [] => True
 | i :: l => (∃ v, vs i = some v) ∧ hasG vs l
def notG (vs : Nat → Option Value) (i : Nat) : List Ge → Prop
 | [] => True
 | h :: H => (if h.a.contains i = true then vs h.n = none else True) ∧ notG vs i H
theorem hasG_of {vs : Nat → Option Value} : ∀ {l : List Nat}, (∀ i ∈ l, ∃ v, vs i = some v) → hasG vs l
 | [], _ => trivial
 | i :: l, h => ⟨h i (.head _), hasG_of fun j hj => h j (.tail _ hj)⟩
theorem notG_of {vs : Nat → Option Value} {i : Nat} : ∀ {H : List Ge}, (∀ h ∈ H, i ∈ h.a → vs h.n = none) → notG vs i H
 | [], _ => trivial
 | g :: H, h => ⟨by
  split
  ·rename_i hc; exact h g (.head _) (by simpa using hc)
  ·trivial, notG_of fun j hj => h j (.tail _ hj)⟩
def StpsG (P : Program) (ops : Array Oper) (Q : Exit → Act → World → Prop) (a : Act) (R : (Nat → Option Value) → World → Prop) (G : List Ge) : List Ge → Prop
 | [] => True
 | g :: H => (∃ o, ops[g.n]? = some o ∧ ∀ vs w, vs g.n = none → hasG vs g.a → notG vs g.n G → R vs w → Stp P ops Q o (actG a vs G) w (fun v w' => R (upd vs g.n v) w')) ∧ StpsG P ops Q a R G H
theorem StpsG.get {a : Act} {R : (Nat → Option Value) → World → Prop} {G : List Ge} : ∀ {H : List Ge}, StpsG P ops Q a R G H → ∀ g ∈ H, ∃ o, ops[g.n]? = some o ∧ ∀ vs w, vs g.n = none → hasG vs g.a → notG vs g.n G → R vs w → Stp P ops Q o (actG a vs G) w (fun v w' => R (upd vs g.n v) w')
 | [], _, _, h => by cases h
 | g' :: H, hs, g, h => by
  rcases List.mem_cons.1 h with rfl | h
  ·exact hs.1
  ·exact StpsG.get hs.2 g h
theorem count_lt {vs : Nat → Option Value} {G : List Ge} (h : ∃ g ∈ G, vs g.n = none) : (doneG vs G).length < G.length := by
 obtain ⟨g, hg, hn⟩ := h
 rcases Nat.lt_or_ge (doneG vs G).length G.length with h | h
 ·exact h
 ·have h1 : (doneG vs G).length = G.length := Nat.le_antisymm (List.length_filter_le _ _) h
  have := List.length_filter_eq_length_iff.1 h1 g hg
  rw [hn] at this
  simp at this
theorem done_upd {vs : Nat → Option Value} {v : Value} : ∀ {G : List Ge} {g : Ge}, g ∈ G → offG G = true → vs g.n = none → (doneG (upd vs g.n v) G).length = (doneG vs G).length + 1
 | [], _, h, _, _ => by cases h
 | g' :: G, g, h, ho, hn => by
  unfold doneG
  rw [List.filter_cons, List.filter_cons]
  rcases List.mem_cons.1 h with rfl | h
  ·rw [hn, upd_same]
   have : ∀ x ∈ G, (upd vs g.n v x.n).isSome = (vs x.n).isSome := fun x hx => by rw [upd_ne _ _ (Ne.symm (offG_ne ho hx).1)]
   rw [List.filter_congr this]
   simp
  ·have ih := done_upd (v := v) h (offG_tail ho) hn
   unfold doneG at ih
   rw [upd_ne _ _ (offG_ne ho h).1]
   split
   ·rw [List.length_cons, List.length_cons, ih]
   ·exact ih
theorem wpAnyH_grp_aux {fuel : Nat} {listed : Array Bool} {a : Act} {G : List Ge} {R : (Nat → Option Value) → World → Prop} (hok : okG md ops listed G = true) (hS : ∀ vs w, R vs w → S w)
 (hst : StpsG P ops Q a R G G)
 (hend : ∀ vs w, R vs w → hasG vs (G.map (·.n)) → wpAnyH P md ops Q S fuel (lisG listed vs G) (actG a vs G) w) :
 ∀ (n : Nat) (vs : Nat → Option Value) (w : World), R vs w → (∀ h ∈ G, ∀ v, vs h.n = some v → ∀ d ∈ h.a, ∃ u, vs d = some u) → (doneG vs G).length + n = G.length → wpAnyH P md ops Q S (fuel + n) (lisG listed vs G) (actG a vs G) w := by
 simp only [okG, Bool.and_eq_true] at hok
 obtain ⟨⟨⟨ho, hin⟩, hd⟩, hr⟩ := hok
 intro n
 induction n with
 | zero =>
  intro vs w hR hcl hn
  refine hend vs w hR (hasG_of fun i hi => ?_)
  obtain ⟨g, hg, rfl⟩ := List.mem_map.1 hi
  rcases h : vs g.n with _ | v
  ·have := count_lt ⟨g, hg, h⟩; omega
  ·exact ⟨v, rfl⟩
 | succ n ih =>
  intro vs w hR hcl hn
  have h1 := List.all_eq_true.1 hr _ (doneG_sub vs G)
  rw [← lisG_done] at h1
  have hlen : ((doneG vs G).length == G.length) = false := by rw [beq_eq_false_iff_ne]; omega
  have hclo : ((doneG vs G).all fun g => g.a.all fun m => (doneG vs G).any fun d => d.n == m) = true := by
   refine List.all_eq_true.2 fun x hx => List.all_eq_true.2 fun m hm => ?_
   obtain ⟨hx1, hx2⟩ := List.mem_filter.1 hx
   obtain ⟨v, hv⟩ := Option.isSome_iff_exists.1 hx2
   obtain ⟨u, hu⟩ := hcl x hx1 v hv m hm
   obtain ⟨y, hy, hym⟩ := List.any_eq_true.1 (List.all_eq_true.1 (List.all_eq_true.1 hin x hx1) m hm)
   have hym := beq_iff_eq.1 hym
   subst hym
   exact List.any_eq_true.2 ⟨y, List.mem_filter.2 ⟨hy, by rw [hu]; rfl⟩, by simp⟩
  rw [hlen, hclo, Bool.not_true, Bool.false_or, Bool.false_or, Bool.and_eq_true] at h1
  have hne : Region.ready md ops (lisG listed vs G) ≠ [] := by
   have := h1.1
   intro e
   rw [e] at this
   simp at this
  refine wpAnyH_all rfl hne fun i hi => ?_
  have h2 := List.all_eq_true.1 h1.2 i hi
  obtain ⟨g, hg, h3⟩ := List.any_eq_true.1 h2
  simp only [Bool.and_eq_true, beq_iff_eq, Bool.not_eq_true'] at h3
  obtain ⟨⟨rfl, h4⟩, h5⟩ := h3
  have hdep : ∀ d ∈ g.a, ∃ v, vs d = some v := fun d hd => by
   have h6 := List.all_eq_true.1 h5 d hd
   obtain ⟨x, hx, hxd⟩ := List.any_eq_true.1 h6
   have h7 := (List.mem_filter.1 hx).2
   rw [beq_iff_eq.1 hxd] at h7
   exact Option.isSome_iff_exists.1 h7
  have hnone : vs g.n = none := by
   rcases h : vs g.n with _ | v
   ·rfl
   ·have : (doneG vs G).any (fun d => d.n == g.n) = true := List.any_eq_true.2 ⟨g, List.mem_filter.2 ⟨hg, by rw [h]; rfl⟩, by simp⟩
    rw [this] at h4
    cases h4
  obtain ⟨o, hoo, hstp⟩ := hst.get g hg
  have hdst : o.dst = g.d := by
   have := List.all_eq_true.1 hd g hg
   rw [hoo] at this
   simpa using this
  refine (hstp vs w hnone (hasG_of hdep) (notG_of fun h hh hi => by
   rcases hv : vs h.n with _ | v
   ·rfl
   ·obtain ⟨u, hu⟩ := hcl h hh v hv _ hi
    rw [hnone] at hu
    cases hu) hR).op hoo fun v w' h => ⟨hS _ _ h, ?_⟩
  rw [hdst, ← actG_upd a vs v G g hg ho hnone, ← lisG_upd listed vs v G g hg ho hnone]
  refine ih _ _ h (fun x hx u hu d hd => ?_) (by rw [done_upd hg ho hnone]; omega)
  by_cases hdg : d = g.n
  ·exact ⟨v, by rw [hdg, upd_same]⟩
  ·rw [upd_ne _ _ hdg]
   by_cases hxg : x.n = g.n
   ·have hxx : x = g := by
     rcases Classical.em (x = g) with e | e
     ·exact e
     ·exact absurd hxg (offG_inj ho hx hg e)
    subst hxx
    exact hdep d hd
   ·rw [upd_ne _ _ hxg] at hu
    exact hcl x hx u hu d hd
theorem wpAnyH_grp (G : List Ge) (fuel : Nat) (R : (Nat → Option Value) → World → Prop) {n : Nat} {listed : Array Bool} {a : Act} {w : World} (hn : n = fuel + G.length) (hok : okG md ops listed G = true) (h0 : R (fun _ => none) w) (hS : ∀ vs w, R vs w → S w)
 (hst : StpsG P ops Q a R G G)
 (hend : ∀ vs w, R vs w → hasG vs (G.map (·.n)) → wpAnyH P md ops Q S fuel (lisG listed vs G) (actG a vs G) w) :
 wpAnyH P md ops Q S n listed a w := by
 subst hn
 have hd : ∀ G : List Ge, doneG (fun _ => none) G = [] := fun G => by simp [doneG]
 have := wpAnyH_grp_aux (P := P) (Q := Q) hok hS hst hend G.length (fun _ => none) w h0 (fun _ _ _ h => by cases h) (by rw [hd]; simp)
 have ha : ∀ G : List Ge, actG a (fun _ => none) G = a := fun G => by
  induction G with
  | nil => rfl
  | cons g G ih => rw [actG, ih]; exact put_old a g.d
 have hl : ∀ G : List Ge, lisG listed (fun _ => none) G = listed := fun G => by
  induction G with
  | nil => rfl
  | cons g G ih => rw [lisG, ih]; rfl
 rwa [ha, hl] at this
def OP (o : Option Value) (P : Value → Prop) : Prop := ∀ u, o = some u → P u
abbrev OV (o : Option Value) (v : Value) : Prop := OP o (· = v)
theorem OP.no {o : Option Value} (P : Value → Prop) (h : o = none) : OP o P := fun _ e => by rw [h] at e; cases e
theorem OP.is {P : Value → Prop} {v : Value} (h : P v) : OP (some v) P := fun u e => by injection e with e; exact e ▸ h
def posq (o : Option Value) (j : Nat) : Nat := match o with
 | none => j
 | some _ => j + 1
def ifq {α : Type} (o : Option Value) (r : α) : List α := match o with
 | none => []
 | some _ => [r]
def altq {α : Type} (o : Option Value) (a b : α) : α := match o with
 | none => a
 | some _ => b
theorem ifq_some {α : Type} (v : Value) (r : α) : ifq (some v) r = [r] := rfl
theorem altq_some {α : Type} (v : Value) (a b : α) : altq (some v) a b = b := rfl
end
end Go.Proofs.YtgegfbopogcjpaaGreatDoor
namespace Go.Proofs.YtgegfbopogcjpaaGreatDoor
open Go.RowKit
set_option linter.unusedVariables false
set_option linter.unusedSimpArgs false
set_option maxRecDepth 100000
set_option maxHeartbeats 1000000
theorem RepCs.unsnoc {V : Nat → Prop} {w : World} {n : Nd} : ∀ (ns : List Nd) (xs : List Value), RepCs V w (ns ++ [n]) xs → ∃ a b, xs = a ++ b ∧ RepCs V w ns a ∧ b.length = 4
 | [], xs, h => by
  have h : RepCs V w [n] xs := h
  unfold RepCs at h
  obtain ⟨a, b, rfl, h1, h2⟩ := h
  unfold RepCs at h2
  subst h2
  exact ⟨[], a, by simp, rfl, h1.len⟩
 | m :: ns, xs, h => by
  have h : RepCs V w (m :: (ns ++ [n])) xs := h
  unfold RepCs at h
  obtain ⟨a, b, rfl, h1, h2⟩ := h
  obtain ⟨c, d, rfl, h3, h4⟩ := RepCs.unsnoc ns b h2
  exact ⟨a ++ c, d, by simp, by unfold RepCs; exact ⟨a, c, rfl, h1, h3⟩, h4⟩
theorem put4o_mv (W : World) (r o : Nat) (b0 b1 b2 b3 : Value) : Mv r W ((((W.setCell ⟨r, o, none⟩ b0).setCell ⟨r, o + 1, none⟩ b1).setCell ⟨r, o + 2, none⟩ b2).setCell ⟨r, o + 3, none⟩ b3) := by
 refine ⟨rfl, rfl, rfl, by simp [World.setCell], fun b hb hne => ?_⟩
 have hne : b ≠ r := fun e => hne (by rw [e])
 rw [Below.heap_setCell _ _ _ _ hne, Below.heap_setCell _ _ _ _ hne, Below.heap_setCell _ _ _ _ hne, Below.heap_setCell _ _ _ _ hne]
section
variable {ι : Type} {Z : ι → World → Prop} {p : Nat} {G : Nat → Prop} {w W : World} {i : ι} {l : List Rc}
theorem St.rowset {V U : Nat → Prop} {B g : Nat} {ks : List Nd} {x n0 : Nd} {A : Option Addr} {c c2 : Nat} (h : St Z p G w W i (rw_ B V (ks ++ [n0]) (some ⟨g, 0, none⟩) c2 :: nd U x A c :: l)) :
 St Z p G w ((((W.setCell ⟨g, ks.length * 4, none⟩ (.int .i64 x.k)).setCell ⟨g, ks.length * 4 + 1, none⟩ (.string x.t)).setCell ⟨g, ks.length * 4 + 2, none⟩ (.int .i64 x.num)).setCell ⟨g, ks.length * 4 + 3, none⟩ (.slice A x.kids.length c)) i
  (rw_ B (fun b => V b ∨ U b) (ks ++ [x]) (some ⟨g, 0, none⟩) c2 :: l) := by
 obtain ⟨xs, h1, h2, ho⟩ : AccW V B W (.slice (some ⟨g, 0, none⟩) (ks ++ [n0]).length c2) (ks ++ [n0]) := h.one
 have hx : RepV U W x (cN x A c) := h.ok _ (.tail _ (.head _))
 have a1 := List.pairwise_cons.1 h.ap
 have a2 := List.pairwise_cons.1 a1.2
 have hVg : V g := h2 g rfl
 have hg := h.inn _ (.head _) g hVg
 have hUV : ∀ b, U b → ¬ V b := fun b hu hv => a1.1 _ (.head _) b hv hu
 obtain ⟨ya, yb, rfl, h3, h4⟩ := RepCs.unsnoc ks xs h1
 have hya := RepCs.len ks ya h3
 have m := put4o_mv W g (ks.length * 4) (.int .i64 x.k) (.string x.t) (.int .i64 x.num) (.slice A x.kids.length c)
 have ho' := ((((ho.stored (ks.length * 4) (.int .i64 x.k)).1.stored (ks.length * 4 + 1) (.string x.t)).1.stored (ks.length * 4 + 2) (.int .i64 x.num)).1.stored (ks.length * 4 + 3) (.slice A x.kids.length c)).1
 generalize hW : (((W.setCell ⟨g, ks.length * 4, none⟩ (.int .i64 x.k)).setCell ⟨g, ks.length * 4 + 1, none⟩ (.string x.t)).setCell ⟨g, ks.length * 4 + 2, none⟩ (.int .i64 x.num)).setCell ⟨g, ks.length * 4 + 3, none⟩ (.slice A x.kids.length c) = W' at *
 have hsame : ∀ b, b < W.heap.size → b ≠ g → W'.heap[b]? = W.heap[b]? := fun b hb hne => m.block b hb (fun e => hne (by injection e))
 have hxs : ((((ya ++ yb).set (ks.length * 4) (.int .i64 x.k)).set (ks.length * 4 + 1) (.string x.t)).set (ks.length * 4 + 2) (.int .i64 x.num)).set (ks.length * 4 + 3) (.slice A x.kids.length c) = ya ++ cN x A c := by
  obtain ⟨y0, y1, y2, y3, rfl⟩ : ∃ y0 y1 y2 y3, yb = [y0, y1, y2, y3] := by
   match yb, h4 with
   | [y0, y1, y2, y3], _ => exact ⟨_, _, _, _, rfl⟩
  rw [← hya]
  simp [List.set_append, cN]
 rw [hxs] at ho'
 refine ⟨h.gp, fun b hb => Nat.lt_of_lt_of_le (h.gs b hb) m.size, h.mv.put hg.1 m, h.zf i W W' h.z m.size (fun b hb => hsame b (h.gs b hb) (fun e => hg.2.2 (e ▸ hb))), h.zf, fun r hr => ?_, fun r hr b hb => ?_, .cons (fun s hs b hb => ?_) a2.2⟩
 ·rcases List.mem_cons.1 hr with rfl | hr
  ·refine ⟨_, RepCs.snoc (V := fun b => (V b ∨ U b) ∧ some b ≠ some g) (RepV.keep m.size (fun b hv hlt => ⟨hsame b hlt (fun e => hUV b hv (e ▸ hVg)), .inr hv, fun e => hUV b hv (by injection e with e; exact e ▸ hVg)⟩) _ _ hx) ks ya (RepCs.keep m.size (fun b hv hlt => ⟨hsame b hlt (fun e => hv.2 (by rw [e]; rfl)), .inl hv.1, hv.2⟩) _ _ h3), fun g' e => .inl (h2 g' e), ?_⟩
   simpa using ho'
  ·exact r.fr (h.ok r (.tail _ (.tail _ hr))) m.size fun b hb hlt => hsame b hlt fun e => a1.1 r (.tail _ hr) b (e ▸ hVg) hb
 ·rcases List.mem_cons.1 hr with rfl | hr
  ·rcases hb with hb | hb
   ·have := h.inn _ (.head _) b hb; exact ⟨this.1, Nat.lt_of_lt_of_le this.2.1 m.size, this.2.2⟩
   ·have := h.inn _ (.tail _ (.head _)) b hb; exact ⟨this.1, Nat.lt_of_lt_of_le this.2.1 m.size, this.2.2⟩
  ·have := h.inn r (.tail _ (.tail _ hr)) b hb; exact ⟨this.1, Nat.lt_of_lt_of_le this.2.1 m.size, this.2.2⟩
 ·rcases hb with hb | hb
  ·exact a1.1 s (.tail _ hs) b hb
  ·exact a2.1 s hs b hb
theorem St.lose {b : Nat} {T : TypeId} {vs : Array Value} {W' : World} (h : St Z p G w W i (bx b T vs :: l)) (m : Mv b W W') : St Z p G w W' i l := by
 have hb := (h.inn _ (.head _) b rfl).1
 have hA := (List.pairwise_cons.1 h.ap).1
 have hG := (h.inn _ (.head _) b rfl).2.2
 refine ⟨h.gp, fun c hc => Nat.lt_of_lt_of_le (h.gs c hc) m.size, h.mv.put hb m, h.zf i W W' h.z m.size (fun x hx => m.block x (h.gs x hx) (fun e => by injection e with e; subst e; exact hG hx)), h.zf, fun x hx => ?_, fun x hx c hc => ?_, (List.pairwise_cons.1 h.ap).2⟩
 ·exact x.fr (h.ok x (.tail _ hx)) m.size fun c hc hlt => m.block c hlt (fun e => by injection e with e; exact hA x hx b rfl (e ▸ hc))
 ·have := h.inn x (.tail _ hx) c hc
  exact ⟨this.1, Nat.lt_of_lt_of_le this.2.1 m.size, this.2.2⟩
theorem St.rowfacts {V : Nat → Prop} {B g : Nat} {ks : List Nd} {n0 : Nd} {c2 : Nat} (h : St Z p G w W i (rw_ B V (ks ++ [n0]) (some ⟨g, 0, none⟩) c2 :: l)) : ∃ y0 y1 y2 y3,
 W.frozen? ⟨g, ks.length * 4, none⟩ = false ∧ W.frozen? ⟨g, ks.length * 4 + 1, none⟩ = false ∧ W.frozen? ⟨g, ks.length * 4 + 2, none⟩ = false ∧ W.frozen? ⟨g, ks.length * 4 + 3, none⟩ = false ∧
 W.cell? ⟨g, ks.length * 4, none⟩ = some y0 ∧ W.cell? ⟨g, ks.length * 4 + 1, none⟩ = some y1 ∧ W.cell? ⟨g, ks.length * 4 + 2, none⟩ = some y2 ∧ W.cell? ⟨g, ks.length * 4 + 3, none⟩ = some y3 := by
 obtain ⟨xs, h1, h2, ho⟩ : AccW V B W (.slice (some ⟨g, 0, none⟩) (ks ++ [n0]).length c2) (ks ++ [n0]) := h.one
 obtain ⟨ya, yb, rfl, h3, h4⟩ := RepCs.unsnoc ks xs h1
 have hya := RepCs.len ks ya h3
 obtain ⟨y0, y1, y2, y3, rfl⟩ : ∃ y0 y1 y2 y3, yb = [y0, y1, y2, y3] := by
  match yb, h4 with
  | [y0, y1, y2, y3], _ => exact ⟨_, _, _, _, rfl⟩
 have hc : ∀ (j : Nat) (v : Value), [y0, y1, y2, y3][j]? = some v → W.cell? ⟨g, ks.length * 4 + j, none⟩ = some v := fun j v hj => by
  have hj4 : j < 4 := (List.getElem?_eq_some_iff.1 hj).1
  rw [ho.cellAt _ (by simp; omega), List.getElem?_append_right (by omega), hya, show ks.length * 4 + j - ks.length * 4 = j by omega]
  exact hj
 exact ⟨y0, y1, y2, y3, ho.frozenAt _, ho.frozenAt _, ho.frozenAt _, ho.frozenAt _, hc 0 _ rfl, hc 1 _ rfl, hc 2 _ rfl, hc 3 _ rfl⟩
theorem St.row2 {y : Nat} {V U : Nat → Prop} {x z : Nd} {A A' : Option Addr} {c c' : Nat} (h : St Z p G w W i (bx y 24 (cN x A c ++ cN z A' c').toArray :: nd V x A c :: nd U z A' c' :: l)) :
 St Z p G w W i (rw_ w.heap.size (fun b => b = y ∨ V b ∨ U b) [x, z] (some ⟨y, 0, none⟩) 2 :: l) := by
 have a1 := List.pairwise_cons.1 h.ap
 have a2 := List.pairwise_cons.1 a1.2
 have a3 := List.pairwise_cons.1 a2.2
 have h1 : Blk W y 24 (cN x A c ++ cN z A' c').toArray := h.one
 have hx : RepV V W x (cN x A c) := h.ok _ (.tail _ (.head _))
 have hz : RepV U W z (cN z A' c') := h.ok _ (.tail _ (.tail _ (.head _)))
 have hyV : ¬ V y := fun hv => a1.1 _ (.head _) y rfl hv
 have hyU : ¬ U y := fun hv => a1.1 _ (.tail _ (.head _)) y rfl hv
 refine h.drop.drop.drop.cons ⟨cN x A c ++ cN z A' c', ⟨cN x A c, cN z A' c', rfl, RepV.keep (Nat.le_refl _) (fun b hv _ => ⟨rfl, .inr (.inl hv), fun e => hyV (by have e2 : some b = some y := e; injection e2 with e2; exact e2 ▸ hv)⟩) _ _ hx, cN z A' c', [], by simp, RepV.keep (Nat.le_refl _) (fun b hv _ => ⟨rfl, .inr (.inr hv), fun e => hyU (by have e2 : some b = some y := e; injection e2 with e2; exact e2 ▸ hv)⟩) _ _ hz, rfl⟩, fun g e => .inl (by have e2 : some y = some g := e; injection e2 with e2; exact e2.symm), rfl, .inr ⟨y, 2, _, rfl, (h.inn _ (.head _) y rfl).1, h1, Nat.le_refl _, by unfold maxLen; omega, rfl, rfl⟩⟩ (fun b hb => ?_) fun s hs b hb => ?_
 ·rcases hb with hb | hb | hb
  ·exact h.inn _ (.head _) b hb
  ·exact h.inn _ (.tail _ (.head _)) b hb
  ·exact h.inn _ (.tail _ (.tail _ (.head _))) b hb
 ·rcases hb with hb | hb | hb
  ·exact a1.1 s (.tail _ (.tail _ hs)) b hb
  ·exact a2.1 s (.tail _ hs) b hb
  ·exact a3.1 s hs b hb
theorem St.rowform {V : Nat → Prop} {B : Nat} {ks : List Nd} {A : Option Addr} {c2 : Nat} (h : St Z p G w W i (rw_ B V ks A c2 :: l)) (hne : ks ≠ []) : ∃ g, A = some ⟨g, 0, none⟩ ∧ ks.length ≤ c2 := by
 obtain ⟨xs, -, -, ho⟩ : AccW V B W (.slice A ks.length c2) ks := h.one
 rcases ho.2 with ⟨-, h0⟩ | ⟨g, cap, cur, e, -, -, hc, -⟩
 ·exact absurd (List.eq_nil_of_length_eq_zero h0) hne
 ·injection e with e1 e2 e3
  subst e3
  exact ⟨g, e1, hc⟩
end
end Go.Proofs.YtgegfbopogcjpaaGreatDoor
namespace Go.Proofs.YtgegfbopogcjpaaGreatDoor
open Go.RowKit
set_option linter.unusedVariables false
set_option linter.unusedSimpArgs false
set_option maxRecDepth 100000
set_option maxHeartbeats 2000000
abbrev SU (C : PC) (w W : World) (i : Nat) (l : List Rc) : Prop := St (fun j W' => PSt C W' j) C.p (GU w C.p) w W i l
def PaRel (C : PC) (w : World) (F : Nat) (R : Res Nd) (gk : Nat) (wr : World) : Prop :=
 ∃ (ks : List Nd) (A : Option Addr) (c : Nat) (V : Nat → Prop) (i : Nat), Hid (SU C w wr i [rw_ w.heap.size V ks A c, bx w.heap.size 24 #[.int .i64 1, .string ⟨#[]⟩, .int .i64 0, .slice A ks.length c], bx (w.heap.size + 1) 27 #[.int .i64 0, .int .i64 0]]) ∧ Hid (unitM C.L F gk ks i = R) ∧ ks.length + gk ≤ C.L.length + 1
theorem parse_any (hd : ∀ C F, POk C 12 (declM C.L F)) (s : ByteArray) (w : World) (hml : ML w) (he : ER w) : Calls Tryz.prog 6 #[.string s] w (PaOut s w) := by
 have K1 := Lib.hid ((Blk.new_ w 24 #[.int .i64 0, .string ⟨#[]⟩, .int .i64 0, .slice none 0 0]).alloc (.cells #[.int .i64 0, .int .i64 0] 27))
 have K2 : Hid (Blk ((w.alloc (.cells #[.int .i64 0, .string ⟨#[]⟩, .int .i64 0, .slice none 0 0] 24)).alloc (.cells #[.int .i64 0, .int .i64 0] 27)) (w.heap.size + 1) 27 #[.int .i64 0, .int .i64 0]) := by
  have := Blk.new_ (w.alloc (.cells #[.int .i64 0, .string ⟨#[]⟩, .int .i64 0, .slice none 0 0] 24)) 27 #[.int .i64 0, .int .i64 0]
  rwa [World.size_alloc] at this
 have B0 : Hid (Below w.heap.size w ((w.alloc (.cells #[.int .i64 0, .string ⟨#[]⟩, .int .i64 0, .slice none 0 0] 24)).alloc (.cells #[.int .i64 0, .int .i64 0] 27))) := Lib.hid (((Below.refl _ _).alloc (Nat.le_refl _) _).alloc (by simp) _)
 have HML := Lib.hid hml
 have HE := Lib.hid he
 have HD := Lib.hid hd
 obtain ⟨P, HPP⟩ : ∃ P, Hid (parseOf s = P) := ⟨_, rfl⟩
 unfold PaOut
 rw [HPP.out]
 clear hml he hd
 go_enter_defers Tryz.func6, Tryz.ntmps6
 go_wp2_with fail
 generalize ((w.alloc (.cells #[.int .i64 0, .string ⟨#[]⟩, .int .i64 0, .slice none 0 0] 24)).alloc (.cells #[.int .i64 0, .int .i64 0] 27)) = w0 at *
 refine (scan_any s w0 (HE.out.keep B0.out)).mono ?_
 rintro e w1 ⟨A, c, rfl, hrow, hb1⟩
 replace K1 := Lib.hid (K1.out.below hb1)
 replace K2 := Lib.hid (K2.out.below hb1)
 replace B0 := Lib.hid (below_trans B0.out (Nat.le_refl _) hb1)
 have hrow2 : Row w1 A ((lexOf s).l.flatMap tkV) := hrow
 have HROW := Lib.hid hrow2
 have HLEN := Lib.hid (lexOf_len s).1
 have HOKT := Lib.hid (lexOf_ok s)
 have HFP := Lib.hid (lexOf_p (s := s))
 obtain ⟨R, HR⟩ : ∃ R, Hid (unitR (lexOf s).l = R) := ⟨_, rfl⟩
 have HW : Hid (R ≠ .dry) := by show _ ≠ _; rw [← HR.out]; exact unit_wet _
 have HP : Hid (parseOf s = paOf (lexOf s).e (lexOf s).p (lexOf s).l s.size R) := by show _ = _; rw [← HR.out]; rfl
 rw [HPP.out] at HP
 clear hrow hrow2 hb1 HPP
 generalize (lexOf s).l = L at *
 generalize (lexOf s).e = E at *
 obtain ⟨FP, hFP⟩ : ∃ x : Nat, (lexOf s).p = x := ⟨_, rfl⟩
 rw [hFP] at HP HFP ⊢
 clear hFP
 have hr1b : w.heap.size + 1 < w1.heap.size := K2.out.lt
 have k0 := K2.out.free 0
 have k1 := K2.out.free 1
 have l0 := K2.out.cell 0 (.int .i64 0) rfl
 have l1 := K2.out.cell 1 (.int .i64 0) rfl
 have hne1 : w.heap.size ≠ w.heap.size + 1 := by omega
 have hne2 : w.heap.size + 1 ≠ w.heap.size := by omega
 obtain ⟨f0, f1, f2, f3, g0, g1, g2, g3⟩ := K1.out.all4
 by_cases hE : E = 0
 ·have HOK := Lib.hid (HOKT.out hE)
  obtain ⟨rfl, hs4⟩ := HFP.out hE
  subst hE
  clear HOKT HFP f0 f1 f2 f3 g0 g1 g2 g3
  go_upto_region 6 with (fail)
  clear k0 k1 l0 l1
  have m1 := (put1_mv w1 (w.heap.size + 1) 0 (.int .i64 0))
  have m2 := (put1_mv (w1.setCell ⟨w.heap.size + 1, 0, none⟩ (.int .i64 0)) (w.heap.size + 1) 1 (.int .i64 0))
  have K20 := K2
  replace K1 := Lib.hid (m2.blk (m1.blk K1.out hne1) hne1)
  replace K2 := Lib.hid ((K2.out.set_ 0 (.int .i64 0)).set_ 1 (.int .i64 0))
  simp only [List.setIfInBounds_toArray, List.set_cons_zero, List.set_cons_succ] at K2
  replace B0 := Lib.hid ((B0.out.setCell (p := ⟨w.heap.size + 1, 0, none⟩) (by show w.heap.size ≤ w.heap.size + 1; omega) (.int .i64 0)).setCell (p := ⟨w.heap.size + 1, 1, none⟩) (by show w.heap.size ≤ w.heap.size + 1; omega) (.int .i64 0))
  have HRW2 : Hid (Row ((w1.setCell ⟨w.heap.size + 1, 0, none⟩ (.int .i64 0)).setCell ⟨w.heap.size + 1, 1, none⟩ (.int .i64 0)) A (L.flatMap tkV)) := by
   have hb : L.flatMap tkV ≠ [] → ∀ b o, A = some ⟨b, o, none⟩ → b ≠ w.heap.size + 1 := fun hne b o e => row_box HROW.out HOK.out (tk_ne hne) K20.out fault_zero b o e
   exact (HROW.out.grown_ m1 hb).grown_ m2 hb
  clear m1 m2 K20 HROW
  generalize hW0 : (w1.setCell ⟨w.heap.size + 1, 0, none⟩ (.int .i64 0)).setCell ⟨w.heap.size + 1, 1, none⟩ (.int .i64 0) = W0 at *
  have hsz : w1.heap.size = W0.heap.size := by rw [← hW0]; simp [World.setCell]
  rw [hsz]
  obtain ⟨C, HC⟩ : ∃ C : PC, C = ⟨W0.heap.size, A, c, L, s.size⟩ := ⟨_, rfl⟩
  have HS : Hid (SU C w (W0.alloc (.cells #[.slice A L.length c, .int .i64 0, .int .i64 (s.size : Int)] 42)) 0 [rw_ w.heap.size (fun _ => False) [] none 0, bx w.heap.size 24 #[.int .i64 0, .string ⟨#[]⟩, .int .i64 0, .slice none 0 0], bx (w.heap.size + 1) 27 #[.int .i64 0, .int .i64 0]]) := by
   rw [HC]; exact uni_st B0.out K1.out K2.out HRW2.out HOK.out HLEN.out hs4 HML.out
  have hpC : W0.heap.size = C.p := by rw [HC]
  have hCL : C.L = L := by rw [HC]
  have hCE : C.E = s.size := by rw [HC]
  have hwp : w.heap.size + 1 < C.p := by rw [← hpC]; exact K2.out.lt
  rw [hpC]
  subst hCL
  have hlen := HLEN.out
  clear K1 K2 B0 HRW2 HOK HLEN HML HE hsz hr1b
  generalize W0.alloc (.cells #[.slice A C.L.length c, .int .i64 0, .int .i64 (s.size : Int)] 42) = w2 at *
  clear hW0 hpC HC
  replace HS := Lib.hid HS.out.f1
  have f0 := HS.out.one.free 0
  have g0 := HS.out.one.cell 0 _ rfl
  go_wp2_with fail
  clear f0 g0
  replace HS := Lib.hid (HS.out.put1 0 (.int .i64 1)).f1
  generalize w2.setCell ⟨w.heap.size, 0, none⟩ (.int .i64 1) = w3 at *
  have HR0 : Hid (unitM C.L (C.L.length + 1) (C.L.length + 1) [] 0 = R) := HR.out
  clear HR
  go_loopg [] (C.L.length + 1) (fun gk wr => PaRel C w (C.L.length + 1) R gk wr)
  case atStart => exact ⟨[], none, 0, _, 0, HS, HR0, by simp⟩
  case round =>
   clear HS HR0
   obtain ⟨ks, Ak, ck, Vk, i, HS, HR, hc⟩ := hrel
   cases gk with
   | zero => exact absurd (show Res.dry = R from HR.out) (fun e => HW.out e.symm)
   | succ g =>
   have hR := HR.out
   rw [unitM] at hR
   replace HR := Lib.hid hR
   clear hR
   have q1 := HS.out.z.blk.cell 1 (.int .i64 (i : Int)) rfl
   by_cases hi : i < C.L.length
   ·have d1 : (i : Int) < (C.L.length : Int) := by omega
    have hR := HR.out
    rw [if_pos hi] at hR
    replace HR := Lib.hid hR
    clear hR
    go_wp2_with fail
    replace HS := Lib.hid (HS.out.below (Below.refl _ _).drew)
    refine wp_region_held_drew (S := fun _ => True) (by kernel_rfl) trivial (fun _ => ?_)
    clear q1
    generalize wr.drew = w4 at *
    refine wpAnyH_grp [⟨0, some 31, []⟩, ⟨1, some 32, [0]⟩, ⟨2, some 33, []⟩, ⟨3, some 34, [2]⟩, ⟨4, some 35, [0, 1]⟩, ⟨5, some 36, []⟩] 5 (fun vs W => ∃ x j Ax cx Vx y, Hid (SU C w W (altq (vs 3) i j) (ifq (vs 3) (nd Vx x Ax cx) ++ (ifq (vs 5) (bx y 24 #[.int .i64 0, .string ⟨#[]⟩, .int .i64 0, .slice none 0 0]) ++ [rw_ w.heap.size Vk ks Ak ck, bx w.heap.size 24 #[.int .i64 1, .string ⟨#[]⟩, .int .i64 0, .slice Ak ks.length ck], bx (w.heap.size + 1) 27 #[.int .i64 0, .int .i64 0]]))) ∧ OV (vs 0) (.pointer (some ⟨w.heap.size, 3, none⟩)) ∧ OV (vs 1) (.slice Ak ks.length ck) ∧ OV (vs 2) (.pointer (some ⟨C.p, 0, none⟩)) ∧ OP (vs 3) (fun u => u = .agg #[.int .i64 x.k, .string x.t, .int .i64 x.num, .slice Ax x.kids.length cx] ∧ declM C.L (C.L.length + 1) i = .ok x j) ∧ OV (vs 4) (.int .i64 (ks.length : Int)) ∧ OV (vs 5) (.slice (some ⟨y, 0, none⟩) 1 1)) (by rfl) (by kernel_rfl) ⟨nd0, 0, none, 0, fun _ => False, 0, HS, OP.no _ rfl, OP.no _ rfl, OP.no _ rfl, OP.no _ rfl, OP.no _ rfl, OP.no _ rfl⟩ (fun _ _ _ => trivial) ⟨?_, ?_, ?_, ?_, ?_, ?_, trivial⟩ ?_
    ·clear HS; refine ⟨_, rfl, fun vs W h0 hd hn ⟨x, j, Ax, cx, Vx, y, HS, e0, e1, e2, e3, e4, e5⟩ => ?_⟩
     simp only [actG, old, Option.getD_some]; (try simp only [List.getElem_toArray, List.getElem_cons_succ, List.getElem_cons_zero, Act.put, List.setIfInBounds_toArray, List.set_cons_zero, List.set_cons_succ]); intro K hK
     go_simp
     exact hK.out _ _ ⟨x, j, Ax, cx, Vx, y, HS, OP.is rfl, OP.no _ hn.2.1, e2, e3, OP.no _ hn.2.2.2.2.1, e5⟩
    ·clear HS; refine ⟨_, rfl, fun vs W h1 hd hn ⟨x, j, Ax, cx, Vx, y, HS, e0, e1, e2, e3, e4, e5⟩ => ?_⟩
     obtain ⟨⟨v0, h0⟩, -⟩ := hd
     obtain rfl := e0 _ h0
     have b3 := Blk.cell (show Blk W w.heap.size 24 #[.int .i64 1, .string ⟨#[]⟩, .int .i64 0, .slice Ak ks.length ck] from HS.out.ok (bx w.heap.size 24 #[.int .i64 1, .string ⟨#[]⟩, .int .i64 0, .slice Ak ks.length ck]) (by simp)) 3 (.slice Ak ks.length ck) rfl
     simp only [actG, old, h0, Option.getD_some]; (try simp only [List.getElem_toArray, List.getElem_cons_succ, List.getElem_cons_zero, Act.put, List.setIfInBounds_toArray, List.set_cons_zero, List.set_cons_succ]); intro K hK
     go_simp
     exact hK.out _ _ ⟨x, j, Ax, cx, Vx, y, HS, e0, OP.is rfl, e2, e3, OP.no _ hn.2.2.2.2.1, e5⟩
    ·clear HS; refine ⟨_, rfl, fun vs W h2 hd hn ⟨x, j, Ax, cx, Vx, y, HS, e0, e1, e2, e3, e4, e5⟩ => ?_⟩
     simp only [actG, old, Option.getD_some]; (try simp only [List.getElem_toArray, List.getElem_cons_succ, List.getElem_cons_zero, Act.put, List.setIfInBounds_toArray, List.set_cons_zero, List.set_cons_succ]); intro K hK
     go_simp
     exact hK.out _ _ ⟨x, j, Ax, cx, Vx, y, HS, e0, e1, OP.is rfl, OP.no _ hn.2.2.2.1, e4, e5⟩
    ·clear HS; refine ⟨_, rfl, fun vs W h3 hd hn ⟨x, j, Ax, cx, Vx, y, HS, e0, e1, e2, e3, e4, e5⟩ => ?_⟩
     obtain ⟨⟨v2, h2⟩, -⟩ := hd
     obtain rfl := e2 _ h2
     have hbb : Blk W w.heap.size 24 #[.int .i64 1, .string ⟨#[]⟩, .int .i64 0, .slice Ak ks.length ck] := HS.out.ok (bx w.heap.size 24 #[.int .i64 1, .string ⟨#[]⟩, .int .i64 0, .slice Ak ks.length ck]) (by simp)
     have hbf : Blk W (w.heap.size + 1) 27 #[.int .i64 0, .int .i64 0] := HS.out.ok (bx (w.heap.size + 1) 27 #[.int .i64 0, .int .i64 0]) (by simp)
     have HBB := Lib.hid hbb
     have HBF := Lib.hid hbf
     clear hbb hbf
     rw [h3] at HS
     simp only [actG, old, h2, Option.getD_some]; (try simp only [List.getElem_toArray, List.getElem_cons_succ, List.getElem_cons_zero, Act.put, List.setIfInBounds_toArray, List.set_cons_zero, List.set_cons_succ]); intro K hK
     go_simp
     have hwet := bindW HR.out HW.out
     refine (HD.out C (C.L.length + 1) W i HS.out.z hwet).mono ?_
     rcases hm : declM C.L (C.L.length + 1) i with ⟨x', j'⟩ | k | _
     ·rintro e W' ⟨A', c', rfl, hr, h', m'⟩
      exact hK.out _ _ ⟨x', j', A', c', fun b => W.heap.size ≤ b ∧ b < W'.heap.size, y, HS.out.add (r := nd _ x' A' c') (HS.out.to m' h') (RepV.keep (Nat.le_refl _) (fun b hv hlt => ⟨rfl, hv, hlt⟩) _ _ hr) (fun b hb => hb), e0, e1, e2, OP.is ⟨rfl, hm⟩, e4, e5⟩
     ·rintro e W' ⟨he, m'⟩
      have hmv := HS.out.mv.trans_ m'
      have K1 := Lib.hid (m'.blk HBB.out (by omega))
      have K2 := Lib.hid (m'.blk HBF.out (by omega))
      have HB2 : Hid (Below w.heap.size w W') := ⟨hmv.os, hmv.tape, hmv.output, hmv.size, fun b hb => hmv.block b hb (fun e => by injection e with e; omega)⟩
      have hR := bindB HR.out hm
      have HP2 := Lib.hid HP.out
      rw [← hR] at HP2
      have HP3 : Hid (P = ⟨nd0, 2, match C.L[k]? with | some t => t.p | none => s.size⟩) := HP2.out
      have HQ : Hid (((P.p : Nat) : Int) = posAt C k) := by
       show _ = _
       rw [HP3.out]
       unfold posAt
       rw [hCE]
       rcases C.L[k]? with _ | t <;> rfl
      unfold badE at he
      subst he
      clear hmv m' hm hR HP2
      generalize posAt C k = q at *
      go_wp2
      exact leaveU_bad _ K1.out K2.out HB2.out rfl rfl (by rw [HP3.out]) (by rw [HP3.out]) HQ.out
     ·exact absurd hm hwet
    ·clear HS; refine ⟨_, rfl, fun vs W h4 hd hn ⟨x, j, Ax, cx, Vx, y, HS, e0, e1, e2, e3, e4, e5⟩ => ?_⟩
     obtain ⟨⟨v0, h0⟩, ⟨v1, h1⟩, -⟩ := hd
     obtain rfl := e0 _ h0
     obtain rfl := e1 _ h1
     simp only [actG, old, h0, h1, Option.getD_some]; (try simp only [List.getElem_toArray, List.getElem_cons_succ, List.getElem_cons_zero, Act.put, List.setIfInBounds_toArray, List.set_cons_zero, List.set_cons_succ]); intro K hK
     go_simp
     exact hK.out _ _ ⟨x, j, Ax, cx, Vx, y, HS, e0, e1, e2, e3, OP.is rfl, e5⟩
    ·clear HS; refine ⟨_, rfl, fun vs W h5 hd hn ⟨x, j, Ax, cx, Vx, y, HS, e0, e1, e2, e3, e4, e5⟩ => ?_⟩
     rw [h5] at HS
     simp only [actG, old, Option.getD_some]; (try simp only [List.getElem_toArray, List.getElem_cons_succ, List.getElem_cons_zero, Act.put, List.setIfInBounds_toArray, List.set_cons_zero, List.set_cons_succ]); intro K hK
     go_simp
     exact hK.out _ _ ⟨x, j, Ax, cx, Vx, W.heap.size, (HS.out.box 24 #[.int .i64 0, .string ⟨#[]⟩, .int .i64 0, .slice none 0 0]).perm List.perm_middle.symm, e0, e1, e2, e3, e4, OP.is rfl⟩
    clear HS; intro vs W ⟨x, j, Ax, cx, Vx, y, HS, e0, e1, e2, e3, e4, e5⟩ hall
    obtain ⟨⟨v0, h0⟩, ⟨v1, h1⟩, ⟨v2, h2⟩, ⟨v3, h3⟩, ⟨v4, h4⟩, ⟨v5, h5⟩, -⟩ := hall
    obtain rfl := e0 _ h0
    obtain rfl := e1 _ h1
    obtain rfl := e2 _ h2
    obtain ⟨rfl, hr⟩ := e3 _ h3
    obtain rfl := e4 _ h4
    obtain rfl := e5 _ h5
    rw [h3, h5] at HS
    simp only [altq_some, ifq_some, List.cons_append, List.nil_append] at HS
    simp only [actG, lisG, old, h0, h1, h2, h3, h4, h5, Option.getD_some, Option.isSome_some, if_true, List.length_cons, List.length_nil]; (try simp only [List.getElem_toArray, List.getElem_cons_succ, List.getElem_cons_zero, Act.put, List.setIfInBounds_toArray, List.set_cons_zero, List.set_cons_succ])
    clear h0 e0 h2 e2 h1 e1 h3 e3 h4 e4 h5 e5 vs
    obtain ⟨w5, rfl⟩ : ∃ x, x = W := ⟨_, rfl⟩
    replace HR := bindO HR.out hr
    clear hr
    replace HS := Lib.hid (HS.out.f2.f2.f1.leaf 0 ⟨#[]⟩ 0 i64_0 (Nat.zero_le _)).f1
    refine wpAnyH_ready (rs := [6]) (by kernel_rfl) (by simp) (AllReadyH.cons rfl (fun K hK => ?_) AllReadyH.nil)
    rw [if_pos (by rfl)]
    refine oper_push (x := nd0) HS.out rfl (by omega) _ _ rfl rfl rfl ?_
    clear HS; intro A3 c2 V2 w6 HS
    obtain ⟨gg, rfl, -⟩ := HS.out.rowform (by simp)
    refine hK.out _ _ trivial (fun _ => ?_)
    clear hK K
    (try simp only [List.getElem_toArray, List.getElem_cons_succ, List.getElem_cons_zero, Act.put, List.setIfInBounds_toArray, List.set_cons_zero, List.set_cons_succ])
    have i1 : (0 : Int) ≤ (ks.length : Int) := by omega
    have i2 : (ks.length : Int) < (ks.length : Int) + 1 := by omega
    refine wpAnyH_grp [⟨7, some 38, []⟩, ⟨8, none, [7]⟩, ⟨9, some 39, []⟩, ⟨10, none, [9]⟩] 0 (fun vs W => Hid (SU C w W j (altq (vs 8) [rw_ w.heap.size V2 (ks ++ [nd0]) (some ⟨gg, 0, none⟩) c2, nd Vx x Ax cx] [rw_ w.heap.size (fun b => V2 b ∨ Vx b) (ks ++ [x]) (some ⟨gg, 0, none⟩) c2] ++ (altq (vs 10) [bx w.heap.size 24 #[.int .i64 1, .string ⟨#[]⟩, .int .i64 0, .slice Ak ks.length ck]] [bx w.heap.size 24 #[.int .i64 1, .string ⟨#[]⟩, .int .i64 0, .slice (some ⟨gg, 0, none⟩) (ks.length + 1) c2]] ++ [bx (w.heap.size + 1) 27 #[.int .i64 0, .int .i64 0]]))) ∧ OV (vs 7) (.pointer (some ⟨gg, ks.length * 4, none⟩)) ∧ OV (vs 9) (.pointer (some ⟨w.heap.size, 3, none⟩))) (by rfl) (by kernel_rfl) ⟨HS, OP.no _ rfl, OP.no _ rfl⟩ (fun _ _ _ => trivial) ⟨?_, ?_, ?_, ?_, trivial⟩ ?_
    ·clear HS; refine ⟨_, rfl, fun vs W h7 hd hn ⟨HS, e7, e9⟩ => ?_⟩
     simp only [actG, old, Option.getD_some]; (try simp only [List.getElem_toArray, List.getElem_cons_succ, List.getElem_cons_zero, Act.put, List.setIfInBounds_toArray, List.set_cons_zero, List.set_cons_succ]); intro K hK
     go_simp
     exact hK.out _ _ ⟨HS, OP.is rfl, e9⟩
    ·clear HS; refine ⟨_, rfl, fun vs W h8 hd hn ⟨HS, e7, e9⟩ => ?_⟩
     obtain ⟨⟨v7, h7⟩, -⟩ := hd
     obtain rfl := e7 _ h7
     rw [h8] at HS
     obtain ⟨y0, y1, y2, y3, f0, f1, f2, f3, g0, g1, g2, g3⟩ := HS.out.rowfacts
     simp only [actG, old, h7, Option.getD_some]; (try simp only [List.getElem_toArray, List.getElem_cons_succ, List.getElem_cons_zero, Act.put, List.setIfInBounds_toArray, List.set_cons_zero, List.set_cons_succ]); intro K hK
     go_simp
     exact hK.out undef _ ⟨HS.out.rowset, e7, e9⟩
    ·clear HS; refine ⟨_, rfl, fun vs W h9 hd hn ⟨HS, e7, e9⟩ => ?_⟩
     simp only [actG, old, Option.getD_some]; (try simp only [List.getElem_toArray, List.getElem_cons_succ, List.getElem_cons_zero, Act.put, List.setIfInBounds_toArray, List.set_cons_zero, List.set_cons_succ]); intro K hK
     go_simp
     exact hK.out _ _ ⟨HS, e7, OP.is rfl⟩
    ·clear HS; refine ⟨_, rfl, fun vs W h10 hd hn ⟨HS, e7, e9⟩ => ?_⟩
     obtain ⟨⟨v9, h9⟩, -⟩ := hd
     obtain rfl := e9 _ h9
     rw [h10] at HS
     have H2 := Lib.hid (HS.out.perm List.perm_middle)
     have f3 := H2.out.one.free 3
     have g3 := H2.out.one.cell 3 (.slice Ak ks.length ck) rfl
     simp only [actG, old, h9, Option.getD_some]; (try simp only [List.getElem_toArray, List.getElem_cons_succ, List.getElem_cons_zero, Act.put, List.setIfInBounds_toArray, List.set_cons_zero, List.set_cons_succ]); intro K hK
     go_simp
     exact hK.out undef _ ⟨(H2.out.put1 3 (.slice (some ⟨gg, 0, none⟩) (ks.length + 1) c2)).perm List.perm_middle.symm, e7, e9⟩
    clear HS; intro vs W ⟨HS, e7, e9⟩ hall
    obtain ⟨⟨v7, h7⟩, ⟨v8, h8⟩, ⟨v9, h9⟩, ⟨v10, h10⟩, -⟩ := hall
    obtain rfl := e7 _ h7
    obtain rfl := e9 _ h9
    rw [h8, h10] at HS
    simp only [altq_some, List.cons_append, List.nil_append] at HS
    simp only [actG, lisG, old, h7, h8, h9, h10, Option.getD_some, Option.isSome_some, if_true, List.length_cons, List.length_nil]; (try simp only [List.getElem_toArray, List.getElem_cons_succ, List.getElem_cons_zero, Act.put, List.setIfInBounds_toArray, List.set_cons_zero, List.set_cons_succ])
    clear h7 e7 h8 h9 e9 h10 vs
    obtain ⟨w7, rfl⟩ : ∃ x, x = W := ⟨_, rfl⟩
    refine wpAnyH_done (by kernel_rfl) ?_ _
    go_wp2_with fail
    go_roundg g
    case measure => omega
    case rel => exact ⟨_, _, c2, _, _, (by have h := HS.out; rw [show ks.length + 1 = (ks ++ [x]).length by simp] at h; exact h), HR, by simp; omega⟩
   ·have d1 : ¬ (i : Int) < (C.L.length : Int) := by omega
    have hR := HR.out
    rw [if_neg hi] at hR
    replace HR := Lib.hid hR
    clear hR
    have HS2 := Lib.hid (HS.out.kids 1 ⟨#[]⟩ 0 i64_0 (Nat.zero_le _))
    have HS3 := Lib.hid (HS2.out.box 3 #[.int .i64 0]).f2
    obtain ⟨f0, f1, f2, f3, g0, g1, g2, g3⟩ := HS3.out.one.all4
    have hb1 : Below wr.heap.size wr (wr.alloc (.cells #[.int .i64 0] 3)) := (Below.refl _ _).alloc (Nat.le_refl _) _
    have HWE := Lib.hid (weigh_any wr (.mk 1 ⟨#[]⟩ 0 ks) (cN (.mk 1 ⟨#[]⟩ 0 ks) Ak ck) (wr.alloc (.cells #[.int .i64 0] 3)) wr.heap.size 0 1 (RepV.rep _ _ HS2.out.one) hb1 (Nat.le_refl _) (Blk.new_ _ _ _) (by omega) (by omega) (by omega) (by omega))
    go_wp2_with fail
    clear f0 f1 f2 f3 g0 g1 g2 g3 hb1 q1
    refine HWE.out.mono ?_
    rintro e w5 ⟨gr, hcase⟩
    rw [wOk_fits] at hcase
    replace HS3 := Lib.hid ((HS3.out.f1.lose (show Mv wr.heap.size _ w5 from gr)))
    clear HS HS2 HWE gr
    rcases hcase with ⟨hfit, rfl, -⟩ | ⟨hfit, rfl⟩
    ·have HP2 : Hid (P = ⟨.mk 1 ⟨#[]⟩ 0 ks, 0, 0⟩) := by
      show _ = _
      rw [HP.out, ← HR.out]
      unfold paOf
      rw [if_neg (by simp)]
      simp only
      rw [if_pos hfit]
     obtain ⟨f0, f1, f2, f3, g0, g1, g2, g3⟩ := HS3.out.one.all4
     have hf := HS3.out.f2.one
     have HBF : Hid (Blk w5 (w.heap.size + 1) 27 #[.int .i64 0, .int .i64 0]) := hf
     have k0 := HBF.out.free 0
     have k1 := HBF.out.free 1
     have l0 := HBF.out.cell 0 (.int .i64 0) rfl
     have l1 := HBF.out.cell 1 (.int .i64 0) rfl
     clear hf hfit
     go_wp2_with fail
     go_region
     go_wp2_with fail
     have H9 := (((HS3.out.put4 (.int .i64 1) (.string ⟨#[]⟩) (.int .i64 0) (.slice Ak ks.length ck)).f2.put1 0 (.int .i64 0)).put1 1 (.int .i64 0)).below (Below.refl _ _).drew
     exact leaveU_ok (n := .mk 1 ⟨#[]⟩ 0 ks) (A := Ak) (c := ck) _ H9.f1.one rfl H9.one (mv_low H9.mv (by omega)) rfl rfl (by rw [HP2.out]) (by rw [HP2.out]) (by rw [HP2.out]; rfl) (RepV.rep _ _ H9.f2.one)
    ·have HP2 : Hid (P = ⟨nd0, 1, 0⟩) := by
      show _ = _
      rw [HP.out, ← HR.out]
      unfold paOf
      rw [if_neg (by simp)]
      simp only
      rw [if_neg (by rw [hfit]; simp)]
     obtain ⟨f0, f1, f2, f3, g0, g1, g2, g3⟩ := HS3.out.one.all4
     have hf := HS3.out.f2.one
     have HBF : Hid (Blk w5 (w.heap.size + 1) 27 #[.int .i64 0, .int .i64 0]) := hf
     have k0 := HBF.out.free 0
     have k1 := HBF.out.free 1
     have l0 := HBF.out.cell 0 (.int .i64 0) rfl
     have l1 := HBF.out.cell 1 (.int .i64 0) rfl
     clear hf hfit
     go_wp2_with fail
     have H9 := ((HS3.out.put4 (.int .i64 0) (.string ⟨#[]⟩) (.int .i64 0) (.slice none 0 0)).f2.put1 0 (.int .i64 1)).put1 1 (.int .i64 0)
     exact leaveU_ok (n := nd0) _ H9.f1.one rfl H9.one (mv_low H9.mv (by omega)) rfl rfl (by rw [HP2.out]) (by rw [HP2.out]) (by rw [HP2.out]; rfl) (repN_zero _)
 ·have hE2 : (E == 0) = false := by simpa using hE
  go_wp2_with fail
  go_region
  go_wp2_with fail
  have hP : P = ⟨nd0, E, FP⟩ := by rw [HP.out]; unfold paOf; rw [if_pos hE]
  have KN := (Blk.far (Blk.far (blk_put4 (Blk.far (Blk.far K1.out (p := ⟨w.heap.size + 1, 0, none⟩) hne1 (.int .i64 E)) (p := ⟨w.heap.size + 1, 1, none⟩) hne1 (.int .i64 (FP : Int))) (.int .i64 0) (.string ⟨#[]⟩) (.int .i64 0) (.slice none 0 0)) (p := ⟨w.heap.size + 1, 0, none⟩) hne1 (.int .i64 E)) (p := ⟨w.heap.size + 1, 1, none⟩) hne1 (.int .i64 (FP : Int)))
  have KF := (((Blk.far (Blk.far (Blk.far (Blk.far ((K2.out.set_ 0 (.int .i64 E)).set_ 1 (.int .i64 (FP : Int))) (p := ⟨w.heap.size, 0, none⟩) hne2 (.int .i64 0)) (p := ⟨w.heap.size, 1, none⟩) hne2 (.string ⟨#[]⟩)) (p := ⟨w.heap.size, 2, none⟩) hne2 (.int .i64 0)) (p := ⟨w.heap.size, 3, none⟩) hne2 (.slice none 0 0)).set_ 0 (.int .i64 E)).set_ 1 (.int .i64 (FP : Int)))
  have BF := Below.drew (Below.setCell (Below.setCell (Below.setCell (Below.setCell (Below.setCell (Below.setCell (Below.setCell (Below.setCell B0.out (p := ⟨w.heap.size + 1, 0, none⟩) (by show w.heap.size ≤ w.heap.size + 1; omega) (.int .i64 E)) (p := ⟨w.heap.size + 1, 1, none⟩) (by show w.heap.size ≤ w.heap.size + 1; omega) (.int .i64 (FP : Int))) (p := ⟨w.heap.size, 0, none⟩) (by show w.heap.size ≤ w.heap.size; omega) (.int .i64 0)) (p := ⟨w.heap.size, 1, none⟩) (by show w.heap.size ≤ w.heap.size; omega) (.string ⟨#[]⟩)) (p := ⟨w.heap.size, 2, none⟩) (by show w.heap.size ≤ w.heap.size; omega) (.int .i64 0)) (p := ⟨w.heap.size, 3, none⟩) (by show w.heap.size ≤ w.heap.size; omega) (.slice none 0 0)) (p := ⟨w.heap.size + 1, 0, none⟩) (by show w.heap.size ≤ w.heap.size + 1; omega) (.int .i64 E)) (p := ⟨w.heap.size + 1, 1, none⟩) (by show w.heap.size ≤ w.heap.size + 1; omega) (.int .i64 (FP : Int)))
  exact ⟨_, results_par (by kernel_rfl) (Blk.drw KN) (Blk.drw KF) rfl rfl, none, 0, by rw [hP]; rfl, by rw [hP]; exact repN_zero _, BF⟩
end Go.Proofs.YtgegfbopogcjpaaGreatDoor
