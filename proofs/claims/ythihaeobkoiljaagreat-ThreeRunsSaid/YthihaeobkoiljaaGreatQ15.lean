/- Lemmas for the law. -/
import Derived.Test.YthihaeobkoiljaaGreatQ14
set_option linter.unusedVariables false
set_option linter.unusedSimpArgs false
set_option maxRecDepth 100000
set_option maxHeartbeats 40000000
namespace Go.Proofs.YthihaeobkoiljaaGreat
open Go.RowKit
theorem bod_at {l : List Un} {u i : Nat} (hu : u < l.length) (hi : i < l[u].bs.length) : bod l u i = l[u].bs[i] := by
 unfold bod; rw [unAt_at hu]; simp [List.getD_eq_getElem?_getD, hi]
structure FrOk (l : List Un) (f : Fr) : Prop where
 hu : f.u < l.length
 hi : f.i < (unAt l f.u).bs.length
 hr : f.r.length = (bod l f.u f.i).regs.toNat
 rv : ∀ x ∈ f.r, W32 x
 bv : ∀ x ∈ f.b, W32 x
 bl : f.b.length ≤ 12
 pc : f.pc < (bod l f.u f.i).code.length
theorem bod_ok {l : List Un} (L : Lnk l) {u i : Nat} (hu : u < l.length) (hi : i < (unAt l u).bs.length) : bodyB (bod l u i) = true := by
 have hi' : i < l[u].bs.length := by rw [unAt_at hu] at hi; exact hi
 rw [bod_at hu hi']
 exact unit_body (L.un u hu) hi'
structure BodOk (b : Bo) : Prop where
 ty : b.ty.k = 4
 my : may b.ty = true
 rl : (parW b.ty : Int) ≤ b.regs
 rh : b.regs ≤ 8000
 n1 : 1 ≤ b.code.length
 n2 : b.code.length ≤ 6000
 os : ∀ o ∈ b.code, orderB b.ty b.regs b.code.length o = true
 la : ∀ (h : b.code.length - 1 < b.code.length), b.code[b.code.length - 1].op = 9 ∨ b.code[b.code.length - 1].op = 12
theorem body_ok {b : Bo} (h : bodyB b = true) : BodOk b := by
 unfold bodyB at h
 simp only [Bool.and_eq_true, decide_eq_true_eq, beq_iff_eq] at h
 obtain ⟨⟨⟨⟨⟨⟨⟨⟨-, h2⟩, h3⟩, h4⟩, h5⟩, h6⟩, h7⟩, h8⟩, h9⟩ := h
 refine ⟨h2, h3, h4, h5, h6, h7, List.all_eq_true.1 h8, fun hh => ?_⟩
 rw [List.getLast?_eq_getElem?, List.getElem?_eq_getElem hh] at h9
 simpa using h9
section
variable {l : List Un} {f : Fr}
theorem FrOk.code (h : FrOk l f) : ord l f = (bod l f.u f.i).code[f.pc]'h.pc := by unfold ord; simp [List.getD_eq_getElem?_getD, h.pc]
theorem FrOk.bo (h : FrOk l f) (L : Lnk l) : BodOk (bod l f.u f.i) := body_ok (bod_ok L h.hu h.hi)
theorem FrOk.mem (h : FrOk l f) : ord l f ∈ (bod l f.u f.i).code := by rw [h.code]; exact List.getElem_mem _
theorem FrOk.ok (h : FrOk l f) (L : Lnk l) : orderB (bod l f.u f.i).ty (bod l f.u f.i).regs (bod l f.u f.i).code.length (ord l f) = true := (h.bo L).os _ h.mem
theorem FrOk.spk (h : FrOk l f) (L : Lnk l) : spk1 (unAt l f.u) (ord l f) = true := by
 have hu := h.hu
 have hi' : f.i < l[f.u].bs.length := by have := h.hi; rw [unAt_at h.hu] at this; exact this
 have h1 := L.sp f.u h.hu f.i hi'
 unfold spkB at h1
 have h2 := h.mem
 rw [bod_at h.hu hi'] at h2
 rw [unAt_at h.hu]
 exact List.all_eq_true.1 h1 _ h2
end
theorem within_at {l : List Int} {r : Int} (h : withinB l r = true) : ∀ x ∈ l, 0 ≤ x ∧ x < r := fun x hx => by
 unfold withinB at h
 have := List.all_eq_true.1 h x hx
 simpa using this
structure OrdOk (T : Ty) (regs : Int) (len : Nat) (o : Or) : Prop where
 d : ∀ x ∈ o.d, 0 ≤ x ∧ x < regs
 s : ∀ x ∈ o.s, 0 ≤ x ∧ x < regs
 op : 1 ≤ o.op ∧ o.op ≤ 14
 o1 : o.op = 1 → o.d.length = 1 ∧ o.s.length = 0 ∧ -2147483648 ≤ o.n ∧ o.n ≤ 2147483647
 o2 : o.op = 2 → o.d.length = 1 ∧ o.s.length = 1
 o3 : o.op = 3 → o.d.length = 1 ∧ o.s.length = 2 ∧ 1 ≤ o.n ∧ o.n ≤ 12
 o4 : o.op = 4 → o.d.length = 1 ∧ o.s.length = 0 ∧ 0 ≤ o.n ∧ o.n ≤ 1 ∧ nameOf o.nm = true
 o5 : o.op = 5 → o.d.length = 0 ∧ o.s.length = 1 ∧ 0 ≤ o.n ∧ o.n ≤ 1 ∧ nameOf o.nm = true
 o6 : o.op = 6 → o.d.length = 1 ∧ o.s.length = 0 ∧ nameOf o.nm = true
 o7 : o.op = 7 → o.d.length = resW o.ty ∧ spareB o.ty o.s.length = true ∧ nameOf o.nm = true ∧ may o.ty = true
 o8 : o.op = 8 → o.d.length = resW o.ty ∧ 1 ≤ o.s.length ∧ spareB o.ty (o.s.length - 1) = true ∧ may o.ty = true
 o9 : o.op = 9 → o.d.length = 0 ∧ o.s.length = 0 ∧ 0 ≤ o.n ∧ o.n < len
 o10 : o.op = 10 → o.d.length = 0 ∧ o.s.length = 1 ∧ 0 ≤ o.n ∧ o.n < len
 o11 : o.op = 11 → o.d.length = 0 ∧ o.s.length = 1
 o12 : o.op = 12 → o.d.length = 0 ∧ o.s.length = resW T
 o13 : o.op = 13 → o.d.length = 1 ∧ o.s.length = 0
 o14 : o.op = 14 → o.d.length = 1 ∧ o.s.length = 1
theorem order_ok {T : Ty} {regs : Int} {len : Nat} {o : Or} (h : orderB T regs len o = true) : OrdOk T regs len o := by
 unfold orderB at h
 simp only [Bool.and_eq_true] at h
 obtain ⟨⟨⟨⟨⟨h1, h2⟩, h3⟩, h4⟩, h5⟩, h6⟩ := h
 have hop : 1 ≤ o.op ∧ o.op ≤ 14 := by
  unfold rowOf at h1
  by_cases hh : 1 ≤ o.op ∧ o.op ≤ 14
  ·exact hh
  ·rw [if_neg (by omega), if_neg (by omega), if_neg (by omega), if_neg (by omega), if_neg (by omega), if_neg (by omega), if_neg (by omega), if_neg (by omega), if_neg (by omega), if_neg (by omega), if_neg (by omega), if_neg (by omega), if_neg (by omega), if_neg (by omega)] at h1
   cases h1
 refine ⟨within_at h2, within_at h3, hop, ?_, ?_, ?_, ?_, ?_, ?_, ?_, ?_, ?_, ?_, ?_, ?_, ?_, ?_⟩ <;> intro e <;> rw [e] at h4 h5 h6 <;> simp [rowOf, numB, namB, callB] at h4 h5 h6
 ·exact ⟨by omega, by rw [h6.2]; rfl, by omega, by omega⟩
 ·exact ⟨by omega, by omega⟩
 ·exact ⟨by omega, by omega, by omega, by omega⟩
 ·exact ⟨by omega, by rw [h6.2]; rfl, by omega, by omega, h5⟩
 ·exact ⟨by rw [h6.1.2]; rfl, by omega, by omega, by omega, h5⟩
 ·exact ⟨by omega, by rw [h6.2]; rfl, h5⟩
 ·exact ⟨h6.1.1.2, h6.2, h5, h6.1.1.1.2⟩
 ·exact ⟨h6.1.1.2, by omega, h6.2.2, h6.1.1.1.2⟩
 ·exact ⟨by rw [h6.1.2]; rfl, by rw [h6.2]; rfl, by omega, by omega⟩
 ·exact ⟨by rw [h6.1.2]; rfl, by omega, by omega, by omega⟩
 ·exact ⟨by rw [h6.1.2]; rfl, by omega⟩
 ·exact ⟨by rw [h6.1.2]; rfl, by omega⟩
 ·exact ⟨by omega, by rw [h6.2]; rfl⟩
 ·exact ⟨by omega, by omega⟩
theorem FrOk.oo {l : List Un} {f : Fr} (h : FrOk l f) (L : Lnk l) : OrdOk (bod l f.u f.i).ty (bod l f.u f.i).regs (bod l f.u f.i).code.length (ord l f) := order_ok (h.ok L)
theorem FrOk.nxt {l : List Un} {f : Fr} (h : FrOk l f) (L : Lnk l) (h9 : (ord l f).op ≠ 9) (h12 : (ord l f).op ≠ 12) : f.pc + 1 < (bod l f.u f.i).code.length := by
 have hp := h.pc
 rcases Nat.lt_or_ge (f.pc + 1) (bod l f.u f.i).code.length with hlt | hge
 ·exact hlt
 ·have e : f.pc = (bod l f.u f.i).code.length - 1 := by omega
  have := (h.bo L).la (by omega)
  rw [h.code] at h9 h12
  simp only [e] at h9 h12
  omega
theorem src_len (f : Fr) (o : Or) : (src f o).length = o.s.length := by unfold src; rw [List.length_map]
theorem src_at {f : Fr} {o : Or} {k : Nat} (hk : k < o.s.length) : (src f o).getD k 0 = f.r.getD o.s[k].toNat 0 := by
 unfold src; simp [List.getD_eq_getElem?_getD, hk]
theorem getD_w {r : List Int} (h : ∀ x ∈ r, W32 x) (k : Nat) : W32 (r.getD k 0) := by
 rw [List.getD_eq_getElem?_getD]
 rcases e : r[k]? with _ | x
 ·exact ⟨by decide, by decide⟩
 ·exact h x (List.mem_of_getElem? e)
theorem src_w {f : Fr} {o : Or} (h : ∀ x ∈ f.r, W32 x) : ∀ x ∈ src f o, W32 x := fun x hx => by
 unfold src at hx
 obtain ⟨i, -, rfl⟩ := List.mem_map.1 hx
 exact getD_w h _
theorem setR_len : ∀ (D d r : List Int), (setR r D d).length = r.length
 | [], d, r => by cases d <;> rfl
 | i :: D, [], r => rfl
 | i :: D, x :: d, r => by rw [setR, setR_len D d]; simp
theorem setR_w : ∀ (D d r : List Int), (∀ x ∈ r, W32 x) → (∀ x ∈ d, W32 x) → ∀ x ∈ setR r D d, W32 x
 | [], d, r, h, _ => by cases d <;> exact h
 | i :: D, [], r, h, _ => h
 | i :: D, x :: d, r, h, h' => by
  rw [setR]
  refine setR_w D d _ (fun y hy => ?_) fun y hy => h' y (List.mem_cons_of_mem _ hy)
  rcases List.mem_or_eq_of_mem_set hy with hy | rfl
  ·exact h y hy
  ·exact h' _ (List.mem_cons_self ..)
theorem setR_take {D d r : List Int} : ∀ {k : Nat} (hk : k < D.length) (hk' : k < d.length), setR r (D.take (k + 1)) (d.take (k + 1)) = (setR r (D.take k) (d.take k)).set D[k].toNat d[k] := by
 intro k
 induction k generalizing D d r with
 | zero =>
  intro hk hk'
  match D, d, hk, hk' with
  | i :: D, x :: d, _, _ => simp [setR]
 | succ k ih =>
  intro hk hk'
  match D, d, hk, hk' with
  | i :: D, x :: d, hk, hk' =>
   rw [List.take_succ_cons, List.take_succ_cons, setR, ih (by simpa using hk) (by simpa using hk'), List.take_succ_cons, List.take_succ_cons, setR]
   rfl
theorem hom_at {l : List Un} {s : ByteArray} (h : ¬ (homR l s).1 < 0) : ∃ v, ∃ hv : v < l.length, homR l s = ((v : Int), giv l[v] s) ∧ opn l[v] s = true := by
 rcases e : hom l s with _ | v
 ·unfold homR at h; rw [e] at h; exact absurd (show (-1 : Int) < 0 by decide) h
 ·have e0 := e
  unfold hom at e
  rw [List.findIdx?_eq_some_iff_getElem] at e
  obtain ⟨hv, ho, -⟩ := e
  refine ⟨v, hv, ?_, ho⟩
  unfold homR
  rw [e0]
  simp [List.getD_eq_getElem?_getD, hv]
theorem out_at {l : List Un} (L : Lnk l) {u : Nat} (hu : u < l.length) {s : ByteArray} {i : Nat} (hi : i < l[u].os.length) (hs : l[u].os[i].nm = s) :
 ∃ v, ∃ hv : v < l.length, homR l s = ((v : Int), giv l[v] s) ∧ opn l[v] s = true ∧ ((giv l[v] s).1 == 1) = l[u].os[i].fn ∧ (tyF l[v] s).1 = l[u].os[i].ty := by
 have h := L.os u hu i hi
 have e : (unAt l u).os.getD i default = l[u].os[i] := by rw [unAt_at hu]; simp [List.getD_eq_getElem?_getD, hi]
 unfold g4 at h
 rw [e, hs] at h
 split at h
 ·cases h
 ·rename_i h0
  obtain ⟨v, hv, hR, ho⟩ := hom_at h0
  rw [hR] at h
  simp only [Int.toNat_natCast, unAt_at hv] at h
  split at h
  ·cases h
  ·rename_i h1
   rw [Bool.or_eq_true, not_or] at h1
   refine ⟨v, hv, hR, ho, by simpa using h1.1, ?_⟩
   have h2 := h1.2
   simp only [Bool.not_eq_true, Bool.not_eq_false'] at h2
   exact (eqB_iff _ _).1 h2
theorem tyF_b {u : Un} {s : ByteArray} {i : Nat} (h : i < u.bs.length) (hR : giv u s = (1, i)) : tyF u s = (u.bs[i].ty, true, true) := by unfold tyF; rw [hR]; simp [List.getD_eq_getElem?_getD, h]
theorem tyF_g {u : Un} {s : ByteArray} {i : Nat} (h : i < u.gs.length) (hR : giv u s = (2, i)) : tyF u s = (u.gs[i].ty, false, true) := by unfold tyF; rw [hR]; simp [List.getD_eq_getElem?_getD, h]
theorem tyF_o {u : Un} {s : ByteArray} {i : Nat} (h : i < u.os.length) (hR : giv u s = (3, i)) : tyF u s = (u.os[i].ty, u.os[i].fn, true) := by unfold tyF; rw [hR]; simp [List.getD_eq_getElem?_getD, h]
theorem fnd_fun {l : List Un} (L : Lnk l) {u : Nat} (hu : u < l.length) {s : ByteArray} (h2 : (tyF (unAt l u) s).2.2 = true) (h1 : (tyF (unAt l u) s).2.1 = true) :
 (fnd l u s).1 < l.length ∧ (fnd l u s).2 < (unAt l (fnd l u s).1).bs.length ∧ (bod l (fnd l u s).1 (fnd l u s).2).ty = (tyF (unAt l u) s).1 := by
 rw [unAt_at hu] at h1 h2
 rcases giv_cases l[u] s with ⟨i, hi, hR, hs⟩ | ⟨i, hi, hR, hs⟩ | ⟨i, hi, hR, hs⟩ | hR
 ·have e : fnd l u s = (u, i) := by unfold fnd; rw [unAt_at hu, hR]; simp
  rw [e]
  dsimp only
  rw [unAt_at hu, tyF_b hi hR, bod_at hu hi]
  exact ⟨hu, hi, rfl⟩
 ·rw [tyF_g hi hR] at h1; cases h1
 ·obtain ⟨v, hv, hH, ho, hk, ht⟩ := out_at L hu hi hs
  rw [tyF_o hi hR] at h1
  dsimp only at h1
  rw [h1] at hk
  have e : fnd l u s = (v, (giv l[v] s).2) := by unfold fnd; rw [unAt_at hu, hR, hH]; simp
  rw [e]
  dsimp only
  rcases opn_kind ho with ⟨j, hj, hG, -⟩ | ⟨j, hj, hG, -⟩
  ·rw [hG]
   dsimp only
   rw [unAt_at hv, bod_at hv hj, unAt_at hu, tyF_o hi hR, ← ht, tyF_b hj hG]
   exact ⟨hv, hj, rfl⟩
  ·rw [hG] at hk; cases hk
 ·unfold tyF at h2; rw [hR] at h2; cases h2
def glo (l : List Un) (p : Nat × Nat) : Gl := (unAt l p.1).gs.getD p.2 default
theorem fnd_var {l : List Un} (L : Lnk l) {u : Nat} (hu : u < l.length) {s : ByteArray} (h2 : (tyF (unAt l u) s).2.2 = true) (h1 : (tyF (unAt l u) s).2.1 = false) :
 (fnd l u s).1 < l.length ∧ (fnd l u s).2 < (unAt l (fnd l u s).1).gs.length ∧ (glo l (fnd l u s)).ty = (tyF (unAt l u) s).1 := by
 rw [unAt_at hu] at h1 h2
 rcases giv_cases l[u] s with ⟨i, hi, hR, hs⟩ | ⟨i, hi, hR, hs⟩ | ⟨i, hi, hR, hs⟩ | hR
 ·rw [tyF_b hi hR] at h1; cases h1
 ·have e : fnd l u s = (u, i) := by unfold fnd; rw [unAt_at hu, hR]; simp
  rw [e]
  unfold glo
  dsimp only
  rw [unAt_at hu, tyF_g hi hR]
  exact ⟨hu, hi, by simp [List.getD_eq_getElem?_getD, hi]⟩
 ·obtain ⟨v, hv, hH, ho, hk, ht⟩ := out_at L hu hi hs
  rw [tyF_o hi hR] at h1
  dsimp only at h1
  rw [h1] at hk
  have e : fnd l u s = (v, (giv l[v] s).2) := by unfold fnd; rw [unAt_at hu, hR, hH]; simp
  rw [e]
  unfold glo
  dsimp only
  rcases opn_kind ho with ⟨j, hj, hG, -⟩ | ⟨j, hj, hG, -⟩
  ·rw [hG] at hk; cases hk
  ·rw [hG]
   dsimp only
   rw [unAt_at hv, unAt_at hu, tyF_o hi hR, ← ht, tyF_g hj hG]
   exact ⟨hv, hj, by simp [List.getD_eq_getElem?_getD, hj]⟩
 ·unfold tyF at h2; rw [hR] at h2; cases h2
theorem name_ne {s : ByteArray} (h : nameOf s = true) : s ≠ ⟨#[]⟩ := fun e => by subst e; revert h; decide
theorem spk_name {u : Un} {o : Or} (h : spk1 u o = true) (hn : nameOf o.nm = true) : (tyF u o.nm).2.2 = true ∧ (tyF u o.nm).2.1 = ((o.op == 7) || (o.op == 6)) ∧ (o.op = 7 → (tyF u o.nm).1 = o.ty) ∧ ((tyF u o.nm).2.1 = false → o.n < ((sizeT (tyF u o.nm).1).1 : Int)) := by
 unfold spk1 at h
 rw [if_neg (name_ne hn)] at h
 simp only [Bool.and_eq_true, beq_iff_eq, Bool.not_eq_true', Bool.or_eq_false_iff] at h
 obtain ⟨⟨h1, h2⟩, h3, h4⟩ := h
 refine ⟨h1, h2, fun e => ?_, fun e => ?_⟩
 ·rw [e] at h3
  simp at h3
  exact (eqB_iff _ _).1 (by simpa using h3)
 ·rw [e] at h4
  simpa using h4
theorem bckL_some : ∀ (l : List Un) (u n v i : Nat), bckL l u n = some (v, i) → u ≤ v ∧ ∃ h : v - u < l.length, i < l[v - u].bs.length ∧ n = (allB l (v - u)).length + i
 | [], _, _, _, _, h => by cases h
 | x :: l, u, n, v, i, h => by
  unfold bckL at h
  split at h
  ·rename_i hlt
   injection h with h
   injection h with h1 h2
   subst h1 h2
   refine ⟨Nat.le_refl _, by simp, by simpa using hlt, by simp [allB]⟩
  ·rename_i hge
   obtain ⟨h1, h2, h3, h4⟩ := bckL_some l (u + 1) _ v i h
   obtain ⟨d, rfl⟩ : ∃ d, v = u + 1 + d := ⟨v - (u + 1), by omega⟩
   have e1 : u + 1 + d - (u + 1) = d := by omega
   have e2 : u + 1 + d - u = d + 1 := by omega
   simp only [e1] at h2 h3 h4
   refine ⟨by omega, by simp only [e2, List.length_cons]; omega, by simpa only [e2, List.getElem_cons_succ] using h3, ?_⟩
   rw [e2]
   unfold allB at h4 ⊢
   simp only [List.take_succ_cons, List.flatMap_cons, List.length_append]
   omega
theorem bckL_yes : ∀ (l : List Un) (u n : Nat), n < (allB l l.length).length → ∃ p, bckL l u n = some p
 | [], _, n, h => by simp [allB] at h
 | x :: l, u, n, h => by
  unfold bckL
  split
  ·exact ⟨_, rfl⟩
  ·rename_i hge
   refine bckL_yes l (u + 1) _ ?_
   unfold allB at h ⊢
   simp only [List.length_cons, List.take_succ_cons, List.flatMap_cons, List.length_append] at h
   simp at h ⊢
   omega
theorem allB_at {l : List Un} {u i : Nat} (hu : u < l.length) (hi : i < l[u].bs.length) {k : Nat} (hk : u < k) : ∃ h : (allB l u).length + i < (allB l k).length, (allB l k)[(allB l u).length + i] = l[u].bs[i] := by
 obtain ⟨d, rfl⟩ : ∃ d, k = u + 1 + d := ⟨k - (u + 1), by omega⟩
 have e : ∃ r, allB l (u + 1 + d) = allB l (u + 1) ++ r := by
  unfold allB
  rw [List.take_add, List.flatMap_append]
  exact ⟨_, rfl⟩
 obtain ⟨r, e⟩ := e
 rw [e, allB_succ hu]
 refine ⟨by simp only [List.length_append]; omega, ?_⟩
 rw [List.getElem_append_left (by simp only [List.length_append]; omega), List.getElem_append_right (by omega)]
 simp
theorem allG_at {l : List Un} {u i : Nat} (hu : u < l.length) (hi : i < l[u].gs.length) {k : Nat} (hk : u < k) : ∃ h : (allG l u).length + i < (allG l k).length, (allG l k)[(allG l u).length + i] = l[u].gs[i] := by
 obtain ⟨d, rfl⟩ : ∃ d, k = u + 1 + d := ⟨k - (u + 1), by omega⟩
 have e : ∃ r, allG l (u + 1 + d) = allG l (u + 1) ++ r := by
  unfold allG
  rw [List.take_add, List.flatMap_append]
  exact ⟨_, rfl⟩
 obtain ⟨r, e⟩ := e
 rw [e, allG_succ hu]
 refine ⟨by simp only [List.length_append]; omega, ?_⟩
 rw [List.getElem_append_left (by simp only [List.length_append]; omega), List.getElem_append_right (by omega)]
 simp
theorem bck_some {l : List Un} {x : Int} {p : Nat × Nat} (h : bck l x = some p) : p.1 < l.length ∧ p.2 < (unAt l p.1).bs.length ∧ x = (nmb l p : Int) := by
 unfold bck at h
 split at h
 ·cases h
 ·rename_i h0
  obtain ⟨v, i⟩ := p
  obtain ⟨h1, h2, h3, h4⟩ := bckL_some l 0 _ v i h
  simp only [Nat.sub_zero] at h2 h3 h4
  refine ⟨h2, by rw [unAt_at h2]; exact h3, ?_⟩
  unfold nmb
  dsimp only
  omega
theorem bck_none {l : List Un} {x : Int} (h : bck l x = none) : x < 0 ∨ ((allB l l.length).length : Int) ≤ x := by
 unfold bck at h
 split at h
 ·left; assumption
 ·rename_i h0
  rcases Nat.lt_or_ge x.toNat (allB l l.length).length with hlt | hge
  ·obtain ⟨p, hp⟩ := bckL_yes l 0 _ hlt
   rw [hp] at h; cases h
  ·right; omega
/-! what an order keeps -/
structure MsOk (l : List Un) (m : Ms) : Prop where
 ln : m.vs.length = l.length
 ev : ∀ u, u < l.length → (m.vs.getD u []).length = (unAt l u).gs.length
 wd : ∀ u, u < l.length → ∀ q ∈ m.vs.getD u [], W32 q.1 ∧ W32 q.2
theorem MsOk.out {l : List Un} {m : Ms} (h : MsOk l m) (o : List Int) : MsOk l ⟨m.vs, o⟩ := ⟨h.ln, h.ev, h.wd⟩
theorem MsOk.get {l : List Un} {m : Ms} (h : MsOk l m) {p : Nat × Nat} (hp : p.1 < l.length) (n : Int) : W32 (getV m.vs p n) := by
 have : W32 ((m.vs.getD p.1 []).getD p.2 (0, 0)).1 ∧ W32 ((m.vs.getD p.1 []).getD p.2 (0, 0)).2 := by
  rw [List.getD_eq_getElem?_getD (l := m.vs.getD p.1 [])]
  rcases e : (m.vs.getD p.1 [])[p.2]? with _ | q
  ·exact ⟨⟨by decide, by decide⟩, by decide, by decide⟩
  ·exact h.wd _ hp q (List.mem_of_getElem? e)
 unfold getV
 split
 ·exact this.1
 ·exact this.2
theorem MsOk.set {l : List Un} {m : Ms} (h : MsOk l m) {p : Nat × Nat} (hp : p.1 < l.length) (n : Int) {x : Int} (hx : W32 x) (o : List Int) : MsOk l ⟨setV m.vs p n x, o⟩ := by
 have hq : W32 ((m.vs.getD p.1 []).getD p.2 (0, 0)).1 ∧ W32 ((m.vs.getD p.1 []).getD p.2 (0, 0)).2 := by
  rw [List.getD_eq_getElem?_getD (l := m.vs.getD p.1 [])]
  rcases e : (m.vs.getD p.1 [])[p.2]? with _ | q
  ·exact ⟨⟨by decide, by decide⟩, by decide, by decide⟩
  ·exact h.wd _ hp q (List.mem_of_getElem? e)
 have hz : ∀ u, u < l.length → (setV m.vs p n x).getD u [] = if p.1 = u then (m.vs.getD p.1 []).set p.2 (if n = 0 then (x, ((m.vs.getD p.1 []).getD p.2 (0, 0)).2) else (((m.vs.getD p.1 []).getD p.2 (0, 0)).1, x)) else m.vs.getD u [] := fun u hu => by
  unfold setV
  rw [List.getD_eq_getElem?_getD, List.getElem?_set]
  split
  ·rename_i e
   rw [if_pos (by rw [h.ln]; exact hp)]
   rfl
  ·rw [List.getD_eq_getElem?_getD]
 refine ⟨by unfold setV; simp [h.ln], fun u hu => ?_, fun u hu q hq' => ?_⟩
 ·dsimp only
  rw [hz u hu]
  split
  ·rename_i e; subst e; rw [List.length_set]; exact h.ev _ hp
  ·exact h.ev u hu
 ·dsimp only at hq'
  rw [hz u hu] at hq'
  split at hq'
  ·rcases List.mem_or_eq_of_mem_set hq' with hq' | rfl
   ·exact h.wd _ hp q hq'
   ·split
    ·exact ⟨hx, hq.2⟩
    ·exact ⟨hq.1, hx⟩
  ·exact h.wd u hu q hq'
structure ArgOk (l : List Un) (u i : Nat) (a : List Int) : Prop where
 hu : u < l.length
 hi : i < (unAt l u).bs.length
 w : ∀ x ∈ a, W32 x
 ln : parW (bod l u i).ty ≤ a.length ∧ a.length ≤ parW (bod l u i).ty + 12
theorem spare_ln {T : Ty} {s : Nat} (h : spareB T s = true) : parW T ≤ s ∧ s ≤ parW T + 12 := by
 unfold spareB at h
 simp only [Bool.or_eq_true, Bool.and_eq_true, decide_eq_true_eq, beq_iff_eq] at h
 omega
theorem ArgOk.beg {l : List Un} (L : Lnk l) {u i : Nat} {a : List Int} (h : ArgOk l u i a) : FrOk l (beg l u i a) := by
 have B := body_ok (bod_ok L h.hu h.hi)
 have h1 := B.rl
 have h2 := h.ln
 refine ⟨h.hu, h.hi, ?_, fun x hx => ?_, fun x hx => h.w x (List.mem_of_mem_drop hx), ?_, B.n1⟩
 ·show (List.take _ a ++ List.replicate _ 0).length = (bod l u i).regs.toNat
  rw [List.length_append, List.length_take, List.length_replicate]
  omega
 ·rcases List.mem_append.1 hx with hx | hx
  ·exact h.w x (List.mem_of_mem_take hx)
  ·rw [(List.mem_replicate.1 hx).2]; exact ⟨by decide, by decide⟩
 ·show (a.drop _).length ≤ 12
  rw [List.length_drop]
  omega
section
variable {l : List Un} {f : Fr} {m : Ms}
theorem act_1 (e : (ord l f).op = 1) : act l f m = .go (setR f.r (ord l f).d [(ord l f).n]) (f.pc + 1) m := by unfold act; simp [e]
theorem act_2 (e : (ord l f).op = 2) : act l f m = .go (setR f.r (ord l f).d (src f (ord l f))) (f.pc + 1) m := by unfold act; simp [e]
theorem act_3 (e : (ord l f).op = 3) (h : opOk (ord l f).n ((src f (ord l f)).getD 1 0) = true) : act l f m = .go (setR f.r (ord l f).d [opV (ord l f).n ((src f (ord l f)).getD 0 0) ((src f (ord l f)).getD 1 0)]) (f.pc + 1) m := by unfold act; simp only [e]; rw [h]; rfl
theorem act_3' (e : (ord l f).op = 3) (h : opOk (ord l f).n ((src f (ord l f)).getD 1 0) = false) : act l f m = .stop 2 := by unfold act; simp only [e]; rw [h]; rfl
theorem act_4 (e : (ord l f).op = 4) : act l f m = .go (setR f.r (ord l f).d [getV m.vs (fnd l f.u (ord l f).nm) (ord l f).n]) (f.pc + 1) m := by unfold act; simp [e]
theorem act_5 (e : (ord l f).op = 5) : act l f m = .go f.r (f.pc + 1) ⟨setV m.vs (fnd l f.u (ord l f).nm) (ord l f).n ((src f (ord l f)).getD 0 0), m.out⟩ := by unfold act; simp [e]
theorem act_6 (e : (ord l f).op = 6) : act l f m = .go (setR f.r (ord l f).d [(nmb l (fnd l f.u (ord l f).nm) : Int)]) (f.pc + 1) m := by unfold act; simp [e]
theorem act_7 (e : (ord l f).op = 7) : act l f m = .call (fnd l f.u (ord l f).nm).1 (fnd l f.u (ord l f).nm).2 (src f (ord l f)) := by unfold act; simp [e]
theorem act_8 (e : (ord l f).op = 8) {p : Nat × Nat} (h : bck l ((src f (ord l f)).getD 0 0) = some p) (ht : eqB (bod l p.1 p.2).ty (ord l f).ty = true) : act l f m = .call p.1 p.2 (src f (ord l f)).tail := by unfold act; simp only [e, h]; rw [ht]; rfl
theorem act_8t (e : (ord l f).op = 8) {p : Nat × Nat} (h : bck l ((src f (ord l f)).getD 0 0) = some p) (ht : eqB (bod l p.1 p.2).ty (ord l f).ty = false) : act l f m = .stop 3 := by unfold act; simp only [e, h]; rw [ht]; rfl
theorem act_8n (e : (ord l f).op = 8) (h : bck l ((src f (ord l f)).getD 0 0) = none) : act l f m = .stop 3 := by unfold act; simp only [e, h]; rfl
theorem act_9 (e : (ord l f).op = 9) : act l f m = .go f.r (ord l f).n.toNat m := by unfold act; simp [e]
theorem act_10 (e : (ord l f).op = 10) : act l f m = .go f.r (if (src f (ord l f)).getD 0 0 = 0 then (ord l f).n.toNat else f.pc + 1) m := by unfold act; simp [e]
theorem act_11 (e : (ord l f).op = 11) : act l f m = .go f.r (f.pc + 1) ⟨m.vs, m.out ++ [(src f (ord l f)).getD 0 0]⟩ := by unfold act; simp [e]
theorem act_12 (e : (ord l f).op = 12) : act l f m = .ret (src f (ord l f)) := by unfold act; simp [e]
theorem act_13 (e : (ord l f).op = 13) : act l f m = .go (setR f.r (ord l f).d [(f.b.length : Int)]) (f.pc + 1) m := by unfold act; simp [e]
theorem act_14 (e : (ord l f).op = 14) : act l f m = .go (setR f.r (ord l f).d [if 0 ≤ (src f (ord l f)).getD 0 0 ∧ (src f (ord l f)).getD 0 0 < (f.b.length : Int) then f.b.getD ((src f (ord l f)).getD 0 0).toNat 0 else 0]) (f.pc + 1) m := by unfold act; simp [e]
theorem FrOk.set (h : FrOk l f) {D d : List Int} (hd : ∀ x ∈ d, W32 x) {pc : Nat} (hp : pc < (bod l f.u f.i).code.length) : FrOk l { f with r := setR f.r D d, pc := pc } :=
 ⟨h.hu, h.hi, by show (setR f.r D d).length = _; rw [setR_len]; exact h.hr, setR_w D d f.r h.rv hd, h.bv, h.bl, hp⟩
theorem FrOk.at (h : FrOk l f) {pc : Nat} (hp : pc < (bod l f.u f.i).code.length) : FrOk l { f with pc := pc } := ⟨h.hu, h.hi, h.hr, h.rv, h.bv, h.bl, hp⟩
theorem arg_7 (L : Lnk l) (h : FrOk l f) (e : (ord l f).op = 7) : ArgOk l (fnd l f.u (ord l f).nm).1 (fnd l f.u (ord l f).nm).2 (src f (ord l f)) ∧ (ord l f).d.length = resW (bod l (fnd l f.u (ord l f).nm).1 (fnd l f.u (ord l f).nm).2).ty := by
 obtain ⟨h1, h2, h3, -⟩ := (h.oo L).o7 e
 obtain ⟨k1, k2, k3, -⟩ := spk_name (h.spk L) h3
 have k2' : (tyF (unAt l f.u) (ord l f).nm).2.1 = true := by rw [k2, e]; rfl
 obtain ⟨j1, j2, j3⟩ := fnd_fun L h.hu k1 k2'
 rw [k3 e] at j3
 refine ⟨⟨j1, j2, src_w h.rv, ?_⟩, ?_⟩
 ·rw [j3, src_len]; exact spare_ln h2
 ·rw [j3]; exact h1
theorem arg_8 (L : Lnk l) (h : FrOk l f) (e : (ord l f).op = 8) {p : Nat × Nat} (hb : bck l ((src f (ord l f)).getD 0 0) = some p) (ht : eqB (bod l p.1 p.2).ty (ord l f).ty = true) : ArgOk l p.1 p.2 (src f (ord l f)).tail ∧ (ord l f).d.length = resW (bod l p.1 p.2).ty := by
 obtain ⟨h1, h2, h3, -⟩ := (h.oo L).o8 e
 obtain ⟨j1, j2, -⟩ := bck_some hb
 have ht' := (eqB_iff _ _).1 ht
 refine ⟨⟨j1, j2, fun x hx => src_w h.rv x (List.mem_of_mem_tail hx), ?_⟩, ?_⟩
 ·rw [ht', List.length_tail, src_len]; exact spare_ln h3
 ·rw [ht']; exact h1
end
def FindOut (p : Nat × Nat) (W : World) (e : Ending) (w' : World) : Prop := e = .returned (.tuple #[.int .i64 (p.1 : Int), .int .i64 (p.2 : Int)]) ∧ Below W.heap.size W w'
theorem results_none_ {fn : Func} (h : fn.results = #[]) (tmps : Array Value) (P : Program) (w : World) : (results fn tmps).run P w = .ok (.tuple #[]) w := by simp [results, h]
theorem results_2 {fn : Func} {s t : Nat} (h : fn.results = #[.tmp s, .tmp t]) (tmps : Array Value) (w : World) : (results fn tmps).run Tryz.prog w = .ok (.tuple #[tmps.getD s undef, tmps.getD t undef]) w := by
 simp [results, h, go_sem]
theorem find_any (l : List Un) (L : Lnk l) (s : ByteArray) (A : Option Addr) (c rv u : Nat) {w W : World} (hr : RepS 3 RepU w A l) (hB : Below w.heap.size w W) (hu : u < l.length) (h0 : W.cell? ⟨rv, 0, none⟩ = some (.slice A l.length c)) :
 Calls Tryz.prog 64 #[.pointer (some ⟨rv, 0, none⟩), .int .i64 (u : Int), .string s] W (FindOut (fnd l u s) W) := by
 have hrv : rv < W.heap.size := World.block_lt_of_cell? W _ h0
 have hl8 : l.length ≤ 8 := by have := L.n4; omega
 have HHome := Lh (fun w2 (hb : Below W.heap.size W w2) => home_any l s A c w2 (RepS.keep (R := RepU) RepU.keep hr (hB.trans (hb.mono hB.size))) hl8)
 have HF : Hid (fnd l u s = if (giv l[u] s).1 = 3 then ((homR l s).1.toNat, (homR l s).2.2) else (u, (giv l[u] s).2)) := by show _ = _; unfold fnd; rw [unAt_at hu]
 have HO : Hid (∀ i, giv l[u] s = (3, i) → ¬ (homR l s).1 < 0) := fun i h => by
  rcases giv_cases l[u] s with ⟨j, hj, hR, -⟩ | ⟨j, hj, hR, -⟩ | ⟨j, hj, hR, hs⟩ | hR
  ·rw [hR] at h; cases h
  ·rw [hR] at h; cases h
  ·obtain ⟨v, hv, hH, -⟩ := out_at L hu hj hs
   rw [hH]; dsimp only; omega
  ·rw [hR] at h; cases h
 obtain ⟨bb, oo, cs, rfl, hbl, hrep, hc⟩ := hr.at hu
 have hrep0 := hrep
 obtain ⟨A1, a1, B1, b1, C1, cc1, rfl, -⟩ := hrep
 have c0 := hc W hB 0 _ rfl
 have c1 := hc W hB 1 _ rfl
 have c2 := hc W hB 2 _ rfl
 rw [Nat.add_zero] at c0
 have HG := Lh (given_any l[u] s _ W (hrep0.keep hB))
 have hi : (u : Int) < (l.length : Int) := by omega
 have hi0 : (0 : Int) ≤ (u : Int) := by omega
 have hi6 : (u : Int) < 9 := by omega
 obtain ⟨R, HR⟩ : ∃ R, Hid (fnd l u s = R) := ⟨_, rfl⟩
 rw [HR.out]
 rw [HR.out] at HF
 clear hc hrep0 hr hB HR
 obtain ⟨⟨gk, gi⟩, hG⟩ : ∃ g, giv l[u] s = g := ⟨_, rfl⟩
 rw [hG] at HF HO
 have HGG := Lh hG
 obtain ⟨⟨q1, q2, q3⟩, hQ⟩ : ∃ q, homR l s = q := ⟨_, rfl⟩
 rw [hQ] at HF HO HHome
 dsimp only at HF HO
 clear hG hQ
 generalize l[u] = un at *
 go_enter Tryz.func64, Tryz.ntmps64
 go_wp2_with fail
 refine (HG.out).mono ?_
 rintro e w2 ⟨rfl, hb2⟩
 rw [HGG.out]
 clear HGG
 have d0 : w2.cell? ⟨rv, 0, none⟩ = some (.slice (some ⟨bb, oo, none⟩) l.length c) := (hb2.cell hrv).trans h0
 clear HG c0 c1 c2 h0
 have HB2 := Lh hb2
 clear hb2
 by_cases h3 : gk = 3
 ·subst h3
  have HQ := Lh (HO.out gi rfl)
  have HH := Lh (HHome.out w2 HB2.out)
  have HF2 : Hid (R = (q1.toNat, q3)) := by have := HF.out; rw [if_pos rfl] at this; exact this
  clear HO HF HHome
  go_wp2_with fail
  refine (HH.out).mono ?_
  rintro e w3 ⟨rfl, hb3⟩
  have HB3 := Lh (HB2.out.trans (hb3.mono HB2.out.size))
  clear hb3 HH HB2
  go_wp2_with fail
  refine bodyPost_ret (v := .tuple _) (results_2 (fn := Tryz.f64) rfl _ _) rfl ?_
  rw [HF2.out]
  have := HQ.out
  exact ⟨by show _ = Ending.returned (.tuple #[.int .i64 ((q1.toNat : Nat) : Int), .int .i64 (q3 : Int)]); rw [Int.toNat_of_nonneg (by omega)]; rfl, HB3.out⟩
 ·have h3b : (gk == 3) = false := by simp [h3]
  have HF2 : Hid (R = (u, gi)) := by have := HF.out; rw [if_neg h3] at this; exact this
  clear HO HF HHome h3
  go_wp2_with fail
  refine bodyPost_ret (v := .tuple _) (results_2 (fn := Tryz.f64) rfl _ _) rfl ?_
  rw [HF2.out]
  exact ⟨rfl, HB2.out⟩
theorem numR_any (l : List Un) (A : Option Addr) (c rv u i : Nat) {w W : World} (hr : RepS 3 RepU w A l) (hB : Below w.heap.size w W) (hu : u < l.length) (hl : l.length ≤ 8) (hb0 : ∀ k, (allB l k).length ≤ 1000) (hi0 : i ≤ 1000) (h0 : W.cell? ⟨rv, 0, none⟩ = some (.slice A l.length c)) :
 Calls Tryz.prog 65 #[.pointer (some ⟨rv, 0, none⟩), .int .i64 (u : Int), .int .i64 (i : Int)] W (fun e w' => e = .returned (.int .i64 (nmb l (u, i) : Int)) ∧ w' = W) := by
 have HA := Lh hr
 have HB := Lh hB
 have HL := Lh hb0
 have HN : Hid (nmb l (u, i) = (allB l u).length + i) := rfl
 obtain ⟨R, HR⟩ : ∃ R, Hid (nmb l (u, i) = R) := ⟨_, rfl⟩
 rw [HR.out]
 rw [HR.out] at HN
 clear hr hB hb0 HR
 go_enter Tryz.func65, Tryz.ntmps65
 go_wp2_with fail
 go_loopw [7, 8] (fun nv iv wr => wr = W ∧ ∃ k : Nat, k ≤ u ∧ iv = .int .i64 k ∧ nv = .int .i64 (((allB l k).length + i : Nat) : Int)) (fun _ iv _ => u - (intOf iv).toNat)
 case atStart => exact ⟨rfl, 0, Nat.zero_le _, rfl, by simp [allB]⟩
 case round =>
  obtain ⟨rfl, k, hk, rfl, rfl⟩ := hrel
  by_cases hlt : k < u
  ·have hkl : k < l.length := by omega
   obtain ⟨bb, oo, cs, rfl, hbl, hrep, hc⟩ := HA.out.at hkl
   obtain ⟨A1, a1, B1, b1, C1, cc1, rfl, -⟩ := hrep
   have c0 := hc _ HB.out 0 _ rfl
   rw [Nat.add_zero] at c0
   have hi : (k : Int) < (u : Int) := by omega
   have hil : (k : Int) < (l.length : Int) := by omega
   have hi1 : (0 : Int) ≤ (k : Int) := by omega
   have hi6 : (k : Int) < 9 := by omega
   have hs1 := HL.out k
   have hs2 := HL.out (k + 1)
   have e1 : (allB l (k + 1)).length = (allB l k).length + l[k].bs.length := by rw [allB_succ hkl, List.length_append]
   have E1 := Lh e1
   have hwr : IntKind.i64.wrap ((((allB l k).length + i : Nat) : Int) + (l[k].bs.length : Int)) = (((allB l (k + 1)).length + i : Nat) : Int) := by rw [IntKind.wrap_i64, e1]; omega
   clear e1 hs1 hs2 hc
   generalize l[k].bs.length = n at *
   generalize (((allB l k).length + i : Nat) : Int) = m at *
   go_wp2_with fail
   go_roundw
   case rel => exact ⟨by first | rfl | trivial, k + 1, by omega, by go_num, by first | rfl | exact congrArg _ hwr⟩
   case measure => simp [intOf] <;> omega
  ·have hi : ¬ (k : Int) < (u : Int) := by omega
   obtain rfl : k = u := by omega
   go_wp2_with fail
   go_ret
   exact ⟨by rw [HN.out, Int.natCast_add]; rfl, rfl⟩
def BackOut (r : Option (Nat × Nat)) (W : World) (e : Ending) (w' : World) : Prop := w' = W ∧ ((∃ p : Nat × Nat, r = some p ∧ e = .returned (.tuple #[.int .i64 (p.1 : Int), .int .i64 (p.2 : Int), .bool true])) ∨ (r = none ∧ e = .returned (.tuple #[.int .i64 0, .int .i64 0, .bool false])))
theorem back_any (l : List Un) (A : Option Addr) (c rv : Nat) (x : Int) {w W : World} (hr : RepS 3 RepU w A l) (hB : Below w.heap.size w W) (hl : l.length ≤ 8) (hx : W32 x) (hh : ∀ u (h : u < l.length), l[u].bs.length ≤ 40) (h0 : W.cell? ⟨rv, 0, none⟩ = some (.slice A l.length c)) :
 Calls Tryz.prog 66 #[.pointer (some ⟨rv, 0, none⟩), .int .i64 x] W (BackOut (bck l x) W) := by
 have HA := Lh hr
 have HB := Lh hB
 have HH := Lh hh
 have hx1 := hx.1
 have hx2 := hx.2
 obtain ⟨R, HR⟩ : ∃ R, Hid (bck l x = R) := ⟨_, rfl⟩
 rw [HR.out]
 have hl0 : (0 : Int) ≤ (l.length : Int) := by omega
 clear hr hB hh hx
 by_cases hn : x < 0
 ·have hq : Hid (R = none) := HR.out.symm.trans (by unfold bck; rw [if_pos hn])
  have hge : decide ((0 : Int) ≤ x) = false := by simp; omega
  clear HR hn hx1 hx2
  go_enter Tryz.func66, Tryz.ntmps66
  go_wp2_with fail
  go_loopw [1, 7] (fun nv iv wr => wr = W ∧ iv = .int .i64 0 ∧ nv = .int .i64 x) (fun _ iv _ => 0)
  case atStart => exact ⟨rfl, rfl, rfl⟩
  case round =>
   obtain ⟨rfl, rfl, rfl⟩ := hrel
   go_wp2_with fail
   all_goals (refine bodyPost_ret (v := .tuple _) (results_3 (fn := Tryz.f66) rfl _ _) rfl ?_; exact ⟨rfl, .inr ⟨hq.out, rfl⟩⟩)
 ·have HX : Hid (bckL l 0 x.toNat = R) := by show _ = _; rw [← HR.out]; unfold bck; rw [if_neg hn]
  obtain ⟨X, rfl⟩ : ∃ X : Nat, x = (X : Int) := ⟨x.toNat, by omega⟩
  rw [Int.toNat_natCast] at HX
  clear HR hn hx1
  have HX2 : Hid (X ≤ 2147483647) := by show X ≤ 2147483647; omega
  clear hx2
  go_enter Tryz.func66, Tryz.ntmps66
  go_wp2_with fail
  go_loopw [1, 7] (fun nv iv wr => wr = W ∧ ∃ k n : Nat, k ≤ l.length ∧ n ≤ 2147483647 ∧ iv = .int .i64 k ∧ nv = .int .i64 n ∧ Hid (bckL (l.drop k) k n = R)) (fun _ iv _ => l.length - (intOf iv).toNat)
  case atStart => exact ⟨rfl, 0, X, Nat.zero_le _, HX2.out, rfl, rfl, HX⟩
  case round =>
   obtain ⟨rfl, k, n, hk, hn, rfl, rfl, HK⟩ := hrel
   by_cases hlt : k < l.length
   ·obtain ⟨bb, oo, cs, rfl, hbl, hrep, hc⟩ := HA.out.at hlt
    obtain ⟨A1, a1, B1, b1, C1, cc1, rfl, -⟩ := hrep
    have c0 := hc _ HB.out 0 _ rfl
    rw [Nat.add_zero] at c0
    have hi : (k : Int) < (l.length : Int) := by omega
    have hi1 : (0 : Int) ≤ (k : Int) := by omega
    have hi6 : (k : Int) < 9 := by omega
    have hn0 : decide ((0 : Int) ≤ (n : Int)) = true := by simp
    have hn1 : (0 : Int) ≤ (n : Int) := by omega
    have h40 := HH.out k hlt
    have HD : Hid (l.drop k = l[k] :: l.drop (k + 1)) := List.drop_eq_getElem_cons hlt
    rw [HD.out] at HK
    unfold bckL at HK
    clear hc HD
    generalize hbn : l[k].bs.length = bn at *
    by_cases hnl : n < bn
    ·have hj : (n : Int) < (bn : Int) := by omega
     have HQ : Hid (R = some (k, n)) := by have := HK.out; rw [if_pos hnl] at this; exact this.symm
     clear HK hbn
     go_wp2_with fail
     refine bodyPost_ret (v := .tuple _) (results_3 (fn := Tryz.f66) rfl _ _) rfl ?_
     exact ⟨rfl, .inl ⟨_, HQ.out, rfl⟩⟩
    ·have hj : ¬ (n : Int) < (bn : Int) := by omega
     have HQ : Hid (bckL (l.drop (k + 1)) (k + 1) (n - bn) = R) := by have := HK.out; rw [if_neg hnl] at this; exact this
     have hwr : IntKind.i64.wrap ((n : Int) - (bn : Int)) = ((n - bn : Nat) : Int) := by rw [IntKind.wrap_i64]; omega
     clear HK hbn
     go_wp2_with fail
     go_roundw
     case rel => exact ⟨by first | rfl | trivial, k + 1, n - bn, by omega, by omega, by go_num, by first | rfl | exact congrArg _ hwr, HQ⟩
     case measure => simp [intOf] <;> omega
   ·have hi : ¬ (k : Int) < (l.length : Int) := by omega
    obtain rfl : k = l.length := by omega
    have HQ : Hid (R = none) := by have := HK.out; rw [List.drop_length] at this; exact this.symm
    clear HK
    go_wp2_with fail
    refine bodyPost_ret (v := .tuple _) (results_3 (fn := Tryz.f66) rfl _ _) rfl ?_
    exact ⟨rfl, .inr ⟨HQ.out, rfl⟩⟩
theorem end_any {w W : World} {Lr : List Rc} {rv : Nat} {a0 a1 a2 a3 a4 a5 a6 a7 : Value} (how : Int) (h : Hp w W (bx rv 85 #[a0, a1, a2, a3, a4, a5, a6, a7] :: Lr)) :
 Calls Tryz.prog 35 #[.pointer (some ⟨rv, 0, none⟩), .int .i64 how] W (fun e w' => e = .returned (.tuple #[]) ∧ Hp w w' (bx rv 85 #[a0, a1, a2, .int .i64 how, a4, a5, a6, .bool true] :: Lr)) := by
 have f3 := h.one.free 3
 have f7 := h.one.free 7
 have g3 := h.one.cell 3 _ rfl
 have g7 := h.one.cell 7 _ rfl
 have h2 := (h.put1 7 (.bool true)).put1 3 (.int .i64 how)
 simp only [sq] at h2
 have HS := Lh h2
 clear h h2
 go_enter Tryz.func35, Tryz.ntmps35
 go_wp2_with fail
 refine bodyPost_end (v := .tuple #[]) (results_none_ rfl _ _ _) rfl ?_
 exact ⟨rfl, HS.out⟩
end Go.Proofs.YthihaeobkoiljaaGreat
namespace Go.Proofs.YthihaeobkoiljaaGreat
def old (a : Act) : Option Tmp → Value
 | some d => a.tmps.getD d undef
 | none => undef
theorem put_old (a : Act) (d : Option Tmp) : a.put d (old a d) = a := by
 cases d with
 | none => rfl
 | some d =>
  obtain ⟨t, ds⟩ := a
  simp only [Act.put, old, Act.mk.injEq, and_true]
  apply Array.ext
  ·simp
  ·intro i h1 h2
   by_cases hd : d = i
   ·subst hd
    simp at h1
    simp [h1]
   ·rw [Array.getElem_setIfInBounds_ne h2 hd]
theorem put_put (a : Act) (d : Option Tmp) (u v : Value) : (a.put d u).put d v = a.put d v := by
 cases d with
 | none => rfl
 | some d =>
  obtain ⟨t, ds⟩ := a
  simp [Act.put]
section
variable {P : Program} {ops : Array Oper} {Q : Exit → Act → World → Prop} {md : Region.Mode} {S : World → Prop}
def Stp (P : Program) (ops : Array Oper) (Q : Exit → Act → World → Prop) (o : Oper) (a : Act) (w : World) (T : Value → World → Prop) : Prop :=
 ∀ K' : Act → World → Prop, Shut (∀ v w', T v w' → K' (a.put o.dst v) w') → if Region.wanted o (yielded ops a.tmps) = true then Oper.wp P o a w K' Q else K' (a.put o.dst undef) w
theorem Stp.op {i : Nat} {o : Oper} {a : Act} {w : World} {T : Value → World → Prop} {K : Act → World → Prop} (h : Stp P ops Q o a w T) (ho : ops[i]? = some o) (hK : ∀ v w', T v w' → K (a.put o.dst v) w') : wpOp P ops Q i K a w :=
 wpOp_step ho fun K' hK' => h K' (fun v w' hT => hK' _ _ (hK v w' hT))
structure Ge where
 n : Nat
 d : Option Tmp
 a : List Nat
def actG (a : Act) (vs : Nat → Option Value) : List Ge → Act
 | [] => a
 | g :: G => (actG a vs G).put g.d ((vs g.n).getD (old a g.d))
def lisG (listed : Array Bool) (vs : Nat → Option Value) : List Ge → Array Bool
 | [] => listed
 | g :: G => if (vs g.n).isSome = true then (lisG listed vs G).setIfInBounds g.n true else lisG listed vs G
def upd (vs : Nat → Option Value) (i : Nat) (v : Value) : Nat → Option Value := fun j => if j = i then some v else vs j
@[simp] theorem upd_same (vs : Nat → Option Value) (i : Nat) (v : Value) : upd vs i v i = some v := by simp [upd]
theorem upd_ne (vs : Nat → Option Value) {i j : Nat} (v : Value) (h : j ≠ i) : upd vs i v j = vs j := by simp [upd, h]
def offG : List Ge → Bool
 | [] => true
 | g :: G => (G.all fun h => g.n != h.n && (match g.d with
  | some d => h.d != some d
  | none => true)) && offG G
def subs : List Ge → List (List Ge)
 | [] => [[]]
 | g :: G => (subs G).map (g :: ·) ++ subs G
def lisD (listed : Array Bool) : List Ge → Array Bool
 | [] => listed
 | g :: D => (lisD listed D).setIfInBounds g.n true
def okG (md : Region.Mode) (ops : Array Oper) (listed : Array Bool) (G : List Ge) : Bool :=
 offG G && (G.all fun g => g.a.all fun m => G.any fun d => d.n == m) && (G.all fun g => (ops[g.n]?).map (·.dst) == some g.d) &&
 (subs G).all fun D => D.length == G.length || !(D.all fun g => g.a.all fun m => D.any fun d => d.n == m) || (!(Region.ready md ops (lisD listed D)).isEmpty && (Region.ready md ops (lisD listed D)).all fun i => G.any fun g => g.n == i && !(D.any fun d => d.n == i) && g.a.all fun m => D.any fun d => d.n == m)
theorem actG_congr (a : Act) {vs us : Nat → Option Value} : ∀ (G : List Ge), (∀ g ∈ G, vs g.n = us g.n) → actG a vs G = actG a us G
 | [], _ => rfl
 | g :: G, h => by
  rw [actG, actG, h g (by simp), actG_congr a G (fun x hx => h x (by simp [hx]))]
theorem lisG_congr (l : Array Bool) {vs us : Nat → Option Value} : ∀ (G : List Ge), (∀ g ∈ G, vs g.n = us g.n) → lisG l vs G = lisG l us G
 | [], _ => rfl
 | g :: G, h => by
  rw [lisG, lisG, h g (by simp), lisG_congr l G (fun x hx => h x (by simp [hx]))]
theorem offG_ne {g h : Ge} {G : List Ge} (ho : offG (g :: G) = true) (hh : h ∈ G) : g.n ≠ h.n ∧ ∀ t, g.d = some t → h.d ≠ some t := by
 simp only [offG, Bool.and_eq_true, List.all_eq_true] at ho
 have := ho.1 h hh
 refine ⟨by simpa using this.1, fun t ht => ?_⟩
 have h2 := this.2
 rw [ht] at h2
 simpa using h2
theorem offG_tail {g : Ge} {G : List Ge} (ho : offG (g :: G) = true) : offG G = true := by
 simp only [offG, Bool.and_eq_true] at ho
 exact ho.2
theorem offG_inj : ∀ {G : List Ge}, offG G = true → ∀ {x y : Ge}, x ∈ G → y ∈ G → x ≠ y → x.n ≠ y.n
 | [], _, _, _, h, _, _ => by cases h
 | g :: G, ho, x, y, hx, hy, hne => by
  rcases List.mem_cons.1 hx with e | hx'
  ·rcases List.mem_cons.1 hy with e2 | hy'
   ·exact absurd (e.trans e2.symm) hne
   ·rw [e]; exact (offG_ne ho hy').1
  ·rcases List.mem_cons.1 hy with e2 | hy'
   ·rw [e2]; exact Ne.symm (offG_ne ho hx').1
   ·exact offG_inj (offG_tail ho) hx' hy' hne
theorem actG_upd (a : Act) (vs : Nat → Option Value) (v : Value) : ∀ (G : List Ge) (g : Ge), g ∈ G → offG G = true → vs g.n = none → actG a (upd vs g.n v) G = (actG a vs G).put g.d v
 | [], _, h, _, _ => by cases h
 | g' :: G, g, h, ho, hn => by
  rcases List.mem_cons.1 h with rfl | h
  ·rw [actG, actG, hn, upd_same, actG_congr a (vs := upd vs g.n v) (us := vs) G (fun x hx => upd_ne _ _ (Ne.symm (offG_ne ho hx).1)), put_put]
   rfl
  ·rw [actG, actG, actG_upd a vs v G g h (offG_tail ho) hn, upd_ne _ _ (offG_ne ho h).1]
   exact (Act.put_comm _ _ _ (offG_ne ho h).2).symm
theorem lisG_upd (l : Array Bool) (vs : Nat → Option Value) (v : Value) : ∀ (G : List Ge) (g : Ge), g ∈ G → offG G = true → vs g.n = none → lisG l (upd vs g.n v) G = (lisG l vs G).setIfInBounds g.n true
 | [], _, h, _, _ => by cases h
 | g' :: G, g, h, ho, hn => by
  rcases List.mem_cons.1 h with rfl | h
  ·rw [lisG, lisG, hn, upd_same, lisG_congr l (vs := upd vs g.n v) (us := vs) G (fun x hx => upd_ne _ _ (Ne.symm (offG_ne ho hx).1))]
   simp
  ·rw [lisG, lisG, lisG_upd l vs v G g h (offG_tail ho) hn, upd_ne _ _ (offG_ne ho h).1]
   split
   ·exact Array.setIfInBounds_comm _ _ (Ne.symm (offG_ne ho h).1)
   ·rfl
def doneG (vs : Nat → Option Value) (G : List Ge) : List Ge := G.filter fun g => (vs g.n).isSome
theorem doneG_sub (vs : Nat → Option Value) : ∀ (G : List Ge), doneG vs G ∈ subs G
 | [] => by simp [doneG, subs]
 | g :: G => by
  have ih := doneG_sub vs G
  unfold doneG at ih ⊢
  rw [List.filter_cons, subs]
  split
  ·exact List.mem_append_left _ (List.mem_map.2 ⟨_, ih, rfl⟩)
  ·exact List.mem_append_right _ ih
theorem lisG_done (l : Array Bool) (vs : Nat → Option Value) : ∀ (G : List Ge), lisG l vs G = lisD l (doneG vs G)
 | [] => rfl
 | g :: G => by
  have ih := lisG_done l vs G
  unfold doneG at ih ⊢
  rw [List.filter_cons, lisG]
  split
  ·rw [lisD, ih]
  ·exact ih
def hasG (vs : Nat → Option Value) : List Nat → Prop
 | [] => True
 | i :: l => (∃ v, vs i = some v) ∧ hasG vs l
def notG (vs : Nat → Option Value) (i : Nat) : List Ge → Prop
 | [] => True
 | h :: H => (if h.a.contains i = true then vs h.n = none else True) ∧ notG vs i H
theorem hasG_of {vs : Nat → Option Value} : ∀ {l : List Nat}, (∀ i ∈ l, ∃ v, vs i = some v) → hasG vs l
 | [], _ => trivial
 | i :: l, h => ⟨h i (.head _), hasG_of fun j hj => h j (.tail _ hj)⟩
theorem notG_of {vs : Nat → Option Value} {i : Nat} : ∀ {H : List Ge}, (∀ h ∈ H, i ∈ h.a → vs h.n = none) → notG vs i H
 | [], _ => trivial
 | g :: H, h => ⟨by
  split
  ·rename_i hc; exact h g (.head _) (by simpa using hc)
  ·trivial, notG_of fun j hj => h j (.tail _ hj)⟩
def StpsG (P : Program) (ops : Array Oper) (Q : Exit → Act → World → Prop) (a : Act) (R : (Nat → Option Value) → World → Prop) (G : List Ge) : List Ge → Prop
 | [] => True
 | g :: H => (∃ o, ops[g.n]? = some o ∧ ∀ vs w, vs g.n = none → hasG vs g.a → notG vs g.n G → R vs w → Stp P ops Q o (actG a vs G) w (fun v w' => R (upd vs g.n v) w')) ∧ StpsG P ops Q a R G H
theorem StpsG.get {a : Act} {R : (Nat → Option Value) → World → Prop} {G : List Ge} : ∀ {H : List Ge}, StpsG P ops Q a R G H → ∀ g ∈ H, ∃ o, ops[g.n]? = some o ∧ ∀ vs w, vs g.n = none → hasG vs g.a → notG vs g.n G → R vs w → Stp P ops Q o (actG a vs G) w (fun v w' => R (upd vs g.n v) w')
 | [], _, _, h => by cases h
 | g' :: H, hs, g, h => by
  rcases List.mem_cons.1 h with rfl | h
  ·exact hs.1
  ·exact StpsG.get hs.2 g h
theorem count_lt {vs : Nat → Option Value} {G : List Ge} (h : ∃ g ∈ G, vs g.n = none) : (doneG vs G).length < G.length := by
 obtain ⟨g, hg, hn⟩ := h
 rcases Nat.lt_or_ge (doneG vs G).length G.length with h | h
 ·exact h
 ·have h1 : (doneG vs G).length = G.length := Nat.le_antisymm (List.length_filter_le _ _) h
  have := List.length_filter_eq_length_iff.1 h1 g hg
  rw [hn] at this
  simp at this
theorem done_upd {vs : Nat → Option Value} {v : Value} : ∀ {G : List Ge} {g : Ge}, g ∈ G → offG G = true → vs g.n = none → (doneG (upd vs g.n v) G).length = (doneG vs G).length + 1
 | [], _, h, _, _ => by cases h
 | g' :: G, g, h, ho, hn => by
  unfold doneG
  rw [List.filter_cons, List.filter_cons]
  rcases List.mem_cons.1 h with rfl | h
  ·rw [hn, upd_same]
   have : ∀ x ∈ G, (upd vs g.n v x.n).isSome = (vs x.n).isSome := fun x hx => by rw [upd_ne _ _ (Ne.symm (offG_ne ho hx).1)]
   rw [List.filter_congr this]
   simp
  ·have ih := done_upd (v := v) h (offG_tail ho) hn
   unfold doneG at ih
   rw [upd_ne _ _ (offG_ne ho h).1]
   split
   ·rw [List.length_cons, List.length_cons, ih]
   ·exact ih
theorem wpAnyH_grp_aux {fuel : Nat} {listed : Array Bool} {a : Act} {G : List Ge} {R : (Nat → Option Value) → World → Prop} (hok : okG md ops listed G = true) (hS : ∀ vs w, R vs w → S w)
 (hst : StpsG P ops Q a R G G)
 (hend : ∀ vs w, R vs w → hasG vs (G.map (·.n)) → wpAnyH P md ops Q S fuel (lisG listed vs G) (actG a vs G) w) :
 ∀ (n : Nat) (vs : Nat → Option Value) (w : World), R vs w → (∀ h ∈ G, ∀ v, vs h.n = some v → ∀ d ∈ h.a, ∃ u, vs d = some u) → (doneG vs G).length + n = G.length → wpAnyH P md ops Q S (fuel + n) (lisG listed vs G) (actG a vs G) w := by
 simp only [okG, Bool.and_eq_true] at hok
 obtain ⟨⟨⟨ho, hin⟩, hd⟩, hr⟩ := hok
 intro n
 induction n with
 | zero =>
  intro vs w hR hcl hn
  refine hend vs w hR (hasG_of fun i hi => ?_)
  obtain ⟨g, hg, rfl⟩ := List.mem_map.1 hi
  rcases h : vs g.n with _ | v
  ·have := count_lt ⟨g, hg, h⟩; omega
  ·exact ⟨v, rfl⟩
 | succ n ih =>
  intro vs w hR hcl hn
  have h1 := List.all_eq_true.1 hr _ (doneG_sub vs G)
  rw [← lisG_done] at h1
  have hlen : ((doneG vs G).length == G.length) = false := by rw [beq_eq_false_iff_ne]; omega
  have hclo : ((doneG vs G).all fun g => g.a.all fun m => (doneG vs G).any fun d => d.n == m) = true := by
   refine List.all_eq_true.2 fun x hx => List.all_eq_true.2 fun m hm => ?_
   obtain ⟨hx1, hx2⟩ := List.mem_filter.1 hx
   obtain ⟨v, hv⟩ := Option.isSome_iff_exists.1 hx2
   obtain ⟨u, hu⟩ := hcl x hx1 v hv m hm
   obtain ⟨y, hy, hym⟩ := List.any_eq_true.1 (List.all_eq_true.1 (List.all_eq_true.1 hin x hx1) m hm)
   have hym := beq_iff_eq.1 hym
   subst hym
   exact List.any_eq_true.2 ⟨y, List.mem_filter.2 ⟨hy, by rw [hu]; rfl⟩, by simp⟩
  rw [hlen, hclo, Bool.not_true, Bool.false_or, Bool.false_or, Bool.and_eq_true] at h1
  have hne : Region.ready md ops (lisG listed vs G) ≠ [] := by
   have := h1.1
   intro e
   rw [e] at this
   simp at this
  refine wpAnyH_all rfl hne fun i hi => ?_
  have h2 := List.all_eq_true.1 h1.2 i hi
  obtain ⟨g, hg, h3⟩ := List.any_eq_true.1 h2
  simp only [Bool.and_eq_true, beq_iff_eq, Bool.not_eq_true'] at h3
  obtain ⟨⟨rfl, h4⟩, h5⟩ := h3
  have hdep : ∀ d ∈ g.a, ∃ v, vs d = some v := fun d hd => by
   have h6 := List.all_eq_true.1 h5 d hd
   obtain ⟨x, hx, hxd⟩ := List.any_eq_true.1 h6
   have h7 := (List.mem_filter.1 hx).2
   rw [beq_iff_eq.1 hxd] at h7
   exact Option.isSome_iff_exists.1 h7
  have hnone : vs g.n = none := by
   rcases h : vs g.n with _ | v
   ·rfl
   ·have : (doneG vs G).any (fun d => d.n == g.n) = true := List.any_eq_true.2 ⟨g, List.mem_filter.2 ⟨hg, by rw [h]; rfl⟩, by simp⟩
    rw [this] at h4
    cases h4
  obtain ⟨o, hoo, hstp⟩ := hst.get g hg
  have hdst : o.dst = g.d := by
   have := List.all_eq_true.1 hd g hg
   rw [hoo] at this
   simpa using this
  refine (hstp vs w hnone (hasG_of hdep) (notG_of fun h hh hi => by
   rcases hv : vs h.n with _ | v
   ·rfl
   ·obtain ⟨u, hu⟩ := hcl h hh v hv _ hi
    rw [hnone] at hu
    cases hu) hR).op hoo fun v w' h => ⟨hS _ _ h, ?_⟩
  rw [hdst, ← actG_upd a vs v G g hg ho hnone, ← lisG_upd listed vs v G g hg ho hnone]
  refine ih _ _ h (fun x hx u hu d hd => ?_) (by rw [done_upd hg ho hnone]; omega)
  by_cases hdg : d = g.n
  ·exact ⟨v, by rw [hdg, upd_same]⟩
  ·rw [upd_ne _ _ hdg]
   by_cases hxg : x.n = g.n
   ·have hxx : x = g := by
     rcases Classical.em (x = g) with e | e
     ·exact e
     ·exact absurd hxg (offG_inj ho hx hg e)
    subst hxx
    exact hdep d hd
   ·rw [upd_ne _ _ hxg] at hu
    exact hcl x hx u hu d hd
theorem wpAnyH_grp (G : List Ge) (fuel : Nat) (R : (Nat → Option Value) → World → Prop) {n : Nat} {listed : Array Bool} {a : Act} {w : World} (hn : n = fuel + G.length) (hok : okG md ops listed G = true) (h0 : R (fun _ => none) w) (hS : ∀ vs w, R vs w → S w)
 (hst : StpsG P ops Q a R G G)
 (hend : ∀ vs w, R vs w → hasG vs (G.map (·.n)) → wpAnyH P md ops Q S fuel (lisG listed vs G) (actG a vs G) w) :
 wpAnyH P md ops Q S n listed a w := by
 subst hn
 have hd : ∀ G : List Ge, doneG (fun _ => none) G = [] := fun G => by simp [doneG]
 have := wpAnyH_grp_aux (P := P) (Q := Q) hok hS hst hend G.length (fun _ => none) w h0 (fun _ _ _ h => by cases h) (by rw [hd]; simp)
 have ha : ∀ G : List Ge, actG a (fun _ => none) G = a := fun G => by
  induction G with
  | nil => rfl
  | cons g G ih => rw [actG, ih]; exact put_old a g.d
 have hl : ∀ G : List Ge, lisG listed (fun _ => none) G = listed := fun G => by
  induction G with
  | nil => rfl
  | cons g G ih => rw [lisG, ih]; rfl
 rwa [ha, hl] at this
def OP (o : Option Value) (P : Value → Prop) : Prop := ∀ u, o = some u → P u
abbrev OV (o : Option Value) (v : Value) : Prop := OP o (· = v)
theorem OP.no {o : Option Value} (P : Value → Prop) (h : o = none) : OP o P := fun _ e => by rw [h] at e; cases e
theorem OP.is {P : Value → Prop} {v : Value} (h : P v) : OP (some v) P := fun u e => by injection e with e; exact e ▸ h
def ifq {α : Type} (o : Option Value) (r : α) : List α := match o with
 | none => []
 | some _ => [r]
end
end Go.Proofs.YthihaeobkoiljaaGreat
