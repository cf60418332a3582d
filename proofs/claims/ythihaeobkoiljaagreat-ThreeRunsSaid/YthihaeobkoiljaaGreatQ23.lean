/- Lemmas for the law. -/
import Derived.Test.YthihaeobkoiljaaGreatQ19
set_option linter.unusedVariables false
set_option linter.unusedSimpArgs false
set_option maxRecDepth 100000
set_option maxHeartbeats 40000000
namespace Go.Proofs.YthihaeobkoiljaaGreat
open Go.RowKit
theorem unit_nodup {u : Un} (hu : unitB u = true) : (unNames u).Nodup := by
 unfold unitB at hu
 simp only [Bool.and_eq_true, decide_eq_true_eq] at hu
 exact hu.2
theorem nodup_inj {α : Type} {l : List α} (h : l.Nodup) {i j : Nat} (hi : i < l.length) (hj : j < l.length) (e : l[i] = l[j]) : i = j := by
 rcases Nat.lt_trichotomy i j with h1 | h1 | h1
 ·exact absurd e (List.pairwise_iff_getElem.1 h i j hi hj h1)
 ·exact h1
 ·exact absurd e.symm (List.pairwise_iff_getElem.1 h j i hj hi h1)
theorem un_at_b {u : Un} {i : Nat} (h : i < u.bs.length) : ∃ hk : i < (unNames u).length, (unNames u)[i] = u.bs[i].nm := by
 obtain ⟨hk, hE⟩ := un_b (b0 := 0) (v0 := 0) h
 obtain ⟨h1, h2⟩ := nm_of hk
 exact ⟨h1, by rw [h2, hE]⟩
theorem un_at_g {u : Un} {i : Nat} (h : i < u.gs.length) : ∃ hk : u.bs.length + i < (unNames u).length, (unNames u)[u.bs.length + i] = u.gs[i].nm := by
 obtain ⟨hk, hE⟩ := un_g (b0 := 0) (v0 := 0) h
 obtain ⟨h1, h2⟩ := nm_of hk
 exact ⟨h1, by rw [h2, hE]⟩
theorem un_at_o {u : Un} {i : Nat} (h : i < u.os.length) : ∃ hk : u.bs.length + u.gs.length + i < (unNames u).length, (unNames u)[u.bs.length + u.gs.length + i] = u.os[i].nm := by
 obtain ⟨hk, hE⟩ := un_o (b0 := 0) (v0 := 0) h
 obtain ⟨h1, h2⟩ := nm_of hk
 exact ⟨h1, by rw [h2, hE]⟩
theorem giv_b {u : Un} (hu : unitB u = true) {i : Nat} (h : i < u.bs.length) : giv u u.bs[i].nm = (1, i) := by
 have hn := unit_nodup hu
 obtain ⟨k1, e1⟩ := un_at_b h
 rcases giv_cases u u.bs[i].nm with ⟨j, hj, hR, hs⟩ | ⟨j, hj, hR, hs⟩ | ⟨j, hj, hR, hs⟩ | hR
 ·obtain ⟨k2, e2⟩ := un_at_b hj
  have := nodup_inj hn k1 k2 (by rw [e1, e2, hs])
  rw [hR, this]
 ·obtain ⟨k2, e2⟩ := un_at_g hj
  have := nodup_inj hn k1 k2 (by rw [e1, e2, hs])
  omega
 ·obtain ⟨k2, e2⟩ := un_at_o hj
  have := nodup_inj hn k1 k2 (by rw [e1, e2, hs])
  omega
 ·exact absurd (by rw [← e1]; exact List.getElem_mem k1) (giv_zero hR)
theorem giv_g {u : Un} (hu : unitB u = true) {i : Nat} (h : i < u.gs.length) : giv u u.gs[i].nm = (2, i) := by
 have hn := unit_nodup hu
 obtain ⟨k1, e1⟩ := un_at_g h
 rcases giv_cases u u.gs[i].nm with ⟨j, hj, hR, hs⟩ | ⟨j, hj, hR, hs⟩ | ⟨j, hj, hR, hs⟩ | hR
 ·obtain ⟨k2, e2⟩ := un_at_b hj
  have := nodup_inj hn k1 k2 (by rw [e1, e2, hs])
  omega
 ·obtain ⟨k2, e2⟩ := un_at_g hj
  have := nodup_inj hn k1 k2 (by rw [e1, e2, hs])
  have e : i = j := by omega
  rw [hR, e]
 ·obtain ⟨k2, e2⟩ := un_at_o hj
  have := nodup_inj hn k1 k2 (by rw [e1, e2, hs])
  omega
 ·exact absurd (by rw [← e1]; exact List.getElem_mem k1) (giv_zero hR)
theorem giv_o {u : Un} (hu : unitB u = true) {i : Nat} (h : i < u.os.length) : giv u u.os[i].nm = (3, i) := by
 have hn := unit_nodup hu
 obtain ⟨k1, e1⟩ := un_at_o h
 rcases giv_cases u u.os[i].nm with ⟨j, hj, hR, hs⟩ | ⟨j, hj, hR, hs⟩ | ⟨j, hj, hR, hs⟩ | hR
 ·obtain ⟨k2, e2⟩ := un_at_b hj
  have := nodup_inj hn k1 k2 (by rw [e1, e2, hs])
  omega
 ·obtain ⟨k2, e2⟩ := un_at_g hj
  have := nodup_inj hn k1 k2 (by rw [e1, e2, hs])
  omega
 ·obtain ⟨k2, e2⟩ := un_at_o hj
  have := nodup_inj hn k1 k2 (by rw [e1, e2, hs])
  have e : i = j := by omega
  rw [hR, e]
 ·exact absurd (by rw [← e1]; exact List.getElem_mem k1) (giv_zero hR)
theorem opn_iff {u : Un} (hu : unitB u = true) (s : ByteArray) : opn u s = true ↔ (s, false) ∈ opens u := by
 unfold opens
 rw [List.mem_append, List.mem_map, List.mem_map]
 constructor
 ·intro h
  rcases opn_kind h with ⟨i, hi, hR, hs⟩ | ⟨i, hi, hR, hs⟩
  ·refine .inl ⟨u.bs[i], List.getElem_mem hi, ?_⟩
   unfold opn at h
   rw [hR] at h
   simp [List.getD_eq_getElem?_getD, hi] at h
   rw [hs, h]
  ·refine .inr ⟨u.gs[i], List.getElem_mem hi, ?_⟩
   unfold opn at h
   rw [hR] at h
   simp [List.getD_eq_getElem?_getD, hi] at h
   rw [hs, h]
 ·rintro (⟨b, hb, e⟩ | ⟨g, hg, e⟩)
  ·obtain ⟨i, hi, rfl⟩ := List.getElem_of_mem hb
   injection e with e1 e2
   subst e1
   unfold opn
   rw [giv_b hu hi]
   simp [List.getD_eq_getElem?_getD, hi, e2]
  ·obtain ⟨i, hi, rfl⟩ := List.getElem_of_mem hg
   injection e with e1 e2
   subst e1
   unfold opn
   rw [giv_g hu hi]
   simp [List.getD_eq_getElem?_getD, hi, e2]
def hsI (l : List Un) (Ts : List (List (ByteArray × Tv))) (u i : Nat) (h0 : List (ByteArray × Hv)) : List (ByteArray × Hv) := ((opens (unAt l u)).take i).foldl (fun hs p => opH hs p.1 p.2 u (Ts.getD u [])) h0
def hsU (l : List Un) (Ts : List (List (ByteArray × Tv))) : Nat → List (ByteArray × Hv)
 | 0 => []
 | u + 1 => hsI l Ts u (opens (unAt l u)).length (hsU l Ts u)
theorem hsI_succ {l : List Un} {Ts : List (List (ByteArray × Tv))} {u i : Nat} {h0 : List (ByteArray × Hv)} (hi : i < (opens (unAt l u)).length) : hsI l Ts u (i + 1) h0 = opH (hsI l Ts u i h0) (opens (unAt l u))[i].1 (opens (unAt l u))[i].2 u (Ts.getD u []) := by
 unfold hsI
 rw [List.take_succ_eq_append_getElem hi, List.foldl_append]
 rfl
theorem lk_op {hs : List (ByteArray × Hv)} {s s' : ByteArray} {st : Bool} {i : Nat} {T : List (ByteArray × Tv)} : lkM (opH hs s st i T) s' = if s = s' ∧ st = false ∧ lkM hs s = none then some ⟨(i : Int), (lkM T s').getD zTv⟩ else lkM hs s' := by
 unfold opH
 split
 ·rename_i h
  rw [Bool.and_eq_true, Option.isNone_iff_eq_none] at h
  rw [lkM_snoc]
  by_cases e : s = s'
  ·subst e
   rw [if_pos rfl, if_pos ⟨rfl, by simpa using h.1, h.2⟩]
  ·rw [if_neg e, if_neg (fun hh => e hh.1)]
 ·rename_i h
  rw [if_neg]
  rintro ⟨-, h2, h3⟩
  exact h (by rw [h2, h3]; rfl)
open Classical in
theorem lk_hsI {l : List Un} {Ts : List (List (ByteArray × Tv))} {u : Nat} {h0 : List (ByteArray × Hv)} (s : ByteArray) : ∀ i, i ≤ (opens (unAt l u)).length → lkM (hsI l Ts u i h0) s = match lkM h0 s with
 | some h => some h
 | none => if (s, false) ∈ (opens (unAt l u)).take i then some ⟨(u : Int), (lkM (Ts.getD u []) s).getD zTv⟩ else none := by
 intro i
 induction i with
 | zero =>
  intro _
  unfold hsI
  simp
  rcases lkM h0 s with _ | h <;> rfl
 | succ i ih =>
  intro hi
  have hi' : i < (opens (unAt l u)).length := hi
  rw [hsI_succ hi', lk_op, ih (Nat.le_of_lt hi')]
  rw [List.take_succ_eq_append_getElem hi']
  generalize hp : (opens (unAt l u))[i] = p at *
  obtain ⟨s', st⟩ := p
  simp only [List.mem_append, List.mem_singleton, Prod.mk.injEq]
  by_cases e : s' = s
  ·subst e
   rw [ih (Nat.le_of_lt hi')]
   rcases h1 : lkM h0 s' with _ | h
   ·by_cases h2 : (s', false) ∈ (opens (unAt l u)).take i
    ·simp [h2]
    ·simp only [h2, if_false]
     cases st <;> simp
   ·simp
  ·have e' : ¬ s = s' := fun h => e h.symm
   rcases h1 : lkM h0 s with _ | h
   ·simp [e, e']
   ·simp [e]
open Classical in
theorem lk_hsU {l : List Un} {Ts : List (List (ByteArray × Tv))} (hu : ∀ j (h : j < l.length), unitB l[j] = true) (s : ByteArray) : ∀ u, u ≤ l.length → lkM (hsU l Ts u) s = (hom (l.take u) s).map fun v => ⟨(v : Int), (lkM (Ts.getD v []) s).getD zTv⟩ := by
 intro u
 induction u with
 | zero => intro _; rfl
 | succ u ih =>
  intro h
  have h' : u < l.length := h
  rw [hsU, lk_hsI s _ (Nat.le_refl _), ih (Nat.le_of_lt h'), List.take_of_length_le (Nat.le_refl _), List.take_succ_eq_append_getElem h']
  unfold hom
  rw [List.findIdx?_append]
  rcases e : (l.take u).findIdx? (fun w => opn w s) with _ | v
  ·rw [unAt_at h']
   by_cases ho : opn l[u] s = true
   ·rw [if_pos ((opn_iff (hu u h') s).1 ho)]
    simp [ho, Nat.min_eq_left (Nat.le_of_lt h')]
   ·rw [if_neg (fun hh => ho ((opn_iff (hu u h') s).2 hh))]
    simp [ho]
  ·simp
theorem opens_fst (u : Un) : (opens u).map (·.1) = u.bs.map (·.nm) ++ u.gs.map (·.nm) := by
 unfold opens
 simp [Function.comp_def]
theorem opens_nodup {u : Un} (hu : unitB u = true) : ((opens u).map (·.1)).Nodup := by
 rw [opens_fst]
 have := unit_nodup hu
 unfold unNames at this
 exact (List.nodup_append.1 this).1
theorem hom_take {l : List Un} {s : ByteArray} {u : Nat} (hu : u < l.length) (ho : opn l[u] s = true) : (hom (l.take u) s).isNone = !decide ((homR l s).1 < (u : Int)) := by
 rcases e : hom (l.take u) s with _ | v
 ·have h1 : ∀ j (h : j < l.length), j < u → opn l[j] s = false := fun j h hj => by
   unfold hom at e
   rw [List.findIdx?_eq_none_iff] at e
   have := e l[j] (List.mem_take_iff_getElem.2 ⟨j, by omega, rfl⟩)
   simpa using this
  rw [homR_some hu ho h1]
  simp
 ·unfold hom at e
  rw [List.findIdx?_eq_some_iff_getElem] at e
  obtain ⟨hk, h1, h2⟩ := e
  have hk' : v < u := by rw [List.length_take] at hk; omega
  have hv : v < l.length := by omega
  rw [List.getElem_take] at h1
  rw [homR_some hv h1 fun j h hj => by
   have := h2 j hj
   rw [List.getElem_take] at this
   simpa using this]
  simp
  omega
theorem twice_is {l : List Un} {Ts : List (List (ByteArray × Tv))} (hU : ∀ j (h : j < l.length), unitB l[j] = true) {u i : Nat} (hu : u < l.length) (hi : i < (opens l[u]).length) :
 ((opens l[u])[i].2 || (lkM (hsI l Ts u i (hsU l Ts u)) (opens l[u])[i].1).isNone) = (g3 l u i).isNone := by
 have hi2 : i < (opens (unAt l u)).length := by rw [unAt_at hu]; exact hi
 have hg : g3 l u i = if !(opens l[u])[i].2 && decide ((homR l (opens l[u])[i].1).1 < (u : Int)) then some ((u : Int), 5, (i : Int)) else none := by
  unfold g3
  rw [unAt_at hu]
  simp [List.getD_eq_getElem?_getD, hi]
 rw [hg]
 generalize hp : (opens l[u])[i] = p at *
 obtain ⟨s, st⟩ := p
 cases st with
 | true => simp
 | false =>
  have ho : opn l[u] s = true := (opn_iff (hU u hu) s).2 (by rw [← hp]; exact List.getElem_mem hi)
  have hn : ¬ (s, false) ∈ (opens (unAt l u)).take i := by
   rw [unAt_at hu]
   intro hm
   obtain ⟨j, hj, e⟩ := List.mem_take_iff_getElem.1 hm
   have hj' : j < (opens l[u]).length := by omega
   have e1 : ((opens l[u]).map (·.1))[j]'(by simpa using hj') = ((opens l[u]).map (·.1))[i]'(by simpa using hi) := by
    rw [List.getElem_map, List.getElem_map, e, hp]
   have := nodup_inj (opens_nodup (hU u hu)) _ _ e1
   omega
  simp only [Bool.false_or, Bool.not_false, Bool.true_and]
  rw [lk_hsI s i (Nat.le_of_lt hi2), lk_hsU hU s u (Nat.le_of_lt hu)]
  have ht := hom_take hu ho
  rcases e : hom (l.take u) s with _ | v
  ·rw [e] at ht
   simp at ht
   simp [hn]
   omega
  ·rw [e] at ht
   simp at ht
   simp [ht]
theorem home_thing {l : List Un} {w : World} {cb : List (List Value)} {ms : List (Nat × List (ByteArray × Tv))} {vr : List Vr} (hU : ∀ j (h : j < l.length), unitB l[j] = true) (ok : MtOk l w l.length cb ms vr) (s : ByteArray) :
 (homR l s = (-1, 0, 0) ∧ lkM (hsU l (ms.map (·.2)) l.length) s = none) ∨
 ∃ v, ∃ hv : v < l.length, ∃ x, lkM (hsU l (ms.map (·.2)) l.length) s = some ⟨(v : Int), x⟩ ∧ homR l s = ((v : Int), giv l[v] s) ∧ x.fn = ((giv l[v] s).1 == 1) ∧ x.t = textB (tyF l[v] s).1 ∧ may (tyF l[v] s).1 = true ∧ Rep w (tyF l[v] s).1 x.ty5 ∧ x.n = numN l[v] (allB l v).length (allG l v).length s ∧ opn l[v] s = true := by
 have hl := lk_hsU (Ts := ms.map (·.2)) hU s l.length (Nat.le_refl _)
 rw [List.take_of_length_le (Nat.le_refl _)] at hl
 rcases e : hom l s with _ | v
 ·exact .inl ⟨by unfold homR; rw [e], by rw [hl, e]; rfl⟩
 ·have e0 := e
  unfold hom at e
  rw [List.findIdx?_eq_some_iff_getElem] at e
  obtain ⟨hv, ho, hmin⟩ := e
  have hml : v < ms.length := by rw [ok.ln]; exact hv
  have hT : All2 (TvOk w) (ents l[v] (allB l v).length (allG l v).length) ms[v].2 := by
   have := ok.nm v ms[v] (List.getElem?_eq_getElem hml)
   rwa [unAt_at hv] at this
  rcases things_ty hT (hU v hv) s with ⟨-, -, h0⟩ | ⟨x, k1, k2, k3, k4, k5, k6⟩
  ·unfold opn at ho; rw [h0] at ho; cases ho
  ·refine .inr ⟨v, hv, x, ?_, homR_some hv ho fun j h hj => by simpa using hmin j hj, ?_, k4, ty_may (hU v hv) k2, k5, k6, ho⟩
   ·rw [hl, e0]
    simp [List.getD_eq_getElem?_getD, List.getElem?_eq_getElem hml, k1]
   ·rw [← k3]
    rcases opn_kind ho with ⟨i, hi, hR, -⟩ | ⟨i, hi, hR, -⟩
    ·unfold tyF; rw [hR]; simp
    ·unfold tyF; rw [hR]; simp
def addO (H : List (ByteArray × Hv)) (u : Un) (i : Nat) : List (ByteArray × Tv) := (u.os.take i).map fun o => (o.nm, ((lkM H o.nm).getD zHv).x)
theorem addO_succ {H : List (ByteArray × Hv)} {u : Un} {i : Nat} (h : i < u.os.length) : addO H u (i + 1) = addO H u i ++ [(u.os[i].nm, ((lkM H u.os[i].nm).getD zHv).x)] := by
 unfold addO
 rw [List.take_succ_eq_append_getElem h, List.map_append]
 rfl
def cntO (l : List Un) (k i j : Nat) : Nat := if j < k then (unAt l j).os.length else if j = k then i else 0
def MsRel (l : List Un) (H : List (ByteArray × Hv)) (ms : List (Nat × List (ByteArray × Tv))) (k i : Nat) (ms' : List (Nat × List (ByteArray × Tv))) : Prop :=
 ms'.length = ms.length ∧ ∀ j m, ms[j]? = some m → ms'[j]? = some (m.1, m.2 ++ addO H (unAt l j) (cntO l k i j))
theorem MsRel.zero {l : List Un} {H : List (ByteArray × Hv)} {ms : List (Nat × List (ByteArray × Tv))} : MsRel l H ms 0 0 ms := by
 refine ⟨rfl, fun j m hj => ?_⟩
 have : cntO l 0 0 j = 0 := by unfold cntO; simp
 rw [this]
 simp [addO, hj]
theorem MsRel.fst {l : List Un} {H : List (ByteArray × Hv)} {ms ms' : List (Nat × List (ByteArray × Tv))} {k i : Nat} (h : MsRel l H ms k i ms') {j : Nat} {m : Nat × List (ByteArray × Tv)} (hj : ms[j]? = some m) : ∃ T, ms'[j]? = some (m.1, T) := ⟨_, h.2 j m hj⟩
theorem MsRel.unit {l : List Un} {H : List (ByteArray × Hv)} {ms ms' : List (Nat × List (ByteArray × Tv))} {k : Nat} (h : MsRel l H ms k (unAt l k).os.length ms') : MsRel l H ms (k + 1) 0 ms' := by
 refine ⟨h.1, fun j m hj => ?_⟩
 rw [h.2 j m hj]
 have : cntO l k (unAt l k).os.length j = cntO l (k + 1) 0 j := by
  unfold cntO
  rcases Nat.lt_trichotomy j k with h1 | h1 | h1
  ·rw [if_pos h1, if_pos (by omega)]
  ·subst h1; rw [if_neg (Nat.lt_irrefl _), if_pos rfl, if_pos (by omega)]
  ·rw [if_neg (by omega), if_neg (by omega), if_neg (by omega)]; split <;> rfl
 rw [this]
theorem MsRel.name {l : List Un} {H : List (ByteArray × Hv)} {ms ms' : List (Nat × List (ByteArray × Tv))} {k i : Nat} (hk : k < l.length) (hi : i < l[k].os.length) (h : MsRel l H ms k i ms') {b : Nat} {T : List (ByteArray × Tv)} (hm : ms'[k]? = some (b, T)) :
 MsRel l H ms k (i + 1) (ms'.set k (b, T ++ [(l[k].os[i].nm, ((lkM H l[k].os[i].nm).getD zHv).x)])) := by
 refine ⟨by rw [List.length_set]; exact h.1, fun j m hj => ?_⟩
 by_cases e : j = k
 ·subst e
  have h2 := h.2 j m hj
  rw [hm] at h2
  injection h2 with h2
  have hlt : j < ms'.length := (List.getElem?_eq_some_iff.1 hm).1
  rw [List.getElem?_set_self hlt]
  injection h2 with h3 h4
  subst h3
  have c1 : cntO l j i j = i := by unfold cntO; simp
  have c2 : cntO l j (i + 1) j = i + 1 := by unfold cntO; simp
  rw [c2, unAt_at hk, addO_succ hi, h4, c1, unAt_at hk, List.append_assoc]
 ·rw [List.getElem?_set_ne (fun h => e h.symm), h.2 j m hj]
  have : cntO l k i j = cntO l k (i + 1) j := by unfold cntO; split; rfl; simp [e]
  rw [this]
theorem mt_pull {l : List Un} {w : World} {X k : Nat} {A1 A2 A3 A4 : Option Addr} {d1 d2 d3 d4 : Nat} {cb : List (List Value)} {vr : List Vr} {base : List Rc} {j b : Nat} {ms : List (Nat × List (ByteArray × Tv))} {T : List (ByteArray × Tv)} (hj : ms[j]? = some (b, T)) :
 ∃ R : List Rc, ∀ T', (mtP l w X k A1 A2 A3 A4 d1 d2 d3 d4 cb (ms.set j (b, T')) vr base).Perm (mpB (b, T') :: R) := by
 have hlt : j < ms.length := (List.getElem?_eq_some_iff.1 hj).1
 have hfst : ∀ T', (ms.set j (b, T')).map (fun m => Value.map (some m.1)) = ms.map fun m => Value.map (some m.1) := fun T' => by
  apply List.ext_getElem?
  intro i
  rw [List.getElem?_map, List.getElem?_map]
  by_cases e : i = j
  ·subst e
   rw [List.getElem?_set_self hlt, hj]
   rfl
  ·rw [List.getElem?_set_ne (fun h => e h.symm)]
 refine ⟨(bx X 55 (lnk (allB l k).length (allG l k).length k A1 A2 A3 A4 d1 d2 d3 d4 0) :: ow w.heap.size 37 9 (.slice A1 (allB l k).length d1) (allB l k).length cb.flatten :: ow w.heap.size 3 1 (.slice A2 (allB l k).length d2) (allB l k).length (uns l k) :: ow w.heap.size 42 1 (.slice A3 (allG l k).length d3) (allG l k).length (vr.map Vr.val) :: ow w.heap.size 57 1 (.slice A4 k d4) k (ms.map fun m => .map (some m.1)) :: (ms.take j).map mpB) ++ ((ms.drop (j + 1)).map mpB ++ (vr.map varB ++ base)), fun T' => ?_⟩
 unfold mtP
 rw [hfst T', List.set_eq_take_append_cons_drop, if_pos hlt, List.map_append, List.map_cons, List.append_assoc, List.cons_append]
 exact List.perm_middle (l₁ := _ :: _ :: _ :: _ :: _ :: (ms.take j).map mpB)
end Go.Proofs.YthihaeobkoiljaaGreat
