/- Operations of a drawn region that may come in any order: one relation over what is done serves for every order; A row's last node written over; a walk's pieces: more; The parser: declarations: extern; The parser's functions that take a node, over a walk's one fact; The parser: a number. -/
import Derived.Test.YtgegfbopogcjpaaGreatDoorQ01
import Derived.Test.YtgegfbopogcjpaaGreatDoorQ16
import Derived.Deep.RegionHeld
import Derived.Laws.OwnMore
namespace Go.Proofs.YtgegfbopogcjpaaGreatDoor
set_option linter.unusedVariables false
set_option linter.unusedSimpArgs false
def old (a : Act) : Option Tmp → Value
 | some d => a.tmps.getD d undef
 | none => undef
theorem put_old (a : Act) (d : Option Tmp) : a.put d (old a d) = a := by
 cases d with
 | none => rfl
 | some d =>
  obtain ⟨t, ds⟩ := a
  simp only [Act.put, old, Act.mk.injEq, and_true]
  apply Array.ext
  ·simp
  ·intro i h1 h2
   by_cases hd : d = i
   ·subst hd
    simp at h1
    simp [h1]
   ·rw [Array.getElem_setIfInBounds_ne h2 hd]
theorem put_put (a : Act) (d : Option Tmp) (u v : Value) : (a.put d u).put d v = a.put d v := by
 cases d with
 | none => rfl
 | some d =>
  obtain ⟨t, ds⟩ := a
  simp [Act.put]
section
variable {P : Program} {ops : Array Oper} {Q : Exit → Act → World → Prop} {md : Region.Mode} {S : World → Prop}
def Stp (P : Program) (ops : Array Oper) (Q : Exit → Act → World → Prop) (o : Oper) (a : Act) (w : World) (T : Value → World → Prop) : Prop :=
 ∀ K' : Act → World → Prop, Shut (∀ v w', T v w' → K' (a.put o.dst v) w') → if Region.wanted o (yielded ops a.tmps) = true then Oper.wp P o a w K' Q else K' (a.put o.dst undef) w
theorem Stp.op {i : Nat} {o : Oper} {a : Act} {w : World} {T : Value → World → Prop} {K : Act → World → Prop} (h : Stp P ops Q o a w T) (ho : ops[i]? = some o) (hK : ∀ v w', T v w' → K (a.put o.dst v) w') : wpOp P ops Q i K a w :=
 wpOp_step ho fun K' hK' => h K' (fun v w' hT => hK' _ _ (hK v w' hT))
structure Ge where
 n : Nat
 d : Option Tmp
 a : List Nat
def actG (a : Act) (vs : Nat → Option Value) : List Ge → Act
 | [] => a
 | g :: G => (actG a vs G).put g.d ((vs g.n).getD (old a g.d))
def lisG (listed : Array Bool) (vs : Nat → Option Value) : List Ge → Array Bool
 | [] => listed
 | g :: G => if (vs g.n).isSome = true then (lisG listed vs G).setIfInBounds g.n true else lisG listed vs G
def upd (vs : Nat → Option Value) (i : Nat) (v : Value) : Nat → Option Value := fun j => if j = i then some v else vs j
@[simp] theorem upd_same (vs : Nat → Option Value) (i : Nat) (v : Value) : upd vs i v i = some v := by simp [upd]
theorem upd_ne (vs : Nat → Option Value) {i j : Nat} (v : Value) (h : j ≠ i) : upd vs i v j = vs j := by simp [upd, h]
def offG : List Ge → Bool
 | [] => true
 | g :: G => (G.all fun h => g.n != h.n && (match g.d with
  | some d => h.d != some d
  | none => true)) && offG G
def subs : List Ge → List (List Ge)
 | [] => [[]]
 | g :: G => (subs G).map (g :: ·) ++ subs G
def lisD (listed : Array Bool) : List Ge → Array Bool
 | [] => listed
 | g :: D => (lisD listed D).setIfInBounds g.n true
def okG (md : Region.Mode) (ops : Array Oper) (listed : Array Bool) (G : List Ge) : Bool :=
 offG G && (G.all fun g => g.a.all fun m => G.any fun d => d.n == m) && (G.all fun g => (ops[g.n]?).map (·.dst) == some g.d) &&
 (subs G).all fun D => D.length == G.length || !(D.all fun g => g.a.all fun m => D.any fun d => d.n == m) || (!(Region.ready md ops (lisD listed D)).isEmpty && (Region.ready md ops (lisD listed D)).all fun i => G.any fun g => g.n == i && !(D.any fun d => d.n == i) && g.a.all fun m => D.any fun d => d.n == m)
theorem actG_congr (a : Act) {vs us : Nat → Option Value} : ∀ (G : List Ge), (∀ g ∈ G, vs g.n = us g.n) → actG a vs G = actG a us G
 | [], _ => rfl
 | g :: G, h => by
  rw [actG, actG, h g (by simp), actG_congr a G (fun x hx => h x (by simp [hx]))]
theorem lisG_congr (l : Array Bool) {vs us : Nat → Option Value} : ∀ (G : List Ge), (∀ g ∈ G, vs g.n = us g.n) → lisG l vs G = lisG l us G
 | [], _ => rfl
 | g :: G, h => by
  rw [lisG, lisG, h g (by simp), lisG_congr l G (fun x hx => h x (by simp [hx]))]
theorem offG_ne {g h : Ge} {G : List Ge} (ho : offG (g :: G) = true) (hh : h ∈ G) : g.n ≠ h.n ∧ ∀ t, g.d = some t → h.d ≠ some t := by
 simp only [offG, Bool.and_eq_true, List.all_eq_true] at ho
 have := ho.1 h hh
 refine ⟨by simpa using this.1, fun t ht => ?_⟩
 have h2 := this.2
 rw [ht] at h2
 simpa using h2
theorem offG_tail {g : Ge} {G : List Ge} (ho : offG (g :: G) = true) : offG G = true := by
 simp only [offG, Bool.and_eq_true] at ho
 exact ho.2
theorem offG_inj : ∀ {G : List Ge}, offG G = true → ∀ {x y : Ge}, x ∈ G → y ∈ G → x ≠ y → x.n ≠ y.n
 | [], _, _, _, h, _, _ => by cases h
 | g :: G, ho, x, y, hx, hy, hne => by
  rcases List.mem_cons.1 hx with e | hx'
  ·rcases List.mem_cons.1 hy with e2 | hy'
   ·exact absurd (e.trans e2.symm) hne
   ·rw [e]; exact (offG_ne ho hy').1
  ·rcases List.mem_cons.1 hy with e2 | hy'
   ·rw [e2]; exact Ne.symm (offG_ne ho hx').1
   ·exact offG_inj (offG_tail ho) hx' hy' hne
theorem actG_upd (a : Act) (vs : Nat → Option Value) (v : Value) : ∀ (G : List Ge) (g : Ge), g ∈ G → offG G = true → vs g.n = none → actG a (upd vs g.n v) G = (actG a vs G).put g.d v
 | [], _, h, _, _ => by cases h
 | g' :: G, g, h, ho, hn => by
  rcases List.mem_cons.1 h with rfl | h
  ·rw [actG, actG, hn, upd_same, actG_congr a (vs := upd vs g.n v) (us := vs) G (fun x hx => upd_ne _ _ (Ne.symm (offG_ne ho hx).1)), put_put]
   rfl
  ·rw [actG, actG, actG_upd a vs v G g h (offG_tail ho) hn, upd_ne _ _ (offG_ne ho h).1]
   exact (Act.put_comm _ _ _ (offG_ne ho h).2).symm
theorem lisG_upd (l : Array Bool) (vs : Nat → Option Value) (v : Value) : ∀ (G : List Ge) (g : Ge), g ∈ G → offG G = true → vs g.n = none → lisG l (upd vs g.n v) G = (lisG l vs G).setIfInBounds g.n true
 | [], _, h, _, _ => by cases h
 | g' :: G, g, h, ho, hn => by
  rcases List.mem_cons.1 h with rfl | h
  ·rw [lisG, lisG, hn, upd_same, lisG_congr l (vs := upd vs g.n v) (us := vs) G (fun x hx => upd_ne _ _ (Ne.symm (offG_ne ho hx).1))]
   simp
  ·rw [lisG, lisG, lisG_upd l vs v G g h (offG_tail ho) hn, upd_ne _ _ (offG_ne ho h).1]
   split
   ·exact Array.setIfInBounds_comm _ _ (Ne.symm (offG_ne ho h).1)
   ·rfl
def doneG (vs : Nat → Option Value) (G : List Ge) : List Ge := G.filter fun g => (vs g.n).isSome
theorem doneG_sub (vs : Nat → Option Value) : ∀ (G : List Ge), doneG vs G ∈ subs G
 | [] => by simp [doneG, subs]
 | g :: G => by
  have ih := doneG_sub vs G
  unfold doneG at ih ⊢
  rw [List.filter_cons, subs]
  split
  ·exact List.mem_append_left _ (List.mem_map.2 ⟨_, ih, rfl⟩)
  ·exact List.mem_append_right _ ih
theorem lisG_done (l : Array Bool) (vs : Nat → Option Value) : ∀ (G : List Ge), lisG l vs G = lisD l (doneG vs G)
 | [] => rfl
 | g :: G => by
  have ih := lisG_done l vs G
  unfold doneG at ih ⊢
  rw [List.filter_cons, lisG]
  split
  ·rw [lisD, ih]
  ·exact ih
def hasG (vs : Nat → Option Value) : List Nat → Prop
 | [] => True
 | i :: l => (∃ v, vs i = some v) ∧ hasG vs l
def notG (vs : Nat → Option Value) (i : Nat) : List Ge → Prop
 | [] => True
 | h :: H => (if h.a.contains i = true then vs h.n = none else True) ∧ notG vs i H
theorem hasG_of {vs : Nat → Option Value} : ∀ {l : List Nat}, (∀ i ∈ l, ∃ v, vs i = some v) → hasG vs l
 | [], _ => trivial
 | i :: l, h => ⟨h i (.head _), hasG_of fun j hj => h j (.tail _ hj)⟩
theorem notG_of {vs : Nat → Option Value} {i : Nat} : ∀ {H : List Ge}, (∀ h ∈ H, i ∈ h.a → vs h.n = none) → notG vs i H
 | [], _ => trivial
 | g :: H, h => ⟨by
  split
  ·rename_i hc; exact h g (.head _) (by simpa using hc)
  ·trivial, notG_of fun j hj => h j (.tail _ hj)⟩
def StpsG (P : Program) (ops : Array Oper) (Q : Exit → Act → World → Prop) (a : Act) (R : (Nat → Option Value) → World → Prop) (G : List Ge) : List Ge → Prop
 | [] => True
 | g :: H => (∃ o, ops[g.n]? = some o ∧ ∀ vs w, vs g.n = none → hasG vs g.a → notG vs g.n G → R vs w → Stp P ops Q o (actG a vs G) w (fun v w' => R (upd vs g.n v) w')) ∧ StpsG P ops Q a R G H
theorem StpsG.get {a : Act} {R : (Nat → Option Value) → World → Prop} {G : List Ge} : ∀ {H : List Ge}, StpsG P ops Q a R G H → ∀ g ∈ H, ∃ o, ops[g.n]? = some o ∧ ∀ vs w, vs g.n = none → hasG vs g.a → notG vs g.n G → R vs w → Stp P ops Q o (actG a vs G) w (fun v w' => R (upd vs g.n v) w')
 | [], _, _, h => by cases h
 | g' :: H, hs, g, h => by
  rcases List.mem_cons.1 h with rfl | h
  ·exact hs.1
  ·exact StpsG.get hs.2 g h
theorem count_lt {vs : Nat → Option Value} {G : List Ge} (h : ∃ g ∈ G, vs g.n = none) : (doneG vs G).length < G.length := by
 obtain ⟨g, hg, hn⟩ := h
 rcases Nat.lt_or_ge (doneG vs G).length G.length with h | h
 ·exact h
 ·have h1 : (doneG vs G).length = G.length := Nat.le_antisymm (List.length_filter_le _ _) h
  have := List.length_filter_eq_length_iff.1 h1 g hg
  rw [hn] at this
  simp at this
theorem done_upd {vs : Nat → Option Value} {v : Value} : ∀ {G : List Ge} {g : Ge}, g ∈ G → offG G = true → vs g.n = none → (doneG (upd vs g.n v) G).length = (doneG vs G).length + 1
 | [], _, h, _, _ => by cases h
 | g' :: G, g, h, ho, hn => by
  unfold doneG
  rw [List.filter_cons, List.filter_cons]
  rcases List.mem_cons.1 h with rfl | h
  ·rw [hn, upd_same]
   have : ∀ x ∈ G, (upd vs g.n v x.n).isSome = (vs x.n).isSome := fun x hx => by rw [upd_ne _ _ (Ne.symm (offG_ne ho hx).1)]
   rw [List.filter_congr this]
   simp
  ·have ih := done_upd (v := v) h (offG_tail ho) hn
   unfold doneG at ih
   rw [upd_ne _ _ (offG_ne ho h).1]
   split
   ·rw [List.length_cons, List.length_cons, ih]
   ·exact ih
theorem wpAnyH_grp_aux {fuel : Nat} {listed : Array Bool} {a : Act} {G : List Ge} {R : (Nat → Option Value) → World → Prop} (hok : okG md ops listed G = true) (hS : ∀ vs w, R vs w → S w)
 (hst : StpsG P ops Q a R G G)
 (hend : ∀ vs w, R vs w → hasG vs (G.map (·.n)) → wpAnyH P md ops Q S fuel (lisG listed vs G) (actG a vs G) w) :
 ∀ (n : Nat) (vs : Nat → Option Value) (w : World), R vs w → (∀ h ∈ G, ∀ v, vs h.n = some v → ∀ d ∈ h.a, ∃ u, vs d = some u) → (doneG vs G).length + n = G.length → wpAnyH P md ops Q S (fuel + n) (lisG listed vs G) (actG a vs G) w := by
 simp only [okG, Bool.and_eq_true] at hok
 obtain ⟨⟨⟨ho, hin⟩, hd⟩, hr⟩ := hok
 intro n
 induction n with
 | zero =>
  intro vs w hR hcl hn
  refine hend vs w hR (hasG_of fun i hi => ?_)
  obtain ⟨g, hg, rfl⟩ := List.mem_map.1 hi
  rcases h : vs g.n with _ | v
  ·have := count_lt ⟨g, hg, h⟩; omega
  ·exact ⟨v, rfl⟩
 | succ n ih =>
  intro vs w hR hcl hn
  have h1 := List.all_eq_true.1 hr _ (doneG_sub vs G)
  rw [← lisG_done] at h1
  have hlen : ((doneG vs G).length == G.length) = false := by rw [beq_eq_false_iff_ne]; omega
  have hclo : ((doneG vs G).all fun g => g.a.all fun m => (doneG vs G).any fun d => d.n == m) = true := by
   refine List.all_eq_true.2 fun x hx => List.all_eq_true.2 fun m hm => ?_
   obtain ⟨hx1, hx2⟩ := List.mem_filter.1 hx
   obtain ⟨v, hv⟩ := Option.isSome_iff_exists.1 hx2
   obtain ⟨u, hu⟩ := hcl x hx1 v hv m hm
   obtain ⟨y, hy, hym⟩ := List.any_eq_true.1 (List.all_eq_true.1 (List.all_eq_true.1 hin x hx1) m hm)
   have hym := beq_iff_eq.1 hym
   subst hym
   exact List.any_eq_true.2 ⟨y, List.mem_filter.2 ⟨hy, by rw [hu]; rfl⟩, by simp⟩
  rw [hlen, hclo, Bool.not_true, Bool.false_or, Bool.false_or, Bool.and_eq_true] at h1
  have hne : Region.ready md ops (lisG listed vs G) ≠ [] := by
   have := h1.1
   intro e
   rw [e] at this
   simp at this
  refine wpAnyH_all rfl hne fun i hi => ?_
  have h2 := List.all_eq_true.1 h1.2 i hi
  obtain ⟨g, hg, h3⟩ := List.any_eq_true.1 h2
  simp only [Bool.and_eq_true, beq_iff_eq, Bool.not_eq_true'] at h3
  obtain ⟨⟨rfl, h4⟩, h5⟩ := h3
  have hdep : ∀ d ∈ g.a, ∃ v, vs d = some v := fun d hd => by
   have h6 := List.all_eq_true.1 h5 d hd
   obtain ⟨x, hx, hxd⟩ := List.any_eq_true.1 h6
   have h7 := (List.mem_filter.1 hx).2
   rw [beq_iff_eq.1 hxd] at h7
   exact Option.isSome_iff_exists.1 h7
  have hnone : vs g.n = none := by
   rcases h : vs g.n with _ | v
   ·rfl
   ·have : (doneG vs G).any (fun d => d.n == g.n) = true := List.any_eq_true.2 ⟨g, List.mem_filter.2 ⟨hg, by rw [h]; rfl⟩, by simp⟩
    rw [this] at h4
    cases h4
  obtain ⟨o, hoo, hstp⟩ := hst.get g hg
  have hdst : o.dst = g.d := by
   have := List.all_eq_true.1 hd g hg
   rw [hoo] at this
   simpa using this
  refine (hstp vs w hnone (hasG_of hdep) (notG_of fun h hh hi => by
   rcases hv : vs h.n with _ | v
   ·rfl
   ·obtain ⟨u, hu⟩ := hcl h hh v hv _ hi
    rw [hnone] at hu
    cases hu) hR).op hoo fun v w' h => ⟨hS _ _ h, ?_⟩
  rw [hdst, ← actG_upd a vs v G g hg ho hnone, ← lisG_upd listed vs v G g hg ho hnone]
  refine ih _ _ h (fun x hx u hu d hd => ?_) (by rw [done_upd hg ho hnone]; omega)
  by_cases hdg : d = g.n
  ·exact ⟨v, by rw [hdg, upd_same]⟩
  ·rw [upd_ne _ _ hdg]
   by_cases hxg : x.n = g.n
   ·have hxx : x = g := by
     rcases Classical.em (x = g) with e | e
     ·exact e
     ·exact absurd hxg (offG_inj ho hx hg e)
    subst hxx
    exact hdep d hd
   ·rw [upd_ne _ _ hxg] at hu
    exact hcl x hx u hu d hd
theorem wpAnyH_grp (G : List Ge) (fuel : Nat) (R : (Nat → Option Value) → World → Prop) {n : Nat} {listed : Array Bool} {a : Act} {w : World} (hn : n = fuel + G.length) (hok : okG md ops listed G = true) (h0 : R (fun _ => none) w) (hS : ∀ vs w, R vs w → S w)
 (hst : StpsG P ops Q a R G G)
 (hend : ∀ vs w, R vs w → hasG vs (G.map (·.n)) → wpAnyH P md ops Q S fuel (lisG listed vs G) (actG a vs G) w) :
 wpAnyH P md ops Q S n listed a w := by
 subst hn
 have hd : ∀ G : List Ge, doneG (fun _ => none) G = [] := fun G => by simp [doneG]
 have := wpAnyH_grp_aux (P := P) (Q := Q) hok hS hst hend G.length (fun _ => none) w h0 (fun _ _ _ h => by cases h) (by rw [hd]; simp)
 have ha : ∀ G : List Ge, actG a (fun _ => none) G = a := fun G => by
  induction G with
  | nil => rfl
  | cons g G ih => rw [actG, ih]; exact put_old a g.d
 have hl : ∀ G : List Ge, lisG listed (fun _ => none) G = listed := fun G => by
  induction G with
  | nil => rfl
  | cons g G ih => rw [lisG, ih]; rfl
 rwa [ha, hl] at this
def OP (o : Option Value) (P : Value → Prop) : Prop := ∀ u, o = some u → P u
abbrev OV (o : Option Value) (v : Value) : Prop := OP o (· = v)
theorem OP.no {o : Option Value} (P : Value → Prop) (h : o = none) : OP o P := fun _ e => by rw [h] at e; cases e
theorem OP.is {P : Value → Prop} {v : Value} (h : P v) : OP (some v) P := fun u e => by injection e with e; exact e ▸ h
def posq (o : Option Value) (j : Nat) : Nat := match o with
 | none => j
 | some _ => j + 1
def ifq {α : Type} (o : Option Value) (r : α) : List α := match o with
 | none => []
 | some _ => [r]
def altq {α : Type} (o : Option Value) (a b : α) : α := match o with
 | none => a
 | some _ => b
theorem ifq_some {α : Type} (v : Value) (r : α) : ifq (some v) r = [r] := rfl
theorem altq_some {α : Type} (v : Value) (a b : α) : altq (some v) a b = b := rfl
end
end Go.Proofs.YtgegfbopogcjpaaGreatDoor
namespace Go.Proofs.YtgegfbopogcjpaaGreatDoor
open Go.RowKit
set_option linter.unusedVariables false
set_option linter.unusedSimpArgs false
set_option maxRecDepth 100000
set_option maxHeartbeats 1000000
theorem RepCs.unsnoc {V : Nat → Prop} {w : World} {n : Nd} : ∀ (ns : List Nd) (xs : List Value), RepCs V w (ns ++ [n]) xs → ∃ a b, xs = a ++ b ∧ RepCs V w ns a ∧ b.length = 4
 | [], xs, h => by
  have h : RepCs V w [n] xs := h
  unfold RepCs at h
  obtain ⟨a, b, rfl, h1, h2⟩ := h
  unfold RepCs at h2
  subst h2
  exact ⟨[], a, by simp, rfl, h1.len⟩
 | m :: ns, xs, h => by
  have h : RepCs V w (m :: (ns ++ [n])) xs := h
  unfold RepCs at h
  obtain ⟨a, b, rfl, h1, h2⟩ := h
  obtain ⟨c, d, rfl, h3, h4⟩ := RepCs.unsnoc ns b h2
  exact ⟨a ++ c, d, by simp, by unfold RepCs; exact ⟨a, c, rfl, h1, h3⟩, h4⟩
theorem put4o_mv (W : World) (r o : Nat) (b0 b1 b2 b3 : Value) : Mv r W ((((W.setCell ⟨r, o, none⟩ b0).setCell ⟨r, o + 1, none⟩ b1).setCell ⟨r, o + 2, none⟩ b2).setCell ⟨r, o + 3, none⟩ b3) := by
 refine ⟨rfl, rfl, rfl, by simp [World.setCell], fun b hb hne => ?_⟩
 have hne : b ≠ r := fun e => hne (by rw [e])
 rw [Below.heap_setCell _ _ _ _ hne, Below.heap_setCell _ _ _ _ hne, Below.heap_setCell _ _ _ _ hne, Below.heap_setCell _ _ _ _ hne]
section
variable {ι : Type} {Z : ι → World → Prop} {p : Nat} {G : Nat → Prop} {w W : World} {i : ι} {l : List Rc}
theorem St.rowset {V U : Nat → Prop} {B g : Nat} {ks : List Nd} {x n0 : Nd} {A : Option Addr} {c c2 : Nat} (h : St Z p G w W i (rw_ B V (ks ++ [n0]) (some ⟨g, 0, none⟩) c2 :: nd U x A c :: l)) :
 St Z p G w ((((W.setCell ⟨g, ks.length * 4, none⟩ (.int .i64 x.k)).setCell ⟨g, ks.length * 4 + 1, none⟩ (.string x.t)).setCell ⟨g, ks.length * 4 + 2, none⟩ (.int .i64 x.num)).setCell ⟨g, ks.length * 4 + 3, none⟩ (.slice A x.kids.length c)) i
  (rw_ B (fun b => V b ∨ U b) (ks ++ [x]) (some ⟨g, 0, none⟩) c2 :: l) := by
 obtain ⟨xs, h1, h2, ho⟩ : AccW V B W (.slice (some ⟨g, 0, none⟩) (ks ++ [n0]).length c2) (ks ++ [n0]) := h.one
 have hx : RepV U W x (cN x A c) := h.ok _ (.tail _ (.head _))
 have a1 := List.pairwise_cons.1 h.ap
 have a2 := List.pairwise_cons.1 a1.2
 have hVg : V g := h2 g rfl
 have hg := h.inn _ (.head _) g hVg
 have hUV : ∀ b, U b → ¬ V b := fun b hu hv => a1.1 _ (.head _) b hv hu
 obtain ⟨ya, yb, rfl, h3, h4⟩ := RepCs.unsnoc ks xs h1
 have hya := RepCs.len ks ya h3
 have m := put4o_mv W g (ks.length * 4) (.int .i64 x.k) (.string x.t) (.int .i64 x.num) (.slice A x.kids.length c)
 have ho' := ((((ho.stored (ks.length * 4) (.int .i64 x.k)).1.stored (ks.length * 4 + 1) (.string x.t)).1.stored (ks.length * 4 + 2) (.int .i64 x.num)).1.stored (ks.length * 4 + 3) (.slice A x.kids.length c)).1
 generalize hW : (((W.setCell ⟨g, ks.length * 4, none⟩ (.int .i64 x.k)).setCell ⟨g, ks.length * 4 + 1, none⟩ (.string x.t)).setCell ⟨g, ks.length * 4 + 2, none⟩ (.int .i64 x.num)).setCell ⟨g, ks.length * 4 + 3, none⟩ (.slice A x.kids.length c) = W' at *
 have hsame : ∀ b, b < W.heap.size → b ≠ g → W'.heap[b]? = W.heap[b]? := fun b hb hne => m.block b hb (fun e => hne (by injection e))
 have hxs : ((((ya ++ yb).set (ks.length * 4) (.int .i64 x.k)).set (ks.length * 4 + 1) (.string x.t)).set (ks.length * 4 + 2) (.int .i64 x.num)).set (ks.length * 4 + 3) (.slice A x.kids.length c) = ya ++ cN x A c := by
  obtain ⟨y0, y1, y2, y3, rfl⟩ : ∃ y0 y1 y2 y3, yb = [y0, y1, y2, y3] := by
   match yb, h4 with
   | [y0, y1, y2, y3], _ => exact ⟨_, _, _, _, rfl⟩
  rw [← hya]
  simp [List.set_append, cN]
 rw [hxs] at ho'
 refine ⟨h.gp, fun b hb => Nat.lt_of_lt_of_le (h.gs b hb) m.size, h.mv.put hg.1 m, h.zf i W W' h.z m.size (fun b hb => hsame b (h.gs b hb) (fun e => hg.2.2 (e ▸ hb))), h.zf, fun r hr => ?_, fun r hr b hb => ?_, .cons (fun s hs b hb => ?_) a2.2⟩
 ·rcases List.mem_cons.1 hr with rfl | hr
  ·refine ⟨_, RepCs.snoc (V := fun b => (V b ∨ U b) ∧ some b ≠ some g) (RepV.keep m.size (fun b hv hlt => ⟨hsame b hlt (fun e => hUV b hv (e ▸ hVg)), .inr hv, fun e => hUV b hv (by injection e with e; exact e ▸ hVg)⟩) _ _ hx) ks ya (RepCs.keep m.size (fun b hv hlt => ⟨hsame b hlt (fun e => hv.2 (by rw [e]; rfl)), .inl hv.1, hv.2⟩) _ _ h3), fun g' e => .inl (h2 g' e), ?_⟩
   simpa using ho'
  ·exact r.fr (h.ok r (.tail _ (.tail _ hr))) m.size fun b hb hlt => hsame b hlt fun e => a1.1 r (.tail _ hr) b (e ▸ hVg) hb
 ·rcases List.mem_cons.1 hr with rfl | hr
  ·rcases hb with hb | hb
   ·have := h.inn _ (.head _) b hb; exact ⟨this.1, Nat.lt_of_lt_of_le this.2.1 m.size, this.2.2⟩
   ·have := h.inn _ (.tail _ (.head _)) b hb; exact ⟨this.1, Nat.lt_of_lt_of_le this.2.1 m.size, this.2.2⟩
  ·have := h.inn r (.tail _ (.tail _ hr)) b hb; exact ⟨this.1, Nat.lt_of_lt_of_le this.2.1 m.size, this.2.2⟩
 ·rcases hb with hb | hb
  ·exact a1.1 s (.tail _ hs) b hb
  ·exact a2.1 s hs b hb
theorem St.lose {b : Nat} {T : TypeId} {vs : Array Value} {W' : World} (h : St Z p G w W i (bx b T vs :: l)) (m : Mv b W W') : St Z p G w W' i l := by
 have hb := (h.inn _ (.head _) b rfl).1
 have hA := (List.pairwise_cons.1 h.ap).1
 have hG := (h.inn _ (.head _) b rfl).2.2
 refine ⟨h.gp, fun c hc => Nat.lt_of_lt_of_le (h.gs c hc) m.size, h.mv.put hb m, h.zf i W W' h.z m.size (fun x hx => m.block x (h.gs x hx) (fun e => by injection e with e; subst e; exact hG hx)), h.zf, fun x hx => ?_, fun x hx c hc => ?_, (List.pairwise_cons.1 h.ap).2⟩
 ·exact x.fr (h.ok x (.tail _ hx)) m.size fun c hc hlt => m.block c hlt (fun e => by injection e with e; exact hA x hx b rfl (e ▸ hc))
 ·have := h.inn x (.tail _ hx) c hc
  exact ⟨this.1, Nat.lt_of_lt_of_le this.2.1 m.size, this.2.2⟩
theorem St.rowfacts {V : Nat → Prop} {B g : Nat} {ks : List Nd} {n0 : Nd} {c2 : Nat} (h : St Z p G w W i (rw_ B V (ks ++ [n0]) (some ⟨g, 0, none⟩) c2 :: l)) : ∃ y0 y1 y2 y3,
 W.frozen? ⟨g, ks.length * 4, none⟩ = false ∧ W.frozen? ⟨g, ks.length * 4 + 1, none⟩ = false ∧ W.frozen? ⟨g, ks.length * 4 + 2, none⟩ = false ∧ W.frozen? ⟨g, ks.length * 4 + 3, none⟩ = false ∧
 W.cell? ⟨g, ks.length * 4, none⟩ = some y0 ∧ W.cell? ⟨g, ks.length * 4 + 1, none⟩ = some y1 ∧ W.cell? ⟨g, ks.length * 4 + 2, none⟩ = some y2 ∧ W.cell? ⟨g, ks.length * 4 + 3, none⟩ = some y3 := by
 obtain ⟨xs, h1, h2, ho⟩ : AccW V B W (.slice (some ⟨g, 0, none⟩) (ks ++ [n0]).length c2) (ks ++ [n0]) := h.one
 obtain ⟨ya, yb, rfl, h3, h4⟩ := RepCs.unsnoc ks xs h1
 have hya := RepCs.len ks ya h3
 obtain ⟨y0, y1, y2, y3, rfl⟩ : ∃ y0 y1 y2 y3, yb = [y0, y1, y2, y3] := by
  match yb, h4 with
  | [y0, y1, y2, y3], _ => exact ⟨_, _, _, _, rfl⟩
 have hc : ∀ (j : Nat) (v : Value), [y0, y1, y2, y3][j]? = some v → W.cell? ⟨g, ks.length * 4 + j, none⟩ = some v := fun j v hj => by
  have hj4 : j < 4 := (List.getElem?_eq_some_iff.1 hj).1
  rw [ho.cellAt _ (by simp; omega), List.getElem?_append_right (by omega), hya, show ks.length * 4 + j - ks.length * 4 = j by omega]
  exact hj
 exact ⟨y0, y1, y2, y3, ho.frozenAt _, ho.frozenAt _, ho.frozenAt _, ho.frozenAt _, hc 0 _ rfl, hc 1 _ rfl, hc 2 _ rfl, hc 3 _ rfl⟩
theorem St.rowform {V : Nat → Prop} {B : Nat} {ks : List Nd} {A : Option Addr} {c2 : Nat} (h : St Z p G w W i (rw_ B V ks A c2 :: l)) (hne : ks ≠ []) : ∃ g, A = some ⟨g, 0, none⟩ ∧ ks.length ≤ c2 := by
 obtain ⟨xs, -, -, ho⟩ : AccW V B W (.slice A ks.length c2) ks := h.one
 rcases ho.2 with ⟨-, h0⟩ | ⟨g, cap, cur, e, -, -, hc, -⟩
 ·exact absurd (List.eq_nil_of_length_eq_zero h0) hne
 ·injection e with e1 e2 e3
  subst e3
  exact ⟨g, e1, hc⟩
end
end Go.Proofs.YtgegfbopogcjpaaGreatDoor
namespace Go.Proofs.YtgegfbopogcjpaaGreatDoor
open Go.RowKit
set_option linter.unusedVariables false
set_option linter.unusedSimpArgs false
set_option maxRecDepth 100000
set_option maxHeartbeats 4000000
theorem decl_extern (C : PC) (F : Nat) (w : World) (i : Nat) (h : PSt C w i) (hwet : declM C.L F i ≠ .dry) (HTY : POk C 29 (typM C.L F)) (HPA : POk C 31 (paramM C.L F)) (HBL : POk C 33 (blockF C.L F)) (h1 : tIs C.L ⟨#[115, 116, 114, 117, 99, 116]⟩ i = false) (h2 : tIs C.L ⟨#[101, 120, 116, 101, 114, 110]⟩ i = true) : Calls Tryz.prog 12 #[.pointer (some ⟨C.p, 0, none⟩)] w (NodeOut C w (declM C.L F i)) := by
 obtain ⟨R, HR⟩ : ∃ R, Hid (declM C.L F i = R) := ⟨_, rfl⟩
 rw [HR.out] at hwet ⊢
 have HW := Lib.hid hwet
 have hR := HR.out
 unfold declM at hR
 replace HR := Lib.hid hR
 have HS := Lib.hid (h.st.box 24 #[.int .i64 0, .string ⟨#[]⟩, .int .i64 0, .slice none 0 0])
 clear h hR hwet
 go_enter Tryz.func12, Tryz.ntmps12
 go_wp2_with fail
 generalize w.alloc (.cells #[.int .i64 0, .string ⟨#[]⟩, .int .i64 0, .slice none 0 0] 24) = w0 at *
 refine (haveN HS.out h1).mono ?_
 clear HS; rintro e w1 ⟨rfl, HS⟩
 replace HR := ifN HR.out h1
 go_wp2_with fail
 refine (haveY HS.out h2).mono ?_
 clear HS; rintro e w2 ⟨rfl, HS⟩
 replace HR := ifY HR.out h2
 go_wp2_with fail
 refine (subq HTY HS.out (bindW HR.out HW.out)).mono ?_
 clear HS; rintro e w3 (⟨k, hr, rfl, m⟩ | ⟨t, j, At, ct, Vt, hr, rfl, HS⟩)
 ·go_wp2; exact ⟨rfl, badO (bindB HR.out hr) m⟩
 replace HR := bindO HR.out hr
 clear hr
 go_wp2_with fail
 replace HS := Lib.hid (HS.out.box 24 #[.int .i64 t.k, .string t.t, .int .i64 t.num, .slice At t.kids.length ct])
 generalize w3.alloc (.cells #[.int .i64 t.k, .string t.t, .int .i64 t.num, .slice At t.kids.length ct] 24) = w4 at *
 generalize w3.heap.size = bt at *
 replace HS := Lib.hid (HS.out.below (Below.refl _ _).drew)
 refine wp_region_held_drew (S := fun _ => True) (by kernel_rfl) trivial (fun _ => ?_)
 generalize w4.drew = w5 at *
 (refine wpAnyH_take (i := 0) (v := ?_) rfl (by kernel_rfl) (by kernel_rfl) (by kernel_rfl) (fun _ _ _ h => h) (Or.inl ⟨by rfl, ?_⟩) (by assumption) ?_; rotate_left; · ((intro w hSw; (try dsimp only at hSw); go_simp) <;> with_reducible rfl); (try simp only [List.getElem_toArray, List.getElem_cons_succ, List.getElem_cons_zero, Act.put, List.setIfInBounds_toArray, List.set_cons_zero, List.set_cons_succ]))
 refine wpAnyH_grp [⟨1, some 57, []⟩, ⟨2, some 58, []⟩, ⟨3, some 59, [2]⟩, ⟨4, some 60, [1, 2, 3]⟩, ⟨5, some 6, []⟩] 1 (fun vs W => ∃ x y z, Hid (SP C w W (posq (vs 1) j) (ifq (vs 3) (bx y 24 #[.int .i64 t.k, .string t.t, .int .i64 t.num, .slice At t.kids.length ct]) ++ (ifq (vs 5) (bx z 24 #[.int .i64 0, .string ⟨#[]⟩, .int .i64 0, .slice none 0 0]) ++ [bx bt 24 #[.int .i64 t.k, .string t.t, .int .i64 t.num, .slice At t.kids.length ct], nd Vt t At ct, bx w.heap.size 24 #[.int .i64 0, .string ⟨#[]⟩, .int .i64 0, .slice none 0 0]]))) ∧ OP (vs 1) (fun q_ => q_ = .string x ∧ nameM C.L j = .ok x (j + 1) ∧ x.size ≤ maxLen) ∧ OV (vs 2) (.agg #[.int .i64 t.k, .string t.t, .int .i64 t.num, .slice At t.kids.length ct]) ∧ OV (vs 3) (.slice (some ⟨y, 0, none⟩) 1 1) ∧ OV (vs 4) (.agg #[.int .i64 5, .string x, .int .i64 0, .slice (some ⟨y, 0, none⟩) 1 1]) ∧ OV (vs 5) (.pointer (some ⟨z, 0, none⟩))) (by rfl) (by kernel_rfl) ⟨⟨#[]⟩, 0, 0, HS, OP.no _ rfl, OP.no _ rfl, OP.no _ rfl, OP.no _ rfl, OP.no _ rfl⟩ (fun _ _ _ => trivial) ⟨?_, ?_, ?_, ?_, ?_, trivial⟩ ?_
 ·clear HS; refine ⟨_, rfl, fun vs W h1 hd hn ⟨x, y, z, HS, e1, e2, e3, e4, e5⟩ => ?_⟩
  rw [h1] at HS
  simp only [actG, old, Option.getD_some]; (try simp only [List.getElem_toArray, List.getElem_cons_succ, List.getElem_cons_zero, Act.put, List.setIfInBounds_toArray, List.set_cons_zero, List.set_cons_succ]); intro K hK
  go_simp
  refine (nameq (i := j) HS.out).mono ?_
  clear HS; rintro e W (⟨hr, rfl, m⟩ | ⟨x, hr, hs, rfl, HS⟩)
  ·go_wp2; exact ⟨rfl, badO (bindB HR.out hr) m⟩
  exact hK.out _ _ ⟨x, y, z, HS, OP.is ⟨rfl, hr, hs⟩, e2, e3, OP.no _ hn.2.2.2.1, e5⟩
 ·clear HS; refine ⟨_, rfl, fun vs W h2 hd hn ⟨x, y, z, HS, e1, e2, e3, e4, e5⟩ => ?_⟩
  obtain ⟨-, -, -, -, b0, b1, b2, b3⟩ := Blk.all4 (HS.out.ok (bx bt 24 #[.int .i64 t.k, .string t.t, .int .i64 t.num, .slice At t.kids.length ct]) (by simp))
  simp only [actG, old, Option.getD_some]; (try simp only [List.getElem_toArray, List.getElem_cons_succ, List.getElem_cons_zero, Act.put, List.setIfInBounds_toArray, List.set_cons_zero, List.set_cons_succ]); intro K hK
  go_simp
  clear b0 b1 b2 b3
  exact hK.out _ _ ⟨x, y, z, HS, e1, OP.is rfl, OP.no _ hn.2.2.1, OP.no _ hn.2.2.2.1, e5⟩
 ·clear HS; refine ⟨_, rfl, fun vs W h3 hd hn ⟨x, y, z, HS, e1, e2, e3, e4, e5⟩ => ?_⟩
  obtain ⟨⟨v2, h2⟩, -⟩ := hd
  obtain rfl := e2 _ h2
  rw [h3] at HS
  simp only [actG, old, h2, Option.getD_some]; (try simp only [List.getElem_toArray, List.getElem_cons_succ, List.getElem_cons_zero, Act.put, List.setIfInBounds_toArray, List.set_cons_zero, List.set_cons_succ]); intro K hK
  go_simp
  exact hK.out _ _ ⟨x, W.heap.size, z, (HS.out.box 24 #[.int .i64 t.k, .string t.t, .int .i64 t.num, .slice At t.kids.length ct]), e1, e2, OP.is rfl, OP.no _ hn.2.2.2.1, e5⟩
 ·clear HS; refine ⟨_, rfl, fun vs W h4 hd hn ⟨x, y, z, HS, e1, e2, e3, e4, e5⟩ => ?_⟩
  obtain ⟨⟨v1, h1⟩, ⟨v2, h2⟩, ⟨v3, h3⟩, -⟩ := hd
  obtain ⟨rfl, -, -⟩ := e1 _ h1
  obtain rfl := e2 _ h2
  obtain rfl := e3 _ h3
  simp only [actG, old, h1, h2, h3, Option.getD_some]; (try simp only [List.getElem_toArray, List.getElem_cons_succ, List.getElem_cons_zero, Act.put, List.setIfInBounds_toArray, List.set_cons_zero, List.set_cons_succ]); intro K hK
  go_simp
  refine (nodeq HS.out _ _ _ _ _).mono ?_
  clear HS; rintro e W ⟨rfl, HS⟩
  exact hK.out _ _ ⟨x, y, z, HS, e1, e2, e3, OP.is rfl, e5⟩
 ·clear HS; refine ⟨_, rfl, fun vs W h5 hd hn ⟨x, y, z, HS, e1, e2, e3, e4, e5⟩ => ?_⟩
  rw [h5] at HS
  simp only [actG, old, Option.getD_some]; (try simp only [List.getElem_toArray, List.getElem_cons_succ, List.getElem_cons_zero, Act.put, List.setIfInBounds_toArray, List.set_cons_zero, List.set_cons_succ]); intro K hK
  go_simp
  exact hK.out _ _ ⟨x, y, W.heap.size, ((HS.out.box 24 #[.int .i64 0, .string ⟨#[]⟩, .int .i64 0, .slice none 0 0]).perm List.perm_middle.symm), e1, e2, e3, e4, OP.is rfl⟩
 clear HS; intro vs W ⟨x, y, z, HS, e1, e2, e3, e4, e5⟩ hall
 obtain ⟨⟨v1, h1⟩, ⟨v2, h2⟩, ⟨v3, h3⟩, ⟨v4, h4⟩, ⟨v5, h5⟩, -⟩ := hall
 obtain ⟨rfl, hr, hx⟩ := e1 _ h1
 obtain rfl := e2 _ h2
 obtain rfl := e3 _ h3
 obtain rfl := e4 _ h4
 obtain rfl := e5 _ h5
 rw [h1, h3, h5] at HS
 simp only [posq, ifq, List.cons_append, List.nil_append] at HS
 simp only [actG, lisG, old, h1, h2, h3, h4, h5, Option.getD_some, Option.isSome_some, if_true, List.length_cons, List.length_nil]; (try simp only [List.getElem_toArray, List.getElem_cons_succ, List.getElem_cons_zero, Act.put, List.setIfInBounds_toArray, List.set_cons_zero, List.set_cons_succ])
 clear h1 e1 h2 e2 h3 e3 h4 e4 h5 e5 vs
 obtain ⟨w6, rfl⟩ : ∃ x, x = W := ⟨_, rfl⟩
 replace HR := bindO HR.out hr
 clear hr
 refine wpAnyH_ready (rs := [6]) (by kernel_rfl) (by simp) (AllReadyH.cons rfl (fun K hK => ?_) AllReadyH.nil)
 replace HS := Lib.hid HS.out.f1
 obtain ⟨f0, f1, f2, f3, g0, g1, g2, g3⟩ := HS.out.one.all4
 go_wp2_with fail
 clear f0 f1 f2 f3 g0 g1 g2 g3
 replace HS := Lib.hid (HS.out.put4 (.int .i64 5) (.string x) (.int .i64 0) (.slice (some ⟨y, 0, none⟩) 1 1))
 generalize (((((w6).setCell ⟨z, 0, none⟩ (.int .i64 5)).setCell ⟨z, 1, none⟩ (.string x)).setCell ⟨z, 2, none⟩ (.int .i64 0)).setCell ⟨z, 3, none⟩ (.slice (some ⟨y, 0, none⟩) 1 1)) = w7 at *
 refine hK.out _ _ trivial (fun _ => ?_)
 clear hK K
 (try simp only [List.getElem_toArray, List.getElem_cons_succ, List.getElem_cons_zero, Act.put, List.setIfInBounds_toArray, List.set_cons_zero, List.set_cons_succ])
 refine wpAnyH_done (by kernel_rfl) ?_ _
 go_wp2_with fail
 rcases ht : tIs C.L ⟨#[40]⟩ (j + 1) with _ | _
 ·refine (isq HS.out ht).mono ?_
  clear HS; rintro e w8 ⟨rfl, HS⟩
  replace HR := ifN HR.out ht
  go_wp2_with fail
  clear ht
  refine (needq HS.out ⟨#[59]⟩).mono ?_
  clear HS; rintro e w9 (⟨hr, rfl, m⟩ | ⟨hr, rfl, HS⟩)
  ·go_wp2; exact ⟨rfl, badO (bindB HR.out hr) m⟩
  replace HR := bindO HR.out hr
  clear hr
  replace HS := Lib.hid HS.out.f3
  replace HS := Lib.hid HS.out.f2
  replace HS := Lib.hid (HS.out.kid1 5 x 0 i64_0 hx)
  replace HS := Lib.hid HS.out.f3
  replace HS := Lib.hid HS.out.f1
  obtain ⟨-, -, -, -, b0, b1, b2, b3⟩ := (HS.out.blk 2 rfl).all4
  obtain ⟨f0, f1, f2, f3, g0, g1, g2, g3⟩ := (HS.out.blk 1 rfl).all4
  go_wp2_with fail
  have hf := finO HS.out HR
  try simp only [List.length_append, List.length_cons, List.length_nil, Nat.zero_add] at hf
  exact bodyPost_ret (v := .agg _) (results_cell4 (fn := Tryz.f12) rfl hf.1 rfl) rfl hf.2
 refine (isq HS.out ht).mono ?_
 clear HS; rintro e w8 ⟨rfl, HS⟩
 replace HR := ifY HR.out ht
 go_wp2_with fail
 clear ht
 refine (listq (cf_fn rfl (by kernel_rfl) (by kernel_rfl)) HPA HS.out (bindW HR.out HW.out)).mono ?_
 clear HS; rintro e w9 (⟨k, hr, rfl, m⟩ | ⟨ks, d, q, Aks, cks, Vks, hr, hnks, rfl, HS⟩)
 ·go_wp2; exact ⟨rfl, badO (bindB HR.out hr) m⟩
 replace HR := bindO HR.out hr
 clear hr
 go_wp2_with fail
 replace HS := Lib.hid (HS.out.below (Below.refl _ _).drew)
 refine wp_region_held_drew (S := fun _ => True) (by kernel_rfl) trivial (fun _ => ?_)
 generalize w9.drew = w10 at *
 (refine wpAnyH_take (i := 0) (v := ?_) rfl (by kernel_rfl) (by kernel_rfl) (by kernel_rfl) (fun _ _ _ h => h) (Or.inl ⟨by rfl, ?_⟩) (by assumption) ?_; rotate_left; · ((intro w hSw; (try dsimp only at hSw); go_simp) <;> with_reducible rfl); (try simp only [List.getElem_toArray, List.getElem_cons_succ, List.getElem_cons_zero, Act.put, List.setIfInBounds_toArray, List.set_cons_zero, List.set_cons_succ])); (refine wpAnyH_take (i := 2) (v := ?_) rfl (by kernel_rfl) (by kernel_rfl) (by kernel_rfl) (fun _ _ _ h => h) (Or.inl ⟨by rfl, ?_⟩) (by assumption) ?_; rotate_left; · ((intro w hSw; (try dsimp only at hSw); go_simp) <;> with_reducible rfl); (try simp only [List.getElem_toArray, List.getElem_cons_succ, List.getElem_cons_zero, Act.put, List.setIfInBounds_toArray, List.set_cons_zero, List.set_cons_succ])); (refine wpAnyH_take (i := 4) (v := ?_) rfl (by kernel_rfl) (by kernel_rfl) (by kernel_rfl) (fun _ _ _ h => h) (Or.inl ⟨by rfl, ?_⟩) (by assumption) ?_; rotate_left; · ((intro w hSw; (try dsimp only at hSw); go_simp) <;> with_reducible rfl); (try simp only [List.getElem_toArray, List.getElem_cons_succ, List.getElem_cons_zero, Act.put, List.setIfInBounds_toArray, List.set_cons_zero, List.set_cons_succ]))
 replace HS := Lib.hid HS.out.f5
 replace HS := Lib.hid HS.out.f4
 replace HS := Lib.hid HS.out.f3
 replace HS := Lib.hid HS.out.f5
 replace HS := Lib.hid HS.out.f4
 refine wpAnyH_grp [⟨1, some 72, []⟩, ⟨3, some 74, []⟩, ⟨5, some 76, []⟩, ⟨6, some 77, [5]⟩, ⟨7, some 78, [5, 6]⟩] 2 (fun vs W => ∃ y2 A2 c2 V2, Hid (SP C w W q (altq (vs 7) (ifq (vs 6) (bx y2 24 #[.int .i64 t.k, .string t.t, .int .i64 t.num, .slice At t.kids.length ct]) ++ rw_ w.heap.size Vks ks Aks cks :: nd Vt t At ct :: [bx z 24 #[.int .i64 5, .string x, .int .i64 0, .slice (some ⟨y, 0, none⟩) 1 1], bx bt 24 #[.int .i64 t.k, .string t.t, .int .i64 t.num, .slice At t.kids.length ct], bx w.heap.size 24 #[.int .i64 0, .string ⟨#[]⟩, .int .i64 0, .slice none 0 0], bx y 24 #[.int .i64 t.k, .string t.t, .int .i64 t.num, .slice At t.kids.length ct]]) (rw_ w.heap.size V2 (ks ++ [t]) A2 c2 :: [bx z 24 #[.int .i64 5, .string x, .int .i64 0, .slice (some ⟨y, 0, none⟩) 1 1], bx bt 24 #[.int .i64 t.k, .string t.t, .int .i64 t.num, .slice At t.kids.length ct], bx w.heap.size 24 #[.int .i64 0, .string ⟨#[]⟩, .int .i64 0, .slice none 0 0], bx y 24 #[.int .i64 t.k, .string t.t, .int .i64 t.num, .slice At t.kids.length ct]]))) ∧ OV (vs 1) (.string x) ∧ OV (vs 3) (.int .i64 (flagN d)) ∧ OV (vs 5) (.agg #[.int .i64 t.k, .string t.t, .int .i64 t.num, .slice At t.kids.length ct]) ∧ OV (vs 6) (.slice (some ⟨y2, 0, none⟩) 1 1) ∧ OV (vs 7) (.slice A2 (ks.length + 1) c2)) (by rfl) (by kernel_rfl) ⟨0, none, 0, fun _ => False, HS, OP.no _ rfl, OP.no _ rfl, OP.no _ rfl, OP.no _ rfl, OP.no _ rfl⟩ (fun _ _ _ => trivial) ⟨?_, ?_, ?_, ?_, ?_, trivial⟩ ?_
 ·clear HS; refine ⟨_, rfl, fun vs W h1 hd hn ⟨y2, A2, c2, V2, HS, e1, e3, e5, e6, e7⟩ => ?_⟩
  obtain ⟨-, -, -, -, b0, b1, b2, b3⟩ := Blk.all4 (HS.out.ok (bx z 24 #[.int .i64 5, .string x, .int .i64 0, .slice (some ⟨y, 0, none⟩) 1 1]) (by rcases vs 7 with _ | _ <;> simp [altq]))
  simp only [actG, old, Option.getD_some]; (try simp only [List.getElem_toArray, List.getElem_cons_succ, List.getElem_cons_zero, Act.put, List.setIfInBounds_toArray, List.set_cons_zero, List.set_cons_succ]); intro K hK
  go_simp
  clear b0 b1 b2 b3
  exact hK.out _ _ ⟨y2, A2, c2, V2, HS, OP.is rfl, e3, e5, e6, e7⟩
 ·clear HS; refine ⟨_, rfl, fun vs W h3 hd hn ⟨y2, A2, c2, V2, HS, e1, e3, e5, e6, e7⟩ => ?_⟩
  simp only [actG, old, Option.getD_some]; (try simp only [List.getElem_toArray, List.getElem_cons_succ, List.getElem_cons_zero, Act.put, List.setIfInBounds_toArray, List.set_cons_zero, List.set_cons_succ]); intro K hK
  go_simp
  refine (flag_any d _).mono ?_
  rintro e W ⟨rfl, rfl⟩
  exact hK.out _ _ ⟨y2, A2, c2, V2, HS, e1, OP.is rfl, e5, e6, e7⟩
 ·clear HS; refine ⟨_, rfl, fun vs W h5 hd hn ⟨y2, A2, c2, V2, HS, e1, e3, e5, e6, e7⟩ => ?_⟩
  obtain ⟨-, -, -, -, b0, b1, b2, b3⟩ := Blk.all4 (HS.out.ok (bx bt 24 #[.int .i64 t.k, .string t.t, .int .i64 t.num, .slice At t.kids.length ct]) (by rcases vs 7 with _ | _ <;> simp [altq]))
  simp only [actG, old, Option.getD_some]; (try simp only [List.getElem_toArray, List.getElem_cons_succ, List.getElem_cons_zero, Act.put, List.setIfInBounds_toArray, List.set_cons_zero, List.set_cons_succ]); intro K hK
  go_simp
  clear b0 b1 b2 b3
  exact hK.out _ _ ⟨y2, A2, c2, V2, HS, e1, e3, OP.is rfl, OP.no _ hn.2.2.2.1, OP.no _ hn.2.2.2.2.1⟩
 ·clear HS; refine ⟨_, rfl, fun vs W h6 hd hn ⟨y2, A2, c2, V2, HS, e1, e3, e5, e6, e7⟩ => ?_⟩
  obtain ⟨⟨v5, h5⟩, -⟩ := hd
  obtain rfl := e5 _ h5
  rw [h6, show vs 7 = none from hn.2.2.2.2.1] at HS
  simp only [actG, old, h5, Option.getD_some]; (try simp only [List.getElem_toArray, List.getElem_cons_succ, List.getElem_cons_zero, Act.put, List.setIfInBounds_toArray, List.set_cons_zero, List.set_cons_succ]); intro K hK
  go_simp
  exact hK.out _ _ ⟨W.heap.size, A2, c2, V2, (by rw [show upd vs 6 _ 7 = none from hn.2.2.2.2.1]; exact HS.out.box 24 #[.int .i64 t.k, .string t.t, .int .i64 t.num, .slice At t.kids.length ct]), e1, e3, e5, OP.is rfl, OP.no _ hn.2.2.2.2.1⟩
 ·clear HS; refine ⟨_, rfl, fun vs W h7 hd hn ⟨y2, A2, c2, V2, HS, e1, e3, e5, e6, e7⟩ => ?_⟩
  obtain ⟨⟨v5, h5⟩, ⟨v6, h6⟩, -⟩ := hd
  obtain rfl := e5 _ h5
  obtain rfl := e6 _ h6
  rw [h7, h6] at HS
  simp only [actG, old, h5, h6, Option.getD_some]; (try simp only [List.getElem_toArray, List.getElem_cons_succ, List.getElem_cons_zero, Act.put, List.setIfInBounds_toArray, List.set_cons_zero, List.set_cons_succ]); intro K hK
  rw [if_pos (by rfl)]
  refine oper_push (x := t) HS.out.f2.f2 (by first | rfl | simp) (by omega) _ _ rfl rfl rfl ?_
  clear HS; intro A2 c2 V2 W HS
  exact hK.out _ _ ⟨y2, A2, c2, V2, HS, e1, e3, e5, e6, OP.is rfl⟩
 clear HS; intro vs W ⟨y2, A2, c2, V2, HS, e1, e3, e5, e6, e7⟩ hall
 obtain ⟨⟨v1, h1⟩, ⟨v3, h3⟩, ⟨v5, h5⟩, ⟨v6, h6⟩, ⟨v7, h7⟩, -⟩ := hall
 obtain rfl := e1 _ h1
 obtain rfl := e3 _ h3
 obtain rfl := e5 _ h5
 obtain rfl := e6 _ h6
 obtain rfl := e7 _ h7
 rw [h7] at HS
 simp only [altq] at HS
 simp only [actG, lisG, old, h1, h3, h5, h6, h7, Option.getD_some, Option.isSome_some, if_true, List.length_cons, List.length_nil]; (try simp only [List.getElem_toArray, List.getElem_cons_succ, List.getElem_cons_zero, Act.put, List.setIfInBounds_toArray, List.set_cons_zero, List.set_cons_succ])
 clear h1 e1 h3 e3 h5 e5 h6 e6 h7 e7 vs
 obtain ⟨w11, rfl⟩ : ∃ x, x = W := ⟨_, rfl⟩
 (refine wpAnyH_take (i := 8) (v := ?_) rfl (by kernel_rfl) (by kernel_rfl) (by kernel_rfl) (fun _ _ _ h => h) (Or.inl ⟨by rfl, ?_⟩) (by assumption) ?_; rotate_left; · ((intro w hSw; (try dsimp only at hSw); go_simp) <;> with_reducible rfl); (try simp only [List.getElem_toArray, List.getElem_cons_succ, List.getElem_cons_zero, Act.put, List.setIfInBounds_toArray, List.set_cons_zero, List.set_cons_succ]))
 refine wpAnyH_ready (rs := [9]) (by kernel_rfl) (by simp) (AllReadyH.cons rfl (fun K hK => ?_) AllReadyH.nil)
 replace HS := Lib.hid HS.out.f1
 obtain ⟨f0, f1, f2, f3, g0, g1, g2, g3⟩ := HS.out.one.all4
 go_wp2_with fail
 clear f0 f1 f2 f3 g0 g1 g2 g3
 replace HS := Lib.hid (HS.out.put4 (.int .i64 4) (.string x) (.int .i64 (flagN d)) (.slice A2 (ks.length + 1) c2))
 generalize (((((w11).setCell ⟨z, 0, none⟩ (.int .i64 4)).setCell ⟨z, 1, none⟩ (.string x)).setCell ⟨z, 2, none⟩ (.int .i64 (flagN d))).setCell ⟨z, 3, none⟩ (.slice A2 (ks.length + 1) c2)) = w12 at *
 refine hK.out _ _ trivial (fun _ => ?_)
 clear hK K
 (try simp only [List.getElem_toArray, List.getElem_cons_succ, List.getElem_cons_zero, Act.put, List.setIfInBounds_toArray, List.set_cons_zero, List.set_cons_succ])
 refine wpAnyH_done (by kernel_rfl) ?_ _
 go_wp2_with fail
 refine (needq HS.out ⟨#[59]⟩).mono ?_
 clear HS; rintro e w13 (⟨hr, rfl, m⟩ | ⟨hr, rfl, HS⟩)
 ·go_wp2; exact ⟨rfl, badO (bindB HR.out hr) m⟩
 replace HR := bindO HR.out hr
 clear hr
 replace HS := Lib.hid HS.out.f1
 replace HS := Lib.hid (HS.out.kids 4 x (flagN d) (i64_flag d) hx)
 replace HS := Lib.hid HS.out.f3
 replace HS := Lib.hid HS.out.f1
 obtain ⟨-, -, -, -, b0, b1, b2, b3⟩ := (HS.out.blk 2 rfl).all4
 obtain ⟨f0, f1, f2, f3, g0, g1, g2, g3⟩ := (HS.out.blk 1 rfl).all4
 go_wp2_with fail
 have hf := finO HS.out HR
 try simp only [List.length_append, List.length_cons, List.length_nil, Nat.zero_add] at hf
 exact bodyPost_ret (v := .agg _) (results_cell4 (fn := Tryz.f12) rfl hf.1 rfl) rfl hf.2
end Go.Proofs.YtgegfbopogcjpaaGreatDoor
namespace Go.Proofs.YtgegfbopogcjpaaGreatDoor
open Go.RowKit
set_option linter.unusedVariables false
set_option linter.unusedSimpArgs false
set_option maxRecDepth 100000
set_option maxHeartbeats 2000000
section
variable {ι : Type} {Z : ι → World → Prop} {p : Nat} {G : Nat → Prop} {w W W' : World} {i : ι} {l : List Rc}
theorem St.row1 {y : Nat} {V : Nat → Prop} {x : Nd} {A : Option Addr} {c : Nat} (h : St Z p G w W i (bx y 24 (cN x A c).toArray :: nd V x A c :: l)) :
 St Z p G w W i (rw_ w.heap.size (fun b => b = y ∨ V b) [x] (some ⟨y, 0, none⟩) 1 :: l) := by
 have hy := h.inn _ (.head _) y rfl
 refine h.join (fun b hb => hb) fun h1 hx hd => ?_
 have h1 : Blk W y 24 (cN x A c).toArray := h1
 have hx : RepV V W x (cN x A c) := hx
 refine ⟨cN x A c, ⟨cN x A c, [], by simp, RepV.keep (Nat.le_refl _) (fun b hv _ => ⟨rfl, .inr hv, fun e => hd y rfl (by have e2 : some b = some y := e; injection e2 with e2; exact e2 ▸ hv)⟩) _ _ hx, rfl⟩, fun g e => .inl (by have e2 : some y = some g := e; injection e2 with e2; exact e2.symm), rfl, .inr ⟨y, 1, _, rfl, hy.1, h1, Nat.le_refl _, by unfold maxLen; omega, rfl, rfl⟩⟩
theorem rep_call {V : Nat → Prop} {W : World} {B5 : Nat} {v : Value} {x : Nd} {cs xs : List Value} {ks : List Nd} (ho : W.ownsRow B5 24 4 v (1 + ks.length) (cs ++ xs)) (hV : ∀ g, v.ownBlock = some g → V g) (hx : RepV V W x cs) (hk : RepCs V W ks xs) :
 ∃ A c, v = .slice A (ks.length + 1) c ∧ RepV V W (.mk 25 ⟨#[]⟩ 0 (x :: ks)) (cN (.mk 25 ⟨#[]⟩ 0 (x :: ks)) A c) := by
 rcases ho.2 with ⟨-, h0⟩ | ⟨g, cap, cur, rfl, hb, hg, hnc, hcm, -⟩
 ·omega
 ·refine ⟨some ⟨g, 0, none⟩, cap, by rw [Nat.add_comm], RepV.of (kids := x :: ks) ?_ (by simp; omega) (by simp; unfold maxLen at *; omega) i64_0 (Nat.zero_le _)⟩
  have hlt : g < W.heap.size := (ho.lt g rfl).2
  refine RepCs.list (hV g rfl) hlt (x :: ks) (cs ++ xs) 0 ⟨cs, xs, rfl, hx, hk⟩ fun j v hj => ?_
  have := ho.cells (g := g) rfl j v hj
  rw [add_plain_] at this
  exact this
theorem RepCs.one {V : Nat → Prop} {w : World} : ∀ (ns : List Nd) (xs : List Value), RepCs V w ns xs → ∀ u ∈ xs, u.oneCell' = true
 | [], xs, h, u, hu => by unfold RepCs at h; subst h; cases hu
 | n :: ns, xs, h, u, hu => by
  unfold RepCs at h
  obtain ⟨a, b, rfl, h1, h2⟩ := h
  rcases List.mem_append.1 hu with hu | hu
  ·obtain ⟨A, c, rfl, -⟩ := h1.four
   simp at hu
   rcases hu with rfl | rfl | rfl | rfl <;> rfl
  ·exact RepCs.one ns b h2 u hu
theorem St.call {V U : Nat → Prop} {B : Nat} {ks : List Nd} {x : Nd} {A A' : Option Addr} {c c' : Nat} {xs : List Value} {v : Value} (h : St Z p G w W i (rw_ B V ks A c :: nd U x A' c' :: l)) (hb : Below W.heap.size W W')
 (hxs : RepCs V W ks xs) (ho : W'.ownsRow W.heap.size 24 4 v (1 + ks.length) (cN x A' c' ++ xs)) :
 ∃ A2 c2 V2, v = .slice A2 (ks.length + 1) c2 ∧ St Z p G w W' i (nd V2 (.mk 25 ⟨#[]⟩ 0 (x :: ks)) A2 c2 :: l) := by
 have h' := h.below hb
 have hx : RepV U W' x (cN x A' c') := h'.ok _ (.tail _ (.head _))
 have hk : RepCs V W' ks xs := RepCs.keep hb.size (fun b hv hlt => ⟨hb.block b hlt, hv⟩) _ _ hxs
 obtain ⟨A2, c2, e, hr⟩ := rep_call (V := fun b => V b ∨ U b ∨ v.ownBlock = some b) ho (fun g hg => .inr (.inr hg)) (RepV.keep (Nat.le_refl _) (fun b hv _ => ⟨rfl, .inr (.inl hv)⟩) _ _ hx) (RepCs.keep (Nat.le_refl _) (fun b hv _ => ⟨rfl, .inl hv⟩) _ _ hk)
 have a1 := List.pairwise_cons.1 h'.ap
 have a2 := List.pairwise_cons.1 a1.2
 refine ⟨A2, c2, _, e, h'.drop.drop.cons (r := nd (fun b => V b ∨ U b ∨ v.ownBlock = some b) (.mk 25 ⟨#[]⟩ 0 (x :: ks)) A2 c2) hr (fun b hb => ?_) fun s hs b hb => ?_⟩
 ·rcases hb with hb | hb | hb
  ·exact h'.inn _ (.head _) b hb
  ·exact h'.inn _ (.tail _ (.head _)) b hb
  ·have h3 := ho.lt b hb
   have := h.mv.size
   exact ⟨by omega, h3.2, fun hG => by have := h.gs b hG; omega⟩
 ·rcases hb with hb | hb | hb
  ·exact a1.1 s (.tail _ hs) b hb
  ·exact a2.1 s hs b hb
  ·have h3 := ho.lt b hb
   intro hs'
   have := (h.inn s (.tail _ (.tail _ hs)) b hs').2.1
   omega
end
theorem SL_of (w : World) (ss : List ByteArray) : SL (w.alloc (.cells (ss.map Value.string).toArray 9)) ss (some ⟨w.heap.size, 0, none⟩) := by
 intro i hi
 refine ⟨_, _, rfl, (Blk.new_ w 9 (ss.map Value.string).toArray).lt, ?_⟩
 have := (Blk.new_ w 9 (ss.map Value.string).toArray).cell i (.string ss[i]) (by simp [List.getElem?_eq_getElem hi])
 first | exact this | (simp; done) | simpa using this
section
variable {C : PC} {w W : World} {i : Nat} {l : List Rc}
theorem St.mv1 (h : SP C w W i l) (hj : i + 1 ≤ C.L.length) : SP C w (W.setCell ⟨C.p, 1, none⟩ (.int .i64 ((i : Int) + 1))) (i + 1) l := by
 have hmv := h.z.move (i + 1) hj
 exact h.to hmv.2 hmv.1
theorem finX {R : Res Nd} {r0 : Nat} {a0 a1 a2 a3 : Value} {x : Nd} {A : Option Addr} {c : Nat} {V : Nat → Prop} (h : SP C w W i (nd V x A c :: bx r0 24 #[a0, a1, a2, a3] :: l)) (hR : Hid (Res.ok x i = R)) :
 Blk ((((W.setCell ⟨r0, 0, none⟩ (.int .i64 x.k)).setCell ⟨r0, 1, none⟩ (.string x.t)).setCell ⟨r0, 2, none⟩ (.int .i64 x.num)).setCell ⟨r0, 3, none⟩ (.slice A x.kids.length c)) r0 24 #[.int .i64 x.k, .string x.t, .int .i64 x.num, .slice A x.kids.length c] ∧
 NodeOut C w R (.returned (.agg #[.int .i64 x.k, .string x.t, .int .i64 x.num, .slice A x.kids.length c])) ((((W.setCell ⟨r0, 0, none⟩ (.int .i64 x.k)).setCell ⟨r0, 1, none⟩ (.string x.t)).setCell ⟨r0, 2, none⟩ (.int .i64 x.num)).setCell ⟨r0, 3, none⟩ (.slice A x.kids.length c)) := by
 obtain ⟨k, t, n, l⟩ := x
 exact finO h hR
theorem inq (h : SP C w W i l) {a s t : ByteArray} {b : Bool} (ht : tIn C.L [a, s, t] i = b) : Calls Tryz.prog 28 #[.pointer (some ⟨C.p, 0, none⟩), .slice (some ⟨W.heap.size, 0, none⟩) 3 3] (W.alloc (.cells #[.string a, .string s, .string t] 9)) fun e W' => e = .returned (.bool b) ∧ Hid (SP C w W' i l) := by
 have hb : Below W.heap.size W (W.alloc (.cells #[.string a, .string s, .string t] 9)) := (Below.refl _ _).alloc (Nat.le_refl _) _
 refine (is_any0 [a, s, t] _ 3 C _ i (h.below hb).z (SL_of W [a, s, t]) (by simp) (by simp)).mono ?_
 rw [ht]
 rintro e W' ⟨rfl, hb2⟩
 exact ⟨rfl, (h.below hb).below hb2⟩
theorem closedq (h : SP C w W i l) (k : Int) (t : ByteArray) (n : Int) (A : Option Addr) (m c : Nat) : Calls Tryz.prog 92 #[.pointer (some ⟨C.p, 0, none⟩), .agg #[.int .i64 k, .string t, .int .i64 n, .slice A m c]] W fun e W' => (needM C.L ⟨#[59]⟩ i = .bad i ∧ e = badP C i ∧ Mv C.p w W') ∨ (needM C.L ⟨#[59]⟩ i = .ok () (i + 1) ∧ e = .returned (.agg #[.int .i64 k, .string t, .int .i64 n, .slice A m c]) ∧ Hid (SP C w W' (i + 1) l)) := by
 have HS := Lib.hid ((h.box 24 #[.int .i64 k, .string t, .int .i64 n, .slice A m c]).box 24 #[.int .i64 0, .string ⟨#[]⟩, .int .i64 0, .slice none 0 0])
 rw [World.size_alloc] at HS
 clear h
 go_enter Tryz.func92, Tryz.ntmps92
 go_wp2_with fail
 generalize (W.alloc (.cells #[.int .i64 k, .string t, .int .i64 n, .slice A m c] 24)).alloc (.cells #[.int .i64 0, .string ⟨#[]⟩, .int .i64 0, .slice none 0 0] 24) = w0 at *
 refine (needq HS.out ⟨#[59]⟩).mono ?_
 clear HS; rintro e w1 (⟨hr, rfl, m⟩ | ⟨hr, rfl, HS⟩)
 ·go_wp2; exact ⟨rfl, .inl ⟨hr, rfl, m⟩⟩
 obtain ⟨-, -, -, -, b0, b1, b2, b3⟩ := (HS.out.blk 1 rfl).all4
 obtain ⟨f0, f1, f2, f3, g0, g1, g2, g3⟩ := HS.out.one.all4
 go_wp2_with fail
 have h' := HS.out.put4 (.int .i64 k) (.string t) (.int .i64 n) (.slice A m c)
 exact bodyPost_ret (v := .agg _) (results_cell4 (fn := Tryz.f92) rfl h'.one rfl) rfl (.inr ⟨hr, rfl, Lib.hid h'.drop.drop⟩)
theorem callq {u : Nat → Res Nd} (hx : POk C 93 (exprM C.L u)) {V : Nat → Prop} {x : Nd} {A : Option Addr} {c : Nat} (h : SP C w W i (nd V x A c :: l)) (hw : callM C.L u x i ≠ .dry) :
 Calls Tryz.prog 94 #[.pointer (some ⟨C.p, 0, none⟩), .agg #[.int .i64 x.k, .string x.t, .int .i64 x.num, .slice A x.kids.length c]] W fun e W' => (∃ k, callM C.L u x i = .bad k ∧ e = badP C k ∧ Mv C.p w W') ∨ (∃ ks j A2 c2 V2, callM C.L u x i = .ok (.mk 25 ⟨#[]⟩ 0 (x :: ks)) j ∧ e = .returned (.agg #[.int .i64 25, .string ⟨#[]⟩, .int .i64 0, .slice A2 (ks.length + 1) c2]) ∧ Hid (SP C w W' j (nd V2 (.mk 25 ⟨#[]⟩ 0 (x :: ks)) A2 c2 :: l))) := by
 have HX := Lib.hid hx
 have HS := Lib.hid ((h.box 24 #[.int .i64 x.k, .string x.t, .int .i64 x.num, .slice A x.kids.length c]).box 24 #[.int .i64 0, .string ⟨#[]⟩, .int .i64 0, .slice none 0 0])
 rw [World.size_alloc] at HS
 obtain ⟨R, HR⟩ : ∃ R, Hid (callM C.L u x i = R) := ⟨_, rfl⟩
 rw [HR.out] at hw ⊢
 have HW := Lib.hid hw
 have hR := HR.out
 unfold callM at hR
 replace HR := Lib.hid hR
 clear h hx hw hR
 go_enter Tryz.func94, Tryz.ntmps94
 go_wp2_with fail
 generalize (W.alloc (.cells #[.int .i64 x.k, .string x.t, .int .i64 x.num, .slice A x.kids.length c] 24)).alloc (.cells #[.int .i64 0, .string ⟨#[]⟩, .int .i64 0, .slice none 0 0] 24) = w0 at *
 refine (listq (cf_fn Tryz.func93 (by kernel_rfl) (by kernel_rfl)) HX.out HS.out (bindW HR.out HW.out)).mono ?_
 clear HS; rintro e w1 (⟨k, hr, rfl, m⟩ | ⟨ks, d, j, Ak, ck, Vk, hr, hl, rfl, HS⟩)
 ·go_wp2; exact ⟨rfl, .inl ⟨k, (bindB HR.out hr).symm, rfl, m⟩⟩
 replace HR := bindO HR.out hr
 clear hr
 replace HS := Lib.hid HS.out.f3
 replace HS := Lib.hid HS.out.f1
 obtain ⟨xs, hc, -, ho⟩ : AccW Vk w.heap.size w1 (.slice Ak ks.length ck) ks := HS.out.one
 have HCV : Hid (RepCs Vk w1 ks xs) := RepCs.keep (Nat.le_refl _) (fun b hv _ => ⟨rfl, hv.1⟩) _ _ hc
 have HONE := Lib.hid (RepCs.one _ _ hc)
 have HO := Lib.hid ho
 have hb : Below w1.heap.size w1 (w1.alloc (.cells #[.int .i64 x.k, .string x.t, .int .i64 x.num, .slice A x.kids.length c] 24)) := (Below.refl _ _).alloc (Nat.le_refl _) _
 have OL : Hid ((w1.alloc (.cells #[.int .i64 x.k, .string x.t, .int .i64 x.num, .slice A x.kids.length c] 24)).ownsRow w1.heap.size 24 4 (.slice (some ⟨w1.heap.size, 0, none⟩) 1 1) 1 [.int .i64 x.k, .string x.t, .int .i64 x.num, .slice A x.kids.length c]) := World.ownsRow_lit w1 #[.int .i64 x.k, .string x.t, .int .i64 x.num, .slice A x.kids.length c] 1 (Nat.le_refl _) (by unfold maxLen; omega) rfl
 clear hc ho
 obtain ⟨-, -, -, -, b0, b1, b2, b3⟩ := (HS.out.blk 3 rfl).all4
 obtain ⟨i0, hi0, hz0, hz1, hz2⟩ := info_parts info_nodes
 rcases HO.out.2 with ⟨hv, h0⟩ | ⟨gq, cap, cur, hv, -⟩
 ·injection hv with e1 e2 e3
  subst e1 e3
  have hks : ks = [] := List.eq_nil_of_length_eq_zero h0
  subst hks
  have hxs : xs = [] := List.eq_nil_of_length_eq_zero (by simpa using HO.out.1)
  subst hxs
  clear e2 h0
  obtain ⟨A2, c2, V2, hv2, hst⟩ := HS.out.call (v := .slice (some ⟨w1.heap.size, 0, none⟩) 1 1) hb HCV.out OL.out
  injection hv2 with e1 e2 e3
  subst e1 e3
  clear e2 HS
  have HS := Lib.hid hst.f1
  obtain ⟨f0, f1, f2, f3, g0, g1, g2, g3⟩ := HS.out.one.all4
  go_wp2_with (at_builtin; refine wpList_append_own_none rfl _ _ 22 rfl w1.heap.size 24 i0 4 Tryz.underlying22 hi0 _ _ _ rfl OL.out rfl ?_)
  have h' := HS.out.put4 (.int .i64 25) (.string ⟨#[]⟩) (.int .i64 0) (.slice (some ⟨w1.heap.size, 0, none⟩) 1 1)
  exact bodyPost_ret (v := .agg _) (results_cell4 (fn := Tryz.f94) rfl h'.one rfl) rfl (.inr ⟨[], j, _, _, V2, HR.out.symm, rfl, Lib.hid (h'.drop.f1.drop)⟩)
 ·injection hv with e1 e2 e3
  subst e1 e3
  clear e2
  go_wp2_with (at_builtin; (refine wpList_append_own_at _ rfl _ _ 22 rfl w1.heap.size 24 i0 (.agg #[.int .i64 0, .string ⟨#[]⟩, .int .i64 0, .slice none 0 0]) 4 56 Tryz.underlying22 hi0 hz0 hz1 hz2 rfl (by decide) _ _ _ rfl OL.out ⟨gq, 0, none⟩ ks.length ck xs rfl HO.out.1 ?c1 ?c2 ?c3 ?c4 ?c5 ?_))
  case c1 => exact fun j v hj => ((HO.out.alloc _).cells (g := gq) rfl j v hj)
  case c2 => exact HONE.out
  case c3 => unfold maxLen; omega
  case c4 => omega
  case c5 => simp
  intro v5 w2 hown5 hg5 _ hob5
  clear hi0 hz0 hz1 hz2
  have hb2 : Below w1.heap.size w1 w2 := hb.grown hg5 (by simp) (fun k e => by have e2 : some w1.heap.size = some k := e; injection e2 with e2; omega)
  obtain ⟨A2, c2, V2, rfl, hst⟩ := HS.out.call hb2 HCV.out hown5
  clear HS
  have HS := Lib.hid hst.f1
  clear hown5 hg5 hob5 hb hb2
  obtain ⟨f0, f1, f2, f3, g0, g1, g2, g3⟩ := HS.out.one.all4
  go_wp2_with fail
  have h' := HS.out.put4 (.int .i64 25) (.string ⟨#[]⟩) (.int .i64 0) (.slice A2 (ks.length + 1) c2)
  exact bodyPost_ret (v := .agg _) (results_cell4 (fn := Tryz.f94) rfl h'.one rfl) rfl (.inr ⟨ks, j, _, _, V2, HR.out.symm, rfl, Lib.hid (h'.drop.f1.drop)⟩)
end
end Go.Proofs.YtgegfbopogcjpaaGreatDoor
namespace Go.Proofs.YtgegfbopogcjpaaGreatDoor
open Go.RowKit
set_option linter.unusedVariables false
set_option linter.unusedSimpArgs false
set_option maxRecDepth 100000
set_option maxHeartbeats 1000000
theorem number_good (C : PC) (w : World) (i : Nat) (h : PSt C w i) (k : Int) (TS : ByteArray) (TP : Nat) (hL : C.L[i]? = some ⟨k, TS, TP⟩) (d : Int) (hk : (k = 2 ∧ d = 21) ∨ (k = 3 ∧ d = 22)) : Calls Tryz.prog 34 #[.pointer (some ⟨C.p, 0, none⟩)] w (NodeOut C w (.ok (.mk d ⟨#[]⟩ (valT TS) []) (i + 1))) := by
 have hlt : i < C.L.length := (List.getElem?_eq_some_iff.1 hL).1
 obtain ⟨hts, hok, hvi, -⟩ := num_ok (h.ok _ (List.mem_of_getElem? hL)) (hk.imp And.left And.left)
 have PK := Lib.hid (fun W h => peek_any C W i 0 h (by omega))
 unfold PeekOut at PK
 rw [Nat.add_zero, show tokV C i = #[.int .i64 k, .string TS, .int .i64 (TP : Int)] by unfold tokV; rw [hL]] at PK
 have HOK := Lib.hid hok
 have HS := Lib.hid (h.st.box 24 #[.int .i64 0, .string ⟨#[]⟩, .int .i64 0, .slice none 0 0])
 have hln := h.len
 clear hok hL h
 generalize valT TS = V at *
 generalize (TP : Int) = P at *
 go_enter Tryz.func34, Tryz.ntmps34
 go_wp2_with fail
 generalize w.alloc (.cells #[.int .i64 0, .string ⟨#[]⟩, .int .i64 0, .slice none 0 0] 24) = w0 at *
 refine (PK.out _ HS.out.z).mono ?_
 rintro e w1 ⟨rfl, hb⟩
 replace HS := Lib.hid ((HS.out.below hb).box 50 #[.int .i64 k, .string TS, .int .i64 P])
 clear PK hb
 have x0 := HS.out.one.cell 0 (.int .i64 k) rfl
 have q1 := HS.out.z.blk.cell 1 (.int .i64 (i : Int)) rfl
 have f1 := HS.out.z.blk.free 1
 have hw1 : IntKind.i64.wrap ((i : Int) + 1) = (i : Int) + 1 := IntWalk.i64_in _ (by omega)
 have hS : SP C w ((w1.alloc (.cells #[.int .i64 k, .string TS, .int .i64 P] 50)).setCell ⟨C.p, 1, none⟩ (.int .i64 ((i : Int) + 1))) (i + 1) _ := HS.out.mv1 (by omega)
 have x1 := hS.one.cell 1 (.string TS) rfl
 rcases hk with ⟨rfl, hd⟩ | ⟨rfl, hd⟩
 all_goals
  go_wp2_with fail
  clear x0 q1 f1 hw1 HS x1
  have HS := Lib.hid hS
  clear hS
  generalize (w1.alloc (.cells #[.int .i64 _, .string TS, .int .i64 P] 50)).setCell ⟨C.p, 1, none⟩ (.int .i64 ((i : Int) + 1)) = w3 at *
  have HP : Hid (Calls Tryz.prog 74 #[.string TS, .int .i64 10, .int .i64 64] w3 fun e w' => e = .returned (.tuple #[.int .i64 V, .nilIface]) ∧ Below w3.heap.size w3 w') := by
   refine (sh_strconv_ParseInt_10_at64_ok TS (by omega) V HOK.out w3).mono fun e w' ⟨h, hbw⟩ => ⟨h, ?_⟩
   rcases hbw with rfl | ⟨t, rfl⟩
   ·exact Below.refl _ _
   ·exact Lib.bytesWorld_below _ _ _
  refine HP.out.mono ?_
  rintro e w4 ⟨rfl, hb⟩
  clear HP
  replace HS := Lib.hid ((HS.out.below hb).drop.leaf d ⟨#[]⟩ V hvi (Nat.zero_le _))
  subst hd
  clear hb
  obtain ⟨f0, f1, f2, f3, g0, g1, g2, g3⟩ := (HS.out.blk 1 rfl).all4
  go_wp2_with fail
  have hf := finO HS.out (Lib.hid rfl)
  exact bodyPost_ret (v := .agg _) (results_cell4 (fn := Tryz.f34) rfl hf.1 rfl) rfl hf.2
theorem number_any (C : PC) : POk C 34 (numM C.L) := by
 intro w i h hwet
 rcases Classical.em (∃ t, C.L[i]? = some t ∧ (t.k = 2 ∨ t.k = 3)) with ⟨⟨k, s, p⟩, hL, hk⟩ | hg
 ·have hnm : numM C.L i = (if k = 2 then .ok (.mk 21 ⟨#[]⟩ (valT s) []) (i + 1) else if k = 3 then .ok (.mk 22 ⟨#[]⟩ (valT s) []) (i + 1) else .bad i) := by unfold numM; rw [hL]
  rw [hnm]
  rcases hk with hk | hk
  ·rw [if_pos hk]
   exact number_good C w i h k s p hL 21 (.inl ⟨hk, rfl⟩)
  ·have hk : k = 3 := hk
   rw [if_neg (by omega), if_pos hk]
   exact number_good C w i h k s p hL 22 (.inr ⟨hk, rfl⟩)
 ·obtain ⟨hnm, ta, TS, htv, h2, h3⟩ := tok_bad (C := C) (i := i) (fun t ht => ⟨fun e => hg ⟨t, ht, .inl e⟩, fun e => hg ⟨t, ht, .inr e⟩⟩)
  rw [hnm]
  have e2 : (ta == 2) = false := by simpa using h2
  have e3 : (ta == 3) = false := by simpa using h3
  have PK := Lib.hid (fun W h => peek_any C W i 0 h (by omega))
  unfold PeekOut at PK
  rw [Nat.add_zero, htv] at PK
  have HS := Lib.hid (h.st.box 24 #[.int .i64 0, .string ⟨#[]⟩, .int .i64 0, .slice none 0 0])
  clear h hwet hnm htv hg h2 h3
  generalize hP : posAt C i = P at PK
  go_enter Tryz.func34, Tryz.ntmps34
  go_wp2_with fail
  generalize w.alloc (.cells #[.int .i64 0, .string ⟨#[]⟩, .int .i64 0, .slice none 0 0] 24) = w0 at *
  refine (PK.out _ HS.out.z).mono ?_
  rintro e w1 ⟨rfl, hb⟩
  replace HS := Lib.hid ((HS.out.below hb).box 50 #[.int .i64 ta, .string TS, .int .i64 P])
  clear PK hb
  have x0 := HS.out.one.cell 0 (.int .i64 ta) rfl
  go_wp2_with fail
  refine (fail_any C _ _ HS.out.z).mono ?_
  rintro e w2 ⟨he, hb⟩
  obtain rfl : e = badP C i := he
  have m := HS.out.mv.trans_ (mv_below (p := C.p) hb)
  go_wp2
  subst hP
  exact ⟨rfl, badO rfl m⟩
end Go.Proofs.YtgegfbopogcjpaaGreatDoor
