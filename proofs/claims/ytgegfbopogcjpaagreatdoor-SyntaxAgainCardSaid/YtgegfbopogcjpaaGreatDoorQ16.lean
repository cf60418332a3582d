/- What a walk knows of the memory, as one fact: where the reader stands, what has changed, and the pieces that are one's own, each in blocks of its own; The parser's list, whatever reads a part; A number's token: what it is worth; The parser's small functions, over a walk's one fact. -/
import Derived.Test.YtgegfbopogcjpaaGreatDoorQ03
import Derived.Test.YtgegfbopogcjpaaGreatDoorQ15
namespace Go.Proofs.YtgegfbopogcjpaaGreatDoor
open Go.RowKit
set_option linter.unusedVariables false
set_option linter.unusedSimpArgs false
set_option maxRecDepth 100000
set_option maxHeartbeats 1000000
theorem Blk.drw {w : World} {b : Nat} {t : TypeId} {cs : Array Value} (h : Blk w b t cs) : Blk w.drew b t cs := h
structure Rc where
 V : Nat → Prop
 P : World → Prop
 fr : ∀ {W W' : World}, P W → W.heap.size ≤ W'.heap.size → (∀ b, V b → b < W.heap.size → W'.heap[b]? = W.heap[b]?) → P W'
def bx (b : Nat) (T : TypeId) (vs : Array Value) : Rc := ⟨fun x => x = b, fun W => Blk W b T vs, fun h _ hk => (hk _ rfl h.lt).trans h⟩
def cN (x : Nd) (A : Option Addr) (c : Nat) : List Value := [.int .i64 x.k, .string x.t, .int .i64 x.num, .slice A x.kids.length c]
def nd (V : Nat → Prop) (x : Nd) (A : Option Addr) (c : Nat) : Rc := ⟨V, fun W => RepV V W x (cN x A c), fun h hs hk => RepV.keep hs (fun b hv hlt => ⟨hk b hv hlt, hv⟩) _ _ h⟩
def AccW (V : Nat → Prop) (B : Nat) (w : World) (v : Value) (ks : List Nd) : Prop :=
 ∃ xs, RepCs (fun b => V b ∧ some b ≠ v.ownBlock) w ks xs ∧ (∀ g, v.ownBlock = some g → V g) ∧ w.ownsRow B 24 4 v ks.length xs
theorem owns_keep {w w' : World} {B : Nat} {e : TypeId} {s n : Nat} {v : Value} {xs : List Value} (h : w.ownsRow B e s v n xs) (hk : ∀ g, v.ownBlock = some g → w'.heap[g]? = w.heap[g]?) : w'.ownsRow B e s v n xs := by
 refine ⟨h.1, ?_⟩
 rcases h.2 with h | ⟨g, cap, cur, rfl, hb, hg, h⟩
 ·exact .inl h
 ·exact .inr ⟨g, cap, cur, rfl, hb, (hk g rfl).trans hg, h⟩
def rw_ (B : Nat) (V : Nat → Prop) (ks : List Nd) (A : Option Addr) (c : Nat) : Rc := ⟨V, fun W => AccW V B W (.slice A ks.length c) ks, fun h hs hk => by
 obtain ⟨xs, h1, h2, ho⟩ := h
 exact ⟨xs, RepCs.keep hs (fun b hv hlt => ⟨hk b hv.1 hlt, hv⟩) _ _ h1, h2, owns_keep ho fun g e => hk g (h2 g e) (ho.lt g e).2⟩⟩
section
variable {ι : Type} {Z : ι → World → Prop} {p : Nat} {G : Nat → Prop} {w W W' : World} {i j : ι} {l : List Rc} {r s t : Rc}
structure St (Z : ι → World → Prop) (p : Nat) (G : Nat → Prop) (w W : World) (i : ι) (l : List Rc) : Prop where
 gp : G p
 gs : ∀ b, G b → b < W.heap.size
 mv : Mv p w W
 z : Z i W
 zf : ∀ j W W', Z j W → W.heap.size ≤ W'.heap.size → (∀ b, G b → W'.heap[b]? = W.heap[b]?) → Z j W'
 ok : ∀ r ∈ l, r.P W
 inn : ∀ r ∈ l, ∀ b, r.V b → w.heap.size ≤ b ∧ b < W.heap.size ∧ ¬ G b
 ap : l.Pairwise fun r s => ∀ b, r.V b → ¬ s.V b
theorem St.init (h : Z i w) (p0 : p < w.heap.size) (zf : ∀ j W W', Z j W → W.heap.size ≤ W'.heap.size → (∀ b, b < w.heap.size → W'.heap[b]? = W.heap[b]?) → Z j W') : St Z p (fun b => b < w.heap.size) w w i [] :=
 ⟨p0, fun _ h => h, Mv.refl_ _ _, h, zf, fun _ h => (nomatch h), fun _ h => (nomatch h), List.Pairwise.nil⟩
theorem St.to (h : St Z p G w W i l) (m : Mv p W W') (hz : Z j W') : St Z p G w W' j l :=
 ⟨h.gp, fun b hb => Nat.lt_of_lt_of_le (h.gs b hb) m.size, h.mv.trans_ m, hz, h.zf, fun r hr => r.fr (h.ok r hr) m.size fun b hb hlt => m.block b hlt (fun e => by injection e with e; subst e; exact (h.inn r hr _ hb).2.2 h.gp), fun r hr b hb => ⟨(h.inn r hr b hb).1, Nat.lt_of_lt_of_le (h.inn r hr b hb).2.1 m.size, (h.inn r hr b hb).2.2⟩, h.ap⟩
theorem St.below (h : St Z p G w W i l) (hb : Below W.heap.size W W') : St Z p G w W' i l :=
 h.to (mv_below hb) (h.zf i W W' h.z hb.size fun b hG => hb.block b (h.gs b hG))
theorem St.cons (h : St Z p G w W i l) (hr : r.P W) (hi : ∀ b, r.V b → w.heap.size ≤ b ∧ b < W.heap.size ∧ ¬ G b) (ha : ∀ s ∈ l, ∀ b, r.V b → ¬ s.V b) : St Z p G w W i (r :: l) :=
 ⟨h.gp, h.gs, h.mv, h.z, h.zf, fun x hx => by rcases List.mem_cons.1 hx with rfl | hx; exact hr; exact h.ok x hx, fun x hx => by rcases List.mem_cons.1 hx with rfl | hx; exact hi; exact h.inn x hx, .cons ha h.ap⟩
theorem St.add (h : St Z p G w W i l) (h' : St Z p G w W' j l) (hr : r.P W') (hi : ∀ b, r.V b → W.heap.size ≤ b ∧ b < W'.heap.size) : St Z p G w W' j (r :: l) :=
 h'.cons hr (fun b hb => ⟨Nat.le_trans h.mv.size (hi b hb).1, (hi b hb).2, fun hG => by have := h.gs b hG; have := (hi b hb).1; omega⟩) fun s hs b hb hv => by have := (h.inn s hs b hv).2.1; have := (hi b hb).1; omega
theorem St.box (h : St Z p G w W i l) (T : TypeId) (vs : Array Value) : St Z p G w (W.alloc (.cells vs T)) i (bx W.heap.size T vs :: l) :=
 h.add (h.below ((Below.refl _ _).alloc (Nat.le_refl _) _)) (Blk.new_ W T vs) fun b hb => by
  have e : b = W.heap.size := hb
  subst e
  simp
theorem St.drop (h : St Z p G w W i (r :: l)) : St Z p G w W i l :=
 ⟨h.gp, h.gs, h.mv, h.z, h.zf, fun x hx => h.ok x (.tail _ hx), fun x hx => h.inn x (.tail _ hx), (List.pairwise_cons.1 h.ap).2⟩
theorem St.perm {l' : List Rc} (h : St Z p G w W i l) (hp : l.Perm l') : St Z p G w W i l' :=
 ⟨h.gp, h.gs, h.mv, h.z, h.zf, fun x hx => h.ok x (hp.mem_iff.2 hx), fun x hx => h.inn x (hp.mem_iff.2 hx), (hp.pairwise_iff fun {x y} hxy b hy hx => hxy b hx hy).1 h.ap⟩
theorem St.f1 {a b : Rc} (h : St Z p G w W i (a :: b :: l)) : St Z p G w W i (b :: a :: l) := h.perm (.swap _ _ _)
theorem St.f2 {a b c : Rc} (h : St Z p G w W i (a :: b :: c :: l)) : St Z p G w W i (c :: a :: b :: l) := h.perm ((List.perm_middle (l₁ := [a, b])))
theorem St.f3 {a b c d : Rc} (h : St Z p G w W i (a :: b :: c :: d :: l)) : St Z p G w W i (d :: a :: b :: c :: l) := h.perm ((List.perm_middle (l₁ := [a, b, c])))
theorem St.f4 {a b c d e : Rc} (h : St Z p G w W i (a :: b :: c :: d :: e :: l)) : St Z p G w W i (e :: a :: b :: c :: d :: l) := h.perm ((List.perm_middle (l₁ := [a, b, c, d])))
theorem St.f5 {a b c d e f : Rc} (h : St Z p G w W i (a :: b :: c :: d :: e :: f :: l)) : St Z p G w W i (f :: a :: b :: c :: d :: e :: l) := h.perm ((List.perm_middle (l₁ := [a, b, c, d, e])))
theorem St.sub {l' : List Rc} (h : St Z p G w W i l) (hs : l'.Sublist l) : St Z p G w W i l' :=
 ⟨h.gp, h.gs, h.mv, h.z, h.zf, fun x hx => h.ok x (hs.mem hx), fun x hx => h.inn x (hs.mem hx), h.ap.sublist hs⟩
theorem St.k1 {a : Rc} (h : St Z p G w W i (a :: l)) : St Z p G w W i [a] := h.sub (List.sublist_append_left [a] l)
theorem St.k2 {a b : Rc} (h : St Z p G w W i (a :: b :: l)) : St Z p G w W i [a, b] := h.sub (List.sublist_append_left [a, b] l)
theorem St.k3 {a b c : Rc} (h : St Z p G w W i (a :: b :: c :: l)) : St Z p G w W i [a, b, c] := h.sub (List.sublist_append_left [a, b, c] l)
theorem St.k4 {a b c d : Rc} (h : St Z p G w W i (a :: b :: c :: d :: l)) : St Z p G w W i [a, b, c, d] := h.sub (List.sublist_append_left [a, b, c, d] l)
theorem St.one (h : St Z p G w W i (r :: l)) : r.P W := h.ok r (.head _)
theorem St.at (h : St Z p G w W i l) (k : Nat) (hk : l[k]? = some r) : r.P W := h.ok r (List.mem_of_getElem? hk)
theorem St.blk {b : Nat} {T : TypeId} {vs : Array Value} (h : St Z p G w W i l) (k : Nat) (hk : l[k]? = some (bx b T vs)) : Blk W b T vs := h.at k hk
theorem St.join (h : St Z p G w W i (r :: s :: l)) (hv : ∀ b, t.V b → r.V b ∨ s.V b) (ht : r.P W → s.P W → (∀ b, r.V b → ¬ s.V b) → t.P W) : St Z p G w W i (t :: l) := by
 have a1 := List.pairwise_cons.1 h.ap
 have a2 := List.pairwise_cons.1 a1.2
 refine h.drop.drop.cons (ht (h.ok _ (.head _)) (h.ok _ (.tail _ (.head _))) (a1.1 s (.head _))) (fun b hb => ?_) fun x hx b hb => ?_
 ·rcases hv b hb with h1 | h1
  ·exact h.inn _ (.head _) b h1
  ·exact h.inn _ (.tail _ (.head _)) b h1
 ·rcases hv b hb with h1 | h1
  ·exact a1.1 x (.tail _ hx) b h1
  ·exact a2.1 x hx b h1
theorem St.turn (h : St Z p G w W i (r :: l)) (hv : ∀ b, t.V b → r.V b) (ht : r.P W → t.P W) : St Z p G w W i (t :: l) :=
 h.drop.cons (ht h.one) (fun b hb => h.inn _ (.head _) b (hv b hb)) fun x hx b hb => (List.pairwise_cons.1 h.ap).1 x hx b (hv b hb)
theorem St.put {b : Nat} {T : TypeId} {vs vs' : Array Value} (h : St Z p G w W i (bx b T vs :: l)) (m : Mv b W W') (k : Blk W' b T vs') : St Z p G w W' i (bx b T vs' :: l) := by
 have hb := (h.inn _ (.head _) b rfl).1
 have hA := (List.pairwise_cons.1 h.ap).1
 have hG := (h.inn _ (.head _) b rfl).2.2
 refine ⟨h.gp, fun c hc => Nat.lt_of_lt_of_le (h.gs c hc) m.size, h.mv.put hb m, h.zf i W W' h.z m.size (fun x hx => m.block x (h.gs x hx) (fun e => by injection e with e; subst e; exact hG hx)), h.zf, fun x hx => ?_, fun x hx c hc => ?_, .cons hA (List.pairwise_cons.1 h.ap).2⟩
 ·rcases List.mem_cons.1 hx with rfl | hx
  ·exact k
  ·exact x.fr (h.ok x (.tail _ hx)) m.size fun c hc hlt => m.block c hlt (fun e => by injection e with e; exact hA x hx b rfl (e ▸ hc))
 ·have : w.heap.size ≤ c ∧ c < W.heap.size ∧ ¬ G c := by
   rcases List.mem_cons.1 hx with rfl | hx
   ·exact h.inn _ (.head _) c hc
   ·exact h.inn x (.tail _ hx) c hc
  exact ⟨this.1, Nat.lt_of_lt_of_le this.2.1 m.size, this.2.2⟩
theorem St.put1 {b : Nat} {T : TypeId} {vs : Array Value} (h : St Z p G w W i (bx b T vs :: l)) (n : Nat) (u : Value) : St Z p G w (W.setCell ⟨b, n, none⟩ u) i (bx b T (vs.setIfInBounds n u) :: l) :=
 h.put (put1_mv W b n u) (h.one.set_ n u)
theorem St.put4 {b : Nat} {T : TypeId} {a0 a1 a2 a3 : Value} (h : St Z p G w W i (bx b T #[a0, a1, a2, a3] :: l)) (b0 b1 b2 b3 : Value) :
 St Z p G w ((((W.setCell ⟨b, 0, none⟩ b0).setCell ⟨b, 1, none⟩ b1).setCell ⟨b, 2, none⟩ b2).setCell ⟨b, 3, none⟩ b3) i (bx b T #[b0, b1, b2, b3] :: l) :=
 h.put (put4_mv W b b0 b1 b2 b3) (blk_put4 h.one b0 b1 b2 b3)
theorem St.putbox {b : Nat} {T : TypeId} {a0 a1 a2 a3 : Value} (h : St Z p G w W i (bx b T #[a0, a1, a2, a3] :: l)) (b0 b1 b2 b3 : Value) (T' : TypeId) (vs : Array Value) :
 St Z p G w (((((W.setCell ⟨b, 0, none⟩ b0).setCell ⟨b, 1, none⟩ b1).setCell ⟨b, 2, none⟩ b2).setCell ⟨b, 3, none⟩ b3).alloc (.cells vs T')) i (bx W.heap.size T' vs :: bx b T #[b0, b1, b2, b3] :: l) := by
 have h2 := (h.put4 b0 b1 b2 b3).box T' vs
 rwa [show ((((W.setCell ⟨b, 0, none⟩ b0).setCell ⟨b, 1, none⟩ b1).setCell ⟨b, 2, none⟩ b2).setCell ⟨b, 3, none⟩ b3).heap.size = W.heap.size by simp [World.setCell]] at h2
theorem St.renum {V : Nat → Prop} {x : Nd} {A : Option Addr} {c : Nat} (h : St Z p G w W i (nd V x A c :: l)) (n : Int) (hn : I64 n) : St Z p G w W i (nd V (.mk x.k x.t n x.kids) A c :: l) :=
 h.turn (fun b hb => hb) fun hp => by
  obtain ⟨A', c', e, h1, h2, h3, -, h5⟩ := RepV.four (show RepV V W x (cN x A c) from hp)
  unfold cN at e
  injection e with _ e
  injection e with _ e
  injection e with _ e
  injection e with e
  injection e with e1 _ e2
  subst e1 e2
  exact RepV.of h1 h2 h3 hn h5
theorem St.kid1 {y : Nat} {V : Nat → Prop} {x : Nd} {A : Option Addr} {c : Nat} (h : St Z p G w W i (bx y 24 (cN x A c).toArray :: nd V x A c :: l)) (k : Int) (t : ByteArray) (n : Int) (hn : I64 n) (ht : t.size ≤ maxLen) :
 St Z p G w W i (nd (fun b => b = y ∨ V b) (.mk k t n [x]) (some ⟨y, 0, none⟩) 1 :: l) := by
 refine h.join (fun b hb => hb) fun h1 h2 hd => ?_
 have h1 : Blk W y 24 (cN x A c).toArray := h1
 have h2 : RepV V W x (cN x A c) := h2
 refine RepV.of (kids := [x]) (c := 1) ?_ (by simp) (by simp [maxLen]) hn ht
 refine RepCs.list (V := fun b => b = y ∨ V b) (w := W) (.inl rfl) h1.lt [x] _ 0 ⟨_, [], rfl, RepV.keep (Nat.le_refl _) (fun b hv _ => ⟨rfl, .inr hv⟩) _ _ h2, rfl⟩ fun j v hj => ?_
 have := h1.cell j v (by simpa using hj)
 simpa using this
theorem St.kid2 {y : Nat} {V U : Nat → Prop} {x z : Nd} {A A' : Option Addr} {c c' : Nat} (h : St Z p G w W i (bx y 24 (cN x A c ++ cN z A' c').toArray :: nd V x A c :: nd U z A' c' :: l)) (k : Int) (t : ByteArray) (n : Int) (hn : I64 n) (ht : t.size ≤ maxLen) :
 St Z p G w W i (nd (fun b => b = y ∨ V b ∨ U b) (.mk k t n [x, z]) (some ⟨y, 0, none⟩) 2 :: l) := by
 have h3 := h.f2
 have h4 := (h3.drop.join (t := ⟨fun b => b = y ∨ V b, fun W => Blk W y 24 (cN x A c ++ cN z A' c').toArray ∧ RepV V W x (cN x A c), fun h hs hk => ⟨(hk y (.inl rfl) h.1.lt).trans h.1, RepV.keep hs (fun b hv hlt => ⟨hk b (.inr hv) hlt, hv⟩) _ _ h.2⟩⟩) (fun b hb => hb) (fun h1 h2 _ => ⟨h1, h2⟩)).cons (r := nd U z A' c') h3.one (h3.inn _ (.head _)) (fun s hs b hb hv => by
  have ha := (List.pairwise_cons.1 h3.ap).1
  rcases List.mem_cons.1 hs with rfl | hs
  ·rcases hv with hv | hv
   ·exact ha _ (.head _) b hb hv
   ·exact ha _ (.tail _ (.head _)) b hb hv
  ·exact ha s (.tail _ (.tail _ hs)) b hb hv)
 refine h4.join (fun b hb => ?_) fun h1 h2 hd => ?_
 ·rcases hb with hb | hb | hb
  ·exact .inr (.inl hb)
  ·exact .inr (.inr hb)
  ·exact .inl hb
 ·have h1 : RepV U W z (cN z A' c') := h1
  obtain ⟨h2, h3⟩ : Blk W y 24 (cN x A c ++ cN z A' c').toArray ∧ RepV V W x (cN x A c) := h2
  refine RepV.of (kids := [x, z]) (c := 2) ?_ (by simp) (by simp [maxLen]) hn ht
  refine RepCs.list (V := fun b => b = y ∨ V b ∨ U b) (w := W) (.inl rfl) h2.lt [x, z] _ 0 ⟨_, cN z A' c', rfl, RepV.keep (Nat.le_refl _) (fun b hv _ => ⟨rfl, .inr (.inl hv)⟩) _ _ h3, _, [], (List.append_nil _).symm, RepV.keep (Nat.le_refl _) (fun b hv _ => ⟨rfl, .inr (.inr hv)⟩) _ _ h1, rfl⟩ fun j v hj => ?_
  have := h2.cell j v (by simpa using hj)
  simpa using this
theorem St.leaf (h : St Z p G w W i l) (k : Int) (t : ByteArray) (n : Int) (hn : I64 n) (ht : t.size ≤ maxLen) : St Z p G w W i (nd (fun _ => False) (.mk k t n []) none 0 :: l) := by
 refine h.cons ?_ (fun b hb => hb.elim) fun s _ b hb => hb.elim
 refine RepV.of (kids := []) ?_ (by simp) (by simp) hn ht
 unfold RepVL
 trivial
theorem St.row0 (h : St Z p G w W i l) : St Z p G w W i (rw_ w.heap.size (fun _ => False) [] none 0 :: l) :=
 h.cons ⟨[], rfl, fun g e => (nomatch e), World.ownsRow_nil _ _ _ _⟩ (fun b hb => hb.elim) fun s _ b hb => hb.elim
theorem St.kids {V : Nat → Prop} {B : Nat} {ks : List Nd} {A : Option Addr} {c : Nat} (h : St Z p G w W i (rw_ B V ks A c :: l)) (k : Int) (t : ByteArray) (n : Int) (hn : I64 n) (ht : t.size ≤ maxLen) : St Z p G w W i (nd V (.mk k t n ks) A c :: l) := by
 refine h.turn (fun b hb => hb) fun hp => ?_
 obtain ⟨xs, h1, hv, ho⟩ : AccW V B W (.slice A ks.length c) ks := hp
 have h2 : RepCs V W ks xs := RepCs.keep (Nat.le_refl _) (fun b hv _ => ⟨rfl, hv.1⟩) _ _ h1
 rcases ho.2 with ⟨e, h0'⟩ | ⟨g, cap, cur, e, hb, hg, hnc, hcm, -⟩
 ·injection e with e1 e2 e3
  have := List.eq_nil_of_length_eq_zero h0'
  subst this
  subst e1 e3
  exact RepV.of (kids := []) (by unfold RepVL; trivial) (Nat.le_refl _) (Nat.zero_le _) hn ht
 ·injection e with e1 e2 e3
  subst e1 e3
  have hlt : g < W.heap.size := (ho.lt g rfl).2
  refine RepV.of (kids := ks) (RepCs.list (hv g rfl) hlt ks xs 0 h2 fun j v hj => ?_) hnc (by omega) hn ht
  have := ho.cells (g := g) rfl j v hj
  rw [add_plain_] at this
  exact this
theorem St.grow {V U : Nat → Prop} {B : Nat} {ks : List Nd} {x : Nd} {A A' : Option Addr} {c c' : Nat} {xs : List Value} {v' : Value} (h : St Z p G w W i (rw_ B V ks A c :: nd U x A' c' :: l)) (hB : w.heap.size ≤ B)
 (h1 : RepCs (fun b => V b ∧ some b ≠ (Value.slice A ks.length c).ownBlock) W ks xs) (ho : W.ownsRow B 24 4 (.slice A ks.length c) ks.length xs)
 (h2 : ∀ g, (Value.slice A ks.length c).ownBlock = some g → V g)
 (hown : W'.ownsRow B 24 4 v' (ks.length + 1) (xs ++ cN x A' c')) (hg : W.grownBy W' (Value.slice A ks.length c).ownBlock) (hb : v'.ownBlock = (Value.slice A ks.length c).ownBlock ∨ v'.ownBlock = some W.heap.size) :
 ∃ A2 c2 V2, v' = .slice A2 (ks.length + 1) c2 ∧ St Z p G w W' i (rw_ B V2 (ks ++ [x]) A2 c2 :: l) := by
 obtain ⟨A2, c2, rfl, -⟩ := Row.of_own hown
 generalize hov : (Value.slice A ks.length c).ownBlock = own at *
 have a1 := List.pairwise_cons.1 h.ap
 have a2 := List.pairwise_cons.1 a1.2
 have hne : ∀ b, ¬ V b → some b ≠ own := fun b hb e => hb (h2 b e.symm)
 have hUV : ∀ b, U b → ¬ V b := fun b hu hv => a1.1 _ (.head _) b hv hu
 have hsz := hg.size
 have hwW := h.mv.size
 have hob : ∀ g, own = some g → w.heap.size ≤ g := fun g e => (h.inn _ (.head _) g (h2 g e)).1
 have hoG : ∀ g, own = some g → ¬ G g := fun g e => (h.inn _ (.head _) g (h2 g e)).2.2
 have hnG : ¬ G W.heap.size := fun e => Nat.lt_irrefl _ (h.gs _ e)
 have hx : RepV U W x (cN x A' c') := h.ok _ (.tail _ (.head _))
 have hm : Mv p w W' := ⟨hg.os.trans h.mv.os, hg.tape.trans h.mv.tape, hg.output.trans h.mv.output, by omega, fun k hk hne' => (hg.block k (by omega) (fun e => by have := hob k e.symm; omega)).trans (h.mv.block k hk hne')⟩
 refine ⟨A2, c2, fun b => V b ∨ U b ∨ (Value.slice A2 (ks.length + 1) c2).ownBlock = some b, rfl, h.gp, fun b hb => Nat.lt_of_lt_of_le (h.gs b hb) hsz, hm, h.zf i W W' h.z hsz (fun b hG => hg.block b (h.gs b hG) (fun e => hoG b e.symm hG)), h.zf, fun r hr => ?_, fun r hr b hbr => ?_, .cons (fun s hs b hbr => ?_) a2.2⟩
 ·rcases List.mem_cons.1 hr with rfl | hr
  ·have hxs : RepCs (fun b => (V b ∨ U b) ∧ some b ≠ own) W (ks ++ [x]) (xs ++ cN x A' c') :=
    RepCs.snoc (RepV.keep (Nat.le_refl _) (fun b hv _ => ⟨rfl, .inr hv, hne b (hUV b hv)⟩) _ _ hx) ks xs (RepCs.keep (Nat.le_refl _) (fun b hv _ => ⟨rfl, .inl hv.1, hv.2⟩) _ _ h1)
   refine ⟨_, RepCs.keep hsz (fun b hv hlt => ⟨hg.block b hlt hv.2, ?_, ?_⟩) _ _ hxs, fun g e => .inr (.inr (by simpa using e)), by simpa using hown⟩
   ·rcases hv.1 with h | h
    ·exact .inl h
    ·exact .inr (.inl h)
   ·have e : (Value.slice A2 (ks ++ [x]).length c2).ownBlock = (Value.slice A2 (ks.length + 1) c2).ownBlock := by simp
    rw [e]
    rcases hb with hb | hb
    ·rw [hb]; exact hv.2
    ·rw [hb]; intro e; injection e with e; omega
  ·exact r.fr (h.ok r (.tail _ (.tail _ hr))) hsz fun b hbr hlt => hg.block b hlt (hne b fun hv => a1.1 r (.tail _ hr) b hv hbr)
 ·rcases List.mem_cons.1 hr with rfl | hr
  ·rcases hbr with hv | hv | hv
   ·have h3 := h.inn _ (.head _) b hv; exact ⟨h3.1, by omega, h3.2.2⟩
   ·have h3 := h.inn _ (.tail _ (.head _)) b hv; exact ⟨h3.1, by omega, h3.2.2⟩
   ·have h3 := hown.lt b hv
    rcases hb with hb | hb
    ·exact ⟨hob b (by rw [← hb]; exact hv), h3.2, hoG b (by rw [← hb]; exact hv)⟩
    ·rw [hb] at hv; injection hv with hv; subst hv; exact ⟨hwW, h3.2, hnG⟩
  ·have h3 := h.inn r (.tail _ (.tail _ hr)) b hbr; exact ⟨h3.1, by omega, h3.2.2⟩
 ·intro hs'
  have h3 := h.inn s (.tail _ (.tail _ hs)) b hs'
  rcases hbr with hv | hv | hv
  ·exact a1.1 s (.tail _ hs) b hv hs'
  ·exact a2.1 s hs b hv hs'
  ·rcases hb with hb | hb
   ·exact a1.1 s (.tail _ hs) b (h2 b (by rw [← hb]; exact hv)) hs'
   ·rw [hb] at hv; injection hv with hv; omega
end
section
variable {ι : Type} {Z : ι → World → Prop} {p : Nat} {G : Nat → Prop} {w W : World} {i : ι} {l : List Rc}
theorem wpList_push {ops : Array Oper} {rest : List Oper} {o : Oper} {a : Act} {Q : Exit → Act → World → Prop} {V U : Nat → Prop} {y m : Nat} {ks : List Nd} {x : Nd} {A A' : Option Addr} {c c' : Nat} (h : St Z p G w W i (rw_ w.heap.size V ks A c :: nd U x A' c' :: bx y 24 (cN x A' c').toArray :: l))
 {n : Nat} (hl : ks.length = n) (hn : n ≤ 8000) (hgd : o.guard = none) (s t : Operand) (ho : o.op = .call { callee := .builtin .append, args := #[s, t], argTypes := #[22, 22] })
 (hs : a.eval s = .slice A n c) (ht : a.eval t = .slice (some ⟨y, 0, none⟩) 1 m)
 (hK : ∀ A2 c2 V2 W', Hid (St Z p G w W' i (rw_ w.heap.size V2 (ks ++ [x]) A2 c2 :: l)) → wpList Tryz.prog ops Q rest (a.put o.dst (.slice A2 (n + 1) c2)) W') : wpList Tryz.prog ops Q (o :: rest) a W := by
 subst hl
 obtain ⟨xs, h1, h2, hw⟩ : AccW V w.heap.size W (.slice A ks.length c) ks := h.one
 have hy : Blk W y 24 (cN x A' c').toArray := h.f2.one
 obtain ⟨i0, hi0, hz0, hz1, hz2⟩ := info_parts info_nodes
 refine wpList_append_own_at W hgd s t _ ho w.heap.size 24 i0 _ 4 56 Tryz.underlying22 hi0 hz0 hz1 hz2 rfl (by decide) _ _ xs hs hw ⟨y, 0, none⟩ 1 m (cN x A' c') ht rfl (fun j u hj => ?_) (by simp [cN, Value.oneCell']) (by unfold maxLen; omega) (by omega) h.mv.size ?_
 ·rw [add_plain_]
  have := hy.cell j u (by simpa using hj)
  simpa using this
 ·intro v' W' hown hg _ hob
  obtain ⟨A2, c2, V2, rfl, hst⟩ := (h.f2.drop).grow (Nat.le_refl _) h1 hw h2 hown hg hob
  exact hK A2 c2 V2 W' hst
theorem oper_push {o : Oper} {a : Act} {K : Act → World → Prop} {Q : Exit → Act → World → Prop} {V U : Nat → Prop} {y m : Nat} {ks : List Nd} {x : Nd} {A A' : Option Addr} {c c' : Nat} (h : St Z p G w W i (rw_ w.heap.size V ks A c :: nd U x A' c' :: bx y 24 (cN x A' c').toArray :: l))
 {n : Nat} (hl : ks.length = n) (hn : n ≤ 8000) (s t : Operand) (ho : o.op = .call { callee := .builtin .append, args := #[s, t], argTypes := #[22, 22] })
 (hs : a.eval s = .slice A n c) (ht : a.eval t = .slice (some ⟨y, 0, none⟩) 1 m)
 (hK : ∀ A2 c2 V2 W', Hid (St Z p G w W' i (rw_ w.heap.size V2 (ks ++ [x]) A2 c2 :: l)) → K (a.put o.dst (.slice A2 (n + 1) c2)) W') : Oper.wp Tryz.prog o a W K Q := by
 subst hl
 obtain ⟨xs, h1, h2, hw⟩ : AccW V w.heap.size W (.slice A ks.length c) ks := h.one
 have hy : Blk W y 24 (cN x A' c').toArray := h.f2.one
 obtain ⟨i0, hi0, hz0, hz1, hz2⟩ := info_parts info_nodes
 obtain ⟨v', w', hr, hown, hg, -, hob⟩ := run_append_own_at (P := Tryz.prog) W w.heap.size 22 o.type 24 i0 _ 4 56 Tryz.underlying22 hi0 hz0 hz1 hz2 rfl (by decide) _ _ xs hw ⟨y, 0, none⟩ 1 m (cN x A' c') rfl (fun j u hj => by
  rw [add_plain_]
  have := hy.cell j u (by simpa using hj)
  simpa using this) (by simp [cN, Value.oneCell']) (by unfold maxLen; omega) (by omega) h.mv.size
 obtain ⟨A2, c2, V2, rfl, hst⟩ := (h.f2.drop).grow (Nat.le_refl _) h1 hw h2 hown hg hob
 unfold Oper.wp execOp
 simp only [ho, resolve, invoke, builtin, Sem.run_bind, Sem.run_pure, Result.andThen_ok, List.map_toArray, List.map_cons, List.map_nil, hs, ht, hr]
 exact hK A2 c2 V2 w' hst
end
end Go.Proofs.YtgegfbopogcjpaaGreatDoor
namespace Go.Proofs.YtgegfbopogcjpaaGreatDoor
open Go.RowKit
set_option linter.unusedVariables false
set_option linter.unusedSimpArgs false
set_option maxRecDepth 100000
set_option maxHeartbeats 1000000
def ItemsRel (C : PC) (m : Nat → Res Nd) (many : Bool) (R : Res (List Nd × Bool)) (w : World) (gk : Nat) (v d : Value) (wr : World) : Prop :=
 ∃ (ks : List Nd) (A : Option Addr) (c i : Nat), d = .bool false ∧ v = .slice A ks.length c ∧ Hid (Acc w.heap.size wr (.slice A ks.length c) ks ∧ PSt C wr i ∧ Mv C.p w wr ∧ itemsM C.L m many gk ks i = R ∧ ks.length + gk ≤ C.L.length + 1)
theorem acc_push {B B1 : Nat} {w w' : World} {v v' : Value} {ks : List Nd} {xs : List Value} {x : Nd} {cs : List Value} {o : Obj} (h1 : RepCs (FromBut B v.ownBlock) w ks xs) (hx : RepV (From B1) w x cs) (hB1 : B ≤ B1)
 (hlt : ∀ g, v.ownBlock = some g → g < B1) (hown : w'.ownsRow B 24 4 v' (ks.length + 1) (xs ++ cs))
 (hg : (w.alloc o).grownBy w' v.ownBlock) (hb : v'.ownBlock = v.ownBlock ∨ v'.ownBlock = some (w.heap.size + 1)) : Acc B w' v' (ks ++ [x]) := by
 have hn2 : RepV (FromBut B v.ownBlock) w x cs := by
  rcases e : v.ownBlock with _ | g
  ·exact RepV.keep (Nat.le_refl _) (fun b hv _ => ⟨rfl, Nat.le_trans hB1 hv, by simp⟩) _ _ hx
  ·exact hx.but hB1 (hlt g e)
 have hsz := hg.size
 have hal : (w.alloc o).heap.size = w.heap.size + 1 := by simp
 refine ⟨xs ++ cs, RepCs.keep (w := w) (V := FromBut B v.ownBlock) (by omega) (fun b hvb hlt => ⟨(hg.block b (by omega) hvb.2).trans (Below.heap_alloc w o b hlt), hvb.1, ?_⟩) _ _ (RepCs.snoc hn2 ks xs h1), by rw [List.length_append, List.length_singleton]; exact hown⟩
 rcases hb with hb | hb
 ·rw [hb]; exact hvb.2
 ·rw [hb]; intro e; injection e with e; omega
theorem PSt.push {C : PC} {w w1 w2 : World} {i k : Nat} {v : Value} {n : Nat} {xs : List Value} {e : TypeId} {s : Nat} {o : Obj} (h0 : PSt C w i) (h : PSt C w1 k) (hm : Mv C.p w w1) (ho : w1.ownsRow w.heap.size e s v n xs) (hg : (w1.alloc o).grownBy w2 v.ownBlock) : PSt C w2 k ∧ Mv C.p w w2 := by
 have hm2 := mv_push hm (Nat.le_refl _) ho hg
 refine ⟨h0.go hm2 ((h.blk.alloc o).grown hg (fun e' => ?_)) h.at_, hm2⟩
 have := (ho.lt _ e'.symm).1
 have := h0.lt
 omega
theorem list_any (C : PC) (f : FuncId) (m : Nat → Res Nd) (many : Bool) (hcf : Runs f) (hf : POk C f m) (w : World) (i : Nat) (h : PSt C w i) (hwet : listM C.L m many i ≠ .dry) :
 Calls Tryz.prog 30 #[.pointer (some ⟨C.p, 0, none⟩), .func (.func f) #[.pointer (some ⟨C.p, 0, none⟩)] #[], .bool many] w (ListOut C w (listM C.L m many i)) := by
 obtain ⟨i0, hi0, hz0, hz1, hz2⟩ := info_parts info_nodes
 have hlw := h.lt
 have hlen := h.len
 have ND := Lib.hid (need_any C w i ⟨#[40]⟩ h)
 have HF := Lib.hid hf
 have H0 := Lib.hid h
 have hcf' := fun args w => hcf args w
 unfold Runs at hcf
 clear h hf hcf'
 unfold listM at hwet ⊢
 unfold needM at ND hwet ⊢
 rcases hb : tIs C.L ⟨#[40]⟩ i with _ | _
 ·rw [hb] at ND
  rw [if_neg (by simp)] at ND ⊢
  unfold ListOut NeedOut badE at *
  simp only [Res.bind_bad] at *
  generalize posAt C i = P at *
  go_enter Tryz.func30, Tryz.ntmps30
  go_wp2_with fail
  refine ND.out.mono ?_
  rintro e w1 ⟨rfl, m1⟩
  have M1 := Lib.hid m1
  clear m1
  go_wp2
  exact ⟨rfl, rfl, M1.out⟩
 ·rw [hb] at ND hwet
  rw [if_pos rfl] at ND hwet ⊢
  simp only [Res.bind_ok] at hwet ⊢
  unfold NeedOut at ND
  simp only at ND
  obtain ⟨R, HR⟩ : ∃ R, Hid (itemsM C.L m many (C.L.length + 1) [] (i + 1) = R) := ⟨_, rfl⟩
  rw [HR.out] at hwet ⊢
  have HW := Lib.hid hwet
  clear hwet hb
  go_enter Tryz.func30, Tryz.ntmps30
  go_wp2_with fail
  refine ND.out.mono ?_
  rintro e w1 ⟨rfl, h1, m1⟩
  have H1 := Lib.hid h1
  have M1 := Lib.hid m1
  clear h1 m1
  go_wp2_with fail
  go_loopg [6, 7] (C.L.length + 1) (fun gk v d wr => ItemsRel C m many R w gk v d wr)
  case atStart => exact ⟨[], none, 0, i + 1, rfl, rfl, Lib.hid ⟨Acc.nil_ _ _, H1.out, M1.out, HR.out, by simp⟩⟩
  case round =>
   obtain ⟨ks, A, c, j, rfl, rfl, HX⟩ := hrel
   clear H1 M1 HR ND
   cases gk with
   | zero => exact absurd HX.out.2.2.2.1.symm HW.out
   | succ g =>
   obtain ⟨hacc, hst, hmv, hR, hcnt⟩ := HX.out
   rw [itemsM] at hR
   have IS := Lib.hid (is_one C wr j ⟨#[41]⟩ hst)
   have ND2 := Lib.hid (fun (W : World) (k : Nat) (hW : PSt C W k) => need_any C W k ⟨#[41]⟩ hW)
   have HV := Lib.hid (fun (W : World) (k : Nat) (s : ByteArray) (hW : PSt C W k) => have_any C W k s hW)
   have HA := Lib.hid hacc
   have HST := Lib.hid hst
   have HMV := Lib.hid hmv
   have HCN := Lib.hid hcnt
   clear HX hacc hst hmv hcnt
   have hnl : ks.length ≤ 4001 := by have := HCN.out; omega
   by_cases hA : ks = [] ∧ tIs C.L ⟨#[41]⟩ j = true
   ·rw [if_pos hA] at hR
    obtain ⟨rfl, hp⟩ := hA
    rw [hp] at IS
    have HRR := Lib.hid hR
    have HP := Lib.hid hp
    clear hR hp
    go_wp2_with fail
    refine IS.out.mono ?_
    rintro e w2 ⟨rfl, hb2⟩
    have HA2 := Lib.hid (HA.out.below hb2)
    have H2 := Lib.hid (HST.out.below hb2)
    have M2 := Lib.hid (HMV.out.below_ hb2)
    clear hb2
    go_wp2_with fail
    refine (ND2.out _ _ H2.out).mono ?_
    rintro e w3 hN
    unfold NeedOut needM at hN
    rw [HP.out, if_pos rfl] at hN
    obtain ⟨rfl, h3, m3⟩ := hN
    have HA3 := Lib.hid (HA2.out.mv m3 hlw)
    have H3 := Lib.hid h3
    have M3 := Lib.hid (M2.out.trans_ m3)
    clear h3 m3
    go_wp2
    refine bodyPost_ret (v := .tuple #[.slice A 0 c, .bool false]) (by simp [results, Tryz.results30, go_sem]) rfl ?_
    show ListOut C w R _ _
    rw [← HRR.out]
    exact ⟨A, c, rfl, HA3.out, H3.out, M3.out⟩
   ·rw [if_neg hA] at hR
    have HE : (tIs C.L ⟨#[41]⟩ j = false) ∨ (tIs C.L ⟨#[41]⟩ j = true ∧ decide ((0 : Int) < (ks.length : Int)) = true ∧ (0 : Int) < (ks.length : Int)) := by
     rcases hp : tIs C.L ⟨#[41]⟩ j with _ | _
     ·exact .inl rfl
     ·refine .inr ⟨rfl, ?_⟩
      have : 0 < ks.length := by
       rcases ks with _ | ⟨a, l⟩
       ·exact absurd ⟨rfl, hp⟩ hA
       ·simp
      have h2 : (0 : Int) < (ks.length : Int) := by omega
      exact ⟨by rw [decide_eq_true_eq]; exact h2, h2⟩
    clear hA
    cases many
    ·rw [if_neg (by simp)] at hR
     have HMW : Hid (m j ≠ .dry) := by
      show _ ≠ _
      intro e
      rw [e] at hR
      exact HW.out hR.symm
     rcases HE with hp | ⟨hp, hk1, hk2⟩
     all_goals
      rw [hp] at IS
      clear hp
      go_wp2_with fail
      refine IS.out.mono ?_
      rintro e w2 ⟨rfl, hb2⟩
      have HA2 := Lib.hid (HA.out.below hb2)
      have H2 := Lib.hid (HST.out.below hb2)
      have M2 := Lib.hid (HMV.out.below_ hb2)
      clear hb2
      go_wp2_with fail
      refine (HF.out _ j H2.out HMW.out).mono ?_
      rcases hm : m j with ⟨x, k⟩ | k | _
      ·rintro e w4 ⟨A4, c4, rfl, hrep, h4, m4⟩
       rw [hm] at hR
       simp only [Res.bind_ok] at hR
       have HRR := Lib.hid hR
       obtain ⟨xs, hcs, ho⟩ := HA2.out.mv m4 hlw
       have HCS := Lib.hid hcs
       have H4 := Lib.hid h4
       have M4 := Lib.hid (M2.out.trans_ m4)
       have HREP := Lib.hid hrep
       have hs4 := m4.size
       have hs5 := M2.out.size
       have HLT : Hid (∀ g, (Value.slice A ks.length c).ownBlock = some g → g < w2.heap.size) := by
        obtain ⟨ys, _, hoy⟩ := HA2.out
        exact fun g e => (hoy.lt g e).2
       have HO := Lib.hid ho
       clear hR h4 m4 hrep hm hcs
       obtain ⟨xk, xt, xn, xl⟩ := x
       simp only [Nd.k, Nd.t, Nd.num, Nd.kids] at HREP ⊢
       go_wp2_with (at_builtin; refine wpList_append_own_at _ rfl _ _ 22 rfl w.heap.size 24 i0 (.agg #[.int .i64 0, .string ⟨#[]⟩, .int .i64 0, .slice none 0 0]) 4 56 Tryz.underlying22 hi0 hz0 hz1 hz2 rfl (by decide) _ _ _ rfl (HO.out.alloc _) ⟨w4.heap.size, 0, none⟩ 1 1 [.int .i64 xk, .string xt, .int .i64 xn, .slice A4 xl.length c4] rfl rfl ?c1 ?c2 ?c3 ?c4 ?c5 ?_)
       case c1 => exact World.news_of_block (cs := #[.int .i64 xk, .string xt, .int .i64 xn, .slice A4 xl.length c4]) (t := 24) (fr := (0, 0)) (heap_new rfl)
       case c2 => simp [Value.oneCell']
       case c3 => unfold maxLen; omega
       case c4 => omega
       case c5 => simp; omega
       intro v5 w5 hown5 hg5 _ hob5
       have HP5 := Lib.hid (PSt.push H0.out H4.out M4.out HO.out hg5)
       have hacc5 := acc_push HCS.out HREP.out hs5 HLT.out hown5 hg5 (by simpa using hob5)
       obtain ⟨A5, c5, rfl, -⟩ := Row.of_own hown5
       have HA5 := Lib.hid hacc5
       clear hown5 hg5 hob5 hacc5 HO ho HCS
       rcases hcm : tIs C.L ⟨#[44]⟩ k with _ | _
       ·have HVV := Lib.hid (HV.out _ k ⟨#[44]⟩ HP5.out.1)
        rw [hcm] at HVV
        have hR := HRR.out
        rw [hcm, if_neg (by simp)] at hR
        clear hcm HRR
        go_wp2_with fail
        refine HVV.out.mono ?_
        rintro e w6 ⟨rfl, h6, m6⟩
        have HA6 := Lib.hid (HA5.out.mv m6 hlw)
        have H6 := Lib.hid (show PSt C w6 k by simpa using h6)
        have M6 := Lib.hid (HP5.out.2.trans_ m6)
        clear h6 m6 HVV
        go_wp2_with fail
        refine (ND2.out _ _ H6.out).mono ?_
        rintro e w7 hN
        unfold NeedOut needM at hN
        unfold needM at hR
        rcases hq : tIs C.L ⟨#[41]⟩ k with _ | _
        ·rw [hq, if_neg (by simp)] at hN hR
         obtain ⟨he, m7⟩ := hN
         unfold badE at he
         subst he
         have HRR := Lib.hid hR
         have M7 := Lib.hid (M6.out.trans_ m7)
         clear hR m7 hq
         go_wp2
         refine ⟨rfl, ?_⟩
         show ListOut C w R _ _
         rw [← HRR.out]
         exact ⟨rfl, M7.out⟩
        ·rw [hq, if_pos rfl] at hN hR
         obtain ⟨rfl, h7, m7⟩ := hN
         have HRR := Lib.hid hR
         have HA7 := Lib.hid (HA6.out.mv m7 hlw)
         have M7 := Lib.hid (M6.out.trans_ m7)
         have H7 := Lib.hid h7
         clear hR m7 h7 hq
         go_wp2
         refine bodyPost_ret (v := .tuple #[.slice A5 (ks.length + 1) c5, .bool false]) (by simp [results, Tryz.results30, go_sem]) rfl ?_
         show ListOut C w R _ _
         rw [← HRR.out]
         exact ⟨A5, c5, by simp, by simpa using HA7.out, H7.out, M7.out⟩
       ·have HVV := Lib.hid (HV.out _ k ⟨#[44]⟩ HP5.out.1)
        rw [hcm] at HVV
        have hR := HRR.out
        rw [hcm, if_pos rfl] at hR
        have HR2 := Lib.hid hR
        clear hcm HRR hR
        go_wp2_with fail
        refine HVV.out.mono ?_
        rintro e w6 ⟨rfl, h6, m6⟩
        have HA6 := Lib.hid (HA5.out.mv m6 hlw)
        have H6 := Lib.hid (show PSt C w6 (k + 1) by simpa using h6)
        have M6 := Lib.hid (HP5.out.2.trans_ m6)
        clear h6 m6 HVV
        go_wp2_with fail
        go_roundg g
        case measure => omega
        case rel => exact ⟨ks ++ [.mk xk xt xn xl], A5, c5, k + 1, rfl, by simp, Lib.hid ⟨by rw [List.length_append, List.length_singleton]; exact HA6.out, H6.out, M6.out, HR2.out, by rw [List.length_append, List.length_singleton]; have := HCN.out; omega⟩⟩
      ·rintro e w4 ⟨he, m4⟩
       unfold badE at he
       subst he
       rw [hm] at hR
       have HRR := Lib.hid hR
       have M4 := Lib.hid (M2.out.trans_ m4)
       clear hR m4 hm
       go_wp2
       refine ⟨rfl, ?_⟩
       show ListOut C w R _ _
       rw [← HRR.out]
       exact ⟨rfl, M4.out⟩
      ·exact absurd hm HMW.out
    ·rcases hdd : tIs C.L ⟨#[46, 46, 46]⟩ j with _ | _
     ·rw [hdd, if_neg (by simp)] at hR
      have HMW : Hid (m j ≠ .dry) := by
       show _ ≠ _
       intro e
       rw [e] at hR
       exact HW.out hR.symm
      rcases HE with hp | ⟨hp, hk1, hk2⟩
      all_goals
       rw [hp] at IS
       clear hp
       go_wp2_with fail
       refine IS.out.mono ?_
       rintro e w2 ⟨rfl, hb2⟩
       have HA2 := Lib.hid (HA.out.below hb2)
       have H2 := Lib.hid (HST.out.below hb2)
       have M2 := Lib.hid (HMV.out.below_ hb2)
       clear hb2
       go_wp2_with fail
       have HVD := Lib.hid (HV.out _ j ⟨#[46, 46, 46]⟩ H2.out)
       rw [hdd] at HVD
       refine HVD.out.mono ?_
       rintro e w3 ⟨rfl, h3, m3⟩
       have HA3 := Lib.hid (HA2.out.mv m3 hlw)
       have H3 := Lib.hid (show PSt C w3 j by simpa using h3)
       have M3 := Lib.hid (M2.out.trans_ m3)
       clear h3 m3 HVD hdd
       go_wp2_with fail
       refine (HF.out _ j H3.out HMW.out).mono ?_
       rcases hm : m j with ⟨x, k⟩ | k | _
       ·rintro e w4 ⟨A4, c4, rfl, hrep, h4, m4⟩
        rw [hm] at hR
        simp only [Res.bind_ok] at hR
        have HRR := Lib.hid hR
        obtain ⟨xs, hcs, ho⟩ := HA3.out.mv m4 hlw
        have HCS := Lib.hid hcs
        have H4 := Lib.hid h4
        have M4 := Lib.hid (M3.out.trans_ m4)
        have HREP := Lib.hid hrep
        have hs4 := m4.size
        have hs5 := M3.out.size
        have HLT : Hid (∀ g, (Value.slice A ks.length c).ownBlock = some g → g < w3.heap.size) := by
         obtain ⟨ys, _, hoy⟩ := HA3.out
         exact fun g e => (hoy.lt g e).2
        have HO := Lib.hid ho
        clear hR h4 m4 hrep hm hcs
        obtain ⟨xk, xt, xn, xl⟩ := x
        simp only [Nd.k, Nd.t, Nd.num, Nd.kids] at HREP ⊢
        go_wp2_with (at_builtin; refine wpList_append_own_at _ rfl _ _ 22 rfl w.heap.size 24 i0 (.agg #[.int .i64 0, .string ⟨#[]⟩, .int .i64 0, .slice none 0 0]) 4 56 Tryz.underlying22 hi0 hz0 hz1 hz2 rfl (by decide) _ _ _ rfl (HO.out.alloc _) ⟨w4.heap.size, 0, none⟩ 1 1 [.int .i64 xk, .string xt, .int .i64 xn, .slice A4 xl.length c4] rfl rfl ?c1 ?c2 ?c3 ?c4 ?c5 ?_)
        case c1 => exact World.news_of_block (cs := #[.int .i64 xk, .string xt, .int .i64 xn, .slice A4 xl.length c4]) (t := 24) (fr := (0, 0)) (heap_new rfl)
        case c2 => simp [Value.oneCell']
        case c3 => unfold maxLen; omega
        case c4 => omega
        case c5 => simp; omega
        intro v5 w5 hown5 hg5 _ hob5
        have HP5 := Lib.hid (PSt.push H0.out H4.out M4.out HO.out hg5)
        have hacc5 := acc_push HCS.out HREP.out hs5 HLT.out hown5 hg5 (by simpa using hob5)
        obtain ⟨A5, c5, rfl, -⟩ := Row.of_own hown5
        have HA5 := Lib.hid hacc5
        clear hown5 hg5 hob5 hacc5 HO ho HCS
        rcases hcm : tIs C.L ⟨#[44]⟩ k with _ | _
        ·have HVV := Lib.hid (HV.out _ k ⟨#[44]⟩ HP5.out.1)
         rw [hcm] at HVV
         have hR := HRR.out
         rw [hcm, if_neg (by simp)] at hR
         clear hcm HRR
         go_wp2_with fail
         refine HVV.out.mono ?_
         rintro e w6 ⟨rfl, h6, m6⟩
         have HA6 := Lib.hid (HA5.out.mv m6 hlw)
         have H6 := Lib.hid (show PSt C w6 k by simpa using h6)
         have M6 := Lib.hid (HP5.out.2.trans_ m6)
         clear h6 m6 HVV
         go_wp2_with fail
         refine (ND2.out _ _ H6.out).mono ?_
         rintro e w7 hN
         unfold NeedOut needM at hN
         unfold needM at hR
         rcases hq : tIs C.L ⟨#[41]⟩ k with _ | _
         ·rw [hq, if_neg (by simp)] at hN hR
          obtain ⟨he, m7⟩ := hN
          unfold badE at he
          subst he
          have HRR := Lib.hid hR
          have M7 := Lib.hid (M6.out.trans_ m7)
          clear hR m7 hq
          go_wp2
          refine ⟨rfl, ?_⟩
          show ListOut C w R _ _
          rw [← HRR.out]
          exact ⟨rfl, M7.out⟩
         ·rw [hq, if_pos rfl] at hN hR
          obtain ⟨rfl, h7, m7⟩ := hN
          have HRR := Lib.hid hR
          have HA7 := Lib.hid (HA6.out.mv m7 hlw)
          have M7 := Lib.hid (M6.out.trans_ m7)
          have H7 := Lib.hid h7
          clear hR m7 h7 hq
          go_wp2
          refine bodyPost_ret (v := .tuple #[.slice A5 (ks.length + 1) c5, .bool false]) (by simp [results, Tryz.results30, go_sem]) rfl ?_
          show ListOut C w R _ _
          rw [← HRR.out]
          exact ⟨A5, c5, by simp, by simpa using HA7.out, H7.out, M7.out⟩
        ·have HVV := Lib.hid (HV.out _ k ⟨#[44]⟩ HP5.out.1)
         rw [hcm] at HVV
         have hR := HRR.out
         rw [hcm, if_pos rfl] at hR
         have HR2 := Lib.hid hR
         clear hcm HRR hR
         go_wp2_with fail
         refine HVV.out.mono ?_
         rintro e w6 ⟨rfl, h6, m6⟩
         have HA6 := Lib.hid (HA5.out.mv m6 hlw)
         have H6 := Lib.hid (show PSt C w6 (k + 1) by simpa using h6)
         have M6 := Lib.hid (HP5.out.2.trans_ m6)
         clear h6 m6 HVV
         go_wp2_with fail
         go_roundg g
         case measure => omega
         case rel => exact ⟨ks ++ [.mk xk xt xn xl], A5, c5, k + 1, rfl, by simp, Lib.hid ⟨by rw [List.length_append, List.length_singleton]; exact HA6.out, H6.out, M6.out, HR2.out, by rw [List.length_append, List.length_singleton]; have := HCN.out; omega⟩⟩
       ·rintro e w4 ⟨he, m4⟩
        unfold badE at he
        subst he
        rw [hm] at hR
        have HRR := Lib.hid hR
        have M4 := Lib.hid (M3.out.trans_ m4)
        clear hR m4 hm
        go_wp2
        refine ⟨rfl, ?_⟩
        show ListOut C w R _ _
        rw [← HRR.out]
        exact ⟨rfl, M4.out⟩
       ·exact absurd hm HMW.out
     ·rw [hdd, if_pos ⟨rfl, rfl⟩] at hR
      rcases HE with hp | ⟨hp, hk1, hk2⟩
      all_goals
       rw [hp] at IS
       clear hp
       go_wp2_with fail
       refine IS.out.mono ?_
       rintro e w2 ⟨rfl, hb2⟩
       have HA2 := Lib.hid (HA.out.below hb2)
       have H2 := Lib.hid (HST.out.below hb2)
       have M2 := Lib.hid (HMV.out.below_ hb2)
       clear hb2
       go_wp2_with fail
       have HVD := Lib.hid (HV.out _ j ⟨#[46, 46, 46]⟩ H2.out)
       rw [hdd] at HVD
       refine HVD.out.mono ?_
       rintro e w3 ⟨rfl, h3, m3⟩
       have HA3 := Lib.hid (HA2.out.mv m3 hlw)
       have H3 := Lib.hid (show PSt C w3 (j + 1) by simpa using h3)
       have M3 := Lib.hid (M2.out.trans_ m3)
       clear h3 m3 HVD hdd
       go_wp2_with fail
       refine (ND2.out _ _ H3.out).mono ?_
       rintro e w7 hN
       unfold NeedOut needM at hN
       unfold needM at hR
       rcases hq : tIs C.L ⟨#[41]⟩ (j + 1) with _ | _
       ·rw [hq, if_neg (by simp)] at hN hR
        obtain ⟨he, m7⟩ := hN
        unfold badE at he
        subst he
        have HRR := Lib.hid hR
        have M7 := Lib.hid (M3.out.trans_ m7)
        clear hR m7 hq
        go_wp2
        refine ⟨rfl, ?_⟩
        show ListOut C w R _ _
        rw [← HRR.out]
        exact ⟨rfl, M7.out⟩
       ·rw [hq, if_pos rfl] at hN hR
        obtain ⟨rfl, h7, m7⟩ := hN
        have HRR := Lib.hid hR
        have HA7 := Lib.hid (HA3.out.mv m7 hlw)
        have M7 := Lib.hid (M3.out.trans_ m7)
        have H7 := Lib.hid h7
        clear hR m7 h7 hq
        go_wp2
        refine bodyPost_ret (v := .tuple #[.slice A ks.length c, .bool true]) (by simp [results, Tryz.results30, go_sem]) rfl ?_
        show ListOut C w R _ _
        rw [← HRR.out]
        exact ⟨A, c, rfl, HA7.out, H7.out, M7.out⟩
end Go.Proofs.YtgegfbopogcjpaaGreatDoor
namespace Go.Proofs.YtgegfbopogcjpaaGreatDoor
open Go.RowKit
set_option linter.unusedVariables false
set_option linter.unusedSimpArgs false
set_option maxRecDepth 100000
set_option maxHeartbeats 1000000
theorem digits_all {s : ByteArray} (h : allDigits s = true) : s.data.toList.all digU = true := by
 exact h
theorem num_ok {k : Int} {s : ByteArray} (h : TokOk k s) (hk : k = 2 ∨ k = 3) : s.size ≤ 1000 ∧ Lib.parseIntB 64 s.data.toList = .ok (valT s) ∧ I64 (valT s) ∧ 0 ≤ valT s := by
 have hn : 1 ≤ s.size ∧ allDigits s = true ∧ ¬(1 < s.size ∧ byteI s 0 = 48) ∧ ¬ numMost (k == 3) < decL s.data.toList := by
  rcases h with h | h | h
  ·omega
  ·exact h.2
  ·omega
 obtain ⟨h1, h2, h3, h4⟩ := hn
 have hall := digits_all h2
 have hlen : s.data.toList.length = s.size := Array.length_toList
 have hne : s.data.toList ≠ [] := by intro e; rw [e] at hlen; simp at hlen; omega
 have hmost : decL s.data.toList ≤ 9223372036854775807 := by
  have : numMost (k == 3) ≤ 9223372036854775807 := by unfold numMost; split <;> omega
  omega
 refine ⟨?_, ?_, ?_, ?_⟩
 ·refine Classical.byContradiction fun hbig => ?_
  have := more_digits s.data.toList (mostText true) (by rw [hlen]; unfold mostText; simp; omega) hall (mostText_ok true).2.1 (fun hl e => h3 ⟨by omega, ?_⟩) (by unfold mostText; simp)
  ·rw [(mostText_ok true).1, ← decL_eq] at this
   unfold numMost at this
   simp only [if_true] at this
   omega
  ·rw [byteI_at (by omega)]
   rw [List.head?_eq_getElem?, List.getElem?_eq_getElem (by omega)] at e
   injection e with e
   show ((s.data.toList[0] : UInt8).toNat : Int) = 48
   rw [e]
   rfl
 ·exact (parse_digits 64 (.inr rfl) _ hne hall).1 (by omega)
 ·unfold I64 valT; omega
 ·unfold valT; omega
theorem tok_bad {C : PC} {i : Nat} (h : ∀ t, C.L[i]? = some t → t.k ≠ 2 ∧ t.k ≠ 3) : numM C.L i = .bad i ∧ ∃ a b, tokV C i = #[.int .i64 a, .string b, .int .i64 (posAt C i)] ∧ a ≠ 2 ∧ a ≠ 3 := by
 unfold numM tokV posAt
 rcases hL : C.L[i]? with _ | t
 ·exact ⟨rfl, 0, ⟨#[]⟩, rfl, by omega, by omega⟩
 ·obtain ⟨h1, h2⟩ := h t hL
  exact ⟨by simp only; rw [if_neg h1, if_neg h2], t.k, t.s, rfl, h1, h2⟩
end Go.Proofs.YtgegfbopogcjpaaGreatDoor
namespace Go.Proofs.YtgegfbopogcjpaaGreatDoor
open Go.RowKit
set_option linter.unusedVariables false
set_option linter.unusedSimpArgs false
set_option maxRecDepth 100000
set_option maxHeartbeats 1000000
theorem PSt.fam {C : PC} {w : World} {i0 : Nat} (h0 : PSt C w i0) (j : Nat) (W W' : World) (h : PSt C W j) (hs : W.heap.size ≤ W'.heap.size) (hk : ∀ b, b < w.heap.size → W'.heap[b]? = W.heap[b]?) : PSt C W' j := by
 refine ⟨(hk C.p h0.lt).trans h.blk, ?_, h.ne, ?_, h.len, h.iE, h.at_, h.ok⟩
 ·rcases h0.row with h1 | ⟨b, o, hA, hlt, hc⟩
  ·exact .inl h1
  ·rcases h.row with h2 | ⟨b2, o2, hA2, hlt2, hc2⟩
   ·exact .inl h2
   ·rw [hA] at hA2
    injection hA2 with e
    injection e with e1 e2
    subst e1 e2
    exact .inr ⟨b, o, hA, Nat.lt_of_lt_of_le hlt2 hs, fun j v hj => (World.cell?_of_block (a := ⟨b, o + j, none⟩) (hk b hlt)).trans (hc2 j v hj)⟩
 ·obtain ⟨m, hm⟩ := h0.ml
  obtain ⟨m2, hm2⟩ := h.ml
  exact ⟨m2, (World.cell?_of_block (hk _ (World.block_lt_of_cell? w _ hm))).trans hm2⟩
abbrev SP (C : PC) (w W : World) (i : Nat) (l : List Rc) : Prop := St (fun j W => PSt C W j) C.p (fun b => b < w.heap.size) w W i l
section
variable {C : PC} {w W : World} {i : Nat} {l : List Rc}
theorem PSt.st (h : PSt C w i) : SP C w w i [] := St.init h h.lt h.fam
abbrev badP (C : PC) (i : Nat) : Ending := .panicked [{ v := .iface 39 (.agg #[.int .i64 (posAt C i)]), recovered := false }]
theorem ifN {α : Type} {c : Bool} {A B R : α} (h : (if c = true then A else B) = R) (hc : c = false) : Hid (B = R) := by rw [hc, if_neg (by simp)] at h; exact h
theorem ifY {α : Type} {c : Bool} {A B R : α} (h : (if c = true then A else B) = R) (hc : c = true) : Hid (A = R) := by rw [hc, if_pos rfl] at h; exact h
theorem bindO {α β : Type} {r : Res α} {f : α → Nat → Res β} {R : Res β} {x : α} {j : Nat} (h : r.bind f = R) (e : r = .ok x j) : Hid (f x j = R) := by rw [e] at h; exact h
theorem bindB {α β : Type} {r : Res α} {f : α → Nat → Res β} {R : Res β} {j : Nat} (h : r.bind f = R) (e : r = .bad j) : Res.bad j = R := by rw [e] at h; exact h
theorem bindW {α β : Type} {r : Res α} {f : α → Nat → Res β} {R : Res β} (h : r.bind f = R) (hR : R ≠ .dry) : r ≠ .dry := fun e => hR (by rw [← h, e]; rfl)
theorem haveN (h : SP C w W i l) {s : ByteArray} (ht : tIs C.L s i = false) : Calls Tryz.prog 24 #[.pointer (some ⟨C.p, 0, none⟩), .string s] W fun e W' => e = .returned (.bool false) ∧ Hid (SP C w W' i l) := by
 refine (have_any C W i s h.z).mono ?_
 rw [ht]
 rintro e W' ⟨rfl, h', m⟩
 exact ⟨rfl, h.to m (by simpa using h')⟩
theorem haveY (h : SP C w W i l) {s : ByteArray} (ht : tIs C.L s i = true) : Calls Tryz.prog 24 #[.pointer (some ⟨C.p, 0, none⟩), .string s] W fun e W' => e = .returned (.bool true) ∧ Hid (SP C w W' (i + 1) l) := by
 refine (have_any C W i s h.z).mono ?_
 rw [ht]
 rintro e W' ⟨rfl, h', m⟩
 exact ⟨rfl, h.to m (by simpa using h')⟩
theorem isq (h : SP C w W i l) {s : ByteArray} {b : Bool} (ht : tIs C.L s i = b) : Calls Tryz.prog 28 #[.pointer (some ⟨C.p, 0, none⟩), .slice (some ⟨W.heap.size, 0, none⟩) 1 1] (W.alloc (.cells #[.string s] 9)) fun e W' => e = .returned (.bool b) ∧ Hid (SP C w W' i l) := by
 refine (is_one C W i s h.z).mono ?_
 rw [ht]
 rintro e W' ⟨rfl, hb⟩
 exact ⟨rfl, h.below hb⟩
theorem needq (h : SP C w W i l) (s : ByteArray) : Calls Tryz.prog 27 #[.pointer (some ⟨C.p, 0, none⟩), .string s] W fun e W' => (needM C.L s i = .bad i ∧ e = badP C i ∧ Mv C.p w W') ∨ (needM C.L s i = .ok () (i + 1) ∧ e = .returned (.tuple #[]) ∧ Hid (SP C w W' (i + 1) l)) := by
 refine (need_any C W i s h.z).mono ?_
 unfold needM
 rcases tIs C.L s i with _ | _
 ·rintro e W' ⟨rfl, m⟩
  exact .inl ⟨rfl, rfl, h.mv.trans_ m⟩
 ·rintro e W' ⟨rfl, h', m⟩
  exact .inr ⟨rfl, rfl, h.to m h'⟩
theorem nameq (h : SP C w W i l) : Calls Tryz.prog 26 #[.pointer (some ⟨C.p, 0, none⟩)] W fun e W' => (nameM C.L i = .bad i ∧ e = badP C i ∧ Mv C.p w W') ∨ (∃ t, nameM C.L i = .ok t (i + 1) ∧ t.size ≤ maxLen ∧ e = .returned (.string t) ∧ Hid (SP C w W' (i + 1) l)) := by
 have hsz := fun h => tNm_size (C := C) (i := i) h
 refine (name_any C W i h.z).mono ?_
 unfold nameM
 rcases ht : tNm C.L i with _ | _
 ·rintro e W' ⟨rfl, m⟩
  exact .inl ⟨rfl, rfl, h.mv.trans_ m⟩
 ·rintro e W' ⟨rfl, h', m⟩
  exact .inr ⟨_, rfl, hsz ht, rfl, h.to m h'⟩
theorem namedq (h : SP C w W i l) (k : Nat) (hk : k ≤ 1) {b : Bool} (ht : tNm C.L (i + k) = b) : Calls Tryz.prog 70 #[.pointer (some ⟨C.p, 0, none⟩), .int .i64 (k : Int)] W fun e W' => e = .returned (.bool b) ∧ Hid (SP C w W' i l) := by
 refine (named_any C W i k h.z hk).mono ?_
 rw [ht]
 rintro e W' ⟨rfl, hb⟩
 exact ⟨rfl, h.below hb⟩
theorem subq {G : Nat → Prop} {f : FuncId} {m : Nat → Res Nd} (hf : POk C f m) (h : St (fun j W => PSt C W j) C.p G w W i l) (hw : m i ≠ .dry) : Calls Tryz.prog f #[.pointer (some ⟨C.p, 0, none⟩)] W fun e W' => (∃ k, m i = .bad k ∧ e = badP C k ∧ Mv C.p w W') ∨ (∃ x j A c V, m i = .ok x j ∧ e = .returned (.agg #[.int .i64 x.k, .string x.t, .int .i64 x.num, .slice A x.kids.length c]) ∧ Hid (St (fun j W => PSt C W j) C.p G w W' j (nd V x A c :: l))) := by
 refine (hf W i h.z hw).mono ?_
 rcases hm : m i with ⟨x, j⟩ | k | _
 ·rintro e W' ⟨A, c, rfl, hr, h', m'⟩
  refine .inr ⟨x, j, A, c, fun b => W.heap.size ≤ b ∧ b < W'.heap.size, rfl, rfl, h.add (h.to m' h') (RepV.keep (Nat.le_refl _) (fun b hv hlt => ⟨rfl, hv, hlt⟩) _ _ hr) fun b hb => hb⟩
 ·rintro e W' ⟨rfl, m'⟩
  exact .inl ⟨k, rfl, rfl, h.mv.trans_ m'⟩
 ·exact absurd hm hw
theorem nodeq (h : SP C w W i l) (k : Int) (t : ByteArray) (A : Option Addr) (n c : Nat) : Calls Tryz.prog 25 #[.int .i64 k, .string t, .slice A n c] W fun e W' => e = .returned (.agg #[.int .i64 k, .string t, .int .i64 0, .slice A n c]) ∧ Hid (SP C w W' i l) := by
 refine (node_any k t A n c W).mono ?_
 rintro e W' ⟨rfl, hb⟩
 exact ⟨rfl, h.below hb⟩
theorem listq {f : FuncId} {m : Nat → Res Nd} {many : Bool} (hcf : Runs f) (hf : POk C f m) (h : SP C w W i l) (hw : listM C.L m many i ≠ .dry) :
 Calls Tryz.prog 30 #[.pointer (some ⟨C.p, 0, none⟩), .func (.func f) #[.pointer (some ⟨C.p, 0, none⟩)] #[], .bool many] W fun e W' => (∃ k, listM C.L m many i = .bad k ∧ e = badP C k ∧ Mv C.p w W') ∨ (∃ ks d j A c V, listM C.L m many i = .ok (ks, d) j ∧ ks.length ≤ 4001 ∧ e = .returned (.tuple #[.slice A ks.length c, .bool d]) ∧ Hid (SP C w W' j (rw_ w.heap.size V ks A c :: l))) := by
 have hl := h.z.len
 refine (list_any C f m many hcf hf W i h.z hw).mono ?_
 rcases hm : listM C.L m many i with ⟨⟨ks, d⟩, j⟩ | k | _
 ·rintro e W' ⟨A, c, rfl, hr, h', m'⟩
  have hn : ks.length ≤ 4001 := by have := list_len hm; simp only at this; omega
  refine .inr ⟨ks, d, j, A, c, fun b => W.heap.size ≤ b ∧ b < W'.heap.size, rfl, hn, rfl, h.add (h.to m' h') ?_ fun b hb => hb⟩
  obtain ⟨xs, h1, ho⟩ := hr
  refine ⟨xs, RepCs.keep (Nat.le_refl _) (fun b hv hlt => ⟨rfl, ⟨hv.1, hlt⟩, hv.2⟩) _ _ h1, fun g e => ho.lt g e, ho.1, ?_⟩
  rcases ho.2 with h3 | ⟨g, cap, cur, e, h4, h5⟩
  ·exact .inl h3
  ·exact .inr ⟨g, cap, cur, e, Nat.le_trans h.mv.size h4, h5⟩
 ·rintro e W' ⟨rfl, m'⟩
  exact .inl ⟨k, rfl, rfl, h.mv.trans_ m'⟩
 ·exact absurd hm hw
theorem num_pos (h : SP C w W i l) {j o : Nat} {x : Nd} (e : numM C.L j = .ok x o) : 0 ≤ x.num ∧ I64 x.num := by
 unfold numM at e
 rcases hL : C.L[j]? with _ | t
 ·rw [hL] at e; cases e
 ·have hok := h.z.ok t (List.mem_of_getElem? hL)
  rw [hL] at e
  simp only at e
  split at e
  ·rename_i hk
   injection e with e
   subst e
   exact ⟨(num_ok hok (.inl hk)).2.2.2, (num_ok hok (.inl hk)).2.2.1⟩
  ·split at e
   ·rename_i hk
    injection e with e
    subst e
    exact ⟨(num_ok hok (.inr hk)).2.2.2, (num_ok hok (.inr hk)).2.2.1⟩
   ·cases e
theorem badO {R : Res Nd} {k : Nat} {W' : World} (h : Res.bad k = R) (m : Mv C.p w W') : NodeOut C w R (badP C k) W' := by
 rw [← h]
 exact ⟨rfl, m⟩
theorem finO {R : Res Nd} {r0 : Nat} {a0 a1 a2 a3 : Value} {nk nn : Int} {nt : ByteArray} {nl : List Nd} {A : Option Addr} {c : Nat} {V : Nat → Prop} (h : SP C w W i (nd V (.mk nk nt nn nl) A c :: bx r0 24 #[a0, a1, a2, a3] :: l)) (hR : Hid (Res.ok (.mk nk nt nn nl) i = R)) :
 Blk ((((W.setCell ⟨r0, 0, none⟩ (.int .i64 nk)).setCell ⟨r0, 1, none⟩ (.string nt)).setCell ⟨r0, 2, none⟩ (.int .i64 nn)).setCell ⟨r0, 3, none⟩ (.slice A nl.length c)) r0 24 #[.int .i64 nk, .string nt, .int .i64 nn, .slice A nl.length c] ∧
 NodeOut C w R (.returned (.agg #[.int .i64 nk, .string nt, .int .i64 nn, .slice A nl.length c])) ((((W.setCell ⟨r0, 0, none⟩ (.int .i64 nk)).setCell ⟨r0, 1, none⟩ (.string nt)).setCell ⟨r0, 2, none⟩ (.int .i64 nn)).setCell ⟨r0, 3, none⟩ (.slice A nl.length c)) := by
 have h' := h.f1.put4 (.int .i64 nk) (.string nt) (.int .i64 nn) (.slice A nl.length c)
 refine ⟨h'.one, ?_⟩
 rw [← hR.out]
 exact ⟨A, c, rfl, RepV.keep (Nat.le_refl _) (fun b hv _ => ⟨rfl, (h'.inn _ (.tail _ (.head _)) b hv).1⟩) _ _ h'.f1.one, h'.z, h'.mv⟩
theorem finP {R : Res Nd} {r0 : Nat} {nk nn : Int} {nt : ByteArray} {nl : List Nd} {A : Option Addr} {c m : Nat} {V : Nat → Prop} (h : SP C w W i (nd V (.mk nk nt nn nl) A c :: bx r0 24 #[.int .i64 nk, .string nt, .int .i64 nn, .slice A m c] :: l)) (hm : nl.length = m) (hR : Hid (Res.ok (.mk nk nt nn nl) i = R)) :
 Blk W r0 24 #[.int .i64 nk, .string nt, .int .i64 nn, .slice A m c] ∧ NodeOut C w R (.returned (.agg #[.int .i64 nk, .string nt, .int .i64 nn, .slice A m c])) W := by
 refine ⟨h.f1.one, ?_⟩
 subst hm
 rw [← hR.out]
 exact ⟨A, c, rfl, RepV.keep (Nat.le_refl _) (fun b hv _ => ⟨rfl, (h.inn _ (.head _) b hv).1⟩) _ _ h.one, h.z, h.mv⟩
theorem haveG (h : SP C w W i l) (s : ByteArray) : Calls Tryz.prog 24 #[.pointer (some ⟨C.p, 0, none⟩), .string s] W fun e W' => e = .returned (.bool (tIs C.L s i)) ∧ Hid (SP C w W' (if tIs C.L s i = true then i + 1 else i) l) := by
 refine (have_any C W i s h.z).mono ?_
 rintro e W' ⟨rfl, h', m⟩
 exact ⟨rfl, h.to m h'⟩
theorem Blk.all4 {W : World} {b : Nat} {T : TypeId} {a0 a1 a2 a3 : Value} (k : Blk W b T #[a0, a1, a2, a3]) : W.frozen? ⟨b, 0, none⟩ = false ∧ W.frozen? ⟨b, 1, none⟩ = false ∧ W.frozen? ⟨b, 2, none⟩ = false ∧ W.frozen? ⟨b, 3, none⟩ = false ∧ W.cell? ⟨b, 0, none⟩ = some a0 ∧ W.cell? ⟨b, 1, none⟩ = some a1 ∧ W.cell? ⟨b, 2, none⟩ = some a2 ∧ W.cell? ⟨b, 3, none⟩ = some a3 :=
 ⟨k.free 0, k.free 1, k.free 2, k.free 3, k.cell 0 _ rfl, k.cell 1 _ rfl, k.cell 2 _ rfl, k.cell 3 _ rfl⟩
end
end Go.Proofs.YtgegfbopogcjpaaGreatDoor
