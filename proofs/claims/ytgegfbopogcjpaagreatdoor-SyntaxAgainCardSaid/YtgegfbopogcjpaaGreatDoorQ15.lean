/- The parser's memory: its block, the tokens, trees that are new, a row of kids that grows; Trees that are new: in blocks of which something is known; a row of kids that grows; The parser's small functions: peek, fail; The parser's small functions: fail, is, have, need, named, name, flag; The parser's small functions: have, need, named, name, flag, node; The parser's small functions: named, name, flag, node. -/
import Derived.Test.YtgegfbopogcjpaaGreatDoorQ01
import Derived.Test.YtgegfbopogcjpaaGreatDoorQ02
import Derived.Maps.AppendAt
import Derived.Lib.Hide
import Derived.IntWalk
import Derived.Deep.LoopGhost
import Derived.Deep.RegionHeld
import Derived.Deep.RegionHeld3
namespace Go.Proofs.YtgegfbopogcjpaaGreatDoor
open Go.RowKit
set_option linter.unusedVariables false
set_option linter.unusedSimpArgs false
set_option maxRecDepth 100000
set_option maxHeartbeats 1000000
def tkV (t : Tok) : List Value := [.int .i64 t.k, .string t.s, .int .i64 (t.p : Int)]
structure PC where
 p : Nat
 A : Option Addr
 c : Nat
 L : List Tok
 E : Nat
def Mv (p : Nat) (w w' : World) : Prop := w.grownBy w' (some p)
theorem Mv.refl_ (p : Nat) (w : World) : Mv p w w := ⟨rfl, rfl, rfl, Nat.le_refl _, fun _ _ _ => rfl⟩
theorem Mv.trans_ {p : Nat} {a b c : World} (h : Mv p a b) (k : Mv p b c) : Mv p a c := World.grownBy.trans h k
theorem mv_below {p : Nat} {w w' : World} (h : Below w.heap.size w w') : Mv p w w' := ⟨h.os, h.tape, h.output, h.size, fun k hk _ => h.block k hk⟩
theorem Mv.below_ {p : Nat} {a b c : World} (h : Mv p a b) (k : Below b.heap.size b c) : Mv p a c := h.trans_ (mv_below k)
theorem Mv.cell_ {p b o : Nat} {w w' : World} (h : Mv p w w') (hb : b < w.heap.size) (hp : b ≠ p) : w'.cell? ⟨b, o, none⟩ = w.cell? ⟨b, o, none⟩ :=
 World.cell?_of_block (a := ⟨b, o, none⟩) (h.block b hb (by simpa using hp))
theorem Mv.blk {p b : Nat} {w w' : World} {t : TypeId} {cs : Array Value} (h : Mv p w w') (k : Blk w b t cs) (hp : b ≠ p) : Blk w' b t cs := k.grown h (by simpa using hp)
def posAt (C : PC) (i : Nat) : Int := match C.L[i]? with
 | some t => (t.p : Int)
 | none => (C.E : Int)
structure PSt (C : PC) (w : World) (i : Nat) : Prop where
 blk : Blk w C.p 42 #[.slice C.A C.L.length C.c, .int .i64 (i : Int), .int .i64 (C.E : Int)]
 row : Row w C.A (C.L.flatMap tkV)
 ne : C.L ≠ [] → ∀ b o, C.A = some ⟨b, o, none⟩ → b ≠ C.p
 ml : ML w
 len : C.L.length ≤ 4000
 iE : C.E ≤ 4000
 at_ : i ≤ C.L.length
 ok : ∀ t ∈ C.L, TokOk t.k t.s
theorem PSt.lt {C : PC} {w : World} {i : Nat} (h : PSt C w i) : C.p < w.heap.size := h.blk.lt
theorem Row.grown_ {w w' : World} {p : Nat} {A : Option Addr} {cs : List Value} (h : Row w A cs) (hg : Mv p w w') (hne : cs ≠ [] → ∀ b o, A = some ⟨b, o, none⟩ → b ≠ p) : Row w' A cs := by
 by_cases h0 : cs = []
 ·exact .inl h0
 ·rcases h with h | ⟨b, o, hA, hlt, hc⟩
  ·exact absurd h h0
  ·exact .inr ⟨b, o, hA, Nat.lt_of_lt_of_le hlt hg.size, fun j v hj => (hg.cell_ hlt (hne h0 b o hA)).trans (hc j v hj)⟩
theorem tk_ne {L : List Tok} (h : L.flatMap tkV ≠ []) : L ≠ [] := fun e => h (by rw [e]; rfl)
theorem ml_ne {w : World} {p : Nat} {t : TypeId} {A : Option Addr} {n c : Nat} {r : Array Value} {cs : Array Value} (h : Blk w p t cs) (h0 : cs[0]? = some (.slice A n c)) (hm : ML w) : ∀ w', Mv p w w' → ML w' := by
 intro w' hg
 obtain ⟨m, hm⟩ := hm
 refine ⟨m, ?_⟩
 have hlt := World.block_lt_of_cell? w _ hm
 refine (hg.cell_ hlt ?_).trans hm
 intro e
 have := h.cell 0 _ h0
 rw [← e] at this
 rw [this] at hm
 cases hm
theorem PSt.go {C : PC} {w w' : World} {i j : Nat} (h : PSt C w i) (hg : Mv C.p w w') (k : Blk w' C.p 42 #[.slice C.A C.L.length C.c, .int .i64 (j : Int), .int .i64 (C.E : Int)]) (hj : j ≤ C.L.length) : PSt C w' j :=
 ⟨k, h.row.grown_ hg (fun e => h.ne (tk_ne e)), h.ne, ml_ne (r := #[]) h.blk rfl h.ml _ hg, h.len, h.iE, hj, h.ok⟩
theorem PSt.below {C : PC} {w w' : World} {i : Nat} (h : PSt C w i) (hb : Below w.heap.size w w') : PSt C w' i := h.go (mv_below hb) (h.blk.below hb) h.at_
theorem PSt.alloc {C : PC} {w : World} {i : Nat} (h : PSt C w i) (o : Obj) : PSt C (w.alloc o) i := h.below ((Below.refl _ _).alloc (Nat.le_refl _) o)
theorem PSt.move {C : PC} {w : World} {i : Nat} (h : PSt C w i) (j : Nat) (hj : j ≤ C.L.length) : PSt C (w.setCell ⟨C.p, 1, none⟩ (.int .i64 (j : Int))) j ∧ Mv C.p w (w.setCell ⟨C.p, 1, none⟩ (.int .i64 (j : Int))) := by
 have hk := h.blk.set_ 1 (.int .i64 (j : Int))
 have hg : Mv C.p w (w.setCell ⟨C.p, 1, none⟩ (.int .i64 (j : Int))) :=
  ⟨rfl, rfl, rfl, by simp [World.setCell], fun k _ hne => Below.heap_setCell _ _ _ _ (fun e => hne (by rw [e]))⟩
 exact ⟨h.go hg (by simpa using hk) hj, hg⟩
end Go.Proofs.YtgegfbopogcjpaaGreatDoor
namespace Go.Proofs.YtgegfbopogcjpaaGreatDoor
open Go.RowKit
set_option linter.unusedVariables false
set_option linter.unusedSimpArgs false
set_option maxRecDepth 100000
set_option maxHeartbeats 1000000
mutual
def RepV (V : Nat → Prop) (w : World) : Nd → List Value → Prop
 | .mk k t num kids, cs => ∃ A c, cs = [.int .i64 k, .string t, .int .i64 num, .slice A kids.length c] ∧ RepVL V w kids A ∧ kids.length ≤ c ∧ kids.length ≤ maxLen ∧ I64 num ∧ t.size ≤ maxLen
def RepVL (V : Nat → Prop) (w : World) : List Nd → Option Addr → Prop
 | [], _ => True
 | n :: ns, A => ∃ b o cs, A = some ⟨b, o, none⟩ ∧ V b ∧ b < w.heap.size ∧ (∀ j v, cs[j]? = some v → w.cell? ⟨b, o + j, none⟩ = some v) ∧ RepV V w n cs ∧ RepVL V w ns (some ⟨b, o + 4, none⟩)
end
mutual
theorem RepV.rep {V : Nat → Prop} {w : World} : ∀ (n : Nd) (cs : List Value), RepV V w n cs → RepN w n cs
 | .mk k t num kids, cs, h => by
  unfold RepV at h
  unfold RepN
  obtain ⟨A, c, rfl, h1, h2⟩ := h
  exact ⟨A, c, rfl, RepVL.rep kids A h1, h2⟩
theorem RepVL.rep {V : Nat → Prop} {w : World} : ∀ (ns : List Nd) (A : Option Addr), RepVL V w ns A → RepNL w ns A
 | [], _, _ => by unfold RepNL; trivial
 | n :: ns, A, h => by
  unfold RepVL at h
  unfold RepNL
  obtain ⟨b, o, cs, rfl, -, hlt, hc, h1, h2⟩ := h
  exact ⟨b, o, cs, rfl, hlt, hc, RepV.rep n cs h1, RepVL.rep ns _ h2⟩
end
mutual
theorem RepV.keep {V V' : Nat → Prop} {w w' : World} (hs : w.heap.size ≤ w'.heap.size) (hk : ∀ b, V b → b < w.heap.size → w'.heap[b]? = w.heap[b]? ∧ V' b) : ∀ (n : Nd) (cs : List Value), RepV V w n cs → RepV V' w' n cs
 | .mk k t num kids, cs, h => by
  unfold RepV at h ⊢
  obtain ⟨A, c, rfl, h1, h2⟩ := h
  exact ⟨A, c, rfl, RepVL.keep hs hk kids A h1, h2⟩
theorem RepVL.keep {V V' : Nat → Prop} {w w' : World} (hs : w.heap.size ≤ w'.heap.size) (hk : ∀ b, V b → b < w.heap.size → w'.heap[b]? = w.heap[b]? ∧ V' b) : ∀ (ns : List Nd) (A : Option Addr), RepVL V w ns A → RepVL V' w' ns A
 | [], _, _ => by unfold RepVL; trivial
 | n :: ns, A, h => by
  unfold RepVL at h ⊢
  obtain ⟨b, o, cs, rfl, hv, hlt, hc, h1, h2⟩ := h
  exact ⟨b, o, cs, rfl, (hk b hv hlt).2, Nat.lt_of_lt_of_le hlt hs, fun j v hj => (World.cell?_of_block (a := ⟨b, o + j, none⟩) (hk b hv hlt).1).trans (hc j v hj), RepV.keep hs hk n cs h1, RepVL.keep hs hk ns _ h2⟩
end
theorem RepV.four {V : Nat → Prop} {w : World} {n : Nd} {cs : List Value} (h : RepV V w n cs) : ∃ A c, cs = [.int .i64 n.k, .string n.t, .int .i64 n.num, .slice A n.kids.length c] ∧ RepVL V w n.kids A ∧ n.kids.length ≤ c ∧ n.kids.length ≤ maxLen ∧ I64 n.num ∧ n.t.size ≤ maxLen := by
 cases n
 unfold RepV at h
 exact h
theorem RepV.of {V : Nat → Prop} {w : World} {k : Int} {t : ByteArray} {num : Int} {kids : List Nd} {A : Option Addr} {c : Nat} (h : RepVL V w kids A) (hc : kids.length ≤ c) (hm : kids.length ≤ maxLen) (hn : I64 num) (ht : t.size ≤ maxLen) : RepV V w (.mk k t num kids) [.int .i64 k, .string t, .int .i64 num, .slice A kids.length c] := by
 unfold RepV
 exact ⟨A, c, rfl, h, hc, hm, hn, ht⟩
abbrev From (B : Nat) : Nat → Prop := fun b => B ≤ b
abbrev FromBut (B : Nat) (g : Option Nat) : Nat → Prop := fun b => B ≤ b ∧ some b ≠ g
theorem RepV.below {B : Nat} {w w' : World} {n : Nd} {cs : List Value} (h : RepV (From B) w n cs) (hb : Below w.heap.size w w') : RepV (From B) w' n cs :=
 RepV.keep hb.size (fun b hv hlt => ⟨hb.block b hlt, hv⟩) _ _ h
theorem RepV.mv {B p : Nat} {w w' : World} {n : Nd} {cs : List Value} (h : RepV (From B) w n cs) (hg : Mv p w w') (hp : p < B) : RepV (From B) w' n cs :=
 RepV.keep hg.size (fun b hv hlt => ⟨hg.block b hlt (fun e => by injection e with e; have : B ≤ b := hv; omega), hv⟩) _ _ h
theorem RepV.less {B B' : Nat} {w : World} {n : Nd} {cs : List Value} (h : RepV (From B) w n cs) (hb : B' ≤ B) : RepV (From B') w n cs :=
 RepV.keep (Nat.le_refl _) (fun b hv _ => ⟨rfl, Nat.le_trans hb hv⟩) _ _ h
theorem RepVL.less {B B' : Nat} {w : World} {l : List Nd} {A : Option Addr} (h : RepVL (From B) w l A) (hb : B' ≤ B) : RepVL (From B') w l A :=
 RepVL.keep (Nat.le_refl _) (fun b hv _ => ⟨rfl, Nat.le_trans hb hv⟩) _ _ h
def RepCs (V : Nat → Prop) (w : World) : List Nd → List Value → Prop
 | [], xs => xs = []
 | n :: ns, xs => ∃ a b, xs = a ++ b ∧ RepV V w n a ∧ RepCs V w ns b
theorem RepCs.snoc {V : Nat → Prop} {w : World} {n : Nd} {cs : List Value} (h : RepV V w n cs) : ∀ (ns : List Nd) (xs : List Value), RepCs V w ns xs → RepCs V w (ns ++ [n]) (xs ++ cs)
 | [], xs, h1 => by
  unfold RepCs at h1
  subst h1
  show RepCs V w [n] cs
  unfold RepCs
  exact ⟨cs, [], by simp, h, rfl⟩
 | m :: ns, xs, h1 => by
  unfold RepCs at h1
  obtain ⟨a, b, rfl, h2, h3⟩ := h1
  show RepCs V w (m :: (ns ++ [n])) (a ++ b ++ cs)
  unfold RepCs
  exact ⟨a, b ++ cs, by simp, h2, RepCs.snoc h ns b h3⟩
theorem RepCs.keep {V V' : Nat → Prop} {w w' : World} (hs : w.heap.size ≤ w'.heap.size) (hk : ∀ b, V b → b < w.heap.size → w'.heap[b]? = w.heap[b]? ∧ V' b) : ∀ (ns : List Nd) (xs : List Value), RepCs V w ns xs → RepCs V' w' ns xs
 | [], _, h => by unfold RepCs at h ⊢; exact h
 | n :: ns, xs, h => by
  unfold RepCs at h ⊢
  obtain ⟨a, b, e, h1, h2⟩ := h
  exact ⟨a, b, e, RepV.keep hs hk n a h1, RepCs.keep hs hk ns b h2⟩
theorem RepV.len {V : Nat → Prop} {w : World} {n : Nd} {cs : List Value} (h : RepV V w n cs) : cs.length = 4 := by
 obtain ⟨A, c, rfl, -⟩ := h.four
 rfl
theorem RepCs.len {V : Nat → Prop} {w : World} : ∀ (ns : List Nd) (xs : List Value), RepCs V w ns xs → xs.length = ns.length * 4
 | [], _, h => by unfold RepCs at h; subst h; rfl
 | n :: ns, xs, h => by
  unfold RepCs at h
  obtain ⟨a, b, rfl, h1, h2⟩ := h
  rw [List.length_append, h1.len, RepCs.len ns b h2, List.length_cons]
  omega
theorem RepCs.list {V : Nat → Prop} {w : World} {g : Nat} (hg : V g) (hlt : g < w.heap.size) : ∀ (ns : List Nd) (xs : List Value) (o : Nat), RepCs V w ns xs → (∀ j v, xs[j]? = some v → w.cell? ⟨g, o + j, none⟩ = some v) → RepVL V w ns (some ⟨g, o, none⟩)
 | [], _, _, _, _ => by unfold RepVL; trivial
 | n :: ns, xs, o, h, hc => by
  unfold RepCs at h
  obtain ⟨a, b, rfl, h1, h2⟩ := h
  unfold RepVL
  refine ⟨g, o, a, rfl, hg, hlt, fun j v hj => hc j v ?_, h1, RepCs.list hg hlt ns b (o + 4) h2 fun j v hj => ?_⟩
  ·rw [List.getElem?_append_left ((List.getElem?_eq_some_iff.1 hj).1)]; exact hj
  ·have := hc (4 + j) v (by rw [List.getElem?_append_right (by rw [h1.len]; omega), h1.len, show 4 + j - 4 = j by omega]; exact hj)
   rwa [← Nat.add_assoc] at this
def Acc (B : Nat) (w : World) (v : Value) (ks : List Nd) : Prop := ∃ xs, RepCs (FromBut B v.ownBlock) w ks xs ∧ w.ownsRow B 24 4 v ks.length xs
theorem Acc.nil_ (B : Nat) (w : World) : Acc B w (.slice none 0 0) [] := ⟨[], rfl, World.ownsRow_nil _ _ _ _⟩
theorem Acc.form {B : Nat} {w : World} {v : Value} {ks : List Nd} (h : Acc B w v ks) : ∃ A c, v = .slice A ks.length c := by
 obtain ⟨xs, -, ho⟩ := h
 obtain ⟨A, c, e, -⟩ := Row.of_own ho
 exact ⟨A, c, e⟩
theorem Acc.mv {B p : Nat} {w w' : World} {v : Value} {ks : List Nd} (h : Acc B w v ks) (hg : Mv p w w') (hp : p < B) : Acc B w' v ks := by
 obtain ⟨xs, h1, ho⟩ := h
 have hne : v.ownBlock ≠ some p := fun e => by have := (ho.lt p e).1; omega
 refine ⟨xs, RepCs.keep hg.size (fun b hv hlt => ⟨hg.block b hlt (fun e => by injection e with e; have : B ≤ b := hv.1; omega), hv⟩) _ _ h1, ho.kept hg (.inr hne)⟩
theorem Acc.below {B : Nat} {w w' : World} {v : Value} {ks : List Nd} (h : Acc B w v ks) (hb : Below w.heap.size w w') : Acc B w' v ks := by
 obtain ⟨xs, h1, ho⟩ := h
 exact ⟨xs, RepCs.keep hb.size (fun b hv hlt => ⟨hb.block b hlt, hv⟩) _ _ h1, own_below ho hb⟩
theorem Acc.less {B B' : Nat} {w : World} {v : Value} {ks : List Nd} (h : Acc B w v ks) (hb : B' ≤ B) : Acc B' w v ks := by
 obtain ⟨xs, h1, h2, h3⟩ := h
 refine ⟨xs, RepCs.keep (Nat.le_refl _) (fun b hv _ => ⟨rfl, Nat.le_trans hb hv.1, hv.2⟩) _ _ h1, h2, ?_⟩
 rcases h3 with h3 | ⟨g, cap, cur, e, h4, h5⟩
 ·exact .inl h3
 ·exact .inr ⟨g, cap, cur, e, Nat.le_trans hb h4, h5⟩
theorem Acc.kids {B : Nat} {w : World} {v : Value} {ks : List Nd} (h : Acc B w v ks) : ∃ A c, v = .slice A ks.length c ∧ RepVL (From B) w ks A ∧ ks.length ≤ c ∧ ks.length ≤ maxLen := by
 obtain ⟨xs, h1, ho⟩ := h
 have h2 : RepCs (From B) w ks xs := RepCs.keep (Nat.le_refl _) (fun b hv _ => ⟨rfl, hv.1⟩) _ _ h1
 rcases ho.2 with ⟨rfl, h0⟩ | ⟨g, cap, cur, rfl, hb, hg, hnc, hcm, -⟩
 ·refine ⟨none, 0, by rw [h0], ?_, by omega, by omega⟩
  rw [List.eq_nil_of_length_eq_zero h0]
  unfold RepVL
  trivial
 ·refine ⟨_, _, rfl, ?_, hnc, by omega⟩
  have hlt : g < w.heap.size := (ho.lt g rfl).2
  refine RepCs.list hb hlt ks xs 0 h2 fun j v hj => ?_
  have := ho.cells (g := g) rfl j v hj
  rw [add_plain_] at this
  exact this
theorem Acc.push {B : Nat} {w w' : World} {v v' : Value} {ks : List Nd} {n : Nd} {cs : List Value} {o : Obj} (h : Acc B w v ks) (hn : RepV (From B) w n cs) (hv : ∀ g, v.ownBlock = some g → RepV (FromBut B (some g)) w n cs)
 (hown : ∀ xs, w.ownsRow B 24 4 v ks.length xs → w'.ownsRow B 24 4 v' (ks.length + 1) (xs ++ cs)) (hg : (w.alloc o).grownBy w' v.ownBlock) (hb : v'.ownBlock = v.ownBlock ∨ v'.ownBlock = some (w.alloc o).heap.size) : Acc B w' v' (ks ++ [n]) := by
 obtain ⟨xs, h1, ho⟩ := h
 have h2 := hown xs ho
 have hn2 : RepV (FromBut B v.ownBlock) w n cs := by
  rcases e : v.ownBlock with _ | g
  ·exact RepV.keep (Nat.le_refl _) (fun b hv _ => ⟨rfl, hv, by simp⟩) _ _ hn
  ·exact hv g e
 have hsz := hg.size
 have hal : (w.alloc o).heap.size = w.heap.size + 1 := by simp
 have h3 : RepCs (FromBut B v'.ownBlock) w' (ks ++ [n]) (xs ++ cs) := by
  refine RepCs.keep (w := w) (V := FromBut B v.ownBlock) (by omega) (fun b hvb hlt => ⟨(hg.block b (by omega) hvb.2).trans (Below.heap_alloc w o b hlt), hvb.1, ?_⟩) _ _ (RepCs.snoc hn2 ks xs h1)
  rcases hb with hb | hb
  ·rw [hb]; exact hvb.2
  ·rw [hb]; intro e; injection e with e; omega
 exact ⟨_, h3, by simpa using h2⟩
theorem RepV.but {B B1 g : Nat} {w : World} {n : Nd} {cs : List Value} (h : RepV (From B1) w n cs) (hB : B ≤ B1) (hg : g < B1) : RepV (FromBut B (some g)) w n cs :=
 RepV.keep (Nat.le_refl _) (fun b hv _ => ⟨rfl, Nat.le_trans hB hv, fun e => by injection e with e; have : B1 ≤ b := hv; omega⟩) _ _ h
theorem mv_push {p B : Nat} {w0 w w' : World} {v : Value} {n : Nat} {xs : List Value} {e : TypeId} {s : Nat} {o : Obj} (h : Mv p w0 w) (hB : w0.heap.size ≤ B) (ho : w.ownsRow B e s v n xs) (hg : (w.alloc o).grownBy w' v.ownBlock) : Mv p w0 w' := by
 have hal : (w.alloc o).heap.size = w.heap.size + 1 := by simp
 have h1 := h.size
 have h2 := hg.size
 refine ⟨hg.os.trans h.os, hg.tape.trans h.tape, hg.output.trans h.output, by omega, fun k hk hne => ?_⟩
 refine (hg.block k (by omega) (fun e => ?_)).trans ((Below.heap_alloc w o k (by omega)).trans (h.block k hk hne))
 have := (ho.lt k e.symm).1
 omega
end Go.Proofs.YtgegfbopogcjpaaGreatDoor
namespace Go.Proofs.YtgegfbopogcjpaaGreatDoor
open Go.RowKit
set_option linter.unusedVariables false
set_option linter.unusedSimpArgs false
set_option maxRecDepth 100000
set_option maxHeartbeats 1000000
def tokV (C : PC) (j : Nat) : Array Value := match C.L[j]? with
 | some t => #[.int .i64 t.k, .string t.s, .int .i64 (t.p : Int)]
 | none => #[.int .i64 0, .string ⟨#[]⟩, .int .i64 (C.E : Int)]
theorem tok_cells {w : World} {A : Option Addr} {L : List Tok} (h : Row w A (L.flatMap tkV)) {k : Nat} (hk : k < L.length) :
 ∃ b o, A = some ⟨b, o, none⟩ ∧ b < w.heap.size ∧ w.cell? ⟨b, o + k * 3, none⟩ = some (.int .i64 L[k].k) ∧ w.cell? ⟨b, o + k * 3 + 1, none⟩ = some (.string L[k].s) ∧ w.cell? ⟨b, o + k * 3 + 2, none⟩ = some (.int .i64 (L[k].p : Int)) := by
 have hf : ∀ j, j < 3 → (L.flatMap tkV)[k * 3 + j]? = (tkV L[k])[j]? := fun j hj => by
  rw [flat_at tkV 3 (fun _ => rfl) L k j hj, List.getElem?_eq_getElem hk]
  rfl
 obtain ⟨b, o, hA, hlt, hc⟩ := h.at_ (fun e => by have := hf 0 (by omega); rw [e] at this; simp [tkV] at this)
 refine ⟨b, o, hA, hlt, ?_, ?_, ?_⟩
 ·exact hc (k * 3) _ (hf 0 (by omega))
 ·have := hc (k * 3 + 1) _ (hf 1 (by omega)); rwa [← Nat.add_assoc] at this
 ·have := hc (k * 3 + 2) _ (hf 2 (by omega)); rwa [← Nat.add_assoc] at this
theorem blk_set3 {w : World} {b : Nat} {t : TypeId} {a0 a1 a2 : Value} (k : Blk w b t #[a0, a1, a2]) (b0 b1 b2 : Value) :
 Blk (((w.setCell ⟨b, 0, none⟩ b0).setCell ⟨b, 1, none⟩ b1).setCell ⟨b, 2, none⟩ b2) b t #[b0, b1, b2] := ((k.set_ 0 b0).set_ 1 b1).set_ 2 b2
theorem results_cell3 {fn : Func} {r : Nat} {T : TypeId} (h : fn.results = #[.cell r T]) {w : World} {b : Nat} {a0 a1 a2 : Value} {tmps : Array Value} (k : Blk w b 50 #[a0, a1, a2]) (h3 : tmps.getD r undef = .pointer (some ⟨b, 0, none⟩)) (hT : T = 50 := by rfl) :
 (results fn tmps).run Tryz.prog w = .ok (.agg #[a0, a1, a2]) w := by
 subst hT
 have c0 := k.cell 0 _ rfl
 have c1 := k.cell 1 _ rfl
 have c2 := k.cell 2 _ rfl
 simp at c0 c1 c2
 simp only [Array.getD_eq_getD_getElem?] at h3
 simp [results, h, go_sem, h3, c0, c1, c2]
def PeekOut (C : PC) (j : Nat) (w : World) (e : Ending) (w' : World) : Prop := e = .returned (.agg (tokV C j)) ∧ Below w.heap.size w w'
theorem peek_any (C : PC) (w : World) (i k : Nat) (h : PSt C w i) (hk : k ≤ 1) : Calls Tryz.prog 72 #[.pointer (some ⟨C.p, 0, none⟩), .int .i64 (k : Int)] w (PeekOut C (i + k) w) := by
 have hb0 : Below w.heap.size w (w.alloc (.cells #[.int .i64 0, .string ⟨#[]⟩, .int .i64 0] 50)) := by (repeat (first | with_reducible assumption | with_reducible exact Below.refl _ _ | (refine Below.setCell ?_ (by first | omega | (simp; done) | (simp; omega)) _) | (refine Below.drewN_ ?_ _) | (refine Below.drew ?_) | (refine Below.alloc ?_ (by first | omega | (simp; done) | (simp; omega)) _)))
 have HB0 := Lib.hid hb0
 have KR := Lib.hid (Blk.new_ w 50 #[.int .i64 0, .string ⟨#[]⟩, .int .i64 0])
 have H1 := Lib.hid (h.below hb0)
 have HROW := Lib.hid h.row
 obtain ⟨TV, HTV⟩ : ∃ V, Hid (tokV C (i + k) = V) := ⟨_, rfl⟩
 unfold PeekOut
 rw [HTV.out]
 have len := h.len
 have hat := h.at_
 have hlw := h.lt
 clear h hb0
 have hw : IntKind.i64.wrap ((i : Int) + (k : Int)) = (i : Int) + (k : Int) := IntWalk.i64_in _ (by omega)
 have ht : ((i : Int) + (k : Int)).toNat = i + k := by omega
 obtain ⟨p, A, c, L, E⟩ := C
 simp only at *
 by_cases hlt : i + k < L.length
 ·have i1 : (i : Int) + (k : Int) < (L.length : Int) := by omega
  have i0 : 0 ≤ (i : Int) + (k : Int) := by omega
  have d1 : decide ((i : Int) + (k : Int) < (L.length : Int)) = true := by simpa using i1
  have HT2 : Hid (TV = #[.int .i64 L[i + k].k, .string L[i + k].s, .int .i64 (L[i + k].p : Int)]) := by show _ = _; rw [← HTV.out]; unfold tokV; simp only; rw [List.getElem?_eq_getElem hlt]
  obtain ⟨b, o, rfl, hbl, c0, c1, c2⟩ := tok_cells HROW.out hlt
  have hnb := Nat.ne_of_gt hbl
  replace c0 := (keep_cell HB0.out hbl).trans c0
  replace c1 := (keep_cell HB0.out hbl).trans c1
  replace c2 := (keep_cell HB0.out hbl).trans c2
  generalize L[i + k].k = tk at *
  generalize L[i + k].s = ts at *
  generalize L[i + k].p = tp at *
  have q0 := H1.out.blk.cell 0 (.slice (some ⟨b, o, none⟩) L.length c) rfl
  have q1 := H1.out.blk.cell 1 (.int .i64 (i : Int)) rfl
  have hne := Nat.ne_of_gt hlw
  clear HTV hlt hbl HROW
  generalize L.length = n at *
  go_enter Tryz.func72, Tryz.ntmps72
  go_wp2_with fail
  generalize (w.alloc (.cells #[.int .i64 0, .string ⟨#[]⟩, .int .i64 0] 50)) = w1 at *
  go_quiet (fail)
  have f0 := KR.out.free 0
  have f1 := KR.out.free 1
  have f2 := KR.out.free 2
  have g0 := KR.out.cell 0 (.int .i64 0) rfl
  have g1 := KR.out.cell 1 (.string ⟨#[]⟩) rfl
  have g2 := KR.out.cell 2 (.int .i64 0) rfl
  go_wp2_with fail
  go_region_held3 (fun W => W.cell? ⟨p, 0, none⟩ = some (.slice (some ⟨b, o, none⟩) n c) ∧ W.cell? ⟨p, 1, none⟩ = some (.int .i64 (i : Int)) ∧ W.cell? ⟨b, o + (i + k) * 3, none⟩ = some (.int .i64 tk) ∧ W.cell? ⟨b, o + (i + k) * 3 + 1, none⟩ = some (.string ts) ∧ W.cell? ⟨b, o + (i + k) * 3 + 2, none⟩ = some (.int .i64 (tp : Int))) (go_keep) (fail)
  rename_i hh
  have KF : Blk ((((w1.drewN (nq + 1)).setCell ⟨w.heap.size, 0, none⟩ (.int .i64 tk)).setCell ⟨w.heap.size, 1, none⟩ (.string ts)).setCell ⟨w.heap.size, 2, none⟩ (.int .i64 (tp : Int))) w.heap.size 50 #[.int .i64 tk, .string ts, .int .i64 (tp : Int)] := blk_set3 (Blk.drewN KR.out (nq + 1)) _ _ _
  have BF : Below w.heap.size w ((((w1.drewN (nq + 1)).setCell ⟨w.heap.size, 0, none⟩ (.int .i64 tk)).setCell ⟨w.heap.size, 1, none⟩ (.string ts)).setCell ⟨w.heap.size, 2, none⟩ (.int .i64 (tp : Int))) := (((Below.drewN_ HB0.out _).setCell (Nat.le_refl _) _).setCell (Nat.le_refl _) _).setCell (Nat.le_refl _) _
  clear hh f0 f1 f2 g0 g1 g2 c0 c1 c2 q0 q1 H1 KR HB0
  generalize ((((w1.drewN (nq + 1)).setCell ⟨w.heap.size, 0, none⟩ (.int .i64 tk)).setCell ⟨w.heap.size, 1, none⟩ (.string ts)).setCell ⟨w.heap.size, 2, none⟩ (.int .i64 (tp : Int))) = w2 at *
  have KF := Lib.hid KF
  have BF := Lib.hid BF
  go_wp2_with fail
  exact bodyPost_ret (v := .agg TV) (by rw [HT2.out]; exact results_cell3 (fn := Tryz.f72) rfl KF.out rfl) rfl ⟨rfl, BF.out⟩
 ·have i1 : ¬ (i : Int) + (k : Int) < (L.length : Int) := by omega
  have d1 : decide ((i : Int) + (k : Int) < (L.length : Int)) = false := by simpa using i1
  have HT2 : Hid (TV = #[.int .i64 0, .string ⟨#[]⟩, .int .i64 (E : Int)]) := by show _ = _; rw [← HTV.out]; unfold tokV; simp only; rw [List.getElem?_eq_none (by omega)]
  have q0 := H1.out.blk.cell 0 (.slice A L.length c) rfl
  have q1 := H1.out.blk.cell 1 (.int .i64 (i : Int)) rfl
  have q2 := H1.out.blk.cell 2 (.int .i64 (E : Int)) rfl
  have f0 := KR.out.free 0
  have f1 := KR.out.free 1
  have f2 := KR.out.free 2
  have g0 := KR.out.cell 0 (.int .i64 0) rfl
  have g1 := KR.out.cell 1 (.string ⟨#[]⟩) rfl
  have g2 := KR.out.cell 2 (.int .i64 0) rfl
  clear HTV hlt HROW
  generalize L.length = n at *
  go_enter Tryz.func72, Tryz.ntmps72
  go_wp2_with fail
  generalize (w.alloc (.cells #[.int .i64 0, .string ⟨#[]⟩, .int .i64 0] 50)) = w1 at *
  go_quiet (fail)
  go_wp2_with fail
  have KF : Blk ((((w1.drewN nq).setCell ⟨w.heap.size, 0, none⟩ (.int .i64 0)).setCell ⟨w.heap.size, 1, none⟩ (.string ⟨#[]⟩)).setCell ⟨w.heap.size, 2, none⟩ (.int .i64 (E : Int))) w.heap.size 50 #[.int .i64 0, .string ⟨#[]⟩, .int .i64 (E : Int)] := blk_set3 (Blk.drewN KR.out nq) _ _ _
  have BF : Below w.heap.size w ((((w1.drewN nq).setCell ⟨w.heap.size, 0, none⟩ (.int .i64 0)).setCell ⟨w.heap.size, 1, none⟩ (.string ⟨#[]⟩)).setCell ⟨w.heap.size, 2, none⟩ (.int .i64 (E : Int))) := (((Below.drewN_ HB0.out _).setCell (Nat.le_refl _) _).setCell (Nat.le_refl _) _).setCell (Nat.le_refl _) _
  exact bodyPost_ret (v := .agg TV) (by rw [HT2.out]; exact results_cell3 (fn := Tryz.f72) rfl KF rfl) rfl ⟨rfl, BF⟩
end Go.Proofs.YtgegfbopogcjpaaGreatDoor
namespace Go.Proofs.YtgegfbopogcjpaaGreatDoor
open Go.RowKit
set_option linter.unusedVariables false
set_option linter.unusedSimpArgs false
set_option maxRecDepth 100000
set_option maxHeartbeats 1000000
theorem tokV_three (C : PC) (j : Nat) : ∃ a b, tokV C j = #[.int .i64 a, .string b, .int .i64 (posAt C j)] ∧ (∀ s, tIs C.L s j = ((a == 1 || a == 4) && decide (b = s))) ∧ tNm C.L j = (a == 1 && nameOf b) := by
 unfold tokV posAt tIs tNm
 rcases C.L[j]? with _ | t
 ·exact ⟨0, ⟨#[]⟩, rfl, fun s => rfl, rfl⟩
 ·exact ⟨t.k, t.s, rfl, fun s => rfl, rfl⟩
theorem str_beq (x y : ByteArray) : (x.toList == y.toList) = decide (x = y) := by
 rw [Bool.eq_iff_iff, beq_iff_eq, decide_eq_true_eq, ByteArray.toList_eq, ByteArray.toList_eq]
 exact ⟨fun h => ByteArray.ext (Array.toList_inj.mp h), fun h => by rw [h]⟩
theorem tok_field (a b d : Value) (w : World) : Sem.run Tryz.prog (Instr.field 50 (.agg #[a, b, d]) 2) w = .ok d w := rfl
def badE (C : PC) (i : Nat) : Ending := .panicked [{ v := .iface 39 (.agg #[.int .i64 (posAt C i)]), recovered := false }]
def FailOut (C : PC) (i : Nat) (w : World) (e : Ending) (w' : World) : Prop := e = badE C i ∧ Below w.heap.size w w'
theorem fail_any (C : PC) (w : World) (i : Nat) (h : PSt C w i) : Calls Tryz.prog 71 #[.pointer (some ⟨C.p, 0, none⟩)] w (FailOut C i w) := by
 have H := Lib.hid h
 have PK := Lib.hid (peek_any C w i 0 h (by omega))
 clear h
 obtain ⟨a, b, hT, -⟩ := tokV_three C i
 unfold PeekOut at PK
 rw [Nat.add_zero, hT] at PK
 unfold FailOut badE
 clear hT
 generalize posAt C i = P at *
 obtain ⟨p, A, c, L, E⟩ := C
 simp only at *
 go_enter Tryz.func71, Tryz.ntmps71
 go_wp2_with fail
 refine PK.out.mono ?_
 rintro e w1 ⟨rfl, hb1⟩
 have HB := Lib.hid hb1
 clear hb1
 go_wp2_with fail
 rw [tok_field]
 go_wp2
 exact ⟨rfl, rfl, HB.out⟩
def SL (w : World) (ts : List ByteArray) (A : Option Addr) : Prop := ∀ i (h : i < ts.length), ∃ b o, A = some ⟨b, o, none⟩ ∧ b < w.heap.size ∧ w.cell? ⟨b, o + i, none⟩ = some (.string ts[i])
theorem SL.keep {w w' : World} {ts : List ByteArray} {A : Option Addr} (h : SL w ts A) (hb : Below w.heap.size w w') : SL w' ts A := by
 intro i hi
 obtain ⟨b, o, e, hlt, hc⟩ := h i hi
 exact ⟨b, o, e, Nat.lt_of_lt_of_le hlt hb.size, (keep_cell hb hlt).trans hc⟩
def IsRel (ts : List ByteArray) (f : ByteArray → Bool) (w1 w : World) (i : Value) (wr : World) : Prop := ∃ k : Nat, i = .int .i64 k ∧ k ≤ ts.length ∧ Hid (∀ j (h : j < ts.length), j < k → f ts[j] = false) ∧ wr = w1
theorem is_any0 (ts : List ByteArray) (A : Option Addr) (c : Nat) (C : PC) (w : World) (i : Nat) (h : PSt C w i) (hs : SL w ts A) (hc : ts.length ≤ c) (hn : ts.length ≤ 10) :
 Calls Tryz.prog 28 #[.pointer (some ⟨C.p, 0, none⟩), .slice A ts.length c] w fun e w' => e = .returned (.bool (tIn C.L ts i)) ∧ Below w.heap.size w w' := by
 have PK := Lib.hid (peek_any C w i 0 h (by omega))
 clear h
 obtain ⟨a, b, hT, hI, -⟩ := tokV_three C i
 unfold PeekOut at PK
 rw [Nat.add_zero, hT] at PK
 unfold tIn
 have HI := Lib.hid hI
 clear hT hI
 generalize posAt C i = P at *
 obtain ⟨f, HF⟩ : ∃ f : ByteArray → Bool, Hid ((fun s => tIs C.L s i) = f) := ⟨_, rfl⟩
 have HFS : Hid (∀ s, f s = ((a == 1 || a == 4) && decide (b = s))) := fun s => by rw [← HF.out]; exact HI.out s
 rw [HF.out]
 clear HF HI
 obtain ⟨R, HR⟩ : ∃ R, Hid (ts.any f = R) := ⟨_, rfl⟩
 rw [HR.out]
 obtain ⟨p, A', c', L, E⟩ := C
 simp only at *
 have HS := Lib.hid hs
 clear hs
 go_enter Tryz.func28, Tryz.ntmps28
 go_wp2_with fail
 refine PK.out.mono ?_
 rintro e w0 ⟨rfl, hb1⟩
 have HB := Lib.hid hb1
 have HS1 := Lib.hid (HS.out.keep hb1)
 have hsz := hb1.size
 clear hb1 HS PK
 go_wp2_with fail
 have kt : Blk (w0.alloc (.cells #[.int .i64 a, .string b, .int .i64 P] 50)) w0.heap.size 50 #[.int .i64 a, .string b, .int .i64 P] := Blk.new_ _ _ _
 have hba : Below w0.heap.size w0 (w0.alloc (.cells #[.int .i64 a, .string b, .int .i64 P] 50)) := by (repeat (first | with_reducible assumption | with_reducible exact Below.refl _ _ | (refine Below.setCell ?_ (by first | omega | (simp; done) | (simp; omega)) _) | (refine Below.drewN_ ?_ _) | (refine Below.drew ?_) | (refine Below.alloc ?_ (by first | omega | (simp; done) | (simp; omega)) _)))
 have HB1 : Hid (Below w.heap.size w (w0.alloc (.cells #[.int .i64 a, .string b, .int .i64 P] 50))) := below_trans HB.out (Nat.le_refl _) hba
 have HS2 := Lib.hid (HS1.out.keep hba)
 have t0 := kt.cell 0 (.int .i64 a) rfl
 have t1 := kt.cell 1 (.string b) rfl
 clear kt hba HS1 HB
 generalize (w0.alloc (.cells #[.int .i64 a, .string b, .int .i64 P] 50)) = w1 at *
 go_loopw [12] (fun i wr => IsRel ts f w1 w i wr) (fun i _ => ts.length - (intOf i).toNat)
 case atStart => exact ⟨0, rfl, Nat.zero_le _, Lib.hid (fun j _ hj => absurd hj (by omega)), rfl⟩
 case round =>
  obtain ⟨k, rfl, hk, HX, rfl⟩ := hrel
  by_cases hlt : k < ts.length
  ·have hi : (k : Int) < (ts.length : Int) := by omega
   have d1 : decide ((k : Int) < (ts.length : Int)) = true := by simpa using hi
   obtain ⟨bb, o, rfl, hbl, hcell⟩ := HS2.out k hlt
   have HFX := Lib.hid (HFS.out ts[k])
   have HN : Hid (f ts[k] = false → ∀ j (h : j < ts.length), j < k + 1 → f ts[j] = false) := by
    intro h0 j hj hjk
    rcases Nat.lt_or_ge j k with h | h
    ·exact HX.out j hj h
    ·obtain rfl : j = k := by omega
     exact h0
   have HY : Hid (f ts[k] = true → R = true) := by
    intro h1
    rw [← HR.out, List.any_eq_true]
    exact ⟨ts[k], List.getElem_mem hlt, h1⟩
   clear HX
   obtain ⟨fx, HFE⟩ : ∃ fx, Hid (f ts[k] = fx) := ⟨f ts[k], Lib.hid rfl⟩
   rw [HFE.out] at HFX HN HY
   clear HFE HS2 HFS HR
   generalize ts[k] = X at *
   rcases h1 : (a == 1) with _ | _ <;> rcases h4 : (a == 4) with _ | _ <;> rcases hx : (b.toList == X.toList) with _ | _
   all_goals
    have HF2 := HFX.out
    rw [h1, h4, ← str_beq, hx] at HF2
    simp only [Bool.or_false, Bool.or_true, Bool.false_or, Bool.true_or, Bool.and_true, Bool.and_false] at HF2
    have HFV := Lib.hid HF2
    clear HF2 HFX
    go_wp2_with fail
   all_goals first
    | (go_ret; exact ⟨by rw [HY.out HFV.out]; rfl, HB1.out⟩)
    | (go_roundw
       case rel => exact ⟨k + 1, by go_num, by omega, Lib.hid (HN.out HFV.out), rfl⟩
       case measure => (first | (simp [intOf]; done) | (simp [intOf]; omega)))
  ·have hi : ¬ (k : Int) < (ts.length : Int) := by omega
   have d1 : decide ((k : Int) < (ts.length : Int)) = false := by simpa using hi
   have HRF : Hid (R = false) := by
    show _ = _
    rw [← HR.out, List.any_eq_false]
    intro x hx
    obtain ⟨j, hj, rfl⟩ := List.getElem_of_mem hx
    rw [HX.out j hj (by omega)]
    simp
   clear HX HR HS2 HFS
   go_wp2
   go_ret
   exact ⟨by rw [HRF.out]; rfl, HB1.out⟩
end Go.Proofs.YtgegfbopogcjpaaGreatDoor
namespace Go.Proofs.YtgegfbopogcjpaaGreatDoor
open Go.RowKit
set_option linter.unusedVariables false
set_option linter.unusedSimpArgs false
set_option maxRecDepth 100000
set_option maxHeartbeats 1000000
theorem tIs_lt {L : List Tok} {s : ByteArray} {i : Nat} (h : tIs L s i = true) : i < L.length := by
 unfold tIs at h
 rcases Nat.lt_or_ge i L.length with h1 | h1
 ·exact h1
 ·rw [List.getElem?_eq_none h1] at h; cases h
theorem tNm_lt {L : List Tok} {i : Nat} (h : tNm L i = true) : i < L.length := by
 unfold tNm at h
 rcases Nat.lt_or_ge i L.length with h1 | h1
 ·exact h1
 ·rw [List.getElem?_eq_none h1] at h; cases h
theorem tIn_one (L : List Tok) (s : ByteArray) (i : Nat) : tIn L [s] i = tIs L s i := by simp [tIn]
theorem SL_one (w : World) (s : ByteArray) : SL (w.alloc (.cells #[.string s] 9)) [s] (some ⟨w.heap.size, 0, none⟩) := by
 intro i hi
 have : i = 0 := by simp at hi; exact hi
 subst this
 exact ⟨_, _, rfl, by simp, (Blk.new_ w 9 #[.string s]).cell 0 _ rfl⟩
theorem is_one (C : PC) (w : World) (i : Nat) (s : ByteArray) (h : PSt C w i) :
 Calls Tryz.prog 28 #[.pointer (some ⟨C.p, 0, none⟩), .slice (some ⟨w.heap.size, 0, none⟩) 1 1] (w.alloc (.cells #[.string s] 9)) fun e w' => e = .returned (.bool (tIs C.L s i)) ∧ Below w.heap.size w w' := by
 have hb0 : Below w.heap.size w (w.alloc (.cells #[.string s] 9)) := by (repeat (first | with_reducible assumption | with_reducible exact Below.refl _ _ | (refine Below.setCell ?_ (by first | omega | (simp; done) | (simp; omega)) _) | (refine Below.drewN_ ?_ _) | (refine Below.drew ?_) | (refine Below.alloc ?_ (by first | omega | (simp; done) | (simp; omega)) _)))
 refine (is_any0 [s] _ 1 C _ i (h.below hb0) (SL_one w s) (by simp) (by simp)).mono ?_
 rintro e w' ⟨rfl, hb⟩
 exact ⟨by rw [tIn_one], below_trans hb0 (Nat.le_refl _) hb⟩
def HaveOut (C : PC) (b : Bool) (i : Nat) (w : World) (e : Ending) (w' : World) : Prop := e = .returned (.bool b) ∧ PSt C w' (if b = true then i + 1 else i) ∧ Mv C.p w w'
theorem have_any (C : PC) (w : World) (i : Nat) (s : ByteArray) (h : PSt C w i) : Calls Tryz.prog 24 #[.pointer (some ⟨C.p, 0, none⟩), .string s] w (HaveOut C (tIs C.L s i) i w) := by
 have IS := Lib.hid (is_one C w i s h)
 have H := Lib.hid h
 have hat := h.at_
 have hlen := h.len
 rcases hb : tIs C.L s i with _ | _
 ·rw [hb] at IS
  clear h hb
  go_enter Tryz.func24, Tryz.ntmps24
  go_wp2_with fail
  refine IS.out.mono ?_
  rintro e w1 ⟨rfl, hb1⟩
  have HB := Lib.hid hb1
  clear hb1
  go_wp2
  go_ret
  exact ⟨rfl, H.out.below HB.out, mv_below HB.out⟩
 ·have hlt := tIs_lt hb
  rw [hb] at IS
  clear h hb
  have hw : IntKind.i64.wrap ((i : Int) + 1) = (i : Int) + 1 := IntWalk.i64_in _ (by omega)
  go_enter Tryz.func24, Tryz.ntmps24
  go_wp2_with fail
  refine IS.out.mono ?_
  rintro e w1 ⟨rfl, hb1⟩
  have HB := Lib.hid hb1
  have H1 := Lib.hid (H.out.below hb1)
  have q1 := H1.out.blk.cell 1 (.int .i64 (i : Int)) rfl
  have f1 := H1.out.blk.free 1
  clear hb1
  go_wp2
  go_ret
  have hm := H1.out.move (i + 1) (by omega)
  exact ⟨rfl, hm.1, (mv_below HB.out).trans_ hm.2⟩
def NeedOut (C : PC) (r : Res Unit) (w : World) (e : Ending) (w' : World) : Prop := match r with
 | .ok _ j => e = .returned (.tuple #[]) ∧ PSt C w' j ∧ Mv C.p w w'
 | .bad j => e = badE C j ∧ Mv C.p w w'
 | .dry => True
theorem need_any (C : PC) (w : World) (i : Nat) (s : ByteArray) (h : PSt C w i) : Calls Tryz.prog 27 #[.pointer (some ⟨C.p, 0, none⟩), .string s] w (NeedOut C (needM C.L s i) w) := by
 have HV := Lib.hid (have_any C w i s h)
 unfold needM
 rcases hb : tIs C.L s i with _ | _
 ·rw [hb] at HV
  rw [if_neg (by simp)]
  unfold NeedOut badE
  simp only
  have FL := Lib.hid (fun W (hW : PSt C W i) => fail_any C W i hW)
  unfold FailOut badE at FL
  clear h hb
  generalize posAt C i = P at *
  go_enter Tryz.func27, Tryz.ntmps27
  go_wp2_with fail
  refine HV.out.mono ?_
  rintro e w1 ⟨rfl, h1, m1⟩
  have H1 := Lib.hid h1
  have M1 := Lib.hid m1
  clear h1 m1
  go_wp2_with fail
  refine (FL.out _ (by simpa using H1.out)).mono ?_
  rintro e w2 ⟨rfl, hb2⟩
  have HB := Lib.hid hb2
  clear hb2
  go_wp2
  exact ⟨rfl, rfl, M1.out.below_ HB.out⟩
 ·rw [hb] at HV
  rw [if_pos rfl]
  unfold NeedOut
  simp only
  clear h hb
  go_enter Tryz.func27, Tryz.ntmps27
  go_wp2_with fail
  refine HV.out.mono ?_
  rintro e w1 ⟨rfl, h1, m1⟩
  have H1 := Lib.hid h1
  have M1 := Lib.hid m1
  clear h1 m1
  go_wp2
  go_end0
  exact ⟨rfl, by simpa using H1.out, M1.out⟩
end Go.Proofs.YtgegfbopogcjpaaGreatDoor
namespace Go.Proofs.YtgegfbopogcjpaaGreatDoor
open Go.RowKit
set_option linter.unusedVariables false
set_option linter.unusedSimpArgs false
set_option maxRecDepth 100000
set_option maxHeartbeats 1000000
theorem PSt.drewN_ {C : PC} {w : World} {i : Nat} (h : PSt C w i) (n : Nat) : PSt C (w.drewN n) i := h.below (Below.drewN_ (Below.refl _ _) n)
theorem Mv.drewN_ {p : Nat} {w w' : World} (h : Mv p w w') (n : Nat) : Mv p w (w'.drewN n) := h.below_ (Below.drewN_ (Below.refl _ _) n)
theorem named_any (C : PC) (w : World) (i k : Nat) (h : PSt C w i) (hk : k ≤ 1) : Calls Tryz.prog 70 #[.pointer (some ⟨C.p, 0, none⟩), .int .i64 (k : Int)] w fun e w' => e = .returned (.bool (tNm C.L (i + k))) ∧ Below w.heap.size w w' := by
 have PK := Lib.hid (peek_any C w i k h hk)
 obtain ⟨a, b, hT, -, hN⟩ := tokV_three C (i + k)
 unfold PeekOut at PK
 rw [hT] at PK
 have HML := Lib.hid h.ml
 clear h hT
 obtain ⟨R, HR⟩ : ∃ R, Hid (tNm C.L (i + k) = R) := ⟨_, rfl⟩
 rw [HR.out] at hN ⊢
 have HN := Lib.hid hN
 clear hN HR
 generalize posAt C (i + k) = P at *
 have NM := Lib.hid (fun W (hW : ML W) => isName_any b W hW)
 obtain ⟨nb, HNB⟩ : ∃ nb, Hid (nameOf b = nb) := ⟨_, rfl⟩
 rw [HNB.out] at NM HN
 clear HNB
 rcases h1 : (a == 1) with _ | _
 ·have hR : R = false := by rw [HN.out, h1]; rfl
  subst hR
  clear HN
  go_enter Tryz.func70, Tryz.ntmps70
  go_wp2_with fail
  refine PK.out.mono ?_
  rintro e w1 ⟨rfl, hb1⟩
  have kt : Blk (w1.alloc (.cells #[.int .i64 a, .string b, .int .i64 P] 50)) w1.heap.size 50 #[.int .i64 a, .string b, .int .i64 P] := Blk.new_ _ _ _
  have hba : Below w1.heap.size w1 (w1.alloc (.cells #[.int .i64 a, .string b, .int .i64 P] 50)) := by (repeat (first | with_reducible assumption | with_reducible exact Below.refl _ _ | (refine Below.setCell ?_ (by first | omega | (simp; done) | (simp; omega)) _) | (refine Below.drewN_ ?_ _) | (refine Below.drew ?_) | (refine Below.alloc ?_ (by first | omega | (simp; done) | (simp; omega)) _)))
  have HB : Hid (Below w.heap.size w (w1.alloc (.cells #[.int .i64 a, .string b, .int .i64 P] 50))) := below_trans hb1 (Nat.le_refl _) hba
  have t0 := kt.cell 0 (.int .i64 a) rfl
  clear hb1 hba kt
  go_wp2_with fail
  go_ret
  exact ⟨rfl, HB.out⟩
 ·have hR : R = nb := by rw [HN.out, h1]; rfl
  subst hR
  clear HN
  go_enter Tryz.func70, Tryz.ntmps70
  go_wp2_with fail
  refine PK.out.mono ?_
  rintro e w1 ⟨rfl, hb1⟩
  have kt : Blk (w1.alloc (.cells #[.int .i64 a, .string b, .int .i64 P] 50)) w1.heap.size 50 #[.int .i64 a, .string b, .int .i64 P] := Blk.new_ _ _ _
  have hba : Below w1.heap.size w1 (w1.alloc (.cells #[.int .i64 a, .string b, .int .i64 P] 50)) := by (repeat (first | with_reducible assumption | with_reducible exact Below.refl _ _ | (refine Below.setCell ?_ (by first | omega | (simp; done) | (simp; omega)) _) | (refine Below.drewN_ ?_ _) | (refine Below.drew ?_) | (refine Below.alloc ?_ (by first | omega | (simp; done) | (simp; omega)) _)))
  have HB : Hid (Below w.heap.size w (w1.alloc (.cells #[.int .i64 a, .string b, .int .i64 P] 50))) := below_trans hb1 (Nat.le_refl _) hba
  have HML1 := Lib.hid (HML.out.keep HB.out)
  have t0 := kt.cell 0 (.int .i64 a) rfl
  have t1 := kt.cell 1 (.string b) rfl
  clear hb1 hba kt
  go_wp2_with fail
  refine (NM.out _ HML1.out).mono ?_
  rintro e w2 ⟨rfl, rfl⟩
  go_wp2_with fail
  go_ret
  exact ⟨rfl, HB.out⟩
def NameOut (C : PC) (r : Res ByteArray) (w : World) (e : Ending) (w' : World) : Prop := match r with
 | .ok s j => e = .returned (.string s) ∧ PSt C w' j ∧ Mv C.p w w'
 | .bad j => e = badE C j ∧ Mv C.p w w'
 | .dry => True
theorem name_any (C : PC) (w : World) (i : Nat) (h : PSt C w i) : Calls Tryz.prog 26 #[.pointer (some ⟨C.p, 0, none⟩)] w (NameOut C (nameM C.L i) w) := by
 have NV := Lib.hid (named_any C w i 0 h (by omega))
 rw [Nat.add_zero] at NV
 have H := Lib.hid h
 unfold nameM
 rcases hb : tNm C.L i with _ | _
 ·rw [hb] at NV
  rw [if_neg (by simp)]
  unfold NameOut badE
  simp only
  have FL := Lib.hid (fun W (hW : PSt C W i) => fail_any C W i hW)
  unfold FailOut badE at FL
  clear h hb
  generalize posAt C i = P at *
  go_enter Tryz.func26, Tryz.ntmps26
  go_wp2_with fail
  refine NV.out.mono ?_
  rintro e w1 ⟨rfl, hb1⟩
  have B1 := Lib.hid hb1
  clear hb1
  go_wp2_with fail
  refine (FL.out _ (H.out.below B1.out)).mono ?_
  rintro e w2 ⟨rfl, hb2⟩
  have HB := Lib.hid (below_trans B1.out (Nat.le_refl _) hb2)
  clear hb2
  go_wp2
  exact ⟨rfl, rfl, mv_below HB.out⟩
 ·have hlt := tNm_lt hb
  have hat := h.at_
  have hlen := h.len
  rw [hb] at NV
  rw [if_pos rfl]
  unfold NameOut
  simp only
  have HTX : Hid (tTx C.L i = C.L[i].s) := by show _ = _; unfold tTx; rw [List.getElem?_eq_getElem hlt]
  rw [HTX.out]
  obtain ⟨b, o, hA, hbl, c0, c1, c2⟩ := tok_cells h.row hlt
  have hne := h.ne (fun e => by rw [e] at hlt; exact absurd hlt (Nat.not_lt_zero _)) b o hA
  clear h hb HTX c0 c2
  generalize C.L[i].s = X at *
  have hw : IntKind.i64.wrap ((i : Int) + 1) = (i : Int) + 1 := IntWalk.i64_in _ (by omega)
  have hw2 : IntKind.i64.wrap ((i : Int) + 1 - 1) = (i : Int) := by rw [Int.add_sub_cancel]; exact IntWalk.i64_in _ (by omega)
  have hw3 : IntKind.i64.wrap (i : Int) = (i : Int) := IntWalk.i64_in _ (by omega)
  have i1 : (0 : Int) ≤ (i : Int) := by omega
  have i2 : (i : Int) < (C.L.length : Int) := by omega
  have HC1 := Lib.hid c1
  clear c1
  go_enter Tryz.func26, Tryz.ntmps26
  go_wp2_with fail
  refine NV.out.mono ?_
  rintro e w1 ⟨rfl, hb1⟩
  have B1 := Lib.hid hb1
  have H1 := Lib.hid (H.out.below hb1)
  have q1 := H1.out.blk.cell 1 (.int .i64 (i : Int)) rfl
  have f1 := H1.out.blk.free 1
  have hm := H1.out.move (i + 1) (by omega)
  have HM : Hid (PSt C (w1.setCell ⟨C.p, 1, none⟩ (.int .i64 ((i : Int) + 1))) (i + 1) ∧ Mv C.p w1 (w1.setCell ⟨C.p, 1, none⟩ (.int .i64 ((i : Int) + 1)))) := hm
  have c1 := (keep_cell hb1 hbl).trans HC1.out
  have hbl1 := Nat.lt_of_lt_of_le hbl hb1.size
  have c2 := (HM.out.2.cell_ (o := o + i * 3 + 1) hbl1 hne).trans c1
  have p0 := HM.out.1.blk.cell 0 (.slice C.A C.L.length C.c) rfl
  have p1 := HM.out.1.blk.cell 1 (.int .i64 ((i : Int) + 1)) rfl
  rw [hA] at p0
  have MV : Hid (Mv C.p w (w1.setCell ⟨C.p, 1, none⟩ (.int .i64 ((i : Int) + 1)))) := (mv_below hb1).trans_ HM.out.2
  have HP := Lib.hid HM.out.1
  clear hb1 hm HM c1
  go_wp2_with fail
  generalize w1.setCell ⟨C.p, 1, none⟩ (.int .i64 ((i : Int) + 1)) = w2 at *
  go_quiet (fail)
  go_wp2_with fail
  go_ret
  exact ⟨rfl, HP.out.drewN_ _, MV.out.drewN_ _⟩
theorem results_cell4 {fn : Func} {r : Nat} {T : TypeId} (h : fn.results = #[.cell r T]) {w : World} {b : Nat} {a0 a1 a2 a3 : Value} {tmps : Array Value} (k : Blk w b 24 #[a0, a1, a2, a3]) (h3 : tmps.getD r undef = .pointer (some ⟨b, 0, none⟩)) (hT : T = 24 := by rfl) :
 (results fn tmps).run Tryz.prog w = .ok (.agg #[a0, a1, a2, a3]) w := by
 subst hT
 have c0 := k.cell 0 _ rfl
 have c1 := k.cell 1 _ rfl
 have c2 := k.cell 2 _ rfl
 have c3 := k.cell 3 _ rfl
 simp at c0 c1 c2 c3
 simp only [Array.getD_eq_getD_getElem?] at h3
 simp [results, h, go_sem, h3, c0, c1, c2, c3]
theorem blk_put4 {w : World} {b : Nat} {t : TypeId} {a0 a1 a2 a3 : Value} (k : Blk w b t #[a0, a1, a2, a3]) (b0 b1 b2 b3 : Value) : Blk ((((w.setCell ⟨b, 0, none⟩ b0).setCell ⟨b, 1, none⟩ b1).setCell ⟨b, 2, none⟩ b2).setCell ⟨b, 3, none⟩ b3) b t #[b0, b1, b2, b3] :=
 (((k.set_ 0 b0).set_ 1 b1).set_ 2 b2).set_ 3 b3
theorem node_any (k : Int) (t : ByteArray) (A : Option Addr) (n c : Nat) (w : World) : Calls Tryz.prog 25 #[.int .i64 k, .string t, .slice A n c] w fun e w' => e = .returned (.agg #[.int .i64 k, .string t, .int .i64 0, .slice A n c]) ∧ Below w.heap.size w w' := by
 have KF := Lib.hid (Blk.new_ w 24 #[.int .i64 k, .string t, .int .i64 0, .slice A n c])
 have hb0 : Below w.heap.size w (w.alloc (.cells #[.int .i64 k, .string t, .int .i64 0, .slice A n c] 24)) := by (repeat (first | with_reducible assumption | with_reducible exact Below.refl _ _ | (refine Below.setCell ?_ (by first | omega | (simp; done) | (simp; omega)) _) | (refine Below.drewN_ ?_ _) | (refine Below.drew ?_) | (refine Below.alloc ?_ (by first | omega | (simp; done) | (simp; omega)) _)))
 have BF := Lib.hid hb0
 clear hb0
 go_enter Tryz.func25, Tryz.ntmps25
 go_wp2_with fail
 exact bodyPost_ret (v := .agg #[.int .i64 k, .string t, .int .i64 0, .slice A n c]) (results_cell4 (fn := Tryz.f25) rfl KF.out rfl) rfl ⟨rfl, BF.out⟩
theorem flag_any (b : Bool) (w : World) : Calls Tryz.prog 32 #[.bool b] w fun e w' => e = .returned (.int .i64 (flagN b)) ∧ w = w' := by
 cases b
 ·go_enter Tryz.func32, Tryz.ntmps32
  go_wp2
  go_ret
  exact ⟨rfl, rfl⟩
 ·go_enter Tryz.func32, Tryz.ntmps32
  go_wp2
  go_ret
  exact ⟨rfl, rfl⟩
theorem put4_mv (W : World) (r : Nat) (b0 b1 b2 b3 : Value) : Mv r W ((((W.setCell ⟨r, 0, none⟩ b0).setCell ⟨r, 1, none⟩ b1).setCell ⟨r, 2, none⟩ b2).setCell ⟨r, 3, none⟩ b3) := by
 refine ⟨rfl, rfl, rfl, by simp [World.setCell], fun b hb hne => ?_⟩
 have hne : b ≠ r := fun e => hne (by rw [e])
 rw [Below.heap_setCell _ _ _ _ hne, Below.heap_setCell _ _ _ _ hne, Below.heap_setCell _ _ _ _ hne, Below.heap_setCell _ _ _ _ hne]
theorem put1_mv (W : World) (r o : Nat) (b0 : Value) : Mv r W (W.setCell ⟨r, o, none⟩ b0) :=
 ⟨rfl, rfl, rfl, by simp [World.setCell], fun b hb hne => Below.heap_setCell _ _ _ _ (fun e => hne (by rw [e]))⟩
theorem Mv.put {p r : Nat} {w W W' : World} (h : Mv p w W) (hr : w.heap.size ≤ r) (m : Mv r W W') : Mv p w W' :=
 ⟨m.os.trans h.os, m.tape.trans h.tape, m.output.trans h.output, Nat.le_trans h.size m.size, fun b hb hne =>
  (m.block b (Nat.lt_of_lt_of_le hb h.size) (fun e => by injection e with e; omega)).trans (h.block b hb hne)⟩
theorem info_nodes : (Tryz.prog.info? 24).map (fun i => (i.zero, i.size, i.bytes)) = some (some (.agg #[.int .i64 0, .string ⟨#[]⟩, .int .i64 0, .slice none 0 0]), 4, 56) := by kernel_rfl
def NodeOut (C : PC) (w : World) (r : Res Nd) (e : Ending) (w' : World) : Prop := match r with
 | .ok n j => ∃ A c, e = .returned (.agg #[.int .i64 n.k, .string n.t, .int .i64 n.num, .slice A n.kids.length c]) ∧ RepV (From w.heap.size) w' n [.int .i64 n.k, .string n.t, .int .i64 n.num, .slice A n.kids.length c] ∧ PSt C w' j ∧ Mv C.p w w'
 | .bad j => e = badE C j ∧ Mv C.p w w'
 | .dry => True
def POk (C : PC) (f : FuncId) (m : Nat → Res Nd) : Prop := ∀ (w : World) (i : Nat), PSt C w i → m i ≠ .dry → Calls Tryz.prog f #[.pointer (some ⟨C.p, 0, none⟩)] w (NodeOut C w (m i))
def Runs (f : FuncId) : Prop := ∀ (args : Array Value) (w : World), (callFunc f args).run Tryz.prog w = .ok (.enter f args) w
def ListOut (C : PC) (w : World) (r : Res (List Nd × Bool)) (e : Ending) (w' : World) : Prop := match r with
 | .ok x j => ∃ A c, e = .returned (.tuple #[.slice A x.1.length c, .bool x.2]) ∧ Acc w.heap.size w' (.slice A x.1.length c) x.1 ∧ PSt C w' j ∧ Mv C.p w w'
 | .bad j => e = badE C j ∧ Mv C.p w w'
 | .dry => True
theorem cf_fn {f : FuncId} {fn : Func} (hf : Tryz.prog.funcs[f]? = some fn) (hn : (fn.name == "runtime.NumGoroutine") = false) (hb : fn.body.isNone = false) : Runs f := by
 intro args w
 have hn' : ¬ fn.name = "runtime.NumGoroutine" := by simpa using hn
 have hb' : ¬ fn.body = Option.none := by intro h; rw [h] at hb; cases hb
 unfold callFunc
 simp [go_sem, hf, hn', hb']
theorem tNm_size {C : PC} {i : Nat} (h : tNm C.L i = true) : (tTx C.L i).size ≤ maxLen := by
 unfold tNm at h
 unfold tTx maxLen
 rcases hh : C.L[i]? with _ | t
 ·rw [hh] at h; cases h
 ·rw [hh] at h
  simp only [Bool.and_eq_true] at h ⊢
  have := (name_false h.2).2.1
  omega
theorem i64_0 : I64 0 := by unfold I64; omega
theorem i64_flag (b : Bool) : I64 (flagN b) := by unfold I64 flagN; cases b <;> simp
theorem items_len {L : List Tok} {one : Nat → Res Nd} {many : Bool} : ∀ (n : Nat) (l : List Nd) (i : Nat) (x : List Nd × Bool) (j : Nat), itemsM L one many n l i = .ok x j → x.1.length ≤ l.length + n
 | 0, l, i, x, j, h => by rw [itemsM] at h; cases h
 | n + 1, l, i, x, j, h => by
  rw [itemsM] at h
  split at h
  ·injection h with h1 h2; subst h1; simp
  ·split at h
   ·unfold needM at h
    split at h
    ·simp only [Res.bind_ok] at h; injection h with h1 h2; subst h1; simp
    ·cases h
   ·rcases h1 : one i with ⟨y, k⟩ | k | _
    ·rw [h1] at h
     simp only [Res.bind_ok] at h
     split at h
     ·have := items_len n _ _ x j h
      rw [List.length_append, List.length_singleton] at this
      omega
     ·unfold needM at h
      split at h
      ·simp only [Res.bind_ok] at h; injection h with h1 h2; subst h1; simp
      ·cases h
    ·rw [h1] at h; cases h
    ·rw [h1] at h; cases h
theorem list_len {L : List Tok} {one : Nat → Res Nd} {many : Bool} {i : Nat} {x : List Nd × Bool} {j : Nat} (h : listM L one many i = .ok x j) : x.1.length ≤ L.length + 1 := by
 unfold listM needM at h
 split at h
 ·simp only [Res.bind_ok] at h
  have := items_len _ _ _ _ _ h
  simpa using this
 ·cases h
end Go.Proofs.YtgegfbopogcjpaaGreatDoor
