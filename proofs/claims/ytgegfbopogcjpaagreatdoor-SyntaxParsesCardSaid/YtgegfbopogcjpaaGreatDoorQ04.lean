/- The parser's small functions, over a walk's one fact; What Parse answers, in plain words; there is always fuel enough. No program is in sight; How deep a node is, and how many it has: syntax.weigh; syntax.Parse's deferred closure. -/
import Derived.Test.YtgegfbopogcjpaaGreatDoorQ01
import Derived.Test.YtgegfbopogcjpaaGreatDoorQ02
import Derived.Test.YtgegfbopogcjpaaGreatDoorQ03
import Derived.Deep.LoopGhost
import Derived.WalkLawsBesides
import Derived.Lib.Hide
import Derived.IntWalk
namespace Go.Proofs.YtgegfbopogcjpaaGreatDoor
open Go.RowKit
set_option linter.unusedVariables false
set_option linter.unusedSimpArgs false
set_option maxRecDepth 100000
set_option maxHeartbeats 1000000
theorem PSt.fam {C : PC} {w : World} {i0 : Nat} (h0 : PSt C w i0) (j : Nat) (W W' : World) (h : PSt C W j) (hs : W.heap.size ≤ W'.heap.size) (hk : ∀ b, b < w.heap.size → W'.heap[b]? = W.heap[b]?) : PSt C W' j := by
 refine ⟨(hk C.p h0.lt).trans h.blk, ?_, h.ne, ?_, h.len, h.iE, h.at_, h.ok⟩
 ·rcases h0.row with h1 | ⟨b, o, hA, hlt, hc⟩
  ·exact .inl h1
  ·rcases h.row with h2 | ⟨b2, o2, hA2, hlt2, hc2⟩
   ·exact .inl h2
   ·rw [hA] at hA2
    injection hA2 with e
    injection e with e1 e2
    subst e1 e2
    exact .inr ⟨b, o, hA, Nat.lt_of_lt_of_le hlt2 hs, fun j v hj => (World.cell?_of_block (a := ⟨b, o + j, none⟩) (hk b hlt)).trans (hc2 j v hj)⟩
 ·obtain ⟨m, hm⟩ := h0.ml
  obtain ⟨m2, hm2⟩ := h.ml
  exact ⟨m2, (World.cell?_of_block (hk _ (World.block_lt_of_cell? w _ hm))).trans hm2⟩
abbrev SP (C : PC) (w W : World) (i : Nat) (l : List Rc) : Prop := St (fun j W => PSt C W j) C.p (fun b => b < w.heap.size) w W i l
section
variable {C : PC} {w W : World} {i : Nat} {l : List Rc}
theorem PSt.st (h : PSt C w i) : SP C w w i [] := St.init h h.lt h.fam
abbrev badP (C : PC) (i : Nat) : Ending := .panicked [{ v := .iface 39 (.agg #[.int .i64 (posAt C i)]), recovered := false }]
theorem ifN {α : Type} {c : Bool} {A B R : α} (h : (if c = true then A else B) = R) (hc : c = false) : Hid (B = R) := by rw [hc, if_neg (by simp)] at h; exact h
theorem ifY {α : Type} {c : Bool} {A B R : α} (h : (if c = true then A else B) = R) (hc : c = true) : Hid (A = R) := by rw [hc, if_pos rfl] at h; exact h
theorem bindO {α β : Type} {r : Res α} {f : α → Nat → Res β} {R : Res β} {x : α} {j : Nat} (h : r.bind f = R) (e : r = .ok x j) : Hid (f x j = R) := by rw [e] at h; exact h
theorem bindB {α β : Type} {r : Res α} {f : α → Nat → Res β} {R : Res β} {j : Nat} (h : r.bind f = R) (e : r = .bad j) : Res.bad j = R := by rw [e] at h; exact h
theorem bindW {α β : Type} {r : Res α} {f : α → Nat → Res β} {R : Res β} (h : r.bind f = R) (hR : R ≠ .dry) : r ≠ .dry := fun e => hR (by rw [← h, e]; rfl)
theorem haveN (h : SP C w W i l) {s : ByteArray} (ht : tIs C.L s i = false) : Calls Tryz.prog 24 #[.pointer (some ⟨C.p, 0, none⟩), .string s] W fun e W' => e = .returned (.bool false) ∧ Hid (SP C w W' i l) := by
 refine (have_any C W i s h.z).mono ?_
 rw [ht]
 rintro e W' ⟨rfl, h', m⟩
 exact ⟨rfl, h.to m (by simpa using h')⟩
theorem haveY (h : SP C w W i l) {s : ByteArray} (ht : tIs C.L s i = true) : Calls Tryz.prog 24 #[.pointer (some ⟨C.p, 0, none⟩), .string s] W fun e W' => e = .returned (.bool true) ∧ Hid (SP C w W' (i + 1) l) := by
 refine (have_any C W i s h.z).mono ?_
 rw [ht]
 rintro e W' ⟨rfl, h', m⟩
 exact ⟨rfl, h.to m (by simpa using h')⟩
theorem isq (h : SP C w W i l) {s : ByteArray} {b : Bool} (ht : tIs C.L s i = b) : Calls Tryz.prog 28 #[.pointer (some ⟨C.p, 0, none⟩), .slice (some ⟨W.heap.size, 0, none⟩) 1 1] (W.alloc (.cells #[.string s] 9)) fun e W' => e = .returned (.bool b) ∧ Hid (SP C w W' i l) := by
 refine (is_one C W i s h.z).mono ?_
 rw [ht]
 rintro e W' ⟨rfl, hb⟩
 exact ⟨rfl, h.below hb⟩
theorem needq (h : SP C w W i l) (s : ByteArray) : Calls Tryz.prog 27 #[.pointer (some ⟨C.p, 0, none⟩), .string s] W fun e W' => (needM C.L s i = .bad i ∧ e = badP C i ∧ Mv C.p w W') ∨ (needM C.L s i = .ok () (i + 1) ∧ e = .returned (.tuple #[]) ∧ Hid (SP C w W' (i + 1) l)) := by
 refine (need_any C W i s h.z).mono ?_
 unfold needM
 rcases tIs C.L s i with _ | _
 ·rintro e W' ⟨rfl, m⟩
  exact .inl ⟨rfl, rfl, h.mv.trans_ m⟩
 ·rintro e W' ⟨rfl, h', m⟩
  exact .inr ⟨rfl, rfl, h.to m h'⟩
theorem nameq (h : SP C w W i l) : Calls Tryz.prog 26 #[.pointer (some ⟨C.p, 0, none⟩)] W fun e W' => (nameM C.L i = .bad i ∧ e = badP C i ∧ Mv C.p w W') ∨ (∃ t, nameM C.L i = .ok t (i + 1) ∧ t.size ≤ maxLen ∧ e = .returned (.string t) ∧ Hid (SP C w W' (i + 1) l)) := by
 have hsz := fun h => tNm_size (C := C) (i := i) h
 refine (name_any C W i h.z).mono ?_
 unfold nameM
 rcases ht : tNm C.L i with _ | _
 ·rintro e W' ⟨rfl, m⟩
  exact .inl ⟨rfl, rfl, h.mv.trans_ m⟩
 ·rintro e W' ⟨rfl, h', m⟩
  exact .inr ⟨_, rfl, hsz ht, rfl, h.to m h'⟩
theorem namedq (h : SP C w W i l) (k : Nat) (hk : k ≤ 1) {b : Bool} (ht : tNm C.L (i + k) = b) : Calls Tryz.prog 70 #[.pointer (some ⟨C.p, 0, none⟩), .int .i64 (k : Int)] W fun e W' => e = .returned (.bool b) ∧ Hid (SP C w W' i l) := by
 refine (named_any C W i k h.z hk).mono ?_
 rw [ht]
 rintro e W' ⟨rfl, hb⟩
 exact ⟨rfl, h.below hb⟩
theorem subq {G : Nat → Prop} {f : FuncId} {m : Nat → Res Nd} (hf : POk C f m) (h : St (fun j W => PSt C W j) C.p G w W i l) (hw : m i ≠ .dry) : Calls Tryz.prog f #[.pointer (some ⟨C.p, 0, none⟩)] W fun e W' => (∃ k, m i = .bad k ∧ e = badP C k ∧ Mv C.p w W') ∨ (∃ x j A c V, m i = .ok x j ∧ e = .returned (.agg #[.int .i64 x.k, .string x.t, .int .i64 x.num, .slice A x.kids.length c]) ∧ Hid (St (fun j W => PSt C W j) C.p G w W' j (nd V x A c :: l))) := by
 refine (hf W i h.z hw).mono ?_
 rcases hm : m i with ⟨x, j⟩ | k | _
 ·rintro e W' ⟨A, c, rfl, hr, h', m'⟩
  refine .inr ⟨x, j, A, c, fun b => W.heap.size ≤ b ∧ b < W'.heap.size, rfl, rfl, h.add (h.to m' h') (RepV.keep (Nat.le_refl _) (fun b hv hlt => ⟨rfl, hv, hlt⟩) _ _ hr) fun b hb => hb⟩
 ·rintro e W' ⟨rfl, m'⟩
  exact .inl ⟨k, rfl, rfl, h.mv.trans_ m'⟩
 ·exact absurd hm hw
theorem nodeq (h : SP C w W i l) (k : Int) (t : ByteArray) (A : Option Addr) (n c : Nat) : Calls Tryz.prog 25 #[.int .i64 k, .string t, .slice A n c] W fun e W' => e = .returned (.agg #[.int .i64 k, .string t, .int .i64 0, .slice A n c]) ∧ Hid (SP C w W' i l) := by
 refine (node_any k t A n c W).mono ?_
 rintro e W' ⟨rfl, hb⟩
 exact ⟨rfl, h.below hb⟩
theorem listq {f : FuncId} {m : Nat → Res Nd} {many : Bool} (hcf : Runs f) (hf : POk C f m) (h : SP C w W i l) (hw : listM C.L m many i ≠ .dry) :
 Calls Tryz.prog 30 #[.pointer (some ⟨C.p, 0, none⟩), .func (.func f) #[.pointer (some ⟨C.p, 0, none⟩)] #[], .bool many] W fun e W' => (∃ k, listM C.L m many i = .bad k ∧ e = badP C k ∧ Mv C.p w W') ∨ (∃ ks d j A c V, listM C.L m many i = .ok (ks, d) j ∧ ks.length ≤ 4001 ∧ e = .returned (.tuple #[.slice A ks.length c, .bool d]) ∧ Hid (SP C w W' j (rw_ w.heap.size V ks A c :: l))) := by
 have hl := h.z.len
 refine (list_any C f m many hcf hf W i h.z hw).mono ?_
 rcases hm : listM C.L m many i with ⟨⟨ks, d⟩, j⟩ | k | _
 ·rintro e W' ⟨A, c, rfl, hr, h', m'⟩
  have hn : ks.length ≤ 4001 := by have := list_len hm; simp only at this; omega
  refine .inr ⟨ks, d, j, A, c, fun b => W.heap.size ≤ b ∧ b < W'.heap.size, rfl, hn, rfl, h.add (h.to m' h') ?_ fun b hb => hb⟩
  obtain ⟨xs, h1, ho⟩ := hr
  refine ⟨xs, RepCs.keep (Nat.le_refl _) (fun b hv hlt => ⟨rfl, ⟨hv.1, hlt⟩, hv.2⟩) _ _ h1, fun g e => ho.lt g e, ho.1, ?_⟩
  rcases ho.2 with h3 | ⟨g, cap, cur, e, h4, h5⟩
  ·exact .inl h3
  ·exact .inr ⟨g, cap, cur, e, Nat.le_trans h.mv.size h4, h5⟩
 ·rintro e W' ⟨rfl, m'⟩
  exact .inl ⟨k, rfl, rfl, h.mv.trans_ m'⟩
 ·exact absurd hm hw
theorem num_pos (h : SP C w W i l) {j o : Nat} {x : Nd} (e : numM C.L j = .ok x o) : 0 ≤ x.num ∧ I64 x.num := by
 unfold numM at e
 rcases hL : C.L[j]? with _ | t
 ·rw [hL] at e; cases e
 ·have hok := h.z.ok t (List.mem_of_getElem? hL)
  rw [hL] at e
  simp only at e
  split at e
  ·rename_i hk
   injection e with e
   subst e
   exact ⟨(num_ok hok (.inl hk)).2.2.2, (num_ok hok (.inl hk)).2.2.1⟩
  ·split at e
   ·rename_i hk
    injection e with e
    subst e
    exact ⟨(num_ok hok (.inr hk)).2.2.2, (num_ok hok (.inr hk)).2.2.1⟩
   ·cases e
theorem badO {R : Res Nd} {k : Nat} {W' : World} (h : Res.bad k = R) (m : Mv C.p w W') : NodeOut C w R (badP C k) W' := by
 rw [← h]
 exact ⟨rfl, m⟩
theorem finO {R : Res Nd} {r0 : Nat} {a0 a1 a2 a3 : Value} {nk nn : Int} {nt : ByteArray} {nl : List Nd} {A : Option Addr} {c : Nat} {V : Nat → Prop} (h : SP C w W i (nd V (.mk nk nt nn nl) A c :: bx r0 24 #[a0, a1, a2, a3] :: l)) (hR : Hid (Res.ok (.mk nk nt nn nl) i = R)) :
 Blk ((((W.setCell ⟨r0, 0, none⟩ (.int .i64 nk)).setCell ⟨r0, 1, none⟩ (.string nt)).setCell ⟨r0, 2, none⟩ (.int .i64 nn)).setCell ⟨r0, 3, none⟩ (.slice A nl.length c)) r0 24 #[.int .i64 nk, .string nt, .int .i64 nn, .slice A nl.length c] ∧
 NodeOut C w R (.returned (.agg #[.int .i64 nk, .string nt, .int .i64 nn, .slice A nl.length c])) ((((W.setCell ⟨r0, 0, none⟩ (.int .i64 nk)).setCell ⟨r0, 1, none⟩ (.string nt)).setCell ⟨r0, 2, none⟩ (.int .i64 nn)).setCell ⟨r0, 3, none⟩ (.slice A nl.length c)) := by
 have h' := h.f1.put4 (.int .i64 nk) (.string nt) (.int .i64 nn) (.slice A nl.length c)
 refine ⟨h'.one, ?_⟩
 rw [← hR.out]
 exact ⟨A, c, rfl, RepV.keep (Nat.le_refl _) (fun b hv _ => ⟨rfl, (h'.inn _ (.tail _ (.head _)) b hv).1⟩) _ _ h'.f1.one, h'.z, h'.mv⟩
theorem finP {R : Res Nd} {r0 : Nat} {nk nn : Int} {nt : ByteArray} {nl : List Nd} {A : Option Addr} {c m : Nat} {V : Nat → Prop} (h : SP C w W i (nd V (.mk nk nt nn nl) A c :: bx r0 24 #[.int .i64 nk, .string nt, .int .i64 nn, .slice A m c] :: l)) (hm : nl.length = m) (hR : Hid (Res.ok (.mk nk nt nn nl) i = R)) :
 Blk W r0 24 #[.int .i64 nk, .string nt, .int .i64 nn, .slice A m c] ∧ NodeOut C w R (.returned (.agg #[.int .i64 nk, .string nt, .int .i64 nn, .slice A m c])) W := by
 refine ⟨h.f1.one, ?_⟩
 subst hm
 rw [← hR.out]
 exact ⟨A, c, rfl, RepV.keep (Nat.le_refl _) (fun b hv _ => ⟨rfl, (h.inn _ (.head _) b hv).1⟩) _ _ h.one, h.z, h.mv⟩
theorem haveG (h : SP C w W i l) (s : ByteArray) : Calls Tryz.prog 24 #[.pointer (some ⟨C.p, 0, none⟩), .string s] W fun e W' => e = .returned (.bool (tIs C.L s i)) ∧ Hid (SP C w W' (if tIs C.L s i = true then i + 1 else i) l) := by
 refine (have_any C W i s h.z).mono ?_
 rintro e W' ⟨rfl, h', m⟩
 exact ⟨rfl, h.to m h'⟩
theorem Blk.all4 {W : World} {b : Nat} {T : TypeId} {a0 a1 a2 a3 : Value} (k : Blk W b T #[a0, a1, a2, a3]) : W.frozen? ⟨b, 0, none⟩ = false ∧ W.frozen? ⟨b, 1, none⟩ = false ∧ W.frozen? ⟨b, 2, none⟩ = false ∧ W.frozen? ⟨b, 3, none⟩ = false ∧ W.cell? ⟨b, 0, none⟩ = some a0 ∧ W.cell? ⟨b, 1, none⟩ = some a1 ∧ W.cell? ⟨b, 2, none⟩ = some a2 ∧ W.cell? ⟨b, 3, none⟩ = some a3 :=
 ⟨k.free 0, k.free 1, k.free 2, k.free 3, k.cell 0 _ rfl, k.cell 1 _ rfl, k.cell 2 _ rfl, k.cell 3 _ rfl⟩
end
end Go.Proofs.YtgegfbopogcjpaaGreatDoor
namespace Go.Proofs.YtgegfbopogcjpaaGreatDoor
set_option linter.unusedVariables false
set_option linter.unusedSimpArgs false
theorem Res.assoc_ {α β γ : Type} (r : Res α) (f : α → Nat → Res β) (g : β → Nat → Res γ) : (r.bind f).bind g = r.bind fun a j => (f a j).bind g := by cases r <;> rfl
def nd0 : Nd := .mk 0 ⟨#[]⟩ 0 []
structure Pa where
 n : Nd
 e : Int
 p : Nat
def unitR (L : List Tok) : Res Nd := unitM L (L.length + 1) (L.length + 1) [] 0
def paOf (e : Int) (p : Nat) (L : List Tok) (z : Nat) (R : Res Nd) : Pa :=
 if e ≠ 0 then ⟨nd0, e, p⟩ else match R with
 | .ok n _ => if fitsN n = true then ⟨n, 0, 0⟩ else ⟨nd0, 1, 0⟩
 | .bad j => ⟨nd0, 2, match L[j]? with | some t => t.p | none => z⟩
 | .dry => ⟨nd0, 0, 0⟩
def parseOf (s : ByteArray) : Pa := paOf (lexOf s).e (lexOf s).p (lexOf s).l s.size (unitR (lexOf s).l)
section
variable {L : List Tok}
def Wet {α : Type} (L : List Tok) (r : Res α) (i : Nat) : Prop := r ≠ .dry ∧ ∀ x j, r = .ok x j → i < j ∧ j ≤ L.length
def Wet0 {α : Type} (L : List Tok) (r : Res α) (i : Nat) : Prop := r ≠ .dry ∧ ∀ x j, r = .ok x j → i ≤ j ∧ j ≤ L.length
theorem Wet.weak {α : Type} {r : Res α} {i : Nat} (h : Wet L r i) : Wet0 L r i := ⟨h.1, fun x j e => ⟨by have := (h.2 x j e).1; omega, (h.2 x j e).2⟩⟩
theorem Wet0.less {α : Type} {r : Res α} {i k : Nat} (h : Wet0 L r i) (hk : k ≤ i) : Wet0 L r k := ⟨h.1, fun x j e => ⟨by have := (h.2 x j e).1; omega, (h.2 x j e).2⟩⟩
theorem Wet0.more {α : Type} {r : Res α} {i k : Nat} (h : Wet0 L r i) (hk : k < i) : Wet L r k := ⟨h.1, fun x j e => ⟨by have := (h.2 x j e).1; omega, (h.2 x j e).2⟩⟩
theorem Wet0.bind {α β : Type} {r : Res α} {f : α → Nat → Res β} {i : Nat} (h : Wet0 L r i) (hf : ∀ x j, i ≤ j → j ≤ L.length → Wet0 L (f x j) j) : Wet0 L (r.bind f) i := by
 cases r with
 | ok x j =>
  obtain ⟨h1, h2⟩ := h.2 x j rfl
  exact (hf x j h1 h2).less h1
 | bad j => exact ⟨by simp, fun x k e => by simp at e⟩
 | dry => exact absurd rfl h.1
theorem Wet.bind {α β : Type} {r : Res α} {f : α → Nat → Res β} {i : Nat} (h : Wet L r i) (hf : ∀ x j, i < j → j ≤ L.length → Wet0 L (f x j) j) : Wet L (r.bind f) i := by
 cases r with
 | ok x j =>
  obtain ⟨h1, h2⟩ := h.2 x j rfl
  exact (hf x j h1 h2).more h1
 | bad j => exact ⟨by simp, fun x k e => by simp at e⟩
 | dry => exact absurd rfl h.1
theorem wet_ok {α : Type} {x : α} {i j : Nat} (h : i < j) (hj : j ≤ L.length) : Wet L (.ok x j) i := ⟨by simp, fun y k e => by injection e with e1 e2; omega⟩
theorem wet0_ok {α : Type} {x : α} {i : Nat} (hj : i ≤ L.length) : Wet0 L (.ok x i) i := ⟨by simp, fun y k e => by injection e with e1 e2; omega⟩
theorem wet_bad {α : Type} {i j : Nat} : Wet L (.bad j : Res α) i := ⟨by simp, fun y k e => by cases e⟩
theorem tIs_in {s : ByteArray} {i : Nat} (h : tIs L s i = true) : i < L.length := by
 unfold tIs at h
 rcases Nat.lt_or_ge i L.length with h1 | h1
 ·exact h1
 ·rw [List.getElem?_eq_none h1] at h; cases h
theorem tNm_in {i : Nat} (h : tNm L i = true) : i < L.length := by
 unfold tNm at h
 rcases Nat.lt_or_ge i L.length with h1 | h1
 ·exact h1
 ·rw [List.getElem?_eq_none h1] at h; cases h
theorem tIn_in {ss : List ByteArray} {i : Nat} (h : tIn L ss i = true) : i < L.length := by
 unfold tIn at h
 obtain ⟨s, -, hs⟩ := List.any_eq_true.1 h
 exact tIs_in hs
theorem need_wet (s : ByteArray) (i : Nat) : Wet L (needM L s i) i := by
 unfold needM
 split
 ·rename_i h; exact wet_ok (by omega) (tIs_in h)
 ·exact wet_bad
theorem name_wet (i : Nat) : Wet L (nameM L i) i := by
 unfold nameM
 split
 ·rename_i h; exact wet_ok (by omega) (tNm_in h)
 ·exact wet_bad
theorem num_wet (i : Nat) : Wet L (numM L i) i := by
 unfold numM
 rcases hL : L[i]? with _ | t
 ·exact wet_bad
 ·have hi : i < L.length := by
   rcases Nat.lt_or_ge i L.length with h1 | h1
   ·exact h1
   ·rw [List.getElem?_eq_none h1] at hL; cases hL
  simp only
  split
  ·exact wet_ok (by omega) hi
  ·split
   ·exact wet_ok (by omega) hi
   ·exact wet_bad
def From_ (L : List Tok) (one : Nat → Res Nd) (i : Nat) : Prop := ∀ j, i ≤ j → j ≤ L.length → Wet L (one j) j
theorem From_.less {one : Nat → Res Nd} {i k : Nat} (h : From_ L one i) (hk : i ≤ k) : From_ L one k := fun j hj => h j (by omega)
theorem items_wet {one : Nat → Res Nd} {many : Bool} : ∀ (n : Nat) (l : List Nd) (i : Nat), From_ L one i → i ≤ L.length → L.length < n + i → Wet L (itemsM L one many n l i) i
 | 0, l, i, h, hi, hn => by omega
 | n + 1, l, i, h, hi, hn => by
  rw [itemsM]
  split
  ·rename_i hc; exact wet_ok (by omega) (tIs_in hc.2)
  ·split
   ·rename_i hc
    exact (((need_wet ⟨#[41]⟩ (i + 1)).weak.more (by omega)).bind fun _ k _ hk => wet0_ok hk)
   ·refine (h i (Nat.le_refl _) hi).bind fun x j hj hjl => ?_
    split
    ·rename_i hc
     have := tIs_in hc
     exact ((items_wet n (l ++ [x]) (j + 1) (h.less (by omega)) (by omega) (by omega)).weak.less (by omega))
    ·exact ((need_wet ⟨#[41]⟩ j).bind fun _ k _ hk => wet0_ok hk).weak
theorem list_wet {one : Nat → Res Nd} {many : Bool} {i : Nat} (h : From_ L one (i + 1)) (hi : i ≤ L.length) : Wet L (listM L one many i) i := by
 unfold listM needM
 split
 ·rename_i hc
  have := tIs_in hc
  simp only [Res.bind_ok]
  exact (items_wet _ [] (i + 1) h (by omega) (by omega)).weak.more (by omega)
 ·exact wet_bad
theorem typ_wet : ∀ (F i : Nat), i ≤ L.length → L.length < F + i → Wet L (typM L F i) i
 | 0, i, hi, hF => by omega
 | F + 1, i, hi, hF => by
  have IH : From_ L (typM L F) (i + 1) := fun j hj hjl => typ_wet F j hjl (by omega)
  rw [typM]
  split
  ·rename_i h; exact wet_ok (by omega) (tIs_in h)
  ·split
   ·rename_i h; exact wet_ok (by omega) (tIs_in h)
   ·split
    ·rename_i h
     have := tIs_in h
     refine Wet.bind ((list_wet (IH.less (by omega)) (by omega)).weak.more (by omega)) fun x j hj hjl => ?_
     exact ((IH j (by omega) hjl).bind fun r k _ hk => wet0_ok hk).weak
    ·exact (name_wet i).bind fun t j _ hj => wet0_ok hj
theorem param_wet (F i : Nat) (hi : i ≤ L.length) (hF : L.length < F + i) : Wet L (paramM L F i) i :=
 (typ_wet F i hi hF).bind fun t j _ hj => ((name_wet j).bind fun s k _ hk => wet0_ok hk).weak
theorem chain_wet {part : Nat → Res Nd} {sg : List ByteArray} : ∀ (n : Nat) (x : Nd) (i : Nat), From_ L part i → i ≤ L.length → L.length < n + i → Wet0 L (chainM L part sg n x i) i
 | 0, x, i, h, hi, hn => by omega
 | n + 1, x, i, h, hi, hn => by
  rw [chainM]
  split
  ·rename_i hc
   have := tIn_in hc
   exact ((h (i + 1) (by omega) (by omega)).weak.bind fun y j hj hjl => chain_wet n _ j (h.less (by omega)) hjl (by omega)).less (by omega)
  ·exact wet0_ok hi
theorem product_from {u : Nat → Res Nd} {i : Nat} (h : From_ L u i) : From_ L (productM L u) i := fun j hj hjl =>
 (h j hj hjl).bind fun x k hk hkl => chain_wet _ _ _ (h.less (by omega)) hkl (by omega)
theorem sum_from {u : Nat → Res Nd} {i : Nat} (h : From_ L u i) : From_ L (sumM L u) i := fun j hj hjl =>
 (product_from h j hj hjl).bind fun x k hk hkl => chain_wet _ _ _ ((product_from h).less (by omega)) hkl (by omega)
theorem expr_from {u : Nat → Res Nd} {i : Nat} (h : From_ L u i) : From_ L (exprM L u) i := fun j hj hjl => by
 refine (sum_from h j hj hjl).bind fun x k hk hkl => ?_
 split
 ·rename_i hc
  have := tIn_in hc
  exact ((sum_from h (k + 1) (by omega) (by omega)).bind fun y m _ hm => wet0_ok hm).weak.less (by omega)
 ·exact wet0_ok hkl
theorem round_wet {u : Nat → Res Nd} {i : Nat} (h : From_ L u (i + 1)) : Wet L (roundM L u i) i :=
 (need_wet _ i).bind fun _ j hj hjl => ((expr_from h j (by omega) hjl).bind fun x k _ hk => ((need_wet _ k).bind fun _ m _ hm => wet0_ok hm).weak).weak
theorem call_wet {u : Nat → Res Nd} {x : Nd} {i : Nat} (h : From_ L u (i + 1)) (hi : i ≤ L.length) : Wet L (callM L u x i) i :=
 (list_wet (expr_from h) hi).bind fun y j _ hj => wet0_ok hj
theorem made_wet {u : Nat → Res Nd} : ∀ (n : Nat) (l : List Nd) (i : Nat), From_ L u i → i ≤ L.length → L.length < n + i → Wet L (madeM L u n l i) i
 | 0, l, i, h, hi, hn => by omega
 | n + 1, l, i, h, hi, hn => by
  rw [madeM]
  split
  ·rename_i hc; exact wet_ok (by omega) (tIs_in hc.2)
  ·refine (expr_from h i (Nat.le_refl _) hi).bind fun x j hj hjl => ?_
   split
   ·rename_i hc
    have := tIs_in hc
    exact (made_wet n (l ++ [x]) (j + 1) (h.less (by omega)) (by omega) (by omega)).weak.less (by omega)
   ·exact ((need_wet _ j).bind fun _ k _ hk => wet0_ok hk).weak
theorem first_wet {u : Nat → Res Nd} {i : Nat} (h : From_ L u (i + 1)) : Wet L (firstM L u i) i := by
 unfold firstM
 have hr : ∀ {s : ByteArray} {k : Int}, tIs L s i = true → Wet L ((roundM L u (i + 1)).bind fun x j => .ok (oneM k x) j) i := fun {s k} hc => by
  exact ((round_wet (h.less (by omega))).weak.more (by omega)).bind fun x j _ hj => wet0_ok hj
 split
 ·exact round_wet h
 ·split
  ·exact ((name_wet (i + 1)).weak.more (by omega)).bind fun s j _ hj => wet0_ok hj
  ·split
   ·rename_i hc; exact hr hc
   ·split
    ·rename_i hc; exact hr hc
    ·split
     ·rename_i hc; exact wet_ok (by omega) (tIs_in hc)
     ·split
      ·rename_i hc; exact hr hc
      ·split
       ·rename_i hn
        have := tNm_in hn
        split
        ·rename_i hc
         have := tIs_in hc
         exact ((made_wet _ [] (i + 2) (h.less (by omega)) (by omega) (by omega)).weak.more (by omega)).bind fun l j _ hj => wet0_ok hj
        ·exact wet_ok (by omega) (by omega)
       ·exact num_wet i
theorem post_wet {u : Nat → Res Nd} : ∀ (n : Nat) (x : Nd) (i : Nat), From_ L u (i + 1) → i ≤ L.length → L.length < n + i → Wet0 L (postM L u n x i) i
 | 0, x, i, h, hi, hn => by omega
 | n + 1, x, i, h, hi, hn => by
  rw [postM]
  split
  ·rename_i hc
   have := tIs_in hc
   exact ((name_wet (i + 1)).weak.bind fun s j hj hjl => post_wet n _ j (h.less (by omega)) hjl (by omega)).less (by omega)
  ·split
   ·exact ((call_wet h hi).bind fun y j hj hjl => post_wet n y j (h.less (by omega)) hjl (by omega)).weak
   ·exact wet0_ok hi
theorem unary_wet : ∀ (F i : Nat), i ≤ L.length → L.length < F + i → Wet L (unaryM L F i) i
 | 0, i, hi, hF => by omega
 | F + 1, i, hi, hF => by
  have IH : From_ L (unaryM L F) (i + 1) := fun j hj hjl => unary_wet F j hjl (by omega)
  have hs : ∀ {s : ByteArray} {k : Int}, tIs L s i = true → Wet L ((unaryM L F (i + 1)).bind fun x j => .ok (oneM k x) j) i := fun {s k} hc => by
   have := tIs_in hc
   exact ((IH (i + 1) (by omega) (by omega)).weak.more (by omega)).bind fun x j _ hj => wet0_ok hj
  rw [unaryM]
  split
  ·rename_i hc; exact hs hc
  ·split
   ·rename_i hc; exact hs hc
   ·exact (first_wet IH).bind fun x j hj hjl => post_wet _ _ _ (IH.less (by omega)) hjl (by omega)
theorem unary_from (F i : Nat) (h : L.length < F + i) : From_ L (unaryM L F) i := fun j hj hjl => unary_wet F j hjl (by omega)
theorem exprF_wet (F i : Nat) (hi : i ≤ L.length) (h : L.length < F + i) : Wet L (exprF L F i) i := expr_from (unary_from F i h) i (Nat.le_refl _) hi
theorem closed_wet (x : Nd) (i : Nat) : Wet L (closedM L x i) i := (need_wet _ i).bind fun _ j _ hj => wet0_ok hj
theorem simple_wet (F : Nat) : ∀ (n : Nat) (called : Bool) (x : Nd) (i : Nat), i ≤ L.length → L.length < n + i → L.length < F + i + 1 → Wet L (simpleM L F n called x i) i
 | 0, called, x, i, hi, hn, hF => by omega
 | n + 1, called, x, i, hi, hn, hF => by
  rw [simpleM]
  split
  ·rename_i hc
   have := tIs_in hc
   exact ((name_wet (i + 1)).bind fun s j hj hjl => (simple_wet F n called _ j hjl (by omega) (by omega)).weak).weak.more (by omega)
  ·split
   ·exact (call_wet (unary_from F (i + 1) (by omega)) hi).bind fun y j hj hjl => (simple_wet F n true y j hjl (by omega) (by omega)).weak
   ·split
    ·rename_i hc
     have := tIs_in hc.2
     exact ((exprF_wet F (i + 1) (by omega) (by omega)).bind fun y j _ hj => (closed_wet _ j).weak).weak.more (by omega)
    ·split
     ·exact closed_wet _ i
     ·exact wet_bad
theorem blk_wet {st : Nat → Res Nd} : ∀ (n : Nat) (l : List Nd) (i : Nat), From_ L st i → i ≤ L.length → L.length < n + i → Wet L (blkM L st n l i) i
 | 0, l, i, h, hi, hn => by omega
 | n + 1, l, i, h, hi, hn => by
  rw [blkM]
  split
  ·rename_i hc; exact wet_ok (by omega) (tIs_in hc)
  ·exact (h i (Nat.le_refl _) hi).bind fun x j hj hjl => (blk_wet n (l ++ [x]) j (h.less (by omega)) hjl (by omega)).weak
theorem block_wet {st : Nat → Res Nd} {i : Nat} (h : From_ L st (i + 1)) : Wet L (blockM L st i) i :=
 (need_wet _ i).bind fun _ j hj hjl => (blk_wet _ [] j (h.less (by omega)) hjl (by omega)).weak
theorem stat_wet : ∀ (F i : Nat), i ≤ L.length → L.length + 1 < F + i → Wet L (statM L F i) i
 | 0, i, hi, hF => by omega
 | F + 1, i, hi, hF => by
  have IH : From_ L (statM L F) (i + 1) := fun j hj hjl => stat_wet F j hjl (by omega)
  have HU := unary_from (L := L) F (i + 1) (by omega)
  rw [statM]
  split
  ·rename_i hc
   refine ((round_wet (HU.less (by omega))).weak.more (by omega)).bind fun c j hj hjl => ?_
   refine ((block_wet (IH.less (by omega))).bind fun b k hk hkl => ?_).weak
   split
   ·exact ((block_wet (IH.less (by omega))).bind fun e m _ hm => wet0_ok hm).weak.less (by omega)
   ·exact wet0_ok hkl
  ·split
   ·exact ((round_wet (HU.less (by omega))).weak.more (by omega)).bind fun c j hj hjl => ((block_wet (IH.less (by omega))).bind fun b k _ hk => wet0_ok hk).weak
   ·split
    ·rename_i hc
     have := tIs_in hc
     exact ((exprF_wet F (i + 1) (by omega) (by omega)).weak.more (by omega)).bind fun x j _ hj => (closed_wet _ j).weak
    ·split
     ·exact ((round_wet (HU.less (by omega))).weak.more (by omega)).bind fun x j _ hj => (closed_wet _ j).weak
     ·split
      ·refine (typ_wet F i hi (by omega)).bind fun t j hj hjl => ((name_wet j).bind fun s k hk hkl => ((need_wet _ k).bind fun _ m hm hml => ?_).weak).weak
       exact ((exprF_wet F m hml (by omega)).bind fun x o _ ho => (closed_wet _ o).weak).weak
      ·exact (name_wet i).bind fun s j hj hjl => (simple_wet F _ _ _ j hjl (by omega) (by omega)).weak
theorem fields_wet (F : Nat) : ∀ (n : Nat) (l : List Nd) (i : Nat), i ≤ L.length → L.length < n + i → L.length < F + i → Wet L (fieldsM L F n l i) i
 | 0, l, i, hi, hn, hF => by omega
 | n + 1, l, i, hi, hn, hF => by
  rw [fieldsM]
  split
  ·rename_i hc; exact wet_ok (by omega) (tIs_in hc.2)
  ·exact (typ_wet F i hi hF).bind fun t j hj hjl => ((name_wet j).bind fun s k hk hkl => ((need_wet _ k).bind fun _ m hm hml => (fields_wet F n _ m hml (by omega) (by omega)).weak).weak).weak
theorem decl_wet (F i : Nat) (hi : i ≤ L.length) (hF : L.length < F + i) : Wet L (declM L F i) i := by
 have HP : ∀ k, i < k → From_ L (paramM L F) k := fun k hk j hj hjl => param_wet F j hjl (by omega)
 unfold declM
 split
 ·exact ((name_wet (i + 1)).weak.more (by omega)).bind fun s j hj hjl => ((need_wet _ j).bind fun _ k hk hkl => ((fields_wet F _ [] k hkl (by omega) (by omega)).bind fun l m _ hm => wet0_ok hm).weak).weak
 ·split
  ·rename_i hc
   have := tIs_in hc
   refine ((typ_wet F (i + 1) (by omega) (by omega)).weak.more (by omega)).bind fun t j hj hjl => ((name_wet j).bind fun s k hk hkl => ?_).weak
   split
   ·exact ((list_wet (HP _ (by omega)) hkl).bind fun x m _ hm => (closed_wet _ m).weak).weak
   ·exact (closed_wet _ k).weak
  ·have h0 : ∀ i0, i ≤ i0 → i0 ≤ L.length → Wet L ((typM L F i0).bind fun t j => (nameM L j).bind fun s k =>
    if tIs L ⟨#[40]⟩ k = true then (listM L (paramM L F) true k).bind fun x m => (blockF L F m).bind fun b o => .ok (.mk 7 s (flagN (tIs L ⟨#[115, 116, 97, 116, 105, 99]⟩ i) + 2 * flagN x.2) (x.1 ++ [t, b])) o
    else (needM L ⟨#[61]⟩ k).bind fun _ m => (numM L (if tIs L ⟨#[45]⟩ m = true then m + 1 else m)).bind fun x o => closedM L (.mk 6 s (flagN (tIs L ⟨#[115, 116, 97, 116, 105, 99]⟩ i)) [t, if tIs L ⟨#[45]⟩ m = true then .mk x.k x.t (-x.num) x.kids else x]) o) i0 := by
    intro i0 h1 h2
    refine (typ_wet F i0 h2 (by omega)).bind fun t j hj hjl => ((name_wet j).bind fun s k hk hkl => ?_).weak
    split
    ·refine ((list_wet (HP _ (by omega)) hkl).bind fun x m hm hml => ?_).weak
     exact ((block_wet (fun q hq hql => stat_wet F q hql (by omega))).bind fun b o _ ho => wet0_ok ho).weak
    ·refine ((need_wet _ k).bind fun _ m hm hml => ?_).weak
     have hn : Wet0 L (numM L (if tIs L ⟨#[45]⟩ m = true then m + 1 else m)) m := by
      split
      ·exact (num_wet (m + 1)).weak.less (by omega)
      ·exact (num_wet m).weak
     exact hn.bind fun x o _ ho => (closed_wet _ o).weak
   by_cases hst : tIs L ⟨#[115, 116, 97, 116, 105, 99]⟩ i = true
   ·have := tIs_in hst
    have h3 := (h0 (i + 1) (by omega) (by omega)).weak.more (k := i) (by omega)
    simp only [if_pos hst]
    exact h3
   ·have h3 := h0 i (Nat.le_refl _) hi
    simp only [if_neg hst]
    exact h3
theorem unit_wetN (F : Nat) : ∀ (n : Nat) (l : List Nd) (i : Nat), i ≤ L.length → L.length < n + i → L.length < F + i → unitM L F n l i ≠ .dry
 | 0, l, i, hi, hn, hF => by omega
 | n + 1, l, i, hi, hn, hF => by
  rw [unitM]
  split
  ·rename_i hlt
   rcases hd : declM L F i with ⟨x, j⟩ | j | _
   ·have := (decl_wet F i hi hF).2 x j hd
    simp only [Res.bind_ok]
    exact unit_wetN F n _ j this.2 (by omega) (by omega)
   ·simp
   ·exact absurd hd (decl_wet F i hi hF).1
  ·simp
theorem unit_wet (L : List Tok) : unitR L ≠ .dry := unit_wetN _ _ [] 0 (Nat.zero_le _) (by omega) (by omega)
end
end Go.Proofs.YtgegfbopogcjpaaGreatDoor
namespace Go.Proofs.YtgegfbopogcjpaaGreatDoor
open Go.RowKit
set_option linter.unusedVariables false
set_option linter.unusedSimpArgs false
set_option maxRecDepth 100000
set_option maxHeartbeats 1000000
theorem wmany_eq (n : Nd) : many n = manyL n.kids + 1 := by cases n; rw [many]; rfl
theorem wdeep_eq (n : Nd) : deep n = deepL n.kids + 1 := by cases n; rw [deep]; rfl
theorem wmanyL_append (l r : List Nd) : manyL (l ++ r) = manyL l + manyL r := by
 induction l with
 | nil => simp [manyL]
 | cons a l ih => rw [List.cons_append, manyL, manyL, ih]; omega
theorem wdeepL_append (l r : List Nd) : deepL (l ++ r) = max (deepL l) (deepL r) := by
 induction l with
 | nil => simp [deepL]
 | cons a l ih => rw [List.cons_append, deepL, deepL, ih]; omega
theorem wmany_take {l : List Nd} {k : Nat} (h : k < l.length) : manyL (l.take (k + 1)) = manyL (l.take k) + many l[k] := by
 rw [List.take_succ_eq_append_getElem h, wmanyL_append]; simp [manyL]
theorem wdeep_take {l : List Nd} {k : Nat} (h : k < l.length) : deepL (l.take (k + 1)) = max (deepL (l.take k)) (deep l[k]) := by
 rw [List.take_succ_eq_append_getElem h, wdeepL_append]; simp [deepL]
theorem wmany_part {l : List Nd} {k : Nat} (h : k < l.length) : manyL (l.take k) + many l[k] ≤ manyL l := by
 rw [← wmany_take h]
 have := wmanyL_append (l.take (k + 1)) (l.drop (k + 1))
 rw [List.take_append_drop] at this
 omega
theorem wdeep_part {l : List Nd} {k : Nat} (h : k < l.length) : deep l[k] ≤ deepL l := by
 have h1 := wdeepL_append (l.take (k + 1)) (l.drop (k + 1))
 rw [List.take_append_drop, wdeep_take h] at h1
 omega
def wOk (C D : Int) (n : Nd) : Bool := decide (C + many n ≤ 700) && decide (D + deep n ≤ 17)
theorem grow_set' (w : World) (b i : Nat) (u : Value) : w.grownBy (w.setCell ⟨b, i, none⟩ u) (some b) :=
 ⟨rfl, rfl, rfl, by simp [World.setCell], fun k hk hne => Below.heap_setCell w _ u k (fun e => hne (by rw [e]))⟩
theorem grow_alloc' (w : World) (o : Obj) (row : Option Nat) : w.grownBy (w.alloc o) row := ⟨rfl, rfl, rfl, by simp, fun i hi _ => Below.heap_alloc w o i hi⟩
theorem grow_below' {B : Nat} {w w' : World} {pm : Nat} (h : w.grownBy w' (some pm)) (hB : B ≤ pm) (hw : B ≤ w.heap.size) : Below B w w' :=
 ⟨h.os, h.tape, h.output, h.size, fun k hk => h.block k (Nat.lt_of_lt_of_le hk hw) (by intro e; injection e with e; omega)⟩
def WeOut (pm : Nat) (C D : Int) (n : Nd) (w : World) (e : Ending) (w' : World) : Prop :=
 w.grownBy w' (some pm) ∧ (wOk C D n = true ∧ e = .returned (.bool true) ∧ Blk w' pm 3 #[.int .i64 (C + many n)] ∨ wOk C D n = false ∧ e = .returned (.bool false))
def WeRel (pm : Nat) (C D : Int) (l : List Nd) (w : World) (i : Value) (wr : World) : Prop :=
 ∃ k : Nat, i = .int .i64 k ∧ k ≤ l.length ∧ Hid (w.grownBy wr (some pm) ∧ Blk wr pm 3 #[.int .i64 (C + 1 + manyL (l.take k))] ∧ C + 1 + manyL (l.take k) ≤ 700 ∧ D + deepL (l.take k) ≤ 16)
def Weighs (w0 : World) (n : Nd) : Prop :=
 ∀ (cs : List Value) (w : World) (pm : Nat) (C D : Int), RepN w0 n cs → Below w0.heap.size w0 w → w0.heap.size ≤ pm → Blk w pm 3 #[.int .i64 C] → 0 ≤ C → C ≤ 700 → 1 ≤ D → D ≤ 17 →
  Calls Tryz.prog 13 #[.agg cs.toArray, .int .i64 D, .pointer (some ⟨pm, 0, none⟩)] w (WeOut pm C D n w)
theorem weigh_all (w0 : World) : ∀ (N : Nat) (n : Nd), many n ≤ N → Weighs w0 n
 | 0, n, h => absurd h (by have := many_pos n; omega)
 | N + 1, n, hN => by
  intro cs w pm C D hr hb0 hpm hk hC0 hC hD0 hD
  have IH := Lib.hid (fun m (hm : m ∈ n.kids) => weigh_all w0 N m (by have := many_kid hm; omega))
  obtain ⟨A, c, rfl, hR, hcap, hlm, hn64, hts⟩ := hr.four
  have HR := Lib.hid hR
  clear hr hR hN
  have hmn := wmany_eq n
  have hdn := wdeep_eq n
  have hlt := hk.lt
  have hwle : w0.heap.size ≤ w.heap.size := hb0.size
  have hne : pm ≠ w.heap.size := by omega
  have c0 := hk.cell 0 (.int .i64 C) rfl
  have f0 := hk.free 0
  have K1 := Lib.hid ((hk.set_ 0 (.int .i64 (C + 1))).alloc (.cells #[.int .i64 n.k, .string n.t, .int .i64 n.num, .slice A n.kids.length c] 24))
  have G1 := Lib.hid ((grow_set' w pm 0 (.int .i64 (C + 1))).trans (grow_alloc' _ (.cells #[.int .i64 n.k, .string n.t, .int .i64 n.num, .slice A n.kids.length c] 24) (some pm)))
  obtain ⟨V, HV⟩ : ∃ V, Hid (wOk C D n = V) := ⟨_, rfl⟩
  by_cases h1 : D ≤ 16
  ·by_cases h2 : C + 1 ≤ 700
   ·have d1 : decide (16 < D) = false := by rw [decide_eq_false_iff_not]; omega
    have d2 : decide (700 < C + 1) = false := by rw [decide_eq_false_iff_not]; omega
    have hll := manyL_len n.kids
    have hl9 : n.kids.length ≤ 9223372036854775807 := by unfold maxLen at hlm; omega
    go_enter Tryz.func13, Tryz.ntmps13
    go_wp2_with fail
    generalize n.kids = l at *
    go_loopw [25] (fun i wr => WeRel pm C D l w i wr) (fun i _ => l.length - (intOf i).toNat)
    case atStart => exact ⟨0, rfl, Nat.zero_le _, Lib.hid ⟨G1.out, by simpa [manyL, Blk] using K1.out, by simp [manyL]; omega, by simp [deepL]; omega⟩⟩
    case round =>
     obtain ⟨k, rfl, hk1, HL⟩ := hrel
     clear K1 G1 c0 f0
     have c1 := HL.out.2.1.cell 0 (.int .i64 (C + 1 + manyL (l.take k))) rfl
     have f1 := HL.out.2.1.free 0
     have hc7 := HL.out.2.2.1
     have hd16 := HL.out.2.2.2
     by_cases hlt' : k < l.length
     ·have hi : (k : Int) < (l.length : Int) := by omega
      obtain ⟨b, o, cs, hA, hbl, hc, hrep⟩ := RepNL.at_ l _ HR.out k hlt'
      subst hA
      obtain ⟨A', c', rfl, -⟩ := hrep.four
      have bw := hb0.trans (grow_below' HL.out.1 hpm hwle)
      have z0 := (bw.cell (p := ⟨b, o + k * 4 + 0, none⟩) hbl).trans (hc 0 _ rfl)
      have z1 := (bw.cell (p := ⟨b, o + k * 4 + 1, none⟩) hbl).trans (hc 1 _ rfl)
      have z2 := (bw.cell (p := ⟨b, o + k * 4 + 2, none⟩) hbl).trans (hc 2 _ rfl)
      have z3 := (bw.cell (p := ⟨b, o + k * 4 + 3, none⟩) hbl).trans (hc 3 _ rfl)
      rw [Nat.add_zero] at z0
      have BW := Lib.hid bw
      have HREP := Lib.hid hrep
      have hm1 := wmany_part hlt'
      have hd1 := wdeep_part hlt'
      have HT := Lib.hid (wmany_take hlt')
      have HTD := Lib.hid (wdeep_take hlt')
      have HI := Lib.hid (IH.out _ (List.getElem_mem hlt'))
      have hsz := bw.size
      have hps := HL.out.2.1.lt
      clear hc bw hrep
      generalize l[k] = x at *
      have KX := Lib.hid (HL.out.2.1.alloc (.cells #[.int .i64 x.k, .string x.t, .int .i64 x.num, .slice A' x.kids.length c'] 24))
      have GX := Lib.hid (HL.out.1.trans (grow_alloc' wr (.cells #[.int .i64 x.k, .string x.t, .int .i64 x.num, .slice A' x.kids.length c'] 24) (some pm)))
      have BX := Lib.hid (BW.out.alloc hsz (.cells #[.int .i64 x.k, .string x.t, .int .i64 x.num, .slice A' x.kids.length c'] 24))
      go_wp2_with fail
      refine (HI.out _ _ pm (C + 1 + manyL (l.take k)) (D + 1) HREP.out BX.out hpm KX.out (by omega) (by omega) (by omega) (by omega)).mono ?_
      rintro e w2 ⟨g2, (⟨o2, rfl, k2⟩ | ⟨o2, rfl⟩)⟩
      ·have G2 := Lib.hid (GX.out.trans g2)
       have K2 := Lib.hid k2
       have hx1 : C + 1 + manyL (l.take k) + many x ≤ 700 ∧ D + 1 + deep x ≤ 17 := by
        unfold wOk at o2
        simp only [Bool.and_eq_true, decide_eq_true_eq] at o2
        exact o2
       have HX1 := Lib.hid hx1
       clear g2 k2 o2 hx1
       go_wp2
       go_roundw
       case rel =>
        refine ⟨k + 1, by go_num, by omega, Lib.hid ⟨G2.out, ?_, ?_, ?_⟩⟩
        ·rw [HT.out]
         have := K2.out
         rw [show C + 1 + ((manyL (l.take k) + many x : Nat) : Int) = C + 1 + manyL (l.take k) + many x by omega]
         exact this
        ·rw [HT.out]; have := HX1.out.1; omega
        ·rw [HTD.out]; have := HX1.out.2; omega
       case measure => (first | (simp [intOf]; done) | (simp [intOf]; omega))
      ·have G2 := Lib.hid (GX.out.trans g2)
       have hvf : V = false := by
        rw [← HV.out]
        unfold wOk at o2 ⊢
        rw [Bool.and_eq_false_iff] at o2 ⊢
        simp only [decide_eq_false_iff_not] at o2 ⊢
        omega
       have HVF := Lib.hid hvf
       clear g2 o2 hvf
       go_wp2
       go_ret
       exact ⟨G2.out, .inr ⟨HV.out.trans HVF.out, rfl⟩⟩
     ·have hi : ¬ (k : Int) < (l.length : Int) := by omega
      obtain rfl : k = l.length := by omega
      have hvt : V = true := by
       rw [← HV.out]
       unfold wOk
       rw [List.take_length] at hc7 hd16
       rw [Bool.and_eq_true]
       simp only [decide_eq_true_eq]
       omega
      have HVT := Lib.hid hvt
      have KF : Hid (Blk wr pm 3 #[.int .i64 (C + many n)]) := by
       have := HL.out.2.1
       rw [List.take_length] at this
       rw [hmn]
       rw [show C + ((manyL l + 1 : Nat) : Int) = C + 1 + manyL l by omega]
       exact this
      clear hvt
      go_wp2
      go_ret
      exact ⟨HL.out.1, .inl ⟨HV.out.trans HVT.out, rfl, KF.out⟩⟩
   ·have d1 : decide (16 < D) = false := by rw [decide_eq_false_iff_not]; omega
    have d2 : decide (700 < C + 1) = true := by rw [decide_eq_true_eq]; omega
    have hvf : V = false := by
     rw [← HV.out]
     unfold wOk
     rw [Bool.and_eq_false_iff]
     simp only [decide_eq_false_iff_not]
     omega
    have HVF := Lib.hid hvf
    clear hvf
    go_enter Tryz.func13, Tryz.ntmps13
    go_wp2
    go_ret
    exact ⟨G1.out, .inr ⟨HV.out.trans HVF.out, rfl⟩⟩
  ·have d1 : decide (16 < D) = true := by rw [decide_eq_true_eq]; omega
   have hdp : 1 ≤ deep n := by omega
   have hvf : V = false := by
    rw [← HV.out]
    unfold wOk
    rw [Bool.and_eq_false_iff]
    simp only [decide_eq_false_iff_not]
    omega
   have HVF := Lib.hid hvf
   clear hvf
   go_enter Tryz.func13, Tryz.ntmps13
   go_wp2
   go_ret
   exact ⟨G1.out, .inr ⟨HV.out.trans HVF.out, rfl⟩⟩
theorem weigh_any (w0 : World) (n : Nd) : Weighs w0 n := weigh_all w0 _ n (Nat.le_refl _)
theorem wOk_fits (n : Nd) : wOk 0 1 n = fitsN n := by
 unfold wOk fitsN
 congr 1
 ·rw [decide_eq_decide]; omega
 ·rw [decide_eq_decide]; omega
end Go.Proofs.YtgegfbopogcjpaaGreatDoor
namespace Go.Proofs.YtgegfbopogcjpaaGreatDoor
open Go.RowKit
set_option linter.unusedVariables false
set_option linter.unusedSimpArgs false
set_option maxRecDepth 100000
set_option maxHeartbeats 1000000
theorem results_par {fn : Func} (h : fn.results = #[.cell 2 24, .cell 3 27]) {w : World} {b c : Nat} {a0 a1 a2 a3 x0 x1 : Value} {tmps : Array Value} (k : Blk w b 24 #[a0, a1, a2, a3]) (k2 : Blk w c 27 #[x0, x1])
 (h2 : tmps.getD 2 undef = .pointer (some ⟨b, 0, none⟩)) (h3 : tmps.getD 3 undef = .pointer (some ⟨c, 0, none⟩)) : (results fn tmps).run Tryz.prog w = .ok (.tuple #[.agg #[a0, a1, a2, a3], .agg #[x0, x1]]) w := by
 have c0 := k.cell 0 _ rfl
 have c1 := k.cell 1 _ rfl
 have c2 := k.cell 2 _ rfl
 have c3 := k.cell 3 _ rfl
 have d0 := k2.cell 0 _ rfl
 have d1 := k2.cell 1 _ rfl
 simp at c0 c1 c2 c3 d0 d1
 simp only [Array.getD_eq_getD_getElem?] at h2 h3
 simp [results, h, go_sem, h2, h3, c0, c1, c2, c3, d0, d1]
def PaO (P : Pa) (w : World) (e : Ending) (w' : World) : Prop :=
 ∃ A c, e = .returned (.tuple #[.agg #[.int .i64 P.n.k, .string P.n.t, .int .i64 P.n.num, .slice A P.n.kids.length c], .agg #[.int .i64 P.e, .int .i64 P.p]]) ∧ RepN w' P.n [.int .i64 P.n.k, .string P.n.t, .int .i64 P.n.num, .slice A P.n.kids.length c] ∧ Below w.heap.size w w'
def PaOut (s : ByteArray) (w : World) (e : Ending) (w' : World) : Prop := PaO (parseOf s) w e w'
theorem repN_zero (w : World) : RepN w nd0 [.int .i64 0, .string ⟨#[]⟩, .int .i64 0, .slice none 0 0] := by
 unfold RepN
 exact ⟨none, 0, rfl, by unfold RepNL; trivial, Nat.le_refl _, Nat.zero_le _, i64_0, Nat.zero_le _⟩
theorem catchU_idle (p q : Addr) (w : World) :
 CallsD Tryz.prog 11 #[.pointer (some p), .pointer (some q)] .returning w fun e u' w' => e = .returned (.tuple #[]) ∧ u' = .returning ∧ w' = w := by
 refine callsD_of_wpS Tryz.func11 rfl fun c₀ cs hu => ?_
 apply wpS_seq
 apply wpS_region
 simp [wpOpsS, go_sem, recoverD, hu, Tryz.ntmps11, Exit.thenS, Array.replicate]
 refine wpS_of_wp ?_
 go_wp2
 cases c₀
 simp_all [bodyPostS, results, Tryz.results11]
theorem taU_bad (k : Int) (w : World) : (Instr.typeAssert (.iface 39 (.agg #[.int .i64 k])) 20 39 true).run Tryz.prog w = .ok (.tuple #[.agg #[.int .i64 k], .bool true]) w := by kernel_rfl
theorem catchU_bad (b1 b2 : Nat) (a0 a1 a2 a3 x0 x1 : Value) (k : Int) (w : World) (h1 : Blk w b1 24 #[a0, a1, a2, a3]) (h2 : Blk w b2 27 #[x0, x1]) (hne : b1 ≠ b2) :
 CallsD Tryz.prog 11 #[.pointer (some ⟨b1, 0, none⟩), .pointer (some ⟨b2, 0, none⟩)] (.panicking [{ v := .iface 39 (.agg #[.int .i64 k]), recovered := false }]) w fun e u' w' =>
  e = .returned (.tuple #[]) ∧ u' = .panicking [{ v := .iface 39 (.agg #[.int .i64 k]), recovered := true }] ∧ Blk w' b1 24 #[.int .i64 0, .string ⟨#[]⟩, .int .i64 0, .slice none 0 0] ∧ Blk w' b2 27 #[.int .i64 2, .int .i64 k] ∧ w'.os = w.os ∧ w'.tape = w.tape ∧ w'.output = w.output ∧ w.heap.size ≤ w'.heap.size ∧ ∀ j, j < w.heap.size → j ≠ b1 → j ≠ b2 → w'.heap[j]? = w.heap[j]? := by
 obtain ⟨f0, f1, f2, f3, g0, g1, g2, g3⟩ := h1.all4
 have k0 := h2.free 0
 have k1 := h2.free 1
 have l0 := h2.cell 0 x0 rfl
 have l1 := h2.cell 1 x1 rfl
 have H1 := Lib.hid h1
 have H2 := Lib.hid h2
 have hta := taU_bad k
 have hl1 := h1.lt
 have hl2 := h2.lt
 have hlb1 := Nat.ne_of_lt hl1
 have hlb2 := Nat.ne_of_lt hl2
 clear h1 h2
 refine callsD_of_wpS Tryz.func11 rfl fun c₀ cs hu => ?_
 apply wpS_seq
 apply wpS_region
 simp [wpOpsS, go_sem, recoverD, hu, Tryz.ntmps11, Exit.thenS, Array.replicate]
 refine wpS_of_wp ?_
 go_wp2
 have hbl : Below w.heap.size w (w.alloc (.cells #[.int .i64 k] 39)) := (Below.refl _ _).alloc (Nat.le_refl _) _
 have KB := Blk.new_ w 39 #[.int .i64 k]
 replace H1 := Lib.hid (H1.out.below hbl)
 replace H2 := Lib.hid (H2.out.below hbl)
 have HB := Lib.hid hbl
 clear hbl f0 f1 f2 f3 g0 g1 g2 g3 k0 k1 l0 l1 hta
 generalize w.alloc (.cells #[.int .i64 k] 39) = w1 at *
 generalize hb3 : w.heap.size = b3 at *
 obtain ⟨f0, f1, f2, f3, g0, g1, g2, g3⟩ := H1.out.all4
 have k0 := H2.out.free 0
 have k1 := H2.out.free 1
 have l0 := H2.out.cell 0 x0 rfl
 have l1 := H2.out.cell 1 x1 rfl
 have m0 := KB.cell 0 (.int .i64 k) rfl
 have hne2 : b2 ≠ b1 := Ne.symm hne
 clear KB
 go_region
 go_wp2
 have hne2 : b2 ≠ b1 := Ne.symm hne
 have KN := ((blk_put4 H1.out (.int .i64 0) (.string ⟨#[]⟩) (.int .i64 0) (.slice none 0 0)).far (p := ⟨b2, 0, none⟩) hne (.int .i64 2)).far (p := ⟨b2, 1, none⟩) hne (.int .i64 k)
 have KG := ((((Blk.far H2.out (p := ⟨b1, 0, none⟩) hne2 (.int .i64 0)).far (p := ⟨b1, 1, none⟩) hne2 (.string ⟨#[]⟩)).far (p := ⟨b1, 2, none⟩) hne2 (.int .i64 0)).far (p := ⟨b1, 3, none⟩) hne2 (.slice none 0 0)).set_ 0 (.int .i64 2) |>.set_ 1 (.int .i64 k)
 have m1 := put4_mv w1 b1 (.int .i64 0) (.string ⟨#[]⟩) (.int .i64 0) (.slice none 0 0)
 have m2 := put1_mv ((((w1.setCell ⟨b1, 0, none⟩ (.int .i64 0)).setCell ⟨b1, 1, none⟩ (.string ⟨#[]⟩)).setCell ⟨b1, 2, none⟩ (.int .i64 0)).setCell ⟨b1, 3, none⟩ (.slice none 0 0)) b2 0 (.int .i64 2)
 have m3 := put1_mv (((((w1.setCell ⟨b1, 0, none⟩ (.int .i64 0)).setCell ⟨b1, 1, none⟩ (.string ⟨#[]⟩)).setCell ⟨b1, 2, none⟩ (.int .i64 0)).setCell ⟨b1, 3, none⟩ (.slice none 0 0)).setCell ⟨b2, 0, none⟩ (.int .i64 2)) b2 1 (.int .i64 k)
 simp only [List.setIfInBounds_toArray, List.set_cons_zero, List.set_cons_succ] at KG
 generalize ((((w1.setCell ⟨b1, 0, none⟩ (.int .i64 0)).setCell ⟨b1, 1, none⟩ (.string ⟨#[]⟩)).setCell ⟨b1, 2, none⟩ (.int .i64 0)).setCell ⟨b1, 3, none⟩ (.slice none 0 0)) = W1 at *
 generalize W1.setCell ⟨b2, 0, none⟩ (.int .i64 2) = W2 at *
 generalize W2.setCell ⟨b2, 1, none⟩ (.int .i64 k) = W3 at *
 have hs1 := m1.size
 have hs2 := m2.size
 have hs3 := m3.size
 have hs0 := HB.out.size
 refine ⟨rfl, _, by cases c₀; rfl, _, results_none rfl _ _ _, rfl, rfl, Blk.drw KN, Blk.drw KG, m3.os.trans (m2.os.trans (m1.os.trans HB.out.os)), m3.tape.trans (m2.tape.trans (m1.tape.trans HB.out.tape)), m3.output.trans (m2.output.trans (m1.output.trans HB.out.output)), Nat.le_trans hs0 (Nat.le_trans hs1 (Nat.le_trans hs2 hs3)), fun j hj h1 h2 => ?_⟩
 have e1 : some j ≠ some b1 := fun e => h1 (by injection e)
 have e2 : some j ≠ some b2 := fun e => h2 (by injection e)
 exact (m3.block j (by omega) e2).trans ((m2.block j (by omega) e2).trans ((m1.block j (by omega) e1).trans (HB.out.block j (hb3 ▸ hj))))
theorem row_box {w : World} {A : Option Addr} {L : List Tok} (h : Row w A (L.flatMap tkV)) (hok : ∀ t ∈ L, TokOk t.k t.s) (hne : L ≠ []) {b : Nat} {T : TypeId} {cs : Array Value} (hb : Blk w b T cs) (hz : ∀ (j : Nat) (k : Int), cs[j]? = some (.int .i64 k) → k = 0) :
 ∀ b' o, A = some ⟨b', o, none⟩ → b' ≠ b := by
 obtain ⟨t, L', rfl⟩ := List.exists_cons_of_ne_nil hne
 have ht := hok t (.head _)
 rcases h with h | ⟨b2, o2, hA, hlt, hc⟩
 ·simp [tkV] at h
 ·intro b' o e1 e2
  rw [hA] at e1
  injection e1 with e1
  injection e1 with e1 e3
  subst e1 e2
  have := hc 0 (.int .i64 t.k) (by simp [tkV])
  unfold Blk at hb
  simp only [World.cell?, hb] at this
  have h0 : t.k = 0 := hz (o2 + 0) t.k (by simpa using this)
  rw [h0] at ht
  rcases ht with ⟨h, -⟩ | ⟨h, -⟩ | ⟨h, -⟩ <;> omega
theorem lexN_p (s : ByteArray) : ∀ (n : Nat) (note : Bool) (k : Nat) (acc : List Tok), (lexN s n note k acc).e = 0 → (lexN s n note k acc).p = 0
 | 0, _, _, _, _ => rfl
 | n + 1, note, k, acc, h => by
  rw [lexN] at h ⊢
  split
  ·rename_i h1
   rw [if_pos h1] at h
   split
   ·rename_i h2
    rw [if_pos h2] at h
    exact lexN_p s n _ _ _ h
   ·rename_i h2
    rw [if_neg h2] at h
    exact absurd h h2
  ·rfl
theorem lexOf_p {s : ByteArray} (h : (lexOf s).e = 0) : (lexOf s).p = 0 ∧ s.size ≤ 4000 := by
 unfold lexOf at h ⊢
 split
 ·rename_i h1
  rw [if_pos h1] at h
  cases h
 ·rename_i h1
  rw [if_neg h1] at h
  exact ⟨lexN_p _ _ _ _ _ h, by omega⟩
theorem node_zero (j : Nat) (k : Int) (hj : (#[.int .i64 0, .string ⟨#[]⟩, .int .i64 0, .slice none 0 0] : Array Value)[j]? = some (.int .i64 k)) : k = 0 := by
 match j with
 | 0 => simpa using hj.symm
 | 1 => simp at hj
 | 2 => simpa using hj.symm
 | 3 => simp at hj
 | j + 4 => simp at hj
theorem fault_zero (j : Nat) (k : Int) (hj : (#[.int .i64 0, .int .i64 0] : Array Value)[j]? = some (.int .i64 k)) : k = 0 := by
 match j with
 | 0 => simpa using hj.symm
 | 1 => simpa using hj.symm
 | j + 2 => simp at hj
theorem cfU (cap : Array Value) (w : World) : (invoke (.fn (.func 11) cap) #[]).run Tryz.prog w = .ok (.enter 11 cap) w := by
 have := cf_fn Tryz.func11 (by kernel_rfl) (by kernel_rfl) cap w
 simp [invoke]
theorem leaveU_bad {w w1 : World} {a0 a1 a2 a3 x0 x1 : Value} {P : Pa} {q : Int} (tmps : Array Value) (h1 : Blk w1 w.heap.size 24 #[a0, a1, a2, a3]) (h2 : Blk w1 (w.heap.size + 1) 27 #[x0, x1]) (hb : Below w.heap.size w w1)
 (t2 : tmps.getD 2 undef = .pointer (some ⟨w.heap.size, 0, none⟩)) (t3 : tmps.getD 3 undef = .pointer (some ⟨w.heap.size + 1, 0, none⟩)) (hn : P.n = nd0) (hE : P.e = 2) (hp : (P.p : Int) = q) :
 Leaves Tryz.prog Tryz.f6 tmps (PaO P w) [{ target := .fn (.func 11) #[.pointer (some ⟨w.heap.size, 0, none⟩), .pointer (some ⟨w.heap.size + 1, 0, none⟩)], args := #[] }] (.panicking [{ v := .iface 39 (.agg #[.int .i64 q]), recovered := false }]) w1 := by
 refine leaves_cons (f := 11) (args := #[.pointer (some ⟨w.heap.size, 0, none⟩), .pointer (some ⟨w.heap.size + 1, 0, none⟩)]) (by simp) (cfU _ _) ?_
 refine (catchU_bad _ _ _ _ _ _ _ _ q w1 h1 h2 (by omega)).mono ?_
 rintro e u' w' ⟨rfl, rfl, k1, k2, e1, e2, e3, e4, e5⟩
 refine ⟨_, results_par (by kernel_rfl) k1 k2 t2 t3, ?_⟩
 exact ⟨none, 0, by rw [hn, hE, hp]; rfl, by rw [hn]; exact repN_zero _, hb.trans ⟨e1, e2, e3, e4, fun j hj => e5 j (Nat.lt_of_lt_of_le hj hb.size) (by omega) (by omega)⟩⟩
theorem leaveU_ok {w w1 : World} {n : Nd} {A : Option Addr} {c m : Nat} {e p : Int} {P : Pa} (tmps : Array Value) (h1 : Blk w1 w.heap.size 24 #[.int .i64 n.k, .string n.t, .int .i64 n.num, .slice A m c]) (hm : n.kids.length = m) (h2 : Blk w1 (w.heap.size + 1) 27 #[.int .i64 e, .int .i64 p]) (hb : Below w.heap.size w w1)
 (t2 : tmps.getD 2 undef = .pointer (some ⟨w.heap.size, 0, none⟩)) (t3 : tmps.getD 3 undef = .pointer (some ⟨w.heap.size + 1, 0, none⟩)) (hn : P.n = n) (hE : P.e = e) (hp : (P.p : Int) = p) (hr : RepN w1 n (cN n A c)) :
 Leaves Tryz.prog Tryz.f6 tmps (PaO P w) [{ target := .fn (.func 11) #[.pointer (some ⟨w.heap.size, 0, none⟩), .pointer (some ⟨w.heap.size + 1, 0, none⟩)], args := #[] }] .returning w1 := by
 refine leaves_cons (f := 11) (args := #[.pointer (some ⟨w.heap.size, 0, none⟩), .pointer (some ⟨w.heap.size + 1, 0, none⟩)]) (by simp) (cfU _ _) ?_
 refine (catchU_idle _ _ w1).mono ?_
 rintro e u' w' ⟨rfl, rfl, rfl⟩
 subst hm
 exact ⟨_, results_par (by kernel_rfl) h1 h2 t2 t3, A, c, by rw [hn, hE, hp], by rw [hn]; exact hr, hb⟩
theorem mv_low {p : Nat} {w W : World} (h : Mv p w W) (hp : w.heap.size ≤ p) : Below w.heap.size w W :=
 ⟨h.os, h.tape, h.output, h.size, fun b hb => h.block b hb (fun e => by injection e with e; omega)⟩
abbrev GU (w : World) (p : Nat) : Nat → Prop := fun b => b < w.heap.size ∨ (w.heap.size + 1 < b ∧ b ≤ p)
theorem uni_st {w W : World} {A : Option Addr} {c E : Nat} {L : List Tok} (hb : Below w.heap.size w W) (h1 : Blk W w.heap.size 24 #[.int .i64 0, .string ⟨#[]⟩, .int .i64 0, .slice none 0 0])
 (h2 : Blk W (w.heap.size + 1) 27 #[.int .i64 0, .int .i64 0]) (hrow : Row W A (L.flatMap tkV)) (hok : ∀ t ∈ L, TokOk t.k t.s) (hlen : L.length ≤ 4000) (hE : E ≤ 4000) (hml : ML w) :
 St (fun j W' => PSt ⟨W.heap.size, A, c, L, E⟩ W' j) W.heap.size (GU w W.heap.size) w (W.alloc (.cells #[.slice A L.length c, .int .i64 0, .int .i64 (E : Int)] 42)) 0
  [rw_ w.heap.size (fun _ => False) [] none 0, bx w.heap.size 24 #[.int .i64 0, .string ⟨#[]⟩, .int .i64 0, .slice none 0 0], bx (w.heap.size + 1) 27 #[.int .i64 0, .int .i64 0]] := by
 have hba : Below W.heap.size W (W.alloc (.cells #[.slice A L.length c, .int .i64 0, .int .i64 (E : Int)] 42)) := (Below.refl _ _).alloc (Nat.le_refl _) _
 have hlt2 := h2.lt
 have hsz : (W.alloc (.cells #[.slice A L.length c, .int .i64 0, .int .i64 (E : Int)] 42)).heap.size = W.heap.size + 1 := by simp
 have hrb : ∀ b o, L ≠ [] → A = some ⟨b, o, none⟩ → b < W.heap.size ∧ b ≠ w.heap.size ∧ b ≠ w.heap.size + 1 := fun b o hne e => by
  have e1 := row_box hrow hok hne h1 node_zero b o e
  have e2 := row_box hrow hok hne h2 fault_zero b o e
  refine ⟨?_, e1, e2⟩
  rcases hrow with h | ⟨b2, o2, hA, hlt, -⟩
  ·obtain ⟨t, L', rfl⟩ := List.exists_cons_of_ne_nil hne
   simp [tkV] at h
  ·rw [hA] at e
   injection e with e
   injection e with e
   omega
 obtain ⟨mm, hmm⟩ := hml
 have hmlt := World.block_lt_of_cell? w _ hmm
 have hP : PSt ⟨W.heap.size, A, c, L, E⟩ (W.alloc (.cells #[.slice A L.length c, .int .i64 0, .int .i64 (E : Int)] 42)) 0 :=
  ⟨Blk.new_ _ _ _, hrow.keep hba, fun hne b o e => by have := (hrb b o hne e).1; show b ≠ W.heap.size; omega, ⟨mm, (World.cell?_of_block ((hba.block _ (Nat.lt_of_lt_of_le hmlt hb.size)).trans (hb.block _ hmlt))).trans hmm⟩, hlen, hE, Nat.zero_le _, hok⟩
 refine ⟨.inr ⟨hlt2, Nat.le_refl _⟩, fun b hG => ?_, ?_, hP, fun j W1 W2 h hs hk => ?_, ?_, ?_, ?_⟩
 ·rcases hG with hG | hG
  ·have := hb.size; omega
  ·omega
 ·exact (mv_below hb).below_ hba
 ·have hkp := hk W.heap.size (.inr ⟨hlt2, Nat.le_refl _⟩)
  refine ⟨hkp.trans h.blk, ?_, h.ne, ?_, h.len, h.iE, h.at_, h.ok⟩
  ·rcases h.row with h' | ⟨b, o, hA, hlt, hc⟩
   ·exact .inl h'
   ·by_cases hne : L = []
    ·exact .inl (by rw [hne]; rfl)
    ·have hr := hrb b o hne hA
     have hG : GU w W.heap.size b := by
      unfold GU
      rcases Nat.lt_or_ge b w.heap.size with h | h
      ·exact .inl h
      ·exact .inr ⟨by omega, by omega⟩
     exact .inr ⟨b, o, hA, Nat.lt_of_lt_of_le hlt hs, fun j v hj => (World.cell?_of_block (a := ⟨b, o + j, none⟩) (hk b hG)).trans (hc j v hj)⟩
  ·obtain ⟨m2, hm2⟩ := h.ml
   exact ⟨m2, (World.cell?_of_block (hk _ (.inl hmlt))).trans hm2⟩
 ·intro r hr
  rcases List.mem_cons.1 hr with rfl | hr
  ·exact ⟨[], rfl, fun g e => (nomatch e), World.ownsRow_nil _ _ _ _⟩
  ·rcases List.mem_cons.1 hr with rfl | hr
   ·exact h1.alloc _
   ·rw [List.mem_singleton] at hr
    subst hr
    exact h2.alloc _
 ·intro r hr b hv
  rcases List.mem_cons.1 hr with rfl | hr
  ·exact hv.elim
  ·rcases List.mem_cons.1 hr with rfl | hr
   ·have e : b = w.heap.size := hv
    subst e
    exact ⟨Nat.le_refl _, by omega, fun hG => by rcases hG with h | h <;> omega⟩
   ·rw [List.mem_singleton] at hr
    subst hr
    have e : b = w.heap.size + 1 := hv
    subst e
    exact ⟨by omega, by omega, fun hG => by rcases hG with h | h <;> omega⟩
 ·refine .cons (fun s hs b hv => hv.elim) (.cons (fun s hs b hv hv2 => ?_) (.cons (fun s hs => (nomatch hs)) .nil))
  rw [List.mem_singleton] at hs
  subst hs
  have e : b = w.heap.size := hv
  have e2 : b = w.heap.size + 1 := hv2
  omega
end Go.Proofs.YtgegfbopogcjpaaGreatDoor
