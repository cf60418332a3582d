/- The parser's functions that take a node, over a walk's one fact; The parser: an operation's number; The parser: what serves its chains; What the older walks of the reader use; Plain: a word among words written with blanks between them. No program is in sight; (For seats without api.Type.) The document's words on names: letters, digits, a text among texts, what is a name; The reference's reader of units: its memory; what has been read where it may have failed before. -/
import Derived.Test.YtgegfbopogcjpaaGreatDoorQ01
import Derived.Test.YtgegfbopogcjpaaGreatDoorQ02
import Derived.Test.YtgegfbopogcjpaaGreatDoorQ09
import Derived.Laws.AppendOwnNone
import Derived.Deep.Cut
import Derived.Lib.IndexMore
import Derived.ProofKit
namespace Go.Proofs.YtgegfbopogcjpaaGreatDoor
open Go.RowKit
set_option linter.unusedVariables false
set_option linter.unusedSimpArgs false
set_option maxRecDepth 100000
set_option maxHeartbeats 2000000
section
variable {ι : Type} {Z : ι → World → Prop} {p : Nat} {G : Nat → Prop} {w W W' : World} {i : ι} {l : List Rc}
theorem St.row1 {y : Nat} {V : Nat → Prop} {x : Nd} {A : Option Addr} {c : Nat} (h : St Z p G w W i (bx y 24 (cN x A c).toArray :: nd V x A c :: l)) :
 St Z p G w W i (rw_ w.heap.size (fun b => b = y ∨ V b) [x] (some ⟨y, 0, none⟩) 1 :: l) := by
 have hy := h.inn _ (.head _) y rfl
 refine h.join (fun b hb => hb) fun h1 hx hd => ?_
 have h1 : Blk W y 24 (cN x A c).toArray := h1
 have hx : RepV V W x (cN x A c) := hx
 refine ⟨cN x A c, ⟨cN x A c, [], by simp, RepV.keep (Nat.le_refl _) (fun b hv _ => ⟨rfl, .inr hv, fun e => hd y rfl (by have e2 : some b = some y := e; injection e2 with e2; exact e2 ▸ hv)⟩) _ _ hx, rfl⟩, fun g e => .inl (by have e2 : some y = some g := e; injection e2 with e2; exact e2.symm), rfl, .inr ⟨y, 1, _, rfl, hy.1, h1, Nat.le_refl _, by unfold maxLen; omega, rfl, rfl⟩⟩
theorem rep_call {V : Nat → Prop} {W : World} {B5 : Nat} {v : Value} {x : Nd} {cs xs : List Value} {ks : List Nd} (ho : W.ownsRow B5 24 4 v (1 + ks.length) (cs ++ xs)) (hV : ∀ g, v.ownBlock = some g → V g) (hx : RepV V W x cs) (hk : RepCs V W ks xs) :
 ∃ A c, v = .slice A (ks.length + 1) c ∧ RepV V W (.mk 25 ⟨#[]⟩ 0 (x :: ks)) (cN (.mk 25 ⟨#[]⟩ 0 (x :: ks)) A c) := by
 rcases ho.2 with ⟨-, h0⟩ | ⟨g, cap, cur, rfl, hb, hg, hnc, hcm, -⟩
 ·omega
 ·refine ⟨some ⟨g, 0, none⟩, cap, by rw [Nat.add_comm], RepV.of (kids := x :: ks) ?_ (by simp; omega) (by simp; unfold maxLen at *; omega) i64_0 (Nat.zero_le _)⟩
  have hlt : g < W.heap.size := (ho.lt g rfl).2
  refine RepCs.list (hV g rfl) hlt (x :: ks) (cs ++ xs) 0 ⟨cs, xs, rfl, hx, hk⟩ fun j v hj => ?_
  have := ho.cells (g := g) rfl j v hj
  rw [add_plain_] at this
  exact this
theorem RepCs.one {V : Nat → Prop} {w : World} : ∀ (ns : List Nd) (xs : List Value), RepCs V w ns xs → ∀ u ∈ xs, u.oneCell' = true
 | [], xs, h, u, hu => by unfold RepCs at h; subst h; cases hu
 | n :: ns, xs, h, u, hu => by
  unfold RepCs at h
  obtain ⟨a, b, rfl, h1, h2⟩ := h
  rcases List.mem_append.1 hu with hu | hu
  ·obtain ⟨A, c, rfl, -⟩ := h1.four
   simp at hu
   rcases hu with rfl | rfl | rfl | rfl <;> rfl
  ·exact RepCs.one ns b h2 u hu
theorem St.call {V U : Nat → Prop} {B : Nat} {ks : List Nd} {x : Nd} {A A' : Option Addr} {c c' : Nat} {xs : List Value} {v : Value} (h : St Z p G w W i (rw_ B V ks A c :: nd U x A' c' :: l)) (hb : Below W.heap.size W W')
 (hxs : RepCs V W ks xs) (ho : W'.ownsRow W.heap.size 24 4 v (1 + ks.length) (cN x A' c' ++ xs)) :
 ∃ A2 c2 V2, v = .slice A2 (ks.length + 1) c2 ∧ St Z p G w W' i (nd V2 (.mk 25 ⟨#[]⟩ 0 (x :: ks)) A2 c2 :: l) := by
 have h' := h.below hb
 have hx : RepV U W' x (cN x A' c') := h'.ok _ (.tail _ (.head _))
 have hk : RepCs V W' ks xs := RepCs.keep hb.size (fun b hv hlt => ⟨hb.block b hlt, hv⟩) _ _ hxs
 obtain ⟨A2, c2, e, hr⟩ := rep_call (V := fun b => V b ∨ U b ∨ v.ownBlock = some b) ho (fun g hg => .inr (.inr hg)) (RepV.keep (Nat.le_refl _) (fun b hv _ => ⟨rfl, .inr (.inl hv)⟩) _ _ hx) (RepCs.keep (Nat.le_refl _) (fun b hv _ => ⟨rfl, .inl hv⟩) _ _ hk)
 have a1 := List.pairwise_cons.1 h'.ap
 have a2 := List.pairwise_cons.1 a1.2
 refine ⟨A2, c2, _, e, h'.drop.drop.cons (r := nd (fun b => V b ∨ U b ∨ v.ownBlock = some b) (.mk 25 ⟨#[]⟩ 0 (x :: ks)) A2 c2) hr (fun b hb => ?_) fun s hs b hb => ?_⟩
 ·rcases hb with hb | hb | hb
  ·exact h'.inn _ (.head _) b hb
  ·exact h'.inn _ (.tail _ (.head _)) b hb
  ·have h3 := ho.lt b hb
   have := h.mv.size
   exact ⟨by omega, h3.2, fun hG => by have := h.gs b hG; omega⟩
 ·rcases hb with hb | hb | hb
  ·exact a1.1 s (.tail _ hs) b hb
  ·exact a2.1 s hs b hb
  ·have h3 := ho.lt b hb
   intro hs'
   have := (h.inn s (.tail _ (.tail _ hs)) b hs').2.1
   omega
end
theorem SL_of (w : World) (ss : List ByteArray) : SL (w.alloc (.cells (ss.map Value.string).toArray 9)) ss (some ⟨w.heap.size, 0, none⟩) := by
 intro i hi
 refine ⟨_, _, rfl, (Blk.new_ w 9 (ss.map Value.string).toArray).lt, ?_⟩
 have := (Blk.new_ w 9 (ss.map Value.string).toArray).cell i (.string ss[i]) (by simp [List.getElem?_eq_getElem hi])
 first | exact this | (simp; done) | simpa using this
section
variable {C : PC} {w W : World} {i : Nat} {l : List Rc}
theorem St.mv1 (h : SP C w W i l) (hj : i + 1 ≤ C.L.length) : SP C w (W.setCell ⟨C.p, 1, none⟩ (.int .i64 ((i : Int) + 1))) (i + 1) l := by
 have hmv := h.z.move (i + 1) hj
 exact h.to hmv.2 hmv.1
theorem finX {R : Res Nd} {r0 : Nat} {a0 a1 a2 a3 : Value} {x : Nd} {A : Option Addr} {c : Nat} {V : Nat → Prop} (h : SP C w W i (nd V x A c :: bx r0 24 #[a0, a1, a2, a3] :: l)) (hR : Hid (Res.ok x i = R)) :
 Blk ((((W.setCell ⟨r0, 0, none⟩ (.int .i64 x.k)).setCell ⟨r0, 1, none⟩ (.string x.t)).setCell ⟨r0, 2, none⟩ (.int .i64 x.num)).setCell ⟨r0, 3, none⟩ (.slice A x.kids.length c)) r0 24 #[.int .i64 x.k, .string x.t, .int .i64 x.num, .slice A x.kids.length c] ∧
 NodeOut C w R (.returned (.agg #[.int .i64 x.k, .string x.t, .int .i64 x.num, .slice A x.kids.length c])) ((((W.setCell ⟨r0, 0, none⟩ (.int .i64 x.k)).setCell ⟨r0, 1, none⟩ (.string x.t)).setCell ⟨r0, 2, none⟩ (.int .i64 x.num)).setCell ⟨r0, 3, none⟩ (.slice A x.kids.length c)) := by
 obtain ⟨k, t, n, l⟩ := x
 exact finO h hR
theorem inq (h : SP C w W i l) {a s t : ByteArray} {b : Bool} (ht : tIn C.L [a, s, t] i = b) : Calls Tryz.prog 28 #[.pointer (some ⟨C.p, 0, none⟩), .slice (some ⟨W.heap.size, 0, none⟩) 3 3] (W.alloc (.cells #[.string a, .string s, .string t] 9)) fun e W' => e = .returned (.bool b) ∧ Hid (SP C w W' i l) := by
 have hb : Below W.heap.size W (W.alloc (.cells #[.string a, .string s, .string t] 9)) := (Below.refl _ _).alloc (Nat.le_refl _) _
 refine (is_any0 [a, s, t] _ 3 C _ i (h.below hb).z (SL_of W [a, s, t]) (by simp) (by simp)).mono ?_
 rw [ht]
 rintro e W' ⟨rfl, hb2⟩
 exact ⟨rfl, (h.below hb).below hb2⟩
theorem closedq (h : SP C w W i l) (k : Int) (t : ByteArray) (n : Int) (A : Option Addr) (m c : Nat) : Calls Tryz.prog 92 #[.pointer (some ⟨C.p, 0, none⟩), .agg #[.int .i64 k, .string t, .int .i64 n, .slice A m c]] W fun e W' => (needM C.L ⟨#[59]⟩ i = .bad i ∧ e = badP C i ∧ Mv C.p w W') ∨ (needM C.L ⟨#[59]⟩ i = .ok () (i + 1) ∧ e = .returned (.agg #[.int .i64 k, .string t, .int .i64 n, .slice A m c]) ∧ Hid (SP C w W' (i + 1) l)) := by
 have HS := Lib.hid ((h.box 24 #[.int .i64 k, .string t, .int .i64 n, .slice A m c]).box 24 #[.int .i64 0, .string ⟨#[]⟩, .int .i64 0, .slice none 0 0])
 rw [World.size_alloc] at HS
 clear h
 go_enter Tryz.func92, Tryz.ntmps92
 go_wp2_with fail
 generalize (W.alloc (.cells #[.int .i64 k, .string t, .int .i64 n, .slice A m c] 24)).alloc (.cells #[.int .i64 0, .string ⟨#[]⟩, .int .i64 0, .slice none 0 0] 24) = w0 at *
 refine (needq HS.out ⟨#[59]⟩).mono ?_
 clear HS; rintro e w1 (⟨hr, rfl, m⟩ | ⟨hr, rfl, HS⟩)
 ·go_wp2; exact ⟨rfl, .inl ⟨hr, rfl, m⟩⟩
 obtain ⟨-, -, -, -, b0, b1, b2, b3⟩ := (HS.out.blk 1 rfl).all4
 obtain ⟨f0, f1, f2, f3, g0, g1, g2, g3⟩ := HS.out.one.all4
 go_wp2_with fail
 have h' := HS.out.put4 (.int .i64 k) (.string t) (.int .i64 n) (.slice A m c)
 exact bodyPost_ret (v := .agg _) (results_cell4 (fn := Tryz.f92) rfl h'.one rfl) rfl (.inr ⟨hr, rfl, Lib.hid h'.drop.drop⟩)
theorem callq {u : Nat → Res Nd} (hx : POk C 93 (exprM C.L u)) {V : Nat → Prop} {x : Nd} {A : Option Addr} {c : Nat} (h : SP C w W i (nd V x A c :: l)) (hw : callM C.L u x i ≠ .dry) :
 Calls Tryz.prog 94 #[.pointer (some ⟨C.p, 0, none⟩), .agg #[.int .i64 x.k, .string x.t, .int .i64 x.num, .slice A x.kids.length c]] W fun e W' => (∃ k, callM C.L u x i = .bad k ∧ e = badP C k ∧ Mv C.p w W') ∨ (∃ ks j A2 c2 V2, callM C.L u x i = .ok (.mk 25 ⟨#[]⟩ 0 (x :: ks)) j ∧ e = .returned (.agg #[.int .i64 25, .string ⟨#[]⟩, .int .i64 0, .slice A2 (ks.length + 1) c2]) ∧ Hid (SP C w W' j (nd V2 (.mk 25 ⟨#[]⟩ 0 (x :: ks)) A2 c2 :: l))) := by
 have HX := Lib.hid hx
 have HS := Lib.hid ((h.box 24 #[.int .i64 x.k, .string x.t, .int .i64 x.num, .slice A x.kids.length c]).box 24 #[.int .i64 0, .string ⟨#[]⟩, .int .i64 0, .slice none 0 0])
 rw [World.size_alloc] at HS
 obtain ⟨R, HR⟩ : ∃ R, Hid (callM C.L u x i = R) := ⟨_, rfl⟩
 rw [HR.out] at hw ⊢
 have HW := Lib.hid hw
 have hR := HR.out
 unfold callM at hR
 replace HR := Lib.hid hR
 clear h hx hw hR
 go_enter Tryz.func94, Tryz.ntmps94
 go_wp2_with fail
 generalize (W.alloc (.cells #[.int .i64 x.k, .string x.t, .int .i64 x.num, .slice A x.kids.length c] 24)).alloc (.cells #[.int .i64 0, .string ⟨#[]⟩, .int .i64 0, .slice none 0 0] 24) = w0 at *
 refine (listq (cf_fn Tryz.func93 (by kernel_rfl) (by kernel_rfl)) HX.out HS.out (bindW HR.out HW.out)).mono ?_
 clear HS; rintro e w1 (⟨k, hr, rfl, m⟩ | ⟨ks, d, j, Ak, ck, Vk, hr, hl, rfl, HS⟩)
 ·go_wp2; exact ⟨rfl, .inl ⟨k, (bindB HR.out hr).symm, rfl, m⟩⟩
 replace HR := bindO HR.out hr
 clear hr
 replace HS := Lib.hid HS.out.f3
 replace HS := Lib.hid HS.out.f1
 obtain ⟨xs, hc, -, ho⟩ : AccW Vk w.heap.size w1 (.slice Ak ks.length ck) ks := HS.out.one
 have HCV : Hid (RepCs Vk w1 ks xs) := RepCs.keep (Nat.le_refl _) (fun b hv _ => ⟨rfl, hv.1⟩) _ _ hc
 have HONE := Lib.hid (RepCs.one _ _ hc)
 have HO := Lib.hid ho
 have hb : Below w1.heap.size w1 (w1.alloc (.cells #[.int .i64 x.k, .string x.t, .int .i64 x.num, .slice A x.kids.length c] 24)) := (Below.refl _ _).alloc (Nat.le_refl _) _
 have OL : Hid ((w1.alloc (.cells #[.int .i64 x.k, .string x.t, .int .i64 x.num, .slice A x.kids.length c] 24)).ownsRow w1.heap.size 24 4 (.slice (some ⟨w1.heap.size, 0, none⟩) 1 1) 1 [.int .i64 x.k, .string x.t, .int .i64 x.num, .slice A x.kids.length c]) := World.ownsRow_lit w1 #[.int .i64 x.k, .string x.t, .int .i64 x.num, .slice A x.kids.length c] 1 (Nat.le_refl _) (by unfold maxLen; omega) rfl
 clear hc ho
 obtain ⟨-, -, -, -, b0, b1, b2, b3⟩ := (HS.out.blk 3 rfl).all4
 obtain ⟨i0, hi0, hz0, hz1, hz2⟩ := info_parts info_nodes
 rcases HO.out.2 with ⟨hv, h0⟩ | ⟨gq, cap, cur, hv, -⟩
 ·injection hv with e1 e2 e3
  subst e1 e3
  have hks : ks = [] := List.eq_nil_of_length_eq_zero h0
  subst hks
  have hxs : xs = [] := List.eq_nil_of_length_eq_zero (by simpa using HO.out.1)
  subst hxs
  clear e2 h0
  obtain ⟨A2, c2, V2, hv2, hst⟩ := HS.out.call (v := .slice (some ⟨w1.heap.size, 0, none⟩) 1 1) hb HCV.out OL.out
  injection hv2 with e1 e2 e3
  subst e1 e3
  clear e2 HS
  have HS := Lib.hid hst.f1
  obtain ⟨f0, f1, f2, f3, g0, g1, g2, g3⟩ := HS.out.one.all4
  go_wp2_with (at_builtin; refine wpList_append_own_none rfl _ _ 22 rfl w1.heap.size 24 i0 4 Tryz.underlying22 hi0 _ _ _ rfl OL.out rfl ?_)
  have h' := HS.out.put4 (.int .i64 25) (.string ⟨#[]⟩) (.int .i64 0) (.slice (some ⟨w1.heap.size, 0, none⟩) 1 1)
  exact bodyPost_ret (v := .agg _) (results_cell4 (fn := Tryz.f94) rfl h'.one rfl) rfl (.inr ⟨[], j, _, _, V2, HR.out.symm, rfl, Lib.hid (h'.drop.f1.drop)⟩)
 ·injection hv with e1 e2 e3
  subst e1 e3
  clear e2
  go_wp2_with (at_builtin; (refine wpList_append_own_at _ rfl _ _ 22 rfl w1.heap.size 24 i0 (.agg #[.int .i64 0, .string ⟨#[]⟩, .int .i64 0, .slice none 0 0]) 4 56 Tryz.underlying22 hi0 hz0 hz1 hz2 rfl (by decide) _ _ _ rfl OL.out ⟨gq, 0, none⟩ ks.length ck xs rfl HO.out.1 ?c1 ?c2 ?c3 ?c4 ?c5 ?_))
  case c1 => exact fun j v hj => ((HO.out.alloc _).cells (g := gq) rfl j v hj)
  case c2 => exact HONE.out
  case c3 => unfold maxLen; omega
  case c4 => omega
  case c5 => simp
  intro v5 w2 hown5 hg5 _ hob5
  clear hi0 hz0 hz1 hz2
  have hb2 : Below w1.heap.size w1 w2 := hb.grown hg5 (by simp) (fun k e => by have e2 : some w1.heap.size = some k := e; injection e2 with e2; omega)
  obtain ⟨A2, c2, V2, rfl, hst⟩ := HS.out.call hb2 HCV.out hown5
  clear HS
  have HS := Lib.hid hst.f1
  clear hown5 hg5 hob5 hb hb2
  obtain ⟨f0, f1, f2, f3, g0, g1, g2, g3⟩ := HS.out.one.all4
  go_wp2_with fail
  have h' := HS.out.put4 (.int .i64 25) (.string ⟨#[]⟩) (.int .i64 0) (.slice A2 (ks.length + 1) c2)
  exact bodyPost_ret (v := .agg _) (results_cell4 (fn := Tryz.f94) rfl h'.one rfl) rfl (.inr ⟨ks, j, _, _, V2, HR.out.symm, rfl, Lib.hid (h'.drop.f1.drop)⟩)
end
end Go.Proofs.YtgegfbopogcjpaaGreatDoor
namespace Go.Proofs.YtgegfbopogcjpaaGreatDoor
open Go.RowKit
set_option linter.unusedVariables false
set_option linter.unusedSimpArgs false
set_option maxRecDepth 100000
set_option maxHeartbeats 1000000
theorem lit_beq (s : ByteArray) (l : List UInt8) : (s.toList == l) = decide (s = ⟨l.toArray⟩) := by
 rw [Bool.eq_iff_iff, beq_iff_eq, decide_eq_true_eq, ByteArray.toList_eq]
 constructor
 ·intro h; subst h; rfl
 ·intro h; subst h; rfl
theorem eq_of_beq {s : ByteArray} {l : List UInt8} (h : (s.toList == l) = true) : s = ⟨l.toArray⟩ := by rw [lit_beq] at h; simpa using h
theorem ne_of_beq {s : ByteArray} {l : List UInt8} (h : (s.toList == l) = false) : ¬ s = ⟨l.toArray⟩ := by rw [lit_beq] at h; simpa using h
theorem op_any (s : ByteArray) (w : World) : Calls Tryz.prog 117 #[.string s] w fun e w' => e = .returned (.int .i64 (opOf s)) ∧ w = w' := by
 obtain ⟨R, HR⟩ : ∃ R, Hid (opOf s = R) := ⟨_, rfl⟩
 rw [HR.out]
 have hR := HR.out
 unfold opOf at hR
 replace HR := Lib.hid hR
 clear hR
 go_enter Tryz.func117, Tryz.ntmps117
 rcases hk0 : (s.toList == [61, 61]) with _ | _
 ·have hR := HR.out
  rw [if_neg (ne_of_beq hk0)] at hR
  replace HR := Lib.hid hR
  clear hR
  rcases hk1 : (s.toList == [60]) with _ | _
  ·have hR := HR.out
   rw [if_neg (ne_of_beq hk1)] at hR
   replace HR := Lib.hid hR
   clear hR
   rcases hk2 : (s.toList == [43]) with _ | _
   ·have hR := HR.out
    rw [if_neg (ne_of_beq hk2)] at hR
    replace HR := Lib.hid hR
    clear hR
    rcases hk3 : (s.toList == [45]) with _ | _
    ·have hR := HR.out
     rw [if_neg (ne_of_beq hk3)] at hR
     replace HR := Lib.hid hR
     clear hR
     rcases hk4 : (s.toList == [124]) with _ | _
     ·have hR := HR.out
      rw [if_neg (ne_of_beq hk4)] at hR
      replace HR := Lib.hid hR
      clear hR
      rcases hk5 : (s.toList == [94]) with _ | _
      ·have hR := HR.out
       rw [if_neg (ne_of_beq hk5)] at hR
       replace HR := Lib.hid hR
       clear hR
       rcases hk6 : (s.toList == [42]) with _ | _
       ·have hR := HR.out
        rw [if_neg (ne_of_beq hk6)] at hR
        replace HR := Lib.hid hR
        clear hR
        rcases hk7 : (s.toList == [47]) with _ | _
        ·have hR := HR.out
         rw [if_neg (ne_of_beq hk7)] at hR
         replace HR := Lib.hid hR
         clear hR
         rcases hk8 : (s.toList == [37]) with _ | _
         ·have hR := HR.out
          rw [if_neg (ne_of_beq hk8)] at hR
          replace HR := Lib.hid hR
          clear hR
          go_wp2_with fail
          go_ret
          exact ⟨by rw [← HR.out]; rfl, rfl⟩
         ·have hR := HR.out
          rw [if_pos (eq_of_beq hk8)] at hR
          replace HR := Lib.hid hR
          clear hR
          go_wp2_with fail
          go_ret
          exact ⟨by rw [← HR.out]; rfl, rfl⟩
        ·have hR := HR.out
         rw [if_pos (eq_of_beq hk7)] at hR
         replace HR := Lib.hid hR
         clear hR
         go_wp2_with fail
         go_ret
         exact ⟨by rw [← HR.out]; rfl, rfl⟩
       ·have hR := HR.out
        rw [if_pos (eq_of_beq hk6)] at hR
        replace HR := Lib.hid hR
        clear hR
        go_wp2_with fail
        go_ret
        exact ⟨by rw [← HR.out]; rfl, rfl⟩
      ·have hR := HR.out
       rw [if_pos (eq_of_beq hk5)] at hR
       replace HR := Lib.hid hR
       clear hR
       go_wp2_with fail
       go_ret
       exact ⟨by rw [← HR.out]; rfl, rfl⟩
     ·have hR := HR.out
      rw [if_pos (eq_of_beq hk4)] at hR
      replace HR := Lib.hid hR
      clear hR
      go_wp2_with fail
      go_ret
      exact ⟨by rw [← HR.out]; rfl, rfl⟩
    ·have hR := HR.out
     rw [if_pos (eq_of_beq hk3)] at hR
     replace HR := Lib.hid hR
     clear hR
     go_wp2_with fail
     go_ret
     exact ⟨by rw [← HR.out]; rfl, rfl⟩
   ·have hR := HR.out
    rw [if_pos (eq_of_beq hk2)] at hR
    replace HR := Lib.hid hR
    clear hR
    go_wp2_with fail
    go_ret
    exact ⟨by rw [← HR.out]; rfl, rfl⟩
  ·have hR := HR.out
   rw [if_pos (eq_of_beq hk1)] at hR
   replace HR := Lib.hid hR
   clear hR
   go_wp2_with fail
   go_ret
   exact ⟨by rw [← HR.out]; rfl, rfl⟩
 ·have hR := HR.out
  rw [if_pos (eq_of_beq hk0)] at hR
  replace HR := Lib.hid hR
  clear hR
  go_wp2_with fail
  go_ret
  exact ⟨by rw [← HR.out]; rfl, rfl⟩
end Go.Proofs.YtgegfbopogcjpaaGreatDoor
namespace Go.Proofs.YtgegfbopogcjpaaGreatDoor
open Go.RowKit
set_option linter.unusedVariables false
set_option linter.unusedSimpArgs false
set_option maxRecDepth 100000
set_option maxHeartbeats 1000000
theorem i64_op (s : ByteArray) : I64 (opOf s) := by
 unfold opOf I64
 repeat' split
 all_goals omega
theorem tok_field1 (a b d : Value) (w : World) : Sem.run Tryz.prog (Instr.field 50 (.agg #[a, b, d]) 1) w = .ok b w := rfl
theorem tokV_text (C : PC) (j : Nat) : ∃ a, tokV C j = #[a, .string (tTx C.L j), .int .i64 (posAt C j)] := by
 unfold tokV posAt tTx
 rcases C.L[j]? with _ | t
 ·exact ⟨_, rfl⟩
 ·exact ⟨_, rfl⟩
theorem SL.mv {C : PC} {w w' : World} {i : Nat} {ts : List ByteArray} {A : Option Addr} (h : SL w ts A) (hs : PSt C w i) (hg : Mv C.p w w') : SL w' ts A := by
 intro j hj
 obtain ⟨b, o, e, hlt, hc⟩ := h j hj
 refine ⟨b, o, e, Nat.lt_of_lt_of_le hlt hg.size, (hg.cell_ hlt (fun e2 => ?_)).trans hc⟩
 subst e2
 have hb := hs.blk
 unfold Blk at hb
 simp only [World.cell?, hb] at hc
 rcases hoj : o + j with _ | _ | _ | k <;> rw [hoj] at hc <;> simp at hc
theorem tIn_lt {L : List Tok} {ss : List ByteArray} {i : Nat} (h : tIn L ss i = true) : i < L.length := by
 unfold tIn at h
 rw [List.any_eq_true] at h
 obtain ⟨s, -, hs⟩ := h
 exact tIs_lt hs
end Go.Proofs.YtgegfbopogcjpaaGreatDoor
namespace Go.Proofs.YtgegfbopogcjpaaGreatDoor
open Go.RowKit
set_option linter.unusedVariables false
set_option linter.unusedSimpArgs false
set_option maxRecDepth 100000
set_option maxHeartbeats 1000000
theorem PSt.put {C : PC} {w W W' : World} {i j r : Nat} (h0 : PSt C w i) (h : PSt C W j) (m : Mv C.p w W) (hr : w.heap.size ≤ r) (hm : Mv r W W') : PSt C W' j :=
 h0.go (m.put hr hm) (hm.blk h.blk (by have := h0.lt; omega)) h.at_
theorem RepV.put {B r : Nat} {W W' : World} {n : Nd} {cs : List Value} (h : RepV (FromBut B (some r)) W n cs) (hm : Mv r W W') : RepV (FromBut B (some r)) W' n cs :=
 RepV.keep hm.size (fun b hv hlt => ⟨hm.block b hlt hv.2, hv⟩) _ _ h
theorem RepV.all {B : Nat} {g : Option Nat} {w : World} {n : Nd} {cs : List Value} (h : RepV (FromBut B g) w n cs) : RepV (From B) w n cs :=
 RepV.keep (Nat.le_refl _) (fun b hv hlt => ⟨rfl, hv.1⟩) _ _ h
theorem two_kids1 {V : Nat → Prop} {b : Nat} {W : World} {k num : Int} {x y : Nd} {A A' : Option Addr} {c c' : Nat}
 (h : Blk W b 24 #[.int .i64 x.k, .string x.t, .int .i64 x.num, .slice A x.kids.length c, .int .i64 y.k, .string y.t, .int .i64 y.num, .slice A' y.kids.length c'])
 (hx : RepV V W x [.int .i64 x.k, .string x.t, .int .i64 x.num, .slice A x.kids.length c]) (hy : RepV V W y [.int .i64 y.k, .string y.t, .int .i64 y.num, .slice A' y.kids.length c']) (hb : V b) (hn : I64 num) :
 RepV V W (.mk k ⟨#[]⟩ num [x, y]) [.int .i64 k, .string ⟨#[]⟩, .int .i64 num, .slice (some ⟨b, 0, none⟩) 2 2] := by
 refine RepV.of (kids := [x, y]) (c := 2) ?_ (by simp) (by simp [maxLen]) hn (Nat.zero_le _)
 have h1 : ∀ j v, [.int .i64 x.k, .string x.t, .int .i64 x.num, .slice A x.kids.length c, .int .i64 y.k, .string y.t, .int .i64 y.num, .slice A' y.kids.length c'][j]? = some v → W.cell? ⟨b, 0 + j, none⟩ = some v := by
  intro j v hj
  have := h.cell j v (by simpa using hj)
  simpa using this
 exact RepCs.list (w := W) hb h.lt [x, y] _ 0 ⟨_, _, rfl, hx, _, [], by simp, hy, rfl⟩ h1
theorem RepV.mvG {V : Nat → Prop} {p : Nat} {w w' : World} {n : Nd} {cs : List Value} (h : RepV V w n cs) (hg : Mv p w w') (hV : ∀ b, V b → b ≠ p) : RepV V w' n cs :=
 RepV.keep hg.size (fun b hv hlt => ⟨hg.block b hlt (fun e => by injection e with e; exact hV b hv e), hv⟩) _ _ h
theorem RepV.belowG {V : Nat → Prop} {w w' : World} {n : Nd} {cs : List Value} (h : RepV V w n cs) (hb : Below w.heap.size w w') : RepV V w' n cs :=
 RepV.keep hb.size (fun b hv hlt => ⟨hb.block b hlt, hv⟩) _ _ h
theorem call_repV {V : Nat → Prop} {W : World} {B5 : Nat} {v : Value} {x : Nd} {cs xs : List Value} {ks : List Nd} (ho : W.ownsRow B5 24 4 v (1 + ks.length) (cs ++ xs)) (hV : ∀ g, B5 ≤ g → V g) (hx : RepV V W x cs) (hk : RepCs V W ks xs) :
 ∃ A c, v = .slice A (ks.length + 1) c ∧ RepV V W (.mk 25 ⟨#[]⟩ 0 (x :: ks)) [.int .i64 25, .string ⟨#[]⟩, .int .i64 0, .slice A (ks.length + 1) c] := by
 rcases ho.2 with ⟨-, h0⟩ | ⟨g, cap, cur, rfl, hb, hg, hnc, hcm, -⟩
 ·omega
 ·refine ⟨some ⟨g, 0, none⟩, cap, by rw [Nat.add_comm], RepV.of (kids := x :: ks) ?_ (by simp; omega) (by simp; unfold maxLen at *; omega) i64_0 (Nat.zero_le _)⟩
  have hlt : g < W.heap.size := (ho.lt g rfl).2
  refine RepCs.list (hV g hb) hlt (x :: ks) (cs ++ xs) 0 ⟨cs, xs, rfl, hx, hk⟩ fun j v hj => ?_
  have := ho.cells (g := g) rfl j v hj
  rw [add_plain_] at this
  exact this
theorem one_kidV {V : Nat → Prop} {y : Nat} {W : World} {k : Int} {t : ByteArray} {x : Nd} {A : Option Addr} {c : Nat} (h : Blk W y 24 #[.int .i64 x.k, .string x.t, .int .i64 x.num, .slice A x.kids.length c]) (hr : RepV V W x [.int .i64 x.k, .string x.t, .int .i64 x.num, .slice A x.kids.length c]) (hy : V y) (ht : t.size ≤ maxLen) :
 RepV V W (.mk k t 0 [x]) [.int .i64 k, .string t, .int .i64 0, .slice (some ⟨y, 0, none⟩) 1 1] := by
 refine RepV.of (kids := [x]) (c := 1) ?_ (by simp) (by simp [maxLen]) i64_0 ht
 unfold RepVL
 refine ⟨y, 0, _, rfl, hy, h.lt, fun j v hj => ?_, hr, by unfold RepVL; trivial⟩
 have := h.cell j v (by simpa using hj)
 simpa using this
def AccV (V : Nat → Prop) (B : Nat) (w : World) (v : Value) (ks : List Nd) : Prop :=
 ∃ xs, RepCs (fun b => V b ∧ some b ≠ v.ownBlock) w ks xs ∧ (∀ g, v.ownBlock = some g → V g) ∧ w.ownsRow B 24 4 v ks.length xs
theorem AccV.mvG {V : Nat → Prop} {B p : Nat} {w w' : World} {v : Value} {ks : List Nd} (h : AccV V B w v ks) (hg : Mv p w w') (hV : ∀ b, V b → b ≠ p) : AccV V B w' v ks := by
 obtain ⟨xs, h1, h2, ho⟩ := h
 refine ⟨xs, RepCs.keep hg.size (fun b hv hlt => ⟨hg.block b hlt (fun e => by injection e with e; exact hV b hv.1 e), hv⟩) _ _ h1, h2, ho.kept hg (.inr fun e => hV p (h2 p e) rfl)⟩
theorem AccV.belowG {V : Nat → Prop} {B : Nat} {w w' : World} {v : Value} {ks : List Nd} (h : AccV V B w v ks) (hb : Below w.heap.size w w') : AccV V B w' v ks := by
 obtain ⟨xs, h1, h2, ho⟩ := h
 exact ⟨xs, RepCs.keep hb.size (fun b hv hlt => ⟨hb.block b hlt, hv⟩) _ _ h1, h2, own_below ho hb⟩
theorem AccV.kids {V : Nat → Prop} {B : Nat} {w : World} {v : Value} {ks : List Nd} (h : AccV V B w v ks) (h0 : ks ≠ []) : ∃ A c, v = .slice A ks.length c ∧ RepVL V w ks A ∧ ks.length ≤ c ∧ ks.length ≤ maxLen := by
 obtain ⟨xs, h1, hv, ho⟩ := h
 have h2 : RepCs V w ks xs := RepCs.keep (Nat.le_refl _) (fun b hv _ => ⟨rfl, hv.1⟩) _ _ h1
 rcases ho.2 with ⟨rfl, h0'⟩ | ⟨g, cap, cur, rfl, hb, hg, hnc, hcm, -⟩
 ·exact absurd (List.eq_nil_of_length_eq_zero h0') h0
 ·refine ⟨_, _, rfl, ?_, hnc, by omega⟩
  have hlt : g < w.heap.size := (ho.lt g rfl).2
  refine RepCs.list (hv g rfl) hlt ks xs 0 h2 fun j v hj => ?_
  have := ho.cells (g := g) rfl j v hj
  rw [add_plain_] at this
  exact this
theorem AccV.one {V : Nat → Prop} {B y : Nat} {w : World} {x : Nd} {A : Option Addr} {c : Nat} (h : Blk w y 24 #[.int .i64 x.k, .string x.t, .int .i64 x.num, .slice A x.kids.length c])
 (hr : RepV (fun b => V b ∧ b ≠ y) w x [.int .i64 x.k, .string x.t, .int .i64 x.num, .slice A x.kids.length c]) (hy : V y) (hB : B ≤ y) : AccV V B w (.slice (some ⟨y, 0, none⟩) 1 1) [x] := by
 refine ⟨_, ⟨_, [], by simp, RepV.keep (Nat.le_refl _) (fun b hv _ => ⟨rfl, hv.1, fun e => hv.2 (by have e2 : some b = some y := e; injection e2)⟩) _ _ hr, rfl⟩, fun g e => by have e2 : some y = some g := e; injection e2 with e2; rw [← e2]; exact hy, rfl, .inr ⟨y, 1, _, rfl, hB, h, by simp, by unfold maxLen; omega, rfl, rfl⟩⟩
end Go.Proofs.YtgegfbopogcjpaaGreatDoor
namespace Go.Proofs.YtgegfbopogcjpaaGreatDoor
set_option linter.unusedVariables false
set_option linter.unusedSimpArgs false
set_option maxRecDepth 100000
theorem isPrefixOf_iff (a b : List UInt8) : a.isPrefixOf b = true ↔ ∃ v, b = a ++ v := by
 rw [List.isPrefixOf_iff_prefix]
 constructor
 ·rintro ⟨v, rfl⟩; exact ⟨v, rfl⟩
 ·rintro ⟨v, rfl⟩; exact ⟨v, rfl⟩
theorem index_pos (sub : List UInt8) : ∀ s : List UInt8, 0 ≤ Lib.index s sub ↔ ∃ u v, s = u ++ (sub ++ v)
 | [] => by
  unfold Lib.index
  cases sub with
  | nil => simp
  | cons x l => simp
 | b :: l => by
  unfold Lib.index
  have ih := index_pos sub l
  by_cases hp : sub.isPrefixOf (b :: l) = true
  ·rw [if_pos hp]
   obtain ⟨v, hv⟩ := (isPrefixOf_iff _ _).1 hp
   exact ⟨fun _ => ⟨[], v, by simpa using hv⟩, fun _ => Int.le_refl _⟩
  ·rw [if_neg hp]
   have hge := Lib.index_ge l sub
   constructor
   ·intro h
    by_cases h1 : Lib.index l sub = -1
    ·simp [h1] at h
    ·obtain ⟨u, v, e⟩ := ih.1 (by omega)
     exact ⟨b :: u, v, by rw [e]; rfl⟩
   ·rintro ⟨u, v, e⟩
    cases u with
    | nil => exact absurd ((isPrefixOf_iff _ _).2 ⟨v, by simpa using e⟩) hp
    | cons c u =>
     simp only [List.cons_append, List.cons.injEq] at e
     have := ih.2 ⟨u, v, e.2⟩
     have h1 : ¬ (Lib.index l sub == -1) = true := by simp; omega
     rw [if_neg h1]
     omega
theorem split32 : ∀ (s w v r : List UInt8), 32 ∉ s → 32 ∉ w → s ++ 32 :: v = w ++ 32 :: r → s = w ∧ v = r
 | [], [], v, r, _, _, h => by simpa using h
 | [], c :: w, v, r, _, hw, h => by simp at h; exact absurd (by simp [h.1]) hw
 | c :: s, [], v, r, hs, _, h => by simp at h; exact absurd (by simp [h.1]) hs
 | c :: s, d :: w, v, r, hs, hw, h => by
  simp only [List.cons_append, List.cons.injEq] at h
  obtain ⟨h1, h2⟩ := split32 s w v r (fun x => hs (by simp [x])) (fun x => hw (by simp [x])) h.2
  exact ⟨by rw [h.1, h1], h2⟩
theorem drop32 : ∀ (w u m L : List UInt8), 32 ∉ w → w ++ L = u ++ 32 :: m → ∃ u', u = w ++ u' ∧ L = u' ++ 32 :: m
 | [], u, m, L, _, h => ⟨u, rfl, h⟩
 | c :: w, [], m, L, hw, h => by simp at h; exact absurd (by simp [h.1]) hw
 | c :: w, d :: u, m, L, hw, h => by
  simp only [List.cons_append, List.cons.injEq] at h
  obtain ⟨u', h1, h2⟩ := drop32 w u m L (fun x => hw (by simp [x])) h.2
  exact ⟨u', by rw [h.1, h1]; rfl, h2⟩
def joined (ws : List (List UInt8)) : List UInt8 := 32 :: ws.flatMap fun w => w ++ [32]
theorem joined_cons (w : List UInt8) (ws : List (List UInt8)) : joined (w :: ws) = 32 :: (w ++ joined ws) := by simp [joined]
theorem among_joined : ∀ (ws : List (List UInt8)) (s : List UInt8), (∀ w ∈ ws, 32 ∉ w) → 32 ∉ s → ((∃ u v, joined ws = u ++ ((32 :: (s ++ [32])) ++ v)) ↔ s ∈ ws)
 | [], s, _, hs => by
  constructor
  ·rintro ⟨u, v, h⟩
   have := congrArg List.length h
   simp [joined] at this
   omega
  ·intro h; cases h
 | w :: ws, s, hw, hs => by
  have ih := among_joined ws s (fun x hx => hw x (by simp [hx])) hs
  have hw1 := hw w (by simp)
  rw [joined_cons]
  constructor
  ·rintro ⟨u, v, h⟩
   cases u with
   | nil =>
    simp only [List.nil_append, List.cons_append, List.cons.injEq, true_and, List.append_assoc] at h
    have := (split32 w s _ _ hw1 hs (by simpa [joined] using h)).1
    rw [this]; simp
   | cons c u =>
    simp only [List.cons_append, List.cons.injEq, List.append_assoc] at h
    obtain ⟨u', h1, h2⟩ := drop32 w u _ _ hw1 h.2
    exact List.mem_cons_of_mem _ (ih.1 ⟨u', v, by simpa using h2⟩)
  ·intro h
   rcases List.mem_cons.1 h with rfl | h
   ·exact ⟨[], ws.flatMap fun w => w ++ [32], by simp [joined]⟩
   ·obtain ⟨u, v, e⟩ := ih.2 h
    exact ⟨32 :: (w ++ u), v, by rw [e]; simp⟩
def wordsR : List ByteArray := ["break".toUTF8, "count".toUTF8, "else".toUTF8, "extern".toUTF8, "extra".toUTF8, "fn".toUTF8, "if".toUTF8, "int".toUTF8, "long".toUTF8, "put".toUTF8, "return".toUTF8, "static".toUTF8, "struct".toUTF8, "while".toUTF8]
theorem words_joined : wordL = joined (wordsR.map fun s => s.data.toList) := by decide
theorem reserved_iff (s : ByteArray) (hs : 32 ∉ s.data.toList) : reserved s = true ↔ s.data.toList ∈ wordsR.map fun s => s.data.toList := by
 unfold reserved Lib.contains
 rw [decide_eq_true_iff, index_pos, words_joined, among_joined _ _ (by decide) hs]
end Go.Proofs.YtgegfbopogcjpaaGreatDoor
namespace Go.Proofs.YtgegfbopogcjpaaGreatDoor
open Go.RowKit
set_option linter.unusedVariables false
set_option linter.unusedSimpArgs false
set_option maxRecDepth 100000
open Classical in
noncomputable def strN (l : List ByteArray) (s : ByteArray) : Bool := decide (s ∈ l)
theorem Row.strN_ {w : World} {A : Option Addr} {l : List ByteArray} (h : Row w A (l.map .string)) {k : Nat} (hk : k < l.length) :
 ∃ b o, A = some ⟨b, o, none⟩ ∧ b < w.heap.size ∧ w.cell? ⟨b, o + k, none⟩ = some (.string l[k]) := by
 obtain ⟨b, o, hA, hlt, hc⟩ := h.at_ (fun e => by have := congrArg List.length e; simp at this; subst this; simp at hk)
 exact ⟨b, o, hA, hlt, hc k _ (by simp [hk])⟩
def digN (c : Int) : Bool := decide (48 ≤ c) && decide (c ≤ 57)
theorem n6_letterR_any (c : Int) (w : World) : Calls Tryz.prog 37 #[.int .u8 c] w fun e w' => e = .returned (.bool (letterI c)) ∧ w' = w := by
 go_enter Tryz.func37, Tryz.ntmps37
 go_wp2
 all_goals go_ret
 all_goals refine ⟨?_, rfl⟩
 all_goals
  have e1 : letterI c = ((decide (97 ≤ c) && decide (c ≤ 122)) || (decide (65 ≤ c) && decide (c ≤ 90))) := rfl
  rw [e1]
  simp_all <;> (try omega)
theorem n6_digitR_any (c : Int) (w : World) : Calls Tryz.prog 38 #[.int .u8 c] w fun e w' => e = .returned (.bool (digN c)) ∧ w' = w := by
 go_enter Tryz.func38, Tryz.ntmps38
 go_wp2
 all_goals go_ret
 all_goals refine ⟨?_, rfl⟩
 all_goals
  have e1 : digN c = (decide (48 ≤ c) && decide (c ≤ 57)) := rfl
  rw [e1]
  simp_all <;> (try omega)
theorem strN_no {l : List ByteArray} {s : ByteArray} (h : ∀ j (h : j < l.length), l[j] ≠ s) : strN l s = false := by
 simp only [strN, decide_eq_false_iff_not]
 intro hm
 obtain ⟨j, hj, e⟩ := List.getElem_of_mem hm
 exact h j hj e
theorem strN_yes {l : List ByteArray} {s : ByteArray} {k : Nat} (hk : k < l.length) (h : l[k] = s) : strN l s = true := by
 simp only [strN, decide_eq_true_eq]
 exact h ▸ List.getElem_mem hk
def n6_AmongRel (l : List ByteArray) (s : ByteArray) (i : Value) : Prop := ∃ k : Nat, k ≤ l.length ∧ i = .int .i64 k ∧ ∀ j (h : j < l.length), j < k → l[j] ≠ s
theorem n6_str_beq_iff' (x y : ByteArray) : (x.toList == y.toList) = true ↔ x = y := by
 rw [beq_iff_eq, ByteArray.toList_eq, ByteArray.toList_eq]
 exact ⟨fun h => ByteArray.ext (Array.toList_inj.mp h), fun h => by rw [h]⟩
theorem n6_among_any (A : Option Addr) (c : Nat) (l : List ByteArray) (s : ByteArray) (w : World) (hr : Row w A (l.map .string)) (hmx : l.length ≤ maxLen) :
 Calls Tryz.prog 123 #[.slice A l.length c, .string s] w fun e w' => e = .returned (.bool (strN l s)) ∧ w' = w := by
 unfold maxLen at hmx
 go_enter Tryz.func123, Tryz.ntmps123
 go_wp2
 go_loop [5] (fun i => n6_AmongRel l s i) (fun i => l.length - (intOf i).toNat)
 case atStart => exact ⟨0, Nat.zero_le _, rfl, fun j _ h => absurd h (by omega)⟩
 case round =>
  obtain ⟨k, hk, rfl, hg⟩ := hrel
  by_cases hlt : k < l.length
  ·obtain ⟨b, o, rfl, hbl, c0⟩ := hr.strN_ hlt
   have hi : (k : Int) < (l.length : Int) := by omega
   have HG := Lib.hid hg
   clear hg
   by_cases he : l[k] = s
   ·have hy := Lib.hid (strN_yes hlt he)
    have t : (l[k].toList == s.toList) = true := (n6_str_beq_iff' _ _).2 he
    clear he
    go_wp2
    go_ret
    exact ⟨by rw [hy.out]; rfl, rfl⟩
   ·have HE := Lib.hid he
    have t : (l[k].toList == s.toList) = false := by
     rcases h : (l[k].toList == s.toList) with _ | _
     ·rfl
     ·exact absurd ((n6_str_beq_iff' _ _).1 h) he
    clear he
    go_wp2
    go_round
    case rel => exact ⟨k + 1, by omega, by go_num, fun j h hj => by
     rcases Nat.lt_or_ge j k with h1 | h1
     ·exact HG.out j h h1
     ·obtain rfl : j = k := by omega
      exact HE.out⟩
    case measure => (first | (simp [intOf]; done) | (simp [intOf]; omega))
  ·have hi : (l.length : Int) ≤ (k : Int) := by omega
   have hy := Lib.hid (strN_no (l := l) (s := s) fun j h => hg j h (by omega))
   clear hg
   go_wp2
   go_ret
   exact ⟨by rw [hy.out]; rfl, rfl⟩
theorem n6_reserved_any (w : World) : Calls Tryz.prog 124 #[] w fun e w' => e = .returned (.slice (some ⟨w.heap.size, 0, none⟩) wordsR.length wordsR.length) ∧ Row w' (some ⟨w.heap.size, 0, none⟩) (wordsR.map .string) ∧ Below w.heap.size w w' := by
 go_enter Tryz.func124, Tryz.ntmps124
 go_wp2
 go_ret
 refine ⟨rfl, ?_, by (repeat (first | with_reducible assumption | with_reducible exact Below.refl _ _ | (refine Below.setCell ?_ (by first | omega | (simp; done) | (simp; omega)) _) | (refine Below.drewN_ ?_ _) | (refine Below.drew ?_) | (refine Below.alloc ?_ (by first | omega | (simp; done) | (simp; omega)) _)))⟩
 exact Row.of_blk (n := 14) (Blk.new_ _ _ _) (by kernel_rfl)
theorem n6_reserved_eq {s : ByteArray} (h : 32 ∉ s.data.toList) : reserved s = strN wordsR s := by
 rw [Bool.eq_iff_iff, reserved_iff s h]
 simp only [strN, decide_eq_true_eq, List.mem_map]
 exact ⟨fun ⟨a, ha, e⟩ => (Go.WideShapes.bytes_inj e) ▸ ha, fun hm => ⟨s, hm, rfl⟩⟩
def n6_NameRel (s : ByteArray) (i : Value) : Prop := ∃ k : Nat, k ≤ s.size ∧ i = .int .i64 k ∧ (1 ≤ k → letterI (byteI s 0) = true) ∧ ∀ j, 1 ≤ j → j < k → chrI (byteI s j) = true
theorem n6_nameR_any (s : ByteArray) (w : World) : Calls Tryz.prog 97 #[.string s] w fun e w' => e = .returned (.bool (nameOf s)) ∧ Below w.heap.size w w' := by
 by_cases h1 : 1 ≤ s.size
 ·by_cases h2 : s.size ≤ 16
  ·have d1 : ¬ ((s.size : Int) < 1) := by omega
   have d2 : ¬ (16 < (s.size : Int)) := by omega
   go_enter Tryz.func97, Tryz.ntmps97
   go_wp2
   go_loopw [3] (fun i wr => n6_NameRel s i ∧ wr = w) (fun i _ => s.size - (intOf i).toNat)
   case atStart => exact ⟨⟨0, Nat.zero_le _, rfl, fun h => absurd h (by omega), fun j _ h => absurd h (by omega)⟩, rfl⟩
   case round =>
    obtain ⟨⟨k, hk, rfl, hg0, hg⟩, rfl⟩ := hrel
    by_cases hlt : k < s.size
    ·have hi : (k : Int) < (s.size : Int) := by omega
     have hb := byteI_at hlt
     have hno : (letterI (byteI s k) = false ∧ (k = 0 ∨ chrI (byteI s k) = false)) → nameOf s = false := fun ⟨hl, hc⟩ => name_no (by
      rintro ⟨-, -, h3, h4⟩
      by_cases h0 : k = 0
      ·subst h0; rw [hl] at h3; cases h3
      ·rcases hc with h | h
       ·exact h0 h
       ·rw [h4 k (by omega) hlt] at h; cases h)
     have hyes : (letterI (byteI s k) = true ∨ (k ≠ 0 ∧ chrI (byteI s k) = true)) → n6_NameRel s (.int .i64 ((k : Int) + 1)) := fun hc => ⟨k + 1, by omega, by go_num, fun _ => by
      by_cases h0 : k = 0
      ·subst h0
       rcases hc with h | h
       ·exact h
       ·exact absurd rfl h.1
      ·exact hg0 (by omega), fun j hj1 hj2 => by
      rcases Nat.lt_or_ge j k with h | h
      ·exact hg j hj1 h
      ·obtain rfl : j = k := by omega
       rcases hc with h | h
       ·rw [chr_split, h]; rfl
       ·exact h.2⟩
     rw [chr_split] at hno hyes
     rw [hb] at hno hyes
     clear hg0 hg hb
     have HNO := Lib.hid hno
     have HYES := Lib.hid hyes
     clear hno hyes
     have hc255 : ((s[k]'hlt).toNat : Int) < 256 := by have := (s[k]'hlt).toNat_lt; omega
     have hc0 : (0 : Int) ≤ ((s[k]'hlt).toNat : Int) := by omega
     rcases hl : letterI ((s[k]'hlt).toNat : Int) with _ | _
     ·by_cases h0 : k = 0
      ·subst h0
       have hn := Lib.hid (HNO.out ⟨hl, .inl rfl⟩)
       go_wp2_with (go_at_call 37; refine (n6_letterR_any _ _).mono ?_; rintro e w' ⟨rfl, hw⟩; subst hw)
       go_ret
       exact ⟨by rw [hn.out]; rfl, Below.refl _ _⟩
      ·have hk0 : ((k : Int) == 0) = false := by simp; omega
       rcases hd : digN ((s[k]'hlt).toNat : Int) with _ | _
       ·by_cases h95 : (s[k]'hlt).toNat = 95
        ·have t : (((s[k]'hlt).toNat : Int) != 95) = false := by simp; omega
         have hr := Lib.hid (HYES.out (.inr ⟨h0, by rw [h95]; rfl⟩))
         clear h95
         go_wp2_with (first | (go_at_call 37; refine (n6_letterR_any _ _).mono ?_; rintro e w' ⟨rfl, hw⟩; subst hw) | (go_at_call 38; refine (n6_digitR_any _ _).mono ?_; rintro e w' ⟨rfl, hw⟩; subst hw))
         go_roundw
         case rel => exact ⟨hr.out, by first | trivial | rfl⟩
         case measure => (first | (simp [intOf]; done) | (simp [intOf]; omega))
        ·have t : (((s[k]'hlt).toNat : Int) != 95) = true := by simp; omega
         have hn := Lib.hid (HNO.out ⟨hl, .inr (by
          have e1 : digN ((s[k]'hlt).toNat : Int) = (decide ((48 : Int) ≤ ((s[k]'hlt).toNat : Int)) && decide (((s[k]'hlt).toNat : Int) ≤ 57)) := rfl
          rw [hl, ← e1, hd]
          simp
          omega)⟩)
         clear h95
         go_wp2_with (first | (go_at_call 37; refine (n6_letterR_any _ _).mono ?_; rintro e w' ⟨rfl, hw⟩; subst hw) | (go_at_call 38; refine (n6_digitR_any _ _).mono ?_; rintro e w' ⟨rfl, hw⟩; subst hw))
         go_ret
         exact ⟨by rw [hn.out]; rfl, Below.refl _ _⟩
       ·have hr := Lib.hid (HYES.out (.inr ⟨h0, by
         have e1 : digN ((s[k]'hlt).toNat : Int) = (decide ((48 : Int) ≤ ((s[k]'hlt).toNat : Int)) && decide (((s[k]'hlt).toNat : Int) ≤ 57)) := rfl
         rw [← e1, hd]; simp⟩))
        go_wp2_with (first | (go_at_call 37; refine (n6_letterR_any _ _).mono ?_; rintro e w' ⟨rfl, hw⟩; subst hw) | (go_at_call 38; refine (n6_digitR_any _ _).mono ?_; rintro e w' ⟨rfl, hw⟩; subst hw))
        go_roundw
        case rel => exact ⟨hr.out, by first | trivial | rfl⟩
        case measure => (first | (simp [intOf]; done) | (simp [intOf]; omega))
     ·have hr := Lib.hid (HYES.out (.inl hl))
      go_wp2_with (go_at_call 37; refine (n6_letterR_any _ _).mono ?_; rintro e w' ⟨rfl, hw⟩; subst hw)
      go_roundw
      case rel => exact ⟨hr.out, by first | trivial | rfl⟩
      case measure => (first | (simp [intOf]; done) | (simp [intOf]; omega))
    ·have hi : (s.size : Int) ≤ (k : Int) := by omega
     have hl0 := hg0 (by omega)
     have hall : ∀ j, 1 ≤ j → j < s.size → chrI (byteI s j) = true := fun j a b => hg j a (by omega)
     have hno32 : 32 ∉ s.data.toList := fun hm => by
      obtain ⟨j, hj, e⟩ := List.getElem_of_mem hm
      have hj' : j < s.size := by simpa using hj
      have eb : byteI s j = 32 := by
       rw [byteI_at hj']
       have : s[j]'hj' = 32 := by rw [← e]; rfl
       rw [this]; rfl
      by_cases h0 : j = 0
      ·subst h0; rw [eb] at hl0; exact absurd hl0 (by decide)
      ·have := hall j (by omega) hj'; rw [eb] at this; exact absurd this (by decide)
     have hn : Hid (nameOf s = !strN wordsR s) := by show _ = _; rw [name_of h1 h2 hl0 hall, n6_reserved_eq hno32]
     clear hg0 hg hl0 hall hno32
     go_wp2_with fail
     refine (n6_reserved_any _).mono ?_
     rintro e w1 ⟨rfl, hrow, hb⟩
     go_wp2_with fail
     refine (n6_among_any _ _ wordsR s _ hrow (by unfold maxLen; decide)).mono ?_
     rintro e w2 ⟨rfl, hw⟩
     subst hw
     go_wp2
     go_ret
     exact ⟨by rw [hn.out]; rfl, hb⟩
  ·have hn : nameOf s = false := name_no (by rintro ⟨-, h2', -⟩; exact h2 h2')
   have d1 : ¬ ((s.size : Int) < 1) := by omega
   have d2 : 16 < (s.size : Int) := by omega
   have HN := Lib.hid hn
   clear hn
   go_enter Tryz.func97, Tryz.ntmps97
   go_wp2
   go_ret
   exact ⟨by rw [HN.out]; rfl, Below.refl _ _⟩
 ·have hn : nameOf s = false := name_no (by rintro ⟨h1', -⟩; exact h1 h1')
  have d1 : (s.size : Int) < 1 := by omega
  have HN := Lib.hid hn
  clear hn
  go_enter Tryz.func97, Tryz.ntmps97
  go_wp2
  go_ret
  exact ⟨by rw [HN.out]; rfl, Below.refl _ _⟩
end Go.Proofs.YtgegfbopogcjpaaGreatDoor
namespace Go.Proofs.YtgegfbopogcjpaaGreatDoor
open Go.RowKit
set_option linter.unusedVariables false
set_option linter.unusedSimpArgs false
set_option maxRecDepth 100000
set_option maxHeartbeats 1000000
def mbr {α : Type} (r : Res α) (i : Nat) (b : Bool) : Res α := if b = true then .bad i else r
def Fol {α : Type} (r : Res α) (x : α) (j : Nat) (b : Bool) : Prop := match r with
 | .ok y k => x = y ∧ j = k ∧ b = false
 | .bad k => j = k ∧ b = true
 | .dry => True
section
variable {α β : Type} {r : Res α} {f : α → Nat → Res β} {i j : Nat} {b c : Bool} {R : Res β} {x : α}
theorem mbr_wet (h : mbr (r.bind f) i b = R) (hw : R ≠ .dry) : mbr r i b ≠ .dry := by
 cases b
 ·simp only [mbr, Bool.false_eq_true, if_false] at h ⊢
  intro e
  rw [e] at h
  exact hw h.symm
 ·simp [mbr]
theorem mbr_seq (h : mbr (r.bind f) i b = R) (hw : R ≠ .dry) (hf : Fol (mbr r i b) x j c) : mbr (f x j) j c = R := by
 cases b
 ·simp only [mbr, Bool.false_eq_true, if_false] at h hf ⊢
  subst h
  cases r with
  | ok y k => obtain ⟨rfl, rfl, rfl⟩ := hf; simp
  | bad k => obtain ⟨rfl, rfl⟩ := hf; simp
  | dry => exact absurd rfl hw
 ·simp only [mbr, if_true] at h hf ⊢
  obtain ⟨rfl, rfl⟩ := hf
  simpa using h
theorem mbr_last {r : Res β} {x : β} (h : mbr r i b = R) (hf : Fol (mbr r i b) x j c) : Fol R x j c := h ▸ hf
theorem mbr_fin {x : β} (h : mbr (.ok x j) j b = R) : Fol R x j b := by
 subst h
 cases b <;> simp [mbr, Fol]
theorem mbr_true {r : Res β} {x : β} (h : mbr r i true = R) : Fol R x i true := by
 subst h
 simp [mbr, Fol]
theorem mbr_no {p : Prop} [Decidable p] {A B : Res β} (h : mbr (if p then A else B) i b = R) (hp : b = false → ¬ p) : mbr B i b = R := by
 cases b
 ·rwa [if_neg (hp rfl)] at h
 ·exact h
theorem mbr_yes {p : Prop} [Decidable p] {A B : Res β} (h : mbr (if p then A else B) i false = R) (hp : p) : mbr A j false = R := by
 rw [if_pos hp] at h
 exact h
theorem mbr_eq {r r' : Res β} (h : mbr r i b = R) (e : b = false → r = r') : mbr r' i b = R := by
 cases b
 ·rw [← e rfl]; exact h
 ·exact h
end
structure RC where
 p : Nat
 A : Option Addr
 c : Nat
 L : List Tok
structure RSt (C : RC) (w : World) (i : Nat) (b : Bool) : Prop where
 blk : Blk w C.p 48 #[.slice C.A C.L.length C.c, .int .i64 (i : Int), .bool b]
 row : Row w C.A (C.L.flatMap tkV)
 ne : C.L ≠ [] → ∀ b o, C.A = some ⟨b, o, none⟩ → b ≠ C.p
 len : C.L.length ≤ 4000
 at_ : i ≤ C.L.length
 ok : ∀ t ∈ C.L, TokOk t.k t.s
theorem RSt.lt {C : RC} {w : World} {i : Nat} {b : Bool} (h : RSt C w i b) : C.p < w.heap.size := h.blk.lt
theorem RSt.go {C : RC} {w w' : World} {i j : Nat} {b b' : Bool} (h : RSt C w i b) (hg : Mv C.p w w') (k : Blk w' C.p 48 #[.slice C.A C.L.length C.c, .int .i64 (j : Int), .bool b']) (hj : j ≤ C.L.length) : RSt C w' j b' :=
 ⟨k, h.row.grown_ hg (fun e => h.ne (tk_ne e)), h.ne, h.len, hj, h.ok⟩
theorem RSt.below {C : RC} {w w' : World} {i : Nat} {b : Bool} (h : RSt C w i b) (hb : Below w.heap.size w w') : RSt C w' i b := h.go (mv_below hb) (h.blk.below hb) h.at_
theorem RSt.move {C : RC} {w : World} {i : Nat} {b : Bool} (h : RSt C w i b) (j : Nat) (hj : j ≤ C.L.length) : RSt C (w.setCell ⟨C.p, 1, none⟩ (.int .i64 (j : Int))) j b ∧ Mv C.p w (w.setCell ⟨C.p, 1, none⟩ (.int .i64 (j : Int))) := by
 have hk := h.blk.set_ 1 (.int .i64 (j : Int))
 have hg : Mv C.p w (w.setCell ⟨C.p, 1, none⟩ (.int .i64 (j : Int))) :=
  ⟨rfl, rfl, rfl, by simp [World.setCell], fun k _ hne => Below.heap_setCell _ _ _ _ (fun e => hne (by rw [e]))⟩
 exact ⟨h.go hg (by simpa using hk) hj, hg⟩
theorem RSt.fails {C : RC} {w : World} {i : Nat} {b : Bool} (h : RSt C w i b) : RSt C (w.setCell ⟨C.p, 2, none⟩ (.bool true)) i true ∧ Mv C.p w (w.setCell ⟨C.p, 2, none⟩ (.bool true)) := by
 have hk := h.blk.set_ 2 (.bool true)
 have hg : Mv C.p w (w.setCell ⟨C.p, 2, none⟩ (.bool true)) :=
  ⟨rfl, rfl, rfl, by simp [World.setCell], fun k _ hne => Below.heap_setCell _ _ _ _ (fun e => hne (by rw [e]))⟩
 exact ⟨h.go hg (by simpa using hk) h.at_, hg⟩
theorem RSt.put {C : RC} {w W W' : World} {i j r : Nat} {b b' : Bool} (h0 : RSt C w i b') (h : RSt C W j b) (m : Mv C.p w W) (hr : w.heap.size ≤ r) (hm : Mv r W W') : RSt C W' j b :=
 h0.go (m.put hr hm) (hm.blk h.blk (by have := h0.lt; omega)) h.at_
def txR (L : List Tok) (j : Nat) : ByteArray := match L[j]? with
 | some t => if t.k = 2 ∨ t.k = 3 then ⟨#[]⟩ else t.s
 | none => ⟨#[]⟩
theorem sign_no_name {s : ByteArray} (h : s = ⟨#[46, 46, 46]⟩ ∨ s = ⟨#[61, 61]⟩ ∨ ∃ b : UInt8, s = ⟨#[b]⟩ ∧ signI b.toNat = true) : nameOf s = false := by
 have hl : letterI (byteI s 0) = false := by
  rcases h with rfl | rfl | ⟨b, rfl, hb⟩
  ·rfl
  ·rfl
  ·have e : byteI ⟨#[b]⟩ 0 = (b.toNat : Int) := rfl
   rw [e]
   rcases hl : letterI (b.toNat : Int) with _ | _
   ·rfl
   ·have hh : b.toNat < 256 := b.toNat_lt
    exfalso
    have key : ∀ n, n < 256 → signI (n : Nat) = true → letterI (n : Nat) = true → False := by decide
    exact key _ hh hb hl
 unfold nameOf
 rw [hl]
 simp
theorem txR_some {L : List Tok} {j : Nat} {t : Tok} (h : L[j]? = some t) : txR L j = if t.k = 2 ∨ t.k = 3 then ⟨#[]⟩ else t.s := by unfold txR; rw [h]
theorem txR_none {L : List Tok} {j : Nat} (h : L[j]? = none) : txR L j = ⟨#[]⟩ := by unfold txR; rw [h]
theorem txR_iff {L : List Tok} (hok : ∀ t ∈ L, TokOk t.k t.s) {s : ByteArray} (hs : s ≠ ⟨#[]⟩) (j : Nat) : txR L j = s ↔ tIs L s j = true := by
 unfold tIs
 rcases hL : L[j]? with _ | t
 ·rw [txR_none hL]
  simp only [Bool.false_eq_true, iff_false]
  exact fun e => hs e.symm
 ·rw [txR_some hL]
  have h := hok t (List.mem_of_getElem? hL)
  rcases h with ⟨h, -⟩ | ⟨h, -⟩ | ⟨h, -⟩
  ·rw [if_neg (by omega)]; simp [h]
  ·rw [if_pos h]
   rcases h with h | h
   ·simp only [h]; simp; exact fun e => hs e.symm
   ·simp only [h]; simp; exact fun e => hs e.symm
  ·rw [if_neg (by omega)]; simp [h]
theorem txR_is {L : List Tok} (hok : ∀ t ∈ L, TokOk t.k t.s) {s : ByteArray} (hs : s ≠ ⟨#[]⟩) (j : Nat) : decide (txR L j = s) = tIs L s j := by
 rw [Bool.eq_iff_iff, decide_eq_true_eq]
 exact txR_iff hok hs j
theorem txR_name {L : List Tok} (hok : ∀ t ∈ L, TokOk t.k t.s) (j : Nat) : nameOf (txR L j) = tNm L j := by
 have h0 : nameOf ⟨#[]⟩ = false := rfl
 unfold tNm
 rcases hL : L[j]? with _ | t
 ·rw [txR_none hL, h0]
 ·rw [txR_some hL]
  have h := hok t (List.mem_of_getElem? hL)
  rcases h with ⟨h, -⟩ | ⟨h, -⟩ | ⟨h, h2⟩
  ·rw [if_neg (by omega)]; simp [h]
  ·rw [if_pos h, h0]
   rcases h with h | h <;> simp [h]
  ·rw [if_neg (by omega)]; simp [h, sign_no_name h2]
theorem txR_of_name {L : List Tok} (hok : ∀ t ∈ L, TokOk t.k t.s) {j : Nat} (h : tNm L j = true) : txR L j = tTx L j := by
 unfold txR tTx tNm at *
 rcases hL : L[j]? with _ | t
 ·rfl
 ·rw [hL] at h
  simp only [Bool.and_eq_true, beq_iff_eq] at h ⊢
  rw [if_neg (by omega)]
theorem txR_size {L : List Tok} (hok : ∀ t ∈ L, TokOk t.k t.s) (j : Nat) : (txR L j).size ≤ 16 := by
 have h0 : (⟨#[]⟩ : ByteArray).size ≤ 16 := by decide
 rcases hL : L[j]? with _ | t
 ·rw [txR_none hL]; exact h0
 ·rw [txR_some hL]
  have h := hok t (List.mem_of_getElem? hL)
  split
  ·exact h0
  ·rcases h with ⟨-, -, h, -⟩ | ⟨h, -⟩ | ⟨-, h⟩
   ·exact h
   ·rename_i hn; exact absurd h hn
   ·rcases h with h | h | ⟨b, h, -⟩
    ·rw [h]; decide
    ·rw [h]; decide
    ·rw [h]; show 1 ≤ 16; omega
def RNode (C : RC) (w : World) (r : Res Nd) (e : Ending) (w' : World) : Prop :=
 ∃ x A c j b, e = .returned (.agg #[.int .i64 x.k, .string x.t, .int .i64 x.num, .slice A x.kids.length c]) ∧ RepV (From w.heap.size) w' x [.int .i64 x.k, .string x.t, .int .i64 x.num, .slice A x.kids.length c] ∧ RSt C w' j b ∧ Mv C.p w w' ∧ Fol r x j b
def ROk (C : RC) (f : FuncId) (m : Nat → Res Nd) : Prop := ∀ (w : World) (i : Nat) (b : Bool), RSt C w i b → mbr (m i) i b ≠ .dry → Calls Tryz.prog f #[.pointer (some ⟨C.p, 0, none⟩)] w (RNode C w (mbr (m i) i b))
def RList (C : RC) (w : World) (r : Res (List Nd × Bool)) (e : Ending) (w' : World) : Prop :=
 ∃ ks d A c j b, e = .returned (.tuple #[.slice A ks.length c, .bool d]) ∧ Acc w.heap.size w' (.slice A ks.length c) ks ∧ ks.length ≤ 4001 ∧ RSt C w' j b ∧ Mv C.p w w' ∧ Fol r (ks, d) j b
end Go.Proofs.YtgegfbopogcjpaaGreatDoor
