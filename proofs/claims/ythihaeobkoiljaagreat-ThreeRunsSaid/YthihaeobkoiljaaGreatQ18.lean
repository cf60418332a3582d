/- Lemmas for the law. -/
import Derived.Test.YthihaeobkoiljaaGreatQ15
set_option linter.unusedVariables false
set_option linter.unusedSimpArgs false
set_option maxRecDepth 100000
set_option maxHeartbeats 40000000
namespace Go.Proofs.YthihaeobkoiljaaGreat
open Go.RowKit
open Go.Maps (Keyed)
structure Ent where
 nm : ByteArray
 fn : Bool
 ty : Ty
 n : Int
def ents (u : Un) (b0 v0 : Nat) : List Ent := u.bs.mapIdx (fun i b => ⟨b.nm, true, b.ty, ((b0 + i : Nat) : Int)⟩) ++ u.gs.mapIdx (fun i g => ⟨g.nm, false, g.ty, ((v0 + i : Nat) : Int)⟩) ++ u.os.map (fun o => ⟨o.nm, o.fn, o.ty, -1⟩)
theorem ents_nm (u : Un) (b0 v0 : Nat) : (ents u b0 v0).map (·.nm) = unNames u := by
 unfold ents unNames
 rw [List.map_append, List.map_append]
 congr 1
 ·congr 1
  ·apply List.ext_getElem <;> simp
  ·apply List.ext_getElem <;> simp
 ·simp
theorem ents_len (u : Un) (b0 v0 : Nat) : (ents u b0 v0).length = u.bs.length + u.gs.length + u.os.length := by unfold ents; simp; omega
structure Vr where
 b : Nat
 lo : Int
 hi : Int
 n : Nat
def Vr.val (x : Vr) : Value := .slice (some ⟨x.b, 0, none⟩) x.n 2
def varB (x : Vr) : Rc := bx x.b 21 #[.int .i32 x.lo, .int .i32 x.hi]
def TvOk (w : World) (e : Ent) (p : ByteArray × Tv) : Prop := p.1 = e.nm ∧ p.2.fn = e.fn ∧ p.2.t = textB e.ty ∧ p.2.n = e.n ∧ Rep w e.ty [.int .i64 p.2.k, .string p.2.nm, .slice p.2.A p.2.a p.2.ca, .slice p.2.B p.2.b p.2.cb, .bool p.2.many]
def VrOk (g : Gl) (x : Vr) : Prop := x.lo = wrap32 g.v ∧ x.hi = wrap32 (g.v / 4294967296) ∧ x.n = (sizeT g.ty).1
theorem tv_names {w : World} {es : List Ent} {T : List (ByteArray × Tv)} (h : All2 (TvOk w) es T) : T.map (·.1) = es.map (·.nm) := by
 induction h with
 | nil => rfl
 | cons h _ ih => rw [List.map_cons, List.map_cons, ih, h.1]
theorem give_is {w : World} {u : Un} {b0 v0 k : Nat} {T : List (ByteArray × Tv)} (h : All2 (TvOk w) ((ents u b0 v0).take k) T) (s : ByteArray) : (lkM T s).isNone = !strIn ((unNames u).take k) s := by
 have hn := tv_names h
 rw [List.map_take, ents_nm] at hn
 rcases e : lkM T s with _ | x
 ·have := lkM_none.1 e
  rw [hn] at this
  simp [strIn, this]
 ·have : ¬ s ∉ T.map (·.1) := fun h => by rw [lkM_none.2 h] at e; cases e
  rw [hn] at this
  simp only [Option.isNone_some]
  symm
  simpa [strIn] using this
theorem okN_snoc {l : List ByteArray} {k : Nat} (h : okN l k) (hk : k < l.length) (h1 : nameOf l[k] = true) (h2 : strIn (l.take k) l[k] = false) : okN l (k + 1) := fun j hj hjk => by
 rcases Nat.lt_or_ge j k with h3 | h3
 ·exact h j hj h3
 ·have e : j = k := by omega
  subst e
  exact ⟨h1, h2⟩
theorem un_b {u : Un} {b0 v0 i : Nat} (h : i < u.bs.length) : ∃ hk : i < (ents u b0 v0).length, (ents u b0 v0)[i] = ⟨u.bs[i].nm, true, u.bs[i].ty, ((b0 + i : Nat) : Int)⟩ := by
 refine ⟨by rw [ents_len]; omega, ?_⟩
 unfold ents
 rw [List.getElem_append_left (by simp; omega), List.getElem_append_left (by simpa using h)]
 simp
theorem un_g {u : Un} {b0 v0 i : Nat} (h : i < u.gs.length) : ∃ hk : u.bs.length + i < (ents u b0 v0).length, (ents u b0 v0)[u.bs.length + i] = ⟨u.gs[i].nm, false, u.gs[i].ty, ((v0 + i : Nat) : Int)⟩ := by
 refine ⟨by rw [ents_len]; omega, ?_⟩
 unfold ents
 rw [List.getElem_append_left (by simp; omega), List.getElem_append_right (by simp)]
 simp
theorem un_o {u : Un} {b0 v0 i : Nat} (h : i < u.os.length) : ∃ hk : u.bs.length + u.gs.length + i < (ents u b0 v0).length, (ents u b0 v0)[u.bs.length + u.gs.length + i] = ⟨u.os[i].nm, u.os[i].fn, u.os[i].ty, -1⟩ := by
 refine ⟨by rw [ents_len]; omega, ?_⟩
 unfold ents
 rw [List.getElem_append_right (by simp)]
 simp
theorem nm_of {u : Un} {b0 v0 k : Nat} (hk : k < (ents u b0 v0).length) : ∃ h : k < (unNames u).length, (unNames u)[k] = (ents u b0 v0)[k].nm := by
 have h1 : k < (unNames u).length := by rw [← ents_nm u b0 v0]; simpa using hk
 refine ⟨h1, ?_⟩
 have h2 : ((ents u b0 v0).map (·.nm))[k]? = (unNames u)[k]? := by rw [ents_nm]
 rw [List.getElem?_map, List.getElem?_eq_getElem hk, List.getElem?_eq_getElem h1] at h2
 injection h2 with h2
 exact h2.symm
def TkRel (u : Un) (w : World) (l : List Rc) (X mb nb ub b0 v0 un ua ub' uc d4 : Nat) (UA UB UC A4 : Option Addr) (c0 c1 c2 c3 c8 c9 c10 : Value) (xb xu xv xn : List Value) (p q k : Nat) (wr : World) : Prop :=
 ∃ (A1 A2 A3 : Option Addr) (d1 d2 d3 : Nat) (cb : List (List Value)) (T : List (ByteArray × Tv)) (vr : List Vr), Hid (Hp w wr (bx X 55 #[c0, c1, c2, c3, .slice A1 (b0 + p) d1, .slice A2 (b0 + p) d2, .slice A3 (v0 + q) d3, .slice A4 un d4, c8, c9, c10] :: ow w.heap.size 37 9 (.slice A1 (b0 + p) d1) (b0 + p) (xb ++ cb.flatten) :: ow w.heap.size 3 1 (.slice A2 (b0 + p) d2) (b0 + p) (xu ++ List.replicate p (Value.int IntKind.i64 (un : Int))) :: ow w.heap.size 42 1 (.slice A3 (v0 + q) d3) (v0 + q) (xv ++ vr.map Vr.val) :: ow w.heap.size 57 1 (.slice A4 un d4) un xn :: mq Tryz.prog 9 mb (gM Tv.val T) :: bx nb 57 #[.map (some mb)] :: bx ub 29 #[.slice UA u.bs.length ua, .slice UB u.gs.length ub', .slice UC u.os.length uc] :: (vr.map varB ++ l))) ∧ Hid (All2 (RepB w) (u.bs.take p) cb) ∧ Hid (All2 VrOk (u.gs.take q) vr) ∧ Hid (All2 (TvOk w) ((ents u b0 v0).take k) T) ∧ Hid (okN (unNames u) k)
def CutG (F ok : Prop) (P : World → Prop) (w : World) (l : List Rc) (v : Value) (wx : World) : Prop := (v = .bool true ∧ F ∧ Hid (Hp w wx l)) ∨ (v = .bool false ∧ ok ∧ P wx)
theorem words_sz {T : Ty} {sz : Nat} (h : wordsT T = (sz : Int)) {W : World} (e : Ending) (W2 : World) (hh : e = .returned (.int .i64 (wordsT T)) ∧ Below W.heap.size W W2) : e = .returned (.int .i64 (sz : Int)) ∧ Below W.heap.size W W2 := by rw [h] at hh; exact hh
theorem Hp.tuck8 {w W : World} {a b c d e f g h x : Rc} {m l : List Rc} (H : Hp w W (a :: b :: c :: d :: e :: f :: g :: h :: x :: (m ++ l))) : Hp w W (a :: b :: c :: d :: e :: f :: g :: h :: (m ++ x :: l)) :=
 H.perm (.cons _ (.cons _ (.cons _ (.cons _ (.cons _ (.cons _ (.cons _ (.cons _ List.perm_middle.symm))))))))
theorem cnt_size {T : Ty} (h : cntB T = true) : wordsT T = ((sizeT T).1 : Int) ∧ 1 ≤ (sizeT T).1 ∧ (sizeT T).1 ≤ 2 := by
 unfold cntB at h
 simp only [Bool.and_eq_true, Bool.or_eq_true, beq_iff_eq] at h
 refine ⟨by unfold wordsT; rw [if_pos h.2], size_pos 4 T h.2, ?_⟩
 obtain ⟨k, nm, ns, ps, m⟩ := T
 rcases h.1 with h1 | h1 <;> (have h1 : k = _ := h1; subst h1; unfold sizeT; simp)
theorem body_nm {b : Bo} (h : bodyB b = true) : b.nm.size ≤ maxLen := by
 unfold bodyB at h
 simp only [Bool.and_eq_true, decide_eq_true_eq] at h
 have h1 := h.1.1.1.1.1.1.1
 unfold nameOf at h1
 simp only [Bool.and_eq_true, decide_eq_true_eq] at h1
 have := h1.1.1.1.2
 unfold maxLen
 omega
def TkOut (u : Un) (w : World) (l : List Rc) (X b0 v0 un : Nat) (c0 c1 c2 c3 c8 c9 c10 : Value) (xb xu xv xn : List Value) (e : Ending) (W' : World) : Prop :=
 ∃ b : Bool, e = .returned (.bool b) ∧ b = unitB u ∧ Hid (Hp w W' l) ∧ (b = true → ∃ (A1' A2' A3' A4' : Option Addr) (d1' d2' d3' d4' mb : Nat) (cb : List (List Value)) (T : List (ByteArray × Tv)) (vr : List Vr), Hid (Hp w W' (bx X 55 #[c0, c1, c2, c3, .slice A1' (b0 + u.bs.length) d1', .slice A2' (b0 + u.bs.length) d2', .slice A3' (v0 + u.gs.length) d3', (.slice A4' (un + 1) d4'), c8, c9, c10] :: ow w.heap.size 37 9 (.slice A1' (b0 + u.bs.length) d1') (b0 + u.bs.length) (xb ++ cb.flatten) :: ow w.heap.size 3 1 (.slice A2' (b0 + u.bs.length) d2') (b0 + u.bs.length) (xu ++ List.replicate u.bs.length (Value.int IntKind.i64 (un : Int))) :: ow w.heap.size 42 1 (.slice A3' (v0 + u.gs.length) d3') (v0 + u.gs.length) (xv ++ vr.map Vr.val) :: ow w.heap.size 57 1 (.slice A4' (un + 1) d4') (un + 1) (xn ++ [.map (some mb)]) :: mq Tryz.prog 9 mb (gM Tv.val T) :: (vr.map varB ++ l))) ∧ Hid (All2 (RepB w) u.bs cb) ∧ Hid (All2 VrOk u.gs vr) ∧ Hid (All2 (TvOk w) (ents u b0 v0) T))
theorem take_any (u : Un) (us : List Value) {w W : World} {l : List Rc} {X b0 v0 un d1 d2 d3 d4 : Nat} {A1 A2 A3 A4 : Option Addr} {c0 c1 c2 c3 c8 c9 c10 : Value} {xb xu xv xn : List Value} (hu : RepU w u us) (hm : ML w) (hn1 : ∀ g ∈ u.gs, g.nm.size ≤ maxLen) (hn2 : ∀ o ∈ u.os, o.nm.size ≤ maxLen)
 (h1 : u.bs.length ≤ 40) (h2 : u.gs.length ≤ 40) (h3 : u.os.length ≤ 40) (hb0 : b0 ≤ 1000) (hv0 : v0 ≤ 1000) (hun : un ≤ 100) (h : Hp w W (bx X 55 #[c0, c1, c2, c3, .slice A1 b0 d1, .slice A2 b0 d2, .slice A3 v0 d3, .slice A4 un d4, c8, c9, c10] :: ow w.heap.size 37 9 (.slice A1 b0 d1) b0 xb :: ow w.heap.size 3 1 (.slice A2 b0 d2) b0 xu :: ow w.heap.size 42 1 (.slice A3 v0 d3) v0 xv :: ow w.heap.size 57 1 (.slice A4 un d4) un xn :: l)) :
 Calls Tryz.prog 14 #[.pointer (some ⟨X, 0, none⟩), .agg us.toArray] W (TkOut u w l X b0 v0 un c0 c1 c2 c3 c8 c9 c10 xb xu xv xn) := by
 obtain ⟨UA, ua, UB, ub', UC, uc, rfl, rA, rB, rC, -, -, -⟩ := hu
 have RA := Lh rA
 have RB := Lh rB
 have RC := Lh rC
 have HM := Lh hm
 have HN1 := Lh hn1
 have HN2 := Lh hn2
 obtain ⟨w0, rfl⟩ : ∃ x, x = W := ⟨_, rfl⟩
 have HS := Lh h
 clear rA rB rC hm hn1 hn2 h
 go_enter Tryz.func14, Tryz.ntmps14
 go_upto_region 1 with (fail)
 replace HS := Lh (HS.out.box 29 #[.slice UA u.bs.length ua, .slice UB u.gs.length ub', .slice UC u.os.length uc])
 generalize w0.alloc _ = w1 at *
 generalize w0.heap.size = ub at *
 have hmf : ∀ (fn : Fn) (first cap : Array Value) (w : World), (Instr.makeFunc fn first cap).run Tryz.prog w = .ok (.func fn first cap) w := fun _ _ _ _ => rfl
 have hmm := @run_makeMap Tryz.prog
 go_upto_region 3 with (fail)
 clear hmm
 have hz : (w1.alloc (.map #[] 0)).heap.size = w1.heap.size + 1 := by simp
 replace HS := Lh ((HS.out.map Tryz.prog 9).box 57 #[.map (some w1.heap.size)])
 rw [hz] at HS
 clear hz
 generalize (w1.alloc _).alloc _ = w2 at *
 generalize w1.heap.size + 1 = nb at *
 generalize w1.heap.size = mb at *
 have u0 := HS.out.c 2 0
 go_wp2_with fail
 clear u0 hmf
 replace HS := Lh HS.out.f2.f1.f2.f7.f7.f7.f7.f7
 have none0 : TkRel u w l X mb nb ub b0 v0 un ua ub' uc d4 UA UB UC A4 c0 c1 c2 c3 c8 c9 c10 xb xu xv xn 0 0 0 w2 := ⟨A1, A2, A3, d1, d2, d3, [], [], [], Lh (by simpa [gM] using HS.out), .nil, .nil, .nil, fun j _ h => absurd h (by omega)⟩
 go_loopw [21] (fun iv wr => ∃ i : Nat, i ≤ u.bs.length ∧ iv = .int .i64 i ∧ (∀ j (h : j < u.bs.length), j < i → bodyB u.bs[j] = true) ∧ TkRel u w l X mb nb ub b0 v0 un ua ub' uc d4 UA UB UC A4 c0 c1 c2 c3 c8 c9 c10 xb xu xv xn i 0 i wr) (fun iv _ => u.bs.length - (intOf iv).toNat)
 case atStart => exact ⟨0, Nat.zero_le _, rfl, fun j _ h => absurd h (by omega), none0⟩
 case round =>
  clear HS; obtain ⟨i, hik, rfl, hg, ht⟩ := hrel
  obtain ⟨w3, rfl⟩ : ∃ x, x = wr := ⟨_, rfl⟩
  obtain ⟨A1, A2, A3, d1, d2, d3, cb, T, vr, HS, HCB, HVS, HTS, HOK⟩ := ht
  by_cases hlt : i < u.bs.length
  ·obtain ⟨b2, o2, rfl, hbl2⟩ := RA.out.adr (by omega)
   obtain ⟨cs, hrb, hd⟩ := RA.out.row hlt
   have HRB := Lh hrb
   obtain ⟨An, cn, Ap, cp, A', c', rfl, hTy, -, -, -⟩ := hrb.nine
   have c0' := hd w3 HS.out.mv 0 _ rfl
   have c1' := hd w3 HS.out.mv 1 _ rfl
   have c2' := hd w3 HS.out.mv 2 _ rfl
   have c3' := hd w3 HS.out.mv 3 _ rfl
   have c4' := hd w3 HS.out.mv 4 _ rfl
   have c5' := hd w3 HS.out.mv 5 _ rfl
   have c6' := hd w3 HS.out.mv 6 _ rfl
   have c7' := hd w3 HS.out.mv 7 _ rfl
   have c8' := hd w3 HS.out.mv 8 _ rfl
   rw [Nat.add_zero] at c0'
   have HTY := Lh hTy
   have hj : (i : Int) < (u.bs.length : Int) := by omega
   have hj1 : (0 : Int) ≤ (i : Int) := by omega
   have hj6 : (i : Int) < 40 := by omega
   clear hd hTy
   obtain ⟨hk, hE⟩ := un_b (b0 := b0) (v0 := v0) hlt
   obtain ⟨hk2, hNM⟩ := nm_of hk
   rw [hE] at hNM
   have HNB : Hid (bodyB u.bs[i] = false → unitB u = false) := fun h => unit_bs hlt h
   have HYB : Hid (bodyB u.bs[i] = true → ∀ j (h : j < u.bs.length), j < i + 1 → bodyB u.bs[j] = true) := fun h0 j h hj => by
    rcases Nat.lt_or_ge j i with h1 | h1
    ·exact hg j h h1
    ·have e : j = i := by omega
     subst e
     exact h0
   have HGV : Hid ((lkM T u.bs[i].nm).isNone = !strIn ((unNames u).take i) u.bs[i].nm) := give_is HTS.out _
   have HN1 : Hid (nameOf u.bs[i].nm = false → unitB u = false) := fun h => unit_nm (okN_name hk2 (by rw [hNM]; exact h))
   have HN2 : Hid (strIn ((unNames u).take i) u.bs[i].nm = true → unitB u = false) := fun h => unit_nm (okN_dup hk2 (by rw [hNM]; exact h))
   have HOK2 : Hid (nameOf u.bs[i].nm = true → strIn ((unNames u).take i) u.bs[i].nm = false → okN (unNames u) (i + 1)) := fun h3 h4 => okN_snoc HOK.out hk2 (by rw [hNM]; exact h3) (by rw [hNM]; exact h4)
   have HT2 : Hid (∀ p, TvOk w ⟨u.bs[i].nm, true, u.bs[i].ty, ((b0 + i : Nat) : Int)⟩ p → All2 (TvOk w) ((ents u b0 v0).take (i + 1)) (T ++ [p])) := fun p hp => f2_snoc HTS.out hk (by rw [hE]; exact hp)
   have HC2 : Hid (∀ c, RepB w u.bs[i] c → All2 (RepB w) (u.bs.take (i + 1)) (cb ++ [c])) := fun c hc => f2_snoc HCB.out hlt hc
   clear hg hE hNM hk2 hk HTS HOK
   have hsz : bodyB u.bs[i] = true → u.bs[i].nm.size ≤ maxLen := fun h => body_nm h
   have HSZ := Lh hsz
   clear hsz
   generalize u.bs[i] = b at *
   go_upto_region 6 with (fail)
   clear c0' c1' c2' c3' c4' c5' c6' c7' c8'
   replace HS := Lh (HS.out.box 37 #[.string b.nm, .bool b.static, .int .i64 b.ty.k, .string b.ty.nm, .slice An b.ty.ns.length cn, .slice Ap b.ty.ps.length cp, .bool b.ty.many, .int .i64 b.regs, .slice A' b.code.length c'])
   generalize w3.alloc _ = w4 at *
   generalize w3.heap.size = tb at *
   obtain ⟨gv, hgv⟩ : ∃ x, ((lkM T b.nm).isNone && nameOf b.nm) = x := ⟨_, rfl⟩
   have HG := Lh hgv
   rw [HGV.out] at hgv
   have HGF : Hid (gv = false → unitB u = false) := fun h => by
    rw [h] at hgv
    rcases h1 : strIn ((unNames u).take i) b.nm with _ | _
    ·exact HN1.out (by rw [h1] at hgv; simpa using hgv)
    ·exact HN2.out h1
   have HGT : Hid (gv = true → okN (unNames u) (i + 1)) := fun h => by
    rw [h] at hgv
    rw [Bool.and_eq_true] at hgv
    exact HOK2.out hgv.2 (by simpa using hgv.1)
   clear hgv HN1 HN2 HOK2 HGV
   rcases hbo : bodyB b with _ | _
   ·replace HS := Lh HS.out.drew
    refine dQ (fun W => At W tb 0 (.string b.nm) ∧ At W tb 1 (.bool b.static) ∧ At W tb 2 (.int .i64 b.ty.k) ∧ At W tb 3 (.string b.ty.nm) ∧ At W tb 4 (.slice An b.ty.ns.length cn) ∧ At W tb 5 (.slice Ap b.ty.ps.length cp) ∧ At W tb 6 (.bool b.ty.many) ∧ At W tb 7 (.int .i64 b.regs) ∧ At W tb 8 (.slice A' b.code.length c') ∧ At W X 4 (.slice A1 (b0 + i) d1)) (⟨HS.out.c 0 0, HS.out.c 0 1, HS.out.c 0 2, HS.out.c 0 3, HS.out.c 0 4, HS.out.c 0 5, HS.out.c 0 6, HS.out.c 0 7, HS.out.c 0 8, HS.out.c 1 4⟩) fun _ => ?_
    generalize w4.drew = w5 at *
    refine tQ 0 ?_; try simp only [sq]
    refine rQ 1 (fun K hK => ?_)
    go_simp
    refine (may3_any b _ _ (HRB.out.keep HS.out.mv) (HM.out.keep HS.out.mv)).mono ?_
    rintro e w6 ⟨rfl, hb⟩
    replace HS := Lh (HS.out.below hb)
    clear hb
    rw [hbo]
    refine hK.out _ _ (⟨HS.out.c 0 0, HS.out.c 0 1, HS.out.c 0 2, HS.out.c 0 3, HS.out.c 0 4, HS.out.c 0 5, HS.out.c 0 6, HS.out.c 0 7, HS.out.c 0 8, HS.out.c 1 4⟩) (fun _ => ?_)
    clear hK K
    try simp only [sq]
    refine tQ 2 ?_; try simp only [sq]
    refine tQ 3 ?_; try simp only [sq]
    refine pQ 4 ?_; try simp only [sq]
    refine pQ 5 ?_; try simp only [sq]
    refine pQ 6 ?_; try simp only [sq]
    refine pQ 7 ?_; try simp only [sq]
    refine pQ 8 ?_; try simp only [sq]
    refine pQ 9 ?_; try simp only [sq]
    refine pQ 10 ?_; try simp only [sq]
    refine pQ 11 ?_; try simp only [sq]
    refine pQ 12 ?_; try simp only [sq]
    refine pQ 13 ?_; try simp only [sq]
    refine pQ 14 ?_; try simp only [sq]
    refine pQ 15 ?_; try simp only [sq]
    refine pQ 16 ?_; try simp only [sq]
    refine pQ 17 ?_; try simp only [sq]
    refine pQ 18 ?_; try simp only [sq]
    refine pQ 19 ?_; try simp only [sq]
    refine tQ 20 ?_; try simp only [sq]
    refine fQ ?_ _
    have hq : unitB u = false := HNB.out hbo
    go_wp2_with fail
    go_ret
    exact ⟨false, rfl, hq.symm, Lh (HS.out.sub (by repeat (first | exact List.sublist_append_right _ _ | refine List.Sublist.cons _ ?_))), fun h => (nomatch h)⟩
   have HBO := Lh (HYB.out hbo)
   have hnl := HSZ.out hbo
   replace HS := Lh HS.out.drew
   refine dQ (fun W => At W tb 0 (.string b.nm) ∧ At W tb 1 (.bool b.static) ∧ At W tb 2 (.int .i64 b.ty.k) ∧ At W tb 3 (.string b.ty.nm) ∧ At W tb 4 (.slice An b.ty.ns.length cn) ∧ At W tb 5 (.slice Ap b.ty.ps.length cp) ∧ At W tb 6 (.bool b.ty.many) ∧ At W tb 7 (.int .i64 b.regs) ∧ At W tb 8 (.slice A' b.code.length c') ∧ At W X 4 (.slice A1 (b0 + i) d1)) (⟨HS.out.c 0 0, HS.out.c 0 1, HS.out.c 0 2, HS.out.c 0 3, HS.out.c 0 4, HS.out.c 0 5, HS.out.c 0 6, HS.out.c 0 7, HS.out.c 0 8, HS.out.c 1 4⟩) fun _ => ?_
   generalize w4.drew = w5 at *
   refine tQ 0 ?_; try simp only [sq]
   refine rQ 1 (fun K hK => ?_)
   go_simp
   refine (may3_any b _ _ (HRB.out.keep HS.out.mv) (HM.out.keep HS.out.mv)).mono ?_
   rintro e w6 ⟨rfl, hb⟩
   replace HS := Lh (HS.out.below hb)
   clear hb
   rw [hbo]
   refine hK.out _ _ (⟨HS.out.c 0 0, HS.out.c 0 1, HS.out.c 0 2, HS.out.c 0 3, HS.out.c 0 4, HS.out.c 0 5, HS.out.c 0 6, HS.out.c 0 7, HS.out.c 0 8, HS.out.c 1 4⟩) (fun _ => ?_)
   clear hK K
   try simp only [sq]
   refine tQ 2 ?_; try simp only [sq]
   refine tQ 3 ?_; try simp only [sq]
   refine tQ 4 ?_; try simp only [sq]
   refine tQ 5 ?_; try simp only [sq]
   refine tQ 6 ?_; try simp only [sq]
   refine tQ 7 ?_; try simp only [sq]
   refine tQ 8 ?_; try simp only [sq]
   refine tQ 10 ?_; try simp only [sq]
   refine tQ 11 ?_; try simp only [sq]
   refine tQ 12 ?_; try simp only [sq]
   refine tQ 13 ?_; try simp only [sq]
   refine tQ 14 ?_; try simp only [sq]
   refine tQ 15 ?_; try simp only [sq]
   refine tQ 16 ?_; try simp only [sq]
   refine rQ 9 (fun K hK => ?_)
   go_simp
   refine (text_any b.ty _ _ (Rep.keep HS.out.mv _ _ HTY.out) (HM.out.keep HS.out.mv)).mono ?_
   rintro e w7 ⟨rfl, hb⟩
   replace HS := Lh (HS.out.below hb)
   clear hb
   refine hK.out _ _ (⟨HS.out.c 0 0, HS.out.c 0 1, HS.out.c 0 2, HS.out.c 0 3, HS.out.c 0 4, HS.out.c 0 5, HS.out.c 0 6, HS.out.c 0 7, HS.out.c 0 8, HS.out.c 1 4⟩) (fun _ => ?_)
   clear hK K
   try simp only [sq]
   refine tQ 17 ?_; try simp only [sq]
   skip
   refine rQ 18 (fun K hK => ?_)
   go_simp
   replace HS := Lh HS.out.f7.f7
   refine (give_any b.nm ⟨true, textB b.ty, ((b0 + i : Nat) : Int), b.ty.k, b.ty.nm, An, b.ty.ns.length, cn, Ap, b.ty.ps.length, cp, b.ty.many⟩ HS.out HM.out hnl).mono ?_
   clear HS; rintro e w8 ⟨rfl, HS⟩
   refine hK.out _ _ (⟨HS.out.c 2 0, HS.out.c 2 1, HS.out.c 2 2, HS.out.c 2 3, HS.out.c 2 4, HS.out.c 2 5, HS.out.c 2 6, HS.out.c 2 7, HS.out.c 2 8, HS.out.c 3 4⟩) (fun _ => ?_)
   clear hK K
   try simp only [sq]
   rw [HG.out]
   refine tQ 19 ?_; try simp only [sq]
   refine tQ 20 ?_; try simp only [sq]
   refine fQ ?_ _
   cases gv
   ·have hq : unitB u = false := HGF.out rfl
    go_wp2_with fail
    go_ret
    exact ⟨false, rfl, hq.symm, Lh (HS.out.sub (by repeat (first | exact List.sublist_append_right _ _ | refine List.Sublist.cons _ ?_))), fun h => (nomatch h)⟩
   have HOK := Lh (HGT.out rfl)
   have HTS := Lh (HT2.out (b.nm, ⟨true, textB b.ty, ((b0 + i : Nat) : Int), b.ty.k, b.ty.nm, An, b.ty.ns.length, cn, Ap, b.ty.ps.length, cp, b.ty.many⟩) ⟨rfl, rfl, rfl, rfl, HTY.out⟩)
   have HCB2 := Lh (HC2.out _ HRB.out)
   clear HGF HGT HG HT2 HC2 HNB HYB hbo HSZ hnl
   obtain ⟨T2, hT2⟩ : ∃ T2, T ++ [(b.nm, ⟨true, textB b.ty, ((b0 + i : Nat) : Int), b.ty.k, b.ty.nm, An, b.ty.ns.length, cn, Ap, b.ty.ps.length, cp, b.ty.many⟩)] = T2 := ⟨_, rfl⟩
   rw [hT2] at HS HTS
   clear hT2
   go_wp2_with fail
   replace HS := Lh HS.out.drew
   refine dQ (fun _ => True) (trivial) fun _ => ?_
   generalize w8.drew = w9 at *
   refine tQ 0 ?_; try simp only [sq]
   refine tQ 1 ?_; try simp only [sq]
   refine tQ 2 ?_; try simp only [sq]
   refine tQ 3 ?_; try simp only [sq]
   replace HS := Lh HS.out.f2.f4.f4
   refine wpAnyH_grp [⟨4, some 50, []⟩, ⟨5, some 51, []⟩, ⟨6, some 52, [5]⟩] 4 (fun vs W => ∃ y_ : Nat, Hid (Hp w W (ifq (vs 6) (bx y_ 37 #[.string b.nm, .bool b.static, .int .i64 b.ty.k, .string b.ty.nm, .slice An b.ty.ns.length cn, .slice Ap b.ty.ps.length cp, .bool b.ty.many, .int .i64 b.regs, .slice A' b.code.length c']) ++ (bx X 55 #[c0, c1, c2, c3, .slice A1 (b0 + i) d1, .slice A2 (b0 + i) d2, .slice A3 (v0 + 0) d3, .slice A4 un d4, c8, c9, c10] :: ow w.heap.size 37 9 (.slice A1 (b0 + i) d1) (b0 + i) (xb ++ cb.flatten) :: bx tb 37 #[.string b.nm, .bool b.static, .int .i64 b.ty.k, .string b.ty.nm, .slice An b.ty.ns.length cn, .slice Ap b.ty.ps.length cp, .bool b.ty.many, .int .i64 b.regs, .slice A' b.code.length c'] :: mq Tryz.prog 9 mb (gM Tv.val T2) :: bx nb 57 #[.map (some mb)] :: ow w.heap.size 3 1 (.slice A2 (b0 + i) d2) (b0 + i) (xu ++ List.replicate i (Value.int IntKind.i64 (un : Int))) :: ow w.heap.size 42 1 (.slice A3 (v0 + 0) d3) (v0 + 0) (xv ++ vr.map Vr.val) :: ow w.heap.size 57 1 (.slice A4 un d4) un xn :: bx ub 29 #[.slice (some ⟨b2, o2, none⟩) u.bs.length ua, .slice UB u.gs.length ub', .slice UC u.os.length uc] :: (vr.map varB ++ l)))) ∧ OV (vs 4) (.slice A1 (b0 + i) d1) ∧ OV (vs 5) (.agg #[.string b.nm, .bool b.static, .int .i64 b.ty.k, .string b.ty.nm, .slice An b.ty.ns.length cn, .slice Ap b.ty.ps.length cp, .bool b.ty.many, .int .i64 b.regs, .slice A' b.code.length c']) ∧ OV (vs 6) (.slice (some ⟨y_, 0, none⟩) 1 1)) (by rfl) (by decide +kernel) ⟨0, HS, OP.no _ rfl, OP.no _ rfl, OP.no _ rfl⟩ (fun _ _ _ => trivial) ⟨?_, ?_, ?_, trivial⟩ ?_
   ·clear HS; refine ⟨_, rfl, fun vs W h4 hd hn ⟨y_, HS, e4, e5, e6⟩ => ?_⟩
    have hk := HS.out.ok (bx X 55 #[c0, c1, c2, c3, .slice A1 (b0 + i) d1, .slice A2 (b0 + i) d2, .slice A3 (v0 + 0) d3, .slice A4 un d4, c8, c9, c10]) (by simp)
    have hk := (show Blk W X 55 #[c0, c1, c2, c3, .slice A1 (b0 + i) d1, .slice A2 (b0 + i) d2, .slice A3 (v0 + 0) d3, .slice A4 un d4, c8, c9, c10] from hk)
    have c4 := hk.cell 4 _ rfl
    clear hk
    simp only [actG, old, Option.getD_some]; try simp only [sq]; intro K hK
    go_simp
    exact hK.out _ _ ⟨y_, HS, OP.is rfl, e5, e6⟩
   ·clear HS; refine ⟨_, rfl, fun vs W h5 hd hn ⟨y_, HS, e4, e5, e6⟩ => ?_⟩
    have hk := HS.out.ok (bx tb 37 #[.string b.nm, .bool b.static, .int .i64 b.ty.k, .string b.ty.nm, .slice An b.ty.ns.length cn, .slice Ap b.ty.ps.length cp, .bool b.ty.many, .int .i64 b.regs, .slice A' b.code.length c']) (by simp)
    have hk := (show Blk W tb 37 #[.string b.nm, .bool b.static, .int .i64 b.ty.k, .string b.ty.nm, .slice An b.ty.ns.length cn, .slice Ap b.ty.ps.length cp, .bool b.ty.many, .int .i64 b.regs, .slice A' b.code.length c'] from hk)
    have c0 := hk.cell 0 _ rfl
    have c1 := hk.cell 1 _ rfl
    have c2 := hk.cell 2 _ rfl
    have c3 := hk.cell 3 _ rfl
    have c4 := hk.cell 4 _ rfl
    have c5 := hk.cell 5 _ rfl
    have c6 := hk.cell 6 _ rfl
    have c7 := hk.cell 7 _ rfl
    have c8 := hk.cell 8 _ rfl
    clear hk
    simp only [actG, old, Option.getD_some]; try simp only [sq]; intro K hK
    go_simp
    exact hK.out _ _ ⟨y_, HS, e4, OP.is rfl, OP.no _ hn.2.2.1⟩
   ·clear HS; refine ⟨_, rfl, fun vs W h6 hd hn ⟨y_, HS, e4, e5, e6⟩ => ?_⟩
    obtain ⟨⟨v5, h5⟩, -⟩ := hd
    obtain rfl := e5 _ h5
    rw [h6] at HS
    simp only [actG, old, h5, Option.getD_some]; try simp only [sq]; intro K hK
    go_simp
    exact hK.out _ _ ⟨W.heap.size, Lh (HS.out.box 37 #[.string b.nm, .bool b.static, .int .i64 b.ty.k, .string b.ty.nm, .slice An b.ty.ns.length cn, .slice Ap b.ty.ps.length cp, .bool b.ty.many, .int .i64 b.regs, .slice A' b.code.length c']), e4, e5, OP.is rfl⟩
   clear HS; intro vs W ⟨y_, HS, e4, e5, e6⟩ hall
   obtain ⟨⟨v4, h4⟩, ⟨v5, h5⟩, ⟨v6, h6⟩, -⟩ := hall
   obtain rfl := e4 _ h4
   obtain rfl := e5 _ h5
   obtain rfl := e6 _ h6
   rw [h6] at HS
   simp only [ifq, List.cons_append, List.nil_append] at HS
   simp only [actG, lisG, old, h4, h5, h6, Option.getD_some, Option.isSome_some, if_true, List.length_cons, List.length_nil]; try simp only [sq]
   clear h4 e4 h5 e5 h6 e6 vs
   obtain ⟨w10, rfl⟩ : ∃ x, x = W := ⟨_, rfl⟩
   refine rQ 7 (fun K hK => ?_)
   rw [if_pos (by rfl)]
   replace HS := Lh HS.out.f2
   refine oper_push_own HS.out (Nat.le_refl _) _ _ 25 136 rfl Tryz.underlying25 elt_body rfl ⟨y_, 0, none⟩ 1 _ [.string b.nm, .bool b.static, .int .i64 b.ty.k, .string b.ty.nm, .slice An b.ty.ns.length cn, .slice Ap b.ty.ps.length cp, .bool b.ty.many, .int .i64 b.regs, .slice A' b.code.length c'] rfl rfl (HS.out.blk 1 rfl).news (by simp [Value.oneCell']) (by unfold maxLen; omega) (by omega) ?_
   clear HS; intro A1x d1x w11 HS
   simp only [Nat.add_assoc] at HS ⊢
   refine hK.out _ _ (trivial) (fun _ => ?_)
   clear hK K
   try simp only [sq]
   replace HS := Lh HS.out.f1.drop
   refine tQ 8 ?_; try simp only [sq]
   refine tQ 9 ?_; try simp only [sq]
   refine rQ 10 (fun K hK => ?_)
   replace HS := Lh HS.out.f1
   have f4 := (HS.out.blk 0 rfl).free 4
   have g4 := HS.out.c 0 4
   go_simp
   clear f4 g4
   replace HS := Lh (HS.out.put1 4 (.slice A1x (b0 + (i + 1)) d1x))
   simp only [sq] at HS
   generalize w11.setCell _ _ = w12 at *
   refine hK.out _ _ (trivial) (fun _ => ?_)
   clear hK K
   try simp only [sq]
   refine fQ ?_ _
   go_wp2_with fail
   replace HS := Lh HS.out.drew
   refine dQ (fun _ => True) (trivial) fun _ => ?_
   generalize w12.drew = w13 at *
   refine tQ 0 ?_; try simp only [sq]
   refine tQ 1 ?_; try simp only [sq]
   refine tQ 2 ?_; try simp only [sq]
   refine tQ 3 ?_; try simp only [sq]
   refine tQ 5 ?_; try simp only [sq]
   refine tQ 6 ?_; try simp only [sq]
   refine tQ 7 ?_; try simp only [sq]
   replace HS := Lh HS.out.f5.f1
   refine wpAnyH_grp [⟨4, some 60, []⟩, ⟨8, some 64, []⟩, ⟨9, some 65, [8]⟩, ⟨10, some 66, [9]⟩] 4 (fun vs W => ∃ y_ : Nat, Hid (Hp w W (ifq (vs 10) (bx y_ 3 #[.int .i64 (un : Int)]) ++ (bx X 55 #[c0, c1, c2, c3, .slice A1x (b0 + (i + 1)) d1x, .slice A2 (b0 + i) d2, .slice A3 (v0 + 0) d3, .slice A4 un d4, c8, c9, c10] :: ow w.heap.size 3 1 (.slice A2 (b0 + i) d2) (b0 + i) (xu ++ List.replicate i (Value.int IntKind.i64 (un : Int))) :: ow w.heap.size 37 9 (.slice A1x (b0 + (i + 1)) d1x) (b0 + (i + 1)) (xb ++ cb.flatten ++ ([.string b.nm, .bool b.static, .int .i64 b.ty.k, .string b.ty.nm, .slice An b.ty.ns.length cn, .slice Ap b.ty.ps.length cp, .bool b.ty.many, .int .i64 b.regs, .slice A' b.code.length c'] : List Value)) :: bx tb 37 #[.string b.nm, .bool b.static, .int .i64 b.ty.k, .string b.ty.nm, .slice An b.ty.ns.length cn, .slice Ap b.ty.ps.length cp, .bool b.ty.many, .int .i64 b.regs, .slice A' b.code.length c'] :: mq Tryz.prog 9 mb (gM Tv.val T2) :: bx nb 57 #[.map (some mb)] :: ow w.heap.size 42 1 (.slice A3 (v0 + 0) d3) (v0 + 0) (xv ++ vr.map Vr.val) :: ow w.heap.size 57 1 (.slice A4 un d4) un xn :: bx ub 29 #[.slice (some ⟨b2, o2, none⟩) u.bs.length ua, .slice UB u.gs.length ub', .slice UC u.os.length uc] :: (vr.map varB ++ l)))) ∧ OV (vs 4) (.slice A2 (b0 + i) d2) ∧ OV (vs 8) (.slice A4 un d4) ∧ OV (vs 9) (.int .i64 (un : Int)) ∧ OV (vs 10) (.slice (some ⟨y_, 0, none⟩) 1 1)) (by rfl) (by decide +kernel) ⟨0, HS, OP.no _ rfl, OP.no _ rfl, OP.no _ rfl, OP.no _ rfl⟩ (fun _ _ _ => trivial) ⟨?_, ?_, ?_, ?_, trivial⟩ ?_
   ·clear HS; refine ⟨_, rfl, fun vs W h4 hd hn ⟨y_, HS, e4, e8, e9, e10⟩ => ?_⟩
    have hk := HS.out.ok (bx X 55 #[c0, c1, c2, c3, .slice A1x (b0 + (i + 1)) d1x, .slice A2 (b0 + i) d2, .slice A3 (v0 + 0) d3, .slice A4 un d4, c8, c9, c10]) (by simp)
    have hk := (show Blk W X 55 #[c0, c1, c2, c3, .slice A1x (b0 + (i + 1)) d1x, .slice A2 (b0 + i) d2, .slice A3 (v0 + 0) d3, .slice A4 un d4, c8, c9, c10] from hk)
    have c5 := hk.cell 5 _ rfl
    clear hk
    simp only [actG, old, Option.getD_some]; try simp only [sq]; intro K hK
    go_simp
    exact hK.out _ _ ⟨y_, HS, OP.is rfl, e8, e9, e10⟩
   ·clear HS; refine ⟨_, rfl, fun vs W h8 hd hn ⟨y_, HS, e4, e8, e9, e10⟩ => ?_⟩
    have hk := HS.out.ok (bx X 55 #[c0, c1, c2, c3, .slice A1x (b0 + (i + 1)) d1x, .slice A2 (b0 + i) d2, .slice A3 (v0 + 0) d3, .slice A4 un d4, c8, c9, c10]) (by simp)
    have hk := (show Blk W X 55 #[c0, c1, c2, c3, .slice A1x (b0 + (i + 1)) d1x, .slice A2 (b0 + i) d2, .slice A3 (v0 + 0) d3, .slice A4 un d4, c8, c9, c10] from hk)
    have c7 := hk.cell 7 _ rfl
    clear hk
    simp only [actG, old, Option.getD_some]; try simp only [sq]; intro K hK
    go_simp
    exact hK.out _ _ ⟨y_, HS, e4, OP.is rfl, OP.no _ hn.2.2.1, e10⟩
   ·clear HS; refine ⟨_, rfl, fun vs W h9 hd hn ⟨y_, HS, e4, e8, e9, e10⟩ => ?_⟩
    obtain ⟨⟨v8, h8⟩, -⟩ := hd
    obtain rfl := e8 _ h8
    simp only [actG, old, h8, Option.getD_some]; try simp only [sq]; intro K hK
    go_simp
    exact hK.out _ _ ⟨y_, HS, e4, e8, OP.is rfl, OP.no _ hn.2.2.2.1⟩
   ·clear HS; refine ⟨_, rfl, fun vs W h10 hd hn ⟨y_, HS, e4, e8, e9, e10⟩ => ?_⟩
    obtain ⟨⟨v9, h9⟩, -⟩ := hd
    obtain rfl := e9 _ h9
    rw [h10] at HS
    simp only [actG, old, h9, Option.getD_some]; try simp only [sq]; intro K hK
    go_simp
    exact hK.out _ _ ⟨W.heap.size, Lh (HS.out.box 3 #[.int .i64 (un : Int)]), e4, e8, e9, OP.is rfl⟩
   clear HS; intro vs W ⟨y_, HS, e4, e8, e9, e10⟩ hall
   obtain ⟨⟨v4, h4⟩, ⟨v8, h8⟩, ⟨v9, h9⟩, ⟨v10, h10⟩, -⟩ := hall
   obtain rfl := e4 _ h4
   obtain rfl := e8 _ h8
   obtain rfl := e9 _ h9
   obtain rfl := e10 _ h10
   rw [h10] at HS
   simp only [ifq, List.cons_append, List.nil_append] at HS
   simp only [actG, lisG, old, h4, h8, h9, h10, Option.getD_some, Option.isSome_some, if_true, List.length_cons, List.length_nil]; try simp only [sq]
   clear h4 e4 h8 e8 h9 e9 h10 e10 vs
   obtain ⟨w14, rfl⟩ : ∃ x, x = W := ⟨_, rfl⟩
   refine rQ 11 (fun K hK => ?_)
   rw [if_pos (by rfl)]
   replace HS := Lh HS.out.f2
   refine oper_push_own HS.out (Nat.le_refl _) _ _ 51 8 rfl Tryz.underlying51 elt_int rfl ⟨y_, 0, none⟩ 1 _ [.int .i64 (un : Int)] rfl rfl (HS.out.blk 1 rfl).news (by simp [Value.oneCell']) (by unfold maxLen; omega) (by omega) ?_
   clear HS; intro A2x d2x w15 HS
   simp only [Nat.add_assoc] at HS ⊢
   refine hK.out _ _ (trivial) (fun _ => ?_)
   clear hK K
   try simp only [sq]
   replace HS := Lh HS.out.f1.drop
   refine tQ 12 ?_; try simp only [sq]
   refine tQ 13 ?_; try simp only [sq]
   refine rQ 14 (fun K hK => ?_)
   replace HS := Lh HS.out.f1
   have f5 := (HS.out.blk 0 rfl).free 5
   have g5 := HS.out.c 0 5
   go_simp
   clear f5 g5
   replace HS := Lh (HS.out.put1 5 (.slice A2x (b0 + (i + 1)) d2x))
   simp only [sq] at HS
   generalize w15.setCell _ _ = w16 at *
   refine hK.out _ _ (trivial) (fun _ => ?_)
   clear hK K
   try simp only [sq]
   refine fQ ?_ _
   go_wp2_with fail
   replace HS := Lh HS.out.f3.drop.f7.f5.f5.f7.f7.f6.f7.f7
   have HR : Hid (TkRel u w l X mb nb ub b0 v0 un ua ub' uc d4 (some ⟨b2, o2, none⟩) UB UC A4 c0 c1 c2 c3 c8 c9 c10 xb xu xv xn (i + 1) 0 (i + 1) w16) := ⟨A1x, A2x, A3, d1x, d2x, d3, cb ++ [_], T2, vr, Lh (by rw [List.flatten_append, List.flatten_singleton, ← List.append_assoc, List.replicate_succ', ← List.append_assoc]; exact HS.out), HCB2, HVS, HTS, HOK⟩
   go_roundw
   case rel => exact ⟨i + 1, by omega, by go_num, HBO.out, HR.out⟩
   case measure => simp [intOf] <;> omega
  have hi : ¬ (i : Int) < (u.bs.length : Int) := by omega
  obtain rfl : i = u.bs.length := by omega
  have HG1 := Lh hg
  clear hg
  rw [List.take_of_length_le (Nat.le_refl _)] at HCB
  have u1 := HS.out.c 7 1
  go_wp2_with fail
  clear u1 hi
  go_loopw [74] (fun iv wr => ∃ i : Nat, i ≤ u.gs.length ∧ iv = .int .i64 i ∧ (∀ j (h : j < u.gs.length), j < i → glB u.gs[j] = true) ∧ TkRel u w l X mb nb ub b0 v0 un ua ub' uc d4 UA UB UC A4 c0 c1 c2 c3 c8 c9 c10 xb xu xv xn u.bs.length i (u.bs.length + i) wr) (fun iv _ => u.gs.length - (intOf iv).toNat)
  case atStart => exact ⟨0, Nat.zero_le _, rfl, fun j _ h => absurd h (by omega), A1, A2, A3, d1, d2, d3, cb, T, vr, HS, Lh (by rw [List.take_of_length_le (Nat.le_refl _)]; exact HCB), HVS, HTS, HOK⟩
  case round =>
   clear HS HCB HVS HTS HOK; obtain ⟨i, hik, rfl, hg, ht⟩ := hrel
   obtain ⟨w4, rfl⟩ : ∃ x, x = wr := ⟨_, rfl⟩
   obtain ⟨A1, A2, A3, d1, d2, d3, cb, T, vr, HS, HCB, HVS, HTS, HOK⟩ := ht
   by_cases hlt : i < u.gs.length
   ·obtain ⟨b2, o2, rfl, hbl2⟩ := RB.out.adr (by omega)
    obtain ⟨cs, hrb, hd⟩ := RB.out.row hlt
    obtain ⟨An, cn, Ap, cp, rfl, hTy, hv1, hv2⟩ := hrb.eight
    have c0' := hd w4 HS.out.mv 0 _ rfl
    have c1' := hd w4 HS.out.mv 1 _ rfl
    have c2' := hd w4 HS.out.mv 2 _ rfl
    have c3' := hd w4 HS.out.mv 3 _ rfl
    have c4' := hd w4 HS.out.mv 4 _ rfl
    have c5' := hd w4 HS.out.mv 5 _ rfl
    have c6' := hd w4 HS.out.mv 6 _ rfl
    have c7' := hd w4 HS.out.mv 7 _ rfl
    rw [Nat.add_zero] at c0'
    have HTY := Lh hTy
    have hj : (i : Int) < (u.gs.length : Int) := by omega
    have hj1 : (0 : Int) ≤ (i : Int) := by omega
    have hj6 : (i : Int) < 40 := by omega
    clear hd hTy hrb
    have HNB : Hid (glB u.gs[i] = false → unitB u = false) := fun h => unit_gs hlt h
    have HYB : Hid (glB u.gs[i] = true → ∀ j (h : j < u.gs.length), j < i + 1 → glB u.gs[j] = true) := fun h0 j h hj => by
     rcases Nat.lt_or_ge j i with h1 | h1
     ·exact hg j h h1
     ·have e : j = i := by omega
      subst e
      exact h0
    have HV2 : Hid (∀ x, VrOk u.gs[i] x → All2 VrOk (u.gs.take (i + 1)) (vr ++ [x])) := fun x hx => f2_snoc HVS.out hlt hx
    have hnl := HN1.out _ (List.getElem_mem hlt)
    clear hg HVS
    obtain ⟨hk, hE⟩ := un_g (b0 := b0) (v0 := v0) hlt
    obtain ⟨hk2, hNM⟩ := nm_of hk
    rw [hE] at hNM
    have HGV : Hid ((lkM T u.gs[i].nm).isNone = !strIn ((unNames u).take (u.bs.length + i)) u.gs[i].nm) := give_is HTS.out _
    obtain ⟨gv, hgv⟩ : ∃ x, ((lkM T u.gs[i].nm).isNone && nameOf u.gs[i].nm) = x := ⟨_, rfl⟩
    have HG := Lh hgv
    rw [HGV.out] at hgv
    have HGF : Hid (gv = false → unitB u = false) := fun h => by
     rw [h] at hgv
     rcases h1 : strIn ((unNames u).take (u.bs.length + i)) u.gs[i].nm with _ | _
     ·exact unit_nm (okN_name hk2 (by rw [hNM]; rw [h1] at hgv; simpa using hgv))
     ·exact unit_nm (okN_dup hk2 (by rw [hNM]; exact h1))
    have HGT : Hid (gv = true → okN (unNames u) (u.bs.length + i + 1)) := fun h => by
     rw [h] at hgv
     rw [Bool.and_eq_true] at hgv
     exact okN_snoc HOK.out hk2 (by rw [hNM]; exact hgv.2) (by rw [hNM]; simpa using hgv.1)
    have HT2 : Hid (∀ p, TvOk w ⟨u.gs[i].nm, false, u.gs[i].ty, ((v0 + i : Nat) : Int)⟩ p → All2 (TvOk w) ((ents u b0 v0).take (u.bs.length + i + 1)) (T ++ [p])) := fun p hp => f2_snoc HTS.out hk (by rw [hE]; exact hp)
    clear hgv HGV hE hNM hk2 hk HTS HOK
    generalize u.gs[i] = g at *
    go_upto_region 14 with (fail)
    clear c0' c1' c2' c3' c4' c5' c6' c7'
    replace HS := Lh (HS.out.box 71 #[.string g.nm, .bool g.static, .int .i64 g.ty.k, .string g.ty.nm, .slice An g.ty.ns.length cn, .slice Ap g.ty.ps.length cp, .bool g.ty.many, .int .i64 g.v])
    generalize w4.alloc _ = w5 at *
    generalize w4.heap.size = tb at *
    replace HS := Lh HS.out.f8.f6.f6.f6.f6.f6.f6.f8.f8
    go_cut [114] from 78 to 114 (fun v wx => CutG (unitB u = false) (glB g = true ∧ cntB g.ty = true ∧ gv = true) (fun W => Hid (Hp w W (mq Tryz.prog 9 mb (gM Tv.val (T ++ [(g.nm, ⟨false, textB g.ty, ((v0 + i : Nat) : Int), g.ty.k, g.ty.nm, An, g.ty.ns.length, cn, Ap, g.ty.ps.length, cp, g.ty.many⟩)])) :: bx nb 57 #[.map (some mb)] :: bx tb 71 #[.string g.nm, .bool g.static, .int .i64 g.ty.k, .string g.ty.nm, .slice An g.ty.ns.length cn, .slice Ap g.ty.ps.length cp, .bool g.ty.many, .int .i64 g.v] :: bx X 55 #[c0, c1, c2, c3, .slice A1 (b0 + u.bs.length) d1, .slice A2 (b0 + u.bs.length) d2, .slice A3 (v0 + i) d3, .slice A4 un d4, c8, c9, c10] :: ow w.heap.size 37 9 (.slice A1 (b0 + u.bs.length) d1) (b0 + u.bs.length) (xb ++ cb.flatten) :: ow w.heap.size 3 1 (.slice A2 (b0 + u.bs.length) d2) (b0 + u.bs.length) (xu ++ List.replicate u.bs.length (Value.int IntKind.i64 (un : Int))) :: ow w.heap.size 42 1 (.slice A3 (v0 + i) d3) (v0 + i) (xv ++ vr.map Vr.val) :: ow w.heap.size 57 1 (.slice A4 un d4) un xn :: bx ub 29 #[.slice UA u.bs.length ua, .slice (some ⟨b2, o2, none⟩) u.gs.length ub', .slice UC u.os.length uc] :: (vr.map varB ++ l)))) w l v wx)
    case first =>
     rcases hcn : cntB g.ty with _ | _
     ·replace HS := Lh HS.out.drew
      refine dQ (fun W => At W tb 0 (.string g.nm) ∧ At W tb 1 (.bool g.static) ∧ At W tb 2 (.int .i64 g.ty.k) ∧ At W tb 3 (.string g.ty.nm) ∧ At W tb 4 (.slice An g.ty.ns.length cn) ∧ At W tb 5 (.slice Ap g.ty.ps.length cp) ∧ At W tb 6 (.bool g.ty.many) ∧ At W tb 7 (.int .i64 g.v) ∧ At W X 6 (.slice A3 (v0 + i) d3)) (⟨HS.out.c 2 0, HS.out.c 2 1, HS.out.c 2 2, HS.out.c 2 3, HS.out.c 2 4, HS.out.c 2 5, HS.out.c 2 6, HS.out.c 2 7, HS.out.c 3 6⟩) fun _ => ?_
      generalize w5.drew = w6 at *
      refine tQ 0 ?_; try simp only [sq]
      refine tQ 1 ?_; try simp only [sq]
      refine rQ 2 (fun K hK => ?_)
      go_simp
      refine (number_any g.ty _ _ (Rep.keep HS.out.mv _ _ HTY.out) (HM.out.keep HS.out.mv)).mono ?_
      rintro e w7 ⟨rfl, hb⟩
      replace HS := Lh (HS.out.below hb)
      clear hb
      rw [hcn]
      refine hK.out _ _ (⟨HS.out.c 2 0, HS.out.c 2 1, HS.out.c 2 2, HS.out.c 2 3, HS.out.c 2 4, HS.out.c 2 5, HS.out.c 2 6, HS.out.c 2 7, HS.out.c 3 6⟩) (fun _ => ?_)
      clear hK K
      try simp only [sq]
      refine tQ 3 ?_; try simp only [sq]
      refine tQ 4 ?_; try simp only [sq]
      refine pQ 5 ?_; try simp only [sq]
      refine pQ 6 ?_; try simp only [sq]
      refine pQ 7 ?_; try simp only [sq]
      refine pQ 8 ?_; try simp only [sq]
      refine pQ 9 ?_; try simp only [sq]
      refine uQ 10 ?_; try simp only [sq]
      refine uQ 11 ?_; try simp only [sq]
      refine uQ 12 ?_; try simp only [sq]
      refine uQ 13 ?_; try simp only [sq]
      refine uQ 14 ?_; try simp only [sq]
      refine uQ 15 ?_; try simp only [sq]
      refine uQ 16 ?_; try simp only [sq]
      refine pQ 17 ?_; try simp only [sq]
      refine tQ 18 ?_; try simp only [sq]
      refine tQ 19 ?_; try simp only [sq]
      refine pQ 20 ?_; try simp only [sq]
      refine pQ 21 ?_; try simp only [sq]
      refine pQ 22 ?_; try simp only [sq]
      refine pQ 23 ?_; try simp only [sq]
      refine pQ 24 ?_; try simp only [sq]
      refine pQ 25 ?_; try simp only [sq]
      refine pQ 26 ?_; try simp only [sq]
      refine pQ 27 ?_; try simp only [sq]
      refine pQ 28 ?_; try simp only [sq]
      refine pQ 29 ?_; try simp only [sq]
      refine pQ 30 ?_; try simp only [sq]
      refine pQ 31 ?_; try simp only [sq]
      refine pQ 32 ?_; try simp only [sq]
      refine pQ 33 ?_; try simp only [sq]
      refine pQ 34 ?_; try simp only [sq]
      refine pQ 35 ?_; try simp only [sq]
      refine tQ 36 ?_; try simp only [sq]
      refine fQ ?_ _
      go_wp2_with fail
      go_meet
      exact .inl ⟨rfl, HNB.out (by unfold glB; rw [hcn]; rfl), Lh (HS.out.sub (by repeat (first | exact List.sublist_append_right _ _ | refine List.Sublist.cons _ ?_)))⟩
     by_cases hk1 : g.ty.k = 1
     ·have HK1 : Hid ((g.ty.k == 1) = true) := by show _ = _; simpa using hk1
      by_cases hrg : -2147483648 ≤ g.v ∧ g.v ≤ 2147483647
      ·have HWV := Lh (IntWalk.i32_in g.v hrg)
       have HWX := Lh (IntWalk.i64_in g.v (by omega))
       have HBO : Hid (glB g = true) := by show _ = _; unfold glB; rw [hcn, Bool.true_and, bne, HK1.out]; simp [hrg.1, hrg.2]
       have HRG := Lh hrg
       clear hrg hk1
       replace HS := Lh HS.out.drew
       refine dQ (fun W => At W tb 0 (.string g.nm) ∧ At W tb 1 (.bool g.static) ∧ At W tb 2 (.int .i64 g.ty.k) ∧ At W tb 3 (.string g.ty.nm) ∧ At W tb 4 (.slice An g.ty.ns.length cn) ∧ At W tb 5 (.slice Ap g.ty.ps.length cp) ∧ At W tb 6 (.bool g.ty.many) ∧ At W tb 7 (.int .i64 g.v) ∧ At W X 6 (.slice A3 (v0 + i) d3)) (⟨HS.out.c 2 0, HS.out.c 2 1, HS.out.c 2 2, HS.out.c 2 3, HS.out.c 2 4, HS.out.c 2 5, HS.out.c 2 6, HS.out.c 2 7, HS.out.c 3 6⟩) fun _ => ?_
       generalize w5.drew = w6 at *
       refine tQ 0 ?_; try simp only [sq]
       refine tQ 1 ?_; try simp only [sq]
       refine rQ 2 (fun K hK => ?_)
       go_simp
       refine (number_any g.ty _ _ (Rep.keep HS.out.mv _ _ HTY.out) (HM.out.keep HS.out.mv)).mono ?_
       rintro e w7 ⟨rfl, hb⟩
       replace HS := Lh (HS.out.below hb)
       clear hb
       rw [hcn]
       refine hK.out _ _ (⟨HS.out.c 2 0, HS.out.c 2 1, HS.out.c 2 2, HS.out.c 2 3, HS.out.c 2 4, HS.out.c 2 5, HS.out.c 2 6, HS.out.c 2 7, HS.out.c 3 6⟩) (fun _ => ?_)
       clear hK K
       try simp only [sq]
       refine tQ 3 ?_; try simp only [sq]
       refine tQ 4 ?_; try simp only [sq]
       refine tQ 5 ?_; try simp only [sq]
       refine tQ 6 ?_; try simp only [sq]
       refine tQ 7 ?_; try simp only [sq]
       have hk1b := HK1.out
       refine tQ 8 ?_; try simp only [sq]
       clear hk1b
       refine tQ 9 ?_; try simp only [sq]
       refine tQ 10 ?_; try simp only [sq]
       refine tQ 11 ?_; try simp only [sq]
       refine tQ 12 ?_; try simp only [sq]
       refine tQ 13 ?_; try simp only [sq]
       have hwv := HWV.out
       refine tQ 14 ?_; try simp only [sq]
       clear hwv
       have hwx := HWX.out
       refine tQ 15 ?_; try simp only [sq]
       clear hwx
       refine tQ 16 ?_; try simp only [sq]
       refine tQ 17 ?_; try simp only [sq]
       refine tQ 18 ?_; try simp only [sq]
       refine tQ 19 ?_; try simp only [sq]
       refine tQ 20 ?_; try simp only [sq]
       refine tQ 21 ?_; try simp only [sq]
       refine tQ 22 ?_; try simp only [sq]
       refine tQ 23 ?_; try simp only [sq]
       refine tQ 24 ?_; try simp only [sq]
       refine tQ 26 ?_; try simp only [sq]
       refine tQ 27 ?_; try simp only [sq]
       refine tQ 28 ?_; try simp only [sq]
       refine tQ 29 ?_; try simp only [sq]
       refine tQ 30 ?_; try simp only [sq]
       refine tQ 31 ?_; try simp only [sq]
       refine tQ 32 ?_; try simp only [sq]
       refine rQ 25 (fun K hK => ?_)
       go_simp
       refine (text_any g.ty _ _ (Rep.keep HS.out.mv _ _ HTY.out) (HM.out.keep HS.out.mv)).mono ?_
       rintro e w8 ⟨rfl, hb⟩
       replace HS := Lh (HS.out.below hb)
       clear hb
       refine hK.out _ _ (⟨HS.out.c 2 0, HS.out.c 2 1, HS.out.c 2 2, HS.out.c 2 3, HS.out.c 2 4, HS.out.c 2 5, HS.out.c 2 6, HS.out.c 2 7, HS.out.c 3 6⟩) (fun _ => ?_)
       clear hK K
       try simp only [sq]
       refine tQ 33 ?_; try simp only [sq]
       refine rQ 34 (fun K hK => ?_)
       go_simp
       replace HS := Lh HS.out.f1.f1
       refine (give_any g.nm ⟨false, textB g.ty, ((v0 + i : Nat) : Int), g.ty.k, g.ty.nm, An, g.ty.ns.length, cn, Ap, g.ty.ps.length, cp, g.ty.many⟩ HS.out HM.out hnl).mono ?_
       clear HS; rintro e w9 ⟨rfl, HS⟩
       refine hK.out _ _ (⟨HS.out.c 2 0, HS.out.c 2 1, HS.out.c 2 2, HS.out.c 2 3, HS.out.c 2 4, HS.out.c 2 5, HS.out.c 2 6, HS.out.c 2 7, HS.out.c 3 6⟩) (fun _ => ?_)
       clear hK K
       try simp only [sq]
       rw [HG.out]
       refine tQ 35 ?_; try simp only [sq]
       refine tQ 36 ?_; try simp only [sq]
       refine fQ ?_ _
       cases gv
       ·go_wp2_with fail
        go_meet
        exact .inl ⟨rfl, HGF.out (by simp), Lh (HS.out.sub (by repeat (first | exact List.sublist_append_right _ _ | refine List.Sublist.cons _ ?_)))⟩
       replace HS := Lh HS.out.f8.f8.f8.f8.f8.f8.f8.f8.f8
       go_wp2_with fail
       go_meet
       exact .inr ⟨rfl, ⟨HBO.out, hcn, by simp⟩, HS⟩
      obtain ⟨x, hwv⟩ : ∃ x, IntKind.i32.wrap g.v = x := ⟨_, rfl⟩
      have hxr : -2147483648 ≤ x ∧ x ≤ 2147483647 := by rw [IntKind.wrap_i32] at hwv; omega
      have HWV := Lh hwv
      have HWX := Lh (IntWalk.i64_in x (by omega))
      have HNE : Hid (¬ g.v = x) := by show ¬ _; omega
      have HRG := Lh hrg
      clear hwv hxr hrg hk1
      replace HS := Lh HS.out.drew
      refine dQ (fun W => At W tb 0 (.string g.nm) ∧ At W tb 1 (.bool g.static) ∧ At W tb 2 (.int .i64 g.ty.k) ∧ At W tb 3 (.string g.ty.nm) ∧ At W tb 4 (.slice An g.ty.ns.length cn) ∧ At W tb 5 (.slice Ap g.ty.ps.length cp) ∧ At W tb 6 (.bool g.ty.many) ∧ At W tb 7 (.int .i64 g.v) ∧ At W X 6 (.slice A3 (v0 + i) d3)) (⟨HS.out.c 2 0, HS.out.c 2 1, HS.out.c 2 2, HS.out.c 2 3, HS.out.c 2 4, HS.out.c 2 5, HS.out.c 2 6, HS.out.c 2 7, HS.out.c 3 6⟩) fun _ => ?_
      generalize w5.drew = w6 at *
      refine tQ 0 ?_; try simp only [sq]
      refine tQ 1 ?_; try simp only [sq]
      refine rQ 2 (fun K hK => ?_)
      go_simp
      refine (number_any g.ty _ _ (Rep.keep HS.out.mv _ _ HTY.out) (HM.out.keep HS.out.mv)).mono ?_
      rintro e w7 ⟨rfl, hb⟩
      replace HS := Lh (HS.out.below hb)
      clear hb
      rw [hcn]
      refine hK.out _ _ (⟨HS.out.c 2 0, HS.out.c 2 1, HS.out.c 2 2, HS.out.c 2 3, HS.out.c 2 4, HS.out.c 2 5, HS.out.c 2 6, HS.out.c 2 7, HS.out.c 3 6⟩) (fun _ => ?_)
      clear hK K
      try simp only [sq]
      refine tQ 3 ?_; try simp only [sq]
      refine tQ 4 ?_; try simp only [sq]
      refine tQ 5 ?_; try simp only [sq]
      refine tQ 6 ?_; try simp only [sq]
      refine tQ 7 ?_; try simp only [sq]
      have hk1b := HK1.out
      refine tQ 8 ?_; try simp only [sq]
      clear hk1b
      refine tQ 9 ?_; try simp only [sq]
      refine tQ 10 ?_; try simp only [sq]
      refine tQ 11 ?_; try simp only [sq]
      refine tQ 12 ?_; try simp only [sq]
      refine tQ 13 ?_; try simp only [sq]
      have hwv := HWV.out
      refine tQ 14 ?_; try simp only [sq]
      clear hwv
      have hwx := HWX.out
      refine tQ 15 ?_; try simp only [sq]
      clear hwx
      have hne := HNE.out
      have hneb : (g.v == x) = false := by simpa using hne
      refine tQ 16 ?_; try simp only [sq]
      clear hneb
      refine tQ 17 ?_; try simp only [sq]
      refine tQ 18 ?_; try simp only [sq]
      refine tQ 19 ?_; try simp only [sq]
      refine pQ 20 ?_; try simp only [sq]
      refine pQ 21 ?_; try simp only [sq]
      refine pQ 22 ?_; try simp only [sq]
      refine pQ 23 ?_; try simp only [sq]
      refine pQ 24 ?_; try simp only [sq]
      refine pQ 25 ?_; try simp only [sq]
      refine pQ 26 ?_; try simp only [sq]
      refine pQ 27 ?_; try simp only [sq]
      refine pQ 28 ?_; try simp only [sq]
      refine pQ 29 ?_; try simp only [sq]
      refine pQ 30 ?_; try simp only [sq]
      refine pQ 31 ?_; try simp only [sq]
      refine pQ 32 ?_; try simp only [sq]
      refine pQ 33 ?_; try simp only [sq]
      refine pQ 34 ?_; try simp only [sq]
      refine pQ 35 ?_; try simp only [sq]
      refine tQ 36 ?_; try simp only [sq]
      refine fQ ?_ _
      go_wp2_with fail
      go_meet
      exact .inl ⟨rfl, HNB.out (by unfold glB; rw [hcn, Bool.true_and, bne, HK1.out]; have := HRG.out; simp; omega), Lh (HS.out.sub (by repeat (first | exact List.sublist_append_right _ _ | refine List.Sublist.cons _ ?_)))⟩
     have hk1b : (g.ty.k == 1) = false := by simpa using hk1
     have HBO : Hid (glB g = true) := by show _ = _; unfold glB; rw [hcn]; simp [hk1]
     replace HS := Lh HS.out.drew
     refine dQ (fun W => At W tb 0 (.string g.nm) ∧ At W tb 1 (.bool g.static) ∧ At W tb 2 (.int .i64 g.ty.k) ∧ At W tb 3 (.string g.ty.nm) ∧ At W tb 4 (.slice An g.ty.ns.length cn) ∧ At W tb 5 (.slice Ap g.ty.ps.length cp) ∧ At W tb 6 (.bool g.ty.many) ∧ At W tb 7 (.int .i64 g.v) ∧ At W X 6 (.slice A3 (v0 + i) d3)) (⟨HS.out.c 2 0, HS.out.c 2 1, HS.out.c 2 2, HS.out.c 2 3, HS.out.c 2 4, HS.out.c 2 5, HS.out.c 2 6, HS.out.c 2 7, HS.out.c 3 6⟩) fun _ => ?_
     generalize w5.drew = w6 at *
     refine tQ 0 ?_; try simp only [sq]
     refine tQ 1 ?_; try simp only [sq]
     refine rQ 2 (fun K hK => ?_)
     go_simp
     refine (number_any g.ty _ _ (Rep.keep HS.out.mv _ _ HTY.out) (HM.out.keep HS.out.mv)).mono ?_
     rintro e w7 ⟨rfl, hb⟩
     replace HS := Lh (HS.out.below hb)
     clear hb
     rw [hcn]
     refine hK.out _ _ (⟨HS.out.c 2 0, HS.out.c 2 1, HS.out.c 2 2, HS.out.c 2 3, HS.out.c 2 4, HS.out.c 2 5, HS.out.c 2 6, HS.out.c 2 7, HS.out.c 3 6⟩) (fun _ => ?_)
     clear hK K
     try simp only [sq]
     refine tQ 3 ?_; try simp only [sq]
     refine tQ 4 ?_; try simp only [sq]
     refine tQ 5 ?_; try simp only [sq]
     refine tQ 6 ?_; try simp only [sq]
     refine tQ 7 ?_; try simp only [sq]
     refine tQ 8 ?_; try simp only [sq]
     refine tQ 9 ?_; try simp only [sq]
     refine pQ 10 ?_; try simp only [sq]
     refine pQ 11 ?_; try simp only [sq]
     refine pQ 12 ?_; try simp only [sq]
     refine pQ 13 ?_; try simp only [sq]
     refine pQ 14 ?_; try simp only [sq]
     refine pQ 15 ?_; try simp only [sq]
     refine pQ 16 ?_; try simp only [sq]
     refine tQ 17 ?_; try simp only [sq]
     refine tQ 18 ?_; try simp only [sq]
     refine tQ 19 ?_; try simp only [sq]
     refine tQ 20 ?_; try simp only [sq]
     refine tQ 21 ?_; try simp only [sq]
     refine tQ 22 ?_; try simp only [sq]
     refine tQ 23 ?_; try simp only [sq]
     refine tQ 24 ?_; try simp only [sq]
     refine tQ 26 ?_; try simp only [sq]
     refine tQ 27 ?_; try simp only [sq]
     refine tQ 28 ?_; try simp only [sq]
     refine tQ 29 ?_; try simp only [sq]
     refine tQ 30 ?_; try simp only [sq]
     refine tQ 31 ?_; try simp only [sq]
     refine tQ 32 ?_; try simp only [sq]
     refine rQ 25 (fun K hK => ?_)
     go_simp
     refine (text_any g.ty _ _ (Rep.keep HS.out.mv _ _ HTY.out) (HM.out.keep HS.out.mv)).mono ?_
     rintro e w8 ⟨rfl, hb⟩
     replace HS := Lh (HS.out.below hb)
     clear hb
     refine hK.out _ _ (⟨HS.out.c 2 0, HS.out.c 2 1, HS.out.c 2 2, HS.out.c 2 3, HS.out.c 2 4, HS.out.c 2 5, HS.out.c 2 6, HS.out.c 2 7, HS.out.c 3 6⟩) (fun _ => ?_)
     clear hK K
     try simp only [sq]
     refine tQ 33 ?_; try simp only [sq]
     refine rQ 34 (fun K hK => ?_)
     go_simp
     replace HS := Lh HS.out.f1.f1
     refine (give_any g.nm ⟨false, textB g.ty, ((v0 + i : Nat) : Int), g.ty.k, g.ty.nm, An, g.ty.ns.length, cn, Ap, g.ty.ps.length, cp, g.ty.many⟩ HS.out HM.out hnl).mono ?_
     clear HS; rintro e w9 ⟨rfl, HS⟩
     refine hK.out _ _ (⟨HS.out.c 2 0, HS.out.c 2 1, HS.out.c 2 2, HS.out.c 2 3, HS.out.c 2 4, HS.out.c 2 5, HS.out.c 2 6, HS.out.c 2 7, HS.out.c 3 6⟩) (fun _ => ?_)
     clear hK K
     try simp only [sq]
     rw [HG.out]
     refine tQ 35 ?_; try simp only [sq]
     refine tQ 36 ?_; try simp only [sq]
     refine fQ ?_ _
     cases gv
     ·go_wp2_with fail
      go_meet
      exact .inl ⟨rfl, HGF.out (by simp), Lh (HS.out.sub (by repeat (first | exact List.sublist_append_right _ _ | refine List.Sublist.cons _ ?_)))⟩
     replace HS := Lh HS.out.f8.f8.f8.f8.f8.f8.f8.f8.f8
     go_wp2_with fail
     go_meet
     exact .inr ⟨rfl, ⟨HBO.out, hcn, by simp⟩, HS⟩
    case rest =>
     clear HS; rcases hcut with ⟨rfl, hf, hb⟩ | ⟨rfl, ⟨hgl, hcn, hgv⟩, HS⟩
     ·go_wp2_with fail
      go_ret
      exact ⟨false, rfl, hf.symm, hb, fun h => (nomatch h)⟩
     obtain ⟨w6, rfl⟩ : ∃ x, x = wc := ⟨_, rfl⟩
     have HBO := Lh (HYB.out hgl)
     have HOK := Lh (HGT.out hgv)
     have HTS := Lh (HT2.out (g.nm, ⟨false, textB g.ty, ((v0 + i : Nat) : Int), g.ty.k, g.ty.nm, An, g.ty.ns.length, cn, Ap, g.ty.ps.length, cp, g.ty.many⟩) ⟨rfl, rfl, rfl, rfl, HTY.out⟩)
     clear HGF HGT HG HT2 hgl hgv HNB HYB hnl
     obtain ⟨T2, hT2⟩ : ∃ T2, T ++ [(g.nm, ⟨false, textB g.ty, ((v0 + i : Nat) : Int), g.ty.k, g.ty.nm, An, g.ty.ns.length, cn, Ap, g.ty.ps.length, cp, g.ty.many⟩)] = T2 := ⟨_, rfl⟩
     rw [hT2] at HS HTS
     clear hT2
     obtain ⟨hws, hz1, hz2⟩ := cnt_size hcn
     have HV := HV2
     clear HV2
     have HWS := Lh hws
     have p7 := HS.out.c 2 7
     have HSP := Lh (split_any g.v)
     go_wp2_with fail
     refine (HSP.out w6).mono ?_
     rintro e w99 ⟨rfl, rfl⟩
     clear HSP p7 hws
     go_upto_region 17 with (fail)
     generalize hlo : wrap32 g.v = lo at *
     generalize hhi : wrap32 (g.v / 4294967296) = hi at *
     generalize hsz : (sizeT g.ty).1 = sz at *
     have HSZ : Hid (∀ b, VrOk g ⟨b, lo, hi, sz⟩) := fun b => ⟨hlo.symm, hhi.symm, hsz.symm⟩
     clear hlo hhi hsz hcn
     have hs2 : (sz : Int) ≤ 2 := by omega
     replace HS := Lh HS.out.drew
     refine dQ (fun _ => True) (trivial) fun _ => ?_
     generalize w6.drew = w7 at *
     refine tQ 0 ?_; try simp only [sq]
     refine tQ 1 ?_; try simp only [sq]
     refine tQ 2 ?_; try simp only [sq]
     refine tQ 3 ?_; try simp only [sq]
     refine tQ 5 ?_; try simp only [sq]
     refine tQ 6 ?_; try simp only [sq]
     refine tQ 8 ?_; try simp only [sq]
     replace HS := Lh HS.out.f2.f6.f4
     refine wpAnyH_grp [⟨4, some 125, []⟩, ⟨7, some 128, []⟩, ⟨9, some 130, []⟩, ⟨10, some 131, [9]⟩, ⟨11, some 132, [7, 10]⟩, ⟨12, some 133, [7, 11]⟩] 4 (fun vs W => ∃ (y1 : Nat) (y_ : Nat), Hid (Hp w W (ifq (vs 12) (bx y_ 42 #[.slice (some ⟨y1, 0, none⟩) sz 2]) ++ (ifq (vs 7) (bx y1 21 #[.int .i32 lo, .int .i32 hi]) ++ (bx X 55 #[c0, c1, c2, c3, .slice A1 (b0 + u.bs.length) d1, .slice A2 (b0 + u.bs.length) d2, .slice A3 (v0 + i) d3, .slice A4 un d4, c8, c9, c10] :: ow w.heap.size 42 1 (.slice A3 (v0 + i) d3) (v0 + i) (xv ++ vr.map Vr.val) :: bx tb 71 #[.string g.nm, .bool g.static, .int .i64 g.ty.k, .string g.ty.nm, .slice An g.ty.ns.length cn, .slice Ap g.ty.ps.length cp, .bool g.ty.many, .int .i64 g.v] :: mq Tryz.prog 9 mb (gM Tv.val T2) :: bx nb 57 #[.map (some mb)] :: ow w.heap.size 37 9 (.slice A1 (b0 + u.bs.length) d1) (b0 + u.bs.length) (xb ++ cb.flatten) :: ow w.heap.size 3 1 (.slice A2 (b0 + u.bs.length) d2) (b0 + u.bs.length) (xu ++ List.replicate u.bs.length (Value.int IntKind.i64 (un : Int))) :: ow w.heap.size 57 1 (.slice A4 un d4) un xn :: bx ub 29 #[.slice UA u.bs.length ua, .slice (some ⟨b2, o2, none⟩) u.gs.length ub', .slice UC u.os.length uc] :: (vr.map varB ++ l))))) ∧ OV (vs 4) (.slice A3 (v0 + i) d3) ∧ OV (vs 7) (.slice (some ⟨y1, 0, none⟩) 2 2) ∧ OV (vs 9) (.agg #[.int .i64 g.ty.k, .string g.ty.nm, .slice An g.ty.ns.length cn, .slice Ap g.ty.ps.length cp, .bool g.ty.many]) ∧ OV (vs 10) (.int .i64 (sz : Int)) ∧ OV (vs 11) (.slice (some ⟨y1, 0, none⟩) sz 2) ∧ OV (vs 12) (.slice (some ⟨y_, 0, none⟩) 1 1)) (by rfl) (by decide +kernel) ⟨0, 0, HS, OP.no _ rfl, OP.no _ rfl, OP.no _ rfl, OP.no _ rfl, OP.no _ rfl, OP.no _ rfl⟩ (fun _ _ _ => trivial) ⟨?_, ?_, ?_, ?_, ?_, ?_, trivial⟩ ?_
     ·clear HS; refine ⟨_, rfl, fun vs W h4 hd hn ⟨y1, y_, HS, e4, e7, e9, e10, e11, e12⟩ => ?_⟩
      have hk := HS.out.ok (bx X 55 #[c0, c1, c2, c3, .slice A1 (b0 + u.bs.length) d1, .slice A2 (b0 + u.bs.length) d2, .slice A3 (v0 + i) d3, .slice A4 un d4, c8, c9, c10]) (by simp)
      have hk := (show Blk W X 55 #[c0, c1, c2, c3, .slice A1 (b0 + u.bs.length) d1, .slice A2 (b0 + u.bs.length) d2, .slice A3 (v0 + i) d3, .slice A4 un d4, c8, c9, c10] from hk)
      have c6 := hk.cell 6 _ rfl
      clear hk
      simp only [actG, old, Option.getD_some]; try simp only [sq]; intro K hK
      go_simp
      exact hK.out _ _ ⟨y1, y_, HS, OP.is rfl, e7, e9, e10, e11, e12⟩
     ·clear HS; refine ⟨_, rfl, fun vs W h7 hd hn ⟨y1, y_, HS, e4, e7, e9, e10, e11, e12⟩ => ?_⟩
      rw [h7, show vs 12 = none from hn.2.2.2.2.2.1] at HS
      simp only [actG, old, Option.getD_some]; try simp only [sq]; intro K hK
      go_simp
      exact hK.out _ _ ⟨W.heap.size, y_, (by rw [show upd vs 7 _ 12 = none from hn.2.2.2.2.2.1]; exact Lh ((HS.out.box 21 #[.int .i32 lo, .int .i32 hi]).perm List.perm_middle.symm)), e4, OP.is rfl, e9, e10, OP.no _ hn.2.2.2.2.1, OP.no _ hn.2.2.2.2.2.1⟩
     ·clear HS; refine ⟨_, rfl, fun vs W h9 hd hn ⟨y1, y_, HS, e4, e7, e9, e10, e11, e12⟩ => ?_⟩
      have hk := HS.out.ok (bx tb 71 #[.string g.nm, .bool g.static, .int .i64 g.ty.k, .string g.ty.nm, .slice An g.ty.ns.length cn, .slice Ap g.ty.ps.length cp, .bool g.ty.many, .int .i64 g.v]) (by simp)
      have hk := (show Blk W tb 71 #[.string g.nm, .bool g.static, .int .i64 g.ty.k, .string g.ty.nm, .slice An g.ty.ns.length cn, .slice Ap g.ty.ps.length cp, .bool g.ty.many, .int .i64 g.v] from hk)
      have c2 := hk.cell 2 _ rfl
      have c3 := hk.cell 3 _ rfl
      have c4 := hk.cell 4 _ rfl
      have c5 := hk.cell 5 _ rfl
      have c6 := hk.cell 6 _ rfl
      clear hk
      simp only [actG, old, Option.getD_some]; try simp only [sq]; intro K hK
      go_simp
      exact hK.out _ _ ⟨y1, y_, HS, e4, e7, OP.is rfl, OP.no _ hn.2.2.2.1, e11, e12⟩
     ·clear HS; refine ⟨_, rfl, fun vs W h10 hd hn ⟨y1, y_, HS, e4, e7, e9, e10, e11, e12⟩ => ?_⟩
      obtain ⟨⟨v9, h9⟩, -⟩ := hd
      obtain rfl := e9 _ h9
      simp only [actG, old, h9, Option.getD_some]; try simp only [sq]; intro K hK
      go_simp
      refine ((words_any g.ty _ _ (Rep.keep HS.out.mv _ _ HTY.out) (HM.out.keep HS.out.mv)).mono (words_sz HWS.out)).mono ?_
      rintro e W2 ⟨rfl, hb⟩
      exact hK.out _ _ ⟨y1, y_, (Lh (HS.out.below hb)), e4, e7, e9, OP.is rfl, OP.no _ hn.2.2.2.2.1, e12⟩
     ·clear HS; refine ⟨_, rfl, fun vs W h11 hd hn ⟨y1, y_, HS, e4, e7, e9, e10, e11, e12⟩ => ?_⟩
      obtain ⟨⟨v7, h7⟩, ⟨v10, h10⟩, -⟩ := hd
      obtain rfl := e7 _ h7
      obtain rfl := e10 _ h10
      simp only [actG, old, h7, h10, Option.getD_some]; try simp only [sq]; intro K hK
      go_simp
      exact hK.out _ _ ⟨y1, y_, HS, e4, e7, e9, e10, OP.is rfl, OP.no _ hn.2.2.2.2.2.1⟩
     ·clear HS; refine ⟨_, rfl, fun vs W h12 hd hn ⟨y1, y_, HS, e4, e7, e9, e10, e11, e12⟩ => ?_⟩
      obtain ⟨⟨v7, h7⟩, ⟨v11, h11⟩, -⟩ := hd
      obtain rfl := e7 _ h7
      obtain rfl := e11 _ h11
      rw [h12] at HS
      simp only [actG, old, h7, h11, Option.getD_some]; try simp only [sq]; intro K hK
      go_simp
      exact hK.out _ _ ⟨y1, W.heap.size, Lh (HS.out.box 42 #[.slice (some ⟨y1, 0, none⟩) sz 2]), e4, e7, e9, e10, e11, OP.is rfl⟩
     clear HS; intro vs W ⟨y1, y_, HS, e4, e7, e9, e10, e11, e12⟩ hall
     obtain ⟨⟨v4, h4⟩, ⟨v7, h7⟩, ⟨v9, h9⟩, ⟨v10, h10⟩, ⟨v11, h11⟩, ⟨v12, h12⟩, -⟩ := hall
     obtain rfl := e4 _ h4
     obtain rfl := e7 _ h7
     obtain rfl := e9 _ h9
     obtain rfl := e10 _ h10
     obtain rfl := e11 _ h11
     obtain rfl := e12 _ h12
     rw [h7, h12] at HS
     simp only [ifq, List.cons_append, List.nil_append] at HS
     simp only [actG, lisG, old, h4, h7, h9, h10, h11, h12, Option.getD_some, Option.isSome_some, if_true, List.length_cons, List.length_nil]; try simp only [sq]
     clear h4 e4 h7 e7 h9 e9 h10 e10 h11 e11 h12 e12 vs
     obtain ⟨w8, rfl⟩ : ∃ x, x = W := ⟨_, rfl⟩
     refine rQ 13 (fun K hK => ?_)
     rw [if_pos (by rfl)]
     replace HS := Lh HS.out.f3
     refine oper_push_own HS.out (Nat.le_refl _) _ _ 52 24 rfl Tryz.underlying52 elt_vars rfl ⟨y_, 0, none⟩ 1 _ [.slice (some ⟨y1, 0, none⟩) sz 2] rfl rfl (HS.out.blk 1 rfl).news (by simp [Value.oneCell']) (by unfold maxLen; omega) (by omega) ?_
     clear HS; intro A3x d3x w9 HS
     simp only [Nat.add_assoc] at HS ⊢
     refine hK.out _ _ (trivial) (fun _ => ?_)
     clear hK K
     try simp only [sq]
     replace HS := Lh HS.out.f1.drop
     refine tQ 14 ?_; try simp only [sq]
     refine tQ 15 ?_; try simp only [sq]
     refine rQ 16 (fun K hK => ?_)
     replace HS := Lh HS.out.f2
     have f6 := (HS.out.blk 0 rfl).free 6
     have g6 := HS.out.c 0 6
     go_simp
     clear f6 g6
     replace HS := Lh (HS.out.put1 6 (.slice A3x (v0 + (i + 1)) d3x))
     simp only [sq] at HS
     generalize w9.setCell _ _ = w10 at *
     refine hK.out _ _ (trivial) (fun _ => ?_)
     clear hK K
     try simp only [sq]
     refine fQ ?_ _
     go_wp2_with fail
     replace HS := Lh HS.out.f3.drop.f2.f8.f5.f5.f8.f6.f8.f8.f8
     have hvv : (vr ++ [(⟨y1, lo, hi, sz⟩ : Vr)]).map Vr.val = vr.map Vr.val ++ [.slice (some ⟨y1, 0, none⟩) sz 2] := by rw [List.map_append]; rfl
     have hvb : (vr ++ [(⟨y1, lo, hi, sz⟩ : Vr)]).map varB ++ l = vr.map varB ++ (bx y1 21 #[.int .i32 lo, .int .i32 hi] :: l) := by rw [List.map_append, List.append_assoc]; rfl
     have HR : Hid (TkRel u w l X mb nb ub b0 v0 un ua ub' uc d4 UA (some ⟨b2, o2, none⟩) UC A4 c0 c1 c2 c3 c8 c9 c10 xb xu xv xn u.bs.length (i + 1) (u.bs.length + i + 1) w10) := ⟨A1, A2, A3x, d1, d2, d3x, cb, T2, vr ++ [⟨y1, lo, hi, sz⟩], Lh (by rw [hvv, hvb, ← List.append_assoc]; exact HS.out.tuck8), HCB, HV.out _ (HSZ.out y1), HTS, HOK⟩
     clear hvv hvb
     go_roundw
     case rel => exact ⟨i + 1, by omega, by go_num, HBO.out, HR.out⟩
     case measure => simp [intOf] <;> omega
   have hi : ¬ (i : Int) < (u.gs.length : Int) := by omega
   obtain rfl : i = u.gs.length := by omega
   have HG2 := Lh hg
   clear hg
   have u2 := HS.out.c 7 2
   go_wp2_with fail
   clear u2 hi
   go_loopw [141] (fun iv wr => ∃ i : Nat, i ≤ u.os.length ∧ iv = .int .i64 i ∧ (∀ j (h : j < u.os.length), j < i → ouB u.os[j] = true) ∧ TkRel u w l X mb nb ub b0 v0 un ua ub' uc d4 UA UB UC A4 c0 c1 c2 c3 c8 c9 c10 xb xu xv xn u.bs.length u.gs.length (u.bs.length + u.gs.length + i) wr) (fun iv _ => u.os.length - (intOf iv).toNat)
   case atStart => exact ⟨0, Nat.zero_le _, rfl, fun j _ h => absurd h (by omega), A1, A2, A3, d1, d2, d3, cb, T, vr, HS, HCB, HVS, HTS, HOK⟩
   case round =>
    clear HS HCB HVS HTS HOK; obtain ⟨i, hik, rfl, hg, ht⟩ := hrel
    obtain ⟨w5, rfl⟩ : ∃ x, x = wr := ⟨_, rfl⟩
    obtain ⟨A1, A2, A3, d1, d2, d3, cb, T, vr, HS, HCB, HVS, HTS, HOK⟩ := ht
    by_cases hlt : i < u.os.length
    ·obtain ⟨b2, o2, rfl, hbl2⟩ := RC.out.adr (by omega)
     obtain ⟨cs, hrb, hd⟩ := RC.out.row hlt
     obtain ⟨An, cn, Ap, cp, rfl, hTy⟩ := hrb.seven
     have c0' := hd w5 HS.out.mv 0 _ rfl
     have c1' := hd w5 HS.out.mv 1 _ rfl
     have c2' := hd w5 HS.out.mv 2 _ rfl
     have c3' := hd w5 HS.out.mv 3 _ rfl
     have c4' := hd w5 HS.out.mv 4 _ rfl
     have c5' := hd w5 HS.out.mv 5 _ rfl
     have c6' := hd w5 HS.out.mv 6 _ rfl
     rw [Nat.add_zero] at c0'
     have HTY := Lh hTy
     have hj : (i : Int) < (u.os.length : Int) := by omega
     have hj1 : (0 : Int) ≤ (i : Int) := by omega
     have hj6 : (i : Int) < 40 := by omega
     clear hd hTy hrb
     have HNB : Hid (ouB u.os[i] = false → unitB u = false) := fun h => unit_os hlt h
     have HYB : Hid (ouB u.os[i] = true → ∀ j (h : j < u.os.length), j < i + 1 → ouB u.os[j] = true) := fun h0 j h hj => by
      rcases Nat.lt_or_ge j i with h1 | h1
      ·exact hg j h h1
      ·have e : j = i := by omega
       subst e
       exact h0
     have hnl := HN2.out _ (List.getElem_mem hlt)
     clear hg
     obtain ⟨hk, hE⟩ := un_o (b0 := b0) (v0 := v0) hlt
     obtain ⟨hk2, hNM⟩ := nm_of hk
     rw [hE] at hNM
     have HGV : Hid ((lkM T u.os[i].nm).isNone = !strIn ((unNames u).take (u.bs.length + u.gs.length + i)) u.os[i].nm) := give_is HTS.out _
     obtain ⟨gv, hgv⟩ : ∃ x, ((lkM T u.os[i].nm).isNone && nameOf u.os[i].nm) = x := ⟨_, rfl⟩
     have HG := Lh hgv
     rw [HGV.out] at hgv
     have HGF : Hid (gv = false → unitB u = false) := fun h => by
      rw [h] at hgv
      rcases h1 : strIn ((unNames u).take (u.bs.length + u.gs.length + i)) u.os[i].nm with _ | _
      ·exact unit_nm (okN_name hk2 (by rw [hNM]; rw [h1] at hgv; simpa using hgv))
      ·exact unit_nm (okN_dup hk2 (by rw [hNM]; exact h1))
     have HGT : Hid (gv = true → okN (unNames u) (u.bs.length + u.gs.length + i + 1)) := fun h => by
      rw [h] at hgv
      rw [Bool.and_eq_true] at hgv
      exact okN_snoc HOK.out hk2 (by rw [hNM]; exact hgv.2) (by rw [hNM]; simpa using hgv.1)
     have HT2 : Hid (∀ p, TvOk w ⟨u.os[i].nm, u.os[i].fn, u.os[i].ty, -1⟩ p → All2 (TvOk w) ((ents u b0 v0).take (u.bs.length + u.gs.length + i + 1)) (T ++ [p])) := fun p hp => f2_snoc HTS.out hk (by rw [hE]; exact hp)
     clear hgv HGV hE hNM hk2 hk HTS HOK
     generalize u.os[i] = o at *
     obtain ⟨onm, oty, ofn⟩ := o
     dsimp only at HTY hnl HG HT2 c0' c1' c2' c3' c4' c5' c6'
     go_upto_region 22 with (fail)
     clear c0' c1' c2' c3' c4' c5' c6'
     replace HS := Lh (HS.out.box 75 #[.string onm, .int .i64 oty.k, .string oty.nm, .slice An oty.ns.length cn, .slice Ap oty.ps.length cp, .bool oty.many, .bool ofn])
     generalize w5.alloc _ = w6 at *
     generalize w5.heap.size = tb at *
     have p1 := HS.out.c 0 1
     have p2 := HS.out.c 0 2
     have p3 := HS.out.c 0 3
     have p4 := HS.out.c 0 4
     have p5 := HS.out.c 0 5
     have p6 := HS.out.c 0 6
     have HNU := Lh (number_any oty _ w6 (Rep.keep HS.out.mv _ _ HTY.out) (HM.out.keep HS.out.mv))
     go_wp2_with fail
     refine (HNU.out).mono ?_
     rintro e w7 ⟨rfl, hb⟩
     replace HS := Lh (HS.out.below hb)
     clear hb HNU p1 p2 p3 p4 p5 p6
     have p6 := HS.out.c 0 6
     go_upto_if 149 with (fail)
     clear p6
     go_cut [15] from 150 to 158 (fun v wx => v = .bool (ouB ⟨onm, oty, ofn⟩) ∧ Hid (Hp w wx (bx tb 75 #[.string onm, .int .i64 oty.k, .string oty.nm, .slice An oty.ns.length cn, .slice Ap oty.ps.length cp, .bool oty.many, .bool ofn] :: bx X 55 #[c0, c1, c2, c3, .slice A1 (b0 + u.bs.length) d1, .slice A2 (b0 + u.bs.length) d2, .slice A3 (v0 + u.gs.length) d3, .slice A4 un d4, c8, c9, c10] :: ow w.heap.size 37 9 (.slice A1 (b0 + u.bs.length) d1) (b0 + u.bs.length) (xb ++ cb.flatten) :: ow w.heap.size 3 1 (.slice A2 (b0 + u.bs.length) d2) (b0 + u.bs.length) (xu ++ List.replicate u.bs.length (Value.int IntKind.i64 (un : Int))) :: ow w.heap.size 42 1 (.slice A3 (v0 + u.gs.length) d3) (v0 + u.gs.length) (xv ++ vr.map Vr.val) :: ow w.heap.size 57 1 (.slice A4 un d4) un xn :: mq Tryz.prog 9 mb (gM Tv.val T) :: bx nb 57 #[.map (some mb)] :: bx ub 29 #[.slice UA u.bs.length ua, .slice UB u.gs.length ub', .slice (some ⟨b2, o2, none⟩) u.os.length uc] :: (vr.map varB ++ l))))
     case first =>
      cases ofn
      ·go_wp2_with fail
       go_meet
       exact ⟨rfl, HS⟩
      have HMY := Lh (fun W (h : Below w.heap.size w W) => may_any oty _ W (Rep.keep h _ _ HTY.out) (HM.out.keep h))
      have p1 := HS.out.c 0 1
      have p2 := HS.out.c 0 2
      have p3 := HS.out.c 0 3
      have p4 := HS.out.c 0 4
      have p5 := HS.out.c 0 5
      obtain ⟨b4, hb4⟩ : ∃ x, (oty.k == 4) = x := ⟨_, rfl⟩
      have HB4 := Lh hb4
      cases b4
      ·go_wp2_with fail
       go_meet
       exact ⟨by show Value.bool _ = Value.bool (if true = true then _ else _); rw [if_pos rfl, HB4.out]; rfl, HS⟩
      have HMZ := Lh (HMY.out w7 HS.out.mv)
      clear HMY
      go_wp2_with fail
      refine (HMZ.out).mono ?_
      rintro e w8 ⟨rfl, hb⟩
      replace HS := Lh (HS.out.below hb)
      clear hb HMZ p1 p2 p3 p4 p5
      go_wp2_with fail
      go_meet
      exact ⟨by show Value.bool _ = Value.bool (if true = true then _ else _); rw [if_pos rfl, HB4.out]; rfl, HS⟩
     case rest =>
      clear HS; obtain ⟨rfl, HS⟩ := hcut
      obtain ⟨w8, rfl⟩ : ∃ x, x = wc := ⟨_, rfl⟩
      generalize ouB ⟨onm, oty, ofn⟩ = ob at *
      go_upto_region 25 with (fail)
      cases ob
      ·replace HS := Lh HS.out.drew
       refine dQ (fun W => At W tb 0 (.string onm) ∧ At W tb 1 (.int .i64 oty.k) ∧ At W tb 2 (.string oty.nm) ∧ At W tb 3 (.slice An oty.ns.length cn) ∧ At W tb 4 (.slice Ap oty.ps.length cp) ∧ At W tb 5 (.bool oty.many) ∧ At W tb 6 (.bool ofn)) (⟨HS.out.c 0 0, HS.out.c 0 1, HS.out.c 0 2, HS.out.c 0 3, HS.out.c 0 4, HS.out.c 0 5, HS.out.c 0 6⟩) fun _ => ?_
       generalize w8.drew = w9 at *
       refine tQ 0 ?_; try simp only [sq]
       refine tQ 1 ?_; try simp only [sq]
       refine tQ 2 ?_; try simp only [sq]
       refine pQ 3 ?_; try simp only [sq]
       refine pQ 4 ?_; try simp only [sq]
       refine pQ 5 ?_; try simp only [sq]
       refine pQ 6 ?_; try simp only [sq]
       refine pQ 7 ?_; try simp only [sq]
       refine pQ 8 ?_; try simp only [sq]
       refine pQ 9 ?_; try simp only [sq]
       refine pQ 10 ?_; try simp only [sq]
       refine pQ 11 ?_; try simp only [sq]
       refine pQ 12 ?_; try simp only [sq]
       refine pQ 13 ?_; try simp only [sq]
       refine pQ 14 ?_; try simp only [sq]
       refine pQ 15 ?_; try simp only [sq]
       refine tQ 16 ?_; try simp only [sq]
       refine fQ ?_ _
       have hq : unitB u = false := HNB.out (by first | rfl | trivial)
       go_wp2_with fail
       go_ret
       exact ⟨false, rfl, hq.symm, Lh (HS.out.sub (by repeat (first | exact List.sublist_append_right _ _ | refine List.Sublist.cons _ ?_))), fun h => (nomatch h)⟩
      replace HS := Lh HS.out.drew
      refine dQ (fun W => At W tb 0 (.string onm) ∧ At W tb 1 (.int .i64 oty.k) ∧ At W tb 2 (.string oty.nm) ∧ At W tb 3 (.slice An oty.ns.length cn) ∧ At W tb 4 (.slice Ap oty.ps.length cp) ∧ At W tb 5 (.bool oty.many) ∧ At W tb 6 (.bool ofn)) (⟨HS.out.c 0 0, HS.out.c 0 1, HS.out.c 0 2, HS.out.c 0 3, HS.out.c 0 4, HS.out.c 0 5, HS.out.c 0 6⟩) fun _ => ?_
      generalize w8.drew = w9 at *
      refine tQ 0 ?_; try simp only [sq]
      refine tQ 1 ?_; try simp only [sq]
      refine tQ 2 ?_; try simp only [sq]
      refine tQ 3 ?_; try simp only [sq]
      refine tQ 4 ?_; try simp only [sq]
      refine tQ 5 ?_; try simp only [sq]
      refine tQ 6 ?_; try simp only [sq]
      refine tQ 7 ?_; try simp only [sq]
      refine tQ 8 ?_; try simp only [sq]
      refine tQ 9 ?_; try simp only [sq]
      refine tQ 11 ?_; try simp only [sq]
      refine tQ 12 ?_; try simp only [sq]
      refine rQ 10 (fun K hK => ?_)
      go_simp
      refine (text_any oty _ _ (Rep.keep HS.out.mv _ _ HTY.out) (HM.out.keep HS.out.mv)).mono ?_
      rintro e w10 ⟨rfl, hb⟩
      replace HS := Lh (HS.out.below hb)
      clear hb
      refine hK.out _ _ (⟨HS.out.c 0 0, HS.out.c 0 1, HS.out.c 0 2, HS.out.c 0 3, HS.out.c 0 4, HS.out.c 0 5, HS.out.c 0 6⟩) (fun _ => ?_)
      clear hK K
      try simp only [sq]
      refine tQ 13 ?_; try simp only [sq]
      refine rQ 14 (fun K hK => ?_)
      go_simp
      replace HS := Lh HS.out.f7.f7
      refine (give_any onm ⟨ofn, textB oty, -1, oty.k, oty.nm, An, oty.ns.length, cn, Ap, oty.ps.length, cp, oty.many⟩ HS.out HM.out hnl).mono ?_
      clear HS; rintro e w11 ⟨rfl, HS⟩
      refine hK.out _ _ (⟨HS.out.c 2 0, HS.out.c 2 1, HS.out.c 2 2, HS.out.c 2 3, HS.out.c 2 4, HS.out.c 2 5, HS.out.c 2 6⟩) (fun _ => ?_)
      clear hK K
      try simp only [sq]
      rw [HG.out]
      refine tQ 15 ?_; try simp only [sq]
      refine tQ 16 ?_; try simp only [sq]
      refine fQ ?_ _
      cases gv
      ·have hq : unitB u = false := HGF.out rfl
       go_wp2_with fail
       go_ret
       exact ⟨false, rfl, hq.symm, Lh (HS.out.sub (by repeat (first | exact List.sublist_append_right _ _ | refine List.Sublist.cons _ ?_))), fun h => (nomatch h)⟩
      have HOK := Lh (HGT.out rfl)
      have HTS := Lh (HT2.out (onm, ⟨ofn, textB oty, -1, oty.k, oty.nm, An, oty.ns.length, cn, Ap, oty.ps.length, cp, oty.many⟩) ⟨rfl, rfl, rfl, rfl, HTY.out⟩)
      clear HGF HGT HG HT2
      obtain ⟨T2, hT2⟩ : ∃ T2, T ++ [(onm, ⟨ofn, textB oty, -1, oty.k, oty.nm, An, oty.ns.length, cn, Ap, oty.ps.length, cp, oty.many⟩)] = T2 := ⟨_, rfl⟩
      rw [hT2] at HS HTS
      clear hT2
      have HBO := Lh (HYB.out (by first | rfl | trivial))
      clear HNB HYB hnl
      go_wp2_with fail
      replace HS := Lh HS.out.f2.drop.f7.f2.f2.f7.f7.f7.f7.f7
      have HR : Hid (TkRel u w l X mb nb ub b0 v0 un ua ub' uc d4 UA UB (some ⟨b2, o2, none⟩) A4 c0 c1 c2 c3 c8 c9 c10 xb xu xv xn u.bs.length u.gs.length (u.bs.length + u.gs.length + i + 1) w11) := ⟨A1, A2, A3, d1, d2, d3, cb, T2, vr, HS, HCB, HVS, HTS, HOK⟩
      go_roundw
      case rel => exact ⟨i + 1, by omega, by go_num, HBO.out, HR.out⟩
      case measure => simp [intOf] <;> omega
    have hi : ¬ (i : Int) < (u.os.length : Int) := by omega
    obtain rfl : i = u.os.length := by omega
    have hq : Hid (unitB u = true) := unit_yes (fun j h => by rw [List.getD_eq_getElem?_getD, List.getElem?_eq_getElem h]; exact HG1.out j h h) (fun j h => by rw [List.getD_eq_getElem?_getD, List.getElem?_eq_getElem h]; exact HG2.out j h h) (fun j h => by rw [List.getD_eq_getElem?_getD, List.getElem?_eq_getElem h]; exact hg j h h) (okN_all (by have := HOK.out; rwa [show u.bs.length + u.gs.length + u.os.length = (unNames u).length by unfold unNames; simp; omega] at this))
    clear hg HG1 HG2 HOK
    go_upto_region 28 with (fail)
    clear hi
    replace HS := Lh HS.out.drew
    refine dQ (fun _ => True) (trivial) fun _ => ?_
    generalize w5.drew = w6 at *
    refine tQ 0 ?_; try simp only [sq]
    refine tQ 1 ?_; try simp only [sq]
    refine tQ 2 ?_; try simp only [sq]
    refine tQ 3 ?_; try simp only [sq]
    replace HS := Lh HS.out.f6.f5.f2
    refine wpAnyH_grp [⟨4, some 181, []⟩, ⟨5, some 182, []⟩, ⟨6, some 183, [5]⟩] 4 (fun vs W => ∃ y_ : Nat, Hid (Hp w W (ifq (vs 6) (bx y_ 57 #[.map (some mb)]) ++ (bx X 55 #[c0, c1, c2, c3, .slice A1 (b0 + u.bs.length) d1, .slice A2 (b0 + u.bs.length) d2, .slice A3 (v0 + u.gs.length) d3, .slice A4 un d4, c8, c9, c10] :: ow w.heap.size 57 1 (.slice A4 un d4) un xn :: bx nb 57 #[.map (some mb)] :: ow w.heap.size 37 9 (.slice A1 (b0 + u.bs.length) d1) (b0 + u.bs.length) (xb ++ cb.flatten) :: ow w.heap.size 3 1 (.slice A2 (b0 + u.bs.length) d2) (b0 + u.bs.length) (xu ++ List.replicate u.bs.length (Value.int IntKind.i64 (un : Int))) :: ow w.heap.size 42 1 (.slice A3 (v0 + u.gs.length) d3) (v0 + u.gs.length) (xv ++ vr.map Vr.val) :: mq Tryz.prog 9 mb (gM Tv.val T) :: bx ub 29 #[.slice UA u.bs.length ua, .slice UB u.gs.length ub', .slice UC u.os.length uc] :: (vr.map varB ++ l)))) ∧ OV (vs 4) (.slice A4 un d4) ∧ OV (vs 5) (.map (some mb)) ∧ OV (vs 6) (.slice (some ⟨y_, 0, none⟩) 1 1)) (by rfl) (by decide +kernel) ⟨0, HS, OP.no _ rfl, OP.no _ rfl, OP.no _ rfl⟩ (fun _ _ _ => trivial) ⟨?_, ?_, ?_, trivial⟩ ?_
    ·clear HS; refine ⟨_, rfl, fun vs W h4 hd hn ⟨y_, HS, e4, e5, e6⟩ => ?_⟩
     have hk := HS.out.ok (bx X 55 #[c0, c1, c2, c3, .slice A1 (b0 + u.bs.length) d1, .slice A2 (b0 + u.bs.length) d2, .slice A3 (v0 + u.gs.length) d3, .slice A4 un d4, c8, c9, c10]) (by simp)
     have hk := (show Blk W X 55 #[c0, c1, c2, c3, .slice A1 (b0 + u.bs.length) d1, .slice A2 (b0 + u.bs.length) d2, .slice A3 (v0 + u.gs.length) d3, .slice A4 un d4, c8, c9, c10] from hk)
     have c7 := hk.cell 7 _ rfl
     clear hk
     simp only [actG, old, Option.getD_some]; try simp only [sq]; intro K hK
     go_simp
     exact hK.out _ _ ⟨y_, HS, OP.is rfl, e5, e6⟩
    ·clear HS; refine ⟨_, rfl, fun vs W h5 hd hn ⟨y_, HS, e4, e5, e6⟩ => ?_⟩
     have hk := HS.out.ok (bx nb 57 #[.map (some mb)]) (by simp)
     have hk := (show Blk W nb 57 #[.map (some mb)] from hk)
     have c0 := hk.cell 0 _ rfl
     clear hk
     simp only [actG, old, Option.getD_some]; try simp only [sq]; intro K hK
     go_simp
     exact hK.out _ _ ⟨y_, HS, e4, OP.is rfl, OP.no _ hn.2.2.1⟩
    ·clear HS; refine ⟨_, rfl, fun vs W h6 hd hn ⟨y_, HS, e4, e5, e6⟩ => ?_⟩
     obtain ⟨⟨v5, h5⟩, -⟩ := hd
     obtain rfl := e5 _ h5
     rw [h6] at HS
     simp only [actG, old, h5, Option.getD_some]; try simp only [sq]; intro K hK
     go_simp
     exact hK.out _ _ ⟨W.heap.size, Lh (HS.out.box 57 #[.map (some mb)]), e4, e5, OP.is rfl⟩
    clear HS; intro vs W ⟨y_, HS, e4, e5, e6⟩ hall
    obtain ⟨⟨v4, h4⟩, ⟨v5, h5⟩, ⟨v6, h6⟩, -⟩ := hall
    obtain rfl := e4 _ h4
    obtain rfl := e5 _ h5
    obtain rfl := e6 _ h6
    rw [h6] at HS
    simp only [ifq, List.cons_append, List.nil_append] at HS
    simp only [actG, lisG, old, h4, h5, h6, Option.getD_some, Option.isSome_some, if_true, List.length_cons, List.length_nil]; try simp only [sq]
    clear h4 e4 h5 e5 h6 e6 vs
    obtain ⟨w7, rfl⟩ : ∃ x, x = W := ⟨_, rfl⟩
    refine rQ 7 (fun K hK => ?_)
    rw [if_pos (by rfl)]
    replace HS := Lh HS.out.f2
    refine oper_push_own HS.out (Nat.le_refl _) _ _ 53 8 rfl Tryz.underlying53 elt_map rfl ⟨y_, 0, none⟩ 1 _ [.map (some mb)] rfl rfl (HS.out.blk 1 rfl).news (by simp [Value.oneCell']) (by unfold maxLen; omega) (by omega) ?_
    clear HS; intro A4x d4x w8 HS
    refine hK.out _ _ (trivial) (fun _ => ?_)
    clear hK K
    try simp only [sq]
    replace HS := Lh HS.out.f1.drop
    refine tQ 8 ?_; try simp only [sq]
    refine tQ 9 ?_; try simp only [sq]
    refine rQ 10 (fun K hK => ?_)
    replace HS := Lh HS.out.f1
    have f7 := (HS.out.blk 0 rfl).free 7
    have g7 := HS.out.c 0 7
    go_simp
    clear f7 g7
    replace HS := Lh (HS.out.put1 7 (.slice A4x (un + 1) d4x))
    simp only [sq] at HS
    generalize w8.setCell _ _ = w9 at *
    refine hK.out _ _ (trivial) (fun _ => ?_)
    clear hK K
    try simp only [sq]
    refine fQ ?_ _
    replace HS := Lh HS.out.f2.drop.f6.drop.f5.f2.f5.f5.f5.f5
    go_wp2_with fail
    go_ret
    exact ⟨true, rfl, hq.out.symm, Lh (HS.out.sub (by repeat (first | exact List.sublist_append_right _ _ | refine List.Sublist.cons _ ?_))), fun _ => ⟨A1, A2, A3, A4x, d1, d2, d3, d4x, mb, cb, T, vr, HS, Lh (by have := HCB.out; rwa [List.take_of_length_le (Nat.le_refl _)] at this), Lh (by have := HVS.out; rwa [List.take_of_length_le (Nat.le_refl _)] at this), Lh (by have := HTS.out; rwa [List.take_of_length_le (by rw [ents_len]; omega)] at this)⟩⟩
end Go.Proofs.YthihaeobkoiljaaGreat
