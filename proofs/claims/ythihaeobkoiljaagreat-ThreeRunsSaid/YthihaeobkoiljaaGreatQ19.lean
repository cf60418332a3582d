/- Lemmas for the law. -/
import Derived.Test.YthihaeobkoiljaaGreatQ17
import Derived.Test.YthihaeobkoiljaaGreatQ18
set_option linter.unusedVariables false
set_option linter.unusedSimpArgs false
set_option maxRecDepth 100000
set_option maxHeartbeats 40000000
namespace Go.Proofs.YthihaeobkoiljaaGreat
open Go.RowKit
theorem idx_not {l : List ByteArray} {s : ByteArray} (h : idx l s = none) : s ∉ l := by
 unfold idx at h
 rw [List.findIdx?_eq_none_iff] at h
 intro hs
 have := h s hs
 simp at this
theorem giv_zero {u : Un} {s : ByteArray} (h : giv u s = (0, 0)) : s ∉ unNames u := by
 unfold giv at h
 unfold unNames
 rcases e1 : idx (u.bs.map (·.nm)) s with _ | i
 ·rcases e2 : idx (u.gs.map (·.nm)) s with _ | i
  ·rcases e3 : idx (u.os.map (·.nm)) s with _ | i
   ·have h1 := idx_not e1
    have h2 := idx_not e2
    have h3 := idx_not e3
    rw [List.mem_append, List.mem_append]
    intro hh
    rcases hh with (hh | hh) | hh
    ·exact h1 hh
    ·exact h2 hh
    ·exact h3 hh
   ·rw [e1, e2, e3] at h; injection h with h; cases h
  ·rw [e1, e2] at h; injection h with h; cases h
 ·rw [e1] at h; injection h with h; cases h
def numN (u : Un) (b0 v0 : Nat) (s : ByteArray) : Int := if (giv u s).1 = 1 then ((b0 + (giv u s).2 : Nat) : Int) else if (giv u s).1 = 2 then ((v0 + (giv u s).2 : Nat) : Int) else -1
def Tv.ty5 (x : Tv) : List Value := [.int .i64 x.k, .string x.nm, .slice x.A x.a x.ca, .slice x.B x.b x.cb, .bool x.many]
theorem things_ty {w : World} {u : Un} {b0 v0 : Nat} {T : List (ByteArray × Tv)} (h : All2 (TvOk w) (ents u b0 v0) T) (hu : unitB u = true) (s : ByteArray) :
 (lkM T s = none ∧ (tyF u s).2.2 = false ∧ giv u s = (0, 0)) ∨ ∃ x, lkM T s = some x ∧ (tyF u s).2.2 = true ∧ (tyF u s).2.1 = x.fn ∧ x.t = textB (tyF u s).1 ∧ Rep w (tyF u s).1 x.ty5 ∧ x.n = numN u b0 v0 s := by
 have hn : T.map (·.1) = unNames u := (tv_names h).trans (ents_nm u b0 v0)
 have hnd : (T.map (·.1)).Nodup := by
  rw [hn]
  unfold unitB at hu
  simp only [Bool.and_eq_true, decide_eq_true_eq] at hu
  exact hu.2
 have hlen := h.len
 have key : ∀ (k : Nat) (hk : k < (ents u b0 v0).length), (ents u b0 v0)[k].nm = s → ∃ x, lkM T s = some x ∧ x.fn = (ents u b0 v0)[k].fn ∧ x.t = textB (ents u b0 v0)[k].ty ∧ x.n = (ents u b0 v0)[k].n ∧ Rep w (ents u b0 v0)[k].ty x.ty5 := fun k hk hs => by
  have hk2 : k < T.length := by omega
  obtain ⟨h1, h2, h3, h4, h5⟩ := h.get hk hk2
  have := lkM_mem hnd (List.getElem_mem hk2)
  rw [h1, hs] at this
  exact ⟨_, this, h2, h3, h4, h5⟩
 rcases giv_cases u s with ⟨i, hi, hR, hnm⟩ | ⟨i, hi, hR, hnm⟩ | ⟨i, hi, hR, hnm⟩ | hR
 ·obtain ⟨hk, hE⟩ := un_b (b0 := b0) (v0 := v0) hi
  obtain ⟨x, k1, k2, k3, k4, k5⟩ := key i hk (by rw [hE]; exact hnm)
  rw [hE] at k2 k3 k4 k5
  have e : tyF u s = (u.bs[i].ty, true, true) := by unfold tyF; rw [hR]; simp [List.getD_eq_getElem?_getD, hi]
  rw [e]
  exact .inr ⟨x, k1, rfl, k2.symm, k3, k5, by unfold numN; rw [hR]; exact k4⟩
 ·obtain ⟨hk, hE⟩ := un_g (b0 := b0) (v0 := v0) hi
  obtain ⟨x, k1, k2, k3, k4, k5⟩ := key _ hk (by rw [hE]; exact hnm)
  rw [hE] at k2 k3 k4 k5
  have e : tyF u s = (u.gs[i].ty, false, true) := by unfold tyF; rw [hR]; simp [List.getD_eq_getElem?_getD, hi]
  rw [e]
  exact .inr ⟨x, k1, rfl, k2.symm, k3, k5, by unfold numN; rw [hR]; exact k4⟩
 ·obtain ⟨hk, hE⟩ := un_o (b0 := b0) (v0 := v0) hi
  obtain ⟨x, k1, k2, k3, k4, k5⟩ := key _ hk (by rw [hE]; exact hnm)
  rw [hE] at k2 k3 k4 k5
  have e : tyF u s = (u.os[i].ty, u.os[i].fn, true) := by unfold tyF; rw [hR]; simp [List.getD_eq_getElem?_getD, hi]
  rw [e]
  exact .inr ⟨x, k1, rfl, k2.symm, k3, k5, by unfold numN; rw [hR]; exact k4⟩
 ·refine .inl ⟨lkM_none.2 (by rw [hn]; exact giv_zero hR), by unfold tyF; rw [hR]; rfl, hR⟩
theorem order_nm {b : Bo} (h : bodyB b = true) {o : Or} (ho : o ∈ b.code) : o.nm.size ≤ maxLen := by
 unfold bodyB at h
 simp only [Bool.and_eq_true] at h
 have h1 := List.all_eq_true.1 h.1.2 o ho
 unfold orderB at h1
 simp only [Bool.and_eq_true] at h1
 have h2 := h1.1.2
 unfold namB at h2
 split at h2
 ·unfold nameOf at h2
  simp only [Bool.and_eq_true, decide_eq_true_eq] at h2
  have := h2.1.1.1.2
  unfold maxLen
  omega
 ·have h3 : o.nm.toList = [] := by simpa using h2
  have h4 : o.nm.size = 0 := by
   have := congrArg List.length h3
   rw [ByteArray.toList_eq] at this
   simpa using this
  rw [h4]
  exact Nat.zero_le _
theorem order_ty {b : Bo} (h : bodyB b = true) {o : Or} (ho : o ∈ b.code) : o.op = 7 → may o.ty = true := (body_may h).2 o ho
theorem txt_eq {T U : Ty} {x : ByteArray} (h : may T = true) (hU : may U = true) (hx : x = textB T) : eqB T U = decide (x = textB U) := by
 subst hx
 unfold eqB
 by_cases e : T = U
 ·subst e; simp
 ·have : ¬ textB T = textB U := fun h2 => e (textB_inj h h2).2
  simp [e, this]
def Spk3 (u : Un) (b : Bo) (W : World) (bb : Nat) (An Ap A' : Option Addr) (cn cp c' : Nat) (iv : Value) (wr : World) : Prop := ∃ i : Nat, i ≤ b.code.length ∧ iv = .int .i64 i ∧ (∀ j (h : j < b.code.length), j < i → spk1 u b.code[j] = true) ∧ Hid (Hp W wr [bx bb 37 #[.string b.nm, .bool b.static, .int .i64 b.ty.k, .string b.ty.nm, .slice An b.ty.ns.length cn, .slice Ap b.ty.ps.length cp, .bool b.ty.many, .int .i64 b.regs, .slice A' b.code.length c']])
theorem speaks3_any (u : Un) (b : Bo) (cs : List Value) {w W : World} {mb b0 v0 : Nat} {T : List (ByteArray × Tv)} (hu : unitB u = true) (hT : All2 (TvOk w) (ents u b0 v0) T) (hr : RepB w b cs) (hbo : bodyB b = true) (hm : ML w) (hB : Below w.heap.size w W) (hM : MapIs Tryz.prog 9 W mb (gM Tv.val T)) :
 Calls Tryz.prog 15 #[.agg cs.toArray, .map (some mb)] W fun e W' => e = .returned (.bool (spkB u b)) ∧ Below W.heap.size W W' := by
 have hr0 := hr
 obtain ⟨An, cn, Ap, cp, A', c', rfl, hT1, hP, hC, hl⟩ := hr.nine
 have HC := Lh hC
 have HB := Lh hB
 have HM := Lh hM
 have HML := Lh hm
 have HNM := Lh (fun k (hk : k < b.code.length) => order_nm hbo (List.getElem_mem hk))
 have HTY := Lh (fun k (hk : k < b.code.length) => order_ty hbo (List.getElem_mem hk))
 have HTH := Lh (fun s => things_ty hT hu s)
 have HMAY := Lh (fun s => ty_may (s := s) hu)
 have hlen : b.code.length ≤ 6000 := (body_may hbo).1
 have HNO := Lh (fun k (hk : k < b.code.length) hn => spk_no (u := u) hk hn)
 have HYES := Lh (spk_yes (u := u) (b := b))
 have HS := Lh ((Hp.init W).box 37 #[.string b.nm, .bool b.static, .int .i64 b.ty.k, .string b.ty.nm, .slice An b.ty.ns.length cn, .slice Ap b.ty.ps.length cp, .bool b.ty.many, .int .i64 b.regs, .slice A' b.code.length c'])
 generalize spkB u b = E at *
 clear hr hr0 hT1 hP hC hl hT hu hbo hm hB hM
 go_enter Tryz.func15, Tryz.ntmps15
 go_upto_region 1 with (fail)
 generalize W.alloc _ = w0 at *
 generalize W.heap.size = bb at *
 have b8 := HS.out.c 0 8
 go_wp2_with fail
 go_loopw [13] (fun iv wr => Spk3 u b W bb An Ap A' cn cp c' iv wr) (fun iv _ => b.code.length - (intOf iv).toNat)
 case atStart => exact ⟨0, Nat.zero_le _, rfl, fun j _ h => absurd h (by omega), HS⟩
 case round =>
  clear HS b8; obtain ⟨i, hik, rfl, hg, HS⟩ := hrel
  obtain ⟨w1, rfl⟩ : ∃ x, x = wr := ⟨_, rfl⟩
  by_cases hlt : i < b.code.length
  ·obtain ⟨bo, oo, Ad, cd, As, ce, Bn, dn, Bp, dp, rfl, hbl, hRO, hc⟩ := HC.out.ten hlt
   obtain ⟨c0, c1, c2, c3, c4, c5, c6, c7, c8, c9⟩ := hc w1 (HB.out.trans (HS.out.mv.mono HB.out.size))
   have HRO : Hid (∀ X, Below W.heap.size W X → Rep X b.code[i].ty [.int .i64 b.code[i].ty.k, .string b.code[i].ty.nm, .slice Bn b.code[i].ty.ns.length dn, .slice Bp b.code[i].ty.ps.length dp, .bool b.code[i].ty.many]) := fun X h => Rep.keep (HB.out.trans (h.mono HB.out.size)) _ _ hRO.tyL
   have hnl := HNM.out i hlt
   have HO7 := Lh (HTY.out i hlt)
   have HN := Lh (HNO.out i hlt)
   have HY : Hid (spk1 u b.code[i] = true → ∀ j (h : j < b.code.length), j < i + 1 → spk1 u b.code[j] = true) := fun h0 j h hj => by
    rcases Nat.lt_or_ge j i with h1 | h1
    ·exact hg j h h1
    ·have e : j = i := by omega
     subst e
     exact h0
   have hi : (i : Int) < (b.code.length : Int) := by omega
   have hi0 : (0 : Int) ≤ (i : Int) := by omega
   have hi6 : (i : Int) < 6000 := by omega
   clear hg hc hRO HNO HYES
   generalize b.code[i] = o at *
   obtain ⟨op, dl, sl, nn, nm, T2⟩ := o
   dsimp only at HRO hnl HO7 c0 c1 c2 c3 c4 c5 c6 c7 c8 c9
   go_upto_region 4 with (fail)
   clear c0 c1 c2 c3 c4 c5 c6 c7 c8 c9
   replace HS := Lh (HS.out.box 63 #[.int .i64 op, .slice Ad dl.length cd, .slice As sl.length ce, .int .i64 nn, .string nm, .int .i64 T2.k, .string T2.nm, .slice Bn T2.ns.length dn, .slice Bp T2.ps.length dp, .bool T2.many])
   generalize w1.alloc _ = w2 at *
   generalize w1.heap.size = ob at *
   have p4 := HS.out.c 0 4
   by_cases hz : nm = ⟨#[]⟩
   ·have hq := Lh (HY.out (if_pos hz))
    clear HY HN
    subst hz
    go_wp2_with fail
    clear p4
    replace HS := Lh HS.out.drop
    go_roundw
    case rel => exact ⟨i + 1, by omega, by go_num, hq.out, HS⟩
    case measure => simp [intOf] <;> omega
   have HSP : Hid (spk1 u ⟨op, dl, sl, nn, nm, T2⟩ = ((tyF u nm).2.2 && ((tyF u nm).2.1 == ((op == 7) || (op == 6))) && !(((op == 7) && !eqB (tyF u nm).1 T2) || (!(tyF u nm).2.1 && decide (((sizeT (tyF u nm).1).1 : Int) ≤ nn))))) := if_neg hz
   rw [HSP.out] at HN HY
   have z1 := str_ne hz
   have z2 : (nm.toList == []) = false := by
    have h := z1
    rw [show (⟨#[]⟩ : ByteArray).toList = [] by rw [ByteArray.toList_eq]] at h
    exact h
   have hMw := HM.out.below HS.out.mv
   rcases HTH.out nm with ⟨hlk, hno, -⟩ | ⟨x, hlk, hok, hfn, htx, hrx, -⟩
   ·have hl := look_tv hMw nm hnl
    rw [hlk] at hl
    simp only [Option.getD_none, Option.isSome_none, zTv, Tv.val] at hl
    have hq := Lh (HN.out (by rw [hno]; rfl))
    clear HN HY hMw hlk hno HSP
    go_upto_region 6 with (fail)
    clear hl p4 z1 z2 hz
    replace HS := Lh (HS.out.box 93 #[.bool false, .string ⟨#[]⟩, .int .i64 0, .int .i64 0, .string ⟨#[]⟩, .slice none 0 0, .slice none 0 0, .bool false])
    generalize w2.alloc _ = w3 at *
    generalize w2.heap.size = vb at *
    have p0 := HS.out.c 1 0
    obtain ⟨b7, hb7⟩ : ∃ x, (op == 7) = x := ⟨_, rfl⟩
    obtain ⟨b6, hb6⟩ : ∃ x, (op == 6) = x := ⟨_, rfl⟩
    rcases b7 with _ | _
    ·rcases b6 with _ | _
     ·go_upto_region 7 with (fail)
      clear p0
      replace HS := Lh HS.out.drew
      refine dQ (fun W => At W ob 0 (.int .i64 op)) (HS.out.c 1 0) fun _ => ?_
      generalize w3.drew = w4 at *
      refine tQ3 0 1 2 ?_; try simp only [sq]
      refine pQ4 3 4 5 6 ?_; try simp only [sq]
      refine tQ2 7 8 ?_; try simp only [sq]
      refine pQ4 9 10 11 12 ?_; try simp only [sq]
      refine uQ4 13 14 15 16 ?_; try simp only [sq]
      refine uQ 17 ?_; try simp only [sq]
      refine uQ 18 ?_; try simp only [sq]
      refine pQ 19 ?_; try simp only [sq]
      refine tQ2 20 21 ?_; try simp only [sq]
      refine pQ 22 ?_; try simp only [sq]
      refine pQ 23 ?_; try simp only [sq]
      refine pQ 24 ?_; try simp only [sq]
      refine uQ4 25 26 27 28 ?_; try simp only [sq]
      refine uQ 29 ?_; try simp only [sq]
      refine uQ 30 ?_; try simp only [sq]
      refine pQ 31 ?_; try simp only [sq]
      refine tQ 32 ?_; try simp only [sq]
      refine fQ ?_ _
      go_wp2_with fail
      go_ret
      exact ⟨by rw [hq.out]; rfl, HS.out.mv⟩
     go_upto_region 7 with (fail)
     clear p0
     replace HS := Lh HS.out.drew
     refine dQ (fun W => At W ob 0 (.int .i64 op)) (HS.out.c 1 0) fun _ => ?_
     generalize w3.drew = w4 at *
     refine tQ3 0 1 2 ?_; try simp only [sq]
     refine pQ4 3 4 5 6 ?_; try simp only [sq]
     refine tQ2 7 8 ?_; try simp only [sq]
     refine pQ4 9 10 11 12 ?_; try simp only [sq]
     refine uQ4 13 14 15 16 ?_; try simp only [sq]
     refine uQ 17 ?_; try simp only [sq]
     refine uQ 18 ?_; try simp only [sq]
     refine pQ 19 ?_; try simp only [sq]
     refine tQ2 20 21 ?_; try simp only [sq]
     refine pQ 22 ?_; try simp only [sq]
     refine pQ 23 ?_; try simp only [sq]
     refine pQ 24 ?_; try simp only [sq]
     refine uQ4 25 26 27 28 ?_; try simp only [sq]
     refine uQ 29 ?_; try simp only [sq]
     refine uQ 30 ?_; try simp only [sq]
     refine pQ 31 ?_; try simp only [sq]
     refine tQ 32 ?_; try simp only [sq]
     refine fQ ?_ _
     go_wp2_with fail
     go_ret
     exact ⟨by rw [hq.out]; rfl, HS.out.mv⟩
    go_upto_region 7 with (fail)
    clear p0
    replace HS := Lh HS.out.drew
    refine dQ (fun W => At W ob 0 (.int .i64 op)) (HS.out.c 1 0) fun _ => ?_
    generalize w3.drew = w4 at *
    refine tQ3 0 1 2 ?_; try simp only [sq]
    refine pQ4 3 4 5 6 ?_; try simp only [sq]
    refine tQ2 7 8 ?_; try simp only [sq]
    refine pQ4 9 10 11 12 ?_; try simp only [sq]
    refine uQ4 13 14 15 16 ?_; try simp only [sq]
    refine uQ 17 ?_; try simp only [sq]
    refine uQ 18 ?_; try simp only [sq]
    refine pQ 19 ?_; try simp only [sq]
    refine tQ2 20 21 ?_; try simp only [sq]
    refine pQ 22 ?_; try simp only [sq]
    refine pQ 23 ?_; try simp only [sq]
    refine pQ 24 ?_; try simp only [sq]
    refine uQ4 25 26 27 28 ?_; try simp only [sq]
    refine uQ 29 ?_; try simp only [sq]
    refine uQ 30 ?_; try simp only [sq]
    refine pQ 31 ?_; try simp only [sq]
    refine tQ 32 ?_; try simp only [sq]
    refine fQ ?_ _
    go_wp2_with fail
    go_ret
    exact ⟨by rw [hq.out]; rfl, HS.out.mv⟩
   have HTX := Lh htx
   clear htx
   have HMY := Lh (HMAY.out nm hok)
   have HRX0 := Lh hrx
   clear hrx
   rw [hok, hfn, Bool.true_and] at HN HY
   generalize (tyF u nm).1 = T at *
   have hl := look_tv hMw nm hnl
   rw [hlk] at hl
   simp only [Option.getD_some, Option.isSome_some, Tv.val] at hl
   clear hMw hlk hok hfn HSP
   go_upto_region 6 with (fail)
   clear hl p4 z1 z2 hz
   replace HS := Lh (HS.out.box 93 #[.bool x.fn, .string x.t, .int .i64 x.n, .int .i64 x.k, .string x.nm, .slice x.A x.a x.ca, .slice x.B x.b x.cb, .bool x.many])
   generalize w2.alloc _ = w3 at *
   generalize w2.heap.size = vb at *
   have HRX : Hid (∀ X, Below W.heap.size W X → Rep X T x.ty5) := fun X h => Rep.keep (HB.out.trans (h.mono HB.out.size)) _ _ HRX0.out
   obtain ⟨xfn, xt, xn, xk, xnm, xA, xa, xca, xB, xb, xcb, xm⟩ := x
   dsimp only at HTX HN HY HS
   clear HRX0
   have p0 := HS.out.c 1 0
   obtain ⟨b7, hb7⟩ : ∃ x, (op == 7) = x := ⟨_, rfl⟩
   obtain ⟨b6, hb6⟩ : ∃ x, (op == 6) = x := ⟨_, rfl⟩
   rw [hb7, hb6] at HN HY
   rcases b7 with _ | _
   ·rcases b6 with _ | _
    ·rcases xfn with _ | _
     ·go_upto_region 7 with (fail)
      clear p0
      replace HS := Lh HS.out.drew
      refine dQ (fun W => At W ob 0 (.int .i64 op) ∧ At W ob 3 (.int .i64 nn) ∧ At W ob 5 (.int .i64 T2.k) ∧ At W ob 6 (.string T2.nm) ∧ At W ob 7 (.slice Bn T2.ns.length dn) ∧ At W ob 8 (.slice Bp T2.ps.length dp) ∧ At W ob 9 (.bool T2.many) ∧ At W vb 0 (.bool false) ∧ At W vb 1 (.string xt) ∧ At W vb 2 (.int .i64 xn) ∧ At W vb 3 (.int .i64 xk) ∧ At W vb 4 (.string xnm) ∧ At W vb 5 (.slice xA xa xca) ∧ At W vb 6 (.slice xB xb xcb) ∧ At W vb 7 (.bool xm)) (⟨HS.out.c 1 0, HS.out.c 1 3, HS.out.c 1 5, HS.out.c 1 6, HS.out.c 1 7, HS.out.c 1 8, HS.out.c 1 9, HS.out.c 0 0, HS.out.c 0 1, HS.out.c 0 2, HS.out.c 0 3, HS.out.c 0 4, HS.out.c 0 5, HS.out.c 0 6, HS.out.c 0 7⟩) fun _ => ?_
      generalize w3.drew = w4 at *
      refine tQ4 0 1 2 3 ?_; try simp only [sq]
      refine tQ4 4 5 6 7 ?_; try simp only [sq]
      refine tQ4 8 9 10 11 ?_; try simp only [sq]
      refine tQ 12 ?_; try simp only [sq]
      refine pQ4 13 14 15 16 ?_; try simp only [sq]
      refine pQ 17 ?_; try simp only [sq]
      refine pQ 18 ?_; try simp only [sq]
      refine tQ4 19 20 21 22 ?_; try simp only [sq]
      refine tQ4 23 24 25 26 ?_; try simp only [sq]
      refine tQ2 27 28 ?_; try simp only [sq]
      have hws : wordsT T = ((sizeT T).1 : Int) := if_pos HMY.out
      obtain ⟨sz, hsz⟩ : ∃ z, (sizeT T).1 = z := ⟨_, rfl⟩
      have HWS : Hid (wordsT T = (sz : Int)) := by show _ = _; rw [hws, hsz]
      rw [hsz] at HN HY
      clear hws hsz
      refine rQ 29 (fun K hK => ?_)
      go_simp
      refine ((words_any T _ _ (HRX.out _ HS.out.mv) (HML.out.keep (HB.out.trans (HS.out.mv.mono HB.out.size)))).mono (words_sz HWS.out)).mono ?_
      rintro e w5 ⟨rfl, hb⟩
      replace HS := Lh (HS.out.below hb)
      clear hb
      refine hK.out _ _ (⟨HS.out.c 1 0, HS.out.c 1 3, HS.out.c 1 5, HS.out.c 1 6, HS.out.c 1 7, HS.out.c 1 8, HS.out.c 1 9, HS.out.c 0 0, HS.out.c 0 1, HS.out.c 0 2, HS.out.c 0 3, HS.out.c 0 4, HS.out.c 0 5, HS.out.c 0 6, HS.out.c 0 7⟩) (fun _ => ?_)
      clear hK K
      try simp only [sq]
      by_cases hge : (sz : Int) ≤ nn
      ·(refine tQ 30 ?_; try simp only [sq])
       try simp only [sq]
       refine tQ2 31 32 ?_; try simp only [sq]
       refine fQ ?_ _
       have hq := Lh (HN.out (by simp [hge]))
       go_wp2_with fail
       go_ret
       exact ⟨by rw [hq.out]; rfl, HS.out.mv⟩
      refine tQ3 30 31 32 ?_; try simp only [sq]
      refine fQ ?_ _
      have hq := Lh (HY.out (by simp [hge]))
      go_wp2_with fail
      replace HS := Lh HS.out.f1.drop.drop
      go_roundw
      case rel => exact ⟨i + 1, by omega, by go_num, hq.out, HS⟩
      case measure => simp [intOf] <;> omega
     go_upto_region 7 with (fail)
     clear p0
     replace HS := Lh HS.out.drew
     refine dQ (fun W => At W ob 0 (.int .i64 op) ∧ At W ob 3 (.int .i64 nn) ∧ At W ob 5 (.int .i64 T2.k) ∧ At W ob 6 (.string T2.nm) ∧ At W ob 7 (.slice Bn T2.ns.length dn) ∧ At W ob 8 (.slice Bp T2.ps.length dp) ∧ At W ob 9 (.bool T2.many) ∧ At W vb 0 (.bool true) ∧ At W vb 1 (.string xt) ∧ At W vb 2 (.int .i64 xn) ∧ At W vb 3 (.int .i64 xk) ∧ At W vb 4 (.string xnm) ∧ At W vb 5 (.slice xA xa xca) ∧ At W vb 6 (.slice xB xb xcb) ∧ At W vb 7 (.bool xm)) (⟨HS.out.c 1 0, HS.out.c 1 3, HS.out.c 1 5, HS.out.c 1 6, HS.out.c 1 7, HS.out.c 1 8, HS.out.c 1 9, HS.out.c 0 0, HS.out.c 0 1, HS.out.c 0 2, HS.out.c 0 3, HS.out.c 0 4, HS.out.c 0 5, HS.out.c 0 6, HS.out.c 0 7⟩) fun _ => ?_
     generalize w3.drew = w4 at *
     refine tQ4 0 1 2 3 ?_; try simp only [sq]
     refine tQ4 4 5 6 7 ?_; try simp only [sq]
     refine tQ 8 ?_; try simp only [sq]
     refine pQ4 9 10 11 12 ?_; try simp only [sq]
     refine uQ4 13 14 15 16 ?_; try simp only [sq]
     refine uQ 17 ?_; try simp only [sq]
     refine uQ 18 ?_; try simp only [sq]
     refine pQ 19 ?_; try simp only [sq]
     refine tQ2 20 21 ?_; try simp only [sq]
     refine pQ 22 ?_; try simp only [sq]
     refine pQ 23 ?_; try simp only [sq]
     refine pQ 24 ?_; try simp only [sq]
     refine uQ4 25 26 27 28 ?_; try simp only [sq]
     refine uQ 29 ?_; try simp only [sq]
     refine uQ 30 ?_; try simp only [sq]
     refine pQ 31 ?_; try simp only [sq]
     refine tQ 32 ?_; try simp only [sq]
     refine fQ ?_ _
     have hq := Lh (HN.out (rfl))
     go_wp2_with fail
     go_ret
     exact ⟨by rw [hq.out]; rfl, HS.out.mv⟩
    rcases xfn with _ | _
    ·go_upto_region 7 with (fail)
     clear p0
     replace HS := Lh HS.out.drew
     refine dQ (fun W => At W ob 0 (.int .i64 op) ∧ At W ob 3 (.int .i64 nn) ∧ At W ob 5 (.int .i64 T2.k) ∧ At W ob 6 (.string T2.nm) ∧ At W ob 7 (.slice Bn T2.ns.length dn) ∧ At W ob 8 (.slice Bp T2.ps.length dp) ∧ At W ob 9 (.bool T2.many) ∧ At W vb 0 (.bool false) ∧ At W vb 1 (.string xt) ∧ At W vb 2 (.int .i64 xn) ∧ At W vb 3 (.int .i64 xk) ∧ At W vb 4 (.string xnm) ∧ At W vb 5 (.slice xA xa xca) ∧ At W vb 6 (.slice xB xb xcb) ∧ At W vb 7 (.bool xm)) (⟨HS.out.c 1 0, HS.out.c 1 3, HS.out.c 1 5, HS.out.c 1 6, HS.out.c 1 7, HS.out.c 1 8, HS.out.c 1 9, HS.out.c 0 0, HS.out.c 0 1, HS.out.c 0 2, HS.out.c 0 3, HS.out.c 0 4, HS.out.c 0 5, HS.out.c 0 6, HS.out.c 0 7⟩) fun _ => ?_
     generalize w3.drew = w4 at *
     refine tQ4 0 1 2 3 ?_; try simp only [sq]
     refine tQ4 4 5 6 7 ?_; try simp only [sq]
     refine tQ 8 ?_; try simp only [sq]
     refine pQ4 9 10 11 12 ?_; try simp only [sq]
     refine uQ4 13 14 15 16 ?_; try simp only [sq]
     refine uQ 17 ?_; try simp only [sq]
     refine uQ 18 ?_; try simp only [sq]
     refine pQ 19 ?_; try simp only [sq]
     refine tQ2 20 21 ?_; try simp only [sq]
     refine pQ 22 ?_; try simp only [sq]
     refine pQ 23 ?_; try simp only [sq]
     refine pQ 24 ?_; try simp only [sq]
     refine uQ4 25 26 27 28 ?_; try simp only [sq]
     refine uQ 29 ?_; try simp only [sq]
     refine uQ 30 ?_; try simp only [sq]
     refine pQ 31 ?_; try simp only [sq]
     refine tQ 32 ?_; try simp only [sq]
     refine fQ ?_ _
     have hq := Lh (HN.out (rfl))
     go_wp2_with fail
     go_ret
     exact ⟨by rw [hq.out]; rfl, HS.out.mv⟩
    go_upto_region 7 with (fail)
    clear p0
    replace HS := Lh HS.out.drew
    refine dQ (fun W => At W ob 0 (.int .i64 op) ∧ At W ob 3 (.int .i64 nn) ∧ At W ob 5 (.int .i64 T2.k) ∧ At W ob 6 (.string T2.nm) ∧ At W ob 7 (.slice Bn T2.ns.length dn) ∧ At W ob 8 (.slice Bp T2.ps.length dp) ∧ At W ob 9 (.bool T2.many) ∧ At W vb 0 (.bool true) ∧ At W vb 1 (.string xt) ∧ At W vb 2 (.int .i64 xn) ∧ At W vb 3 (.int .i64 xk) ∧ At W vb 4 (.string xnm) ∧ At W vb 5 (.slice xA xa xca) ∧ At W vb 6 (.slice xB xb xcb) ∧ At W vb 7 (.bool xm)) (⟨HS.out.c 1 0, HS.out.c 1 3, HS.out.c 1 5, HS.out.c 1 6, HS.out.c 1 7, HS.out.c 1 8, HS.out.c 1 9, HS.out.c 0 0, HS.out.c 0 1, HS.out.c 0 2, HS.out.c 0 3, HS.out.c 0 4, HS.out.c 0 5, HS.out.c 0 6, HS.out.c 0 7⟩) fun _ => ?_
    generalize w3.drew = w4 at *
    refine tQ4 0 1 2 3 ?_; try simp only [sq]
    refine tQ4 4 5 6 7 ?_; try simp only [sq]
    refine tQ4 8 9 10 11 ?_; try simp only [sq]
    refine tQ 12 ?_; try simp only [sq]
    refine pQ4 13 14 15 16 ?_; try simp only [sq]
    refine pQ 17 ?_; try simp only [sq]
    refine pQ 18 ?_; try simp only [sq]
    refine tQ4 19 20 21 22 ?_; try simp only [sq]
    refine tQ2 23 24 ?_; try simp only [sq]
    refine pQ4 25 26 27 28 ?_; try simp only [sq]
    refine pQ 29 ?_; try simp only [sq]
    refine pQ 30 ?_; try simp only [sq]
    refine tQ2 31 32 ?_; try simp only [sq]
    refine fQ ?_ _
    have hq := Lh (HY.out (rfl))
    go_wp2_with fail
    replace HS := Lh HS.out.f1.drop.drop
    go_roundw
    case rel => exact ⟨i + 1, by omega, by go_num, hq.out, HS⟩
    case measure => simp [intOf] <;> omega
   rcases xfn with _ | _
   ·go_upto_region 7 with (fail)
    clear p0
    replace HS := Lh HS.out.drew
    refine dQ (fun W => At W ob 0 (.int .i64 op) ∧ At W ob 3 (.int .i64 nn) ∧ At W ob 5 (.int .i64 T2.k) ∧ At W ob 6 (.string T2.nm) ∧ At W ob 7 (.slice Bn T2.ns.length dn) ∧ At W ob 8 (.slice Bp T2.ps.length dp) ∧ At W ob 9 (.bool T2.many) ∧ At W vb 0 (.bool false) ∧ At W vb 1 (.string xt) ∧ At W vb 2 (.int .i64 xn) ∧ At W vb 3 (.int .i64 xk) ∧ At W vb 4 (.string xnm) ∧ At W vb 5 (.slice xA xa xca) ∧ At W vb 6 (.slice xB xb xcb) ∧ At W vb 7 (.bool xm)) (⟨HS.out.c 1 0, HS.out.c 1 3, HS.out.c 1 5, HS.out.c 1 6, HS.out.c 1 7, HS.out.c 1 8, HS.out.c 1 9, HS.out.c 0 0, HS.out.c 0 1, HS.out.c 0 2, HS.out.c 0 3, HS.out.c 0 4, HS.out.c 0 5, HS.out.c 0 6, HS.out.c 0 7⟩) fun _ => ?_
    generalize w3.drew = w4 at *
    refine tQ4 0 1 2 3 ?_; try simp only [sq]
    refine tQ4 4 5 6 7 ?_; try simp only [sq]
    refine tQ 8 ?_; try simp only [sq]
    refine pQ4 9 10 11 12 ?_; try simp only [sq]
    refine uQ4 13 14 15 16 ?_; try simp only [sq]
    refine uQ 17 ?_; try simp only [sq]
    refine uQ 18 ?_; try simp only [sq]
    refine pQ 19 ?_; try simp only [sq]
    refine tQ2 20 21 ?_; try simp only [sq]
    refine pQ 22 ?_; try simp only [sq]
    refine pQ 23 ?_; try simp only [sq]
    refine pQ 24 ?_; try simp only [sq]
    refine uQ4 25 26 27 28 ?_; try simp only [sq]
    refine uQ 29 ?_; try simp only [sq]
    refine uQ 30 ?_; try simp only [sq]
    refine pQ 31 ?_; try simp only [sq]
    refine tQ 32 ?_; try simp only [sq]
    refine fQ ?_ _
    have hq := Lh (HN.out (rfl))
    go_wp2_with fail
    go_ret
    exact ⟨by rw [hq.out]; rfl, HS.out.mv⟩
   go_upto_region 7 with (fail)
   clear p0
   replace HS := Lh HS.out.drew
   refine dQ (fun W => At W ob 0 (.int .i64 op) ∧ At W ob 3 (.int .i64 nn) ∧ At W ob 5 (.int .i64 T2.k) ∧ At W ob 6 (.string T2.nm) ∧ At W ob 7 (.slice Bn T2.ns.length dn) ∧ At W ob 8 (.slice Bp T2.ps.length dp) ∧ At W ob 9 (.bool T2.many) ∧ At W vb 0 (.bool true) ∧ At W vb 1 (.string xt) ∧ At W vb 2 (.int .i64 xn) ∧ At W vb 3 (.int .i64 xk) ∧ At W vb 4 (.string xnm) ∧ At W vb 5 (.slice xA xa xca) ∧ At W vb 6 (.slice xB xb xcb) ∧ At W vb 7 (.bool xm)) (⟨HS.out.c 1 0, HS.out.c 1 3, HS.out.c 1 5, HS.out.c 1 6, HS.out.c 1 7, HS.out.c 1 8, HS.out.c 1 9, HS.out.c 0 0, HS.out.c 0 1, HS.out.c 0 2, HS.out.c 0 3, HS.out.c 0 4, HS.out.c 0 5, HS.out.c 0 6, HS.out.c 0 7⟩) fun _ => ?_
   generalize w3.drew = w4 at *
   refine tQ4 0 1 2 3 ?_; try simp only [sq]
   refine tQ4 4 5 6 7 ?_; try simp only [sq]
   refine tQ4 8 9 10 11 ?_; try simp only [sq]
   refine tQ4 12 13 14 15 ?_; try simp only [sq]
   refine tQ 16 ?_; try simp only [sq]
   refine rQ 17 (fun K hK => ?_)
   go_simp
   refine (text_any T2 _ _ (HRO.out _ HS.out.mv) (HML.out.keep (HB.out.trans (HS.out.mv.mono HB.out.size)))).mono ?_
   rintro e w5 ⟨rfl, hb⟩
   replace HS := Lh (HS.out.below hb)
   clear hb
   refine hK.out _ _ (⟨HS.out.c 1 0, HS.out.c 1 3, HS.out.c 1 5, HS.out.c 1 6, HS.out.c 1 7, HS.out.c 1 8, HS.out.c 1 9, HS.out.c 0 0, HS.out.c 0 1, HS.out.c 0 2, HS.out.c 0 3, HS.out.c 0 4, HS.out.c 0 5, HS.out.c 0 6, HS.out.c 0 7⟩) (fun _ => ?_)
   clear hK K
   try simp only [sq]
   have HEQ : Hid (eqB T T2 = decide (xt = textB T2)) := txt_eq HMY.out (HO7.out (by simpa using hb7)) HTX.out
   rcases Classical.em (xt = textB T2) with he | he
   ·have hxx : eqB T T2 = true := by rw [HEQ.out]; simpa using he
    rw [← he]
    clear he
    refine tQ4 18 19 20 21 ?_; try simp only [sq]
    refine tQ3 22 23 24 ?_; try simp only [sq]
    refine pQ4 25 26 27 28 ?_; try simp only [sq]
    refine pQ 29 ?_; try simp only [sq]
    refine pQ 30 ?_; try simp only [sq]
    refine tQ2 31 32 ?_; try simp only [sq]
    refine fQ ?_ _
    have hq := Lh (HY.out (by rw [hxx]; rfl))
    go_wp2_with fail
    replace HS := Lh HS.out.f1.drop.drop
    go_roundw
    case rel => exact ⟨i + 1, by omega, by go_num, hq.out, HS⟩
    case measure => simp [intOf] <;> omega
   have hxx : eqB T T2 = false := by rw [HEQ.out]; simpa using he
   have z1 := str_ne he
   generalize textB T2 = ty2 at *
   refine tQ4 18 19 20 21 ?_; try simp only [sq]
   refine pQ 22 ?_; try simp only [sq]
   refine pQ 23 ?_; try simp only [sq]
   refine pQ 24 ?_; try simp only [sq]
   refine uQ4 25 26 27 28 ?_; try simp only [sq]
   refine uQ 29 ?_; try simp only [sq]
   refine uQ 30 ?_; try simp only [sq]
   refine pQ 31 ?_; try simp only [sq]
   refine tQ 32 ?_; try simp only [sq]
   refine fQ ?_ _
   have hq := Lh (HN.out (by rw [hxx]; rfl))
   go_wp2_with fail
   go_ret
   exact ⟨by rw [hq.out]; rfl, HS.out.mv⟩
  have hi : ¬ (i : Int) < (b.code.length : Int) := by omega
  have hq := Lh (HYES.out fun j h => hg j h (by omega))
  clear hg HYES HNO
  go_wp2_with fail
  go_ret
  exact ⟨by rw [hq.out]; rfl, HS.out.mv⟩
def Fit3 (u : Un) (W : World) (L : List Rc) (iv : Value) (wr : World) : Prop := ∃ i : Nat, i ≤ u.bs.length ∧ iv = .int .i64 i ∧ (∀ j (h : j < u.bs.length), j < i → spkB u u.bs[j] = true) ∧ Hid (Hp W wr L)
theorem fits3_any (u : Un) (us : List Value) (W : World) (hu : RepU W u us) (hm : ML W) (hn1 : ∀ g ∈ u.gs, g.nm.size ≤ maxLen) (hn2 : ∀ o ∈ u.os, o.nm.size ≤ maxLen) (h1 : u.bs.length ≤ 40) (h2 : u.gs.length ≤ 40) (h3 : u.os.length ≤ 40) :
 Calls Tryz.prog 5 #[.agg us.toArray] W fun e W' => e = .returned (.bool (fitsB u)) ∧ Below W.heap.size W W' := by
 have HU0 := Lh hu
 obtain ⟨UA, ua, UB, ub', UC, uc, rfl, rA, rB, rC, -, -, -⟩ := hu
 have RA := Lh rA
 have HM := Lh hm
 have HN1 := Lh hn1
 have HN2 := Lh hn2
 have HNO := Lh (fun k (hk : k < u.bs.length) hn => fits_no (u := u) hk hn)
 have HS := Lh (Hp.init W)
 obtain ⟨w0, rfl⟩ : ∃ x, x = W := ⟨_, rfl⟩
 clear rA rB rC hm hn1 hn2
 go_enter Tryz.func5, Tryz.ntmps5
 go_upto_region 1 with (fail)
 replace HS := Lh (HS.out.box 29 #[.slice UA u.bs.length ua, .slice UB u.gs.length ub', .slice UC u.os.length uc])
 generalize w0.alloc _ = w1 at *
 generalize w0.heap.size = ub at *
 go_upto_region 2 with (fail)
 replace HS := Lh (HS.out.box 55 #[.int .i64 0, .int .i32 0, .slice none 0 0, .int .i64 0, .slice none 0 0, .slice none 0 0, .slice none 0 0, .slice none 0 0, .int .i64 0, .int .i64 0, .int .i64 0])
 generalize w1.alloc _ = w2 at *
 generalize w1.heap.size = X at *
 replace HS := Lh ((((HS.out.row0 w0.heap.size 57 1).row0 w0.heap.size 42 1).row0 w0.heap.size 3 1).row0 w0.heap.size 37 9)
 replace HS := Lh HS.out.f4
 have u0 := HS.out.c 5 0
 have u1 := HS.out.c 5 1
 have u2 := HS.out.c 5 2
 have HTK := Lh (take_any u _ (b0 := 0) (v0 := 0) (un := 0) HU0.out HM.out HN1.out HN2.out h1 h2 h3 (by omega) (by omega) (by omega) HS.out)
 go_wp2_with fail
 clear u0 u1 u2
 refine (HTK.out).mono ?_
 clear HS; rintro e w3 hTk
 obtain ⟨bk, rfl, hbk, hb0, hT⟩ := hTk
 have hb := hb0.out.mv
 clear hb0
 have HBK := Lh hbk.symm
 clear HTK hbk
 cases bk
 ·have hq : Hid (fitsB u = false) := by show _ = _; unfold fitsB; rw [HBK.out]; rfl
  clear hT
  go_wp2_with fail
  go_ret
  exact ⟨by rw [hq.out]; rfl, hb⟩
 obtain ⟨A1, A2, A3, A4, d1, d2, d3, d4, mb, cb, T, vr, HS, -, -, HTS⟩ := hT rfl
 obtain ⟨g, rfl, -⟩ := own_at (HS.out.own 4 rfl) (k := 0) Nat.zero_lt_one
 obtain ⟨L, HL, HPL⟩ : ∃ L, Hid (Hp w0 w3 L) ∧ Hid (∀ Y, Hp w0 Y L → (Y.cell? ⟨X, 7, none⟩ = some (.slice (some ⟨g, 0, none⟩) 1 d4) ∧ Y.cell? ⟨g, 0, none⟩ = some (.map (some mb)) ∧ MapIs Tryz.prog 9 Y mb (gM Tv.val T) ∧ Y.cell? ⟨ub, 0, none⟩ = some (.slice UA u.bs.length ua))) := ⟨_, HS, fun Y h => ⟨h.c 0 7, own_cell (h.own 4 rfl) 0 _ rfl, h.at 5 rfl, (show Blk Y ub 29 #[.slice UA u.bs.length ua, .slice UB u.gs.length ub', .slice UC u.os.length uc] from h.ok (bx ub 29 #[.slice UA u.bs.length ua, .slice UB u.gs.length ub', .slice UC u.os.length uc]) (by simp)).cell 0 _ rfl⟩⟩
 clear HS hT hb
 replace HS := HL
 clear HL
 have u0 := (HPL.out w3 HS.out).2.2.2
 go_wp2_with fail
 clear u0
 go_loopw [15] (fun iv wr => Fit3 u w0 L iv wr) (fun iv _ => u.bs.length - (intOf iv).toNat)
 case atStart => exact ⟨0, Nat.zero_le _, rfl, fun j _ h => absurd h (by omega), HS⟩
 case round =>
  clear HS; obtain ⟨i, hik, rfl, hg, HS⟩ := hrel
  obtain ⟨w4, rfl⟩ : ∃ x, x = wr := ⟨_, rfl⟩
  by_cases hlt : i < u.bs.length
  ·obtain ⟨b2, o2, rfl, hbl2⟩ := RA.out.adr (by omega)
   obtain ⟨cs, hrb, hd⟩ := RA.out.row hlt
   have HRB := Lh hrb
   obtain ⟨An, cn, Ap, cp, A', c', rfl, -, -, -, -⟩ := hrb.nine
   have c0' := hd w4 HS.out.mv 0 _ rfl
   have c1' := hd w4 HS.out.mv 1 _ rfl
   have c2' := hd w4 HS.out.mv 2 _ rfl
   have c3' := hd w4 HS.out.mv 3 _ rfl
   have c4' := hd w4 HS.out.mv 4 _ rfl
   have c5' := hd w4 HS.out.mv 5 _ rfl
   have c6' := hd w4 HS.out.mv 6 _ rfl
   have c7' := hd w4 HS.out.mv 7 _ rfl
   have c8' := hd w4 HS.out.mv 8 _ rfl
   rw [Nat.add_zero] at c0'
   have hbo := unit_body HBK.out hlt
   have HBO := Lh hbo
   have HN := Lh (HNO.out i hlt)
   have HY : Hid (spkB u u.bs[i] = true → ∀ j (h : j < u.bs.length), j < i + 1 → spkB u u.bs[j] = true) := fun h0 j h hj => by
    rcases Nat.lt_or_ge j i with h1 | h1
    ·exact hg j h h1
    ·have e : j = i := by omega
     subst e
     exact h0
   have hj : (i : Int) < (u.bs.length : Int) := by omega
   have hj1 : (0 : Int) ≤ (i : Int) := by omega
   have hj6 : (i : Int) < 40 := by omega
   clear hd hg hrb hbo
   generalize hsp : spkB u u.bs[i] = sp at *
   have HSP := Lh hsp
   clear hsp
   generalize u.bs[i] = b at *
   go_upto_region 7 with (fail)
   clear c0' c1' c2' c3' c4' c5' c6' c7' c8'
   replace HS := Lh (HS.out.box 37 #[.string b.nm, .bool b.static, .int .i64 b.ty.k, .string b.ty.nm, .slice An b.ty.ns.length cn, .slice Ap b.ty.ps.length cp, .bool b.ty.many, .int .i64 b.regs, .slice A' b.code.length c'])
   generalize w4.alloc _ = w5 at *
   generalize w4.heap.size = tb at *
   replace HS := Lh HS.out.drew
   refine dQ (fun W => At W tb 0 (.string b.nm) ∧ At W tb 1 (.bool b.static) ∧ At W tb 2 (.int .i64 b.ty.k) ∧ At W tb 3 (.string b.ty.nm) ∧ At W tb 4 (.slice An b.ty.ns.length cn) ∧ At W tb 5 (.slice Ap b.ty.ps.length cp) ∧ At W tb 6 (.bool b.ty.many) ∧ At W tb 7 (.int .i64 b.regs) ∧ At W tb 8 (.slice A' b.code.length c') ∧ At W X 7 (.slice (some ⟨g, 0, none⟩) 1 d4) ∧ At W g 0 (.map (some mb))) (⟨HS.out.c 0 0, HS.out.c 0 1, HS.out.c 0 2, HS.out.c 0 3, HS.out.c 0 4, HS.out.c 0 5, HS.out.c 0 6, HS.out.c 0 7, HS.out.c 0 8, (HPL.out _ HS.out.drop).1, (HPL.out _ HS.out.drop).2.1⟩) fun _ => ?_
   generalize w5.drew = w6 at *
   refine tQ4 0 1 2 3 ?_; try simp only [sq]
   refine tQ3 4 5 6 ?_; try simp only [sq]
   refine rQ 7 (fun K hK => ?_)
   go_simp
   refine (speaks3_any u b _ HBK.out HTS.out HRB.out HBO.out HM.out HS.out.mv (HPL.out _ HS.out.drop).2.2.1).mono ?_
   rintro e w7 ⟨rfl, hb⟩
   replace HS := Lh (HS.out.below hb)
   clear hb
   refine hK.out _ _ (⟨HS.out.c 0 0, HS.out.c 0 1, HS.out.c 0 2, HS.out.c 0 3, HS.out.c 0 4, HS.out.c 0 5, HS.out.c 0 6, HS.out.c 0 7, HS.out.c 0 8, (HPL.out _ HS.out.drop).1, (HPL.out _ HS.out.drop).2.1⟩) (fun _ => ?_)
   clear hK K
   try simp only [sq]
   rw [HSP.out]
   refine tQ 8 ?_; try simp only [sq]
   refine fQ ?_ _
   cases sp
   ·have hq := Lh (HN.out (by first | rfl | trivial))
    go_wp2_with fail
    go_ret
    exact ⟨by rw [hq.out]; rfl, HS.out.mv⟩
   have hq := Lh (HY.out (by first | rfl | trivial))
   go_wp2_with fail
   replace HS := Lh HS.out.drop
   go_roundw
   case rel => exact ⟨i + 1, by omega, by go_num, hq.out, HS⟩
   case measure => simp [intOf] <;> omega
  have hi : ¬ (i : Int) < (u.bs.length : Int) := by omega
  have hq : Hid (fitsB u = true) := fits_yes HBK.out fun j h => hg j h (by omega)
  clear hg HNO
  go_wp2_with fail
  go_ret
  exact ⟨by rw [hq.out]; rfl, HS.out.mv⟩
structure Hv where
 u : Int
 x : Tv
def Hv.val (h : Hv) : Value := .agg #[.int .i64 h.u, .bool h.x.fn, .string h.x.t, .int .i64 h.x.n, .int .i64 h.x.k, .string h.x.nm, .slice h.x.A h.x.a h.x.ca, .slice h.x.B h.x.b h.x.cb, .bool h.x.many]
def zHv : Hv := ⟨0, zTv⟩
theorem zero_hv (w : World) : (zeroValue 110).run Tryz.prog w = .ok zHv.val w := by kernel_rfl
theorem look_hv {w : World} {b : Nat} {ls : List (ByteArray × Hv)} (h : MapIs Tryz.prog 9 w b (gM Hv.val ls)) (s : ByteArray) (hs : s.size ≤ maxLen) :
 (Instr.lookup 108 (.map (some b)) (.string s) true).run Tryz.prog w = .ok (.tuple #[((lkM ls s).getD zHv).val, .bool (lkM ls s).isSome]) w := by
 obtain ⟨kl, hk⟩ := keyOf_str s hs
 have := h.lookup2 str_keyed Tryz.underlying108 (zero_hv w) hk
 rw [gM_at, getD_map] at this
 rw [this]
 simp
def opH (hs : List (ByteArray × Hv)) (s : ByteArray) (st : Bool) (i : Nat) (T : List (ByteArray × Tv)) : List (ByteArray × Hv) := if (!st && (lkM hs s).isNone) = true then hs ++ [(s, ⟨(i : Int), (lkM T s).getD zTv⟩)] else hs
theorem open_any {w W : World} {L : List Rc} {hm hv iv xv X g n c mb i : Nat} {hs : List (ByteArray × Hv)} {T : List (ByteArray × Tv)} (s : ByteArray) (st : Bool) (h : Hp w W (mq Tryz.prog 9 hm (gM Hv.val hs) :: L)) (hs0 : s.size ≤ maxLen) (hin : i < n) (hn6 : n ≤ 100)
 (hF : ∀ Y, Hp w Y L → (Y.cell? ⟨hv, 0, none⟩ = some (.map (some hm)) ∧ Y.cell? ⟨iv, 0, none⟩ = some (.int .i64 (i : Int)) ∧ Y.cell? ⟨xv, 0, none⟩ = some (.pointer (some ⟨X, 0, none⟩)) ∧ Y.cell? ⟨X, 7, none⟩ = some (.slice (some ⟨g, 0, none⟩) n c) ∧ Y.cell? ⟨g, i, none⟩ = some (.map (some mb)) ∧ MapIs Tryz.prog 9 Y mb (gM Tv.val T))) :
 Calls Tryz.prog 58 #[.string s, .bool st, .pointer (some ⟨hv, 0, none⟩), .pointer (some ⟨iv, 0, none⟩), .pointer (some ⟨xv, 0, none⟩)] W fun e W' => e = .returned (.bool (st || (lkM hs s).isNone)) ∧ Hid (Hp w W' (mq Tryz.prog 9 hm (gM Hv.val (opH hs s st i T)) :: L)) := by
 have HF := Lh hF
 have HSZ := Lh hs0
 obtain ⟨kl, hk⟩ := keyOf_str s hs0
 have HK := Lh hk
 have HS := Lh h
 obtain ⟨r, hr⟩ : ∃ r, lkM hs s = r := ⟨_, rfl⟩
 obtain ⟨is, hr2⟩ : ∃ is, r.isSome = is := ⟨_, rfl⟩
 have hi : r.isNone = !is := by subst hr2; cases r <;> rfl
 obtain ⟨q, hq⟩ : ∃ q, (lkM T s).getD zTv = q := ⟨_, rfl⟩
 have HQ := Lh hq
 obtain ⟨xfn, xt, xn, xk, xnm, xA, xa, xca, xB, xb, xcb, xmany⟩ := q
 have HOP : Hid (opH hs s st i T = if (!st && !is) = true then hs ++ [(s, ⟨(i : Int), ⟨xfn, xt, xn, xk, xnm, xA, xa, xca, xB, xb, xcb, xmany⟩⟩)] else hs) := by show _ = _; unfold opH; rw [hr, hi, hq]
 have hl0 := look_hv HS.out.one s hs0
 rw [hr, hr2] at hl0
 generalize r.getD zHv = p at *
 obtain ⟨pu, ⟨yfn, yt, yn, yk, ynm, yA, ya, yca, yB, yb, ycb, ymany⟩⟩ := p
 simp only [Hv.val] at hl0
 have HL0 := Lh hl0
 have hi1 : (i : Int) < (n : Int) := by omega
 have hi0 : (0 : Int) ≤ (i : Int) := by omega
 rw [hr, hi, HOP.out]
 clear h hF hs0 hk hr hr2 hi hq HOP hl0
 obtain ⟨w0, rfl⟩ : ∃ x, x = W := ⟨_, rfl⟩
 go_enter Tryz.func58, Tryz.ntmps58
 go_upto_region 1 with (fail)
 obtain ⟨q0, -, -, -, -, -⟩ := HF.out _ HS.out.drop
 have hl := HL0.out
 go_upto_region 2 with (fail)
 clear hl q0 HL0
 replace HS := Lh (HS.out.box 110 #[.int .i64 pu, .bool yfn, .string yt, .int .i64 yn, .int .i64 yk, .string ynm, .slice yA ya yca, .slice yB yb ycb, .bool ymany])
 generalize w0.alloc _ = w1 at *
 generalize w0.heap.size = vb at *
 replace HS := Lh HS.out.drop
 cases st
 rotate_left
 ·go_wp2_with fail
  go_ret
  exact ⟨by simp, by simpa using HS⟩
 cases is
 rotate_left
 ·go_wp2_with fail
  go_ret
  exact ⟨by simp, by simpa using HS⟩
 go_upto_region 3 with (fail)
 have HSS : Hid (∀ Y, Hp w Y L → (fun Y => Y.cell? ⟨hv, 0, none⟩ = some (.map (some hm)) ∧ Y.cell? ⟨iv, 0, none⟩ = some (.int .i64 (i : Int)) ∧ Y.cell? ⟨xv, 0, none⟩ = some (.pointer (some ⟨X, 0, none⟩)) ∧ Y.cell? ⟨X, 7, none⟩ = some (.slice (some ⟨g, 0, none⟩) n c) ∧ Y.cell? ⟨g, i, none⟩ = some (.map (some mb)) ∧ (Instr.lookup 57 (.map (some mb)) (.string s) false).run Tryz.prog Y = .ok (.agg #[.bool xfn, .string xt, .int .i64 xn, .int .i64 xk, .string xnm, .slice xA xa xca, .slice xB xb xcb, .bool xmany]) Y) Y) := fun Y h => by
  obtain ⟨k0, k1, k2, k3, k4, k5⟩ := HF.out Y h
  have hl := look_tv1 k5 s HSZ.out
  rw [HQ.out] at hl
  exact ⟨k0, k1, k2, k3, k4, hl⟩
 replace HS := Lh HS.out.drew
 refine dQ (fun Y => Y.cell? ⟨hv, 0, none⟩ = some (.map (some hm)) ∧ Y.cell? ⟨iv, 0, none⟩ = some (.int .i64 (i : Int)) ∧ Y.cell? ⟨xv, 0, none⟩ = some (.pointer (some ⟨X, 0, none⟩)) ∧ Y.cell? ⟨X, 7, none⟩ = some (.slice (some ⟨g, 0, none⟩) n c) ∧ Y.cell? ⟨g, i, none⟩ = some (.map (some mb)) ∧ (Instr.lookup 57 (.map (some mb)) (.string s) false).run Tryz.prog Y = .ok (.agg #[.bool xfn, .string xt, .int .i64 xn, .int .i64 xk, .string xnm, .slice xA xa xca, .slice xB xb xcb, .bool xmany]) Y) (HSS.out _ HS.out.drop) fun _ => ?_
 generalize w1.drew = w2 at *
 refine tQ4 0 1 2 3 ?_; try simp only [sq]
 refine tQ4 4 5 6 7 ?_; try simp only [sq]
 refine tQ4 8 9 10 11 ?_; try simp only [sq]
 refine tQ 12 ?_; try simp only [sq]
 refine rQ 13 (fun K hK => ?_)
 rw [if_pos (by rfl)]
 refine oper_mput HS.out _ _ _ 108 rfl str_keyed Tryz.underlying108 (by rfl) (.string s) (.agg #[.int .i64 (i : Int), .bool xfn, .string xt, .int .i64 xn, .int .i64 xk, .string xnm, .slice xA xa xca, .slice xB xb xcb, .bool xmany]) kl (by rfl) (by rfl) HK.out ?_
 clear HS; intro w3 HS
 refine hK.out _ _ (HSS.out _ HS.out.drop) (fun _ => ?_)
 clear hK K
 try simp only [sq]
 refine fQ ?_ _
 go_wp2_with fail
 go_ret
 exact ⟨by simp, by rw [gM_snoc]; exact HS⟩
noncomputable def mpB (m : Nat × List (ByteArray × Tv)) : Rc := mq Tryz.prog 9 m.1 (gM Tv.val m.2)
def lnk (b v k : Nat) (A1 A2 A3 A4 : Option Addr) (d1 d2 d3 d4 : Nat) (start : Int) : Array Value := #[.int .i64 0, .int .i32 0, .slice none 0 0, .int .i64 0, .slice A1 b d1, .slice A2 b d2, .slice A3 v d3, .slice A4 k d4, .int .i64 0, .int .i64 0, .int .i64 start]
noncomputable def mtP (l : List Un) (w : World) (X k : Nat) (A1 A2 A3 A4 : Option Addr) (d1 d2 d3 d4 : Nat) (cb : List (List Value)) (ms : List (Nat × List (ByteArray × Tv))) (vr : List Vr) (base : List Rc) : List Rc :=
 bx X 55 (lnk (allB l k).length (allG l k).length k A1 A2 A3 A4 d1 d2 d3 d4 0) :: ow w.heap.size 37 9 (.slice A1 (allB l k).length d1) (allB l k).length cb.flatten :: ow w.heap.size 3 1 (.slice A2 (allB l k).length d2) (allB l k).length (uns l k) :: ow w.heap.size 42 1 (.slice A3 (allG l k).length d3) (allG l k).length (vr.map Vr.val) :: ow w.heap.size 57 1 (.slice A4 k d4) k (ms.map fun m => .map (some m.1)) :: (ms.map mpB ++ (vr.map varB ++ base))
structure MtOk (l : List Un) (w : World) (k : Nat) (cb : List (List Value)) (ms : List (Nat × List (ByteArray × Tv))) (vr : List Vr) : Prop where
 bs : All2 (RepB w) (allB l k) cb
 gs : All2 VrOk (allG l k) vr
 ln : ms.length = k
 nm : ∀ j m, ms[j]? = some m → All2 (TvOk w) (ents (unAt l j) (allB l j).length (allG l j).length) m.2
def MtSt (l : List Un) (w : World) (X : Nat) (base : List Rc) (k : Nat) (wr : World) : Prop :=
 ∃ A1 A2 A3 A4 d1 d2 d3 d4 cb ms vr, Hid (Hp w wr (mtP l w X k A1 A2 A3 A4 d1 d2 d3 d4 cb ms vr base)) ∧ MtOk l w k cb ms vr
theorem tuck_all {a : Rc} {V' M V B : List Rc} : (a :: (V' ++ (M ++ (V ++ B)))).Perm ((M ++ [a]) ++ ((V ++ V') ++ B)) := by
 rw [List.append_assoc, List.append_assoc, List.singleton_append]
 refine List.Perm.trans (.cons a (show (V' ++ (M ++ (V ++ B))).Perm (M ++ (V ++ (V' ++ B))) from ?_)) List.perm_middle.symm
 have h1 : (V' ++ (M ++ V)).Perm ((M ++ V) ++ V') := List.perm_append_comm
 have h2 := h1.append_right B
 simpa [List.append_assoc] using h2
theorem MtSt.next {l : List Un} {w W : World} {X k : Nat} {base : List Rc} (hk : k < l.length) {A1 A2 A3 A4 : Option Addr} {d1 d2 d3 d4 mb : Nat} {cb cb' : List (List Value)} {ms : List (Nat × List (ByteArray × Tv))} {T : List (ByteArray × Tv)} {vr vr' : List Vr} (ok : MtOk l w k cb ms vr)
 (h : Hp w W (bx X 55 #[.int .i64 0, .int .i32 0, .slice none 0 0, .int .i64 0, .slice A1 ((allB l k).length + l[k].bs.length) d1, .slice A2 ((allB l k).length + l[k].bs.length) d2, .slice A3 ((allG l k).length + l[k].gs.length) d3, .slice A4 (k + 1) d4, .int .i64 0, .int .i64 0, .int .i64 0] :: ow w.heap.size 37 9 (.slice A1 ((allB l k).length + l[k].bs.length) d1) ((allB l k).length + l[k].bs.length) (cb.flatten ++ cb'.flatten) :: ow w.heap.size 3 1 (.slice A2 ((allB l k).length + l[k].bs.length) d2) ((allB l k).length + l[k].bs.length) (uns l k ++ List.replicate l[k].bs.length (Value.int IntKind.i64 (k : Int))) :: ow w.heap.size 42 1 (.slice A3 ((allG l k).length + l[k].gs.length) d3) ((allG l k).length + l[k].gs.length) (vr.map Vr.val ++ vr'.map Vr.val) :: ow w.heap.size 57 1 (.slice A4 (k + 1) d4) (k + 1) ((ms.map fun m => Value.map (some m.1)) ++ [.map (some mb)]) :: mq Tryz.prog 9 mb (gM Tv.val T) :: (vr'.map varB ++ (ms.map mpB ++ (vr.map varB ++ base)))))
 (h1 : All2 (RepB w) l[k].bs cb') (h2 : All2 VrOk l[k].gs vr') (h3 : All2 (TvOk w) (ents l[k] (allB l k).length (allG l k).length) T) : MtSt l w X base (k + 1) W := by
 refine ⟨A1, A2, A3, A4, d1, d2, d3, d4, cb ++ cb', ms ++ [(mb, T)], vr ++ vr', ?_, ?_, ?_, ?_, fun j m hj => ?_⟩
 ·show Hp _ _ _
  unfold mtP lnk
  rw [allB_succ hk, allG_succ hk, uns_succ hk, List.length_append, List.length_append, List.flatten_append, List.map_append, List.map_append, List.map_append, List.map_append]
  exact h.perm (.cons _ (.cons _ (.cons _ (.cons _ (.cons _ tuck_all)))))
 ·rw [allB_succ hk]; exact ok.bs.append h1
 ·rw [allG_succ hk]; exact ok.gs.append h2
 ·rw [List.length_append, ok.ln]; rfl
 ·rcases Nat.lt_or_ge j ms.length with hlt | hge
  ·rw [List.getElem?_append_left hlt] at hj
   exact ok.nm j m hj
  ·rw [List.getElem?_append_right hge] at hj
   have hj0 : j - ms.length = 0 := by
    rcases Nat.eq_zero_or_pos (j - ms.length) with e | e
    ·exact e
    ·rw [List.getElem?_eq_none (by simp; omega)] at hj; cases hj
   rw [hj0] at hj
   injection hj with hj
   subst hj
   have e : j = k := by have := ok.ln; omega
   subst e
   rw [unAt_at hk]
   exact h3
structure Px where
 X : Nat
 A1 : Option Addr
 A2 : Option Addr
 A3 : Option Addr
 A4 : Option Addr
 d1 : Nat
 d2 : Nat
 d3 : Nat
 d4 : Nat
 cb : List (List Value)
 ms : List (Nat × List (ByteArray × Tv))
 vr : List Vr
 start : Int
 F : Nat
def vrW (vr : List Vr) (ws : List (Int × Int)) : List Vr := List.zipWith (fun x q => { x with lo := q.1, hi := q.2 }) vr ws
noncomputable def prC (l : List Un) (B : Nat) (x : Px) (vs : List (List (Int × Int))) (base : List Rc) : List Rc :=
 ow B 37 9 (.slice x.A1 (allB l l.length).length x.d1) (allB l l.length).length x.cb.flatten :: ow B 3 1 (.slice x.A2 (allB l l.length).length x.d2) (allB l l.length).length (uns l l.length) ::
 ow B 42 1 (.slice x.A3 (allG l l.length).length x.d3) (allG l l.length).length (x.vr.map Vr.val) :: ow B 57 1 (.slice x.A4 l.length x.d4) l.length (x.ms.map fun m => .map (some m.1)) :: (x.ms.map mpB ++ ((vrW x.vr vs.flatten).map varB ++ base))
noncomputable def prP (l : List Un) (B : Nat) (x : Px) (vs : List (List (Int × Int))) (O : Option Addr) (od : Nat) (out : List Int) (e v : Int) (t : Nat) (deep : Int) (base : List Rc) : List Rc :=
 bx x.X 55 #[.int .i64 e, .int .i32 v, .slice O out.length od, .int .i64 (t : Int), .slice x.A1 (allB l l.length).length x.d1, .slice x.A2 (allB l l.length).length x.d2, .slice x.A3 (allG l l.length).length x.d3, .slice x.A4 l.length x.d4, .int .i64 (x.F : Int), .int .i64 deep, .int .i64 x.start] ::
 ow B 21 1 (.slice O out.length od) out.length (out.map i32) :: prC l B x vs base
structure PxOk (l : List Un) (w : World) (x : Px) : Prop where
 bs : All2 (RepB w) (allB l l.length) x.cb
 vl : x.vr.length = (allG l l.length).length
 vn : ∀ j (h : j < x.vr.length) (h' : j < (allG l l.length).length), (x.vr[j]).n = (sizeT (allG l l.length)[j].ty).1
 ml : x.ms.length = l.length
 nm : ∀ u m, x.ms[u]? = some m → ∀ s, (tyF (unAt l u) s).2.2 = true → ∃ tv, lkM m.2 s = some tv ∧ tv.n = if (tyF (unAt l u) s).2.1 then (nmb l (fnd l u s) : Int) else (((allG l (fnd l u s).1).length + (fnd l u s).2 : Nat) : Int)
theorem cb_at {cb : List (List Value)} (hl : ∀ c ∈ cb, c.length = 9) {k j : Nat} (hk : k < cb.length) (hj : j < 9) : cb.flatten[k * 9 + j]? = cb[k][j]? := by
 induction cb generalizing k with
 | nil => simp at hk
 | cons c cb ih =>
  have hc : c.length = 9 := hl c (by simp)
  cases k with
  | zero =>
   rw [List.flatten_cons, List.getElem?_append_left (by omega)]
   simp
  | succ k =>
   rw [List.flatten_cons, List.getElem?_append_right (by omega), hc, show (k + 1) * 9 + j - 9 = k * 9 + j by omega, ih (fun c h => hl c (by simp [h])) (by simpa using hk)]
   rfl
theorem uns_at {l : List Un} {u i : Nat} (hu : u < l.length) (hi : i < l[u].bs.length) : ∀ {k : Nat}, u < k → k ≤ l.length → (uns l k)[(allB l u).length + i]? = some (.int .i64 (u : Int)) ∧ (uns l k).length = (allB l k).length := by
 intro k
 induction k with
 | zero => intro h; omega
 | succ k ih =>
  intro h1 h2
  have hk : k < l.length := h2
  rw [uns_succ hk, allB_succ hk, List.length_append, List.length_append, List.length_replicate]
  have hlen : ∀ j, j ≤ l.length → (uns l j).length = (allB l j).length := by
   intro j
   induction j with
   | zero => intro _; rfl
   | succ j ihj => intro hj; rw [uns_succ hj, allB_succ hj, List.length_append, List.length_append, List.length_replicate, ihj (by omega)]
  refine ⟨?_, by rw [hlen k (by omega)]⟩
  rcases Nat.lt_or_ge u k with h | h
  ·obtain ⟨h3, h4⟩ := ih h (by omega)
   rw [List.getElem?_append_left]
   ·exact h3
   ·obtain ⟨hh, -⟩ := List.getElem?_eq_some_iff.1 h3; exact hh
  ·have e : u = k := by omega
   subst e
   rw [List.getElem?_append_right (by rw [hlen u (by omega)]; omega), hlen u (by omega), Nat.add_sub_cancel_left, List.getElem?_replicate, if_pos hi]
section
variable {l : List Un} {w : World} {x : Px} (PO : PxOk l w x)
include PO
theorem px_body {u i : Nat} (hu : u < l.length) (hi : i < (unAt l u).bs.length) : ∃ cs, RepB w (bod l u i) cs ∧ cs.length = 9 ∧ ∀ (Y : World) B a1, x.A1 = some ⟨a1, 0, none⟩ → Y.ownsRow B 37 9 (.slice x.A1 (allB l l.length).length x.d1) (allB l l.length).length x.cb.flatten → ∀ j c, cs[j]? = some c → Y.cell? ⟨a1, nmb l (u, i) * 9 + j, none⟩ = some c := by
 have hi' : i < l[u].bs.length := by rwa [unAt_at hu] at hi
 obtain ⟨hk, hB⟩ := allB_at hu hi' (k := l.length) hu
 have hk2 : (allB l u).length + i < x.cb.length := by rw [← PO.bs.len]; exact hk
 have hR := PO.bs.get hk hk2
 rw [hB, ← bod_at hu hi'] at hR
 have h9 : ∀ c ∈ x.cb, c.length = 9 := fun c hc => by
  obtain ⟨j, hj, rfl⟩ := List.getElem_of_mem hc
  have := PO.bs.get (by rw [PO.bs.len]; exact hj) hj
  obtain ⟨An, cn, Ap, cp, A', c', e, -⟩ := this.nine
  rw [e]; rfl
 refine ⟨_, hR, h9 _ (List.getElem_mem _), fun Y B a1 ha hY j c hj => ?_⟩
 rw [ha] at hY
 have hj9 : j < 9 := by
  have := (List.getElem?_eq_some_iff.1 hj).1
  rw [h9 _ (List.getElem_mem _)] at this
  exact this
 exact own_at5 hY _ _ (by show x.cb.flatten[((allB l u).length + i) * 9 + j]? = some c; rw [cb_at h9 hk2 hj9]; exact hj)
omit PO in
theorem px_unit {u i : Nat} (hu : u < l.length) (hi : i < (unAt l u).bs.length) {Y : World} {B a2 : Nat} (ha : x.A2 = some ⟨a2, 0, none⟩) (hY : Y.ownsRow B 3 1 (.slice x.A2 (allB l l.length).length x.d2) (allB l l.length).length (uns l l.length)) : Y.cell? ⟨a2, nmb l (u, i), none⟩ = some (.int .i64 (u : Int)) := by
 have hi' : i < l[u].bs.length := by rwa [unAt_at hu] at hi
 rw [ha] at hY
 exact own_at5 hY _ _ (uns_at hu hi' hu (Nat.le_refl _)).1
theorem px_map {u : Nat} (hu : u < l.length) : ∃ m, x.ms[u]? = some m ∧ ∀ (Y : World) B a4, x.A4 = some ⟨a4, 0, none⟩ → Y.ownsRow B 57 1 (.slice x.A4 l.length x.d4) l.length (x.ms.map fun m => .map (some m.1)) → Y.cell? ⟨a4, u, none⟩ = some (.map (some m.1)) := by
 have h : u < x.ms.length := by rw [PO.ml]; exact hu
 refine ⟨x.ms[u], List.getElem?_eq_getElem h, fun Y B a4 ha hY => ?_⟩
 rw [ha] at hY
 exact own_at5 hY _ _ (by rw [List.getElem?_map, List.getElem?_eq_getElem h]; rfl)
end
theorem flatV_at : ∀ {l : List Un} {vs : List (List (Int × Int))}, vs.length = l.length → (∀ u, u < l.length → (vs.getD u []).length = (unAt l u).gs.length) → ∀ {v i : Nat}, v < l.length → i < (vs.getD v []).length → vs.flatten[(allG l v).length + i]? = some ((vs.getD v []).getD i (0, 0))
 | [], _, _, _, v, _, h, _ => by simp at h
 | a :: l, [], h, _, _, _, _, _ => by simp at h
 | a :: l, r :: vs, h, he, 0, i, _, hi => by
  simp only [List.getD_cons_zero] at hi ⊢
  rw [List.flatten_cons, show (allG (a :: l) 0).length + i = i by simp [allG], List.getElem?_append_left hi, List.getElem?_eq_getElem hi]
  simp [List.getD_eq_getElem?_getD, hi]
 | a :: l, r :: vs, h, he, v + 1, i, hv, hi => by
  simp only [List.getD_cons_succ] at hi ⊢
  have h0 := he 0 (by simp)
  have h0' : r.length = a.gs.length := h0
  rw [List.flatten_cons, show (allG (a :: l) (v + 1)).length + i = r.length + ((allG l v).length + i) by simp [allG, h0']; omega, List.getElem?_append_right (by omega), Nat.add_sub_cancel_left]
  exact flatV_at (by simpa using h) (fun u hu => he (u + 1) (by simpa using hu)) (by simpa using hv) hi
theorem flatV_set : ∀ {l : List Un} {vs : List (List (Int × Int))}, vs.length = l.length → (∀ u, u < l.length → (vs.getD u []).length = (unAt l u).gs.length) → ∀ {v i : Nat} {q : Int × Int}, v < l.length → i < (vs.getD v []).length → (vs.set v ((vs.getD v []).set i q)).flatten = vs.flatten.set ((allG l v).length + i) q
 | [], _, _, _, v, _, _, h, _ => by simp at h
 | a :: l, [], h, _, _, _, _, _, _ => by simp at h
 | a :: l, r :: vs, h, he, 0, i, q, _, hi => by
  simp only [List.getD_cons_zero] at hi ⊢
  rw [List.set_cons_zero, List.flatten_cons, List.flatten_cons, show (allG (a :: l) 0).length + i = i by simp [allG], List.set_append_left _ _ hi]
 | a :: l, r :: vs, h, he, v + 1, i, q, hv, hi => by
  simp only [List.getD_cons_succ] at hi ⊢
  have h0' : r.length = a.gs.length := he 0 (by simp)
  rw [List.set_cons_succ, List.flatten_cons, List.flatten_cons, show (allG (a :: l) (v + 1)).length + i = r.length + ((allG l v).length + i) by simp [allG, h0']; omega, List.set_append_right _ _ (by omega), Nat.add_sub_cancel_left]
  rw [flatV_set (by simpa using h) (fun u hu => he (u + 1) (by simpa using hu)) (by simpa using hv) hi]
theorem flatV_len : ∀ {l : List Un} {vs : List (List (Int × Int))}, vs.length = l.length → (∀ u, u < l.length → (vs.getD u []).length = (unAt l u).gs.length) → vs.flatten.length = (allG l l.length).length
 | [], [], _, _ => rfl
 | [], _ :: _, h, _ => by simp at h
 | a :: l, [], h, _ => by simp at h
 | a :: l, r :: vs, h, he => by
  have h0' : r.length = a.gs.length := he 0 (by simp)
  have := flatV_len (l := l) (vs := vs) (by simpa using h) (fun u hu => he (u + 1) (by simpa using hu))
  simp only [allG, List.length_cons, List.take_succ_cons, List.flatMap_cons, List.length_append, List.flatten_cons] at this ⊢
  omega
theorem vrW_pull : ∀ {vr : List Vr} {ws : List (Int × Int)} {j : Nat} (h : j < vr.length), j < ws.length → ∃ R : List Rc, ∀ q, ((vrW vr (ws.set j q)).map varB).Perm (varB { vr[j] with lo := q.1, hi := q.2 } :: R)
 | [], _, _, h, _ => by simp at h
 | _ :: _, [], _, _, h => by simp at h
 | y :: vr, q0 :: ws, 0, _, _ => ⟨(vrW vr ws).map varB, fun q => .refl _⟩
 | y :: vr, q0 :: ws, j + 1, h, h' => by
  obtain ⟨R, hR⟩ := vrW_pull (vr := vr) (ws := ws) (j := j) (by simpa using h) (by simpa using h')
  refine ⟨varB { y with lo := q0.1, hi := q0.2 } :: R, fun q => ?_⟩
  exact ((hR q).cons _).trans (.swap _ _ _)
theorem catch_idle (p : Addr) (w : World) :
 CallsD Tryz.prog 60 #[.pointer (some p)] .returning w fun e u' w' => e = .returned (.tuple #[]) ∧ u' = .returning ∧ w' = w := by
 refine callsD_of_wpS Tryz.func60 rfl fun c₀ cs hu => ?_
 apply wpS_seq
 apply wpS_region
 simp [wpOpsS, go_sem, recoverD, hu, Tryz.ntmps60, Exit.thenS, Array.replicate]
 refine wpS_of_wp ?_
 go_wp2
 cases c₀
 simp_all [bodyPostS, results, Tryz.results60]
theorem ta_ended (k : Int) (w : World) : (Instr.typeAssert (.iface 115 (.agg #[.int .i64 k])) 20 115 true).run Tryz.prog w = .ok (.tuple #[.agg #[.int .i64 k], .bool true]) w := by kernel_rfl
theorem catch_ended {w W : World} {L : List Rc} {X xb : Nat} {a0 a1 a2 a3 a4 a5 a6 a7 a8 a9 a10 : Value} (k : Int) (h : Hp w W (bx X 55 #[a0, a1, a2, a3, a4, a5, a6, a7, a8, a9, a10] :: bx xb 50 #[.pointer (some ⟨X, 0, none⟩)] :: L)) :
 CallsD Tryz.prog 60 #[.pointer (some ⟨xb, 0, none⟩)] (.panicking [{ v := .iface 115 (.agg #[.int .i64 k]), recovered := false }]) W fun e u' W' =>
  e = .returned (.tuple #[]) ∧ u' = .panicking [{ v := .iface 115 (.agg #[.int .i64 k]), recovered := true }] ∧ Hp w W' (bx X 55 #[.int .i64 k, a1, a2, a3, a4, a5, a6, a7, a8, a9, a10] :: bx xb 50 #[.pointer (some ⟨X, 0, none⟩)] :: L) := by
 have x0 := h.c 1 0
 have f0 := h.one.free 0
 have g0 := h.one.cell 0 _ rfl
 have hl0 := h.one.lt
 have hl1 := (h.blk 1 rfl).lt
 have hta := ta_ended k
 have h2 := ((h.put1 0 (.int .i64 k)).box 115 #[.int .i64 k]).drop
 simp only [sq] at h2
 have HS := Lh h2
 clear h h2
 refine callsD_of_wpS Tryz.func60 rfl fun c₀ cs hu => ?_
 apply wpS_seq
 apply wpS_region
 simp [wpOpsS, go_sem, recoverD, hu, Tryz.ntmps60, Exit.thenS, Array.replicate]
 refine wpS_of_wp ?_
 go_wp2
 exact ⟨rfl, _, by cases c₀; rfl, _, results_none rfl _ _ _, rfl, rfl, HS.out⟩
end Go.Proofs.YthihaeobkoiljaaGreat
