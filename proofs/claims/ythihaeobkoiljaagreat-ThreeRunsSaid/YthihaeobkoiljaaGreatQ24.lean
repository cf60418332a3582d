/- Lemmas for the law. -/
import Derived.Test.YthihaeobkoiljaaGreatQ23
set_option linter.unusedVariables false
set_option linter.unusedSimpArgs false
set_option maxRecDepth 100000
set_option maxHeartbeats 40000000
namespace Go.Proofs.YthihaeobkoiljaaGreat
open Go.RowKit
theorem results_meet {fn : Func} {s s' : Nat} (h : fn.results = #[.tmp s', .cell s 40]) {w : World} {b : Nat} {a0 a1 a2 v : Value} {tmps : Array Value} (k : Blk w b 40 #[a0, a1, a2]) (h4 : tmps.getD s undef = .pointer (some ⟨b, 0, none⟩)) (h5 : tmps.getD s' undef = v) :
 (results fn tmps).run Tryz.prog w = .ok (.tuple #[v, .agg #[a0, a1, a2]]) w := by
 have c0 := k.cell 0 _ rfl
 have c1 := k.cell 1 _ rfl
 have c2 := k.cell 2 _ rfl
 simp at c0 c1 c2
 simp only [Array.getD_eq_getD_getElem?] at h4 h5
 simp [results, h, go_sem, h4, h5, c0, c1, c2]
def MtNo (R : Trb) (w : World) (e : Ending) (w' : World) : Prop := e = .returned (.tuple #[.pointer none, .agg #[.int .i64 R.1, .int .i64 R.2.1, .int .i64 R.2.2]]) ∧ R.2.1 ≠ 0 ∧ Below w.heap.size w w'
theorem mt_end {R : Trb} {w W : World} {r : Nat} {a b c : Int} (h : Hp w W [bx r 40 #[.int .i64 0, .int .i64 0, .int .i64 0]]) (hR : R = (a, b, c)) (h0 : b ≠ 0) :
 Blk (((W.setCell ⟨r, 0, none⟩ (.int .i64 a)).setCell ⟨r, 1, none⟩ (.int .i64 b)).setCell ⟨r, 2, none⟩ (.int .i64 c)) r 40 #[.int .i64 a, .int .i64 b, .int .i64 c] ∧ MtNo R w (.returned (.tuple #[.pointer none, .agg #[.int .i64 a, .int .i64 b, .int .i64 c]])) (((W.setCell ⟨r, 0, none⟩ (.int .i64 a)).setCell ⟨r, 1, none⟩ (.int .i64 b)).setCell ⟨r, 2, none⟩ (.int .i64 c)) := by
 have h1 := ((h.put1 0 (.int .i64 a)).put1 1 (.int .i64 b)).put1 2 (.int .i64 c)
 subst hR
 have h2 := (show Blk _ r 40 _ from h1.one)
 exact ⟨by simpa using h2, rfl, h0, h1.mv⟩
theorem unit_omay {u : Un} (h : unitB u = true) {i : Nat} (hi : i < u.os.length) : may u.os[i].ty = true := by
 unfold unitB at h
 simp only [Bool.and_eq_true] at h
 have h1 := List.all_eq_true.1 h.1.1.2 _ (List.getElem_mem hi)
 unfold ouB at h1
 split at h1
 ·rw [Bool.and_eq_true] at h1; exact h1.2
 ·unfold cntB at h1; rw [Bool.and_eq_true] at h1; exact h1.2
noncomputable def lkP (l : List Un) (w : World) (X : Nat) (A1 A2 A3 A4 : Option Addr) (d1 d2 d3 d4 : Nat) (cb : List (List Value)) (ms : List (Nat × List (ByteArray × Tv))) (vr : List Vr) (start : Int) (base : List Rc) : List Rc :=
 bx X 55 (lnk (allB l l.length).length (allG l l.length).length l.length A1 A2 A3 A4 d1 d2 d3 d4 start) :: ow w.heap.size 37 9 (.slice A1 (allB l l.length).length d1) (allB l l.length).length cb.flatten :: ow w.heap.size 3 1 (.slice A2 (allB l l.length).length d2) (allB l l.length).length (uns l l.length) :: ow w.heap.size 42 1 (.slice A3 (allG l l.length).length d3) (allG l l.length).length (vr.map Vr.val) :: ow w.heap.size 57 1 (.slice A4 l.length d4) l.length (ms.map fun m => .map (some m.1)) :: (ms.map mpB ++ (vr.map varB ++ base))
def Linked (l : List Un) (w : World) (X : Nat) (W : World) : Prop :=
 ∃ A1 A2 A3 A4 d1 d2 d3 d4 cb ms ms' vr, Hid (Hp w W (lkP l w X A1 A2 A3 A4 d1 d2 d3 d4 cb ms' vr (((allB l (homR l ⟨#[109, 97, 105, 110]⟩).1.toNat).length + (homR l ⟨#[109, 97, 105, 110]⟩).2.2 : Nat) : Int) [])) ∧ MtOk l w l.length cb ms vr ∧ MsRel l (hsU l (ms.map (·.2)) l.length) ms l.length 0 ms'
def MtOut (l : List Un) (w : World) (e : Ending) (w' : World) : Prop := MtNo (checkP l) w e w' ∨ (checkP l = (0, 0, 0) ∧ ∃ X, e = .returned (.tuple #[.pointer (some ⟨X, 0, none⟩), .agg #[.int .i64 0, .int .i64 0, .int .i64 0]]) ∧ Linked l w X w')
theorem r_front {a b : Rc} {P M V : List Rc} : (P ++ (M ++ (V ++ [a, b]))).Perm (b :: (P ++ (M ++ (V ++ [a])))) := by
 have : P ++ (M ++ (V ++ [a, b])) = (P ++ (M ++ (V ++ [a]))) ++ [b] := by simp
 rw [this]
 exact List.perm_append_singleton _ _
theorem main_num {l : List Un} {v : Nat} (hv : v < l.length) {s : ByteArray} (hH : homR l s = ((v : Int), giv l[v] s)) (hk : (giv l[v] s).1 = 1) : numN l[v] (allB l v).length (allG l v).length s = (((allB l (homR l s).1.toNat).length + (homR l s).2.2 : Nat) : Int) := by
 rw [hH]
 unfold numN
 rw [if_pos hk]
 simp
theorem meet_any (l : List Un) (A : Option Addr) (c : Nat) (w : World) (hr : RepS 3 RepU w A l) (hm : ML w) (hl : l.length ≤ 8) (hh : ∀ u (h : u < l.length), l[u].bs.length ≤ 40 ∧ l[u].gs.length ≤ 40 ∧ l[u].os.length ≤ 40) (hn1 : ∀ u (h : u < l.length), (∀ g ∈ l[u].gs, g.nm.size ≤ maxLen) ∧ ∀ o ∈ l[u].os, o.nm.size ≤ maxLen) :
 Calls Tryz.prog 26 #[.slice A l.length c] w (MtOut l w) := by
 have HS := Lh ((Hp.init w).box 40 #[.int .i64 0, .int .i64 0, .int .i64 0])
 have HA := Lh hr
 have HH := Lh hh
 have HML := Lh hm
 have HNM := Lh hn1
 obtain ⟨E, HE⟩ : ∃ E, Hid (checkP l = E) := ⟨_, rfl⟩
 clear hr hh hm hn1
 by_cases h1 : l.length < 1
 ·have hs : (l.length : Int) < 1 := by omega
  go_enter Tryz.func26, Tryz.ntmps26
  go_upto_region 1 with (fail)
  generalize w.alloc _ = w0 at *
  generalize w.heap.size = r at *
  have hq : Hid (E = (0, 1, 0)) := HE.out.symm.trans (by unfold checkP; rw [if_pos (.inl h1)])
  have f0 := HS.out.one.free 0
  have f1 := HS.out.one.free 1
  have f2 := HS.out.one.free 2
  have g0 := HS.out.c 0 0
  have g1 := HS.out.c 0 1
  have g2 := HS.out.c 0 2
  go_wp2_with fail
  have he := mt_end HS.out hq.out (by decide)
  exact bodyPost_ret (v := .tuple _) (results_meet (fn := Tryz.f26) rfl he.1 rfl rfl) rfl (.inl (by rw [HE.out]; exact he.2))
 have hs : ¬ (l.length : Int) < 1 := by omega
 by_cases h2 : 4 < l.length
 ·have hs2 : (4 : Int) < (l.length : Int) := by omega
  go_enter Tryz.func26, Tryz.ntmps26
  go_upto_region 1 with (fail)
  generalize w.alloc _ = w0 at *
  generalize w.heap.size = r at *
  have hq : Hid (E = (0, 1, 0)) := HE.out.symm.trans (by unfold checkP; rw [if_pos (.inr h2)])
  have f0 := HS.out.one.free 0
  have f1 := HS.out.one.free 1
  have f2 := HS.out.one.free 2
  have g0 := HS.out.c 0 0
  have g1 := HS.out.c 0 1
  have g2 := HS.out.c 0 2
  go_wp2_with fail
  have he := mt_end HS.out hq.out (by decide)
  exact bodyPost_ret (v := .tuple _) (results_meet (fn := Tryz.f26) rfl he.1 rfl rfl) rfl (.inl (by rw [HE.out]; exact he.2))
 have hs2 : ¬ (4 : Int) < (l.length : Int) := by omega
 replace h1 : 1 ≤ l.length := by omega
 replace h2 : l.length ≤ 4 := by omega
 have HE1 : Hid (∀ {u : Nat} {x : Trb}, u < l.length → (∀ j, j < u → f1 l j = none) → f1 l u = some x → E = x) := fun a b c => HE.out.symm.trans (ck_1 h1 h2 a b c)
 obtain ⟨bb, oo, rfl, hbl⟩ := HA.out.adr (by omega)
 go_enter Tryz.func26, Tryz.ntmps26
 go_upto_region 3 with (fail)
 generalize w.alloc _ = w0 at *
 generalize hrr : w.heap.size = r at *
 go_upto_region 4 with (fail)
 have hz : (w0.alloc (.cells #[.int .i64 0, .int .i32 0, .slice none 0 0, .int .i64 0, .slice none 0 0, .slice none 0 0, .slice none 0 0, .slice none 0 0, .int .i64 0, .int .i64 0, .int .i64 0] 55)).heap.size = w0.heap.size + 1 := by simp
 replace HS := Lh ((HS.out.box 55 #[.int .i64 0, .int .i32 0, .slice none 0 0, .int .i64 0, .slice none 0 0, .slice none 0 0, .slice none 0 0, .slice none 0 0, .int .i64 0, .int .i64 0, .int .i64 0]).box 50 #[.pointer (some ⟨w0.heap.size, 0, none⟩)])
 rw [hz] at HS
 clear hz
 generalize (w0.alloc _).alloc _ = w1 at *
 generalize w0.heap.size + 1 = xv at *
 generalize w0.heap.size = X at *
 have M0 : MtSt l w X [bx xv 50 #[.pointer (some ⟨X, 0, none⟩)], bx r 40 #[.int .i64 0, .int .i64 0, .int .i64 0]] 0 w1 := ⟨none, none, none, none, 0, 0, 0, 0, [], [], [], Lh ((((HS.out.f1.row0 w.heap.size 57 1).row0 w.heap.size 42 1).row0 w.heap.size 3 1).row0 w.heap.size 37 9).f4, ⟨.nil, .nil, rfl, fun j m hj => by simp at hj⟩⟩
 clear HS
 go_wp2_with fail
 go_loopw [41] (fun iv wr => ∃ k : Nat, k ≤ l.length ∧ iv = .int .i64 k ∧ (∀ j, j < k → f1 l j = none) ∧ MtSt l w X [bx xv 50 #[.pointer (some ⟨X, 0, none⟩)], bx r 40 #[.int .i64 0, .int .i64 0, .int .i64 0]] k wr) (fun iv _ => l.length - (intOf iv).toNat)
 case atStart => exact ⟨0, Nat.zero_le _, rfl, fun j h => absurd h (by omega), M0⟩
 case round =>
  clear M0; obtain ⟨k, hk, rfl, hg, hM⟩ := hrel
  by_cases hlt : k < l.length
  ·obtain ⟨A1, A2, A3, A4, d1, d2, d3, d4, cb, ms, vr, hS, hok⟩ := hM
   have HOK := Lh hok
   have HS : Hid (Hp w wr _) := hS.out
   unfold mtP lnk at HS
   clear hok hS
   obtain ⟨w2, rfl⟩ : ∃ x, x = wr := ⟨_, rfl⟩
   obtain ⟨cs, hrep, hc⟩ := HA.out.row hlt
   have HREP := Lh hrep
   obtain ⟨UA, ua, UB, ub', UC, uc, rfl, -, -, -, -, -, -⟩ := hrep
   have c0 := hc w2 HS.out.mv 0 _ rfl
   have c1 := hc w2 HS.out.mv 1 _ rfl
   have c2 := hc w2 HS.out.mv 2 _ rfl
   rw [Nat.add_zero] at c0
   have HQ : Hid (unitB l[k] = false → E = ((k : Int), 2, 0)) := fun h => HE1.out hlt hg (by unfold f1; rw [unAt_at hlt, h]; rfl)
   have HY : Hid (unitB l[k] = true → ∀ j, j < k + 1 → f1 l j = none) := fun h => none_succ hg (by unfold f1; rw [unAt_at hlt, h]; rfl)
   have HNX : Hid (∀ (W : World) (A1 A2 A3 A4 : Option Addr) (d1 d2 d3 d4 mb : Nat) (cb' : List (List Value)) (T : List (ByteArray × Tv)) (vr' : List Vr), Hp w W (bx X 55 #[.int .i64 0, .int .i32 0, .slice none 0 0, .int .i64 0, .slice A1 ((allB l k).length + l[k].bs.length) d1, .slice A2 ((allB l k).length + l[k].bs.length) d2, .slice A3 ((allG l k).length + l[k].gs.length) d3, .slice A4 (k + 1) d4, .int .i64 0, .int .i64 0, .int .i64 0] :: ow w.heap.size 37 9 (.slice A1 ((allB l k).length + l[k].bs.length) d1) ((allB l k).length + l[k].bs.length) (cb.flatten ++ cb'.flatten) :: ow w.heap.size 3 1 (.slice A2 ((allB l k).length + l[k].bs.length) d2) ((allB l k).length + l[k].bs.length) (uns l k ++ List.replicate l[k].bs.length (Value.int IntKind.i64 (k : Int))) :: ow w.heap.size 42 1 (.slice A3 ((allG l k).length + l[k].gs.length) d3) ((allG l k).length + l[k].gs.length) (vr.map Vr.val ++ vr'.map Vr.val) :: ow w.heap.size 57 1 (.slice A4 (k + 1) d4) (k + 1) ((ms.map fun m => Value.map (some m.1)) ++ [.map (some mb)]) :: mq Tryz.prog 9 mb (gM Tv.val T) :: (vr'.map varB ++ (ms.map mpB ++ (vr.map varB ++ [bx xv 50 #[.pointer (some ⟨X, 0, none⟩)], bx r 40 #[.int .i64 0, .int .i64 0, .int .i64 0]])))) → All2 (RepB w) l[k].bs cb' → All2 VrOk l[k].gs vr' → All2 (TvOk w) (ents l[k] (allB l k).length (allG l k).length) T → MtSt l w X [bx xv 50 #[.pointer (some ⟨X, 0, none⟩)], bx r 40 #[.int .i64 0, .int .i64 0, .int .i64 0]] (k + 1) W) := fun W A1 A2 A3 A4 d1 d2 d3 d4 mb cb' T vr' h h1 h2 h3 => MtSt.next hlt HOK.out h h1 h2 h3
   have hk40 := HH.out k hlt
   have hknm := HNM.out k hlt
   have hb0 : (allB l k).length ≤ 1000 := by have := allB_len (l := l) (fun u hu => by obtain ⟨j, hj, rfl⟩ := List.getElem_of_mem hu; exact (HH.out j hj).1) k; rw [List.length_take] at this; omega
   have hv0 : (allG l k).length ≤ 1000 := by have := allG_len (l := l) (fun u hu => by obtain ⟨j, hj, rfl⟩ := List.getElem_of_mem hu; exact (HH.out j hj).2.1) k; rw [List.length_take] at this; omega
   have HK40 := Lh hk40
   have HKNM := Lh hknm
   have HB0 := Lh hb0
   have HV0 := Lh hv0
   have hi : (k : Int) < (l.length : Int) := by omega
   have hi1 : (0 : Int) ≤ (k : Int) := by omega
   have hi6 : (k : Int) < 9 := by omega
   clear hg hc hk40 hknm hb0 hv0
   generalize l[k] = u at *
   go_upto_region 7 with (fail)
   clear c0 c1 c2
   replace HS := Lh (HS.out.box 29 #[.slice UA u.bs.length ua, .slice UB u.gs.length ub', .slice UC u.os.length uc])
   generalize w2.alloc _ = w3 at *
   generalize w2.heap.size = ub at *
   replace HS := Lh HS.out.f5.f5.f5.f5.f5
   have x0 := (show Blk w3 xv 50 #[.pointer (some ⟨X, 0, none⟩)] from HS.out.ok (bx xv 50 #[.pointer (some ⟨X, 0, none⟩)]) (by simp)).cell 0 _ rfl
   have u0 := HS.out.c 5 0
   have u1 := HS.out.c 5 1
   have u2 := HS.out.c 5 2
   have HTK := Lh (take_any u _ HREP.out HML.out HKNM.out.1 HKNM.out.2 HK40.out.1 HK40.out.2.1 HK40.out.2.2 HB0.out HV0.out (by omega) HS.out)
   go_wp2_with fail
   clear x0 u0 u1 u2
   refine (HTK.out).mono ?_
   clear HS; rintro e w4 hTk
   obtain ⟨bk, rfl, hbk, HS, hT⟩ := hTk
   have HBK := Lh hbk.symm
   clear HTK hbk
   cases bk
   ·replace HS : Hid (Hp w w4 [bx r 40 #[.int .i64 0, .int .i64 0, .int .i64 0]]) := HS.out.sub (List.Sublist.cons _ (List.Sublist.trans (List.Sublist.cons _ (List.Sublist.refl _)) (List.Sublist.trans (List.sublist_append_right _ _) (List.sublist_append_right _ _))))
    clear hT
    have hq : Hid (E = ((k : Int), 2, 0)) := HQ.out HBK.out
    have f0 := HS.out.one.free 0
    have f1 := HS.out.one.free 1
    have f2 := HS.out.one.free 2
    have g0 := HS.out.c 0 0
    have g1 := HS.out.c 0 1
    have g2 := HS.out.c 0 2
    go_wp2_with fail
    have he := mt_end HS.out hq.out (by decide)
    exact bodyPost_ret (v := .tuple _) (results_meet (fn := Tryz.f26) rfl he.1 rfl rfl) rfl (.inl (by rw [HE.out]; exact he.2))
   obtain ⟨A1', A2', A3', A4', d1', d2', d3', d4', mb, cb', T, vr', HS2, HCB, HVS, HTS⟩ := hT rfl
   clear hT HS
   have HR := Lh (HNX.out _ _ _ _ _ _ _ _ _ mb cb' T vr' (HS2.out.sub (.cons_cons _ (.cons_cons _ (.cons_cons _ (.cons_cons _ (.cons_cons _ (.cons_cons _ (List.Sublist.append_left (List.sublist_cons_self _ _) _)))))))) HCB.out HVS.out HTS.out)
   have HG := Lh (HY.out HBK.out)
   clear HS2 HNX HQ HY
   go_wp2_with fail
   go_roundw
   case rel => exact ⟨k + 1, by omega, by go_num, HG.out, HR.out⟩
   case measure => simp [intOf] <;> omega
  have hi : ¬ (k : Int) < (l.length : Int) := by omega
  obtain rfl : k = l.length := by omega
  have A1 := Lh hg
  have HU := Lh (fun j (h : j < l.length) => f1_unit hg h)
  have HE2 : Hid (∀ {u : Nat} {x : Trb}, u < l.length → (∀ j, j < u → f2 l j = none) → f2 l u = some x → E = x) := fun a b c => HE.out.symm.trans (ck_2 h1 h2 A1.out a b c)
  clear hg HE1
  obtain ⟨B1, B2, B3, B4, d1, d2, d3, d4, cb, ms, vr, HS, hok⟩ := hM
  have HOK := Lh hok
  have hml := hok.ln
  obtain ⟨g, rfl, -⟩ := own_at (show wr.ownsRow w.heap.size 57 1 (.slice B4 l.length d4) l.length (ms.map fun m => .map (some m.1)) from HS.out.own 4 rfl) (k := 0) (by rw [List.length_map]; omega)
  have HPL : Hid (∀ Y, Hp w Y (mtP l w X l.length B1 B2 B3 (some ⟨g, 0, none⟩) d1 d2 d3 d4 cb ms vr [bx xv 50 #[.pointer (some ⟨X, 0, none⟩)], bx r 40 #[.int .i64 0, .int .i64 0, .int .i64 0]]) → Y.cell? ⟨xv, 0, none⟩ = some (.pointer (some ⟨X, 0, none⟩)) ∧ Y.cell? ⟨X, 7, none⟩ = some (.slice (some ⟨g, 0, none⟩) l.length d4) ∧ (∀ j m, ms[j]? = some m → Y.cell? ⟨g, j, none⟩ = some (.map (some m.1)) ∧ MapIs Tryz.prog 9 Y m.1 (gM Tv.val m.2))) := fun Y h => by
   refine ⟨(show Blk Y xv 50 #[.pointer (some ⟨X, 0, none⟩)] from h.ok (bx xv 50 #[.pointer (some ⟨X, 0, none⟩)]) (by unfold mtP; simp)).cell 0 _ rfl, (show Blk Y X 55 _ from h.one).cell 7 _ rfl, fun j m hj => ⟨own_cell (h.own 4 rfl) j _ (by rw [List.getElem?_map, hj]; rfl), h.ok (mpB m) (by unfold mtP; have := List.mem_of_getElem? hj; simp; exact .inr (.inr (.inr (.inr (.inr (.inl ⟨m.1, m.2, this, rfl⟩))))))⟩⟩
  have HSR : Hid (∀ Y, Hp w Y (mtP l w X l.length B1 B2 B3 (some ⟨g, 0, none⟩) d1 d2 d3 d4 cb ms vr [bx xv 50 #[.pointer (some ⟨X, 0, none⟩)], bx r 40 #[.int .i64 0, .int .i64 0, .int .i64 0]]) → Hp w Y [bx r 40 #[.int .i64 0, .int .i64 0, .int .i64 0]]) := fun Y h => h.sub (by unfold mtP; exact .cons _ (.cons _ (.cons _ (.cons _ (.cons _ (List.Sublist.trans (List.Sublist.cons _ (List.Sublist.refl _)) (List.Sublist.trans (List.sublist_append_right _ _) (List.sublist_append_right _ _))))))))
  clear hok hi hml
  go_wp2_with fail
  obtain ⟨w2, rfl⟩ : ∃ x, x = wr := ⟨_, rfl⟩
  go_loopw [55] (fun iv wr => ∃ k : Nat, k ≤ l.length ∧ iv = .int .i64 k ∧ (∀ j, j < k → f2 l j = none) ∧ Hid (Hp w wr (mtP l w X l.length B1 B2 B3 (some ⟨g, 0, none⟩) d1 d2 d3 d4 cb ms vr [bx xv 50 #[.pointer (some ⟨X, 0, none⟩)], bx r 40 #[.int .i64 0, .int .i64 0, .int .i64 0]]))) (fun iv _ => l.length - (intOf iv).toNat)
  case atStart => exact ⟨0, Nat.zero_le _, rfl, fun j h => absurd h (by omega), HS⟩
  case round =>
   clear HS; obtain ⟨k, hk, rfl, hg, HS⟩ := hrel
   obtain ⟨w3, rfl⟩ : ∃ x, x = wr := ⟨_, rfl⟩
   by_cases hlt : k < l.length
   ·obtain ⟨cs, hrep, hc⟩ := HA.out.row hlt
    obtain ⟨UA, ua, UB, ub', UC, uc, rfl, rA, -, -, -, -, -⟩ := hrep
    have RA := Lh rA
    have c0 := hc w3 HS.out.mv 0 _ rfl
    have c1 := hc w3 HS.out.mv 1 _ rfl
    have c2 := hc w3 HS.out.mv 2 _ rfl
    rw [Nat.add_zero] at c0
    have HUN := Lh (HU.out k hlt)
    have hn40 := (HH.out k hlt).1
    obtain ⟨m, hms⟩ : ∃ m, ms[k]? = some m := ⟨_, List.getElem?_eq_getElem (by have := HOK.out.ln; omega)⟩
    have HTS : Hid (All2 (TvOk w) (ents l[k] (allB l k).length (allG l k).length) m.2) := by have := HOK.out.nm k m hms; rw [unAt_at hlt] at this; exact this
    have HMS := Lh hms
    have HG := Lh hg
    have HEG : Hid (∀ {i : Nat} {x : Trb}, i < l[k].bs.length → (∀ j, j < i → g2 l k j = none) → g2 l k i = some x → E = x) := fun a b c => HE2.out hlt HG.out (by unfold f2; rw [unAt_at hlt]; exact fstO_some a c b)
    have HEN : Hid ((∀ j, j < l[k].bs.length → g2 l k j = none) → ∀ j, j < k + 1 → f2 l j = none) := fun h => none_succ HG.out (by unfold f2; rw [unAt_at hlt]; exact fstO_none h)
    have HG2 : Hid (∀ i (h : i < l[k].bs.length), g2 l k i = if spkB l[k] l[k].bs[i] then none else some ((k : Int), 4, (i : Int))) := fun i h => by unfold g2; rw [unAt_at hlt]; simp [List.getD_eq_getElem?_getD, h]
    have hi : (k : Int) < (l.length : Int) := by omega
    have hi1 : (0 : Int) ≤ (k : Int) := by omega
    have hi6 : (k : Int) < 9 := by omega
    clear hg hc rA hms
    generalize l[k] = u at *
    go_upto_region 13 with (fail)
    clear c0 c1 c2
    replace HS := Lh (HS.out.box 29 #[.slice UA u.bs.length ua, .slice UB u.gs.length ub', .slice UC u.os.length uc])
    generalize w3.alloc _ = w4 at *
    generalize w3.heap.size = ub at *
    have u0 := HS.out.c 0 0
    go_wp2_with fail
    clear u0
    go_loopw [63] (fun iv wr => ∃ i : Nat, i ≤ u.bs.length ∧ iv = .int .i64 i ∧ (∀ j, j < i → g2 l k j = none) ∧ Hid (Hp w wr (bx ub 29 #[.slice UA u.bs.length ua, .slice UB u.gs.length ub', .slice UC u.os.length uc] :: (mtP l w X l.length B1 B2 B3 (some ⟨g, 0, none⟩) d1 d2 d3 d4 cb ms vr [bx xv 50 #[.pointer (some ⟨X, 0, none⟩)], bx r 40 #[.int .i64 0, .int .i64 0, .int .i64 0]])))) (fun iv _ => u.bs.length - (intOf iv).toNat)
    case atStart => exact ⟨0, Nat.zero_le _, rfl, fun j h => absurd h (by omega), HS⟩
    case round =>
     clear HS; obtain ⟨i, hik, rfl, hg, HS⟩ := hrel
     obtain ⟨w5, rfl⟩ : ∃ x, x = wr := ⟨_, rfl⟩
     by_cases hilt : i < u.bs.length
     ·obtain ⟨b2, o2, rfl, hbl2⟩ := RA.out.adr (by omega)
      obtain ⟨cs, hrb, hd⟩ := RA.out.row hilt
      have HRB := Lh hrb
      obtain ⟨An, cn, Ap, cp, A', c', rfl, -, -, -, -⟩ := hrb.nine
      have c0' := hd w5 HS.out.mv 0 _ rfl
      have c1' := hd w5 HS.out.mv 1 _ rfl
      have c2' := hd w5 HS.out.mv 2 _ rfl
      have c3' := hd w5 HS.out.mv 3 _ rfl
      have c4' := hd w5 HS.out.mv 4 _ rfl
      have c5' := hd w5 HS.out.mv 5 _ rfl
      have c6' := hd w5 HS.out.mv 6 _ rfl
      have c7' := hd w5 HS.out.mv 7 _ rfl
      have c8' := hd w5 HS.out.mv 8 _ rfl
      rw [Nat.add_zero] at c0'
      have HBO := Lh (unit_body HUN.out hilt)
      have HN : Hid (spkB u u.bs[i] = false → E = ((k : Int), 4, (i : Int))) := fun h => HEG.out hilt hg (by rw [HG2.out i hilt, h]; rfl)
      have HY : Hid (spkB u u.bs[i] = true → ∀ j, j < i + 1 → g2 l k j = none) := fun h => none_succ hg (by rw [HG2.out i hilt, h]; rfl)
      have hj : (i : Int) < (u.bs.length : Int) := by omega
      have hj1 : (0 : Int) ≤ (i : Int) := by omega
      have hj6 : (i : Int) < 40 := by omega
      clear hd hg hrb HEG HEN HG2
      generalize hsp : spkB u u.bs[i] = sp at *
      have HSP := Lh hsp
      clear hsp
      generalize u.bs[i] = b at *
      go_upto_region 16 with (fail)
      clear c0' c1' c2' c3' c4' c5' c6' c7' c8'
      replace HS := Lh (HS.out.box 37 #[.string b.nm, .bool b.static, .int .i64 b.ty.k, .string b.ty.nm, .slice An b.ty.ns.length cn, .slice Ap b.ty.ps.length cp, .bool b.ty.many, .int .i64 b.regs, .slice A' b.code.length c'])
      generalize w5.alloc _ = w6 at *
      generalize w5.heap.size = tb at *
      replace HS := Lh HS.out.drew
      refine dQ (fun W => At W tb 0 (.string b.nm) ∧ At W tb 1 (.bool b.static) ∧ At W tb 2 (.int .i64 b.ty.k) ∧ At W tb 3 (.string b.ty.nm) ∧ At W tb 4 (.slice An b.ty.ns.length cn) ∧ At W tb 5 (.slice Ap b.ty.ps.length cp) ∧ At W tb 6 (.bool b.ty.many) ∧ At W tb 7 (.int .i64 b.regs) ∧ At W tb 8 (.slice A' b.code.length c') ∧ At W xv 0 (.pointer (some ⟨X, 0, none⟩)) ∧ At W X 7 (.slice (some ⟨g, 0, none⟩) l.length d4) ∧ At W g k (.map (some m.1))) (⟨HS.out.c 0 0, HS.out.c 0 1, HS.out.c 0 2, HS.out.c 0 3, HS.out.c 0 4, HS.out.c 0 5, HS.out.c 0 6, HS.out.c 0 7, HS.out.c 0 8, (HPL.out _ HS.out.drop.drop).1, (HPL.out _ HS.out.drop.drop).2.1, ((HPL.out _ HS.out.drop.drop).2.2 k m HMS.out).1⟩) fun _ => ?_
      generalize w6.drew = w7 at *
      refine tQ4 0 1 2 3 ?_; try simp only [sq]
      refine tQ4 4 5 6 7 ?_; try simp only [sq]
      refine rQ 8 (fun K hK => ?_)
      go_simp
      refine (speaks3_any u b _ HUN.out HTS.out HRB.out HBO.out HML.out HS.out.mv ((HPL.out _ HS.out.drop.drop).2.2 k m HMS.out).2).mono ?_
      rintro e w8 ⟨rfl, hb⟩
      replace HS := Lh (HS.out.below hb)
      clear hb
      refine hK.out _ _ (⟨HS.out.c 0 0, HS.out.c 0 1, HS.out.c 0 2, HS.out.c 0 3, HS.out.c 0 4, HS.out.c 0 5, HS.out.c 0 6, HS.out.c 0 7, HS.out.c 0 8, (HPL.out _ HS.out.drop.drop).1, (HPL.out _ HS.out.drop.drop).2.1, ((HPL.out _ HS.out.drop.drop).2.2 k m HMS.out).1⟩) (fun _ => ?_)
      clear hK K
      try simp only [sq]
      rw [HSP.out]
      refine tQ 9 ?_; try simp only [sq]
      refine fQ ?_ _
      cases sp
      ·replace HS := Lh (HSR.out _ HS.out.drop.drop)
       have hq : Hid (E = ((k : Int), 4, (i : Int))) := HN.out (by first | rfl | trivial)
       have f0 := HS.out.one.free 0
       have f1 := HS.out.one.free 1
       have f2 := HS.out.one.free 2
       have g0 := HS.out.c 0 0
       have g1 := HS.out.c 0 1
       have g2 := HS.out.c 0 2
       go_wp2_with fail
       have he := mt_end HS.out hq.out (by decide)
       exact bodyPost_ret (v := .tuple _) (results_meet (fn := Tryz.f26) rfl he.1 rfl rfl) rfl (.inl (by rw [HE.out]; exact he.2))
      have hq := Lh (HY.out (by first | rfl | trivial))
      go_wp2_with fail
      replace HS := Lh HS.out.drop
      go_roundw
      case rel => exact ⟨i + 1, by omega, by go_num, hq.out, HS⟩
      case measure => simp [intOf] <;> omega
     have hj : ¬ (i : Int) < (u.bs.length : Int) := by omega
     obtain rfl : i = u.bs.length := by omega
     have hQ := Lh (HEN.out hg)
     clear hg HEG HG2 HEN
     go_wp2_with fail
     replace HS := Lh HS.out.drop
     go_roundw
     case rel => exact ⟨k + 1, by omega, by go_num, hQ.out, HS⟩
     case measure => simp [intOf] <;> omega
   have hi : ¬ (k : Int) < (l.length : Int) := by omega
   obtain rfl : k = l.length := by omega
   have A2 := Lh hg
   have HE3 : Hid (∀ {u : Nat} {x : Trb}, u < l.length → (∀ j, j < u → f3 l j = none) → f3 l u = some x → E = x) := fun a b c => HE.out.symm.trans (ck_3 h1 h2 A1.out A2.out a b c)
   clear hg HE2
   have hmm := @run_makeMap Tryz.prog
   go_upto_region 21 with (fail)
   clear hmm hi
   have hz : (w3.alloc (.map #[] 0)).heap.size = w3.heap.size + 1 := by simp
   replace HS := Lh ((HS.out.map Tryz.prog 9).box 108 #[.map (some w3.heap.size)]).f1
   rw [hz] at HS
   clear hz
   generalize (w3.alloc _).alloc _ = w4 at *
   generalize w3.heap.size + 1 = hv at *
   generalize w3.heap.size = hm at *
   obtain ⟨Ts, hTs⟩ : ∃ Ts, ms.map (·.2) = Ts := ⟨_, rfl⟩
   have HT := Lh hTs
   clear hTs
   go_wp2_with fail
   go_loopw [86] (fun iv wr => ∃ k : Nat, k ≤ l.length ∧ iv = .int .i64 k ∧ (∀ j, j < k → f3 l j = none) ∧ Hid (Hp w wr (mq Tryz.prog 9 hm (gM Hv.val (hsU l Ts k)) :: bx hv 108 #[.map (some hm)] :: (mtP l w X l.length B1 B2 B3 (some ⟨g, 0, none⟩) d1 d2 d3 d4 cb ms vr [bx xv 50 #[.pointer (some ⟨X, 0, none⟩)], bx r 40 #[.int .i64 0, .int .i64 0, .int .i64 0]])))) (fun iv _ => l.length - (intOf iv).toNat)
   case atStart => exact ⟨0, Nat.zero_le _, rfl, fun j h => absurd h (by omega), HS⟩
   case round =>
    clear HS; obtain ⟨k, hk, rfl, hg, HS⟩ := hrel
    obtain ⟨w5, rfl⟩ : ∃ x, x = wr := ⟨_, rfl⟩
    by_cases hlt : k < l.length
    ·obtain ⟨cs, hrep, hc⟩ := HA.out.row hlt
     obtain ⟨UA, ua, UB, ub', UC, uc, rfl, rA, rB, -, -, -, -⟩ := hrep
     have RA := Lh rA
     have RB := Lh rB
     have c0 := hc w5 HS.out.mv 0 _ rfl
     have c1 := hc w5 HS.out.mv 1 _ rfl
     have c2 := hc w5 HS.out.mv 2 _ rfl
     rw [Nat.add_zero] at c0
     have HUN := Lh (HU.out k hlt)
     have hn40 := (HH.out k hlt).1
     have hm40 := (HH.out k hlt).2.1
     have HNMK := Lh (HNM.out k hlt).1
     obtain ⟨m, hms⟩ : ∃ m, ms[k]? = some m := ⟨_, List.getElem?_eq_getElem (by have := HOK.out.ln; omega)⟩
     have HMS := Lh hms
     have HTM : Hid (Ts.getD k [] = m.2) := by show _ = _; rw [← HT.out, List.getD_eq_getElem?_getD, List.getElem?_map, hms]; rfl
     have HG := Lh hg
     have HEG : Hid (∀ {i : Nat} {x : Trb}, i < (opens l[k]).length → (∀ j, j < i → g3 l k j = none) → g3 l k i = some x → E = x) := fun a b c => HE3.out hlt HG.out (by unfold f3; rw [unAt_at hlt]; exact fstO_some a c b)
     have HEN : Hid ((∀ j, j < (opens l[k]).length → g3 l k j = none) → ∀ j, j < k + 1 → f3 l j = none) := fun h => none_succ HG.out (by unfold f3; rw [unAt_at hlt]; exact fstO_none h)
     have HTW : Hid (∀ i (h : i < (opens l[k]).length), ((opens l[k])[i].2 || (lkM (hsI l Ts k i (hsU l Ts k)) (opens l[k])[i].1).isNone) = (g3 l k i).isNone) := fun i h => twice_is HU.out hlt h
     have HSUC : Hid (∀ i (h : i < (opens l[k]).length), hsI l Ts k (i + 1) (hsU l Ts k) = opH (hsI l Ts k i (hsU l Ts k)) (opens l[k])[i].1 (opens l[k])[i].2 k m.2) := fun i h => by
      have h2 : i < (opens (unAt l k)).length := by rw [unAt_at hlt]; exact h
      have := hsI_succ (Ts := Ts) (h0 := hsU l Ts k) h2
      rw [HTM.out] at this
      simp only [unAt_at hlt] at this
      exact this
     have HLAST : Hid (hsI l Ts k (opens l[k]).length (hsU l Ts k) = hsU l Ts (k + 1)) := by show _ = _; rw [hsU, unAt_at hlt]
     have HX3 : Hid (∀ i x, g3 l k i = some x → x = ((k : Int), 5, (i : Int))) := fun i x h => by unfold g3 at h; split at h; injection h with h; exact h.symm; cases h
     have hi : (k : Int) < (l.length : Int) := by omega
     have hi1 : (0 : Int) ≤ (k : Int) := by omega
     have hi6 : (k : Int) < 9 := by omega
     clear hg hc rA rB hms
     generalize l[k] = u at *
     go_upto_region 24 with (fail)
     clear c0 c1 c2
     have hz : (w5.alloc (.cells #[.int .i64 (k : Int)] 3)).heap.size = w5.heap.size + 1 := by simp
     replace HS := Lh ((HS.out.box 3 #[.int .i64 (k : Int)]).box 29 #[.slice UA u.bs.length ua, .slice UB u.gs.length ub', .slice UC u.os.length uc])
     rw [hz] at HS
     clear hz
     generalize (w5.alloc _).alloc _ = w6 at *
     generalize w5.heap.size + 1 = ub at *
     generalize w5.heap.size = iv at *
     replace HS := Lh HS.out.f2
     have H0 : Hid (hsU l Ts k = hsI l Ts k 0 (hsU l Ts k)) := by show _ = _; unfold hsI; simp
     rw [H0.out] at HS
     have hmf : ∀ (fn : Fn) (first cap : Array Value) (w : World), (Instr.makeFunc fn first cap).run Tryz.prog w = .ok (.func fn first cap) w := fun _ _ _ _ => rfl
     have hOL : (opens u).length = u.bs.length + u.gs.length := by unfold opens; simp
     have HOL := Lh hOL
     clear hOL
     have HOB : Hid (∀ i (h : i < u.bs.length), ∃ h' : i < (opens u).length, (opens u)[i] = (u.bs[i].nm, u.bs[i].static)) := fun i h => ⟨by rw [HOL.out]; omega, by unfold opens; rw [List.getElem_append_left (by simpa using h)]; simp⟩
     have HOG : Hid (∀ i (h : i < u.gs.length), ∃ h' : u.bs.length + i < (opens u).length, (opens u)[u.bs.length + i] = (u.gs[i].nm, u.gs[i].static)) := fun i h => ⟨by rw [HOL.out]; omega, by unfold opens; rw [List.getElem_append_right (by simp)]; simp⟩
     have u0 := HS.out.c 1 0
     go_wp2_with fail
     clear u0 hmf
     go_loopw [14, 95] (fun av yv wr => ∃ i : Nat, i ≤ u.bs.length ∧ yv = .int .i64 i ∧ av = .int .i64 ((i : Nat) : Int) ∧ (∀ j, j < i → g3 l k j = none) ∧ Hid (Hp w wr (mq Tryz.prog 9 hm (gM Hv.val (hsI l Ts k i (hsU l Ts k))) :: bx ub 29 #[.slice UA u.bs.length ua, .slice UB u.gs.length ub', .slice UC u.os.length uc] :: bx iv 3 #[.int .i64 (k : Int)] :: bx hv 108 #[.map (some hm)] :: (mtP l w X l.length B1 B2 B3 (some ⟨g, 0, none⟩) d1 d2 d3 d4 cb ms vr [bx xv 50 #[.pointer (some ⟨X, 0, none⟩)], bx r 40 #[.int .i64 0, .int .i64 0, .int .i64 0]])))) (fun _ yv _ => u.bs.length - (intOf yv).toNat)
     case atStart => exact ⟨0, Nat.zero_le _, rfl, rfl, fun j h => absurd h (by omega), HS⟩
     case round =>
      clear HS; obtain ⟨i, hik, rfl, rfl, hg, HS⟩ := hrel
      obtain ⟨w7, rfl⟩ : ∃ x, x = wr := ⟨_, rfl⟩
      by_cases hilt : i < u.bs.length
      ·obtain ⟨b2, o2, rfl, hbl2⟩ := RA.out.adr (by omega)
       obtain ⟨cs, hrb, hd⟩ := RA.out.row hilt
       obtain ⟨An, cn, Ap, cp, A', c', rfl, -, -, -, -⟩ := hrb.nine
       have c0' := hd w7 HS.out.mv 0 _ rfl
       have c1' := hd w7 HS.out.mv 1 _ rfl
       have c2' := hd w7 HS.out.mv 2 _ rfl
       have c3' := hd w7 HS.out.mv 3 _ rfl
       have c4' := hd w7 HS.out.mv 4 _ rfl
       have c5' := hd w7 HS.out.mv 5 _ rfl
       have c6' := hd w7 HS.out.mv 6 _ rfl
       have c7' := hd w7 HS.out.mv 7 _ rfl
       have c8' := hd w7 HS.out.mv 8 _ rfl
       rw [Nat.add_zero] at c0'
       obtain ⟨ho, hoe⟩ := HOB.out i hilt
       have HA3 := Lh (HTW.out i ho)
       have HB3 := Lh (HSUC.out i ho)
       rw [hoe] at HA3 HB3
       dsimp only at HA3 HB3
       have HN : Hid ((g3 l k i).isNone = false → E = ((k : Int), 5, ((i : Nat) : Int))) := fun h => by
        rcases e : g3 l k i with _ | x
        ·simp [e] at h
        ·rw [HEG.out ho hg e, HX3.out _ _ e]
       have HY : Hid ((g3 l k i).isNone = true → ∀ j, j < i + 1 → g3 l k j = none) := fun h => none_succ hg (Option.isNone_iff_eq_none.1 h)
       have hnl : u.bs[i].nm.size ≤ maxLen := body_nm (unit_body HUN.out hilt)
       have hj : (i : Int) < (u.bs.length : Int) := by omega
       have hj1 : (0 : Int) ≤ (i : Int) := by omega
       have hj6 : (i : Int) < 40 := by omega
       clear hd hg hrb hoe ho
       generalize (g3 l k i).isNone = gn at *
       generalize u.bs[i] = b at *
       go_upto_region 29 with (fail)
       clear c0' c1' c2' c3' c4' c5' c6' c7' c8'
       replace HS := Lh (HS.out.box 37 #[.string b.nm, .bool b.static, .int .i64 b.ty.k, .string b.ty.nm, .slice An b.ty.ns.length cn, .slice Ap b.ty.ps.length cp, .bool b.ty.many, .int .i64 b.regs, .slice A' b.code.length c'])
       generalize w7.alloc _ = w8 at *
       generalize w7.heap.size = tb at *
       have p0 := HS.out.c 0 0
       have p1 := HS.out.c 0 1
       replace HS := Lh HS.out.f1
       have HOP := Lh (open_any (iv := iv) (xv := xv) (hv := hv) (X := X) (g := g) (n := l.length) (c := d4) (mb := m.1) (i := k) (T := m.2) b.nm b.static HS.out hnl hlt (by omega) (fun Y h => ⟨h.c 3 0, h.c 2 0, (HPL.out _ h.drop.drop.drop.drop).1, (HPL.out _ h.drop.drop.drop.drop).2.1, ((HPL.out _ h.drop.drop.drop.drop).2.2 k m HMS.out).1, ((HPL.out _ h.drop.drop.drop.drop).2.2 k m HMS.out).2⟩))
       rw [HA3.out, ← HB3.out] at HOP
       go_wp2_with fail
       refine (HOP.out).mono ?_
       clear HS; rintro e w9 ⟨rfl, HS⟩
       clear HOP p0 p1
       cases gn
       ·have hq : Hid (E = ((k : Int), 5, ((i : Nat) : Int))) := HN.out (by first | rfl | trivial)
        go_upto_region 30 with (fail)
        replace HS := Lh HS.out.drop.drop.drop
        replace HS : Hid (Hp w w9 [bx iv 3 #[.int .i64 (k : Int)], bx r 40 #[.int .i64 0, .int .i64 0, .int .i64 0]]) := HS.out.sub (.cons_cons _ (.cons _ (by unfold mtP; exact .cons _ (.cons _ (.cons _ (.cons _ (.cons _ (List.Sublist.trans (List.Sublist.cons _ (List.Sublist.refl _)) (List.Sublist.trans (List.sublist_append_right _ _) (List.sublist_append_right _ _))))))))))
        replace HS := Lh HS.out.drew
        refine dQ (fun W => At W iv 0 (.int .i64 (k : Int))) (HS.out.c 0 0) fun _ => ?_
        generalize w9.drew = w10 at *
        refine tQ4 0 1 2 3 ?_; try simp only [sq]
        refine rQ 4 (fun K hK => ?_)
        replace HS := Lh HS.out.f1
        have f0 := (HS.out.blk 0 rfl).free 0
        have f1 := (HS.out.blk 0 rfl).free 1
        have f2 := (HS.out.blk 0 rfl).free 2
        have g0 := HS.out.c 0 0
        have g1 := HS.out.c 0 1
        have g2 := HS.out.c 0 2
        go_simp
        clear f0 f1 f2 g0 g1 g2
        have he := mt_end HS.out.f1.drop hq.out (by decide)
        have hp := (((HS.out.put1 0 (.int .i64 (k : Int))).put1 1 (.int .i64 5)).put1 2 (.int .i64 ((i : Nat) : Int))).f1
        have hiv := (show Blk _ iv 3 #[.int .i64 (k : Int)] from hp.one).cell 0 _ rfl
        refine hK.out _ _ hiv (fun _ => ?_)
        clear hK K hp
        try simp only [sq]
        refine fQ ?_ _
        go_wp2_with fail
        exact bodyPost_ret (v := .tuple _) (results_meet (fn := Tryz.f26) rfl he.1 rfl rfl) rfl (.inl (by rw [HE.out]; exact he.2))
       have hq := Lh (HY.out (by first | rfl | trivial))
       clear HN HY HA3 HB3
       go_wp2_with fail
       replace HS := Lh HS.out.f1.drop
       go_roundw
       case rel => exact ⟨i + 1, by omega, by go_num, by go_num, hq.out, HS⟩
       case measure => simp [intOf] <;> omega
      have hj : ¬ (i : Int) < (u.bs.length : Int) := by omega
      obtain rfl : i = u.bs.length := by omega
      have HG1 := Lh hg
      clear hg
      have u1 := HS.out.c 1 1
      go_wp2_with fail
      clear u1
      go_loopw [14, 115] (fun av yv wr => ∃ i : Nat, i ≤ u.gs.length ∧ yv = .int .i64 i ∧ av = .int .i64 (((u.bs.length + i) : Nat) : Int) ∧ (∀ j, j < (u.bs.length + i) → g3 l k j = none) ∧ Hid (Hp w wr (mq Tryz.prog 9 hm (gM Hv.val (hsI l Ts k (u.bs.length + i) (hsU l Ts k))) :: bx ub 29 #[.slice UA u.bs.length ua, .slice UB u.gs.length ub', .slice UC u.os.length uc] :: bx iv 3 #[.int .i64 (k : Int)] :: bx hv 108 #[.map (some hm)] :: (mtP l w X l.length B1 B2 B3 (some ⟨g, 0, none⟩) d1 d2 d3 d4 cb ms vr [bx xv 50 #[.pointer (some ⟨X, 0, none⟩)], bx r 40 #[.int .i64 0, .int .i64 0, .int .i64 0]])))) (fun _ yv _ => u.gs.length - (intOf yv).toNat)
      case atStart => exact ⟨0, Nat.zero_le _, rfl, rfl, HG1.out, HS⟩
      case round =>
       clear HS; obtain ⟨i, hik, rfl, rfl, hg, HS⟩ := hrel
       obtain ⟨w8, rfl⟩ : ∃ x, x = wr := ⟨_, rfl⟩
       by_cases hilt : i < u.gs.length
       ·obtain ⟨b2, o2, rfl, hbl2⟩ := RB.out.adr (by omega)
        obtain ⟨cs, hrb, hd⟩ := RB.out.row hilt
        obtain ⟨An, cn, Ap, cp, rfl, -, -, -⟩ := hrb.eight
        have c0' := hd w8 HS.out.mv 0 _ rfl
        have c1' := hd w8 HS.out.mv 1 _ rfl
        have c2' := hd w8 HS.out.mv 2 _ rfl
        have c3' := hd w8 HS.out.mv 3 _ rfl
        have c4' := hd w8 HS.out.mv 4 _ rfl
        have c5' := hd w8 HS.out.mv 5 _ rfl
        have c6' := hd w8 HS.out.mv 6 _ rfl
        have c7' := hd w8 HS.out.mv 7 _ rfl
        rw [Nat.add_zero] at c0'
        obtain ⟨ho, hoe⟩ := HOG.out i hilt
        have HA3 := Lh (HTW.out (u.bs.length + i) ho)
        have HB3 := Lh (HSUC.out (u.bs.length + i) ho)
        rw [hoe] at HA3 HB3
        dsimp only at HA3 HB3
        have HN : Hid ((g3 l k (u.bs.length + i)).isNone = false → E = ((k : Int), 5, (((u.bs.length + i) : Nat) : Int))) := fun h => by
         rcases e : g3 l k (u.bs.length + i) with _ | x
         ·simp [e] at h
         ·rw [HEG.out ho hg e, HX3.out _ _ e]
        have HY : Hid ((g3 l k (u.bs.length + i)).isNone = true → ∀ j, j < (u.bs.length + i) + 1 → g3 l k j = none) := fun h => none_succ hg (Option.isNone_iff_eq_none.1 h)
        have hnl : u.gs[i].nm.size ≤ maxLen := HNMK.out _ (List.getElem_mem hilt)
        have hj : (i : Int) < (u.gs.length : Int) := by omega
        have hj1 : (0 : Int) ≤ (i : Int) := by omega
        have hj6 : (i : Int) < 40 := by omega
        clear hd hg hrb hoe ho
        generalize (g3 l k (u.bs.length + i)).isNone = gn at *
        generalize u.gs[i] = gg at *
        go_upto_region 36 with (fail)
        clear c0' c1' c2' c3' c4' c5' c6' c7'
        replace HS := Lh (HS.out.box 71 #[.string gg.nm, .bool gg.static, .int .i64 gg.ty.k, .string gg.ty.nm, .slice An gg.ty.ns.length cn, .slice Ap gg.ty.ps.length cp, .bool gg.ty.many, .int .i64 gg.v])
        generalize w8.alloc _ = w9 at *
        generalize w8.heap.size = tb at *
        have p0 := HS.out.c 0 0
        have p1 := HS.out.c 0 1
        replace HS := Lh HS.out.f1
        have HOP := Lh (open_any (iv := iv) (xv := xv) (hv := hv) (X := X) (g := g) (n := l.length) (c := d4) (mb := m.1) (i := k) (T := m.2) gg.nm gg.static HS.out hnl hlt (by omega) (fun Y h => ⟨h.c 3 0, h.c 2 0, (HPL.out _ h.drop.drop.drop.drop).1, (HPL.out _ h.drop.drop.drop.drop).2.1, ((HPL.out _ h.drop.drop.drop.drop).2.2 k m HMS.out).1, ((HPL.out _ h.drop.drop.drop.drop).2.2 k m HMS.out).2⟩))
        rw [HA3.out, ← HB3.out] at HOP
        go_wp2_with fail
        refine (HOP.out).mono ?_
        clear HS; rintro e w10 ⟨rfl, HS⟩
        clear HOP p0 p1
        cases gn
        ·have hq : Hid (E = ((k : Int), 5, (((u.bs.length + i) : Nat) : Int))) := HN.out (by first | rfl | trivial)
         go_upto_region 37 with (fail)
         replace HS := Lh HS.out.drop.drop.drop
         replace HS : Hid (Hp w w10 [bx iv 3 #[.int .i64 (k : Int)], bx r 40 #[.int .i64 0, .int .i64 0, .int .i64 0]]) := HS.out.sub (.cons_cons _ (.cons _ (by unfold mtP; exact .cons _ (.cons _ (.cons _ (.cons _ (.cons _ (List.Sublist.trans (List.Sublist.cons _ (List.Sublist.refl _)) (List.Sublist.trans (List.sublist_append_right _ _) (List.sublist_append_right _ _))))))))))
         replace HS := Lh HS.out.drew
         refine dQ (fun W => At W iv 0 (.int .i64 (k : Int))) (HS.out.c 0 0) fun _ => ?_
         generalize w10.drew = w11 at *
         refine tQ4 0 1 2 3 ?_; try simp only [sq]
         refine rQ 4 (fun K hK => ?_)
         replace HS := Lh HS.out.f1
         have f0 := (HS.out.blk 0 rfl).free 0
         have f1 := (HS.out.blk 0 rfl).free 1
         have f2 := (HS.out.blk 0 rfl).free 2
         have g0 := HS.out.c 0 0
         have g1 := HS.out.c 0 1
         have g2 := HS.out.c 0 2
         go_simp
         clear f0 f1 f2 g0 g1 g2
         have he := mt_end HS.out.f1.drop hq.out (by decide)
         have hp := (((HS.out.put1 0 (.int .i64 (k : Int))).put1 1 (.int .i64 5)).put1 2 (.int .i64 (((u.bs.length + i) : Nat) : Int))).f1
         have hiv := (show Blk _ iv 3 #[.int .i64 (k : Int)] from hp.one).cell 0 _ rfl
         refine hK.out _ _ hiv (fun _ => ?_)
         clear hK K hp
         try simp only [sq]
         refine fQ ?_ _
         go_wp2_with fail
         exact bodyPost_ret (v := .tuple _) (results_meet (fn := Tryz.f26) rfl he.1 rfl rfl) rfl (.inl (by rw [HE.out]; exact he.2))
        have hq := Lh (HY.out (by first | rfl | trivial))
        clear HN HY HA3 HB3
        go_wp2_with fail
        replace HS := Lh HS.out.f1.drop
        go_roundw
        case rel => exact ⟨i + 1, by omega, by go_num, by go_num, hq.out, HS⟩
        case measure => simp [intOf] <;> omega
       have hj : ¬ (i : Int) < (u.gs.length : Int) := by omega
       obtain rfl : i = u.gs.length := by omega
       have HG1 := Lh hg
       clear hg
       rw [← HOL.out] at HS HG1
       have hQ := Lh (HEN.out HG1.out)
       rw [HLAST.out] at HS
       clear HEG HEN HTW HSUC HLAST HX3
       go_wp2_with fail
       replace HS := Lh HS.out.f1.drop.f1.drop.f1.f1
       go_roundw
       case rel => exact ⟨k + 1, by omega, by go_num, hQ.out, HS⟩
       case measure => simp [intOf] <;> omega
    have hi : ¬ (k : Int) < (l.length : Int) := by omega
    obtain rfl : k = l.length := by omega
    have A3 := Lh hg
    have HE4 : Hid (∀ {u : Nat} {x : Trb}, u < l.length → (∀ j, j < u → f4 l j = none) → f4 l u = some x → E = x) := fun a b c => HE.out.symm.trans (ck_4 h1 h2 A1.out A2.out A3.out a b c)
    clear hg HE3
    obtain ⟨Hs, hHs⟩ : ∃ x, hsU l Ts l.length = x := ⟨_, rfl⟩
    have HTH := Lh (fun s => home_thing HU.out HOK.out s)
    rw [HT.out, hHs] at HTH
    rw [hHs] at HS
    have HHS : Hid (hsU l (ms.map (·.2)) l.length = Hs) := by show _ = _; rw [HT.out]; exact hHs
    clear hHs
    have HPM : Hid (∀ ms' : List (Nat × List (ByteArray × Tv)), (∀ (j : Nat) (m : Nat × List (ByteArray × Tv)), ms[j]? = some m → ∃ T, ms'[j]? = some (m.1, T)) → ∀ Y, Hp w Y (mtP l w X l.length B1 B2 B3 (some ⟨g, 0, none⟩) d1 d2 d3 d4 cb ms' vr [bx xv 50 #[.pointer (some ⟨X, 0, none⟩)], bx r 40 #[.int .i64 0, .int .i64 0, .int .i64 0]]) → Y.cell? ⟨xv, 0, none⟩ = some (.pointer (some ⟨X, 0, none⟩)) ∧ Y.cell? ⟨X, 7, none⟩ = some (.slice (some ⟨g, 0, none⟩) l.length d4) ∧ (∀ (j : Nat) (m : Nat × List (ByteArray × Tv)), ms[j]? = some m → Y.cell? ⟨g, j, none⟩ = some (.map (some m.1)))) := fun ms' hms' Y h => by
     refine ⟨(show Blk Y xv 50 #[.pointer (some ⟨X, 0, none⟩)] from h.ok (bx xv 50 #[.pointer (some ⟨X, 0, none⟩)]) (by unfold mtP; simp)).cell 0 _ rfl, (show Blk Y X 55 _ from h.one).cell 7 _ rfl, fun j m hj => ?_⟩
     obtain ⟨T, hT⟩ := hms' j m hj
     exact own_cell (h.own 4 rfl) j _ (by rw [List.getElem?_map, hT]; rfl)
    have HSM : Hid (∀ ms' Y, Hp w Y (mtP l w X l.length B1 B2 B3 (some ⟨g, 0, none⟩) d1 d2 d3 d4 cb ms' vr [bx xv 50 #[.pointer (some ⟨X, 0, none⟩)], bx r 40 #[.int .i64 0, .int .i64 0, .int .i64 0]]) → Hp w Y [bx r 40 #[.int .i64 0, .int .i64 0, .int .i64 0]]) := fun ms' Y h => h.sub (by unfold mtP; exact .cons _ (.cons _ (.cons _ (.cons _ (.cons _ (List.Sublist.trans (List.Sublist.cons _ (List.Sublist.refl _)) (List.Sublist.trans (List.sublist_append_right _ _) (List.sublist_append_right _ _))))))))
    clear HPL HSR
    go_wp2_with fail
    clear hi
    go_loopw [135] (fun iv wr => ∃ (k : Nat) (ms' : List (Nat × List (ByteArray × Tv))), k ≤ l.length ∧ iv = .int .i64 k ∧ (∀ j, j < k → f4 l j = none) ∧ MsRel l Hs ms k 0 ms' ∧ Hid (Hp w wr (mq Tryz.prog 9 hm (gM Hv.val (Hs)) :: bx hv 108 #[.map (some hm)] :: (mtP l w X l.length B1 B2 B3 (some ⟨g, 0, none⟩) d1 d2 d3 d4 cb ms' vr [bx xv 50 #[.pointer (some ⟨X, 0, none⟩)], bx r 40 #[.int .i64 0, .int .i64 0, .int .i64 0]])))) (fun iv _ => l.length - (intOf iv).toNat)
    case atStart => exact ⟨0, ms, Nat.zero_le _, rfl, fun j h => absurd h (by omega), MsRel.zero, HS⟩
    case round =>
     clear HS; obtain ⟨k, ms', hk, rfl, hg, hR, HS⟩ := hrel
     obtain ⟨w6, rfl⟩ : ∃ x, x = wr := ⟨_, rfl⟩
     by_cases hlt : k < l.length
     ·obtain ⟨cs, hrep, hc⟩ := HA.out.row hlt
      obtain ⟨UA, ua, UB, ub', UC, uc, rfl, -, -, rC, -, -, -⟩ := hrep
      have RC := Lh rC
      have c0 := hc w6 HS.out.mv 0 _ rfl
      have c1 := hc w6 HS.out.mv 1 _ rfl
      have c2 := hc w6 HS.out.mv 2 _ rfl
      rw [Nat.add_zero] at c0
      have HUN := Lh (HU.out k hlt)
      have hn40 := (HH.out k hlt).2.2
      have HNMK := Lh (HNM.out k hlt).2
      obtain ⟨m, hms⟩ : ∃ m, ms[k]? = some m := ⟨_, List.getElem?_eq_getElem (by have := HOK.out.ln; omega)⟩
      have HMS := Lh hms
      have HG := Lh hg
      have HR0 := Lh hR
      have HEG : Hid (∀ {i : Nat} {x : Trb}, i < l[k].os.length → (∀ j, j < i → g4 l k j = none) → g4 l k i = some x → E = x) := fun a b c => HE4.out hlt HG.out (by unfold f4; rw [unAt_at hlt]; exact fstO_some a c b)
      have HEN : Hid ((∀ j, j < l[k].os.length → g4 l k j = none) → ∀ j, j < k + 1 → f4 l j = none) := fun h => none_succ HG.out (by unfold f4; rw [unAt_at hlt]; exact fstO_none h)
      have HRU : Hid (∀ ms'', MsRel l Hs ms k l[k].os.length ms'' → MsRel l Hs ms (k + 1) 0 ms'') := fun ms'' h => MsRel.unit (by rw [unAt_at hlt]; exact h)
      have HRN : Hid (∀ ms'' i (hi : i < l[k].os.length) b T, MsRel l Hs ms k i ms'' → ms''[k]? = some (b, T) → MsRel l Hs ms k (i + 1) (ms''.set k (b, T ++ [(l[k].os[i].nm, ((lkM Hs l[k].os[i].nm).getD zHv).x)]))) := fun ms'' i hi b T h hm => h.name hlt hi hm
      have HG4 : Hid (∀ i (h : i < l[k].os.length), g4 l k i = if (homR l l[k].os[i].nm).1 < 0 then some ((k : Int), 4, (i : Int)) else if (((homR l l[k].os[i].nm).2.1 == 1) != l[k].os[i].fn) || !(eqB (tyF (unAt l (homR l l[k].os[i].nm).1.toNat) l[k].os[i].nm).1 l[k].os[i].ty) then some ((k : Int), 3, (i : Int)) else none) := fun i h => by
       have e : (unAt l k).os.getD i default = l[k].os[i] := by rw [unAt_at hlt]; simp [List.getD_eq_getElem?_getD, h]
       unfold g4
       rw [e]
      have hi : (k : Int) < (l.length : Int) := by omega
      have hi1 : (0 : Int) ≤ (k : Int) := by omega
      have hi6 : (k : Int) < 9 := by omega
      clear hg hc rC hms hR
      generalize l[k] = u at *
      go_upto_region 44 with (fail)
      clear c0 c1 c2
      replace HS := Lh (HS.out.box 29 #[.slice UA u.bs.length ua, .slice UB u.gs.length ub', .slice UC u.os.length uc])
      generalize w6.alloc _ = w7 at *
      generalize w6.heap.size = ub at *
      have u2 := HS.out.c 0 2
      go_wp2_with fail
      clear u2
      go_loopw [143] (fun iv wr => ∃ (i : Nat) (ms' : List (Nat × List (ByteArray × Tv))), i ≤ u.os.length ∧ iv = .int .i64 i ∧ (∀ j, j < i → g4 l k j = none) ∧ MsRel l Hs ms k i ms' ∧ Hid (Hp w wr (bx ub 29 #[.slice UA u.bs.length ua, .slice UB u.gs.length ub', .slice UC u.os.length uc] :: mq Tryz.prog 9 hm (gM Hv.val (Hs)) :: bx hv 108 #[.map (some hm)] :: (mtP l w X l.length B1 B2 B3 (some ⟨g, 0, none⟩) d1 d2 d3 d4 cb ms' vr [bx xv 50 #[.pointer (some ⟨X, 0, none⟩)], bx r 40 #[.int .i64 0, .int .i64 0, .int .i64 0]])))) (fun iv _ => u.os.length - (intOf iv).toNat)
      case atStart => exact ⟨0, ms', Nat.zero_le _, rfl, fun j h => absurd h (by omega), HR0.out, HS⟩
      case round =>
       clear HS HR0; obtain ⟨i, ms', hik, rfl, hg, hR, HS⟩ := hrel
       obtain ⟨w8, rfl⟩ : ∃ x, x = wr := ⟨_, rfl⟩
       by_cases hilt : i < u.os.length
       ·obtain ⟨b2, o2, rfl, hbl2⟩ := RC.out.adr (by omega)
        obtain ⟨cs, hrb, hd⟩ := RC.out.row hilt
        obtain ⟨An, cn, Ap, cp, rfl, hTy⟩ := hrb.seven
        have c0' := hd w8 HS.out.mv 0 _ rfl
        have c1' := hd w8 HS.out.mv 1 _ rfl
        have c2' := hd w8 HS.out.mv 2 _ rfl
        have c3' := hd w8 HS.out.mv 3 _ rfl
        have c4' := hd w8 HS.out.mv 4 _ rfl
        have c5' := hd w8 HS.out.mv 5 _ rfl
        have c6' := hd w8 HS.out.mv 6 _ rfl
        rw [Nat.add_zero] at c0'
        have HTY := Lh hTy
        have HOM := Lh (unit_omay HUN.out hilt)
        have hnl := HNMK.out _ (List.getElem_mem hilt)
        have HG5 := Lh (HG4.out i hilt)
        have HN : Hid (∀ x, g4 l k i = some x → E = x) := fun x h => HEG.out hilt hg h
        have HY : Hid (g4 l k i = none → ∀ j, j < i + 1 → g4 l k j = none) := fun h => none_succ hg h
        obtain ⟨T, hmT⟩ := hR.fst HMS.out
        have HNXT := Lh (HRN.out ms' i hilt m.1 T hR hmT)
        have HMT := Lh hmT
        have HFS : Hid (∀ (j : Nat) (m : Nat × List (ByteArray × Tv)), ms[j]? = some m → ∃ T, ms'[j]? = some (m.1, T)) := fun j m h => hR.fst h
        have hj : (i : Int) < (u.os.length : Int) := by omega
        have hj1 : (0 : Int) ≤ (i : Int) := by omega
        have hj6 : (i : Int) < 40 := by omega
        clear hd hg hrb hTy HEG HEN HG4 HRN HRU hR hmT
        generalize u.os[i] = o at *
        obtain ⟨onm, oty, ofn⟩ := o
        dsimp only at HTY HOM hnl HG5 HNXT c0' c1' c2' c3' c4' c5' c6'
        go_upto_region 47 with (fail)
        clear c0' c1' c2' c3' c4' c5' c6'
        replace HS := Lh (HS.out.box 75 #[.string onm, .int .i64 oty.k, .string oty.nm, .slice An oty.ns.length cn, .slice Ap oty.ps.length cp, .bool oty.many, .bool ofn])
        generalize w8.alloc _ = w9 at *
        generalize w8.heap.size = tb at *
        have p0 := HS.out.c 0 0
        have q0 := HS.out.c 3 0
        have hl := look_hv (HS.out.at 2 rfl) onm hnl
        rcases HTH.out onm with ⟨hho, hlk⟩ | ⟨v, hv2, x, hlk, hho, hfn, htx, hmy, hrx, -, hop⟩
        ·rw [hlk] at hl
         simp only [Option.getD_none, Option.isSome_none, zHv, zTv, Hv.val] at hl
         have hE : Hid (E = ((k : Int), 4, (i : Int))) := HN.out _ (by rw [HG5.out, hho]; rfl)
         clear HN HY hlk hho
         go_upto_region 48 with (fail)
         clear hl p0 q0
         replace HS := Lh (HS.out.box 110 #[.int .i64 0, .bool false, .string ⟨#[]⟩, .int .i64 0, .int .i64 0, .string ⟨#[]⟩, .slice none 0 0, .slice none 0 0, .bool false])
         generalize w9.alloc _ = w10 at *
         generalize w9.heap.size = vb at *
         replace HS := Lh (HSM.out ms' _ HS.out.drop.drop.drop.drop.drop)
         have hq : Hid (E = ((k : Int), 4, (i : Int))) := hE.out
         have f0 := HS.out.one.free 0
         have f1 := HS.out.one.free 1
         have f2 := HS.out.one.free 2
         have g0 := HS.out.c 0 0
         have g1 := HS.out.c 0 1
         have g2 := HS.out.c 0 2
         go_wp2_with fail
         have he := mt_end HS.out hq.out (by decide)
         exact bodyPost_ret (v := .tuple _) (results_meet (fn := Tryz.f26) rfl he.1 rfl rfl) rfl (.inl (by rw [HE.out]; exact he.2))
        have HTX := Lh htx
        have HMY := Lh hmy
        have HLK := Lh hlk
        rw [hlk] at hl
        simp only [Option.getD_some, Option.isSome_some, Hv.val] at hl
        have HX : Hid (g4 l k i = if (x.fn != ofn) || !(eqB (tyF l[v] onm).1 oty) then some ((k : Int), 3, (i : Int)) else none) := by
         show _ = _
         rw [HG5.out, hho, hfn]
         simp only [Int.toNat_natCast, unAt_at hv2]
         rw [if_neg (by omega)]
        clear hho hfn htx hmy hrx hop hlk HG5
        generalize (tyF l[v] onm).1 = VT at *
        obtain ⟨xfn, xt, xn, xk, xnm, xA, xa, xca, xB, xb, xcb, xmany⟩ := x
        dsimp only at HTX HX hl
        go_upto_region 48 with (fail)
        clear hl p0 q0
        replace HS := Lh (HS.out.box 110 #[.int .i64 (v : Int), .bool xfn, .string xt, .int .i64 xn, .int .i64 xk, .string xnm, .slice xA xa xca, .slice xB xb xcb, .bool xmany])
        generalize w9.alloc _ = w10 at *
        generalize w9.heap.size = vb at *
        go_upto_region 50 with (fail)
        obtain ⟨nq, hnq⟩ : ∃ b, (xfn != ofn) = b := ⟨_, rfl⟩
        have HNQ := Lh hnq
        rw [hnq] at HX
        clear hnq
        cases xfn
        ·cases ofn
         ·replace HS := Lh HS.out.drew
          refine dQ (fun W => At W vb 1 (.bool false) ∧ At W vb 2 (.string xt) ∧ At W tb 1 (.int .i64 oty.k) ∧ At W tb 2 (.string oty.nm) ∧ At W tb 3 (.slice An oty.ns.length cn) ∧ At W tb 4 (.slice Ap oty.ps.length cp) ∧ At W tb 5 (.bool oty.many) ∧ At W tb 6 (.bool false)) (⟨HS.out.c 0 1, HS.out.c 0 2, HS.out.c 1 1, HS.out.c 1 2, HS.out.c 1 3, HS.out.c 1 4, HS.out.c 1 5, HS.out.c 1 6⟩) fun _ => ?_
          generalize w10.drew = w11 at *
          refine tQ4 0 1 2 3 ?_; try simp only [sq]
          refine tQ4 4 5 6 7 ?_; try simp only [sq]
          refine tQ4 8 9 10 11 ?_; try simp only [sq]
          refine rQ 12 (fun K hK => ?_)
          go_simp
          refine (text_any oty _ _ (Rep.keep HS.out.mv _ _ HTY.out) (HML.out.keep HS.out.mv)).mono ?_
          rintro e w12 ⟨rfl, hb⟩
          replace HS := Lh (HS.out.below hb)
          clear hb
          refine hK.out _ _ (⟨HS.out.c 0 1, HS.out.c 0 2, HS.out.c 1 1, HS.out.c 1 2, HS.out.c 1 3, HS.out.c 1 4, HS.out.c 1 5, HS.out.c 1 6⟩) (fun _ => ?_)
          clear hK K
          try simp only [sq]
          have HEQ : Hid (eqB VT oty = decide (xt = textB oty)) := txt_eq HMY.out HOM.out HTX.out
          rcases Classical.em (xt = textB oty) with he | he
          rotate_left
          ·have hE : Hid (E = ((k : Int), 3, (i : Int))) := HN.out _ (by rw [HX.out, ← HNQ.out, HEQ.out, decide_eq_false he]; rfl)
           clear HN HY
           have z1 := str_ne he
           generalize textB oty = ty2 at *
           refine tQ2 13 14 ?_; try simp only [sq]
           refine fQ ?_ _
           replace HS := Lh (HSM.out ms' _ HS.out.drop.drop.drop.drop.drop)
           have hq : Hid (E = ((k : Int), 3, (i : Int))) := hE.out
           have f0 := HS.out.one.free 0
           have f1 := HS.out.one.free 1
           have f2 := HS.out.one.free 2
           have g0 := HS.out.c 0 0
           have g1 := HS.out.c 0 1
           have g2 := HS.out.c 0 2
           go_wp2_with fail
           have he := mt_end HS.out hq.out (by decide)
           exact bodyPost_ret (v := .tuple _) (results_meet (fn := Tryz.f26) rfl he.1 rfl rfl) rfl (.inl (by rw [HE.out]; exact he.2))
          have hq := Lh (HY.out (by rw [HX.out, ← HNQ.out, HEQ.out, decide_eq_true he]; rfl))
          clear HN HY HX
          rw [← he]
          clear he HEQ HTX
          refine tQ2 13 14 ?_; try simp only [sq]
          refine fQ ?_ _
          go_upto_region 52 with (fail)
          obtain ⟨RR, hRR⟩ := mt_pull (l := l) (w := w) (X := X) (k := l.length) (A1 := B1) (A2 := B2) (A3 := B3) (A4 := some ⟨g, 0, none⟩) (d1 := d1) (d2 := d2) (d3 := d3) (d4 := d4) (cb := cb) (vr := vr) (base := [bx xv 50 #[.pointer (some ⟨X, 0, none⟩)], bx r 40 #[.int .i64 0, .int .i64 0, .int .i64 0]]) HMT.out
          have hset : ms'.set k (m.1, T) = ms' := by
           apply List.ext_getElem?
           intro q
           by_cases e : q = k
           ·rw [e, List.getElem?_set_self ((List.getElem?_eq_some_iff.1 HMT.out).1), HMT.out]
           ·rw [List.getElem?_set_ne (fun h => e h.symm)]
          have hp0 := hRR T
          rw [hset] at hp0
          have HP0 := Lh hp0
          have HP1 := Lh hRR
          clear hp0 hRR hset
          replace HS := Lh HS.out.drew
          refine dQ (fun W => At W xv 0 (.pointer (some ⟨X, 0, none⟩)) ∧ At W X 7 (.slice (some ⟨g, 0, none⟩) l.length d4) ∧ At W g k (.map (some m.1)) ∧ At W tb 0 (.string onm) ∧ At W vb 1 (.bool false) ∧ At W vb 2 (.string xt) ∧ At W vb 3 (.int .i64 xn) ∧ At W vb 4 (.int .i64 xk) ∧ At W vb 5 (.string xnm) ∧ At W vb 6 (.slice xA xa xca) ∧ At W vb 7 (.slice xB xb xcb) ∧ At W vb 8 (.bool xmany)) (⟨(HPM.out ms' HFS.out _ HS.out.drop.drop.drop.drop.drop).1, (HPM.out ms' HFS.out _ HS.out.drop.drop.drop.drop.drop).2.1, (HPM.out ms' HFS.out _ HS.out.drop.drop.drop.drop.drop).2.2 k m HMS.out, HS.out.c 1 0, HS.out.c 0 1, HS.out.c 0 2, HS.out.c 0 3, HS.out.c 0 4, HS.out.c 0 5, HS.out.c 0 6, HS.out.c 0 7, HS.out.c 0 8⟩) fun _ => ?_
          generalize w12.drew = w13 at *
          refine tQ4 0 1 2 3 ?_; try simp only [sq]
          refine tQ4 4 5 6 7 ?_; try simp only [sq]
          refine tQ3 8 9 10 ?_; try simp only [sq]
          obtain ⟨kl, hkl⟩ := keyOf_str onm hnl
          replace HS := Lh ((HS.out.perm (.cons _ (.cons _ (.cons _ (.cons _ (.cons _ (HP0.out))))))).perm (List.perm_middle (l₁ := [bx vb 110 #[.int .i64 (v : Int), .bool false, .string xt, .int .i64 xn, .int .i64 xk, .string xnm, .slice xA xa xca, .slice xB xb xcb, .bool xmany], bx tb 75 #[.string onm, .int .i64 oty.k, .string oty.nm, .slice An oty.ns.length cn, .slice Ap oty.ps.length cp, .bool oty.many, .bool false], bx ub 29 #[.slice UA u.bs.length ua, .slice UB u.gs.length ub', .slice (some ⟨b2, o2, none⟩) u.os.length uc], mq Tryz.prog 9 hm (gM Hv.val (Hs)), bx hv 108 #[.map (some hm)]])))
          refine rQ 11 (fun K hK => ?_)
          rw [if_pos (by rfl)]
          refine oper_mput (show Hp w _ (mq Tryz.prog 9 m.1 (gM Tv.val T) :: _) from HS.out) _ _ _ 57 rfl str_keyed Tryz.underlying57 (by rfl) (.string onm) (.agg #[.bool false, .string xt, .int .i64 xn, .int .i64 xk, .string xnm, .slice xA xa xca, .slice xB xb xcb, .bool xmany]) kl (by rfl) (by rfl) hkl ?_
          clear HS; intro w14 HS
          have HS2 : Hid (Hp w w14 (mpB (m.1, T ++ [(onm, (⟨false, xt, xn, xk, xnm, xA, xa, xca, xB, xb, xcb, xmany⟩ : Tv))]) :: ([bx vb 110 #[.int .i64 (v : Int), .bool false, .string xt, .int .i64 xn, .int .i64 xk, .string xnm, .slice xA xa xca, .slice xB xb xcb, .bool xmany], bx tb 75 #[.string onm, .int .i64 oty.k, .string oty.nm, .slice An oty.ns.length cn, .slice Ap oty.ps.length cp, .bool oty.many, .bool false], bx ub 29 #[.slice UA u.bs.length ua, .slice UB u.gs.length ub', .slice (some ⟨b2, o2, none⟩) u.os.length uc], mq Tryz.prog 9 hm (gM Hv.val (Hs)), bx hv 108 #[.map (some hm)]] ++ RR))) := by show Hp _ _ _; unfold mpB; rw [gM_snoc]; exact HS.out
          replace HS := Lh ((HS2.out.perm (List.perm_middle (l₁ := [bx vb 110 #[.int .i64 (v : Int), .bool false, .string xt, .int .i64 xn, .int .i64 xk, .string xnm, .slice xA xa xca, .slice xB xb xcb, .bool xmany], bx tb 75 #[.string onm, .int .i64 oty.k, .string oty.nm, .slice An oty.ns.length cn, .slice Ap oty.ps.length cp, .bool oty.many, .bool false], bx ub 29 #[.slice UA u.bs.length ua, .slice UB u.gs.length ub', .slice (some ⟨b2, o2, none⟩) u.os.length uc], mq Tryz.prog 9 hm (gM Hv.val (Hs)), bx hv 108 #[.map (some hm)]])).symm).perm (.cons _ (.cons _ (.cons _ (.cons _ (.cons _ ((HP1.out _).symm)))))))
          clear HS2
          have HFS2 : Hid (∀ (j : Nat) (mm : Nat × List (ByteArray × Tv)), ms[j]? = some mm → ∃ T2, (ms'.set k (m.1, T ++ [(onm, (⟨false, xt, xn, xk, xnm, xA, xa, xca, xB, xb, xcb, xmany⟩ : Tv))]))[j]? = some (mm.1, T2)) := fun j mm h => by
           have hr := HNXT.out
           rw [HLK.out] at hr
           exact hr.fst h
          refine hK.out _ _ (⟨(HPM.out _ HFS2.out _ HS.out.drop.drop.drop.drop.drop).1, (HPM.out _ HFS2.out _ HS.out.drop.drop.drop.drop.drop).2.1, (HPM.out _ HFS2.out _ HS.out.drop.drop.drop.drop.drop).2.2 k m HMS.out, HS.out.c 1 0, HS.out.c 0 1, HS.out.c 0 2, HS.out.c 0 3, HS.out.c 0 4, HS.out.c 0 5, HS.out.c 0 6, HS.out.c 0 7, HS.out.c 0 8⟩) (fun _ => ?_)
          clear hK K
          try simp only [sq]
          refine fQ ?_ _
          have hr := HNXT.out
          rw [HLK.out] at hr
          have HR2 := Lh hr
          clear hr
          go_wp2_with fail
          replace HS := Lh HS.out.drop.drop
          go_roundw
          case rel => exact ⟨i + 1, _, by omega, by go_num, hq.out, HR2.out, HS⟩
          case measure => simp [intOf] <;> omega
         have hE : Hid (E = ((k : Int), 3, (i : Int))) := HN.out _ (by rw [HX.out, ← HNQ.out]; rfl)
         clear HN HY
         replace HS := Lh HS.out.drew
         refine dQ (fun W => At W vb 1 (.bool false) ∧ At W vb 2 (.string xt) ∧ At W tb 1 (.int .i64 oty.k) ∧ At W tb 2 (.string oty.nm) ∧ At W tb 3 (.slice An oty.ns.length cn) ∧ At W tb 4 (.slice Ap oty.ps.length cp) ∧ At W tb 5 (.bool oty.many) ∧ At W tb 6 (.bool true)) (⟨HS.out.c 0 1, HS.out.c 0 2, HS.out.c 1 1, HS.out.c 1 2, HS.out.c 1 3, HS.out.c 1 4, HS.out.c 1 5, HS.out.c 1 6⟩) fun _ => ?_
         generalize w10.drew = w11 at *
         refine tQ4 0 1 2 3 ?_; try simp only [sq]
         refine tQ3 4 5 6 ?_; try simp only [sq]
         refine pQ4 7 8 9 10 ?_; try simp only [sq]
         refine pQ 11 ?_; try simp only [sq]
         refine pQ 12 ?_; try simp only [sq]
         refine pQ 13 ?_; try simp only [sq]
         refine tQ 14 ?_; try simp only [sq]
         refine fQ ?_ _
         replace HS := Lh (HSM.out ms' _ HS.out.drop.drop.drop.drop.drop)
         have hq : Hid (E = ((k : Int), 3, (i : Int))) := hE.out
         have f0 := HS.out.one.free 0
         have f1 := HS.out.one.free 1
         have f2 := HS.out.one.free 2
         have g0 := HS.out.c 0 0
         have g1 := HS.out.c 0 1
         have g2 := HS.out.c 0 2
         go_wp2_with fail
         have he := mt_end HS.out hq.out (by decide)
         exact bodyPost_ret (v := .tuple _) (results_meet (fn := Tryz.f26) rfl he.1 rfl rfl) rfl (.inl (by rw [HE.out]; exact he.2))
        cases ofn
        ·have hE : Hid (E = ((k : Int), 3, (i : Int))) := HN.out _ (by rw [HX.out, ← HNQ.out]; rfl)
         clear HN HY
         replace HS := Lh HS.out.drew
         refine dQ (fun W => At W vb 1 (.bool true) ∧ At W vb 2 (.string xt) ∧ At W tb 1 (.int .i64 oty.k) ∧ At W tb 2 (.string oty.nm) ∧ At W tb 3 (.slice An oty.ns.length cn) ∧ At W tb 4 (.slice Ap oty.ps.length cp) ∧ At W tb 5 (.bool oty.many) ∧ At W tb 6 (.bool false)) (⟨HS.out.c 0 1, HS.out.c 0 2, HS.out.c 1 1, HS.out.c 1 2, HS.out.c 1 3, HS.out.c 1 4, HS.out.c 1 5, HS.out.c 1 6⟩) fun _ => ?_
         generalize w10.drew = w11 at *
         refine tQ4 0 1 2 3 ?_; try simp only [sq]
         refine tQ3 4 5 6 ?_; try simp only [sq]
         refine pQ4 7 8 9 10 ?_; try simp only [sq]
         refine pQ 11 ?_; try simp only [sq]
         refine pQ 12 ?_; try simp only [sq]
         refine pQ 13 ?_; try simp only [sq]
         refine tQ 14 ?_; try simp only [sq]
         refine fQ ?_ _
         replace HS := Lh (HSM.out ms' _ HS.out.drop.drop.drop.drop.drop)
         have hq : Hid (E = ((k : Int), 3, (i : Int))) := hE.out
         have f0 := HS.out.one.free 0
         have f1 := HS.out.one.free 1
         have f2 := HS.out.one.free 2
         have g0 := HS.out.c 0 0
         have g1 := HS.out.c 0 1
         have g2 := HS.out.c 0 2
         go_wp2_with fail
         have he := mt_end HS.out hq.out (by decide)
         exact bodyPost_ret (v := .tuple _) (results_meet (fn := Tryz.f26) rfl he.1 rfl rfl) rfl (.inl (by rw [HE.out]; exact he.2))
        replace HS := Lh HS.out.drew
        refine dQ (fun W => At W vb 1 (.bool true) ∧ At W vb 2 (.string xt) ∧ At W tb 1 (.int .i64 oty.k) ∧ At W tb 2 (.string oty.nm) ∧ At W tb 3 (.slice An oty.ns.length cn) ∧ At W tb 4 (.slice Ap oty.ps.length cp) ∧ At W tb 5 (.bool oty.many) ∧ At W tb 6 (.bool true)) (⟨HS.out.c 0 1, HS.out.c 0 2, HS.out.c 1 1, HS.out.c 1 2, HS.out.c 1 3, HS.out.c 1 4, HS.out.c 1 5, HS.out.c 1 6⟩) fun _ => ?_
        generalize w10.drew = w11 at *
        refine tQ4 0 1 2 3 ?_; try simp only [sq]
        refine tQ4 4 5 6 7 ?_; try simp only [sq]
        refine tQ4 8 9 10 11 ?_; try simp only [sq]
        refine rQ 12 (fun K hK => ?_)
        go_simp
        refine (text_any oty _ _ (Rep.keep HS.out.mv _ _ HTY.out) (HML.out.keep HS.out.mv)).mono ?_
        rintro e w12 ⟨rfl, hb⟩
        replace HS := Lh (HS.out.below hb)
        clear hb
        refine hK.out _ _ (⟨HS.out.c 0 1, HS.out.c 0 2, HS.out.c 1 1, HS.out.c 1 2, HS.out.c 1 3, HS.out.c 1 4, HS.out.c 1 5, HS.out.c 1 6⟩) (fun _ => ?_)
        clear hK K
        try simp only [sq]
        have HEQ : Hid (eqB VT oty = decide (xt = textB oty)) := txt_eq HMY.out HOM.out HTX.out
        rcases Classical.em (xt = textB oty) with he | he
        rotate_left
        ·have hE : Hid (E = ((k : Int), 3, (i : Int))) := HN.out _ (by rw [HX.out, ← HNQ.out, HEQ.out, decide_eq_false he]; rfl)
         clear HN HY
         have z1 := str_ne he
         generalize textB oty = ty2 at *
         refine tQ2 13 14 ?_; try simp only [sq]
         refine fQ ?_ _
         replace HS := Lh (HSM.out ms' _ HS.out.drop.drop.drop.drop.drop)
         have hq : Hid (E = ((k : Int), 3, (i : Int))) := hE.out
         have f0 := HS.out.one.free 0
         have f1 := HS.out.one.free 1
         have f2 := HS.out.one.free 2
         have g0 := HS.out.c 0 0
         have g1 := HS.out.c 0 1
         have g2 := HS.out.c 0 2
         go_wp2_with fail
         have he := mt_end HS.out hq.out (by decide)
         exact bodyPost_ret (v := .tuple _) (results_meet (fn := Tryz.f26) rfl he.1 rfl rfl) rfl (.inl (by rw [HE.out]; exact he.2))
        have hq := Lh (HY.out (by rw [HX.out, ← HNQ.out, HEQ.out, decide_eq_true he]; rfl))
        clear HN HY HX
        rw [← he]
        clear he HEQ HTX
        refine tQ2 13 14 ?_; try simp only [sq]
        refine fQ ?_ _
        go_upto_region 52 with (fail)
        obtain ⟨RR, hRR⟩ := mt_pull (l := l) (w := w) (X := X) (k := l.length) (A1 := B1) (A2 := B2) (A3 := B3) (A4 := some ⟨g, 0, none⟩) (d1 := d1) (d2 := d2) (d3 := d3) (d4 := d4) (cb := cb) (vr := vr) (base := [bx xv 50 #[.pointer (some ⟨X, 0, none⟩)], bx r 40 #[.int .i64 0, .int .i64 0, .int .i64 0]]) HMT.out
        have hset : ms'.set k (m.1, T) = ms' := by
         apply List.ext_getElem?
         intro q
         by_cases e : q = k
         ·rw [e, List.getElem?_set_self ((List.getElem?_eq_some_iff.1 HMT.out).1), HMT.out]
         ·rw [List.getElem?_set_ne (fun h => e h.symm)]
        have hp0 := hRR T
        rw [hset] at hp0
        have HP0 := Lh hp0
        have HP1 := Lh hRR
        clear hp0 hRR hset
        replace HS := Lh HS.out.drew
        refine dQ (fun W => At W xv 0 (.pointer (some ⟨X, 0, none⟩)) ∧ At W X 7 (.slice (some ⟨g, 0, none⟩) l.length d4) ∧ At W g k (.map (some m.1)) ∧ At W tb 0 (.string onm) ∧ At W vb 1 (.bool true) ∧ At W vb 2 (.string xt) ∧ At W vb 3 (.int .i64 xn) ∧ At W vb 4 (.int .i64 xk) ∧ At W vb 5 (.string xnm) ∧ At W vb 6 (.slice xA xa xca) ∧ At W vb 7 (.slice xB xb xcb) ∧ At W vb 8 (.bool xmany)) (⟨(HPM.out ms' HFS.out _ HS.out.drop.drop.drop.drop.drop).1, (HPM.out ms' HFS.out _ HS.out.drop.drop.drop.drop.drop).2.1, (HPM.out ms' HFS.out _ HS.out.drop.drop.drop.drop.drop).2.2 k m HMS.out, HS.out.c 1 0, HS.out.c 0 1, HS.out.c 0 2, HS.out.c 0 3, HS.out.c 0 4, HS.out.c 0 5, HS.out.c 0 6, HS.out.c 0 7, HS.out.c 0 8⟩) fun _ => ?_
        generalize w12.drew = w13 at *
        refine tQ4 0 1 2 3 ?_; try simp only [sq]
        refine tQ4 4 5 6 7 ?_; try simp only [sq]
        refine tQ3 8 9 10 ?_; try simp only [sq]
        obtain ⟨kl, hkl⟩ := keyOf_str onm hnl
        replace HS := Lh ((HS.out.perm (.cons _ (.cons _ (.cons _ (.cons _ (.cons _ (HP0.out))))))).perm (List.perm_middle (l₁ := [bx vb 110 #[.int .i64 (v : Int), .bool true, .string xt, .int .i64 xn, .int .i64 xk, .string xnm, .slice xA xa xca, .slice xB xb xcb, .bool xmany], bx tb 75 #[.string onm, .int .i64 oty.k, .string oty.nm, .slice An oty.ns.length cn, .slice Ap oty.ps.length cp, .bool oty.many, .bool true], bx ub 29 #[.slice UA u.bs.length ua, .slice UB u.gs.length ub', .slice (some ⟨b2, o2, none⟩) u.os.length uc], mq Tryz.prog 9 hm (gM Hv.val (Hs)), bx hv 108 #[.map (some hm)]])))
        refine rQ 11 (fun K hK => ?_)
        rw [if_pos (by rfl)]
        refine oper_mput (show Hp w _ (mq Tryz.prog 9 m.1 (gM Tv.val T) :: _) from HS.out) _ _ _ 57 rfl str_keyed Tryz.underlying57 (by rfl) (.string onm) (.agg #[.bool true, .string xt, .int .i64 xn, .int .i64 xk, .string xnm, .slice xA xa xca, .slice xB xb xcb, .bool xmany]) kl (by rfl) (by rfl) hkl ?_
        clear HS; intro w14 HS
        have HS2 : Hid (Hp w w14 (mpB (m.1, T ++ [(onm, (⟨true, xt, xn, xk, xnm, xA, xa, xca, xB, xb, xcb, xmany⟩ : Tv))]) :: ([bx vb 110 #[.int .i64 (v : Int), .bool true, .string xt, .int .i64 xn, .int .i64 xk, .string xnm, .slice xA xa xca, .slice xB xb xcb, .bool xmany], bx tb 75 #[.string onm, .int .i64 oty.k, .string oty.nm, .slice An oty.ns.length cn, .slice Ap oty.ps.length cp, .bool oty.many, .bool true], bx ub 29 #[.slice UA u.bs.length ua, .slice UB u.gs.length ub', .slice (some ⟨b2, o2, none⟩) u.os.length uc], mq Tryz.prog 9 hm (gM Hv.val (Hs)), bx hv 108 #[.map (some hm)]] ++ RR))) := by show Hp _ _ _; unfold mpB; rw [gM_snoc]; exact HS.out
        replace HS := Lh ((HS2.out.perm (List.perm_middle (l₁ := [bx vb 110 #[.int .i64 (v : Int), .bool true, .string xt, .int .i64 xn, .int .i64 xk, .string xnm, .slice xA xa xca, .slice xB xb xcb, .bool xmany], bx tb 75 #[.string onm, .int .i64 oty.k, .string oty.nm, .slice An oty.ns.length cn, .slice Ap oty.ps.length cp, .bool oty.many, .bool true], bx ub 29 #[.slice UA u.bs.length ua, .slice UB u.gs.length ub', .slice (some ⟨b2, o2, none⟩) u.os.length uc], mq Tryz.prog 9 hm (gM Hv.val (Hs)), bx hv 108 #[.map (some hm)]])).symm).perm (.cons _ (.cons _ (.cons _ (.cons _ (.cons _ ((HP1.out _).symm)))))))
        clear HS2
        have HFS2 : Hid (∀ (j : Nat) (mm : Nat × List (ByteArray × Tv)), ms[j]? = some mm → ∃ T2, (ms'.set k (m.1, T ++ [(onm, (⟨true, xt, xn, xk, xnm, xA, xa, xca, xB, xb, xcb, xmany⟩ : Tv))]))[j]? = some (mm.1, T2)) := fun j mm h => by
         have hr := HNXT.out
         rw [HLK.out] at hr
         exact hr.fst h
        refine hK.out _ _ (⟨(HPM.out _ HFS2.out _ HS.out.drop.drop.drop.drop.drop).1, (HPM.out _ HFS2.out _ HS.out.drop.drop.drop.drop.drop).2.1, (HPM.out _ HFS2.out _ HS.out.drop.drop.drop.drop.drop).2.2 k m HMS.out, HS.out.c 1 0, HS.out.c 0 1, HS.out.c 0 2, HS.out.c 0 3, HS.out.c 0 4, HS.out.c 0 5, HS.out.c 0 6, HS.out.c 0 7, HS.out.c 0 8⟩) (fun _ => ?_)
        clear hK K
        try simp only [sq]
        refine fQ ?_ _
        have hr := HNXT.out
        rw [HLK.out] at hr
        have HR2 := Lh hr
        clear hr
        go_wp2_with fail
        replace HS := Lh HS.out.drop.drop
        go_roundw
        case rel => exact ⟨i + 1, _, by omega, by go_num, hq.out, HR2.out, HS⟩
        case measure => simp [intOf] <;> omega
       have hj : ¬ (i : Int) < (u.os.length : Int) := by omega
       obtain rfl : i = u.os.length := by omega
       have hQ := Lh (HEN.out hg)
       have hQ2 := Lh (HRU.out _ hR)
       clear hg HEG HG4 HEN HRU HRN hR
       go_wp2_with fail
       replace HS := Lh HS.out.drop
       go_roundw
       case rel => exact ⟨k + 1, ms', by omega, by go_num, hQ.out, hQ2.out, HS⟩
       case measure => simp [intOf] <;> omega
     have hi : ¬ (k : Int) < (l.length : Int) := by omega
     obtain rfl : k = l.length := by omega
     have A4 := Lh hg
     have HR4 := Lh hR
     have HE5 : Hid (E = (ckMain l).getD (0, 0, 0)) := HE.out.symm.trans (ck_5 h1 h2 A1.out A2.out A3.out A4.out)
     have HFS : Hid (∀ (j : Nat) (m : Nat × List (ByteArray × Tv)), ms[j]? = some m → ∃ T, ms'[j]? = some (m.1, T)) := fun j m h => hR.fst h
     clear hg HE4 hR
     have q0 := HS.out.c 1 0
     have hl := look_hv (HS.out.at 0 rfl) ⟨#[109, 97, 105, 110]⟩ (by decide)
     rcases HTH.out ⟨#[109, 97, 105, 110]⟩ with ⟨hho, hlk⟩ | ⟨v, hv2, x, hlk, hho, hfn, htx, hmy, -, hxn, hop⟩
     ·rw [hlk] at hl
      simp only [Option.getD_none, Option.isSome_none, zHv, zTv, Hv.val] at hl
      have hE : Hid (E = (0, 4, 0)) := HE5.out.trans (by unfold ckMain; rw [hho]; simp)
      clear HTH HE5 hlk hho
      go_upto_region 56 with (fail)
      clear hl q0
      replace HS := Lh (HS.out.box 110 #[.int .i64 0, .bool false, .string ⟨#[]⟩, .int .i64 0, .int .i64 0, .string ⟨#[]⟩, .slice none 0 0, .slice none 0 0, .bool false])
      generalize w6.alloc _ = w7 at *
      generalize w6.heap.size = vb at *
      replace HS := Lh (HSM.out ms' _ HS.out.drop.drop.drop)
      have hq : Hid (E = (0, 4, 0)) := hE.out
      have f0 := HS.out.one.free 0
      have f1 := HS.out.one.free 1
      have f2 := HS.out.one.free 2
      have g0 := HS.out.c 0 0
      have g1 := HS.out.c 0 1
      have g2 := HS.out.c 0 2
      go_wp2_with fail
      have he := mt_end HS.out hq.out (by decide)
      exact bodyPost_ret (v := .tuple _) (results_meet (fn := Tryz.f26) rfl he.1 rfl rfl) rfl (.inl (by rw [HE.out]; exact he.2))
     rw [hlk] at hl
     simp only [Option.getD_some, Option.isSome_some, Hv.val] at hl
     have HX : Hid (x.fn = false → E = (0, 4, 0)) := fun h => by
      rw [hfn] at h
      exact HE5.out.trans (by unfold ckMain; rw [hho, if_pos (.inr (by simpa using h))]; rfl)
     have HY : Hid (x.fn = true → x.n = (((allB l (homR l ⟨#[109, 97, 105, 110]⟩).1.toNat).length + (homR l ⟨#[109, 97, 105, 110]⟩).2.2 : Nat) : Int) ∧ (x.t ≠ ⟨#[102, 110, 40, 41, 105, 110, 116]⟩ → E = (0, 3, 0)) ∧ (x.t = ⟨#[102, 110, 40, 41, 105, 110, 116]⟩ → E = (0, 0, 0))) := fun h => by
      rw [hfn] at h
      have hk : (giv l[v] ⟨#[109, 97, 105, 110]⟩).1 = 1 := by simpa using h
      refine ⟨hxn.trans (main_num hv2 hho hk), ?_⟩
      rcases opn_kind hop with ⟨j, hj, hG, -⟩ | ⟨j, hj, hG, -⟩
      ·have hty : (tyF l[v] ⟨#[109, 97, 105, 110]⟩).1 = l[v].bs[j].ty := by unfold tyF; rw [hG]; simp [List.getD_eq_getElem?_getD, hj]
       have hck : ckMain l = if textB l[v].bs[j].ty ≠ ⟨#[102, 110, 40, 41, 105, 110, 116]⟩ then some (0, 3, 0) else none := by
        unfold ckMain
        rw [hho, hG, if_neg (fun h0 => h0.elim (fun h1 => absurd h1 (by show ¬ (v : Int) < 0; omega)) (fun h1 => h1 rfl))]
        dsimp only
        rw [Int.toNat_natCast, unAt_at hv2]
        simp [List.getD_eq_getElem?_getD, hj]
       rw [htx, hty]
       exact ⟨fun h0 => HE5.out.trans (by rw [hck, if_pos h0]; rfl), fun h0 => HE5.out.trans (by rw [hck, if_neg (fun h1 => h1 h0)]; rfl)⟩
      ·rw [hG] at hk; cases hk
     clear hlk hho hfn htx hmy hxn hop HTH HE5
     obtain ⟨xfn, xt, xn, xk, xnm, xA, xa, xca, xB, xb, xcb, xmany⟩ := x
     dsimp only at HX HY hl
     go_upto_region 56 with (fail)
     clear hl q0
     replace HS := Lh (HS.out.box 110 #[.int .i64 (v : Int), .bool xfn, .string xt, .int .i64 xn, .int .i64 xk, .string xnm, .slice xA xa xca, .slice xB xb xcb, .bool xmany])
     generalize w6.alloc _ = w7 at *
     generalize w6.heap.size = vb at *
     have p1 := HS.out.c 0 1
     have p2 := HS.out.c 0 2
     have p3 := HS.out.c 0 3
     cases xfn
     ·have hE := Lh (HX.out rfl)
      clear HX HY
      go_upto_region 57 with (fail)
      clear p1 p2 p3
      replace HS := Lh (HSM.out ms' _ HS.out.drop.drop.drop)
      have hq : Hid (E = (0, 4, 0)) := hE.out
      have f0 := HS.out.one.free 0
      have f1 := HS.out.one.free 1
      have f2 := HS.out.one.free 2
      have g0 := HS.out.c 0 0
      have g1 := HS.out.c 0 1
      have g2 := HS.out.c 0 2
      go_wp2_with fail
      have he := mt_end HS.out hq.out (by decide)
      exact bodyPost_ret (v := .tuple _) (results_meet (fn := Tryz.f26) rfl he.1 rfl rfl) rfl (.inl (by rw [HE.out]; exact he.2))
     obtain ⟨hnum, hno, hyes⟩ := HY.out rfl
     have HNUM := Lh hnum
     have HNO := Lh hno
     have HYES := Lh hyes
     clear HX HY hnum hno hyes
     rcases Classical.em (xt = ⟨#[102, 110, 40, 41, 105, 110, 116]⟩) with he | he
     rotate_left
     ·have hE := Lh (HNO.out he)
      have z1 : (xt.toList == [102, 110, 40, 41, 105, 110, 116]) = false := by
       have h := str_ne he
       rw [show (⟨#[102, 110, 40, 41, 105, 110, 116]⟩ : ByteArray).toList = [102, 110, 40, 41, 105, 110, 116] by rw [ByteArray.toList_eq]] at h
       exact h
      clear HNO HYES he
      go_upto_region 59 with (fail)
      clear p1 p2 p3 z1
      replace HS := Lh (HSM.out ms' _ HS.out.drop.drop.drop)
      have hq : Hid (E = (0, 3, 0)) := hE.out
      have f0 := HS.out.one.free 0
      have f1 := HS.out.one.free 1
      have f2 := HS.out.one.free 2
      have g0 := HS.out.c 0 0
      have g1 := HS.out.c 0 1
      have g2 := HS.out.c 0 2
      go_wp2_with fail
      have he := mt_end HS.out hq.out (by decide)
      exact bodyPost_ret (v := .tuple _) (results_meet (fn := Tryz.f26) rfl he.1 rfl rfl) rfl (.inl (by rw [HE.out]; exact he.2))
     have hE := Lh (HYES.out he)
     clear HNO HYES
     subst he
     have HXV := Lh (HPM.out ms' HFS.out _ HS.out.drop.drop.drop).1
     replace HS : Hid (Hp w w7 (bx X 55 (lnk (allB l l.length).length (allG l l.length).length l.length B1 B2 B3 (some ⟨g, 0, none⟩) d1 d2 d3 d4 0) :: _)) := HS.out.drop.drop.drop
     have x0 := HXV.out
     have f10 := HS.out.one.free 10
     have g10 := HS.out.c 0 10
     go_upto_region 61 with (fail)
     clear f10 g10 p1 p2 p3 x0
     replace HS := Lh (HS.out.put1 10 (.int .i64 xn))
     unfold lnk at HS
     simp only [sq] at HS
     generalize w7.setCell _ _ = w8 at *
     have HS3 : Hid (Hp w w8 ([bx X 55 (lnk (allB l l.length).length (allG l l.length).length l.length B1 B2 B3 (some ⟨g, 0, none⟩) d1 d2 d3 d4 xn), ow w.heap.size 37 9 (.slice B1 (allB l l.length).length d1) (allB l l.length).length cb.flatten, ow w.heap.size 3 1 (.slice B2 (allB l l.length).length d2) (allB l l.length).length (uns l l.length), ow w.heap.size 42 1 (.slice B3 (allG l l.length).length d3) (allG l l.length).length (vr.map Vr.val), ow w.heap.size 57 1 (.slice (some ⟨g, 0, none⟩) l.length d4) l.length (ms'.map fun m => .map (some m.1))] ++ (ms'.map mpB ++ (vr.map varB ++ [bx xv 50 #[.pointer (some ⟨X, 0, none⟩)], bx r 40 #[.int .i64 0, .int .i64 0, .int .i64 0]])))) := HS.out
     replace HS := Lh (HS3.out.perm r_front)
     clear HS3
     have x0 := (show Blk w8 xv 50 _ from HS.out.ok (bx xv 50 #[.pointer (some ⟨X, 0, none⟩)]) (by simp)).cell 0 _ rfl
     have f0 := HS.out.one.free 0
     have f1 := HS.out.one.free 1
     have f2 := HS.out.one.free 2
     have g0 := HS.out.c 0 0
     have g1 := HS.out.c 0 1
     have g2 := HS.out.c 0 2
     go_wp2_with fail
     have HS4 := Lh (((HS.out.put1 0 (.int .i64 0)).put1 1 (.int .i64 0)).put1 2 (.int .i64 0))
     simp only [sq] at HS4
     refine bodyPost_ret (v := .tuple _) (results_meet (fn := Tryz.f26) rfl HS4.out.one rfl rfl) rfl (.inr ⟨HE.out.trans hE.out, X, rfl, ?_⟩)
     refine ⟨B1, B2, B3, some ⟨g, 0, none⟩, d1, d2, d3, d4, cb, ms, ms', vr, ?_, HOK.out, by rw [HHS.out]; exact HR4.out⟩
     rw [← HNUM.out]
     exact Lh (HS4.out.drop.sub (by unfold lkP; exact .cons_cons _ (.cons_cons _ (.cons_cons _ (.cons_cons _ (.cons_cons _ (List.Sublist.append_left (List.Sublist.append_left (List.nil_sublist _) _) _)))))))
end Go.Proofs.YthihaeobkoiljaaGreat
