/- Lemmas for the law. -/
import Derived.Test.YthihaeobkoiljaaGreatQ11
import Derived.Laws.OwnMore
set_option linter.unusedVariables false
set_option linter.unusedSimpArgs false
set_option maxRecDepth 100000
set_option maxHeartbeats 40000000
namespace Go.Proofs.YthihaeobkoiljaaGreat
open Go.RowKit
theorem body_may {b : Bo} (h : bodyB b = true) : b.code.length ≤ 6000 ∧ ∀ o ∈ b.code, o.op = 7 → may o.ty = true := by
 unfold bodyB at h
 simp only [Bool.and_eq_true, decide_eq_true_eq] at h
 obtain ⟨⟨⟨-, h6⟩, ho⟩, -⟩ := h
 refine ⟨h6, fun o hm h7 => ?_⟩
 rw [List.all_eq_true] at ho
 have := ho o hm
 unfold orderB at this
 rw [h7] at this
 simp only [Bool.and_eq_true] at this
 obtain ⟨-, h2⟩ := this
 rw [if_pos (by rfl)] at h2
 unfold callB at h2
 simp only [Bool.and_eq_true] at h2
 exact h2.1.1.1.2
theorem unit_body {u : Un} (h : unitB u = true) {k : Nat} (hk : k < u.bs.length) : bodyB u.bs[k] = true := by
 unfold unitB at h
 simp only [Bool.and_eq_true] at h
 obtain ⟨⟨⟨⟨h1, -⟩, -⟩, -⟩, -⟩ := h
 rw [List.all_eq_true] at h1
 exact h1 _ (List.getElem_mem hk)
def FitRel (u : Un) (w w1 : World) (i : Value) (wr : World) : Prop := ∃ k : Nat, k ≤ u.bs.length ∧ i = .int .i64 k ∧ (∀ j (h : j < u.bs.length), j < k → spkB u u.bs[j] = true) ∧ Below w1.heap.size w1 wr ∧ Below w.heap.size w wr
theorem fits_no {u : Un} {k : Nat} (hk : k < u.bs.length) (h : spkB u u.bs[k] = false) : fitsB u = false := by
 unfold fitsB
 have : u.bs.all (spkB u) = false := by rw [List.all_eq_false]; exact ⟨_, List.getElem_mem hk, by rw [h]; decide⟩
 rw [this, Bool.and_false]
theorem fits_yes {u : Un} (h : unitB u = true) (h1 : ∀ j (h : j < u.bs.length), spkB u u.bs[j] = true) : fitsB u = true := by
 unfold fitsB
 rw [h, Bool.true_and, List.all_eq_true]
 intro x hx
 obtain ⟨j, hj, rfl⟩ := List.getElem_of_mem hx
 exact h1 j hj
theorem fitsR_any (u : Un) (us : List Value) (w : World) (hu : RepU w u us) (h1 : u.bs.length ≤ 40) (h2 : u.gs.length ≤ 40) (h3 : u.os.length ≤ 40) :
 Calls Tryz.prog 6 #[.agg us.toArray] w fun e w' => e = .returned (.bool (fitsB u)) ∧ Below w.heap.size w w' := by
 have hu0 := hu
 obtain ⟨UA, ua, UB, ub, UC, uc, rfl, rA, rB, rC, -, -, -⟩ := hu
 have B0 : Below w.heap.size w (w.alloc (.cells #[.slice UA u.bs.length ua, .slice UB u.gs.length ub, .slice UC u.os.length uc] 29)) := bel
 have ku := Blk.new_ w 29 #[.slice UA u.bs.length ua, .slice UB u.gs.length ub, .slice UC u.os.length uc]
 have HM := Lh (unitR_any u _ _ (hu0.keep B0) h1 h2 h3)
 have HU := Lh (fun (W : World) (h : Below w.heap.size w W) => hu0.keep h)
 have HA := Lh rA
 obtain ⟨E, HE⟩ : ∃ E, Hid (fitsB u = E) := ⟨_, rfl⟩
 rw [HE.out]
 clear rA rB rC hu0
 go_enter Tryz.func6, Tryz.ntmps6
 go_wp2_with fail
 generalize hw1 : w.alloc (.cells #[.slice UA u.bs.length ua, .slice UB u.gs.length ub, .slice UC u.os.length uc] 29) = w1 at *
 clear hw1
 refine (HM.out).mono ?_
 rintro e w2 ⟨rfl, hb2⟩
 have ku2 := ku.below hb2
 have b2 := B0.trans (hb2.mono B0.size)
 clear ku HM hb2 B0
 have HBB := Lh b2
 rcases hun : unitB u with _ | _
 ·have hq : Hid (E = false) := by show _ = _; rw [← HE.out]; unfold fitsB; rw [hun]; rfl
  clear HE
  go_wp2_with fail
  go_ret
  exact ⟨by rw [hq.out]; rfl, HBB.out⟩
 ·have HUN := Lh hun
  clear hun b2
  go_wp2_with fail
  go_loopw [3] (fun i wr => FitRel u w w2 i wr) (fun i _ => u.bs.length - (intOf i).toNat)
  case atStart => exact ⟨0, Nat.zero_le _, rfl, fun j _ h => absurd h (by omega), Below.refl _ _, HBB.out⟩
  case round =>
   obtain ⟨k, hk, rfl, hg, hb, hbw⟩ := hrel
   have kur := ku2.below hb
   have u0 := kur.cell 0 _ rfl
   have u1 := kur.cell 1 _ rfl
   have u2 := kur.cell 2 _ rfl
   by_cases hlt : k < u.bs.length
   ·obtain ⟨bb, oo, cs3, rfl, hbl, hrep, hc⟩ := HA.out.at hlt
    have hrep0 := hrep
    obtain ⟨An, cn, Ap, cp, A, c, rfl, -, -, -, -⟩ := hrep.nine
    have c0 := hc wr hbw 0 _ rfl
    have c1 := hc wr hbw 1 _ rfl
    have c2 := hc wr hbw 2 _ rfl
    have c3 := hc wr hbw 3 _ rfl
    have c4 := hc wr hbw 4 _ rfl
    have c5 := hc wr hbw 5 _ rfl
    have c6 := hc wr hbw 6 _ rfl
    have c7 := hc wr hbw 7 _ rfl
    have c8 := hc wr hbw 8 _ rfl
    rw [Nat.add_zero] at c0
    have hbm := body_may (unit_body HUN.out hlt)
    have HNO : Hid (spkB u u.bs[k] = false → E = false) := fun h => by rw [← HE.out]; exact fits_no hlt h
    have HY : Hid (spkB u u.bs[k] = true → ∀ j (h : j < u.bs.length), j < k + 1 → spkB u u.bs[j] = true) := fun h0 j h hj => by
     rcases Nat.lt_or_ge j k with h1 | h1
     ·exact hg j h h1
     ·have e : j = k := by omega
      subst e
      exact h0
    have HF : Hid (∀ W, Below wr.heap.size wr W → (W.cell? ⟨w.heap.size, 0, none⟩ = some (.slice (some ⟨bb, oo, none⟩) u.bs.length ua) ∧ W.cell? ⟨w.heap.size, 1, none⟩ = some (.slice UB u.gs.length ub) ∧ W.cell? ⟨w.heap.size, 2, none⟩ = some (.slice UC u.os.length uc) ∧ W.cell? ⟨bb, oo + k * 9, none⟩ = some (.string u.bs[k].nm) ∧ W.cell? ⟨bb, oo + k * 9 + 1, none⟩ = some (.bool u.bs[k].static) ∧ W.cell? ⟨bb, oo + k * 9 + 2, none⟩ = some (.int .i64 u.bs[k].ty.k) ∧ W.cell? ⟨bb, oo + k * 9 + 3, none⟩ = some (.string u.bs[k].ty.nm) ∧ W.cell? ⟨bb, oo + k * 9 + 4, none⟩ = some (.slice An u.bs[k].ty.ns.length cn) ∧ W.cell? ⟨bb, oo + k * 9 + 5, none⟩ = some (.slice Ap u.bs[k].ty.ps.length cp) ∧ W.cell? ⟨bb, oo + k * 9 + 6, none⟩ = some (.bool u.bs[k].ty.many) ∧ W.cell? ⟨bb, oo + k * 9 + 7, none⟩ = some (.int .i64 u.bs[k].regs) ∧ W.cell? ⟨bb, oo + k * 9 + 8, none⟩ = some (.slice A u.bs[k].code.length c))) := fun W h => by
     have k1 := kur.below h
     have h5 := hbw.trans (h.mono hbw.size)
     exact ⟨k1.cell 0 _ rfl, k1.cell 1 _ rfl, k1.cell 2 _ rfl, hc W h5 0 _ rfl, hc W h5 1 _ rfl, hc W h5 2 _ rfl, hc W h5 3 _ rfl, hc W h5 4 _ rfl, hc W h5 5 _ rfl, hc W h5 6 _ rfl, hc W h5 7 _ rfl, hc W h5 8 _ rfl⟩
    have HS : Hid (∀ W, (Below wr.heap.size wr W ∧ (W.cell? ⟨w.heap.size, 0, none⟩ = some (.slice (some ⟨bb, oo, none⟩) u.bs.length ua) ∧ W.cell? ⟨w.heap.size, 1, none⟩ = some (.slice UB u.gs.length ub) ∧ W.cell? ⟨w.heap.size, 2, none⟩ = some (.slice UC u.os.length uc) ∧ W.cell? ⟨bb, oo + k * 9, none⟩ = some (.string u.bs[k].nm) ∧ W.cell? ⟨bb, oo + k * 9 + 1, none⟩ = some (.bool u.bs[k].static) ∧ W.cell? ⟨bb, oo + k * 9 + 2, none⟩ = some (.int .i64 u.bs[k].ty.k) ∧ W.cell? ⟨bb, oo + k * 9 + 3, none⟩ = some (.string u.bs[k].ty.nm) ∧ W.cell? ⟨bb, oo + k * 9 + 4, none⟩ = some (.slice An u.bs[k].ty.ns.length cn) ∧ W.cell? ⟨bb, oo + k * 9 + 5, none⟩ = some (.slice Ap u.bs[k].ty.ps.length cp) ∧ W.cell? ⟨bb, oo + k * 9 + 6, none⟩ = some (.bool u.bs[k].ty.many) ∧ W.cell? ⟨bb, oo + k * 9 + 7, none⟩ = some (.int .i64 u.bs[k].regs) ∧ W.cell? ⟨bb, oo + k * 9 + 8, none⟩ = some (.slice A u.bs[k].code.length c))) → Calls Tryz.prog 17 #[.agg #[.slice (some ⟨bb, oo, none⟩) u.bs.length ua, .slice UB u.gs.length ub, .slice UC u.os.length uc], .agg #[.string u.bs[k].nm, .bool u.bs[k].static, .int .i64 u.bs[k].ty.k, .string u.bs[k].ty.nm, .slice An u.bs[k].ty.ns.length cn, .slice Ap u.bs[k].ty.ps.length cp, .bool u.bs[k].ty.many, .int .i64 u.bs[k].regs, .slice A u.bs[k].code.length c]] W fun e w' => e = .returned (.bool (spkB u u.bs[k])) ∧ Below W.heap.size W w') := fun W h => by
     have h5 := hbw.trans (h.1.mono hbw.size)
     exact speaksR_any u u.bs[k] _ _ W (HU.out W h5) (hrep0.keep h5) HUN.out hbm.1 hbm.2
    have hi : (k : Int) < (u.bs.length : Int) := by omega
    have hi1 : (0 : Int) ≤ (k : Int) := by omega
    have hi6 : (k : Int) < 40 := by omega
    clear hg hc hrep hrep0 hbm HE HU HA
    generalize hsp : spkB u u.bs[k] = sp at *
    clear hsp
    generalize u.bs[k] = bd at *
    cases sp
    ·have hq := Lh (HNO.out rfl)
     clear HNO HY
     go_upto_region 6 with (fail)
     refine dQ (fun W => Below wr.heap.size wr W ∧ (At W (w.heap.size) 0 (.slice (some ⟨bb, oo, none⟩) u.bs.length ua) ∧ At W (w.heap.size) 1 (.slice UB u.gs.length ub) ∧ At W (w.heap.size) 2 (.slice UC u.os.length uc) ∧ At W bb (oo + k * 9) (.string bd.nm) ∧ At W bb (oo + k * 9 + 1) (.bool bd.static) ∧ At W bb (oo + k * 9 + 2) (.int .i64 bd.ty.k) ∧ At W bb (oo + k * 9 + 3) (.string bd.ty.nm) ∧ At W bb (oo + k * 9 + 4) (.slice An bd.ty.ns.length cn) ∧ At W bb (oo + k * 9 + 5) (.slice Ap bd.ty.ps.length cp) ∧ At W bb (oo + k * 9 + 6) (.bool bd.ty.many) ∧ At W bb (oo + k * 9 + 7) (.int .i64 bd.regs) ∧ At W bb (oo + k * 9 + 8) (.slice A bd.code.length c))) (held0 HF) (fun hHeld => ?_)
     clear u0 u1 u2 c0 c1 c2 c3 c4 c5 c6 c7 c8
     refine tQ4 0 1 2 3 ?_; try simp only [sq]
     refine tQ2 4 5 ?_; try simp only [sq]
     refine wpAnyH_ready (rs := [6]) (by kernel_rfl) (by simp) ?_
     refine AllReadyH.cons rfl (fun K hK => ?_) AllReadyH.nil
     go_simp
     with_reducible refine (HS.out _ (by assumption)).mono ?_
     rintro e w' ⟨rfl, hbq⟩
     refine hK.out _ _ (heldS HF (by assumption) hbq) (fun hHeld => ?_)
     clear hK K hbq
     (try simp only [Act.put, List.setIfInBounds_toArray, List.set_cons_zero, List.set_cons_succ])
     refine tQ 7 ?_; try simp only [sq]
     refine fQ ?_ _
     have b5 := hb.trans (hHeld.1.mono hb.size)
     have b6 := hbw.trans (hHeld.1.mono hbw.size)
     go_wp2_with fail
     go_ret
     exact ⟨by rw [hq.out]; rfl, b6⟩
    ·have hq := Lh (HY.out rfl)
     clear HNO HY
     go_upto_region 6 with (fail)
     refine dQ (fun W => Below wr.heap.size wr W ∧ (At W (w.heap.size) 0 (.slice (some ⟨bb, oo, none⟩) u.bs.length ua) ∧ At W (w.heap.size) 1 (.slice UB u.gs.length ub) ∧ At W (w.heap.size) 2 (.slice UC u.os.length uc) ∧ At W bb (oo + k * 9) (.string bd.nm) ∧ At W bb (oo + k * 9 + 1) (.bool bd.static) ∧ At W bb (oo + k * 9 + 2) (.int .i64 bd.ty.k) ∧ At W bb (oo + k * 9 + 3) (.string bd.ty.nm) ∧ At W bb (oo + k * 9 + 4) (.slice An bd.ty.ns.length cn) ∧ At W bb (oo + k * 9 + 5) (.slice Ap bd.ty.ps.length cp) ∧ At W bb (oo + k * 9 + 6) (.bool bd.ty.many) ∧ At W bb (oo + k * 9 + 7) (.int .i64 bd.regs) ∧ At W bb (oo + k * 9 + 8) (.slice A bd.code.length c))) (held0 HF) (fun hHeld => ?_)
     clear u0 u1 u2 c0 c1 c2 c3 c4 c5 c6 c7 c8
     refine tQ4 0 1 2 3 ?_; try simp only [sq]
     refine tQ2 4 5 ?_; try simp only [sq]
     refine wpAnyH_ready (rs := [6]) (by kernel_rfl) (by simp) ?_
     refine AllReadyH.cons rfl (fun K hK => ?_) AllReadyH.nil
     go_simp
     with_reducible refine (HS.out _ (by assumption)).mono ?_
     rintro e w' ⟨rfl, hbq⟩
     refine hK.out _ _ (heldS HF (by assumption) hbq) (fun hHeld => ?_)
     clear hK K hbq
     (try simp only [Act.put, List.setIfInBounds_toArray, List.set_cons_zero, List.set_cons_succ])
     refine tQ 7 ?_; try simp only [sq]
     refine fQ ?_ _
     have b5 := hb.trans (hHeld.1.mono hb.size)
     have b6 := hbw.trans (hHeld.1.mono hbw.size)
     go_wp2_with fail
     go_roundw
     case rel => exact ⟨k + 1, by omega, by go_num, hq.out, b5, b6⟩
     case measure => simp [intOf] <;> omega
   ·have hi : ¬ (k : Int) < (u.bs.length : Int) := by omega
    have hq : Hid (E = true) := by show _ = _; rw [← HE.out]; exact fits_yes HUN.out fun j h => hg j h (by omega)
    clear hg HE
    go_wp2_with fail
    go_ret
    exact ⟨by rw [hq.out]; rfl, hbw⟩
def fstO {α : Type} (n : Nat) (f : Nat → Option α) : Option α := (List.range n).findSome? f
theorem fstO_some {α : Type} {n k : Nat} {f : Nat → Option α} {x : α} (hk : k < n) (h : f k = some x) (hn : ∀ j, j < k → f j = none) : fstO n f = some x := by
 unfold fstO
 obtain ⟨m, rfl⟩ : ∃ m, n = k + 1 + m := ⟨n - (k + 1), by omega⟩
 rw [List.range_add, List.findSome?_append, List.range_succ, List.findSome?_append]
 have : (List.range k).findSome? f = none := by
  rw [List.findSome?_eq_none_iff]
  intro j hj
  exact hn j (List.mem_range.1 hj)
 rw [this]
 simp [h]
theorem fstO_none {α : Type} {n : Nat} {f : Nat → Option α} (hn : ∀ j, j < n → f j = none) : fstO n f = none := by
 unfold fstO
 rw [List.findSome?_eq_none_iff]
 intro j hj
 exact hn j (List.mem_range.1 hj)
def unAt (l : List Un) (u : Nat) : Un := l.getD u default
theorem unAt_at {l : List Un} {u : Nat} (h : u < l.length) : unAt l u = l[u] := by
 unfold unAt
 simp [List.getD_eq_getElem?_getD, h]
abbrev Trb := Int × Int × Int
noncomputable def ckForm (l : List Un) : Option Trb := fstO l.length fun u => if unitB (unAt l u) then none else some ((u : Int), 2, 0)
noncomputable def ckSpk (l : List Un) : Option Trb := fstO l.length fun u => fstO (unAt l u).bs.length fun i => if spkB (unAt l u) ((unAt l u).bs.getD i default) then none else some ((u : Int), 4, (i : Int))
def opens (u : Un) : List (ByteArray × Bool) := u.bs.map (fun b => (b.nm, b.static)) ++ u.gs.map (fun g => (g.nm, g.static))
def ckTwice (l : List Un) : Option Trb := fstO l.length fun u => fstO (opens (unAt l u)).length fun i =>
 if !((opens (unAt l u)).getD i (⟨#[]⟩, true)).2 && decide ((homR l ((opens (unAt l u)).getD i (⟨#[]⟩, true)).1).1 < (u : Int)) then some ((u : Int), 5, (i : Int)) else none
noncomputable def ckOuts (l : List Un) : Option Trb := fstO l.length fun u => fstO (unAt l u).os.length fun i =>
 if (homR l ((unAt l u).os.getD i default).nm).1 < 0 then some ((u : Int), 4, (i : Int))
 else if (((homR l ((unAt l u).os.getD i default).nm).2.1 == 1) != ((unAt l u).os.getD i default).fn) || !(eqB (tyF (unAt l (homR l ((unAt l u).os.getD i default).nm).1.toNat) ((unAt l u).os.getD i default).nm).1 ((unAt l u).os.getD i default).ty) then some ((u : Int), 3, (i : Int))
 else none
open Classical in
noncomputable def ckMain (l : List Un) : Option Trb :=
 if (homR l ⟨#[109, 97, 105, 110]⟩).1 < 0 ∨ (homR l ⟨#[109, 97, 105, 110]⟩).2.1 ≠ 1 then some (0, 4, 0)
 else if textB ((unAt l (homR l ⟨#[109, 97, 105, 110]⟩).1.toNat).bs.getD (homR l ⟨#[109, 97, 105, 110]⟩).2.2 default).ty ≠ ⟨#[102, 110, 40, 41, 105, 110, 116]⟩ then some (0, 3, 0)
 else none
open Classical in
noncomputable def checkP (l : List Un) : Trb :=
 if l.length < 1 ∨ 4 < l.length then (0, 1, 0)
 else (((((ckForm l).or (ckSpk l)).or (ckTwice l)).or (ckOuts l)).or (ckMain l)).getD (0, 0, 0)
def tB (T : Ty) : ByteArray := ⟨(textT T).toArray⟩
theorem tB_data (T : Ty) : (tB T).data.toList = textT T := by simp [tB]
theorem tB_of {T : Ty} {s : ByteArray} (h : s.data.toList = textT T) : s = tB T := Go.WideShapes.bytes_inj (h.trans (tB_data T).symm)
theorem size_data (s : ByteArray) : s.size = s.data.toList.length := by simp
def TextR (T : Ty) : Prop := ∀ (cs : List Value) (w : World), Rep w T cs → Calls Tryz.prog 30 #[.agg cs.toArray] w fun e w' => e = .returned (.string (tB T)) ∧ Below w.heap.size w w'
theorem textR_int (T : Ty) (hk : T.k = 1) : TextR T := by
 intro cs w hr
 obtain ⟨An, cn, Ap, cp, rfl, -, -⟩ := hr.five
 have e : Hid (tB T = ⟨#[105, 110, 116]⟩) := by show _ = _; unfold tB; rw [text_1 hk]
 rw [hk]
 go_enter Tryz.func30, Tryz.ntmps30
 go_wp2
 go_ret
 exact ⟨by rw [e.out]; rfl, bel⟩
theorem textR_long (T : Ty) (hk : T.k = 2) : TextR T := by
 intro cs w hr
 obtain ⟨An, cn, Ap, cp, rfl, -, -⟩ := hr.five
 have e : Hid (tB T = ⟨#[108, 111, 110, 103]⟩) := by show _ = _; unfold tB; rw [text_2 hk]
 rw [hk]
 go_enter Tryz.func30, Tryz.ntmps30
 go_wp2
 go_ret
 exact ⟨by rw [e.out]; rfl, bel⟩
def TxRel (T : Ty) (w : World) (s i : Value) (H : Nat) (bs : Array Value) (wr : World) : Prop :=
 ∃ (k : Nat) (S : ByteArray), k ≤ T.ps.length ∧ i = .int .i64 k ∧ s = .string S ∧ S.data.toList = [115, 116, 114, 117, 99, 116, 32] ++ (T.nm.data.toList ++ 123 :: fieldsTx (T.ns.take k) ((T.ps.map textT).take k)) ∧ Below w.heap.size w wr ∧ Blk wr H 34 bs
theorem textR_struct (d : Nat) (T : Ty) (hm : mayT (d + 1) T = true) (hbd : (textT T).length ≤ 80000) (hk : T.k = 3) (IH : ∀ p ∈ T.ps, TextR p) : TextR T := by
 intro cs w hr
 obtain ⟨An, cn, Ap, cp, rfl, hN, hP⟩ := hr.five
 obtain ⟨-, hnm, hlen, -, hns⟩ := may_st hm hk
 have hmx := may_len hm
 have hnm16 : T.nm.size ≤ 16 := (name_false hnm).2.1
 have HTX := Lh (text_3 hk)
 rw [HTX.out] at hbd
 rw [hk]
 have HLT : Hid (T.ns.length = (T.ps.map textT).length) := by show _ = _; simpa using hlen
 have HL := Lh hlen
 have HNS := Lh hns
 clear hlen hnm hns
 simp only [List.length_append, List.length_cons, List.length_nil, Array.length_toList, ByteArray.size_data] at hbd
 have k0 := Blk.new_ w 34 #[.int .i64 3, .string T.nm, .slice An T.ns.length cn, .slice Ap T.ps.length cp, .bool T.many]
 go_enter Tryz.func30, Tryz.ntmps30
 go_wp2
 go_loopw [3, 4, 5] (fun s i _ wr => TxRel T w s i w.heap.size #[.int .i64 3, .string T.nm, .slice An T.ns.length cn, .slice Ap T.ps.length cp, .bool T.many] wr) (fun _ i _ _ => T.ps.length - (intOf i).toNat)
 case atStart => exact ⟨0, _, Nat.zero_le _, rfl, rfl, by simp [fieldsTx], bel, k0⟩
 case round =>
  clear k0
  obtain ⟨k, S, hk', rfl, rfl, hS, hb, k1⟩ := hrel
  have q := k1.five
  by_cases hlt : k < T.ps.length
  ·obtain ⟨b, o, An', cn', Ap', cp', rfl, hbl, hrep, hc⟩ := (RepL.keep hb T.ps _ hP).five hlt
   have hln : k < T.ns.length := by rw [HL.out]; exact hlt
   obtain ⟨bn, on, rfl, hbn, cn0⟩ := hN.str hln
   have hbn' : bn < wr.heap.size := Nat.lt_of_lt_of_le hbn hb.size
   rw [← keep_cell hb hbn] at cn0
   have hn16 : T.ns[k].size ≤ 16 := (name_false (HNS.out _ (List.getElem_mem hln))).2.1
   have hlk : k < (T.ps.map textT).length := by simpa using hlt
   have hle := fieldsTx_le HLT.out hln hlk
   simp only [List.getElem_map] at hle
   have HT2 : Hid (fieldsTx (T.ns.take (k + 1)) ((T.ps.map textT).take (k + 1)) = fieldsTx (T.ns.take k) ((T.ps.map textT).take k) ++ (textT T.ps[k] ++ 32 :: (T.ns[k].data.toList ++ [59]))) := by
    have := fieldsTx_take HLT.out hln hlk
    simp only [List.getElem_map] at this
    exact this
   have hIH := Lh (IH _ (List.getElem_mem hlt))
   have hi : (k : Int) < (T.ps.length : Int) := by omega
   have hk7 : (k : Int) < 7 := by omega
   have hi2 : (k : Int) < (T.ns.length : Int) := by omega
   have HS := Lh hS
   have hSl : S.size ≤ 24 + (fieldsTx (T.ns.take k) ((T.ps.map textT).take k)).length := by
    rw [size_data, hS]
    simp only [List.length_append, List.length_cons, List.length_nil, Array.length_toList, ByteArray.size_data]
    omega
   clear hS
   have HTB : Hid ((tB T.ps[k]).data.toList = textT T.ps[k]) := tB_data _
   have hTl : (tB T.ps[k]).size = (textT T.ps[k]).length := by rw [size_data, tB_data]
   have hTl' : (tB T.ps[k]).size ≤ 80000 := by omega
   have hSl' : S.size ≤ 80100 := by omega
   clear hle hTl hSl
   generalize T.ps[k] = p at *
   generalize T.ns[k] = nk at *
   generalize fieldsTx (T.ns.take k) ((T.ps.map textT).take k) = F at *
   go_wp2_with fail
   refine (hIH.out _ _ hrep).mono ?_
   rintro e w2 ⟨rfl, hb2⟩
   have b3 := hb.trans (hb2.mono hb.size)
   have k2 := k1.below hb2
   have cn2 := (keep_cell hb2 hbn').trans cn0
   clear q k1 hc cn0
   have q := k2.five
   generalize tB p = P at *
   go_wp2
   go_roundw
   case rel =>
    refine ⟨k + 1, _, by omega, by go_num, rfl, ?_, b3, k2⟩
    rw [HT2.out]
    simp [HS.out, HTB.out]
   case measure => simp [intOf] <;> omega
  ·have hi : ¬ (k : Int) < (T.ps.length : Int) := by omega
   obtain rfl : k = T.ps.length := by omega
   have e2 : (T.ns.take T.ps.length) = T.ns := by rw [← HL.out]; exact List.take_length
   have e3 : ((T.ps.map textT).take T.ps.length) = T.ps.map textT := List.take_of_length_le (by simp)
   rw [e2, e3] at hS
   clear e2 e3
   have hSl : S.size ≤ 80100 := by
    rw [size_data, hS]
    simp only [List.length_append, List.length_cons, List.length_nil, Array.length_toList, ByteArray.size_data]
    omega
   have HS := Lh hS
   clear hS
   go_wp2
   go_ret
   refine ⟨?_, hb⟩
   rw [← tB_of (T := T) (s := S ++ ⟨#[125]⟩) (by rw [HTX.out]; simp [HS.out])]
   rfl
theorem lenB_4 : ∀ {d : Nat}, d ≤ 4 → lenB d ≤ 80000
 | 0, _ => by decide
 | 1, _ => by decide
 | 2, _ => by decide
 | 3, _ => by decide
 | 4, _ => by decide
 | d + 5, h => absurd h (by omega)
theorem params_join (many : Bool) : ∀ (first : Bool) (ts : List (List UInt8)) (t : List UInt8), paramsTx many first (ts ++ [t]) = (if first then [] else [44]) ++ ts.flatMap (fun t => t ++ [44]) ++ (t ++ (if many then [44, 46, 46, 46] else []))
 | first, [], t => by cases many <;> cases first <;> simp [paramsTx]
 | first, u :: ts, t => by
  simp only [List.cons_append, paramsTx]
  rw [params_join many false ts t]
  cases first <;> simp
def parS (many : Bool) (ts : List (List UInt8)) (k : Nat) : List UInt8 :=
 if k < ts.length ∨ many = true then (ts.take k).flatMap (fun t => t ++ [44]) else paramsTx false true ts
theorem parS_end (many : Bool) (ts : List (List UInt8)) : paramsTx many true ts = parS many ts ts.length ++ (if many then [46, 46, 46] else []) := by
 cases many
 ·simp [parS]
 ·simp only [parS, or_true, if_true, List.take_length]
  rcases List.eq_nil_or_concat ts with rfl | ⟨us, t, rfl⟩
  ·rfl
  ·rw [List.concat_eq_append, params_join]
   simp
theorem parS_zero (many : Bool) (ts : List (List UInt8)) : parS many ts 0 = [] := by
 unfold parS
 split
 ·simp
 ·cases ts with
  | nil => rfl
  | cons t ts => simp_all
theorem parS_succ (many : Bool) (ts : List (List UInt8)) (k : Nat) (h : k < ts.length) : parS many ts (k + 1) = parS many ts k ++ (ts[k] ++ (if k + 1 < ts.length ∨ many = true then [44] else [])) := by
 have h0 : parS many ts k = (ts.take k).flatMap (fun t => t ++ [44]) := by unfold parS; rw [if_pos (.inl h)]
 rw [h0]
 by_cases hc : k + 1 < ts.length ∨ many = true
 ·rw [if_pos hc]
  unfold parS
  rw [if_pos hc, List.take_succ_eq_append_getElem h, List.flatMap_append]
  simp only [List.flatMap_cons, List.flatMap_nil, List.append_nil, List.append_assoc]
 ·rw [if_neg hc]
  unfold parS
  rw [if_neg hc]
  have hk : k + 1 = ts.length := by omega
  have e : ts = ts.take k ++ [ts[k]] := by
   rw [← List.take_succ_eq_append_getElem h, hk, List.take_length]
  conv => lhs; rw [e]
  rw [params_join]
  simp
theorem parS_len (many : Bool) (ts : List (List UInt8)) (L : Nat) (hL : ∀ t ∈ ts, t.length ≤ L) (k : Nat) (hk : k ≤ ts.length) : (parS many ts k).length ≤ k * (L + 1) := by
 induction k with
 | zero => rw [parS_zero]; simp
 | succ k ih =>
  have := ih (by omega)
  have hkl : k < ts.length := by omega
  have h1 := hL _ (List.getElem_mem hkl)
  rw [parS_succ many ts k hkl, Nat.succ_mul]
  simp only [List.length_append]
  split <;> simp <;> omega
def FnRel (T : Ty) (ts : List (List UInt8)) (m : Nat) (w : World) (s i : Value) (H : Nat) (bs : Array Value) (wr : World) : Prop :=
 ∃ (k : Nat) (S : ByteArray), k ≤ m ∧ i = .int .i64 k ∧ s = .string S ∧ S.data.toList = [102, 110, 40] ++ parS T.many ts k ∧ Below w.heap.size w wr ∧ Blk wr H 34 bs
theorem textR_fn (d : Nat) (T : Ty) (hm : mayT (d + 1) T = true) (hbd : ∀ p ∈ T.ps, (textT p).length ≤ 80000) (hk : T.k = 4) (IH : ∀ p ∈ T.ps, TextR p) : TextR T := by
 intro cs w hr
 obtain ⟨An, cn, Ap, cp, rfl, hN, hP⟩ := hr.five
 obtain ⟨-, -, hp, -⟩ := may_fn hm hk
 have hmx := may_len hm
 have HTX := Lh (text_4 hk hp)
 rw [hk]
 obtain ⟨m, hmm⟩ : ∃ m, T.ps.length = m + 1 := ⟨T.ps.length - 1, by have := List.length_pos_iff.2 hp; omega⟩
 have HM := Lh hmm
 have HTL : Hid ((T.ps.dropLast.map textT).length = m) := by show _ = _; simp; omega
 have HTK : Hid (∀ k (h : k < m) (h2 : k < T.ps.length) (h3 : k < (T.ps.dropLast.map textT).length), (T.ps.dropLast.map textT)[k] = textT T.ps[k]) := fun k h h2 h3 => by simp
 have HBD : Hid (∀ t ∈ T.ps.dropLast.map textT, t.length ≤ 80000) := fun t ht => by
  obtain ⟨p, hpp, rfl⟩ := List.mem_map.1 ht
  exact hbd p (List.dropLast_subset _ hpp)
 have hL : T.ps.getLast hp = T.ps[m]'(by omega) := by rw [List.getLast_eq_getElem]; congr 1; omega
 rw [hL] at HTX
 have hIHL := Lh (IH _ (List.getElem_mem (by omega : m < T.ps.length)))
 have HPL := Lh (fun (W : World) (hb : Below w.heap.size w W) => (RepL.keep hb T.ps _ hP).five (by omega : m < T.ps.length))
 have hbl := hbd _ (List.getElem_mem (by omega : m < T.ps.length))
 rw [show (textT (T.ps[m]'(by omega))).length = (tB (T.ps[m]'(by omega))).size from by rw [size_data, tB_data]] at hbl
 have HBL := Lh (tB_data (T.ps[m]'(by omega)))
 generalize hgl : T.ps[m]'(by omega) = pl at *
 clear hgl hL
 have HPE := Lh (parS_end T.many (T.ps.dropLast.map textT))
 generalize hts : T.ps.dropLast.map textT = ts at *
 clear hts
 rw [hmm]
 have hm7 : m < 7 := by omega
 have hm7' : (m : Int) < 7 := by omega
 clear hmm
 have k0 := Blk.new_ w 34 #[.int .i64 4, .string T.nm, .slice An T.ns.length cn, .slice Ap (m + 1) cp, .bool T.many]
 go_enter Tryz.func30, Tryz.ntmps30
 go_wp2
 go_loopw [6, 8, 9] (fun s i _ wr => FnRel T ts m w s i w.heap.size #[.int .i64 4, .string T.nm, .slice An T.ns.length cn, .slice Ap (m + 1) cp, .bool T.many] wr) (fun _ i _ _ => m - (intOf i).toNat)
 case atStart => exact ⟨0, _, Nat.zero_le _, rfl, rfl, by simp [parS_zero], bel, k0⟩
 case round =>
  clear k0
  obtain ⟨k, S, hk', rfl, rfl, hS, hb, k1⟩ := hrel
  have q := k1.five
  have hSl : S.size ≤ 600000 := by
   have h1 := parS_len T.many ts 80000 HBD.out k (by have := HTL.out; omega)
   have h2 : k * (80000 + 1) ≤ 7 * (80000 + 1) := Nat.mul_le_mul_right _ (by omega)
   rw [size_data, hS]
   simp only [List.length_append, List.length_cons, List.length_nil]
   omega
  have HS := Lh hS
  clear hS
  by_cases hlt : k < m
  ·have hltp : k < T.ps.length := by have := HM.out; omega
   obtain ⟨b, o, An', cn', Ap', cp', rfl, hbl', hrep, hc⟩ := (RepL.keep hb T.ps _ hP).five hltp
   have hlk : k < ts.length := by have := HTL.out; omega
   have hsu := parS_succ T.many ts k hlk
   rw [HTK.out k hlt hltp hlk, HTL.out] at hsu
   have HSU := Lh hsu
   have hIH := Lh (IH _ (List.getElem_mem hltp))
   have hi : (k : Int) < (m : Int) := by omega
   have hk7 : (k : Int) < 7 := by omega
   have hi2 : (k : Int) < (m : Int) + 1 := by omega
   have HTB : Hid ((tB T.ps[k]).data.toList = textT T.ps[k]) := tB_data _
   have hTl : (tB T.ps[k]).size ≤ 80000 := by
    have := hbd _ (List.getElem_mem hltp)
    rw [size_data, tB_data]; exact this
   clear hsu
   generalize T.ps[k] = p at *
   generalize parS T.many ts k = F at *
   go_wp2_with fail
   refine (hIH.out _ _ hrep).mono ?_
   rintro e w2 ⟨rfl, hb2⟩
   have b3 := hb.trans (hb2.mono hb.size)
   have k2 := k1.below hb2
   clear q k1 hc
   have q := k2.five
   generalize tB p = P at *
   by_cases hc1 : k + 1 < m
   ·have g1 : (k : Int) + 1 < (m : Int) := by omega
    have hf := HSU.out
    rw [if_pos (.inl hc1)] at hf
    have HF := Lh hf
    clear hf HSU
    go_wp2
    go_roundw
    case rel =>
     refine ⟨k + 1, _, by omega, by go_num, rfl, ?_, b3, k2⟩
     rw [HF.out]
     simp [HS.out, HTB.out]
    case measure => simp [intOf] <;> omega
   ·have g1 : ¬ (k : Int) + 1 < (m : Int) := by omega
    rcases Bool.eq_false_or_eq_true T.many with hmn | hmn
    rotate_left
    ·have hf := HSU.out
     rw [if_neg (by rw [hmn]; simp; omega)] at hf
     have HF := Lh hf
     have HMN := Lh hmn
     have k2' := k2
     rw [hmn] at q
     clear hf HSU hmn
     go_wp2
     go_roundw
     case rel =>
      refine ⟨k + 1, _, by omega, by go_num, rfl, ?_, b3, k2'⟩
      rw [HF.out]
      simp [HS.out, HTB.out]
     case measure => simp [intOf] <;> omega
    ·have hf := HSU.out
     rw [if_pos (.inr hmn)] at hf
     have HF := Lh hf
     have k2' := k2
     rw [hmn] at q
     clear hf HSU hmn
     go_wp2
     go_roundw
     case rel =>
      refine ⟨k + 1, _, by omega, by go_num, rfl, ?_, b3, k2'⟩
      rw [HF.out]
      simp [HS.out, HTB.out]
     case measure => simp [intOf] <;> omega
  ·have hi : ¬ (k : Int) < (m : Int) := by omega
   obtain rfl : k = m := by omega
   obtain ⟨b, o, An', cn', Ap', cp', rfl, hbl', hrep, hc⟩ := HPL.out _ hb
   have HPE' := HPE
   rw [HTL.out] at HPE'
   rcases hmn : T.many with _ | _
   ·rw [hmn] at q
    have HMN := Lh hmn
    clear hmn
    go_wp2_with fail
    refine (hIHL.out _ _ hrep).mono ?_
    rintro e w2 ⟨rfl, hb2⟩
    clear q hc k1
    generalize tB pl = P at *
    go_wp2
    go_ret
    refine ⟨?_, hb.trans (hb2.mono hb.size)⟩
    rw [← tB_of (T := T) (s := S ++ ⟨#[41]⟩ ++ P) (by rw [HTX.out, HPE'.out, HMN.out]; simp [HS.out, HBL.out, HMN.out])]
    rfl
   ·rw [hmn] at q
    have HMN := Lh hmn
    clear hmn
    go_wp2_with fail
    refine (hIHL.out _ _ hrep).mono ?_
    rintro e w2 ⟨rfl, hb2⟩
    clear q hc k1
    generalize tB pl = P at *
    go_wp2
    go_ret
    refine ⟨?_, hb.trans (hb2.mono hb.size)⟩
    rw [← tB_of (T := T) (s := S ++ ⟨#[46, 46, 46]⟩ ++ ⟨#[41]⟩ ++ P) (by rw [HTX.out, HPE'.out, HMN.out]; simp [HS.out, HBL.out, HMN.out])]
    rfl
theorem textR_all : ∀ (d : Nat), d ≤ 4 → ∀ (T : Ty), mayT d T = true → TextR T
 | 0, _, T, h => by cases h
 | d + 1, hd, T, h => by
  rcases may_kind h with k | k | k | k
  ·exact textR_int T k
  ·exact textR_long T k
  ·exact textR_struct d T h (Nat.le_trans (text_bd _ _ h) (lenB_4 hd)) k fun p hp => textR_all d (by omega) p ((may_st h k).2.2.2.1 p hp)
  ·exact textR_fn d T h (fun p hp => Nat.le_trans (text_bd _ _ ((may_fn h k).2.2.2 p hp)) (lenB_4 (by omega))) k fun p hp => textR_all d (by omega) p ((may_fn h k).2.2.2 p hp)
end Go.Proofs.YthihaeobkoiljaaGreat
namespace Go.Proofs.YthihaeobkoiljaaGreat
open Go.RowKit
open Go.Maps (Keyed)
structure Rc where
 V : Nat → Prop
 P : World → Prop
 fr : ∀ {W W' : World}, P W → W.heap.size ≤ W'.heap.size → (∀ b, V b → b < W.heap.size → W'.heap[b]? = W.heap[b]?) → P W'
def bx (b : Nat) (T : TypeId) (vs : Array Value) : Rc := ⟨fun x => x = b, fun W => Blk W b T vs, fun h _ hk => (hk _ rfl h.lt).trans h⟩
theorem owns_keep {w w' : World} {B : Nat} {e : TypeId} {s n : Nat} {v : Value} {xs : List Value} (h : w.ownsRow B e s v n xs) (hk : ∀ g, v.ownBlock = some g → w'.heap[g]? = w.heap[g]?) : w'.ownsRow B e s v n xs := by
 refine ⟨h.1, ?_⟩
 rcases h.2 with h | ⟨g, cap, cur, rfl, hb, hg, h⟩
 ·exact .inl h
 ·exact .inr ⟨g, cap, cur, rfl, hb, (hk g rfl).trans hg, h⟩
def ow (B : Nat) (e : TypeId) (s : Nat) (v : Value) (n : Nat) (xs : List Value) : Rc := ⟨fun b => v.ownBlock = some b, fun W => W.ownsRow B e s v n xs, fun h hs hk => owns_keep h fun g e => hk g e (h.lt g e).2⟩
def mq (P : Program) (k : TypeId) (b : Nat) (g : Value → Option Value) : Rc := ⟨fun x => x = b, fun W => MapIs P k W b g, fun h hs hk => h.keep (hk b rfl h.lt)⟩
structure Chg (V : Nat → Prop) (w w' : World) : Prop where
 os : w'.os = w.os
 tape : w'.tape = w.tape
 output : w'.output = w.output
 size : w.heap.size ≤ w'.heap.size
 block : ∀ k, k < w.heap.size → ¬ V k → w'.heap[k]? = w.heap[k]?
theorem Chg.of_grown {V : Nat → Prop} {w w' : World} {row : Option Nat} (h : w.grownBy w' row) (hv : ∀ g, row = some g → V g) : Chg V w w' := ⟨h.os, h.tape, h.output, h.size, fun k hk hn => h.block k hk fun e => hn (hv k e.symm)⟩
theorem Chg.refl (V : Nat → Prop) (w : World) : Chg V w w := ⟨rfl, rfl, rfl, Nat.le_refl _, fun _ _ _ => rfl⟩
theorem Chg.trans {V : Nat → Prop} {a b c : World} (h : Chg V a b) (k : Chg V b c) : Chg V a c := ⟨k.os.trans h.os, k.tape.trans h.tape, k.output.trans h.output, Nat.le_trans h.size k.size, fun i hi hn => (k.block i (Nat.lt_of_lt_of_le hi h.size) hn).trans (h.block i hi hn)⟩
theorem chg_set (w : World) (b o : Nat) (u : Value) : Chg (fun x => x = b) w (w.setCell ⟨b, o, none⟩ u) := ⟨rfl, rfl, rfl, by simp [World.setCell], fun k hk hn => Below.heap_setCell w ⟨b, o, none⟩ u k hn⟩
structure Hp (w W : World) (l : List Rc) : Prop where
 mv : Below w.heap.size w W
 ok : ∀ r ∈ l, r.P W
 inn : ∀ r ∈ l, ∀ b, r.V b → w.heap.size ≤ b ∧ b < W.heap.size
 ap : l.Pairwise fun r s => ∀ b, r.V b → ¬ s.V b
section
variable {w W W' : World} {l : List Rc} {r s t : Rc}
theorem Hp.init (w : World) : Hp w w [] := ⟨Below.refl _ _, fun _ h => (nomatch h), fun _ h => (nomatch h), List.Pairwise.nil⟩
theorem Hp.below (h : Hp w W l) (hb : Below W.heap.size W W') : Hp w W' l :=
 ⟨h.mv.trans (hb.mono h.mv.size), fun r hr => r.fr (h.ok r hr) hb.size fun b _ hlt => hb.block b hlt, fun r hr b hv => ⟨(h.inn r hr b hv).1, Nat.lt_of_lt_of_le (h.inn r hr b hv).2 hb.size⟩, h.ap⟩
theorem Hp.drew (h : Hp w W l) : Hp w W.drew l := h.below (Below.refl _ _).drew
theorem Hp.cons (h : Hp w W l) (hr : r.P W) (hi : ∀ b, r.V b → w.heap.size ≤ b ∧ b < W.heap.size) (ha : ∀ s ∈ l, ∀ b, r.V b → ¬ s.V b) : Hp w W (r :: l) :=
 ⟨h.mv, fun x hx => by rcases List.mem_cons.1 hx with rfl | hx; exact hr; exact h.ok x hx, fun x hx => by rcases List.mem_cons.1 hx with rfl | hx; exact hi; exact h.inn x hx, .cons ha h.ap⟩
theorem Hp.add (h : Hp w W l) (h' : Hp w W' l) (hr : r.P W') (hi : ∀ b, r.V b → W.heap.size ≤ b ∧ b < W'.heap.size) : Hp w W' (r :: l) :=
 h'.cons hr (fun b hb => ⟨Nat.le_trans h.mv.size (hi b hb).1, (hi b hb).2⟩) fun s hs b hb hv => by have := (h.inn s hs b hv).2; have := (hi b hb).1; omega
theorem Hp.box (h : Hp w W l) (T : TypeId) (vs : Array Value) : Hp w (W.alloc (.cells vs T)) (bx W.heap.size T vs :: l) :=
 h.add (h.below ((Below.refl _ _).alloc (Nat.le_refl _) _)) (Blk.new_ W T vs) fun b hb => by
  have e : b = W.heap.size := hb
  subst e
  simp
theorem Hp.map (h : Hp w W l) (P : Program) (k : TypeId) : Hp w (W.alloc (.map #[] 0)) (mq P k W.heap.size (fun _ => none) :: l) :=
 h.add (h.below ((Below.refl _ _).alloc (Nat.le_refl _) _)) (MapIs.made P k W) fun b hb => by
  have e : b = W.heap.size := hb
  subst e
  simp
theorem Hp.row0 (h : Hp w W l) (B : Nat) (e : TypeId) (s : Nat) : Hp w W (ow B e s (.slice none 0 0) 0 [] :: l) :=
 h.cons (World.ownsRow_nil _ _ _ _) (fun b hb => (nomatch (show (none : Option Nat) = some b from hb))) fun s _ b hb => (nomatch (show (none : Option Nat) = some b from hb))
theorem Hp.drop (h : Hp w W (r :: l)) : Hp w W l :=
 ⟨h.mv, fun x hx => h.ok x (.tail _ hx), fun x hx => h.inn x (.tail _ hx), (List.pairwise_cons.1 h.ap).2⟩
theorem Hp.perm {l' : List Rc} (h : Hp w W l) (hp : l.Perm l') : Hp w W l' :=
 ⟨h.mv, fun x hx => h.ok x (hp.mem_iff.2 hx), fun x hx => h.inn x (hp.mem_iff.2 hx), (hp.pairwise_iff fun {x y} hxy b hy hx => hxy b hx hy).1 h.ap⟩
theorem Hp.f1 {a b : Rc} (h : Hp w W (a :: b :: l)) : Hp w W (b :: a :: l) := h.perm (.swap _ _ _)
theorem Hp.f2 {a b c : Rc} (h : Hp w W (a :: b :: c :: l)) : Hp w W (c :: a :: b :: l) := h.perm ((List.perm_middle (l₁ := [a, b])))
theorem Hp.f3 {a b c d : Rc} (h : Hp w W (a :: b :: c :: d :: l)) : Hp w W (d :: a :: b :: c :: l) := h.perm ((List.perm_middle (l₁ := [a, b, c])))
theorem Hp.f4 {a b c d e : Rc} (h : Hp w W (a :: b :: c :: d :: e :: l)) : Hp w W (e :: a :: b :: c :: d :: l) := h.perm ((List.perm_middle (l₁ := [a, b, c, d])))
theorem Hp.f5 {a b c d e f : Rc} (h : Hp w W (a :: b :: c :: d :: e :: f :: l)) : Hp w W (f :: a :: b :: c :: d :: e :: l) := h.perm ((List.perm_middle (l₁ := [a, b, c, d, e])))
theorem Hp.f6 {a b c d e f g : Rc} (h : Hp w W (a :: b :: c :: d :: e :: f :: g :: l)) : Hp w W (g :: a :: b :: c :: d :: e :: f :: l) := h.perm ((List.perm_middle (l₁ := [a, b, c, d, e, f])))
theorem Hp.f7 {a b c d e f g i : Rc} (h : Hp w W (a :: b :: c :: d :: e :: f :: g :: i :: l)) : Hp w W (i :: a :: b :: c :: d :: e :: f :: g :: l) := h.perm ((List.perm_middle (l₁ := [a, b, c, d, e, f, g])))
theorem Hp.f8 {a b c d e f g i j : Rc} (h : Hp w W (a :: b :: c :: d :: e :: f :: g :: i :: j :: l)) : Hp w W (j :: a :: b :: c :: d :: e :: f :: g :: i :: l) := h.perm ((List.perm_middle (l₁ := [a, b, c, d, e, f, g, i])))
theorem Hp.sub {l' : List Rc} (h : Hp w W l) (hs : l'.Sublist l) : Hp w W l' :=
 ⟨h.mv, fun x hx => h.ok x (hs.mem hx), fun x hx => h.inn x (hs.mem hx), h.ap.sublist hs⟩
theorem Hp.one (h : Hp w W (r :: l)) : r.P W := h.ok r (.head _)
theorem Hp.at (h : Hp w W l) (k : Nat) (hk : l[k]? = some r) : r.P W := h.ok r (List.mem_of_getElem? hk)
theorem Hp.blk {b : Nat} {T : TypeId} {vs : Array Value} (h : Hp w W l) (k : Nat) (hk : l[k]? = some (bx b T vs)) : Blk W b T vs := h.at k hk
theorem Hp.c {b : Nat} {T : TypeId} {vs : Array Value} {v : Value} (h : Hp w W l) (k n : Nat) (hk : l[k]? = some (bx b T vs) := by rfl) (hv : vs[n]? = some v := by rfl) : W.cell? ⟨b, n, none⟩ = some v := (h.blk k hk).cell n v hv
theorem Hp.own {B : Nat} {e : TypeId} {s n : Nat} {v : Value} {xs : List Value} (h : Hp w W l) (k : Nat) (hk : l[k]? = some (ow B e s v n xs)) : W.ownsRow B e s v n xs := h.at k hk
theorem Hp.step (h : Hp w W (r :: l)) (c : Chg r.V W W') (ht : t.P W') (hv : ∀ b, t.V b → r.V b ∨ W.heap.size ≤ b ∧ b < W'.heap.size) : Hp w W' (t :: l) := by
 have a1 := List.pairwise_cons.1 h.ap
 have h1 : Hp w W' l := ⟨⟨c.os.trans h.mv.os, c.tape.trans h.mv.tape, c.output.trans h.mv.output, Nat.le_trans h.mv.size c.size, fun b hb => (c.block b (Nat.lt_of_lt_of_le hb h.mv.size) fun hr => by have := (h.inn _ (.head _) b hr).1; omega).trans (h.mv.block b hb)⟩,
  fun x hx => x.fr (h.ok x (.tail _ hx)) c.size fun b hb hlt => c.block b hlt fun hr => a1.1 x hx b hr hb, fun x hx b hb => ⟨(h.inn x (.tail _ hx) b hb).1, Nat.lt_of_lt_of_le (h.inn x (.tail _ hx) b hb).2 c.size⟩, a1.2⟩
 refine h1.cons ht (fun b hb => ?_) fun s hs b hb hsb => ?_
 ·rcases hv b hb with hr | hr
  ·exact ⟨(h.inn _ (.head _) b hr).1, Nat.lt_of_lt_of_le (h.inn _ (.head _) b hr).2 c.size⟩
  ·exact ⟨Nat.le_trans h.mv.size hr.1, hr.2⟩
 ·rcases hv b hb with hr | hr
  ·exact a1.1 s hs b hr hsb
  ·have := (h.inn s (.tail _ hs) b hsb).2; omega
theorem Hp.turn (h : Hp w W (r :: l)) (hv : ∀ b, t.V b → r.V b) (ht : r.P W → t.P W) : Hp w W (t :: l) :=
 h.drop.cons (ht h.one) (fun b hb => h.inn _ (.head _) b (hv b hb)) fun x hx b hb => (List.pairwise_cons.1 h.ap).1 x hx b (hv b hb)
theorem Hp.put1 {b : Nat} {T : TypeId} {vs : Array Value} (h : Hp w W (bx b T vs :: l)) (n : Nat) (u : Value) : Hp w (W.setCell ⟨b, n, none⟩ u) (bx b T (vs.setIfInBounds n u) :: l) :=
 h.step (chg_set W b n u) (h.one.set_ n u) fun x hx => .inl hx
theorem Hp.rowput {B : Nat} {e : TypeId} {s n c g : Nat} {xs : List Value} (h : Hp w W (ow B e s (.slice (some ⟨g, 0, none⟩) n c) n xs :: l)) (j : Nat) (u : Value) : Hp w (W.setCell ⟨g, j, none⟩ u) (ow B e s (.slice (some ⟨g, 0, none⟩) n c) n (xs.set j u) :: l) :=
 h.step (Chg.of_grown (h.one.stored j u).2 fun g' e => e) (h.one.stored j u).1 fun x hx => .inl hx
theorem Hp.push {B : Nat} {e : TypeId} {s n m : Nat} {v v' : Value} {xs ys : List Value} (h : Hp w W (ow B e s v n xs :: l)) (hown : W'.ownsRow B e s v' m ys) (hg : W.grownBy W' v.ownBlock) (hob : v'.ownBlock = v.ownBlock ∨ v'.ownBlock = some W.heap.size) : Hp w W' (ow B e s v' m ys :: l) :=
 h.step (Chg.of_grown hg fun g e => e) hown fun x hx => by
  have hx : v'.ownBlock = some x := hx
  rcases hob with e | e
  ·exact .inl (show v.ownBlock = some x from e.symm.trans hx)
  ·have hl := (hown.lt x hx).2
   rw [hx] at e
   injection e with e
   exact .inr ⟨by omega, hl⟩
theorem Hp.mput {P : Program} {k : TypeId} {b : Nat} {g g' : Value → Option Value} (h : Hp w W (mq P k b g :: l)) (hm : MapIs P k W' b g') (hg : W.grownBy W' (some b)) : Hp w W' (mq P k b g' :: l) :=
 h.step (Chg.of_grown hg fun x e => by injection e with e; exact e.symm) hm fun x hx => .inl hx
def Elt (P : Program) (e : TypeId) (sz bytes : Nat) : Prop := ∃ i z, P.info? e = some i ∧ i.zero = some z ∧ i.size = sz ∧ i.bytes = bytes ∧ z.cells.size = sz ∧ 0 < sz
theorem Elt.of {P : Program} {e : TypeId} {sz bytes : Nat} (h : (P.info? e).map (fun i => (i.zero.map (·.cells.size), i.size, i.bytes)) = some (some sz, sz, bytes)) (h0 : 0 < sz) : Elt P e sz bytes := by
 rcases hi : P.info? e with _ | i
 ·rw [hi] at h; cases h
 ·rw [hi] at h
  injection h with h
  injection h with h1 h2
  injection h2 with h2 h3
  rcases hz : i.zero with _ | z
  ·rw [hz] at h1; cases h1
  ·rw [hz] at h1
   injection h1 with h1
   exact ⟨i, z, hi, hz, h2, h3, h1, h0⟩
theorem oper_push_own {P : Program} {o : Oper} {a : Act} {K : Act → World → Prop} {Q : Exit → Act → World → Prop} {B : Nat} {e : TypeId} {sz n : Nat} {v : Value} {xs : List Value} (h : Hp w W (ow B e sz v n xs :: l)) (hB : B ≤ w.heap.size)
 (x y : Operand) (ty : TypeId) (bytes : Nat) (ho : o.op = .call { callee := .builtin .append, args := #[x, y], argTypes := #[ty, ty] }) (ht : P.underlying ty = some (.slice e)) (he : Elt P e sz bytes)
 (hx : a.eval x = v) (ad : Addr) (m c : Nat) (news : List Value) (hy : a.eval y = .slice (some ad) m c) (hl : news.length = m * sz) (hnews : ∀ j u, news[j]? = some u → W.cell? (ad.add j) = some u) (h1 : ∀ u ∈ news, u.oneCell' = true) (h63 : n + m ≤ maxLen) (hbytes : (n + m) * bytes ≤ 140737488355328)
 (hK : ∀ A c W', Hid (Hp w W' (ow B e sz (.slice A (n + m) c) (n + m) (xs ++ news) :: l)) → K (a.put o.dst (.slice A (n + m) c)) W') : Oper.wp P o a W K Q := by
 obtain ⟨i, z, hi, hz, hsize, hby, hzs, hsz⟩ := he
 obtain ⟨v', w', hr, hown, hg, -, hob⟩ := run_append_own_at (P := P) W B ty o.type e i z sz bytes ht hi hz hsize hby hzs hsz v n xs h.one ad m c news hl hnews h1 h63 hbytes (Nat.le_trans hB h.mv.size)
 have hp := h.push hown hg hob
 obtain ⟨A, c2, rfl, -⟩ := Row.of_own hown
 unfold Oper.wp execOp
 simp only [ho, resolve, invoke, builtin, Sem.run_bind, Sem.run_pure, Result.andThen_ok, List.map_toArray, List.map_cons, List.map_nil, hx, hy, hr]
 exact hK A c2 w' hp
theorem wpList_push_own {P : Program} {ops : Array Oper} {rest : List Oper} {o : Oper} {a : Act} {Q : Exit → Act → World → Prop} {B : Nat} {e : TypeId} {sz n : Nat} {v : Value} {xs : List Value} (h : Hp w W (ow B e sz v n xs :: l)) (hB : B ≤ w.heap.size) (hgd : o.guard = none)
 (x y : Operand) (ty : TypeId) (bytes : Nat) (ho : o.op = .call { callee := .builtin .append, args := #[x, y], argTypes := #[ty, ty] }) (ht : P.underlying ty = some (.slice e)) (he : Elt P e sz bytes)
 (hx : a.eval x = v) (ad : Addr) (m c : Nat) (news : List Value) (hy : a.eval y = .slice (some ad) m c) (hl : news.length = m * sz) (hnews : ∀ j u, news[j]? = some u → W.cell? (ad.add j) = some u) (h1 : ∀ u ∈ news, u.oneCell' = true) (h63 : n + m ≤ maxLen) (hbytes : (n + m) * bytes ≤ 140737488355328)
 (hK : ∀ A c W', Hid (Hp w W' (ow B e sz (.slice A (n + m) c) (n + m) (xs ++ news) :: l)) → wpList P ops Q rest (a.put o.dst (.slice A (n + m) c)) W') : wpList P ops Q (o :: rest) a W :=
 wpList_plain hgd fun K hKK => oper_push_own h hB x y ty bytes ho ht he hx ad m c news hy hl hnews h1 h63 hbytes fun A c W' hh => hKK _ _ (hK A c W' hh)
theorem Blk.news {w : World} {b : Nat} {t : TypeId} {cs : Array Value} (h : Blk w b t cs) : ∀ j u, cs.toList[j]? = some u → w.cell? ((⟨b, 0, none⟩ : Addr).add j) = some u := fun j u hj => by
 rw [add_plain_]
 have := h.cell j u (by simpa using hj)
 simpa using this
theorem oper_mput {P : Program} {o : Oper} {a : Act} {K : Act → World → Prop} {Q : Exit → Act → World → Prop} {k e : TypeId} {b : Nat} {g : Value → Option Value} (h : Hp w W (mq P k b g :: l)) (m x v : Operand) (t : TypeId) (hop : o.op = Op.mapUpdate t m x v) (Kd : Keyed P k) (ht : P.underlying t = some (.map k e))
 (hm : a.eval m = .map (some b)) (key val : Value) (kl : Lit) (hx : a.eval x = key) (hv : a.eval v = val) (hkey : keyOf P k key = some kl) (hK : ∀ W', Hid (Hp w W' (mq P k b (gput g key val) :: l)) → K (a.put o.dst undef) W') : Oper.wp P o a W K Q := by
 obtain ⟨w', hrun, r1, r2⟩ := (show MapIs P k W b g from h.one).update (val := val) Kd ht hkey
 unfold Oper.wp
 simp [execOp, hop, hm, hx, hv, hrun, Result.andThen]
 exact hK _ (h.mput r1 r2)
theorem wpList_mput {P : Program} {ops : Array Oper} {rest : List Oper} {o : Oper} {a : Act} {Q : Exit → Act → World → Prop} {k e : TypeId} {b : Nat} {g : Value → Option Value} (h : Hp w W (mq P k b g :: l)) (hgd : o.guard = none) (m x v : Operand) (t : TypeId) (hop : o.op = Op.mapUpdate t m x v) (Kd : Keyed P k) (ht : P.underlying t = some (.map k e))
 (hm : a.eval m = .map (some b)) (key val : Value) (kl : Lit) (hx : a.eval x = key) (hv : a.eval v = val) (hkey : keyOf P k key = some kl) (hK : ∀ W', Hid (Hp w W' (mq P k b (gput g key val) :: l)) → wpList P ops Q rest (a.put o.dst undef) W') : wpList P ops Q (o :: rest) a W :=
 wpList_plain hgd fun K hKK => oper_mput h m x v t hop Kd ht hm key val kl hx hv hkey fun W' hh => hKK _ _ (hK W' hh)
theorem MapIs.lookup2 {P : Program} {k t e : TypeId} {b : Nat} {g : Value → Option Value} (h : MapIs P k w b g) (K : Keyed P k) (ht : P.underlying t = some (.map k e)) {z : Value} (hz : (zeroValue e).run P w = .ok z w) {key : Value} {kl : Lit} (hkey : keyOf P k key = some kl) :
 (Instr.lookup t (.map (some b)) key true).run P w = .ok (.tuple #[(g key).getD z, .bool (g key).isSome]) w := by
 obtain ⟨es, c, h1, h2, h3, h4⟩ := h
 have hc := K.check w es.isEmpty hkey
 rcases K.find w hkey es.toList h2 with ⟨hf, hn⟩ | ⟨j, e0, hf, hj, hk⟩
 ·have hg : g key = none := by
   cases hgk : g key with
   | none => rfl
   | some u =>
    obtain ⟨e1, he1, hk1, _⟩ := (h4 key u).1 hgk
    exact absurd hk1 (hn e1 he1)
  simp [Instr.lookup, run_underlying ht, Sem.run, getObj, h1, hc, hf, hz, hg]
 ·have hg : g key = some e0.val := (h4 key e0.val).2 ⟨e0, List.mem_of_getElem? hj, hk, rfl⟩
  simp [Instr.lookup, run_underlying ht, Sem.run, getObj, h1, hc, hf, hg]
end
inductive All2 {α β : Type} (R : α → β → Prop) : List α → List β → Prop where
 | nil : All2 R [] []
 | cons {x : α} {y : β} {xs : List α} {ys : List β} (h : R x y) (t : All2 R xs ys) : All2 R (x :: xs) (y :: ys)
theorem All2.append {α β : Type} {R : α → β → Prop} {xs : List α} {ys : List β} {xs' : List α} {ys' : List β} (h : All2 R xs ys) (h' : All2 R xs' ys') : All2 R (xs ++ xs') (ys ++ ys') := by
 induction h with
 | nil => exact h'
 | cons h _ ih => exact .cons h ih
theorem All2.len {α β : Type} {R : α → β → Prop} {xs : List α} {ys : List β} (h : All2 R xs ys) : xs.length = ys.length := by
 induction h with
 | nil => rfl
 | cons h _ ih => simp [ih]
theorem All2.get {α β : Type} {R : α → β → Prop} {xs : List α} {ys : List β} (h : All2 R xs ys) : ∀ {i : Nat} (h1 : i < xs.length) (h2 : i < ys.length), R xs[i] ys[i] := by
 induction h with
 | nil => intro i h1; simp at h1
 | cons h _ ih =>
  intro i h1 h2
  cases i with
  | zero => exact h
  | succ i => exact ih (by simpa using h1) (by simpa using h2)
theorem All2.mono {α β : Type} {R S : α → β → Prop} {xs : List α} {ys : List β} (h : All2 R xs ys) (hS : ∀ x y, R x y → S x y) : All2 S xs ys := by
 induction h with
 | nil => exact .nil
 | cons h _ ih => exact .cons (hS _ _ h) ih
theorem f2_snoc {α β : Type} {R : α → β → Prop} {xs : List α} {ys : List β} {k : Nat} (h : All2 R (xs.take k) ys) (hk : k < xs.length) {y : β} (hy : R xs[k] y) : All2 R (xs.take (k + 1)) (ys ++ [y]) := by
 rw [List.take_succ_eq_append_getElem hk]
 exact h.append (.cons hy .nil)
theorem RepS.adr {α : Type} {k : Nat} {R : World → α → List Value → Prop} {w : World} {A : Option Addr} {l : List α} (h : RepS k R w A l) (hl : 0 < l.length) : ∃ b o, A = some ⟨b, o, none⟩ ∧ b < w.heap.size := by
 obtain ⟨b, o, cs, hA, hlt, -⟩ := h 0 hl
 exact ⟨b, o, hA, hlt⟩
theorem RepS.row {α : Type} {k : Nat} {R : World → α → List Value → Prop} {w : World} {b o : Nat} {l : List α} (h : RepS k R w (some ⟨b, o, none⟩) l) {i : Nat} (hi : i < l.length) : ∃ cs, R w l[i] cs ∧ ∀ W, Below w.heap.size w W → ∀ j v, cs[j]? = some v → W.cell? ⟨b, o + i * k + j, none⟩ = some v := by
 obtain ⟨b', o', cs, hA, hlt, hr, hc⟩ := h.at hi
 injection hA with e
 injection e with e1 e2
 subst e1 e2
 exact ⟨cs, hr, hc⟩
def lkM {α : Type} (ls : List (ByteArray × α)) (s : ByteArray) : Option α := ls.foldl (fun r p => if p.1 = s then some p.2 else r) none
noncomputable def gM {α : Type} (val : α → Value) (ls : List (ByteArray × α)) : Value → Option Value := ls.foldl (fun g p => gput g (.string p.1) (val p.2)) (fun _ => none)
theorem lkM_nil {α : Type} (s : ByteArray) : lkM ([] : List (ByteArray × α)) s = none := rfl
theorem lkM_snoc {α : Type} (ls : List (ByteArray × α)) (p : ByteArray × α) (s : ByteArray) : lkM (ls ++ [p]) s = if p.1 = s then some p.2 else lkM ls s := by
 unfold lkM; rw [List.foldl_append]; rfl
theorem gM_snoc {α : Type} (val : α → Value) (ls : List (ByteArray × α)) (p : ByteArray × α) : gM val (ls ++ [p]) = gput (gM val ls) (.string p.1) (val p.2) := by
 unfold gM; rw [List.foldl_append]; rfl
theorem gM_get {α : Type} (val : α → Value) (ls : List (ByteArray × α)) (s : ByteArray) : gM val ls.reverse (.string s) = (lkM ls.reverse s).map val := by
 induction ls with
 | nil => rfl
 | cons p ls ih =>
  rw [List.reverse_cons, gM_snoc, lkM_snoc]
  by_cases h : p.1 = s
  ·rw [if_pos h, h, gput_same]; rfl
  ·rw [if_neg h, gput_other _ _ _ _ (fun e => h (by injection e with e; exact e.symm)), ih]
theorem gM_at {α : Type} (val : α → Value) (ls : List (ByteArray × α)) (s : ByteArray) : gM val ls (.string s) = (lkM ls s).map val := by
 have := gM_get val ls.reverse s
 rwa [List.reverse_reverse] at this
theorem lkM_none {α : Type} {s : ByteArray} : ∀ {ls : List (ByteArray × α)}, lkM ls s = none ↔ s ∉ ls.map (·.1) := by
 intro ls
 suffices h : ∀ ls : List (ByteArray × α), lkM ls.reverse s = none ↔ s ∉ ls.map (·.1) by
  have := h ls.reverse
  rw [List.reverse_reverse] at this
  rw [this]
  simp
 intro ls
 induction ls with
 | nil => simp [lkM]
 | cons p ls ih =>
  rw [List.reverse_cons, lkM_snoc]
  by_cases h : p.1 = s
  ·rw [if_pos h]; simp [h]
  ·rw [if_neg h, ih]; simp [Ne.symm h]
theorem lkM_mem {α : Type} {ls : List (ByteArray × α)} (hn : (ls.map (·.1)).Nodup) {p : ByteArray × α} (h : p ∈ ls) : lkM ls p.1 = some p.2 := by
 suffices H : ∀ ls : List (ByteArray × α), (ls.map (·.1)).Nodup → p ∈ ls → lkM ls.reverse p.1 = some p.2 by
  have := H ls.reverse (by rw [List.map_reverse]; exact List.pairwise_reverse.2 (hn.imp fun h e => h e.symm)) (by simpa using h)
  rwa [List.reverse_reverse] at this
 clear h hn ls
 intro ls
 induction ls with
 | nil => intro _ h; cases h
 | cons q ls ih =>
  intro hn h
  rw [List.map_cons, List.nodup_cons] at hn
  rw [List.reverse_cons, lkM_snoc]
  rcases List.mem_cons.1 h with rfl | h
  ·rw [if_pos rfl]
  ·rw [if_neg (fun e => hn.1 (by rw [e]; exact List.mem_map_of_mem h))]
   exact ih hn.2 h
theorem elt_body : Elt Tryz.prog 37 9 136 := Elt.of (by kernel_rfl) (by decide)
theorem elt_int : Elt Tryz.prog 3 1 8 := Elt.of (by kernel_rfl) (by decide)
theorem elt_i32 : Elt Tryz.prog 21 1 4 := Elt.of (by kernel_rfl) (by decide)
theorem elt_vars : Elt Tryz.prog 42 1 24 := Elt.of (by kernel_rfl) (by decide)
theorem elt_map : Elt Tryz.prog 57 1 8 := Elt.of (by kernel_rfl) (by decide)
structure Tv where
 fn : Bool
 t : ByteArray
 n : Int
 k : Int
 nm : ByteArray
 A : Option Addr
 a : Nat
 ca : Nat
 B : Option Addr
 b : Nat
 cb : Nat
 many : Bool
def Tv.cs (x : Tv) : List Value := [.bool x.fn, .string x.t, .int .i64 x.n, .int .i64 x.k, .string x.nm, .slice x.A x.a x.ca, .slice x.B x.b x.cb, .bool x.many]
def Tv.val (x : Tv) : Value := .agg #[.bool x.fn, .string x.t, .int .i64 x.n, .int .i64 x.k, .string x.nm, .slice x.A x.a x.ca, .slice x.B x.b x.cb, .bool x.many]
def zTv : Tv := ⟨false, ⟨#[]⟩, 0, 0, ⟨#[]⟩, none, 0, 0, none, 0, 0, false⟩
theorem zero_tv (w : World) : (zeroValue 93).run Tryz.prog w = .ok zTv.val w := by kernel_rfl
theorem getD_map {α β : Type} (f : α → β) (o : Option α) (d : α) : (o.map f).getD (f d) = f (o.getD d) := by cases o <;> rfl
theorem look_tv {w : World} {b : Nat} {ls : List (ByteArray × Tv)} (h : MapIs Tryz.prog 9 w b (gM Tv.val ls)) (s : ByteArray) (hs : s.size ≤ maxLen) :
 (Instr.lookup 57 (.map (some b)) (.string s) true).run Tryz.prog w = .ok (.tuple #[((lkM ls s).getD zTv).val, .bool (lkM ls s).isSome]) w := by
 obtain ⟨kl, hk⟩ := keyOf_str s hs
 have := h.lookup2 str_keyed Tryz.underlying57 (zero_tv w) hk
 rw [gM_at, getD_map] at this
 rw [this]
 simp
theorem look_tv1 {w : World} {b : Nat} {ls : List (ByteArray × Tv)} (h : MapIs Tryz.prog 9 w b (gM Tv.val ls)) (s : ByteArray) (hs : s.size ≤ maxLen) :
 (Instr.lookup 57 (.map (some b)) (.string s) false).run Tryz.prog w = .ok ((lkM ls s).getD zTv).val w := by
 obtain ⟨kl, hk⟩ := keyOf_str s hs
 have := h.lookup str_keyed Tryz.underlying57 (zero_tv w) hk
 rw [gM_at, getD_map] at this
 exact this
theorem give_any {w W : World} {l : List Rc} {mb nb : Nat} {ls : List (ByteArray × Tv)} (s : ByteArray) (x : Tv) (h : Hp w W (mq Tryz.prog 9 mb (gM Tv.val ls) :: bx nb 57 #[.map (some mb)] :: l)) (hm : ML w) (hs : s.size ≤ maxLen) :
 Calls Tryz.prog 37 #[.string s, x.val, .pointer (some ⟨nb, 0, none⟩)] W fun e W' => e = .returned (.bool ((lkM ls s).isNone && nameOf s)) ∧ Hid (Hp w W' (mq Tryz.prog 9 mb (gM Tv.val (ls ++ [(s, x)])) :: bx nb 57 #[.map (some mb)] :: l)) := by
 obtain ⟨kl, hk⟩ := keyOf_str s hs
 have HK := Lh hk
 have HM := Lh hm
 have HSZ := Lh hs
 obtain ⟨fn, t, n, k, nm, A, a, ca, B, b, cb, many⟩ := x
 have HG : Hid (gM Tv.val (ls ++ [(s, ⟨fn, t, n, k, nm, A, a, ca, B, b, cb, many⟩)]) = gput (gM Tv.val ls) (.string s) (.agg #[.bool fn, .string t, .int .i64 n, .int .i64 k, .string nm, .slice A a ca, .slice B b cb, .bool many])) := gM_snoc _ _ _
 change Calls Tryz.prog 37 #[.string s, .agg #[.bool fn, .string t, .int .i64 n, .int .i64 k, .string nm, .slice A a ca, .slice B b cb, .bool many], .pointer (some ⟨nb, 0, none⟩)] W _
 have HS := Lh (h.box 93 #[.bool fn, .string t, .int .i64 n, .int .i64 k, .string nm, .slice A a ca, .slice B b cb, .bool many])
 clear h hm hs hk
 obtain ⟨r, hr⟩ : ∃ r, lkM ls s = r := ⟨_, rfl⟩
 obtain ⟨is, hr2⟩ : ∃ is, r.isSome = is := ⟨_, rfl⟩
 have hi : r.isNone = !is := by subst hr2; cases r <;> rfl
 rw [HG.out, hr, hi]
 clear hi
 go_enter Tryz.func37, Tryz.ntmps37
 go_upto_region 1 with (fail)
 generalize W.alloc _ = W1 at *
 generalize W.heap.size = tb at *
 have hl := look_tv (HS.out.at 1 rfl) s HSZ.out
 have m0 := HS.out.c 2 0
 rw [hr, hr2] at hl
 generalize r.getD zTv = q at *
 obtain ⟨fn', t', n', k', nm', A', a', ca', B', b', cb', many'⟩ := q
 simp only [Tv.val] at hl
 go_upto_region 2 with (fail)
 replace HS := Lh (HS.out.box 93 #[.bool fn', .string t', .int .i64 n', .int .i64 k', .string nm', .slice A' a' ca', .slice B' b' cb', .bool many'])
 generalize W1.alloc _ = W2 at *
 clear hl m0
 have m0 := HS.out.c 3 0
 have b0 := HS.out.c 1 0
 have b1 := HS.out.c 1 1
 have b2 := HS.out.c 1 2
 have b3 := HS.out.c 1 3
 have b4 := HS.out.c 1 4
 have b5 := HS.out.c 1 5
 have b6 := HS.out.c 1 6
 have b7 := HS.out.c 1 7
 replace HS := Lh HS.out.f2
 clear hr hr2
 cases is
 ·go_wp2_with (at_mapUpdate; refine wpList_mput HS.out rfl _ _ _ 57 rfl str_keyed Tryz.underlying57 (by rfl) (.string s) (.agg #[.bool fn, .string t, .int .i64 n, .int .i64 k, .string nm, .slice A a ca, .slice B b cb, .bool many]) kl (by rfl) (by rfl) HK.out ?_; clear HS; intro W3 HS; have HQ := Lh (isName_any s W3 (HM.out.keep HS.out.mv)))
  refine (HQ.out).mono ?_
  rintro e W4 ⟨rfl, rfl⟩
  clear HQ
  go_wp2_with fail
  go_ret
  exact ⟨by simp, Lh (HS.out.f1.drop.f1.drop)⟩
 ·go_wp2_with (at_mapUpdate; refine wpList_mput HS.out rfl _ _ _ 57 rfl str_keyed Tryz.underlying57 (by rfl) (.string s) (.agg #[.bool fn, .string t, .int .i64 n, .int .i64 k, .string nm, .slice A a ca, .slice B b cb, .bool many]) kl (by rfl) (by rfl) HK.out ?_; clear HS; intro W3 HS)
  go_ret
  exact ⟨rfl, Lh (HS.out.f1.drop.f1.drop)⟩
end Go.Proofs.YthihaeobkoiljaaGreat
