/- Lemmas for the law. -/
import Derived.Test.YthihaeobkoiljaaGreatQ12
set_option linter.unusedVariables false
set_option linter.unusedSimpArgs false
set_option maxRecDepth 100000
set_option maxHeartbeats 40000000
namespace Go.Proofs.YthihaeobkoiljaaGreat
open Go.RowKit
noncomputable def f1 (l : List Un) (u : Nat) : Option Trb := if unitB (unAt l u) then none else some ((u : Int), 2, 0)
noncomputable def g2 (l : List Un) (u i : Nat) : Option Trb := if spkB (unAt l u) ((unAt l u).bs.getD i default) then none else some ((u : Int), 4, (i : Int))
noncomputable def f2 (l : List Un) (u : Nat) : Option Trb := fstO (unAt l u).bs.length (g2 l u)
def g3 (l : List Un) (u i : Nat) : Option Trb := if !((opens (unAt l u)).getD i (⟨#[]⟩, true)).2 && decide ((homR l ((opens (unAt l u)).getD i (⟨#[]⟩, true)).1).1 < (u : Int)) then some ((u : Int), 5, (i : Int)) else none
def f3 (l : List Un) (u : Nat) : Option Trb := fstO (opens (unAt l u)).length (g3 l u)
noncomputable def g4 (l : List Un) (u i : Nat) : Option Trb :=
 if (homR l ((unAt l u).os.getD i default).nm).1 < 0 then some ((u : Int), 4, (i : Int))
 else if (((homR l ((unAt l u).os.getD i default).nm).2.1 == 1) != ((unAt l u).os.getD i default).fn) || !(eqB (tyF (unAt l (homR l ((unAt l u).os.getD i default).nm).1.toNat) ((unAt l u).os.getD i default).nm).1 ((unAt l u).os.getD i default).ty) then some ((u : Int), 3, (i : Int))
 else none
noncomputable def f4 (l : List Un) (u : Nat) : Option Trb := fstO (unAt l u).os.length (g4 l u)
section
variable {l : List Un} (h1 : 1 ≤ l.length) (h2 : l.length ≤ 4)
include h1 h2
theorem ck_un : checkP l = (((((fstO l.length (f1 l)).or (fstO l.length (f2 l))).or (fstO l.length (f3 l))).or (fstO l.length (f4 l))).or (ckMain l)).getD (0, 0, 0) := by
 unfold checkP
 rw [if_neg (by omega)]
 rfl
theorem ck_1 {u : Nat} {x : Trb} (hu : u < l.length) (hn : ∀ j, j < u → f1 l j = none) (hx : f1 l u = some x) : checkP l = x := by
 rw [ck_un h1 h2, fstO_some hu hx hn]; rfl
theorem ck_2 (a1 : ∀ j, j < l.length → f1 l j = none) {u : Nat} {x : Trb} (hu : u < l.length) (hn : ∀ j, j < u → f2 l j = none) (hx : f2 l u = some x) : checkP l = x := by
 rw [ck_un h1 h2, fstO_none a1, fstO_some hu hx hn]; rfl
theorem ck_3 (a1 : ∀ j, j < l.length → f1 l j = none) (a2 : ∀ j, j < l.length → f2 l j = none) {u : Nat} {x : Trb} (hu : u < l.length) (hn : ∀ j, j < u → f3 l j = none) (hx : f3 l u = some x) : checkP l = x := by
 rw [ck_un h1 h2, fstO_none a1, fstO_none a2, fstO_some hu hx hn]; rfl
theorem ck_4 (a1 : ∀ j, j < l.length → f1 l j = none) (a2 : ∀ j, j < l.length → f2 l j = none) (a3 : ∀ j, j < l.length → f3 l j = none) {u : Nat} {x : Trb} (hu : u < l.length) (hn : ∀ j, j < u → f4 l j = none) (hx : f4 l u = some x) : checkP l = x := by
 rw [ck_un h1 h2, fstO_none a1, fstO_none a2, fstO_none a3, fstO_some hu hx hn]; rfl
theorem ck_5 (a1 : ∀ j, j < l.length → f1 l j = none) (a2 : ∀ j, j < l.length → f2 l j = none) (a3 : ∀ j, j < l.length → f3 l j = none) (a4 : ∀ j, j < l.length → f4 l j = none) : checkP l = (ckMain l).getD (0, 0, 0) := by
 rw [ck_un h1 h2, fstO_none a1, fstO_none a2, fstO_none a3, fstO_none a4]; rfl
end
theorem f1_unit {l : List Un} (a1 : ∀ j, j < l.length → f1 l j = none) {u : Nat} (hu : u < l.length) : unitB l[u] = true := by
 have := a1 u hu
 unfold f1 at this
 rw [unAt_at hu] at this
 rcases h : unitB l[u] with _ | _
 ·rw [h] at this; cases this
 ·rfl
def FoRel (f : Nat → Option Trb) (n : Nat) (w w1 : World) (i : Value) (wr : World) : Prop := ∃ k : Nat, k ≤ n ∧ i = .int .i64 k ∧ (∀ j, j < k → f j = none) ∧ Below w1.heap.size w1 wr ∧ Below w.heap.size w wr
theorem none_succ {α : Type} {f : Nat → Option α} {k : Nat} (hg : ∀ j, j < k → f j = none) (h : f k = none) : ∀ j, j < k + 1 → f j = none := fun j hj => by
 rcases Nat.lt_or_ge j k with h1 | h1
 ·exact hg j h1
 ·have e : j = k := by omega
  exact e ▸ h
def TrOut (R : Trb) (w : World) (e : Ending) (w' : World) : Prop := e = .returned (.agg #[.int .i64 R.1, .int .i64 R.2.1, .int .i64 R.2.2]) ∧ Below w.heap.size w w'
theorem results_tr {fn : Func} {s : Nat} (h : fn.results = #[.cell s 40]) {w : World} {b : Nat} {a0 a1 a2 : Value} {tmps : Array Value} (k : Blk w b 40 #[a0, a1, a2]) (h4 : tmps.getD s undef = .pointer (some ⟨b, 0, none⟩)) :
 (results fn tmps).run Tryz.prog w = .ok (.agg #[a0, a1, a2]) w := by
 have c0 := k.cell 0 _ rfl
 have c1 := k.cell 1 _ rfl
 have c2 := k.cell 2 _ rfl
 simp at c0 c1 c2
 simp only [Array.getD_eq_getD_getElem?] at h4
 simp [results, h, go_sem, h4, c0, c1, c2]
theorem tr_end {R : Trb} {w W : World} {r : Nat} {a b c : Int} (hb : Below w.heap.size w W) (hr : w.heap.size ≤ r) (k : Blk W r 40 #[.int .i64 0, .int .i64 0, .int .i64 0]) (hR : R = (a, b, c)) :
 Blk (((W.setCell ⟨r, 0, none⟩ (.int .i64 a)).setCell ⟨r, 1, none⟩ (.int .i64 b)).setCell ⟨r, 2, none⟩ (.int .i64 c)) r 40 #[.int .i64 a, .int .i64 b, .int .i64 c] ∧ TrOut R w (.returned (.agg #[.int .i64 a, .int .i64 b, .int .i64 c])) (((W.setCell ⟨r, 0, none⟩ (.int .i64 a)).setCell ⟨r, 1, none⟩ (.int .i64 b)).setCell ⟨r, 2, none⟩ (.int .i64 c)) := by
 refine ⟨?_, ?_⟩
 ·have := ((k.set_ 0 (.int .i64 a)).set_ 1 (.int .i64 b)).set_ 2 (.int .i64 c)
  simpa using this
 ·subst hR
  exact ⟨rfl, ((hb.setCell (p := ⟨r, 0, none⟩) hr _).setCell (p := ⟨r, 1, none⟩) hr _).setCell (p := ⟨r, 2, none⟩) hr _⟩
theorem info_bool : (Tryz.prog.info? 4).map (fun i => (i.zero, i.size, i.bytes)) = some (some (.bool false), 1, 1) := by kernel_rfl
theorem owns_apart {w : World} {B B' : Nat} {e e' : TypeId} {s s' n n' : Nat} {v v' : Value} {xs xs' : List Value} (h : w.ownsRow B e s v n xs) (h' : w.ownsRow B' e' s' v' n' xs') (hne : e ≠ e') : ∀ g, v.ownBlock = some g → some g ≠ v'.ownBlock := fun g hg => by
 rcases h.2 with ⟨rfl, _⟩ | ⟨g', cap, cur, rfl, _, hb, _⟩
 ·simp [Value.ownBlock] at hg
 ·simp [Value.ownBlock] at hg
  subst hg
  exact own_blk h' hb (Ne.symm hne)
theorem owns_grown {w w' : World} {B : Nat} {e : TypeId} {s n : Nat} {v : Value} {xs : List Value} {row : Option Nat} (h : w.ownsRow B e s v n xs) (hg : w.grownBy w' row) (hne : ∀ g, v.ownBlock = some g → some g ≠ row) : w'.ownsRow B e s v n xs := by
 refine ⟨h.1, ?_⟩
 have h0 := h
 rcases h.2 with h | ⟨g, cap, cur, rfl, hb, hc, h⟩
 ·exact .inl h
 ·exact .inr ⟨g, cap, cur, rfl, hb, (hg.block g ((h0.lt g rfl).2) (hne g rfl)).trans hc, h⟩
def NsRel (pre ms : List (ByteArray × Bool)) (w w1 : World) (v s i : Value) (wr : World) : Prop :=
 ∃ k : Nat, k ≤ ms.length ∧ i = .int .i64 k ∧ wr.ownsRow w1.heap.size 9 1 v (pre.length + k) ((pre ++ ms.take k).map fun x => .string x.1) ∧ wr.ownsRow w1.heap.size 4 1 s (pre.length + k) ((pre ++ ms.take k).map fun x => .bool x.2) ∧ Below w1.heap.size w1 wr ∧ Below w.heap.size w wr
theorem home_cases (l : List Un) (s : ByteArray) : homR l s = (-1, 0, 0) ∨ ∃ v, ∃ h : v < l.length, homR l s = ((v : Int), giv l[v] s) ∧ opn l[v] s = true := by
 rcases e : hom l s with _ | v
 ·exact .inl (by unfold homR; rw [e])
 ·unfold hom at e
  rw [List.findIdx?_eq_some_iff_getElem] at e
  obtain ⟨hk, h1, h2⟩ := e
  exact .inr ⟨v, hk, homR_some hk h1 fun j hj hjv => by simpa using h2 j hjv, h1⟩
theorem opn_kind {u : Un} {s : ByteArray} (h : opn u s = true) : (∃ i, ∃ h : i < u.bs.length, giv u s = (1, i) ∧ u.bs[i].nm = s) ∨ (∃ i, ∃ h : i < u.gs.length, giv u s = (2, i) ∧ u.gs[i].nm = s) := by
 rcases giv_cases u s with h1 | h1 | ⟨i, hi, hR, -⟩ | hR
 ·exact .inl h1
 ·exact .inr h1
 ·unfold opn at h; rw [hR] at h; cases h
 ·unfold opn at h; rw [hR] at h; cases h
theorem checkR_any (l : List Un) (A : Option Addr) (c : Nat) (w : World) (hr : RepS 3 RepU w A l) (hl : l.length ≤ 8) (hh : ∀ u (h : u < l.length), l[u].bs.length ≤ 40 ∧ l[u].gs.length ≤ 40 ∧ l[u].os.length ≤ 40) :
 Calls Tryz.prog 10 #[.slice A l.length c] w (TrOut (checkP l) w) := by
 have B0 : Hid (Below w.heap.size w (w.alloc (.cells #[.int .i64 0, .int .i64 0, .int .i64 0] 40))) := by show Below _ _ _; exact bel
 have kr := Lh (Blk.new_ w 40 #[.int .i64 0, .int .i64 0, .int .i64 0])
 have HA := Lh hr
 have HH := Lh hh
 obtain ⟨E, HE⟩ : ∃ E, Hid (checkP l = E) := ⟨_, rfl⟩
 rw [HE.out]
 clear hr hh
 by_cases h1 : l.length < 1
 ·have hs : (l.length : Int) < 1 := by omega
  go_enter Tryz.func10, Tryz.ntmps10
  go_upto_region 1 with (fail)
  generalize w.alloc _ = w1 at *
  have kr1 := kr.out
  have B1 := B0.out
  have hq : Hid (E = (0, 1, 0)) := HE.out.symm.trans (by unfold checkP; rw [if_pos (.inl h1)])
  have f0 := kr1.free 0
  have f1 := kr1.free 1
  have f2 := kr1.free 2
  have g0 := kr1.cell 0 _ rfl
  have g1 := kr1.cell 1 _ rfl
  have g2 := kr1.cell 2 _ rfl
  go_wp2_with fail
  have he := tr_end B1 (Nat.le_refl _) kr1 hq.out
  exact bodyPost_ret (v := .agg _) (results_tr (fn := Tryz.f10) rfl he.1 rfl) rfl he.2
 have hs : ¬ (l.length : Int) < 1 := by omega
 by_cases h2 : 4 < l.length
 ·have hs2 : (4 : Int) < (l.length : Int) := by omega
  go_enter Tryz.func10, Tryz.ntmps10
  go_upto_region 1 with (fail)
  generalize w.alloc _ = w1 at *
  have kr1 := kr.out
  have B1 := B0.out
  have hq : Hid (E = (0, 1, 0)) := HE.out.symm.trans (by unfold checkP; rw [if_pos (.inr h2)])
  have f0 := kr1.free 0
  have f1 := kr1.free 1
  have f2 := kr1.free 2
  have g0 := kr1.cell 0 _ rfl
  have g1 := kr1.cell 1 _ rfl
  have g2 := kr1.cell 2 _ rfl
  go_wp2_with fail
  have he := tr_end B1 (Nat.le_refl _) kr1 hq.out
  exact bodyPost_ret (v := .agg _) (results_tr (fn := Tryz.f10) rfl he.1 rfl) rfl he.2
 have hs2 : ¬ (4 : Int) < (l.length : Int) := by omega
 replace h1 : 1 ≤ l.length := by omega
 replace h2 : l.length ≤ 4 := by omega
 have HE1 : Hid (∀ {u : Nat} {x : Trb}, u < l.length → (∀ j, j < u → f1 l j = none) → f1 l u = some x → E = x) := fun a b c => HE.out.symm.trans (ck_1 h1 h2 a b c)
 obtain ⟨bb, oo, rfl, hbl⟩ := HA.out.adr (by omega)
 go_enter Tryz.func10, Tryz.ntmps10
 go_wp2_with fail
 generalize w.alloc _ = w1 at *
 go_wp2_with fail
 go_loopw [3] (fun i wr => FoRel (f1 l) l.length w w1 i wr) (fun i _ => l.length - (intOf i).toNat)
 case atStart => exact ⟨0, Nat.zero_le _, rfl, fun j h => absurd h (by omega), Below.refl _ _, B0.out⟩
 case round =>
  obtain ⟨k, hk, rfl, hg, hb, hbw⟩ := hrel
  have kr1 := kr.out.below hb
  by_cases hlt : k < l.length
  ·obtain ⟨cs, hrep, hc⟩ := HA.out.row hlt
   have hrep0 := hrep
   obtain ⟨UA, ua, UB, ub, UC, uc, rfl, -, -, -, -, -, -⟩ := hrep
   have c0 := hc wr hbw 0 _ rfl
   have c1 := hc wr hbw 1 _ rfl
   have c2 := hc wr hbw 2 _ rfl
   rw [Nat.add_zero] at c0
   have HM := Lh (unitR_any l[k] _ wr (hrep0.keep hbw) (HH.out k hlt).1 (HH.out k hlt).2.1 (HH.out k hlt).2.2)
   have HQ : Hid (unitB l[k] = false → E = ((k : Int), 2, 0)) := fun h => HE1.out hlt hg (by unfold f1; rw [unAt_at hlt, h]; rfl)
   have HY : Hid (unitB l[k] = true → ∀ j, j < k + 1 → f1 l j = none) := fun h => none_succ hg (by unfold f1; rw [unAt_at hlt, h]; rfl)
   have hi : (k : Int) < (l.length : Int) := by omega
   have hi1 : (0 : Int) ≤ (k : Int) := by omega
   have hi6 : (k : Int) < 9 := by omega
   have HB := Lh hb
   have HBW := Lh hbw
   clear hg hb hbw hc hrep0
   generalize unitB l[k] = x at *
   generalize l[k] = u at *
   go_wp2_with fail
   refine (HM.out).mono ?_
   rintro e w2 ⟨rfl, hb2⟩
   have kr2 := kr1.below hb2
   have hb3 := HB.out.trans (hb2.mono HB.out.size)
   have hbw3 := HBW.out.trans (hb2.mono HBW.out.size)
   clear HM hb2 HB HBW kr1 c0 c1 c2
   cases x
   ·have hq : Hid (E = ((k : Int), 2, 0)) := HQ.out rfl
    have f0 := kr2.free 0
    have f1 := kr2.free 1
    have f2 := kr2.free 2
    have g0 := kr2.cell 0 _ rfl
    have g1 := kr2.cell 1 _ rfl
    have g2 := kr2.cell 2 _ rfl
    go_wp2_with fail
    have he := tr_end hbw3 (Nat.le_refl _) kr2 hq.out
    exact bodyPost_ret (v := .agg _) (results_tr (fn := Tryz.f10) rfl he.1 rfl) rfl he.2
   ·have hq := Lh (HY.out rfl)
    have HB := Lh hb3
    have HBW := Lh hbw3
    clear HY HQ hb3 hbw3
    go_wp2_with fail
    go_roundw
    case rel => exact ⟨k + 1, by omega, by go_num, hq.out, HB.out, HBW.out⟩
    case measure => simp [intOf] <;> omega
  ·have hi : ¬ (k : Int) < (l.length : Int) := by omega
   obtain rfl : k = l.length := by omega
   have A1 := Lh hg
   have HB1 := Lh hb
   have HBW1 := Lh hbw
   have HE2 : Hid (∀ {u : Nat} {x : Trb}, u < l.length → (∀ j, j < u → f2 l j = none) → f2 l u = some x → E = x) := fun a b c => HE.out.symm.trans (ck_2 h1 h2 A1.out a b c)
   clear hg hb hbw kr1 HE1
   go_wp2_with fail
   generalize wr = w2 at *
   go_loopw [4] (fun i wr => FoRel (f2 l) l.length w w2 i wr) (fun i _ => l.length - (intOf i).toNat)
   case atStart => exact ⟨0, Nat.zero_le _, rfl, fun j h => absurd h (by omega), Below.refl _ _, HBW1.out⟩
   case round =>
    obtain ⟨k, hk, rfl, hg, hb, hbw⟩ := hrel
    have HBk := Lh (HB1.out.trans (hb.mono HB1.out.size))
    by_cases hlt : k < l.length
    ·obtain ⟨cs, hrep, hc⟩ := HA.out.row hlt
     have hrep0 := hrep
     obtain ⟨UA, ua, UB, ub, UC, uc, rfl, rA, -, -, -, -, -⟩ := hrep
     have HU := Lh (fun W (h : Below w.heap.size w W) => hrep0.keep h)
     have HUN := Lh (f1_unit A1.out hlt)
     have HCC := Lh hc
     have RA := Lh rA
     have HG := Lh hg
     have HB2 := Lh hb
     have HBW2 := Lh hbw
     have hn40 : l[k].bs.length ≤ 40 := (HH.out k hlt).1
     have HEG : Hid (∀ {i : Nat} {x : Trb}, i < l[k].bs.length → (∀ j, j < i → g2 l k j = none) → g2 l k i = some x → E = x) := fun a b c => HE2.out hlt HG.out (by unfold f2; rw [unAt_at hlt]; exact fstO_some a c b)
     have HEN : Hid ((∀ j, j < l[k].bs.length → g2 l k j = none) → ∀ j, j < k + 1 → f2 l j = none) := fun h => none_succ HG.out (by unfold f2; rw [unAt_at hlt]; exact fstO_none h)
     have HG2 : Hid (∀ i (h : i < l[k].bs.length), g2 l k i = if spkB l[k] l[k].bs[i] then none else some ((k : Int), 4, (i : Int))) := fun i h => by unfold g2; rw [unAt_at hlt]; simp [List.getD_eq_getElem?_getD, h]
     have hi : (k : Int) < (l.length : Int) := by omega
     have hi1 : (0 : Int) ≤ (k : Int) := by omega
     have hi6 : (k : Int) < 9 := by omega
     clear hg hb hbw hc hrep0 rA
     generalize l[k] = u at *
     go_wp2_with fail
     generalize wr = wo at *
     go_loopw [5] (fun i wr' => FoRel (g2 l k) u.bs.length w wo i wr') (fun i _ => u.bs.length - (intOf i).toNat)
     case atStart => exact ⟨0, Nat.zero_le _, rfl, fun j h => absurd h (by omega), Below.refl _ _, HBW2.out⟩
     case round =>
      obtain ⟨i, hik, rfl, hg, hb, hbw⟩ := hrel
      have u0 := HCC.out wr hbw 0 _ rfl
      have u1 := HCC.out wr hbw 1 _ rfl
      have u2 := HCC.out wr hbw 2 _ rfl
      rw [Nat.add_zero] at u0
      have HBi := Lh (HBk.out.trans (hb.mono HBk.out.size))
      have kr1 := kr.out.below HBi.out
      by_cases hilt : i < u.bs.length
      ·obtain ⟨b2, o2, rfl, hbl2⟩ := RA.out.adr (by omega)
       obtain ⟨cs, hrb, hd⟩ := RA.out.row hilt
       have hrb0 := hrb
       obtain ⟨An, cn, Ap, cp, A', c', rfl, -, -, -, -⟩ := hrb.nine
       have hbm := body_may (unit_body HUN.out hilt)
       have HN : Hid (spkB u u.bs[i] = false → E = ((k : Int), 4, (i : Int))) := fun h => HEG.out hilt hg (by rw [HG2.out i hilt, h]; rfl)
       have HY : Hid (spkB u u.bs[i] = true → ∀ j, j < i + 1 → g2 l k j = none) := fun h => none_succ hg (by rw [HG2.out i hilt, h]; rfl)
       have HF : Hid (∀ W, Below wr.heap.size wr W → (W.cell? ⟨bb, oo + k * 3, none⟩ = some (.slice (some ⟨b2, o2, none⟩) u.bs.length ua) ∧ W.cell? ⟨bb, oo + k * 3 + 1, none⟩ = some (.slice UB u.gs.length ub) ∧ W.cell? ⟨bb, oo + k * 3 + 2, none⟩ = some (.slice UC u.os.length uc) ∧ W.cell? ⟨b2, o2 + i * 9, none⟩ = some (.string u.bs[i].nm) ∧ W.cell? ⟨b2, o2 + i * 9 + 1, none⟩ = some (.bool u.bs[i].static) ∧ W.cell? ⟨b2, o2 + i * 9 + 2, none⟩ = some (.int .i64 u.bs[i].ty.k) ∧ W.cell? ⟨b2, o2 + i * 9 + 3, none⟩ = some (.string u.bs[i].ty.nm) ∧ W.cell? ⟨b2, o2 + i * 9 + 4, none⟩ = some (.slice An u.bs[i].ty.ns.length cn) ∧ W.cell? ⟨b2, o2 + i * 9 + 5, none⟩ = some (.slice Ap u.bs[i].ty.ps.length cp) ∧ W.cell? ⟨b2, o2 + i * 9 + 6, none⟩ = some (.bool u.bs[i].ty.many) ∧ W.cell? ⟨b2, o2 + i * 9 + 7, none⟩ = some (.int .i64 u.bs[i].regs) ∧ W.cell? ⟨b2, o2 + i * 9 + 8, none⟩ = some (.slice A' u.bs[i].code.length c'))) := fun W h => by
        have h5 := hbw.trans (h.mono hbw.size)
        exact ⟨HCC.out W h5 0 _ rfl, HCC.out W h5 1 _ rfl, HCC.out W h5 2 _ rfl, hd W h5 0 _ rfl, hd W h5 1 _ rfl, hd W h5 2 _ rfl, hd W h5 3 _ rfl, hd W h5 4 _ rfl, hd W h5 5 _ rfl, hd W h5 6 _ rfl, hd W h5 7 _ rfl, hd W h5 8 _ rfl⟩
       have HS : Hid (∀ W, (Below wr.heap.size wr W ∧ (W.cell? ⟨bb, oo + k * 3, none⟩ = some (.slice (some ⟨b2, o2, none⟩) u.bs.length ua) ∧ W.cell? ⟨bb, oo + k * 3 + 1, none⟩ = some (.slice UB u.gs.length ub) ∧ W.cell? ⟨bb, oo + k * 3 + 2, none⟩ = some (.slice UC u.os.length uc) ∧ W.cell? ⟨b2, o2 + i * 9, none⟩ = some (.string u.bs[i].nm) ∧ W.cell? ⟨b2, o2 + i * 9 + 1, none⟩ = some (.bool u.bs[i].static) ∧ W.cell? ⟨b2, o2 + i * 9 + 2, none⟩ = some (.int .i64 u.bs[i].ty.k) ∧ W.cell? ⟨b2, o2 + i * 9 + 3, none⟩ = some (.string u.bs[i].ty.nm) ∧ W.cell? ⟨b2, o2 + i * 9 + 4, none⟩ = some (.slice An u.bs[i].ty.ns.length cn) ∧ W.cell? ⟨b2, o2 + i * 9 + 5, none⟩ = some (.slice Ap u.bs[i].ty.ps.length cp) ∧ W.cell? ⟨b2, o2 + i * 9 + 6, none⟩ = some (.bool u.bs[i].ty.many) ∧ W.cell? ⟨b2, o2 + i * 9 + 7, none⟩ = some (.int .i64 u.bs[i].regs) ∧ W.cell? ⟨b2, o2 + i * 9 + 8, none⟩ = some (.slice A' u.bs[i].code.length c'))) → Calls Tryz.prog 17 #[.agg #[.slice (some ⟨b2, o2, none⟩) u.bs.length ua, .slice UB u.gs.length ub, .slice UC u.os.length uc], .agg #[.string u.bs[i].nm, .bool u.bs[i].static, .int .i64 u.bs[i].ty.k, .string u.bs[i].ty.nm, .slice An u.bs[i].ty.ns.length cn, .slice Ap u.bs[i].ty.ps.length cp, .bool u.bs[i].ty.many, .int .i64 u.bs[i].regs, .slice A' u.bs[i].code.length c']] W fun e w' => e = .returned (.bool (spkB u u.bs[i])) ∧ Below W.heap.size W w') := fun W h => by
        have h5 := hbw.trans (h.1.mono hbw.size)
        exact speaksR_any u u.bs[i] _ _ W (HU.out W h5) (hrb0.keep h5) HUN.out hbm.1 hbm.2
       have hj : (i : Int) < (u.bs.length : Int) := by omega
       have hj1 : (0 : Int) ≤ (i : Int) := by omega
       have hj6 : (i : Int) < 40 := by omega
       have HB := Lh hb
       have HBW := Lh hbw
       clear hg hb hbw hd hrb hrb0 hbm HEG HG2 HEN
       generalize spkB u u.bs[i] = x at *
       generalize u.bs[i] = bd at *
       cases x
       ·have hQ := Lh (HN.out rfl)
        clear HN HY
        go_upto_region 14 with (fail)
        refine dQ (fun W => Below wr.heap.size wr W ∧ (At W bb (oo + k * 3) (.slice (some ⟨b2, o2, none⟩) u.bs.length ua) ∧ At W bb (oo + k * 3 + 1) (.slice UB u.gs.length ub) ∧ At W bb (oo + k * 3 + 2) (.slice UC u.os.length uc) ∧ At W b2 (o2 + i * 9) (.string bd.nm) ∧ At W b2 (o2 + i * 9 + 1) (.bool bd.static) ∧ At W b2 (o2 + i * 9 + 2) (.int .i64 bd.ty.k) ∧ At W b2 (o2 + i * 9 + 3) (.string bd.ty.nm) ∧ At W b2 (o2 + i * 9 + 4) (.slice An bd.ty.ns.length cn) ∧ At W b2 (o2 + i * 9 + 5) (.slice Ap bd.ty.ps.length cp) ∧ At W b2 (o2 + i * 9 + 6) (.bool bd.ty.many) ∧ At W b2 (o2 + i * 9 + 7) (.int .i64 bd.regs) ∧ At W b2 (o2 + i * 9 + 8) (.slice A' bd.code.length c'))) (held0 HF) (fun hHeld => ?_)
        clear u0 u1 u2
        refine tQ 0 ?_; try simp only [sq]
        refine tQ 1 ?_; try simp only [sq]
        refine tQ 2 ?_; try simp only [sq]
        refine tQ 3 ?_; try simp only [sq]
        refine tQ 4 ?_; try simp only [sq]
        refine tQ 5 ?_; try simp only [sq]
        refine tQ 6 ?_; try simp only [sq]
        refine tQ 7 ?_; try simp only [sq]
        refine tQ 8 ?_; try simp only [sq]
        refine tQ 9 ?_; try simp only [sq]
        refine tQ 10 ?_; try simp only [sq]
        refine tQ 11 ?_; try simp only [sq]
        refine wpAnyH_ready (rs := [12]) (by decide +kernel) (by simp) ?_
        refine AllReadyH.cons rfl (fun K hK => ?_) AllReadyH.nil
        go_simp
        with_reducible refine (HS.out _ (by assumption)).mono ?_
        rintro e w' ⟨rfl, hbq⟩
        refine hK.out _ _ (heldS HF (by assumption) hbq) (fun hHeld => ?_)
        clear hK K hbq
        (try simp only [Act.put, List.setIfInBounds_toArray, List.set_cons_zero, List.set_cons_succ])
        refine tQ 13 ?_; try simp only [sq]
        refine fQ ?_ _
        have hb3 := HB.out.trans (hHeld.1.mono HB.out.size)
        have hbw3 := HBW.out.trans (hHeld.1.mono HBW.out.size)
        have kr2 := kr1.below hHeld.1
        have hq : Hid (E = ((k : Int), 4, (i : Int))) := hQ.out
        have f0 := kr2.free 0
        have f1 := kr2.free 1
        have f2 := kr2.free 2
        have g0 := kr2.cell 0 _ rfl
        have g1 := kr2.cell 1 _ rfl
        have g2 := kr2.cell 2 _ rfl
        go_wp2_with fail
        have he := tr_end hbw3 (Nat.le_refl _) kr2 hq.out
        exact bodyPost_ret (v := .agg _) (results_tr (fn := Tryz.f10) rfl he.1 rfl) rfl he.2
       ·have hQ := Lh (HY.out rfl)
        clear HN HY
        go_upto_region 14 with (fail)
        refine dQ (fun W => Below wr.heap.size wr W ∧ (At W bb (oo + k * 3) (.slice (some ⟨b2, o2, none⟩) u.bs.length ua) ∧ At W bb (oo + k * 3 + 1) (.slice UB u.gs.length ub) ∧ At W bb (oo + k * 3 + 2) (.slice UC u.os.length uc) ∧ At W b2 (o2 + i * 9) (.string bd.nm) ∧ At W b2 (o2 + i * 9 + 1) (.bool bd.static) ∧ At W b2 (o2 + i * 9 + 2) (.int .i64 bd.ty.k) ∧ At W b2 (o2 + i * 9 + 3) (.string bd.ty.nm) ∧ At W b2 (o2 + i * 9 + 4) (.slice An bd.ty.ns.length cn) ∧ At W b2 (o2 + i * 9 + 5) (.slice Ap bd.ty.ps.length cp) ∧ At W b2 (o2 + i * 9 + 6) (.bool bd.ty.many) ∧ At W b2 (o2 + i * 9 + 7) (.int .i64 bd.regs) ∧ At W b2 (o2 + i * 9 + 8) (.slice A' bd.code.length c'))) (held0 HF) (fun hHeld => ?_)
        clear u0 u1 u2
        refine tQ 0 ?_; try simp only [sq]
        refine tQ 1 ?_; try simp only [sq]
        refine tQ 2 ?_; try simp only [sq]
        refine tQ 3 ?_; try simp only [sq]
        refine tQ 4 ?_; try simp only [sq]
        refine tQ 5 ?_; try simp only [sq]
        refine tQ 6 ?_; try simp only [sq]
        refine tQ 7 ?_; try simp only [sq]
        refine tQ 8 ?_; try simp only [sq]
        refine tQ 9 ?_; try simp only [sq]
        refine tQ 10 ?_; try simp only [sq]
        refine tQ 11 ?_; try simp only [sq]
        refine wpAnyH_ready (rs := [12]) (by decide +kernel) (by simp) ?_
        refine AllReadyH.cons rfl (fun K hK => ?_) AllReadyH.nil
        go_simp
        with_reducible refine (HS.out _ (by assumption)).mono ?_
        rintro e w' ⟨rfl, hbq⟩
        refine hK.out _ _ (heldS HF (by assumption) hbq) (fun hHeld => ?_)
        clear hK K hbq
        (try simp only [Act.put, List.setIfInBounds_toArray, List.set_cons_zero, List.set_cons_succ])
        refine tQ 13 ?_; try simp only [sq]
        refine fQ ?_ _
        have hb3 := HB.out.trans (hHeld.1.mono HB.out.size)
        have hbw3 := HBW.out.trans (hHeld.1.mono HBW.out.size)
        have kr2 := kr1.below hHeld.1
        go_wp2_with fail
        go_roundw
        case rel => exact ⟨i + 1, by omega, by go_num, hQ.out, hb3, hbw3⟩
        case measure => simp [intOf] <;> omega
      ·have hj : ¬ (i : Int) < (u.bs.length : Int) := by omega
       obtain rfl : i = u.bs.length := by omega
       have hQ := Lh (HEN.out hg)
       have hb3 := Lh (HB2.out.trans (hb.mono HB2.out.size))
       have HBW := Lh hbw
       clear hg hb hbw HEG HG2 HEN
       go_wp2_with fail
       go_roundw
       case rel => exact ⟨k + 1, by omega, by go_num, hQ.out, hb3.out, HBW.out⟩
       case measure => simp [intOf] <;> omega
    ·have hi : ¬ (k : Int) < (l.length : Int) := by omega
     obtain rfl : k = l.length := by omega
     have A2 := Lh hg
     have HE3 : Hid (∀ {u : Nat} {x : Trb}, u < l.length → (∀ j, j < u → f3 l j = none) → f3 l u = some x → E = x) := fun a b c => HE.out.symm.trans (ck_3 h1 h2 A1.out A2.out a b c)
     have HBW1 := Lh hbw
     clear hg hb hbw HE2
     go_wp2_with fail
     replace HB1 := HBk
     clear HBk
     generalize wr = w3 at *
     go_loopw [6] (fun i wr => FoRel (f3 l) l.length w w3 i wr) (fun i _ => l.length - (intOf i).toNat)
     case atStart => exact ⟨0, Nat.zero_le _, rfl, fun j h => absurd h (by omega), Below.refl _ _, HBW1.out⟩
     case round =>
      obtain ⟨k, hk, rfl, hg, hb, hbw⟩ := hrel
      have HBk := Lh (HB1.out.trans (hb.mono HB1.out.size))
      by_cases hlt : k < l.length
      ·obtain ⟨cs, hrep, hc⟩ := HA.out.row hlt
       obtain ⟨UA, ua, UB, ub, UC, uc, rfl, rA, rB, -, -, -, -⟩ := hrep
       have HCC := Lh hc
       have RA := Lh rA
       have RB := Lh rB
       have HG := Lh hg
       have HBr := Lh hb
       have HBWo := Lh hbw
       have hn40 : l[k].bs.length ≤ 40 := (HH.out k hlt).1
       have hm40 : l[k].gs.length ≤ 40 := (HH.out k hlt).2.1
       have HEG : Hid (∀ {i : Nat} {x : Trb}, i < (opens l[k]).length → (∀ j, j < i → g3 l k j = none) → g3 l k i = some x → E = x) := fun a b c => HE3.out hlt HG.out (by unfold f3; rw [unAt_at hlt]; exact fstO_some a c b)
       have HEN : Hid ((∀ j, j < (opens l[k]).length → g3 l k j = none) → ∀ j, j < k + 1 → f3 l j = none) := fun h => none_succ HG.out (by unfold f3; rw [unAt_at hlt]; exact fstO_none h)
       have HG3 : Hid (∀ i (h : i < (opens l[k]).length), g3 l k i = if !(opens l[k])[i].2 && decide ((homR l (opens l[k])[i].1).1 < (k : Int)) then some ((k : Int), 5, (i : Int)) else none) := fun i h => by unfold g3; rw [unAt_at hlt]; simp [List.getD_eq_getElem?_getD, h]
       have hi : (k : Int) < (l.length : Int) := by omega
       have hi1 : (0 : Int) ≤ (k : Int) := by omega
       have hi6 : (k : Int) < 9 := by omega
       obtain ⟨i0, hI0, hz0i0, hz1i0, hz2i0⟩ := info_parts info_str
       obtain ⟨i1, hI1, hz0i1, hz1i1, hz2i1⟩ := info_parts info_bool
       clear hg hb hbw hc rA rB
       generalize l[k] = u at *
       go_wp2_with fail
       generalize wr = wo at *
       go_loopw [7, 8, 9] (fun v s i wr' => NsRel [] (u.bs.map fun b => (b.nm, b.static)) w wo v s i wr') (fun _ _ i _ => u.bs.length - (intOf i).toNat)
       case atStart => exact ⟨0, Nat.zero_le _, rfl, World.ownsRow_nil _ _ _ _, World.ownsRow_nil _ _ _ _, Below.refl _ _, HBWo.out⟩
       case round =>
        obtain ⟨i, hik, rfl, hown, hst, hb, hbw⟩ := hrel
        rw [List.length_map] at hik
        have u0 := HCC.out wr hbw 0 _ rfl
        rw [Nat.add_zero] at u0
        by_cases hilt : i < u.bs.length
        ·obtain ⟨b2, o2, rfl, hbl2⟩ := RA.out.adr (by omega)
         obtain ⟨cs, hrb, hd⟩ := RA.out.row hilt
         have d0 := hd wr hbw 0 _ hrb.nm
         rw [Nat.add_zero] at d0
         have HD := Lh (fun W (h : Below w.heap.size w W) => hd W h 1 _ hrb.stat)
         obtain ⟨n, Hn⟩ : ∃ n, Hid (([] : List (ByteArray × Bool)).length + i = n) := ⟨_, rfl⟩
         have hTK : (u.bs.map fun b => (b.nm, b.static)).take (i + 1) = (u.bs.map fun b => (b.nm, b.static)).take i ++ [(u.bs[i].nm, u.bs[i].static)] := by rw [List.take_succ_eq_append_getElem (by simpa using hilt)]; simp
         obtain ⟨X, HX⟩ : ∃ X, Hid ((([] : List (ByteArray × Bool)) ++ (u.bs.map fun b => (b.nm, b.static)).take i).map (fun x => Value.string x.1) = X) := ⟨_, rfl⟩
         obtain ⟨Y, HY⟩ : ∃ Y, Hid ((([] : List (ByteArray × Bool)) ++ (u.bs.map fun b => (b.nm, b.static)).take i).map (fun x => Value.bool x.2) = Y) := ⟨_, rfl⟩
         have HTX : Hid (((([] : List (ByteArray × Bool)) ++ (u.bs.map fun b => (b.nm, b.static)).take (i + 1)).map fun x => Value.string x.1) = X ++ [.string u.bs[i].nm]) := by
          show _ = _
          rw [← HX.out, hTK]
          simp
         have HTY : Hid (((([] : List (ByteArray × Bool)) ++ (u.bs.map fun b => (b.nm, b.static)).take (i + 1)).map fun x => Value.bool x.2) = Y ++ [.bool u.bs[i].static]) := by
          show _ = _
          rw [← HY.out, hTK]
          simp
         have Hn1 : Hid (([] : List (ByteArray × Bool)).length + (i + 1) = n + 1) := by show _ = _; rw [← Hn.out]; rfl
         have hn6 : n ≤ 80 := by rw [← Hn.out]; simp; omega
         rw [Hn.out, HX.out] at hown
         rw [Hn.out, HY.out] at hst
         have HO := Lh hown
         have HT := Lh hst
         have HBx := Lh hb
         have HBWx := Lh hbw
         have hj : (i : Int) < (u.bs.length : Int) := by omega
         have hj1 : (0 : Int) ≤ (i : Int) := by omega
         have hj6 : (i : Int) < 40 := by omega
         clear hown hst hb hbw hd hrb hTK
         generalize u.bs[i].nm = nm at *
         generalize u.bs[i].static = st at *
         have hs2 := HBx.out.size
         go_wp2_with (at_builtin; refine wpList_append_own _ rfl _ _ 31 rfl wo.heap.size 9 i0 (.string ⟨#[]⟩) 1 16 Tryz.underlying31 hI0 hz0i0 hz1i0 hz2i0 rfl (by decide) _ _ _ rfl (HO.out.alloc _) ⟨wr.heap.size, 0, none⟩ 1 1 [.string nm] rfl rfl ?c1 ?c2 ?c3 ?c4 ?c5 ?_)
         case c1 => exact World.news_of_block (cs := #[.string nm]) (t := 9) (fr := (0, 0)) (heap_new rfl)
         case c2 => simp [Value.oneCell']
         case c3 => unfold maxLen; omega
         case c4 => omega
         case c5 => simp; omega
         intro v1 w5 hown9 hgrow9 _
         have hoth9 := owns_grown (HT.out.alloc (.cells #[.string nm] 9)) hgrow9 (owns_apart (HT.out.alloc (.cells #[.string nm] 9)) (HO.out.alloc (.cells #[.string nm] 9)) (by decide))
         have hb9 : Below wo.heap.size wo w5 := (HBx.out.alloc hs2 (.cells #[.string nm] 9)).grown hgrow9 (by simp; omega) (own_ge HO.out)
         have hbw9 : Below w.heap.size w w5 := HBWo.out.trans (hb9.mono HBWo.out.size)
         clear HO HT HBx HBWx hgrow9 u0 d0 hs2
         have HO := Lh hown9
         have HT := Lh hoth9
         have HBx := Lh hb9
         have HBWx := Lh hbw9
         clear hown9 hoth9 hb9 hbw9
         have u0 := HCC.out w5 HBWx.out 0 _ rfl
         rw [Nat.add_zero] at u0
         have d1 := HD.out w5 HBWx.out
         have hs2 := HBx.out.size
         go_wp2_with (at_builtin; refine wpList_append_own _ rfl _ _ 69 rfl wo.heap.size 4 i1 (.bool false) 1 1 Tryz.underlying69 hI1 hz0i1 hz1i1 hz2i1 rfl (by decide) _ _ _ rfl (HT.out.alloc _) ⟨w5.heap.size, 0, none⟩ 1 1 [.bool st] rfl rfl ?c1 ?c2 ?c3 ?c4 ?c5 ?_)
         case c1 => exact World.news_of_block (cs := #[.bool st]) (t := 4) (fr := (0, 0)) (heap_new rfl)
         case c2 => simp [Value.oneCell']
         case c3 => unfold maxLen; omega
         case c4 => omega
         case c5 => simp; omega
         intro v2 w6 hown9 hgrow9 _
         have hoth9 := owns_grown (HO.out.alloc (.cells #[.bool st] 4)) hgrow9 (owns_apart (HO.out.alloc (.cells #[.bool st] 4)) (HT.out.alloc (.cells #[.bool st] 4)) (by decide))
         have hb9 : Below wo.heap.size wo w6 := (HBx.out.alloc hs2 (.cells #[.bool st] 4)).grown hgrow9 (by simp; omega) (own_ge HT.out)
         have hbw9 : Below w.heap.size w w6 := HBWo.out.trans (hb9.mono HBWo.out.size)
         clear HT HO HBx HBWx hgrow9 u0 d1 hs2
         have HT := Lh hown9
         have HO := Lh hoth9
         have HBx := Lh hb9
         have HBWx := Lh hbw9
         clear hown9 hoth9 hb9 hbw9
         go_wp2
         go_roundw
         case rel => exact ⟨i + 1, by simp; omega, by go_num, by rw [HTX.out, Hn1.out]; exact HO.out, by rw [HTY.out, Hn1.out]; exact HT.out, HBx.out, HBWx.out⟩
         case measure => simp [intOf] <;> omega
        ·have hj : ¬ (i : Int) < (u.bs.length : Int) := by omega
         obtain rfl : i = u.bs.length := by omega
         rw [List.take_of_length_le (by simp)] at hown hst
         have hown9 := Lh hown
         have hst9 := Lh hst
         have hb9 := Lh hb
         have hbw9 := Lh hbw
         clear hown hst hb hbw
         go_wp2_with fail
         clear u0
         go_loopw [7, 8, 10] (fun v s i wr' => NsRel (u.bs.map fun b => (b.nm, b.static)) (u.gs.map fun b => (b.nm, b.static)) w wo v s i wr') (fun _ _ i _ => u.gs.length - (intOf i).toNat)
         case atStart => exact ⟨0, Nat.zero_le _, rfl, by simpa using hown9.out, by simpa using hst9.out, hb9.out, hbw9.out⟩
         case round =>
          obtain ⟨i, hik, rfl, hown, hst, hb, hbw⟩ := hrel
          rw [List.length_map] at hik
          have u1 := HCC.out wr hbw 1 _ rfl
          skip
          by_cases hilt : i < u.gs.length
          ·obtain ⟨b2, o2, rfl, hbl2⟩ := RB.out.adr (by omega)
           obtain ⟨cs, hrb, hd⟩ := RB.out.row hilt
           have d0 := hd wr hbw 0 _ hrb.nm
           rw [Nat.add_zero] at d0
           have HD := Lh (fun W (h : Below w.heap.size w W) => hd W h 1 _ hrb.stat)
           obtain ⟨n, Hn⟩ : ∃ n, Hid (((u.bs.map fun b => (b.nm, b.static)) : List (ByteArray × Bool)).length + i = n) := ⟨_, rfl⟩
           have hTK : (u.gs.map fun b => (b.nm, b.static)).take (i + 1) = (u.gs.map fun b => (b.nm, b.static)).take i ++ [(u.gs[i].nm, u.gs[i].static)] := by rw [List.take_succ_eq_append_getElem (by simpa using hilt)]; simp
           obtain ⟨X, HX⟩ : ∃ X, Hid ((((u.bs.map fun b => (b.nm, b.static)) : List (ByteArray × Bool)) ++ (u.gs.map fun b => (b.nm, b.static)).take i).map (fun x => Value.string x.1) = X) := ⟨_, rfl⟩
           obtain ⟨Y, HY⟩ : ∃ Y, Hid ((((u.bs.map fun b => (b.nm, b.static)) : List (ByteArray × Bool)) ++ (u.gs.map fun b => (b.nm, b.static)).take i).map (fun x => Value.bool x.2) = Y) := ⟨_, rfl⟩
           have HTX : Hid (((((u.bs.map fun b => (b.nm, b.static)) : List (ByteArray × Bool)) ++ (u.gs.map fun b => (b.nm, b.static)).take (i + 1)).map fun x => Value.string x.1) = X ++ [.string u.gs[i].nm]) := by
            show _ = _
            rw [← HX.out, hTK]
            simp
           have HTY : Hid (((((u.bs.map fun b => (b.nm, b.static)) : List (ByteArray × Bool)) ++ (u.gs.map fun b => (b.nm, b.static)).take (i + 1)).map fun x => Value.bool x.2) = Y ++ [.bool u.gs[i].static]) := by
            show _ = _
            rw [← HY.out, hTK]
            simp
           have Hn1 : Hid (((u.bs.map fun b => (b.nm, b.static)) : List (ByteArray × Bool)).length + (i + 1) = n + 1) := by show _ = _; rw [← Hn.out]; rfl
           have hn6 : n ≤ 80 := by rw [← Hn.out]; simp; omega
           rw [Hn.out, HX.out] at hown
           rw [Hn.out, HY.out] at hst
           have HO := Lh hown
           have HT := Lh hst
           have HBx := Lh hb
           have HBWx := Lh hbw
           have hj : (i : Int) < (u.gs.length : Int) := by omega
           have hj1 : (0 : Int) ≤ (i : Int) := by omega
           have hj6 : (i : Int) < 40 := by omega
           clear hown hst hb hbw hd hrb hTK
           generalize u.gs[i].nm = nm at *
           generalize u.gs[i].static = st at *
           have hs2 := HBx.out.size
           go_wp2_with (at_builtin; refine wpList_append_own _ rfl _ _ 31 rfl wo.heap.size 9 i0 (.string ⟨#[]⟩) 1 16 Tryz.underlying31 hI0 hz0i0 hz1i0 hz2i0 rfl (by decide) _ _ _ rfl (HO.out.alloc _) ⟨wr.heap.size, 0, none⟩ 1 1 [.string nm] rfl rfl ?c1 ?c2 ?c3 ?c4 ?c5 ?_)
           case c1 => exact World.news_of_block (cs := #[.string nm]) (t := 9) (fr := (0, 0)) (heap_new rfl)
           case c2 => simp [Value.oneCell']
           case c3 => unfold maxLen; omega
           case c4 => omega
           case c5 => simp; omega
           intro v1 w5 hown9 hgrow9 _
           have hoth9 := owns_grown (HT.out.alloc (.cells #[.string nm] 9)) hgrow9 (owns_apart (HT.out.alloc (.cells #[.string nm] 9)) (HO.out.alloc (.cells #[.string nm] 9)) (by decide))
           have hb9 : Below wo.heap.size wo w5 := (HBx.out.alloc hs2 (.cells #[.string nm] 9)).grown hgrow9 (by simp; omega) (own_ge HO.out)
           have hbw9 : Below w.heap.size w w5 := HBWo.out.trans (hb9.mono HBWo.out.size)
           clear HO HT HBx HBWx hgrow9 u1 d0 hs2
           have HO := Lh hown9
           have HT := Lh hoth9
           have HBx := Lh hb9
           have HBWx := Lh hbw9
           clear hown9 hoth9 hb9 hbw9
           have u1 := HCC.out w5 HBWx.out 1 _ rfl
           skip
           have d1 := HD.out w5 HBWx.out
           have hs2 := HBx.out.size
           go_wp2_with (at_builtin; refine wpList_append_own _ rfl _ _ 69 rfl wo.heap.size 4 i1 (.bool false) 1 1 Tryz.underlying69 hI1 hz0i1 hz1i1 hz2i1 rfl (by decide) _ _ _ rfl (HT.out.alloc _) ⟨w5.heap.size, 0, none⟩ 1 1 [.bool st] rfl rfl ?c1 ?c2 ?c3 ?c4 ?c5 ?_)
           case c1 => exact World.news_of_block (cs := #[.bool st]) (t := 4) (fr := (0, 0)) (heap_new rfl)
           case c2 => simp [Value.oneCell']
           case c3 => unfold maxLen; omega
           case c4 => omega
           case c5 => simp; omega
           intro v2 w6 hown9 hgrow9 _
           have hoth9 := owns_grown (HO.out.alloc (.cells #[.bool st] 4)) hgrow9 (owns_apart (HO.out.alloc (.cells #[.bool st] 4)) (HT.out.alloc (.cells #[.bool st] 4)) (by decide))
           have hb9 : Below wo.heap.size wo w6 := (HBx.out.alloc hs2 (.cells #[.bool st] 4)).grown hgrow9 (by simp; omega) (own_ge HT.out)
           have hbw9 : Below w.heap.size w w6 := HBWo.out.trans (hb9.mono HBWo.out.size)
           clear HT HO HBx HBWx hgrow9 u1 d1 hs2
           have HT := Lh hown9
           have HO := Lh hoth9
           have HBx := Lh hb9
           have HBWx := Lh hbw9
           clear hown9 hoth9 hb9 hbw9
           go_wp2
           go_roundw
           case rel => exact ⟨i + 1, by simp; omega, by go_num, by rw [HTX.out, Hn1.out]; exact HO.out, by rw [HTY.out, Hn1.out]; exact HT.out, HBx.out, HBWx.out⟩
           case measure => simp [intOf] <;> omega
          ·have hj : ¬ (i : Int) < (u.gs.length : Int) := by omega
           obtain rfl : i = u.gs.length := by omega
           rw [List.take_of_length_le (by simp)] at hown hst
           have hown10 := Lh hown
           have hst10 := Lh hst
           have hb10 := Lh hb
           have hbw10 := Lh hbw
           clear hown hst hb hbw
           go_wp2_with fail
           clear u1
           have hOL : (opens u).length = u.bs.length + u.gs.length := by unfold opens; simp
           have hop : (u.bs.map fun b => (b.nm, b.static)) ++ (u.gs.map fun b => (b.nm, b.static)) = opens u := rfl
           have ho := hown10.out
           have ht := hst10.out
           rw [hop] at ho ht
           rw [show (u.bs.map fun b => (b.nm, b.static)).length + u.gs.length = (opens u).length from by rw [hOL]; simp] at ho ht
           obtain ⟨NA, nc, rfl, hcap, hrow⟩ := own_cap ho
           obtain ⟨SA, sc, rfl, hcap2, hrow2⟩ := own_cap ht
           have RN := Lh hrow
           have RT := Lh hrow2
           have HB10 := Lh hb10.out
           have HBW10 := Lh hbw10.out
           clear ho ht hrow hrow2 hown10 hst10 hown9 hst9 hb9 hbw9 hb10 hbw10 hop RA RB
           have hO80 : (opens u).length ≤ 80 := by omega
           clear hOL
           generalize opens u = L at *
           generalize wr = w5 at *
           go_loopw [11] (fun i wr' => FoRel (g3 l k) L.length w w5 i wr') (fun i _ => L.length - (intOf i).toNat)
           case atStart => exact ⟨0, Nat.zero_le _, rfl, fun j h => absurd h (by omega), Below.refl _ _, HBW10.out⟩
           case round =>
            obtain ⟨i, hik, rfl, hg, hb, hbw⟩ := hrel
            have HBi := Lh (HBk.out.trans ((HB10.out.trans (hb.mono HB10.out.size)).mono HBk.out.size))
            have kr1 := kr.out.below HBi.out
            by_cases hilt : i < L.length
            ·obtain ⟨nb, no, rfl, hnb, hnc⟩ := RN.out.at_ (by intro e; have := congrArg List.length e; simp at this; subst this; simp at hilt)
             obtain ⟨sb, so, rfl, hsb, hsc⟩ := RT.out.at_ (by intro e; have := congrArg List.length e; simp at this; subst this; simp at hilt)
             have n0 := (hb.cell (p := ⟨nb, no + i, none⟩) hnb).trans (hnc i (.string L[i].1) (by rw [List.getElem?_map, List.getElem?_eq_getElem hilt]; rfl))
             have HS0 : Hid (∀ W, Below wr.heap.size wr W → W.cell? ⟨sb, so + i, none⟩ = some (.bool L[i].2)) := fun W h => (h.cell (p := ⟨sb, so + i, none⟩) (Nat.lt_of_lt_of_le hsb hb.size)).trans ((hb.cell (p := ⟨sb, so + i, none⟩) hsb).trans (hsc i (.bool L[i].2) (by rw [List.getElem?_map, List.getElem?_eq_getElem hilt]; rfl)))
             have HM := Lh (home_any l L[i].1 _ c wr (RepS.keep (R := RepU) RepU.keep HA.out hbw) hl)
             have HN : Hid ((!L[i].2 && decide ((homR l L[i].1).1 < (k : Int))) = true → E = ((k : Int), 5, (i : Int))) := fun h => HEG.out hilt hg (by rw [HG3.out i hilt, h]; rfl)
             have HY : Hid ((!L[i].2 && decide ((homR l L[i].1).1 < (k : Int))) = false → ∀ j, j < i + 1 → g3 l k j = none) := fun h => none_succ hg (by rw [HG3.out i hilt, h]; rfl)
             have hj : (i : Int) < (L.length : Int) := by omega
             have hj1 : (0 : Int) ≤ (i : Int) := by omega
             have hj6 : (i : Int) < 80 := by omega
             have hj7 : (i : Int) < (nc : Int) := by omega
             have hj8 : (i : Int) < (sc : Int) := by omega
             have HB := Lh hb
             have HBW := Lh hbw
             clear hg hb hbw hnc hsc RN RT HEG HG3 HEN
             generalize L[i].2 = st at *
             generalize L[i].1 = nm at *
             generalize homR l nm = R at *
             obtain ⟨v, kd, pl⟩ := R
             go_wp2_with fail
             refine (HM.out).mono ?_
             rintro e w6 ⟨rfl, hb6⟩
             have hb3 := HB.out.trans (hb6.mono HB.out.size)
             have hbw3 := HBW.out.trans (hb6.mono HBW.out.size)
             have kr2 := kr1.below hb6
             have s0 := HS0.out w6 hb6
             clear HM HS0 kr1 HB HBW HBi n0 hb6
             rcases hvk : decide (v < (k : Int)) with _ | _
             ·rw [hvk, Bool.and_false] at HY
              have hvk : ¬ v < (k : Int) := by simpa using hvk
              have hQ := Lh (HY.out rfl)
              clear HN HY
              cases st
              ·go_wp2_with fail
               go_roundw
               case rel => exact ⟨i + 1, by omega, by go_num, hQ.out, hb3, hbw3⟩
               case measure => simp [intOf] <;> omega
              ·go_wp2_with fail
               go_roundw
               case rel => exact ⟨i + 1, by omega, by go_num, hQ.out, hb3, hbw3⟩
               case measure => simp [intOf] <;> omega
             ·rw [hvk, Bool.and_true] at HY HN
              have hvk : v < (k : Int) := by simpa using hvk
              cases st
              ·have hQ := Lh (HN.out rfl)
               clear HN HY
               have hq : Hid (E = ((k : Int), 5, (i : Int))) := hQ.out
               have f0 := kr2.free 0
               have f1 := kr2.free 1
               have f2 := kr2.free 2
               have g0 := kr2.cell 0 _ rfl
               have g1 := kr2.cell 1 _ rfl
               have g2 := kr2.cell 2 _ rfl
               go_wp2_with fail
               have he := tr_end hbw3 (Nat.le_refl _) kr2 hq.out
               exact bodyPost_ret (v := .agg _) (results_tr (fn := Tryz.f10) rfl he.1 rfl) rfl he.2
              ·have hQ := Lh (HY.out rfl)
               clear HN HY
               go_wp2_with fail
               go_roundw
               case rel => exact ⟨i + 1, by omega, by go_num, hQ.out, hb3, hbw3⟩
               case measure => simp [intOf] <;> omega
            ·have hj : ¬ (i : Int) < (L.length : Int) := by omega
             obtain rfl : i = L.length := by omega
             have hQ := Lh (HEN.out hg)
             have hb3 := Lh (HBr.out.trans ((HB10.out.trans (hb.mono HB10.out.size)).mono HBr.out.size))
             have HBW := Lh hbw
             clear hg hb hbw HEG HG3 HEN
             go_wp2_with fail
             go_roundw
             case rel => exact ⟨k + 1, by omega, by go_num, hQ.out, hb3.out, HBW.out⟩
             case measure => simp [intOf] <;> omega
      ·have hi : ¬ (k : Int) < (l.length : Int) := by omega
       obtain rfl : k = l.length := by omega
       have A3 := Lh hg
       have HE4 : Hid (∀ {u : Nat} {x : Trb}, u < l.length → (∀ j, j < u → f4 l j = none) → f4 l u = some x → E = x) := fun a b c => HE.out.symm.trans (ck_4 h1 h2 A1.out A2.out A3.out a b c)
       have HBW1 := Lh hbw
       clear hg hb hbw HE3
       go_wp2_with fail
       replace HB1 := HBk
       clear HBk
       generalize wr = w4 at *
       go_loopw [15] (fun i wr => FoRel (f4 l) l.length w w4 i wr) (fun i _ => l.length - (intOf i).toNat)
       case atStart => exact ⟨0, Nat.zero_le _, rfl, fun j h => absurd h (by omega), Below.refl _ _, HBW1.out⟩
       case round =>
        obtain ⟨k, hk, rfl, hg, hb, hbw⟩ := hrel
        have HBk := Lh (HB1.out.trans (hb.mono HB1.out.size))
        by_cases hlt : k < l.length
        ·obtain ⟨cs, hrep, hc⟩ := HA.out.row hlt
         obtain ⟨UA, ua, UB, ub, UC, uc, rfl, -, -, rC, -, -, -⟩ := hrep
         have HCC := Lh hc
         have RC := Lh rC
         have HG := Lh hg
         have HBr := Lh hb
         have HBWo := Lh hbw
         have hn40 : l[k].os.length ≤ 40 := (HH.out k hlt).2.2
         have HEG : Hid (∀ {i : Nat} {x : Trb}, i < l[k].os.length → (∀ j, j < i → g4 l k j = none) → g4 l k i = some x → E = x) := fun a b c => HE4.out hlt HG.out (by unfold f4; rw [unAt_at hlt]; exact fstO_some a c b)
         have HEN : Hid ((∀ j, j < l[k].os.length → g4 l k j = none) → ∀ j, j < k + 1 → f4 l j = none) := fun h => none_succ HG.out (by unfold f4; rw [unAt_at hlt]; exact fstO_none h)
         have HG4A : Hid (∀ i (h : i < l[k].os.length), g4 l k i = if (homR l l[k].os[i].nm).1 < 0 then some ((k : Int), 4, (i : Int)) else if (((homR l l[k].os[i].nm).2.1 == 1) != l[k].os[i].fn) || !(eqB (tyF (unAt l (homR l l[k].os[i].nm).1.toNat) l[k].os[i].nm).1 l[k].os[i].ty) then some ((k : Int), 3, (i : Int)) else none) := fun i h => by
          have e : (unAt l k).os.getD i default = l[k].os[i] := by rw [unAt_at hlt]; simp [List.getD_eq_getElem?_getD, h]
          unfold g4
          rw [e]
         have hi : (k : Int) < (l.length : Int) := by omega
         have hi1 : (0 : Int) ≤ (k : Int) := by omega
         have hi6 : (k : Int) < 9 := by omega
         clear hg hb hbw hc rC
         generalize l[k] = u at *
         go_wp2_with fail
         generalize wr = wo at *
         go_loopw [16] (fun i wr' => FoRel (g4 l k) u.os.length w wo i wr') (fun i _ => u.os.length - (intOf i).toNat)
         case atStart => exact ⟨0, Nat.zero_le _, rfl, fun j h => absurd h (by omega), Below.refl _ _, HBWo.out⟩
         case round =>
          obtain ⟨i, hik, rfl, hg, hb, hbw⟩ := hrel
          have u2 := HCC.out wr hbw 2 _ rfl
          have HBi := Lh (HBk.out.trans (hb.mono HBk.out.size))
          have kr1 := kr.out.below HBi.out
          by_cases hilt : i < u.os.length
          ·obtain ⟨b2, o2, rfl, hbl2⟩ := RC.out.adr (by omega)
           obtain ⟨cs, hrx, hd⟩ := RC.out.row hilt
           obtain ⟨An, cn, Ap, cp, rfl, hTO⟩ := hrx.seven
           have c0 := hd wr hbw 0 _ rfl
           have c1 := hd wr hbw 1 _ rfl
           have c2 := hd wr hbw 2 _ rfl
           have c3 := hd wr hbw 3 _ rfl
           have c4 := hd wr hbw 4 _ rfl
           have c5 := hd wr hbw 5 _ rfl
           have c6 := hd wr hbw 6 _ rfl
           rw [Nat.add_zero] at c0
           have HTO := Lh hTO
           have HG4 := Lh (HG4A.out i hilt)
           have HEI : Hid (∀ {x : Trb}, g4 l k i = some x → E = x) := fun h => HEG.out hilt hg h
           have HGI := Lh hg
           have hj : (i : Int) < (u.os.length : Int) := by omega
           have hj1 : (0 : Int) ≤ (i : Int) := by omega
           have hj6 : (i : Int) < 40 := by omega
           have HB := Lh hb
           have HBW := Lh hbw
           clear hg hb hbw hd hrx hTO HEG HG4A HEN
           generalize u.os[i] = o at *
           go_upto_region 44 with (fail)
           have kg := Blk.new_ wr 75 #[.string o.nm, .int .i64 o.ty.k, .string o.ty.nm, .slice An o.ty.ns.length cn, .slice Ap o.ty.ps.length cp, .bool o.ty.many, .bool o.fn]
           have b6 : Below wr.heap.size wr (wr.alloc (.cells #[.string o.nm, .int .i64 o.ty.k, .string o.ty.nm, .slice An o.ty.ns.length cn, .slice Ap o.ty.ps.length cp, .bool o.ty.many, .bool o.fn] 75)) := bel
           generalize wr.alloc _ = w6 at *
           have HB6 := Lh (HB.out.trans (b6.mono HB.out.size))
           have HBW6 := Lh (HBW.out.trans (b6.mono HBW.out.size))
           have kr6 := kr1.below b6
           generalize wr.heap.size = gb at *
           have p0 := kg.cell 0 _ rfl
           have HM := Lh (home_any l o.nm _ c w6 (RepS.keep (R := RepU) RepU.keep HA.out HBW6.out) hl)
           clear b6 kr1 HB HBW HBi u2 c0 c1 c2 c3 c4 c5 c6
           go_wp2_with fail
           refine (HM.out).mono ?_
           rintro e w7 ⟨rfl, hb7⟩
           have HB7 := Lh (HB6.out.trans (hb7.mono HB6.out.size))
           have HBW7 := Lh (HBW6.out.trans (hb7.mono HBW6.out.size))
           have kr7 := kr6.below hb7
           have kg7 := kg.below hb7
           clear HM HB6 HBW6 kr6 kg hb7 p0
           rcases home_cases l o.nm with hR | ⟨v, hv, hR, ho⟩
           ·have hQ : Hid (E = ((k : Int), 4, (i : Int))) := HEI.out (by rw [HG4.out, hR]; rfl)
            rw [hR]
            clear HEI HG4 HGI hR
            have hbw3 := HBW7.out
            have hq : Hid (E = ((k : Int), 4, (i : Int))) := hQ.out
            have f0 := kr7.free 0
            have f1 := kr7.free 1
            have f2 := kr7.free 2
            have g0 := kr7.cell 0 _ rfl
            have g1 := kr7.cell 1 _ rfl
            have g2 := kr7.cell 2 _ rfl
            go_wp2_with fail
            have he := tr_end hbw3 (Nat.le_refl _) kr7 hq.out
            exact bodyPost_ret (v := .agg _) (results_tr (fn := Tryz.f10) rfl he.1 rfl) rfl he.2
           ·rcases opn_kind ho with ⟨i1, hi1', hgv, -⟩ | ⟨i1, hi1', hgv, -⟩
            ·have HFN : (tyF l[v] o.nm).2.2 = true := by unfold tyF; rw [hgv]; rfl
             have HMY : Hid (mayT 4 (tyF l[v] o.nm).1 = true) := ty_may (f1_unit A1.out hv) HFN
             obtain ⟨cs4, hrv, hcv⟩ := HA.out.row hv
             have hrv0 := hrv
             obtain ⟨VA, va, VB, vb, VC, vc, rfl, -, -, -, -, -, -⟩ := hrv
             have HF : Hid (∀ W, Below w7.heap.size w7 W → (W.cell? ⟨bb, oo + v * 3, none⟩ = some (.slice VA l[v].bs.length va) ∧ W.cell? ⟨bb, oo + v * 3 + 1, none⟩ = some (.slice VB l[v].gs.length vb) ∧ W.cell? ⟨bb, oo + v * 3 + 2, none⟩ = some (.slice VC l[v].os.length vc) ∧ W.cell? ⟨gb, 0, none⟩ = some (.string o.nm) ∧ W.cell? ⟨gb, 1, none⟩ = some (.int .i64 o.ty.k) ∧ W.cell? ⟨gb, 2, none⟩ = some (.string o.ty.nm) ∧ W.cell? ⟨gb, 3, none⟩ = some (.slice An o.ty.ns.length cn) ∧ W.cell? ⟨gb, 4, none⟩ = some (.slice Ap o.ty.ps.length cp) ∧ W.cell? ⟨gb, 5, none⟩ = some (.bool o.ty.many) ∧ W.cell? ⟨gb, 6, none⟩ = some (.bool o.fn))) := fun W h => by
              have h5 := HBW7.out.trans (h.mono HBW7.out.size)
              have k5 := kg7.below h
              exact ⟨hcv W h5 0 _ rfl, hcv W h5 1 _ rfl, hcv W h5 2 _ rfl, k5.cell 0 _ rfl, k5.cell 1 _ rfl, k5.cell 2 _ rfl, k5.cell 3 _ rfl, k5.cell 4 _ rfl, k5.cell 5 _ rfl, k5.cell 6 _ rfl⟩
             have HS : Hid (∀ W, (Below w7.heap.size w7 W ∧ (W.cell? ⟨bb, oo + v * 3, none⟩ = some (.slice VA l[v].bs.length va) ∧ W.cell? ⟨bb, oo + v * 3 + 1, none⟩ = some (.slice VB l[v].gs.length vb) ∧ W.cell? ⟨bb, oo + v * 3 + 2, none⟩ = some (.slice VC l[v].os.length vc) ∧ W.cell? ⟨gb, 0, none⟩ = some (.string o.nm) ∧ W.cell? ⟨gb, 1, none⟩ = some (.int .i64 o.ty.k) ∧ W.cell? ⟨gb, 2, none⟩ = some (.string o.ty.nm) ∧ W.cell? ⟨gb, 3, none⟩ = some (.slice An o.ty.ns.length cn) ∧ W.cell? ⟨gb, 4, none⟩ = some (.slice Ap o.ty.ps.length cp) ∧ W.cell? ⟨gb, 5, none⟩ = some (.bool o.ty.many) ∧ W.cell? ⟨gb, 6, none⟩ = some (.bool o.fn))) → Calls Tryz.prog 28 #[.agg #[.slice VA l[v].bs.length va, .slice VB l[v].gs.length vb, .slice VC l[v].os.length vc], .string o.nm] W (TyOut2 w7 (tyF l[v] o.nm) W)) := fun W h => typeOf_any2 l[v] o.nm _ w7 W (hrv0.keep HBW7.out) h.1
             have HX : Hid (g4 l k i = if (true != o.fn) || !(eqB (tyF l[v] o.nm).1 o.ty) then some ((k : Int), 3, (i : Int)) else none) := by
              show _ = _
              rw [HG4.out, hR, hgv]
              simp only [Int.toNat_natCast, unAt_at hv]
              rw [if_neg (by omega)]
              rfl
             have HTU : Hid (∀ W, Below w7.heap.size w7 W → Rep W o.ty [.int .i64 o.ty.k, .string o.ty.nm, .slice An o.ty.ns.length cn, .slice Ap o.ty.ps.length cp, .bool o.ty.many]) := fun W h => Rep.keep (HBW7.out.trans (h.mono HBW7.out.size)) _ _ HTO.out
             have HN : Hid (∀ x, g4 l k i = some x → E = x) := fun x h => HEI.out h
             have HY : Hid (g4 l k i = none → ∀ j, j < i + 1 → g4 l k j = none) := fun h => none_succ HGI.out h
             have hv1 : (v : Int) < (l.length : Int) := by omega
             have hv0 : ¬ (v : Int) < 0 := by omega
             have hv2 : (0 : Int) ≤ (v : Int) := by omega
             have hv6 : (v : Int) < 9 := by omega
             rw [hR, hgv]
             clear hcv hrv0 HFN hR hgv HG4 HTO HEI HGI
             generalize tyF l[v] o.nm = TF at *
             generalize l[v] = uv at *
             obtain ⟨T, tf, tk⟩ := TF
             dsimp only at HX HMY
             go_upto_region 47 with (fail)
             refine dQ (fun W => Below w7.heap.size w7 W ∧ (At W bb (oo + v * 3) (.slice VA uv.bs.length va) ∧ At W bb (oo + v * 3 + 1) (.slice VB uv.gs.length vb) ∧ At W bb (oo + v * 3 + 2) (.slice VC uv.os.length vc) ∧ At W gb 0 (.string o.nm) ∧ At W gb 1 (.int .i64 o.ty.k) ∧ At W gb 2 (.string o.ty.nm) ∧ At W gb 3 (.slice An o.ty.ns.length cn) ∧ At W gb 4 (.slice Ap o.ty.ps.length cp) ∧ At W gb 5 (.bool o.ty.many) ∧ At W gb 6 (.bool o.fn))) (held0 HF) (fun hHeld => ?_)
             generalize w7.drew = w72 at *
             have hHd := hHeld
             refine tQ 0 ?_; try simp only [sq]
             refine tQ 1 ?_; try simp only [sq]
             refine tQ 2 ?_; try simp only [sq]
             refine tQ 3 ?_; try simp only [sq]
             refine tQ 4 ?_; try simp only [sq]
             refine tQ 5 ?_; try simp only [sq]
             refine wpAnyH_ready (rs := [6, 11]) (by decide +kernel) (by simp) ?_
             refine AllReadyH.cons rfl (fun K hK => ?_) (AllReadyH.cons rfl (fun K hK => ?_) AllReadyH.nil)
             ·go_simp
              with_reducible refine (HS.out _ (by assumption)).mono ?_
              rintro e w' ⟨cs5, rfl, hT5, hbq⟩
              have hTK : ∀ W, Below w7.heap.size w7 W → Rep W T cs5 := fun W h => Rep.keep h _ _ hT5
              refine hK.out _ _ (heldS HF (by assumption) hbq) (fun hHeld => ?_)
              clear hK K hbq
              (try simp only [Act.put, List.setIfInBounds_toArray, List.set_cons_zero, List.set_cons_succ])
              obtain ⟨Cn, en, Cp, ep, rfl, -, -⟩ := hT5.five
              have HT5 := Lh hTK
              clear hT5 hTK
              refine tQ 7 ?_; try simp only [sq]
              refine tQ 8 ?_; try simp only [sq]
              refine tQ 9 ?_; try simp only [sq]
              refine tQ 10 ?_; try simp only [sq]
              have hle := hHeld.1.size
              refine wpAnyH_ready (rs := [11]) (by decide +kernel) (by simp) ?_
              refine AllReadyH.cons rfl (fun K hK => ?_) AllReadyH.nil
              go_simp
              refine hK.out _ _ ⟨hHeld.1.alloc hHeld.1.size _, HF.out _ (hHeld.1.alloc hHeld.1.size _)⟩ (fun hHeld => ?_)
              clear hK K
              (try simp only [Act.put, List.setIfInBounds_toArray, List.set_cons_zero, List.set_cons_succ])
              have kt := Blk.new_ w' 34 #[.int .i64 0, .string ⟨#[]⟩, .slice none 0 0, .slice none 0 0, .bool false]
              generalize w'.alloc _ = w8 at *
              generalize w'.heap.size = tb at *
              have f0 := kt.free 0
              have d0 := kt.cell 0 _ rfl
              have f1 := kt.free 1
              have d1 := kt.cell 1 _ rfl
              have f2 := kt.free 2
              have d2 := kt.cell 2 _ rfl
              have f3 := kt.free 3
              have d3 := kt.cell 3 _ rfl
              have f4 := kt.free 4
              have d4 := kt.cell 4 _ rfl
              have hb95 : Below w7.heap.size w7 (((((w8.setCell ⟨tb, 0, none⟩ (.int .i64 T.k)).setCell ⟨tb, 1, none⟩ (.string T.nm)).setCell ⟨tb, 2, none⟩ (.slice Cn T.ns.length en)).setCell ⟨tb, 3, none⟩ (.slice Cp T.ps.length ep)).setCell ⟨tb, 4, none⟩ (.bool T.many)) := below_set5 hHeld.1 hle _ _ _ _ _
              refine wpAnyH_ready (rs := [12]) (by decide +kernel) (by simp) ?_
              refine AllReadyH.cons rfl (fun K hK => ?_) AllReadyH.nil
              go_simp
              clear f0 d0 f1 d1 f2 d2 f3 d3 f4 d4
              refine hK.out _ _ ⟨hb95, HF.out _ hb95⟩ (fun hHeld => ?_)
              clear hK K
              (try simp only [Act.put, List.setIfInBounds_toArray, List.set_cons_zero, List.set_cons_succ])
              have HT9 : Hid (Rep ((((((w8.setCell ⟨tb, 0, none⟩ (.int .i64 T.k)).setCell ⟨tb, 1, none⟩ (.string T.nm)).setCell ⟨tb, 2, none⟩ (.slice Cn T.ns.length en)).setCell ⟨tb, 3, none⟩ (.slice Cp T.ps.length ep)).setCell ⟨tb, 4, none⟩ (.bool T.many))) T [.int .i64 T.k, .string T.nm, .slice Cn T.ns.length en, .slice Cp T.ps.length ep, .bool T.many]) := HT5.out _ hb95
              refine tQ 13 ?_; try simp only [sq]
              refine tQ 14 ?_; try simp only [sq]
              replace kt := kt.set5 (.int .i64 T.k) (.string T.nm) (.slice Cn T.ns.length en) (.slice Cp T.ps.length ep) (.bool T.many)
              generalize (((((w8.setCell ⟨tb, 0, none⟩ (.int .i64 T.k)).setCell ⟨tb, 1, none⟩ (.string T.nm)).setCell ⟨tb, 2, none⟩ (.slice Cn T.ns.length en)).setCell ⟨tb, 3, none⟩ (.slice Cp T.ps.length ep)).setCell ⟨tb, 4, none⟩ (.bool T.many)) = w9 at *
              refine fQ ?_ _
              have HTU9 := Lh (HTU.out _ hb95)
              have HB10 := Lh (HB7.out.trans (hb95.mono HB7.out.size))
              have HBW10 := Lh (HBW7.out.trans (hb95.mono HBW7.out.size))
              have kr9 := kr7.below hb95
              have kg9 := kg7.below hb95
              clear hle hHeld hb95 HF HS HTU HT5 kr7 kg7 HB7 HBW7
              have p0 := kg9.cell 0 _ rfl
              have p1 := kg9.cell 1 _ rfl
              have p2 := kg9.cell 2 _ rfl
              have p3 := kg9.cell 3 _ rfl
              have p4 := kg9.cell 4 _ rfl
              have p5 := kg9.cell 5 _ rfl
              have p6 := kg9.cell 6 _ rfl
              have q0 := kt.cell 0 _ rfl
              have q1 := kt.cell 1 _ rfl
              have q2 := kt.cell 2 _ rfl
              have q3 := kt.cell 3 _ rfl
              have q4 := kt.cell 4 _ rfl
              have HAL := Lh (alkR 4 T HMY.out o.ty _ _ w9 HT9.out HTU9.out)
              generalize eqB T o.ty = al at *
              generalize o.fn = fn at *
              cases fn
              ·have hQ : Hid (E = ((k : Int), 3, (i : Int))) := HN.out _ (by rw [HX.out]; rfl)
               clear HN HY HX
               clear HAL
               have hbw3 := HBW10.out
               have hq : Hid (E = ((k : Int), 3, (i : Int))) := hQ.out
               have f0 := kr9.free 0
               have f1 := kr9.free 1
               have f2 := kr9.free 2
               have g0 := kr9.cell 0 _ rfl
               have g1 := kr9.cell 1 _ rfl
               have g2 := kr9.cell 2 _ rfl
               go_wp2_with fail
               have he := tr_end hbw3 (Nat.le_refl _) kr9 hq.out
               exact bodyPost_ret (v := .agg _) (results_tr (fn := Tryz.f10) rfl he.1 rfl) rfl he.2
              ·go_wp2_with fail
               refine (HAL.out).mono ?_
               rintro e w10 ⟨rfl, hb11⟩
               have hb3 := HB10.out.trans (hb11.mono HB10.out.size)
               have hbw3 := HBW10.out.trans (hb11.mono HBW10.out.size)
               have kr2 := kr9.below hb11
               clear HAL hb11 kr9 kg9 kt HB10 HBW10 p0 p1 p2 p3 p4 p5 p6 q0 q1 q2 q3 q4
               cases al
               ·have hQ : Hid (E = ((k : Int), 3, (i : Int))) := HN.out _ (by rw [HX.out]; rfl)
                clear HN HY HX
                have hq : Hid (E = ((k : Int), 3, (i : Int))) := hQ.out
                have f0 := kr2.free 0
                have f1 := kr2.free 1
                have f2 := kr2.free 2
                have g0 := kr2.cell 0 _ rfl
                have g1 := kr2.cell 1 _ rfl
                have g2 := kr2.cell 2 _ rfl
                go_wp2_with fail
                have he := tr_end hbw3 (Nat.le_refl _) kr2 hq.out
                exact bodyPost_ret (v := .agg _) (results_tr (fn := Tryz.f10) rfl he.1 rfl) rfl he.2
               ·have hQ := Lh (HY.out (by rw [HX.out]; rfl))
                clear HN HY HX
                go_wp2_with fail
                go_roundw
                case rel => exact ⟨i + 1, by omega, by go_num, hQ.out, hb3, hbw3⟩
                case measure => simp [intOf] <;> omega
             ·go_simp
              refine hK.out _ _ ⟨hHeld.1.alloc hHeld.1.size _, HF.out _ (hHeld.1.alloc hHeld.1.size _)⟩ (fun hHeld => ?_)
              clear hK K
              (try simp only [Act.put, List.setIfInBounds_toArray, List.set_cons_zero, List.set_cons_succ])
              have kt0 := Blk.new_ w72 34 #[.int .i64 0, .string ⟨#[]⟩, .slice none 0 0, .slice none 0 0, .bool false]
              have hle : w7.heap.size ≤ w72.heap.size := hHd.1.size
              generalize w72.alloc _ = w75 at *
              generalize w72.heap.size = tb at *
              refine wpAnyH_ready (rs := [6]) (by decide +kernel) (by simp) ?_
              refine AllReadyH.cons rfl (fun K hK => ?_) AllReadyH.nil
              go_simp
              with_reducible refine (HS.out _ (by assumption)).mono ?_
              rintro e w' ⟨cs5, rfl, hT5, hbq⟩
              have kt := kt0.below hbq
              have hTK : ∀ W, Below w7.heap.size w7 W → Rep W T cs5 := fun W h => Rep.keep h _ _ hT5
              refine hK.out _ _ (heldS HF (by assumption) hbq) (fun hHeld => ?_)
              clear hK K hbq kt0
              (try simp only [Act.put, List.setIfInBounds_toArray, List.set_cons_zero, List.set_cons_succ])
              obtain ⟨Cn, en, Cp, ep, rfl, -, -⟩ := hT5.five
              have HT5 := Lh hTK
              clear hT5 hTK
              refine tQ 7 ?_; try simp only [sq]
              refine tQ 8 ?_; try simp only [sq]
              refine tQ 9 ?_; try simp only [sq]
              refine tQ 10 ?_; try simp only [sq]
              have f0 := kt.free 0
              have d0 := kt.cell 0 _ rfl
              have f1 := kt.free 1
              have d1 := kt.cell 1 _ rfl
              have f2 := kt.free 2
              have d2 := kt.cell 2 _ rfl
              have f3 := kt.free 3
              have d3 := kt.cell 3 _ rfl
              have f4 := kt.free 4
              have d4 := kt.cell 4 _ rfl
              have hb95 : Below w7.heap.size w7 (((((w'.setCell ⟨tb, 0, none⟩ (.int .i64 T.k)).setCell ⟨tb, 1, none⟩ (.string T.nm)).setCell ⟨tb, 2, none⟩ (.slice Cn T.ns.length en)).setCell ⟨tb, 3, none⟩ (.slice Cp T.ps.length ep)).setCell ⟨tb, 4, none⟩ (.bool T.many)) := below_set5 hHeld.1 hle _ _ _ _ _
              refine wpAnyH_ready (rs := [12]) (by decide +kernel) (by simp) ?_
              refine AllReadyH.cons rfl (fun K hK => ?_) AllReadyH.nil
              go_simp
              clear f0 d0 f1 d1 f2 d2 f3 d3 f4 d4
              refine hK.out _ _ ⟨hb95, HF.out _ hb95⟩ (fun hHeld => ?_)
              clear hK K
              (try simp only [Act.put, List.setIfInBounds_toArray, List.set_cons_zero, List.set_cons_succ])
              have HT9 : Hid (Rep ((((((w'.setCell ⟨tb, 0, none⟩ (.int .i64 T.k)).setCell ⟨tb, 1, none⟩ (.string T.nm)).setCell ⟨tb, 2, none⟩ (.slice Cn T.ns.length en)).setCell ⟨tb, 3, none⟩ (.slice Cp T.ps.length ep)).setCell ⟨tb, 4, none⟩ (.bool T.many))) T [.int .i64 T.k, .string T.nm, .slice Cn T.ns.length en, .slice Cp T.ps.length ep, .bool T.many]) := HT5.out _ hb95
              refine tQ 13 ?_; try simp only [sq]
              refine tQ 14 ?_; try simp only [sq]
              replace kt := kt.set5 (.int .i64 T.k) (.string T.nm) (.slice Cn T.ns.length en) (.slice Cp T.ps.length ep) (.bool T.many)
              generalize (((((w'.setCell ⟨tb, 0, none⟩ (.int .i64 T.k)).setCell ⟨tb, 1, none⟩ (.string T.nm)).setCell ⟨tb, 2, none⟩ (.slice Cn T.ns.length en)).setCell ⟨tb, 3, none⟩ (.slice Cp T.ps.length ep)).setCell ⟨tb, 4, none⟩ (.bool T.many)) = w9 at *
              refine fQ ?_ _
              have HTU9 := Lh (HTU.out _ hb95)
              have HB10 := Lh (HB7.out.trans (hb95.mono HB7.out.size))
              have HBW10 := Lh (HBW7.out.trans (hb95.mono HBW7.out.size))
              have kr9 := kr7.below hb95
              have kg9 := kg7.below hb95
              clear hle hHeld hb95 HF HS HTU HT5 kr7 kg7 HB7 HBW7
              have p0 := kg9.cell 0 _ rfl
              have p1 := kg9.cell 1 _ rfl
              have p2 := kg9.cell 2 _ rfl
              have p3 := kg9.cell 3 _ rfl
              have p4 := kg9.cell 4 _ rfl
              have p5 := kg9.cell 5 _ rfl
              have p6 := kg9.cell 6 _ rfl
              have q0 := kt.cell 0 _ rfl
              have q1 := kt.cell 1 _ rfl
              have q2 := kt.cell 2 _ rfl
              have q3 := kt.cell 3 _ rfl
              have q4 := kt.cell 4 _ rfl
              have HAL := Lh (alkR 4 T HMY.out o.ty _ _ w9 HT9.out HTU9.out)
              generalize eqB T o.ty = al at *
              generalize o.fn = fn at *
              cases fn
              ·have hQ : Hid (E = ((k : Int), 3, (i : Int))) := HN.out _ (by rw [HX.out]; rfl)
               clear HN HY HX
               clear HAL
               have hbw3 := HBW10.out
               have hq : Hid (E = ((k : Int), 3, (i : Int))) := hQ.out
               have f0 := kr9.free 0
               have f1 := kr9.free 1
               have f2 := kr9.free 2
               have g0 := kr9.cell 0 _ rfl
               have g1 := kr9.cell 1 _ rfl
               have g2 := kr9.cell 2 _ rfl
               go_wp2_with fail
               have he := tr_end hbw3 (Nat.le_refl _) kr9 hq.out
               exact bodyPost_ret (v := .agg _) (results_tr (fn := Tryz.f10) rfl he.1 rfl) rfl he.2
              ·go_wp2_with fail
               refine (HAL.out).mono ?_
               rintro e w10 ⟨rfl, hb11⟩
               have hb3 := HB10.out.trans (hb11.mono HB10.out.size)
               have hbw3 := HBW10.out.trans (hb11.mono HBW10.out.size)
               have kr2 := kr9.below hb11
               clear HAL hb11 kr9 kg9 kt HB10 HBW10 p0 p1 p2 p3 p4 p5 p6 q0 q1 q2 q3 q4
               cases al
               ·have hQ : Hid (E = ((k : Int), 3, (i : Int))) := HN.out _ (by rw [HX.out]; rfl)
                clear HN HY HX
                have hq : Hid (E = ((k : Int), 3, (i : Int))) := hQ.out
                have f0 := kr2.free 0
                have f1 := kr2.free 1
                have f2 := kr2.free 2
                have g0 := kr2.cell 0 _ rfl
                have g1 := kr2.cell 1 _ rfl
                have g2 := kr2.cell 2 _ rfl
                go_wp2_with fail
                have he := tr_end hbw3 (Nat.le_refl _) kr2 hq.out
                exact bodyPost_ret (v := .agg _) (results_tr (fn := Tryz.f10) rfl he.1 rfl) rfl he.2
               ·have hQ := Lh (HY.out (by rw [HX.out]; rfl))
                clear HN HY HX
                go_wp2_with fail
                go_roundw
                case rel => exact ⟨i + 1, by omega, by go_num, hQ.out, hb3, hbw3⟩
                case measure => simp [intOf] <;> omega
            ·have HFN : (tyF l[v] o.nm).2.2 = true := by unfold tyF; rw [hgv]; rfl
             have HMY : Hid (mayT 4 (tyF l[v] o.nm).1 = true) := ty_may (f1_unit A1.out hv) HFN
             obtain ⟨cs4, hrv, hcv⟩ := HA.out.row hv
             have hrv0 := hrv
             obtain ⟨VA, va, VB, vb, VC, vc, rfl, -, -, -, -, -, -⟩ := hrv
             have HF : Hid (∀ W, Below w7.heap.size w7 W → (W.cell? ⟨bb, oo + v * 3, none⟩ = some (.slice VA l[v].bs.length va) ∧ W.cell? ⟨bb, oo + v * 3 + 1, none⟩ = some (.slice VB l[v].gs.length vb) ∧ W.cell? ⟨bb, oo + v * 3 + 2, none⟩ = some (.slice VC l[v].os.length vc) ∧ W.cell? ⟨gb, 0, none⟩ = some (.string o.nm) ∧ W.cell? ⟨gb, 1, none⟩ = some (.int .i64 o.ty.k) ∧ W.cell? ⟨gb, 2, none⟩ = some (.string o.ty.nm) ∧ W.cell? ⟨gb, 3, none⟩ = some (.slice An o.ty.ns.length cn) ∧ W.cell? ⟨gb, 4, none⟩ = some (.slice Ap o.ty.ps.length cp) ∧ W.cell? ⟨gb, 5, none⟩ = some (.bool o.ty.many) ∧ W.cell? ⟨gb, 6, none⟩ = some (.bool o.fn))) := fun W h => by
              have h5 := HBW7.out.trans (h.mono HBW7.out.size)
              have k5 := kg7.below h
              exact ⟨hcv W h5 0 _ rfl, hcv W h5 1 _ rfl, hcv W h5 2 _ rfl, k5.cell 0 _ rfl, k5.cell 1 _ rfl, k5.cell 2 _ rfl, k5.cell 3 _ rfl, k5.cell 4 _ rfl, k5.cell 5 _ rfl, k5.cell 6 _ rfl⟩
             have HS : Hid (∀ W, (Below w7.heap.size w7 W ∧ (W.cell? ⟨bb, oo + v * 3, none⟩ = some (.slice VA l[v].bs.length va) ∧ W.cell? ⟨bb, oo + v * 3 + 1, none⟩ = some (.slice VB l[v].gs.length vb) ∧ W.cell? ⟨bb, oo + v * 3 + 2, none⟩ = some (.slice VC l[v].os.length vc) ∧ W.cell? ⟨gb, 0, none⟩ = some (.string o.nm) ∧ W.cell? ⟨gb, 1, none⟩ = some (.int .i64 o.ty.k) ∧ W.cell? ⟨gb, 2, none⟩ = some (.string o.ty.nm) ∧ W.cell? ⟨gb, 3, none⟩ = some (.slice An o.ty.ns.length cn) ∧ W.cell? ⟨gb, 4, none⟩ = some (.slice Ap o.ty.ps.length cp) ∧ W.cell? ⟨gb, 5, none⟩ = some (.bool o.ty.many) ∧ W.cell? ⟨gb, 6, none⟩ = some (.bool o.fn))) → Calls Tryz.prog 28 #[.agg #[.slice VA l[v].bs.length va, .slice VB l[v].gs.length vb, .slice VC l[v].os.length vc], .string o.nm] W (TyOut2 w7 (tyF l[v] o.nm) W)) := fun W h => typeOf_any2 l[v] o.nm _ w7 W (hrv0.keep HBW7.out) h.1
             have HX : Hid (g4 l k i = if (false != o.fn) || !(eqB (tyF l[v] o.nm).1 o.ty) then some ((k : Int), 3, (i : Int)) else none) := by
              show _ = _
              rw [HG4.out, hR, hgv]
              simp only [Int.toNat_natCast, unAt_at hv]
              rw [if_neg (by omega)]
              rfl
             have HTU : Hid (∀ W, Below w7.heap.size w7 W → Rep W o.ty [.int .i64 o.ty.k, .string o.ty.nm, .slice An o.ty.ns.length cn, .slice Ap o.ty.ps.length cp, .bool o.ty.many]) := fun W h => Rep.keep (HBW7.out.trans (h.mono HBW7.out.size)) _ _ HTO.out
             have HN : Hid (∀ x, g4 l k i = some x → E = x) := fun x h => HEI.out h
             have HY : Hid (g4 l k i = none → ∀ j, j < i + 1 → g4 l k j = none) := fun h => none_succ HGI.out h
             have hv1 : (v : Int) < (l.length : Int) := by omega
             have hv0 : ¬ (v : Int) < 0 := by omega
             have hv2 : (0 : Int) ≤ (v : Int) := by omega
             have hv6 : (v : Int) < 9 := by omega
             rw [hR, hgv]
             clear hcv hrv0 HFN hR hgv HG4 HTO HEI HGI
             generalize tyF l[v] o.nm = TF at *
             generalize l[v] = uv at *
             obtain ⟨T, tf, tk⟩ := TF
             dsimp only at HX HMY
             go_upto_region 47 with (fail)
             refine dQ (fun W => Below w7.heap.size w7 W ∧ (At W bb (oo + v * 3) (.slice VA uv.bs.length va) ∧ At W bb (oo + v * 3 + 1) (.slice VB uv.gs.length vb) ∧ At W bb (oo + v * 3 + 2) (.slice VC uv.os.length vc) ∧ At W gb 0 (.string o.nm) ∧ At W gb 1 (.int .i64 o.ty.k) ∧ At W gb 2 (.string o.ty.nm) ∧ At W gb 3 (.slice An o.ty.ns.length cn) ∧ At W gb 4 (.slice Ap o.ty.ps.length cp) ∧ At W gb 5 (.bool o.ty.many) ∧ At W gb 6 (.bool o.fn))) (held0 HF) (fun hHeld => ?_)
             generalize w7.drew = w72 at *
             have hHd := hHeld
             refine tQ 0 ?_; try simp only [sq]
             refine tQ 1 ?_; try simp only [sq]
             refine tQ 2 ?_; try simp only [sq]
             refine tQ 3 ?_; try simp only [sq]
             refine tQ 4 ?_; try simp only [sq]
             refine tQ 5 ?_; try simp only [sq]
             refine wpAnyH_ready (rs := [6, 11]) (by decide +kernel) (by simp) ?_
             refine AllReadyH.cons rfl (fun K hK => ?_) (AllReadyH.cons rfl (fun K hK => ?_) AllReadyH.nil)
             ·go_simp
              with_reducible refine (HS.out _ (by assumption)).mono ?_
              rintro e w' ⟨cs5, rfl, hT5, hbq⟩
              have hTK : ∀ W, Below w7.heap.size w7 W → Rep W T cs5 := fun W h => Rep.keep h _ _ hT5
              refine hK.out _ _ (heldS HF (by assumption) hbq) (fun hHeld => ?_)
              clear hK K hbq
              (try simp only [Act.put, List.setIfInBounds_toArray, List.set_cons_zero, List.set_cons_succ])
              obtain ⟨Cn, en, Cp, ep, rfl, -, -⟩ := hT5.five
              have HT5 := Lh hTK
              clear hT5 hTK
              refine tQ 7 ?_; try simp only [sq]
              refine tQ 8 ?_; try simp only [sq]
              refine tQ 9 ?_; try simp only [sq]
              refine tQ 10 ?_; try simp only [sq]
              have hle := hHeld.1.size
              refine wpAnyH_ready (rs := [11]) (by decide +kernel) (by simp) ?_
              refine AllReadyH.cons rfl (fun K hK => ?_) AllReadyH.nil
              go_simp
              refine hK.out _ _ ⟨hHeld.1.alloc hHeld.1.size _, HF.out _ (hHeld.1.alloc hHeld.1.size _)⟩ (fun hHeld => ?_)
              clear hK K
              (try simp only [Act.put, List.setIfInBounds_toArray, List.set_cons_zero, List.set_cons_succ])
              have kt := Blk.new_ w' 34 #[.int .i64 0, .string ⟨#[]⟩, .slice none 0 0, .slice none 0 0, .bool false]
              generalize w'.alloc _ = w8 at *
              generalize w'.heap.size = tb at *
              have f0 := kt.free 0
              have d0 := kt.cell 0 _ rfl
              have f1 := kt.free 1
              have d1 := kt.cell 1 _ rfl
              have f2 := kt.free 2
              have d2 := kt.cell 2 _ rfl
              have f3 := kt.free 3
              have d3 := kt.cell 3 _ rfl
              have f4 := kt.free 4
              have d4 := kt.cell 4 _ rfl
              have hb95 : Below w7.heap.size w7 (((((w8.setCell ⟨tb, 0, none⟩ (.int .i64 T.k)).setCell ⟨tb, 1, none⟩ (.string T.nm)).setCell ⟨tb, 2, none⟩ (.slice Cn T.ns.length en)).setCell ⟨tb, 3, none⟩ (.slice Cp T.ps.length ep)).setCell ⟨tb, 4, none⟩ (.bool T.many)) := below_set5 hHeld.1 hle _ _ _ _ _
              refine wpAnyH_ready (rs := [12]) (by decide +kernel) (by simp) ?_
              refine AllReadyH.cons rfl (fun K hK => ?_) AllReadyH.nil
              go_simp
              clear f0 d0 f1 d1 f2 d2 f3 d3 f4 d4
              refine hK.out _ _ ⟨hb95, HF.out _ hb95⟩ (fun hHeld => ?_)
              clear hK K
              (try simp only [Act.put, List.setIfInBounds_toArray, List.set_cons_zero, List.set_cons_succ])
              have HT9 : Hid (Rep ((((((w8.setCell ⟨tb, 0, none⟩ (.int .i64 T.k)).setCell ⟨tb, 1, none⟩ (.string T.nm)).setCell ⟨tb, 2, none⟩ (.slice Cn T.ns.length en)).setCell ⟨tb, 3, none⟩ (.slice Cp T.ps.length ep)).setCell ⟨tb, 4, none⟩ (.bool T.many))) T [.int .i64 T.k, .string T.nm, .slice Cn T.ns.length en, .slice Cp T.ps.length ep, .bool T.many]) := HT5.out _ hb95
              refine tQ 13 ?_; try simp only [sq]
              refine tQ 14 ?_; try simp only [sq]
              replace kt := kt.set5 (.int .i64 T.k) (.string T.nm) (.slice Cn T.ns.length en) (.slice Cp T.ps.length ep) (.bool T.many)
              generalize (((((w8.setCell ⟨tb, 0, none⟩ (.int .i64 T.k)).setCell ⟨tb, 1, none⟩ (.string T.nm)).setCell ⟨tb, 2, none⟩ (.slice Cn T.ns.length en)).setCell ⟨tb, 3, none⟩ (.slice Cp T.ps.length ep)).setCell ⟨tb, 4, none⟩ (.bool T.many)) = w9 at *
              refine fQ ?_ _
              have HTU9 := Lh (HTU.out _ hb95)
              have HB10 := Lh (HB7.out.trans (hb95.mono HB7.out.size))
              have HBW10 := Lh (HBW7.out.trans (hb95.mono HBW7.out.size))
              have kr9 := kr7.below hb95
              have kg9 := kg7.below hb95
              clear hle hHeld hb95 HF HS HTU HT5 kr7 kg7 HB7 HBW7
              have p0 := kg9.cell 0 _ rfl
              have p1 := kg9.cell 1 _ rfl
              have p2 := kg9.cell 2 _ rfl
              have p3 := kg9.cell 3 _ rfl
              have p4 := kg9.cell 4 _ rfl
              have p5 := kg9.cell 5 _ rfl
              have p6 := kg9.cell 6 _ rfl
              have q0 := kt.cell 0 _ rfl
              have q1 := kt.cell 1 _ rfl
              have q2 := kt.cell 2 _ rfl
              have q3 := kt.cell 3 _ rfl
              have q4 := kt.cell 4 _ rfl
              have HAL := Lh (alkR 4 T HMY.out o.ty _ _ w9 HT9.out HTU9.out)
              generalize eqB T o.ty = al at *
              generalize o.fn = fn at *
              cases fn
              ·go_wp2_with fail
               refine (HAL.out).mono ?_
               rintro e w10 ⟨rfl, hb11⟩
               have hb3 := HB10.out.trans (hb11.mono HB10.out.size)
               have hbw3 := HBW10.out.trans (hb11.mono HBW10.out.size)
               have kr2 := kr9.below hb11
               clear HAL hb11 kr9 kg9 kt HB10 HBW10 p0 p1 p2 p3 p4 p5 p6 q0 q1 q2 q3 q4
               cases al
               ·have hQ : Hid (E = ((k : Int), 3, (i : Int))) := HN.out _ (by rw [HX.out]; rfl)
                clear HN HY HX
                have hq : Hid (E = ((k : Int), 3, (i : Int))) := hQ.out
                have f0 := kr2.free 0
                have f1 := kr2.free 1
                have f2 := kr2.free 2
                have g0 := kr2.cell 0 _ rfl
                have g1 := kr2.cell 1 _ rfl
                have g2 := kr2.cell 2 _ rfl
                go_wp2_with fail
                have he := tr_end hbw3 (Nat.le_refl _) kr2 hq.out
                exact bodyPost_ret (v := .agg _) (results_tr (fn := Tryz.f10) rfl he.1 rfl) rfl he.2
               ·have hQ := Lh (HY.out (by rw [HX.out]; rfl))
                clear HN HY HX
                go_wp2_with fail
                go_roundw
                case rel => exact ⟨i + 1, by omega, by go_num, hQ.out, hb3, hbw3⟩
                case measure => simp [intOf] <;> omega
              ·have hQ : Hid (E = ((k : Int), 3, (i : Int))) := HN.out _ (by rw [HX.out]; rfl)
               clear HN HY HX
               clear HAL
               have hbw3 := HBW10.out
               have hq : Hid (E = ((k : Int), 3, (i : Int))) := hQ.out
               have f0 := kr9.free 0
               have f1 := kr9.free 1
               have f2 := kr9.free 2
               have g0 := kr9.cell 0 _ rfl
               have g1 := kr9.cell 1 _ rfl
               have g2 := kr9.cell 2 _ rfl
               go_wp2_with fail
               have he := tr_end hbw3 (Nat.le_refl _) kr9 hq.out
               exact bodyPost_ret (v := .agg _) (results_tr (fn := Tryz.f10) rfl he.1 rfl) rfl he.2
             ·go_simp
              refine hK.out _ _ ⟨hHeld.1.alloc hHeld.1.size _, HF.out _ (hHeld.1.alloc hHeld.1.size _)⟩ (fun hHeld => ?_)
              clear hK K
              (try simp only [Act.put, List.setIfInBounds_toArray, List.set_cons_zero, List.set_cons_succ])
              have kt0 := Blk.new_ w72 34 #[.int .i64 0, .string ⟨#[]⟩, .slice none 0 0, .slice none 0 0, .bool false]
              have hle : w7.heap.size ≤ w72.heap.size := hHd.1.size
              generalize w72.alloc _ = w75 at *
              generalize w72.heap.size = tb at *
              refine wpAnyH_ready (rs := [6]) (by decide +kernel) (by simp) ?_
              refine AllReadyH.cons rfl (fun K hK => ?_) AllReadyH.nil
              go_simp
              with_reducible refine (HS.out _ (by assumption)).mono ?_
              rintro e w' ⟨cs5, rfl, hT5, hbq⟩
              have kt := kt0.below hbq
              have hTK : ∀ W, Below w7.heap.size w7 W → Rep W T cs5 := fun W h => Rep.keep h _ _ hT5
              refine hK.out _ _ (heldS HF (by assumption) hbq) (fun hHeld => ?_)
              clear hK K hbq kt0
              (try simp only [Act.put, List.setIfInBounds_toArray, List.set_cons_zero, List.set_cons_succ])
              obtain ⟨Cn, en, Cp, ep, rfl, -, -⟩ := hT5.five
              have HT5 := Lh hTK
              clear hT5 hTK
              refine tQ 7 ?_; try simp only [sq]
              refine tQ 8 ?_; try simp only [sq]
              refine tQ 9 ?_; try simp only [sq]
              refine tQ 10 ?_; try simp only [sq]
              have f0 := kt.free 0
              have d0 := kt.cell 0 _ rfl
              have f1 := kt.free 1
              have d1 := kt.cell 1 _ rfl
              have f2 := kt.free 2
              have d2 := kt.cell 2 _ rfl
              have f3 := kt.free 3
              have d3 := kt.cell 3 _ rfl
              have f4 := kt.free 4
              have d4 := kt.cell 4 _ rfl
              have hb95 : Below w7.heap.size w7 (((((w'.setCell ⟨tb, 0, none⟩ (.int .i64 T.k)).setCell ⟨tb, 1, none⟩ (.string T.nm)).setCell ⟨tb, 2, none⟩ (.slice Cn T.ns.length en)).setCell ⟨tb, 3, none⟩ (.slice Cp T.ps.length ep)).setCell ⟨tb, 4, none⟩ (.bool T.many)) := below_set5 hHeld.1 hle _ _ _ _ _
              refine wpAnyH_ready (rs := [12]) (by decide +kernel) (by simp) ?_
              refine AllReadyH.cons rfl (fun K hK => ?_) AllReadyH.nil
              go_simp
              clear f0 d0 f1 d1 f2 d2 f3 d3 f4 d4
              refine hK.out _ _ ⟨hb95, HF.out _ hb95⟩ (fun hHeld => ?_)
              clear hK K
              (try simp only [Act.put, List.setIfInBounds_toArray, List.set_cons_zero, List.set_cons_succ])
              have HT9 : Hid (Rep ((((((w'.setCell ⟨tb, 0, none⟩ (.int .i64 T.k)).setCell ⟨tb, 1, none⟩ (.string T.nm)).setCell ⟨tb, 2, none⟩ (.slice Cn T.ns.length en)).setCell ⟨tb, 3, none⟩ (.slice Cp T.ps.length ep)).setCell ⟨tb, 4, none⟩ (.bool T.many))) T [.int .i64 T.k, .string T.nm, .slice Cn T.ns.length en, .slice Cp T.ps.length ep, .bool T.many]) := HT5.out _ hb95
              refine tQ 13 ?_; try simp only [sq]
              refine tQ 14 ?_; try simp only [sq]
              replace kt := kt.set5 (.int .i64 T.k) (.string T.nm) (.slice Cn T.ns.length en) (.slice Cp T.ps.length ep) (.bool T.many)
              generalize (((((w'.setCell ⟨tb, 0, none⟩ (.int .i64 T.k)).setCell ⟨tb, 1, none⟩ (.string T.nm)).setCell ⟨tb, 2, none⟩ (.slice Cn T.ns.length en)).setCell ⟨tb, 3, none⟩ (.slice Cp T.ps.length ep)).setCell ⟨tb, 4, none⟩ (.bool T.many)) = w9 at *
              refine fQ ?_ _
              have HTU9 := Lh (HTU.out _ hb95)
              have HB10 := Lh (HB7.out.trans (hb95.mono HB7.out.size))
              have HBW10 := Lh (HBW7.out.trans (hb95.mono HBW7.out.size))
              have kr9 := kr7.below hb95
              have kg9 := kg7.below hb95
              clear hle hHeld hb95 HF HS HTU HT5 kr7 kg7 HB7 HBW7
              have p0 := kg9.cell 0 _ rfl
              have p1 := kg9.cell 1 _ rfl
              have p2 := kg9.cell 2 _ rfl
              have p3 := kg9.cell 3 _ rfl
              have p4 := kg9.cell 4 _ rfl
              have p5 := kg9.cell 5 _ rfl
              have p6 := kg9.cell 6 _ rfl
              have q0 := kt.cell 0 _ rfl
              have q1 := kt.cell 1 _ rfl
              have q2 := kt.cell 2 _ rfl
              have q3 := kt.cell 3 _ rfl
              have q4 := kt.cell 4 _ rfl
              have HAL := Lh (alkR 4 T HMY.out o.ty _ _ w9 HT9.out HTU9.out)
              generalize eqB T o.ty = al at *
              generalize o.fn = fn at *
              cases fn
              ·go_wp2_with fail
               refine (HAL.out).mono ?_
               rintro e w10 ⟨rfl, hb11⟩
               have hb3 := HB10.out.trans (hb11.mono HB10.out.size)
               have hbw3 := HBW10.out.trans (hb11.mono HBW10.out.size)
               have kr2 := kr9.below hb11
               clear HAL hb11 kr9 kg9 kt HB10 HBW10 p0 p1 p2 p3 p4 p5 p6 q0 q1 q2 q3 q4
               cases al
               ·have hQ : Hid (E = ((k : Int), 3, (i : Int))) := HN.out _ (by rw [HX.out]; rfl)
                clear HN HY HX
                have hq : Hid (E = ((k : Int), 3, (i : Int))) := hQ.out
                have f0 := kr2.free 0
                have f1 := kr2.free 1
                have f2 := kr2.free 2
                have g0 := kr2.cell 0 _ rfl
                have g1 := kr2.cell 1 _ rfl
                have g2 := kr2.cell 2 _ rfl
                go_wp2_with fail
                have he := tr_end hbw3 (Nat.le_refl _) kr2 hq.out
                exact bodyPost_ret (v := .agg _) (results_tr (fn := Tryz.f10) rfl he.1 rfl) rfl he.2
               ·have hQ := Lh (HY.out (by rw [HX.out]; rfl))
                clear HN HY HX
                go_wp2_with fail
                go_roundw
                case rel => exact ⟨i + 1, by omega, by go_num, hQ.out, hb3, hbw3⟩
                case measure => simp [intOf] <;> omega
              ·have hQ : Hid (E = ((k : Int), 3, (i : Int))) := HN.out _ (by rw [HX.out]; rfl)
               clear HN HY HX
               clear HAL
               have hbw3 := HBW10.out
               have hq : Hid (E = ((k : Int), 3, (i : Int))) := hQ.out
               have f0 := kr9.free 0
               have f1 := kr9.free 1
               have f2 := kr9.free 2
               have g0 := kr9.cell 0 _ rfl
               have g1 := kr9.cell 1 _ rfl
               have g2 := kr9.cell 2 _ rfl
               go_wp2_with fail
               have he := tr_end hbw3 (Nat.le_refl _) kr9 hq.out
               exact bodyPost_ret (v := .agg _) (results_tr (fn := Tryz.f10) rfl he.1 rfl) rfl he.2
          ·have hj : ¬ (i : Int) < (u.os.length : Int) := by omega
           obtain rfl : i = u.os.length := by omega
           have hQ := Lh (HEN.out hg)
           have hb3 := Lh (HBr.out.trans (hb.mono HBr.out.size))
           have HBW := Lh hbw
           clear hg hb hbw HEG HG4A HEN
           go_wp2_with fail
           go_roundw
           case rel => exact ⟨k + 1, by omega, by go_num, hQ.out, hb3.out, HBW.out⟩
           case measure => simp [intOf] <;> omega
        ·have hi : ¬ (k : Int) < (l.length : Int) := by omega
         obtain rfl : k = l.length := by omega
         have A4 := Lh hg
         have HE5 : Hid (E = (ckMain l).getD (0, 0, 0)) := HE.out.symm.trans (ck_5 h1 h2 A1.out A2.out A3.out A4.out)
         have HBW1 := Lh hbw
         clear hg hb hbw HE4
         replace HB1 := HBk
         clear HBk
         generalize wr = w5 at *
         have HM := Lh (home_any l ⟨#[109, 97, 105, 110]⟩ _ c w5 (RepS.keep (R := RepU) RepU.keep HA.out HBW1.out) hl)
         have kr1 := kr.out.below HB1.out
         go_wp2_with fail
         refine (HM.out).mono ?_
         rintro e w8 ⟨rfl, hb8⟩
         have HB8 := Lh (HB1.out.trans (hb8.mono HB1.out.size))
         have HBW8 := Lh (HBW1.out.trans (hb8.mono HBW1.out.size))
         have kr8 := kr1.below hb8
         clear HM HB1 HBW1 kr1 hb8
         rcases home_cases l ⟨#[109, 97, 105, 110]⟩ with hR | ⟨v, hv, hR, ho⟩
         ·have HQ : Hid (E = (0, 4, 0)) := HE5.out.trans (by unfold ckMain; rw [if_pos (.inl (by rw [hR]; decide))]; rfl)
          clear HE5
          rw [hR]
          clear hR
          have hbw3 := HBW8.out
          have hq : Hid (E = (0, 4, 0)) := HQ.out
          have f0 := kr8.free 0
          have f1 := kr8.free 1
          have f2 := kr8.free 2
          have g0 := kr8.cell 0 _ rfl
          have g1 := kr8.cell 1 _ rfl
          have g2 := kr8.cell 2 _ rfl
          go_wp2_with fail
          have he := tr_end hbw3 (Nat.le_refl _) kr8 hq.out
          exact bodyPost_ret (v := .agg _) (results_tr (fn := Tryz.f10) rfl he.1 rfl) rfl he.2
         ·rcases opn_kind ho with ⟨i1, hi1', hgv, -⟩ | ⟨i1, hi1', hgv, -⟩
          ·have HT5 : Hid (E = (if tB l[v].bs[i1].ty ≠ ⟨#[102, 110, 40, 41, 105, 110, 116]⟩ then some (0, 3, 0) else (none : Option Trb)).getD (0, 0, 0)) := by
            show _ = _
            have hmy := (unit_body (f1_unit A1.out hv) hi1')
            have hmy : may l[v].bs[i1].ty = true := by
             unfold bodyB at hmy
             simp only [Bool.and_eq_true] at hmy
             exact hmy.1.1.1.1.1.1.2
            rw [HE5.out]
            unfold ckMain
            rw [hR, hgv, if_neg (by first | (simp; done) | (simp; omega))]
            simp only [Int.toNat_natCast, unAt_at hv, List.getD_eq_getElem?_getD, List.getElem?_eq_getElem hi1', Option.getD_some]
            rw [textB_yes hmy]
            by_cases hz : tB l[v].bs[i1].ty = ⟨#[102, 110, 40, 41, 105, 110, 116]⟩
            ·have hz2 : (⟨(textT l[v].bs[i1].ty).toArray⟩ : ByteArray) = ⟨#[102, 110, 40, 41, 105, 110, 116]⟩ := hz
             rw [if_neg (not_not_intro hz), if_neg (not_not_intro hz2)]
            ·have hz2 : ¬ (⟨(textT l[v].bs[i1].ty).toArray⟩ : ByteArray) = ⟨#[102, 110, 40, 41, 105, 110, 116]⟩ := hz
             rw [if_pos hz, if_pos hz2]
           have HTX := Lh (textR_all 4 (Nat.le_refl _) l[v].bs[i1].ty (by
            have hmy := (unit_body (f1_unit A1.out hv) hi1')
            unfold bodyB at hmy
            simp only [Bool.and_eq_true] at hmy
            exact hmy.1.1.1.1.1.1.2))
           obtain ⟨cs4, hrv, hcv⟩ := HA.out.row hv
           obtain ⟨VA, va, VB, vb, VC, vc, rfl, rA, -, -, -, -, -⟩ := hrv
           obtain ⟨b2, o2, rfl, hbl2⟩ := rA.adr (by omega)
           obtain ⟨cs6, hrb, hd⟩ := rA.row hi1'
           have hrb0 := hrb
           obtain ⟨An, cn, Ap, cp, A', c', rfl, hTy, -, -, -⟩ := hrb.nine
           have HRT := Lh (HTX.out _ w8 (Rep.keep HBW8.out _ _ hTy))
           have c0 := hcv w8 HBW8.out 0 _ rfl
           rw [Nat.add_zero] at c0
           have d2 := hd w8 HBW8.out 2 _ rfl
           have d3 := hd w8 HBW8.out 3 _ rfl
           have d4 := hd w8 HBW8.out 4 _ rfl
           have d5 := hd w8 HBW8.out 5 _ rfl
           have d6 := hd w8 HBW8.out 6 _ rfl
           have hv1 : (v : Int) < (l.length : Int) := by omega
           have hv0 : ¬ (v : Int) < 0 := by omega
           have hv2 : (0 : Int) ≤ (v : Int) := by omega
           have hv6 : (v : Int) < 9 := by omega
           have hw1 : (i1 : Int) < (l[v].bs.length : Int) := by omega
           have hw2 : (0 : Int) ≤ (i1 : Int) := by omega
           have hw6 : (i1 : Int) < 40 := by have := (HH.out v hv).1; omega
           rw [hR, hgv]
           clear hR hgv HE5 hcv hd hrb hrb0 rA HTX hTy ho
           generalize l[v].bs[i1].ty = T at *
           go_wp2_with fail
           refine (HRT.out).mono ?_
           rintro e w9 ⟨rfl, hb9⟩
           replace HBW8 := Lh (HBW8.out.trans (hb9.mono HBW8.out.size))
           replace kr8 := kr8.below hb9
           clear HRT c0 d2 d3 d4 d5 d6 hb9
           by_cases hx : tB T = ⟨#[102, 110, 40, 41, 105, 110, 116]⟩
           ·have HQ : Hid (E = (0, 0, 0)) := HT5.out.trans (by rw [if_neg (by simpa using hx)]; rfl)
            clear HT5
            rw [hx]
            have hbw3 := HBW8.out
            have hq : Hid (E = (0, 0, 0)) := HQ.out
            have f0 := kr8.free 0
            have f1 := kr8.free 1
            have f2 := kr8.free 2
            have g0 := kr8.cell 0 _ rfl
            have g1 := kr8.cell 1 _ rfl
            have g2 := kr8.cell 2 _ rfl
            go_wp2_with fail
            have he := tr_end hbw3 (Nat.le_refl _) kr8 hq.out
            exact bodyPost_ret (v := .agg _) (results_tr (fn := Tryz.f10) rfl he.1 rfl) rfl he.2
           ·have HQ : Hid (E = (0, 3, 0)) := HT5.out.trans (by rw [if_pos hx]; rfl)
            clear HT5
            have hxl := str_ne hx
            have hx2 : ((tB T).toList == [102, 110, 40, 41, 105, 110, 116]) = false := by
             have h := hxl
             rw [show (⟨#[102, 110, 40, 41, 105, 110, 116]⟩ : ByteArray).toList = [102, 110, 40, 41, 105, 110, 116] by rw [ByteArray.toList_eq]] at h
             exact h
            generalize tB T = X at *
            have hbw3 := HBW8.out
            have hq : Hid (E = (0, 3, 0)) := HQ.out
            have f0 := kr8.free 0
            have f1 := kr8.free 1
            have f2 := kr8.free 2
            have g0 := kr8.cell 0 _ rfl
            have g1 := kr8.cell 1 _ rfl
            have g2 := kr8.cell 2 _ rfl
            go_wp2_with fail
            have he := tr_end hbw3 (Nat.le_refl _) kr8 hq.out
            exact bodyPost_ret (v := .agg _) (results_tr (fn := Tryz.f10) rfl he.1 rfl) rfl he.2
          ·have HQ : Hid (E = (0, 4, 0)) := HE5.out.trans (by unfold ckMain; rw [if_pos (.inr (by rw [hR, hgv]; simp))]; rfl)
           clear HE5
           have hv0 : ¬ (v : Int) < 0 := by omega
           rw [hR, hgv]
           clear hR
           have hbw3 := HBW8.out
           have hq : Hid (E = (0, 4, 0)) := HQ.out
           have f0 := kr8.free 0
           have f1 := kr8.free 1
           have f2 := kr8.free 2
           have g0 := kr8.cell 0 _ rfl
           have g1 := kr8.cell 1 _ rfl
           have g2 := kr8.cell 2 _ rfl
           go_wp2_with fail
           have he := tr_end hbw3 (Nat.le_refl _) kr8 hq.out
           exact bodyPost_ret (v := .agg _) (results_tr (fn := Tryz.f10) rfl he.1 rfl) rfl he.2
end Go.Proofs.YthihaeobkoiljaaGreat
