/- The reference's reader: a call, or a place and what it becomes. -/
import Derived.Test.YtgegfbopogcjpaaGreatDoorQ24
namespace Go.Proofs.YtgegfbopogcjpaaGreatDoor
open Go.RowKit
set_option linter.unusedVariables false
set_option linter.unusedSimpArgs false
set_option maxRecDepth 100000
set_option maxHeartbeats 4000000
def simpleR (L : List Tok) (F : Nat) : Nat → Bool → Nd → Nat → Res Nd
 | 0, _, _, _ => .dry
 | n + 1, called, x, i =>
  if tIs L ⟨#[46]⟩ i = true then (nameM L (i + 1)).bind fun s j => simpleR L F n called (.mk 24 s 0 [x]) j
  else if tIs L ⟨#[40]⟩ i = true then (callM L (unaryM L F) x i).bind fun y j => simpleR L F n true y j
  else if called = false then (needM L ⟨#[61]⟩ i).bind fun _ j => (exprF L F j).bind fun y k => .ok (.mk 15 ⟨#[]⟩ 0 [x, y]) k
  else if x.k = 25 then .ok (oneM 20 x) i
  else .bad i
theorem simple_split (L : List Tok) (F : Nat) : ∀ (n : Nat) (called : Bool) (x : Nd) (i : Nat), (called = false → x.k ≠ 25) → simpleM L F n called x i = (simpleR L F n called x i).bind fun y j => closedM L y j
 | 0, _, _, _, _ => rfl
 | n + 1, called, x, i, hk => by
  rw [simpleM, simpleR]
  by_cases h1 : tIs L ⟨#[46]⟩ i = true
  ·rw [if_pos h1, if_pos h1, Res.bind_assoc]
   congr 1
   funext s j
   exact simple_split L F n called _ j (fun _ => by show (24 : Int) ≠ 25; decide)
  ·rw [if_neg h1, if_neg h1]
   by_cases h2 : tIs L ⟨#[40]⟩ i = true
   ·rw [if_pos h2, if_pos h2, Res.bind_assoc]
    congr 1
    funext y j
    exact simple_split L F n true y j (fun e => by cases e)
   ·rw [if_neg h2, if_neg h2]
    cases called with
    | false =>
     rw [if_pos rfl]
     unfold needM
     by_cases h3 : tIs L ⟨#[61]⟩ i = true
     ·rw [if_pos ⟨rfl, h3⟩, if_pos h3]
      simp only [Res.bind_ok, Res.bind_assoc]
     ·rw [if_neg (fun h => h3 h.2), if_neg (hk rfl), if_neg h3]
      rfl
    | true =>
     simp only [Bool.true_eq_false, false_and, if_false]
     by_cases h4 : x.k = 25
     ·rw [if_pos h4, if_pos h4]; rfl
     ·rw [if_neg h4, if_neg h4]; rfl
def simpleR0 (L : List Tok) (F i : Nat) : Res Nd := (nameM L i).bind fun s j => simpleR L F (L.length + 1) false (.mk 23 s 0 []) j
theorem simple_eq (L : List Tok) (F i : Nat) : ((nameM L i).bind fun s j => simpleM L F (L.length + 1) false (.mk 23 s 0 []) j) = (simpleR0 L F i).bind fun y j => closedM L y j := by
 unfold simpleR0
 rw [Res.bind_assoc]
 congr 1
 funext s j
 exact simple_split L F _ false _ j (fun _ => by show (23 : Int) ≠ 25; decide)
def SmRel (C : RC) (F : Nat) (R : Res Nd) (w : World) (B bt : Nat) (gk : Nat) (v : Value) (wr : World) : Prop :=
 ∃ (cnt : Nat) (nk : Int) (nt : ByteArray) (nn : Int) (nl : List Nd) (An : Option Addr) (cn i : Nat) (b : Bool), v = .int .i64 cnt ∧ cnt + gk ≤ C.L.length + 1 ∧ Hid (Blk wr bt 24 #[.int .i64 nk, .string nt, .int .i64 nn, .slice An nl.length cn] ∧ RepV (fun b => B ≤ b ∧ b ≠ bt) wr (.mk nk nt nn nl) [.int .i64 nk, .string nt, .int .i64 nn, .slice An nl.length cn] ∧ RSt C wr i b ∧ Mv C.p w wr ∧ Blk wr w.heap.size 24 #[.int .i64 0, .string ⟨#[]⟩, .int .i64 0, .slice none 0 0] ∧ B ≤ wr.heap.size ∧ mbr (simpleR C.L F gk (decide (0 < cnt)) (.mk nk nt nn nl) i) i b = R)
theorem rsimple_of (C : RC) (F : Nat) : ROk C 100 (simpleR0 C.L F) := by
 intro w i b h hwet
 have XX : Hid (ROk C 79 (exprM C.L (unaryM C.L F))) := Lib.hid (rexpr_of C (runary_all C F))
 obtain ⟨R, HR⟩ : ∃ R, Hid (mbr (simpleR0 C.L F i) i b = R) := ⟨_, rfl⟩
 rw [HR.out] at hwet ⊢
 have HW := Lib.hid hwet
 have hR := HR.out
 unfold simpleR0 at hR
 replace HR := Lib.hid hR
 clear hR
 clear hwet
 have hlw := h.lt
 have hlen := h.len
 have hr0 : w.heap.size ≠ C.p := by omega
 have hb0 : Below w.heap.size w (w.alloc (.cells #[.int .i64 0, .string ⟨#[]⟩, .int .i64 0, .slice none 0 0] 24)) := by (repeat (first | with_reducible assumption | with_reducible exact Below.refl _ _ | (refine Below.setCell ?_ (by first | omega | (simp; done) | (simp; omega)) _) | (refine Below.drewN_ ?_ _) | (refine Below.drew ?_) | (refine Below.alloc ?_ (by first | omega | (simp; done) | (simp; omega)) _)))
 have H0 := Lib.hid h
 have HS := Lib.hid (h.below hb0)
 have HM : Hid (Mv C.p w (w.alloc (.cells #[.int .i64 0, .string ⟨#[]⟩, .int .i64 0, .slice none 0 0] 24))) := mv_below hb0
 have KR := Lib.hid (Blk.new_ w 24 #[.int .i64 0, .string ⟨#[]⟩, .int .i64 0, .slice none 0 0])
 have hsz0 : w.heap.size < (w.alloc (.cells #[.int .i64 0, .string ⟨#[]⟩, .int .i64 0, .slice none 0 0] 24)).heap.size := KR.out.lt
 clear h hb0
 go_enter Tryz.func100, Tryz.ntmps100
 go_wp2_with fail
 generalize (w.alloc (.cells #[.int .i64 0, .string ⟨#[]⟩, .int .i64 0, .slice none 0 0] 24)) = w0 at *
 go_wp2_with fail
 refine (nameRd_any C _ _ b HS.out).mono ?_
 rintro e w1 ⟨nm, j1, b1, rfl, hsz, h', m', hf⟩
 have hnm := nm_max hsz
 replace HR := Lib.hid (mbr_seq HR.out HW.out hf)
 clear hf hsz
 have hsz1 := m'.size
 replace KR := Lib.hid (m'.blk KR.out (by omega))
 replace HS := Lib.hid h'
 replace HM := Lib.hid (HM.out.trans_ m')
 clear m'
 clear h'
 go_wp2_with fail
 have KX := Blk.new_ w1 24 #[.int .i64 23, .string nm, .int .i64 0, .slice none 0 0]
 have hb : Below w1.heap.size w1 (w1.alloc (.cells #[.int .i64 23, .string nm, .int .i64 0, .slice none 0 0] 24)) := by (repeat (first | with_reducible assumption | with_reducible exact Below.refl _ _ | (refine Below.setCell ?_ (by first | omega | (simp; done) | (simp; omega)) _) | (refine Below.drewN_ ?_ _) | (refine Below.drew ?_) | (refine Below.alloc ?_ (by first | omega | (simp; done) | (simp; omega)) _)))
 have hbzbt : w1.heap.size < (w1.alloc (.cells #[.int .i64 23, .string nm, .int .i64 0, .slice none 0 0] 24)).heap.size := KX.lt
 have hsz2 := hb.size
 replace KR := Lib.hid (KR.out.below hb)
 replace HS := Lib.hid (HS.out.below hb)
 replace HM := Lib.hid (HM.out.below_ hb)
 clear hb
 have BT := Lib.hid KX
 clear KX
 have HBSbt : Hid ((w1.alloc (.cells #[.int .i64 23, .string nm, .int .i64 0, .slice none 0 0] 24)).heap.size = w1.heap.size + 1) := by show _ = _; simp
 generalize (w1.alloc (.cells #[.int .i64 23, .string nm, .int .i64 0, .slice none 0 0] 24)) = w2 at *
 obtain ⟨bt, hbwbt⟩ : ∃ x, x = w1.heap.size := ⟨_, rfl⟩
 rw [← hbwbt] at BT
 have hbvbt : w1.heap.size ≤ bt := by omega
 have hbxbt : bt < w2.heap.size := by omega
 rw [← hbwbt]
 clear hbwbt
 have hrx : RepV (fun b => w1.heap.size ≤ b ∧ b ≠ bt) w2 (.mk 23 nm 0 []) [.int .i64 23, .string nm, .int .i64 0, .slice none 0 0] := leafV i64_0 hnm
 have hBb : w1.heap.size ≤ bt := by omega
 have hB0 : w.heap.size < w1.heap.size := by omega
 go_loopg [4] (C.L.length + 1) (fun gk v wr => SmRel C F R w w1.heap.size bt gk v wr)
 case atStart => exact ⟨0, 23, nm, 0, [], none, 0, j1, b1, rfl, by omega, Lib.hid ⟨BT.out, hrx, HS.out, HM.out, KR.out, by omega, HR.out⟩⟩
 case round =>
  obtain ⟨cnt, nk, nt, nn, nl, An, cn, j, b, rfl, hcg, HX⟩ := hrel
  clear HS HM HR KR BT hrx
  have BT := Lib.hid HX.out.1
  have REPn := Lib.hid HX.out.2.1
  have HS := Lib.hid HX.out.2.2.1
  have HM := Lib.hid HX.out.2.2.2.1
  have KR := Lib.hid HX.out.2.2.2.2.1
  have hszB := HX.out.2.2.2.2.2.1
  have hR := HX.out.2.2.2.2.2.2
  clear HX
  have hszr := HM.out.size
  have hbtl := BT.out.lt
  have hcb := HS.out.blk.cell 2 (.bool b) rfl
  cases b with
  | true =>
   have HR := Lib.hid hR
   clear hR
   have bBT0 := BT.out.cell 0 (.int .i64 nk) rfl
   have bBT1 := BT.out.cell 1 (.string nt) rfl
   have bBT2 := BT.out.cell 2 (.int .i64 nn) rfl
   have bBT3 := BT.out.cell 3 (.slice An nl.length cn) rfl
   have f0 := KR.out.free 0
   have g0 := KR.out.cell 0 (.int .i64 0) rfl
   have f1 := KR.out.free 1
   have g1 := KR.out.cell 1 (.string ⟨#[]⟩) rfl
   have f2 := KR.out.free 2
   have g2 := KR.out.cell 2 (.int .i64 0) rfl
   have f3 := KR.out.free 3
   have g3 := KR.out.cell 3 (.slice none 0 0) rfl
   have hneby_ := Nat.ne_of_lt (KR.out.lt)
   have hltby_ := KR.out.lt
   go_wp2_with fail
   clear f0 f1 f2 f3 g0 g1 g2 g3 hneby_ hltby_
   have m' := put4_mv wr w.heap.size (.int .i64 20) (.string ⟨#[]⟩) (.int .i64 0) (.slice (some ⟨wr.heap.size, 0, none⟩) 1 1)
   have hbt := blk_put4 KR.out (.int .i64 20) (.string ⟨#[]⟩) (.int .i64 0) (.slice (some ⟨wr.heap.size, 0, none⟩) 1 1)
   have hsq : (((((wr).setCell ⟨w.heap.size, 0, none⟩ (.int .i64 20)).setCell ⟨w.heap.size, 1, none⟩ (.string ⟨#[]⟩)).setCell ⟨w.heap.size, 2, none⟩ (.int .i64 0)).setCell ⟨w.heap.size, 3, none⟩ (.slice (some ⟨wr.heap.size, 0, none⟩) 1 1)).heap.size = wr.heap.size := by simp [World.setCell]
   have hsz101 := m'.size
   replace HS := Lib.hid (RSt.put H0.out HS.out HM.out (by omega) m')
   replace HM := Lib.hid (HM.out.put (by omega) m')
   replace KR := Lib.hid hbt
   replace BT := Lib.hid (m'.blk BT.out (by omega))
   replace REPn := Lib.hid (REPn.out.mvG m' (fun b h => by have h1 := h.1; have h2 := h.2; omega))
   clear m' hbt
   generalize (((((wr).setCell ⟨w.heap.size, 0, none⟩ (.int .i64 20)).setCell ⟨w.heap.size, 1, none⟩ (.string ⟨#[]⟩)).setCell ⟨w.heap.size, 2, none⟩ (.int .i64 0)).setCell ⟨w.heap.size, 3, none⟩ (.slice (some ⟨wr.heap.size, 0, none⟩) 1 1)) = w101 at *
   have KX := Blk.new_ w101 24 #[.int .i64 nk, .string nt, .int .i64 nn, .slice An nl.length cn]
   rw [hsq] at KX
   have hb : Below w101.heap.size w101 (w101.alloc (.cells #[.int .i64 nk, .string nt, .int .i64 nn, .slice An nl.length cn] 24)) := by (repeat (first | with_reducible assumption | with_reducible exact Below.refl _ _ | (refine Below.setCell ?_ (by first | omega | (simp; done) | (simp; omega)) _) | (refine Below.drewN_ ?_ _) | (refine Below.drew ?_) | (refine Below.alloc ?_ (by first | omega | (simp; done) | (simp; omega)) _)))
   have hsz102 := hb.size
   replace KR := Lib.hid (KR.out.below hb)
   replace BT := Lib.hid (BT.out.below hb)
   replace REPn := Lib.hid (REPn.out.belowG hb)
   replace HS := Lib.hid (HS.out.below hb)
   replace HM := Lib.hid (HM.out.below_ hb)
   clear hb
   have BY := Lib.hid KX
   clear KX
   generalize (w101.alloc (.cells #[.int .i64 nk, .string nt, .int .i64 nn, .slice An nl.length cn] 24)) = w102 at *
   obtain ⟨by_, hbwby_⟩ : ∃ x, x = wr.heap.size := ⟨_, rfl⟩
   rw [← hbwby_] at BY KR
   have hbvby_ : wr.heap.size ≤ by_ := by omega
   have hbxby_ : by_ < w102.heap.size := BY.out.lt
   rw [← hbwby_]
   clear hbwby_ hsq
   exact bodyPost_ret (v := .agg _) (results_cell4 (fn := Tryz.f100) rfl KR.out rfl) rfl (by exact ⟨(Nd.mk 20 ⟨#[]⟩ 0 [(Nd.mk nk nt nn nl)]), (some ⟨by_, 0, none⟩), 1, j, true, rfl, (one_kidV (V := From w.heap.size) (k := 20) (t := ⟨#[]⟩) (x := (Nd.mk nk nt nn nl)) BY.out (RepV.keep (Nat.le_refl _) (fun b hv _ => ⟨rfl, by have h1 := hv.1; show w.heap.size ≤ b; omega⟩) _ _ REPn.out) (by show w.heap.size ≤ by_; omega) (Nat.zero_le _)), HS.out, HM.out, (mbr_true HR.out)⟩)
  | false =>
   cases gk with
   | zero => exact absurd (show Res.dry = R from hR) (fun e => HW.out e.symm)
   | succ g =>
   rw [simpleR] at hR
   have HR := Lib.hid hR
   clear hR
   go_wp2_with fail
   rcases ht : (!false && tIs C.L ⟨#[46]⟩ j) with _ | _
   ·have HV := Lib.hid (eat_any C _ _ false ⟨#[46]⟩ HS.out (by decide))
    rw [ht] at HV
    unfold EatOut at HV
    replace HR := Lib.hid (mbr_no HR.out (eat_no ht))
    clear ht
    refine HV.out.mono ?_
    rintro e w101 ⟨rfl, h', m'⟩
    clear HV
    have hsz101 := m'.size
    replace KR := Lib.hid (m'.blk KR.out (by omega))
    replace BT := Lib.hid (m'.blk BT.out (by omega))
    replace REPn := Lib.hid (REPn.out.mvG m' (fun b h => by have h1 := h.1; have h2 := h.2; omega))
    replace HS := Lib.hid (show RSt C w101 j false by simpa using h')
    replace HM := Lib.hid (HM.out.trans_ m')
    clear m'
    clear h'
    go_wp2_with fail
    refine (txtR_any C _ _ 0 false HS.out (by omega)).mono ?_
    rintro e w102 ⟨rfl, hb⟩
    rw [Nat.add_zero]
    have hsz102 := hb.size
    replace KR := Lib.hid (KR.out.below hb)
    replace BT := Lib.hid (BT.out.below hb)
    replace REPn := Lib.hid (REPn.out.belowG hb)
    replace HS := Lib.hid (HS.out.below hb)
    replace HM := Lib.hid (HM.out.below_ hb)
    clear hb
    rcases ht : tIs C.L ⟨#[40]⟩ j with _ | _
    ·have hx : ((txR C.L j).toList == [40]) = false := (lit_beq _ _).trans ((txR_is H0.out.ok (s := ⟨#[40]⟩) (by decide) _).trans ht)
     have ht2 : ¬ tIs C.L ⟨#[40]⟩ j = true := by rw [ht]; simp
     replace HR := Lib.hid (mbr_no HR.out (fun _ => ht2))
     clear ht2
     clear ht
     generalize txR C.L j = tx at *
     by_cases hc0 : cnt = 0
     ·subst hc0
      replace HR := Lib.hid (mbr_yes (j := j) HR.out (by decide))
      go_wp2_with fail
      refine (must_any C _ _ false ⟨#[61]⟩ HS.out (by decide)).mono ?_
      rintro e w103 ⟨j51, b51, rfl, h', m', hf⟩
      replace HR := Lib.hid (mbr_seq HR.out HW.out hf)
      clear hf
      have hsz103 := m'.size
      replace KR := Lib.hid (m'.blk KR.out (by omega))
      replace BT := Lib.hid (m'.blk BT.out (by omega))
      replace REPn := Lib.hid (REPn.out.mvG m' (fun b h => by have h1 := h.1; have h2 := h.2; omega))
      replace HS := Lib.hid h'
      replace HM := Lib.hid (HM.out.trans_ m')
      clear m'
      clear h'
      go_wp2_with fail
      have hpy := HS.out.lt
      refine (XX.out _ _ b51 HS.out (mbr_wet HR.out HW.out)).mono ?_
      rintro e w104 ⟨⟨yk, yt, yn, yl⟩, Ay, cy, j52, b52, rfl, hrep, h', m', hf⟩
      replace HR := Lib.hid (mbr_seq HR.out HW.out hf)
      simp only [Nd.k, Nd.t, Nd.num, Nd.kids] at hrep ⊢
      have REPy := Lib.hid (hrep.toI (E := w104.heap.size) rfl)
      clear hf hrep
      have hsz104 := m'.size
      replace KR := Lib.hid (m'.blk KR.out (by omega))
      replace BT := Lib.hid (m'.blk BT.out (by omega))
      replace REPn := Lib.hid (REPn.out.mvG m' (fun b h => by have h1 := h.1; have h2 := h.2; omega))
      replace HS := Lib.hid h'
      replace HM := Lib.hid (HM.out.trans_ m')
      clear m'
      clear h'
      go_upto_region 13 with (fail)
      have KX := Blk.new_ w104 24 #[.int .i64 yk, .string yt, .int .i64 yn, .slice Ay yl.length cy]
      have hb : Below w104.heap.size w104 (w104.alloc (.cells #[.int .i64 yk, .string yt, .int .i64 yn, .slice Ay yl.length cy] 24)) := by (repeat (first | with_reducible assumption | with_reducible exact Below.refl _ _ | (refine Below.setCell ?_ (by first | omega | (simp; done) | (simp; omega)) _) | (refine Below.drewN_ ?_ _) | (refine Below.drew ?_) | (refine Below.alloc ?_ (by first | omega | (simp; done) | (simp; omega)) _)))
      have hbzb7 : w104.heap.size < (w104.alloc (.cells #[.int .i64 yk, .string yt, .int .i64 yn, .slice Ay yl.length cy] 24)).heap.size := KX.lt
      have hsz105 := hb.size
      replace KR := Lib.hid (KR.out.below hb)
      replace BT := Lib.hid (BT.out.below hb)
      replace REPn := Lib.hid (REPn.out.belowG hb)
      replace REPy := Lib.hid (REPy.out.belI hb)
      replace HS := Lib.hid (HS.out.below hb)
      replace HM := Lib.hid (HM.out.below_ hb)
      clear hb
      have B7 := Lib.hid KX
      clear KX
      have HBSb7 : Hid ((w104.alloc (.cells #[.int .i64 yk, .string yt, .int .i64 yn, .slice Ay yl.length cy] 24)).heap.size = w104.heap.size + 1) := by show _ = _; simp
      generalize (w104.alloc (.cells #[.int .i64 yk, .string yt, .int .i64 yn, .slice Ay yl.length cy] 24)) = w105 at *
      obtain ⟨b7, hbwb7⟩ : ∃ x, x = w104.heap.size := ⟨_, rfl⟩
      rw [← hbwb7] at B7
      have hbvb7 : w104.heap.size ≤ b7 := by omega
      have hbxb7 : b7 < w105.heap.size := by omega
      rw [← hbwb7]
      clear hbwb7
      have bBT0 := BT.out.cell 0 (.int .i64 nk) rfl
      have bBT1 := BT.out.cell 1 (.string nt) rfl
      have bBT2 := BT.out.cell 2 (.int .i64 nn) rfl
      have bBT3 := BT.out.cell 3 (.slice An nl.length cn) rfl
      have bB70 := B7.out.cell 0 (.int .i64 yk) rfl
      have bB71 := B7.out.cell 1 (.string yt) rfl
      have bB72 := B7.out.cell 2 (.int .i64 yn) rfl
      have bB73 := B7.out.cell 3 (.slice Ay yl.length cy) rfl
      have f0 := KR.out.free 0
      have g0 := KR.out.cell 0 (.int .i64 0) rfl
      have f1 := KR.out.free 1
      have g1 := KR.out.cell 1 (.string ⟨#[]⟩) rfl
      have f2 := KR.out.free 2
      have g2 := KR.out.cell 2 (.int .i64 0) rfl
      have f3 := KR.out.free 3
      have g3 := KR.out.cell 3 (.slice none 0 0) rfl
      have hneby_ := Nat.ne_of_lt (KR.out.lt)
      have hltby_ := KR.out.lt
      go_wp2_with fail
      clear f0 f1 f2 f3 g0 g1 g2 g3 hneby_ hltby_
      have m' := put4_mv w105 w.heap.size (.int .i64 15) (.string ⟨#[]⟩) (.int .i64 0) (.slice (some ⟨w105.heap.size, 0, none⟩) 2 2)
      have hbt := blk_put4 KR.out (.int .i64 15) (.string ⟨#[]⟩) (.int .i64 0) (.slice (some ⟨w105.heap.size, 0, none⟩) 2 2)
      have hsq : (((((w105).setCell ⟨w.heap.size, 0, none⟩ (.int .i64 15)).setCell ⟨w.heap.size, 1, none⟩ (.string ⟨#[]⟩)).setCell ⟨w.heap.size, 2, none⟩ (.int .i64 0)).setCell ⟨w.heap.size, 3, none⟩ (.slice (some ⟨w105.heap.size, 0, none⟩) 2 2)).heap.size = w105.heap.size := by simp [World.setCell]
      have hsz106 := m'.size
      replace HS := Lib.hid (RSt.put H0.out HS.out HM.out (by omega) m')
      replace HM := Lib.hid (HM.out.put (by omega) m')
      replace KR := Lib.hid hbt
      replace BT := Lib.hid (m'.blk BT.out (by omega))
      replace REPn := Lib.hid (REPn.out.mvG m' (fun b h => by have h1 := h.1; have h2 := h.2; omega))
      replace REPy := Lib.hid (REPy.out.mvI m' (by omega))
      replace B7 := Lib.hid (m'.blk B7.out (by omega))
      clear m' hbt
      generalize (((((w105).setCell ⟨w.heap.size, 0, none⟩ (.int .i64 15)).setCell ⟨w.heap.size, 1, none⟩ (.string ⟨#[]⟩)).setCell ⟨w.heap.size, 2, none⟩ (.int .i64 0)).setCell ⟨w.heap.size, 3, none⟩ (.slice (some ⟨w105.heap.size, 0, none⟩) 2 2)) = w106 at *
      have KX := Blk.new_ w106 24 #[.int .i64 nk, .string nt, .int .i64 nn, .slice An nl.length cn, .int .i64 yk, .string yt, .int .i64 yn, .slice Ay yl.length cy]
      rw [hsq] at KX
      have hb : Below w106.heap.size w106 (w106.alloc (.cells #[.int .i64 nk, .string nt, .int .i64 nn, .slice An nl.length cn, .int .i64 yk, .string yt, .int .i64 yn, .slice Ay yl.length cy] 24)) := by (repeat (first | with_reducible assumption | with_reducible exact Below.refl _ _ | (refine Below.setCell ?_ (by first | omega | (simp; done) | (simp; omega)) _) | (refine Below.drewN_ ?_ _) | (refine Below.drew ?_) | (refine Below.alloc ?_ (by first | omega | (simp; done) | (simp; omega)) _)))
      have hsz107 := hb.size
      replace KR := Lib.hid (KR.out.below hb)
      replace BT := Lib.hid (BT.out.below hb)
      replace REPn := Lib.hid (REPn.out.belowG hb)
      replace REPy := Lib.hid (REPy.out.belI hb)
      replace B7 := Lib.hid (B7.out.below hb)
      replace HS := Lib.hid (HS.out.below hb)
      replace HM := Lib.hid (HM.out.below_ hb)
      clear hb
      have BY := Lib.hid KX
      clear KX
      generalize (w106.alloc (.cells #[.int .i64 nk, .string nt, .int .i64 nn, .slice An nl.length cn, .int .i64 yk, .string yt, .int .i64 yn, .slice Ay yl.length cy] 24)) = w107 at *
      obtain ⟨by_, hbwby_⟩ : ∃ x, x = w105.heap.size := ⟨_, rfl⟩
      rw [← hbwby_] at BY KR
      have hbvby_ : w105.heap.size ≤ by_ := by omega
      have hbxby_ : by_ < w107.heap.size := BY.out.lt
      rw [← hbwby_]
      clear hbwby_ hsq
      exact bodyPost_ret (v := .agg _) (results_cell4 (fn := Tryz.f100) rfl KR.out rfl) rfl (by exact ⟨(Nd.mk 15 ⟨#[]⟩ 0 [(Nd.mk nk nt nn nl), (Nd.mk yk yt yn yl)]), (some ⟨by_, 0, none⟩), 2, j52, b52, rfl, (two_kids1 (V := From w.heap.size) (k := 15) (num := 0) (x := (Nd.mk nk nt nn nl)) (y := (Nd.mk yk yt yn yl)) BY.out (RepV.keep (Nat.le_refl _) (fun b hv _ => ⟨rfl, by have h1 := hv.1; show w.heap.size ≤ b; omega⟩) _ _ REPn.out) (REPy.out.ofI fun b h1 h2 => by show w.heap.size ≤ b; omega) (by show w.heap.size ≤ by_; omega) i64_0), HS.out, HM.out, (mbr_fin HR.out)⟩)
     ·have hc1 : ((cnt : Int) == 0) = false := by simpa using hc0
      replace HR := Lib.hid (mbr_no HR.out (fun _ => by rw [decide_eq_true (show 0 < cnt by omega)]; simp))
      by_cases hk : nk = 25
      ·subst hk
       replace HR := Lib.hid (mbr_yes (j := j) HR.out rfl)
       have bBT0 := BT.out.cell 0 (.int .i64 25) rfl
       have bBT1 := BT.out.cell 1 (.string nt) rfl
       have bBT2 := BT.out.cell 2 (.int .i64 nn) rfl
       have bBT3 := BT.out.cell 3 (.slice An nl.length cn) rfl
       have f0 := KR.out.free 0
       have g0 := KR.out.cell 0 (.int .i64 0) rfl
       have f1 := KR.out.free 1
       have g1 := KR.out.cell 1 (.string ⟨#[]⟩) rfl
       have f2 := KR.out.free 2
       have g2 := KR.out.cell 2 (.int .i64 0) rfl
       have f3 := KR.out.free 3
       have g3 := KR.out.cell 3 (.slice none 0 0) rfl
       have hneby_ := Nat.ne_of_lt (KR.out.lt)
       have hltby_ := KR.out.lt
       go_wp2_with fail
       clear f0 f1 f2 f3 g0 g1 g2 g3 hneby_ hltby_
       have m' := put4_mv w102 w.heap.size (.int .i64 20) (.string ⟨#[]⟩) (.int .i64 0) (.slice (some ⟨w102.heap.size, 0, none⟩) 1 1)
       have hbt := blk_put4 KR.out (.int .i64 20) (.string ⟨#[]⟩) (.int .i64 0) (.slice (some ⟨w102.heap.size, 0, none⟩) 1 1)
       have hsq : (((((w102).setCell ⟨w.heap.size, 0, none⟩ (.int .i64 20)).setCell ⟨w.heap.size, 1, none⟩ (.string ⟨#[]⟩)).setCell ⟨w.heap.size, 2, none⟩ (.int .i64 0)).setCell ⟨w.heap.size, 3, none⟩ (.slice (some ⟨w102.heap.size, 0, none⟩) 1 1)).heap.size = w102.heap.size := by simp [World.setCell]
       have hsz103 := m'.size
       replace HS := Lib.hid (RSt.put H0.out HS.out HM.out (by omega) m')
       replace HM := Lib.hid (HM.out.put (by omega) m')
       replace KR := Lib.hid hbt
       replace BT := Lib.hid (m'.blk BT.out (by omega))
       replace REPn := Lib.hid (REPn.out.mvG m' (fun b h => by have h1 := h.1; have h2 := h.2; omega))
       clear m' hbt
       generalize (((((w102).setCell ⟨w.heap.size, 0, none⟩ (.int .i64 20)).setCell ⟨w.heap.size, 1, none⟩ (.string ⟨#[]⟩)).setCell ⟨w.heap.size, 2, none⟩ (.int .i64 0)).setCell ⟨w.heap.size, 3, none⟩ (.slice (some ⟨w102.heap.size, 0, none⟩) 1 1)) = w103 at *
       have KX := Blk.new_ w103 24 #[.int .i64 25, .string nt, .int .i64 nn, .slice An nl.length cn]
       rw [hsq] at KX
       have hb : Below w103.heap.size w103 (w103.alloc (.cells #[.int .i64 25, .string nt, .int .i64 nn, .slice An nl.length cn] 24)) := by (repeat (first | with_reducible assumption | with_reducible exact Below.refl _ _ | (refine Below.setCell ?_ (by first | omega | (simp; done) | (simp; omega)) _) | (refine Below.drewN_ ?_ _) | (refine Below.drew ?_) | (refine Below.alloc ?_ (by first | omega | (simp; done) | (simp; omega)) _)))
       have hsz104 := hb.size
       replace KR := Lib.hid (KR.out.below hb)
       replace BT := Lib.hid (BT.out.below hb)
       replace REPn := Lib.hid (REPn.out.belowG hb)
       replace HS := Lib.hid (HS.out.below hb)
       replace HM := Lib.hid (HM.out.below_ hb)
       clear hb
       have BY := Lib.hid KX
       clear KX
       generalize (w103.alloc (.cells #[.int .i64 25, .string nt, .int .i64 nn, .slice An nl.length cn] 24)) = w104 at *
       obtain ⟨by_, hbwby_⟩ : ∃ x, x = w102.heap.size := ⟨_, rfl⟩
       rw [← hbwby_] at BY KR
       have hbvby_ : w102.heap.size ≤ by_ := by omega
       have hbxby_ : by_ < w104.heap.size := BY.out.lt
       rw [← hbwby_]
       clear hbwby_ hsq
       exact bodyPost_ret (v := .agg _) (results_cell4 (fn := Tryz.f100) rfl KR.out rfl) rfl (by exact ⟨(Nd.mk 20 ⟨#[]⟩ 0 [(Nd.mk 25 nt nn nl)]), (some ⟨by_, 0, none⟩), 1, j, false, rfl, (one_kidV (V := From w.heap.size) (k := 20) (t := ⟨#[]⟩) (x := (Nd.mk 25 nt nn nl)) BY.out (RepV.keep (Nat.le_refl _) (fun b hv _ => ⟨rfl, by have h1 := hv.1; show w.heap.size ≤ b; omega⟩) _ _ REPn.out) (by show w.heap.size ≤ by_; omega) (Nat.zero_le _)), HS.out, HM.out, (mbr_fin HR.out)⟩)
      ·have hk2 : (nk == 25) = false := by simpa using hk
       have hk3 : ¬ (Nd.mk nk nt nn nl).k = 25 := hk
       replace HR := Lib.hid (mbr_no HR.out (fun _ => hk3))
       clear hk3
       have HF : Hid (∀ x, Fol R x j true) := fun x => by rw [← HR.out]; simp [mbr, Fol]
       have b0 := BT.out.cell 0 (.int .i64 nk) rfl
       go_wp2_with fail
       clear b0
       refine (failR_any C _ _ false HS.out).mono ?_
       rintro e w103 ⟨rfl, h', m'⟩
       have hsz103 := m'.size
       replace KR := Lib.hid (m'.blk KR.out (by omega))
       replace BT := Lib.hid (m'.blk BT.out (by omega))
       replace REPn := Lib.hid (REPn.out.mvG m' (fun b h => by have h1 := h.1; have h2 := h.2; omega))
       replace HS := Lib.hid h'
       replace HM := Lib.hid (HM.out.trans_ m')
       clear m'
       clear h'
       have bBT0 := BT.out.cell 0 (.int .i64 nk) rfl
       have bBT1 := BT.out.cell 1 (.string nt) rfl
       have bBT2 := BT.out.cell 2 (.int .i64 nn) rfl
       have bBT3 := BT.out.cell 3 (.slice An nl.length cn) rfl
       have f0 := KR.out.free 0
       have g0 := KR.out.cell 0 (.int .i64 0) rfl
       have f1 := KR.out.free 1
       have g1 := KR.out.cell 1 (.string ⟨#[]⟩) rfl
       have f2 := KR.out.free 2
       have g2 := KR.out.cell 2 (.int .i64 0) rfl
       have f3 := KR.out.free 3
       have g3 := KR.out.cell 3 (.slice none 0 0) rfl
       have hneby_ := Nat.ne_of_lt (KR.out.lt)
       have hltby_ := KR.out.lt
       go_wp2_with fail
       clear f0 f1 f2 f3 g0 g1 g2 g3 hneby_ hltby_
       have m' := put4_mv w103 w.heap.size (.int .i64 20) (.string ⟨#[]⟩) (.int .i64 0) (.slice (some ⟨w103.heap.size, 0, none⟩) 1 1)
       have hbt := blk_put4 KR.out (.int .i64 20) (.string ⟨#[]⟩) (.int .i64 0) (.slice (some ⟨w103.heap.size, 0, none⟩) 1 1)
       have hsq : (((((w103).setCell ⟨w.heap.size, 0, none⟩ (.int .i64 20)).setCell ⟨w.heap.size, 1, none⟩ (.string ⟨#[]⟩)).setCell ⟨w.heap.size, 2, none⟩ (.int .i64 0)).setCell ⟨w.heap.size, 3, none⟩ (.slice (some ⟨w103.heap.size, 0, none⟩) 1 1)).heap.size = w103.heap.size := by simp [World.setCell]
       have hsz104 := m'.size
       replace HS := Lib.hid (RSt.put H0.out HS.out HM.out (by omega) m')
       replace HM := Lib.hid (HM.out.put (by omega) m')
       replace KR := Lib.hid hbt
       replace BT := Lib.hid (m'.blk BT.out (by omega))
       replace REPn := Lib.hid (REPn.out.mvG m' (fun b h => by have h1 := h.1; have h2 := h.2; omega))
       clear m' hbt
       generalize (((((w103).setCell ⟨w.heap.size, 0, none⟩ (.int .i64 20)).setCell ⟨w.heap.size, 1, none⟩ (.string ⟨#[]⟩)).setCell ⟨w.heap.size, 2, none⟩ (.int .i64 0)).setCell ⟨w.heap.size, 3, none⟩ (.slice (some ⟨w103.heap.size, 0, none⟩) 1 1)) = w104 at *
       have KX := Blk.new_ w104 24 #[.int .i64 nk, .string nt, .int .i64 nn, .slice An nl.length cn]
       rw [hsq] at KX
       have hb : Below w104.heap.size w104 (w104.alloc (.cells #[.int .i64 nk, .string nt, .int .i64 nn, .slice An nl.length cn] 24)) := by (repeat (first | with_reducible assumption | with_reducible exact Below.refl _ _ | (refine Below.setCell ?_ (by first | omega | (simp; done) | (simp; omega)) _) | (refine Below.drewN_ ?_ _) | (refine Below.drew ?_) | (refine Below.alloc ?_ (by first | omega | (simp; done) | (simp; omega)) _)))
       have hsz105 := hb.size
       replace KR := Lib.hid (KR.out.below hb)
       replace BT := Lib.hid (BT.out.below hb)
       replace REPn := Lib.hid (REPn.out.belowG hb)
       replace HS := Lib.hid (HS.out.below hb)
       replace HM := Lib.hid (HM.out.below_ hb)
       clear hb
       have BY := Lib.hid KX
       clear KX
       generalize (w104.alloc (.cells #[.int .i64 nk, .string nt, .int .i64 nn, .slice An nl.length cn] 24)) = w105 at *
       obtain ⟨by_, hbwby_⟩ : ∃ x, x = w103.heap.size := ⟨_, rfl⟩
       rw [← hbwby_] at BY KR
       have hbvby_ : w103.heap.size ≤ by_ := by omega
       have hbxby_ : by_ < w105.heap.size := BY.out.lt
       rw [← hbwby_]
       clear hbwby_ hsq
       exact bodyPost_ret (v := .agg _) (results_cell4 (fn := Tryz.f100) rfl KR.out rfl) rfl (by exact ⟨(Nd.mk 20 ⟨#[]⟩ 0 [(Nd.mk nk nt nn nl)]), (some ⟨by_, 0, none⟩), 1, j, true, rfl, (one_kidV (V := From w.heap.size) (k := 20) (t := ⟨#[]⟩) (x := (Nd.mk nk nt nn nl)) BY.out (RepV.keep (Nat.le_refl _) (fun b hv _ => ⟨rfl, by have h1 := hv.1; show w.heap.size ≤ b; omega⟩) _ _ REPn.out) (by show w.heap.size ≤ by_; omega) (Nat.zero_le _)), HS.out, HM.out, (HF.out _)⟩)
    have hx : ((txR C.L j).toList == [40]) = true := (lit_beq _ _).trans ((txR_is H0.out.ok (s := ⟨#[40]⟩) (by decide) _).trans ht)
    replace HR := Lib.hid (mbr_yes (j := j) HR.out ht)
    clear ht
    generalize txR C.L j = tx at *
    go_wp2_with fail
    have hR := HR.out
    unfold callM at hR
    rw [Res.bind_assoc] at hR
    simp only [Res.bind_ok] at hR
    replace HR := Lib.hid hR
    clear hR hx
    have hwc : IntKind.i64.wrap ((cnt : Int) + 1) = (cnt : Int) + 1 := IntWalk.i64_in _ (by omega)
    have hpks := HS.out.lt
    refine ((rows2_of C XX.out) _ _ false HS.out (mbr_wet HR.out HW.out)).mono ?_
    rintro e w103 ⟨ks, d, Aks, cks, j51, b51, rfl, hacc, hcnks, h', m', hf⟩
    replace HR := Lib.hid (mbr_seq HR.out HW.out hf)
    have ACks := Lib.hid (hacc.toI (E := w103.heap.size) rfl)
    clear hf hacc
    have hsz103 := m'.size
    replace KR := Lib.hid (m'.blk KR.out (by omega))
    replace BT := Lib.hid (m'.blk BT.out (by omega))
    replace REPn := Lib.hid (REPn.out.mvG m' (fun b h => by have h1 := h.1; have h2 := h.2; omega))
    replace HS := Lib.hid h'
    replace HM := Lib.hid (HM.out.trans_ m')
    clear m'
    clear h'
    obtain ⟨xs, hcs, hvo, ho⟩ := ACks.out
    have hones := RepCs.one _ _ hcs
    have hcv : RepCs (fun b => w1.heap.size ≤ b ∧ b ≠ bt) w103 ks xs := RepCs.keep (Nat.le_refl _) (fun b hv _ => ⟨rfl, by have h1 := hv.1.1; have h2 := hv.1.2; exact ⟨by omega, by omega⟩⟩) _ _ hcs
    have HCV := Lib.hid hcv
    have HO := Lib.hid ho
    have hxl : xs.length = ks.length * 4 := ho.1
    have HONE := Lib.hid hones
    clear hcs hvo ho hcv hones
    have OL : Hid ((w103.alloc (.cells #[.int .i64 nk, .string nt, .int .i64 nn, .slice An nl.length cn] 24)).ownsRow w103.heap.size 24 4 (.slice (some ⟨w103.heap.size, 0, none⟩) 1 1) 1 [.int .i64 nk, .string nt, .int .i64 nn, .slice An nl.length cn]) := World.ownsRow_lit w103 #[.int .i64 nk, .string nt, .int .i64 nn, .slice An nl.length cn] 1 (Nat.le_refl _) (by unfold maxLen; omega) rfl
    have hba : Below w103.heap.size w103 (w103.alloc (.cells #[.int .i64 nk, .string nt, .int .i64 nn, .slice An nl.length cn] 24)) := by (repeat (first | with_reducible assumption | with_reducible exact Below.refl _ _ | (refine Below.setCell ?_ (by first | omega | (simp; done) | (simp; omega)) _) | (refine Below.drewN_ ?_ _) | (refine Below.drew ?_) | (refine Below.alloc ?_ (by first | omega | (simp; done) | (simp; omega)) _)))
    obtain ⟨i0, hi0, hz0, hz1, hz2⟩ := info_parts info_nodes
    have hbtw := BT.out.lt
    rcases HO.out.2 with ⟨hv, h0⟩ | ⟨gq, cap, cur, hv, -⟩
    ·injection hv with e1 e2 e3
     subst e1 e3
     have hks : ks = [] := List.eq_nil_of_length_eq_zero h0
     subst hks
     have hxs : xs = [] := List.eq_nil_of_length_eq_zero (by simpa using hxl)
     subst hxs
     clear e2 h0 ACks hba
     have bBT0 := BT.out.cell 0 (.int .i64 nk) rfl
     have bBT1 := BT.out.cell 1 (.string nt) rfl
     have bBT2 := BT.out.cell 2 (.int .i64 nn) rfl
     have bBT3 := BT.out.cell 3 (.slice An nl.length cn) rfl
     have f0 := BT.out.free 0
     have g0 := BT.out.cell 0 (.int .i64 nk) rfl
     have f1 := BT.out.free 1
     have g1 := BT.out.cell 1 (.string nt) rfl
     have f2 := BT.out.free 2
     have g2 := BT.out.cell 2 (.int .i64 nn) rfl
     have f3 := BT.out.free 3
     have g3 := BT.out.cell 3 (.slice An nl.length cn) rfl
     have hneby_ := Nat.ne_of_lt (BT.out.lt)
     have hltby_ := BT.out.lt
     go_wp2_with (at_builtin; refine wpList_append_own_none rfl _ _ 22 rfl w103.heap.size 24 i0 4 Tryz.underlying22 hi0 _ _ _ rfl OL.out rfl ?_)
     clear f0 f1 f2 f3 g0 g1 g2 g3 hneby_ hltby_
     have m' := put4_mv w103 bt (.int .i64 25) (.string ⟨#[]⟩) (.int .i64 0) (.slice (some ⟨w103.heap.size, 0, none⟩) 1 1)
     have hbt := blk_put4 BT.out (.int .i64 25) (.string ⟨#[]⟩) (.int .i64 0) (.slice (some ⟨w103.heap.size, 0, none⟩) 1 1)
     have hsq : (((((w103).setCell ⟨bt, 0, none⟩ (.int .i64 25)).setCell ⟨bt, 1, none⟩ (.string ⟨#[]⟩)).setCell ⟨bt, 2, none⟩ (.int .i64 0)).setCell ⟨bt, 3, none⟩ (.slice (some ⟨w103.heap.size, 0, none⟩) 1 1)).heap.size = w103.heap.size := by simp [World.setCell]
     have hsz104 := m'.size
     replace HS := Lib.hid (RSt.put H0.out HS.out HM.out (by omega) m')
     replace HM := Lib.hid (HM.out.put (by omega) m')
     replace KR := Lib.hid (m'.blk KR.out (by omega))
     replace BT := Lib.hid hbt
     replace REPn := Lib.hid (REPn.out.mvG m' (fun b h => by have h1 := h.1; have h2 := h.2; omega))
     clear m' hbt
     generalize (((((w103).setCell ⟨bt, 0, none⟩ (.int .i64 25)).setCell ⟨bt, 1, none⟩ (.string ⟨#[]⟩)).setCell ⟨bt, 2, none⟩ (.int .i64 0)).setCell ⟨bt, 3, none⟩ (.slice (some ⟨w103.heap.size, 0, none⟩) 1 1)) = w104 at *
     have KX := Blk.new_ w104 24 #[.int .i64 nk, .string nt, .int .i64 nn, .slice An nl.length cn]
     rw [hsq] at KX
     have hb : Below w104.heap.size w104 (w104.alloc (.cells #[.int .i64 nk, .string nt, .int .i64 nn, .slice An nl.length cn] 24)) := by (repeat (first | with_reducible assumption | with_reducible exact Below.refl _ _ | (refine Below.setCell ?_ (by first | omega | (simp; done) | (simp; omega)) _) | (refine Below.drewN_ ?_ _) | (refine Below.drew ?_) | (refine Below.alloc ?_ (by first | omega | (simp; done) | (simp; omega)) _)))
     have hsz105 := hb.size
     replace KR := Lib.hid (KR.out.below hb)
     replace BT := Lib.hid (BT.out.below hb)
     replace REPn := Lib.hid (REPn.out.belowG hb)
     replace HS := Lib.hid (HS.out.below hb)
     replace HM := Lib.hid (HM.out.below_ hb)
     clear hb
     have BY := Lib.hid KX
     clear KX
     generalize (w104.alloc (.cells #[.int .i64 nk, .string nt, .int .i64 nn, .slice An nl.length cn] 24)) = w105 at *
     obtain ⟨by_, hbwby_⟩ : ∃ x, x = w103.heap.size := ⟨_, rfl⟩
     rw [← hbwby_] at BY BT
     have hbvby_ : w103.heap.size ≤ by_ := by omega
     have hbxby_ : by_ < w105.heap.size := BY.out.lt
     rw [← hbwby_]
     clear hbwby_ hsq
     have REPm := Lib.hid (one_kidV (V := (fun b => w1.heap.size ≤ b ∧ b ≠ bt)) (k := 25) (t := ⟨#[]⟩) (x := (Nd.mk nk nt nn nl)) BY.out REPn.out ⟨by omega, by omega⟩ (Nat.zero_le _))
     clear REPn BY HO HCV HONE OL hi0 hz0 hz1 hz2
     go_wp2_with fail
     go_roundg g
     case measure => omega
     case rel => exact ⟨cnt + 1, 25, ⟨#[]⟩, 0, [(Nd.mk nk nt nn nl)], some ⟨by_, 0, none⟩, 1, j51, b51, by go_num, by omega, Lib.hid ⟨by simpa using BT.out, by simpa using REPm.out, HS.out, HM.out, KR.out, by omega, by rw [decide_eq_true (show 0 < cnt + 1 by omega)]; exact HR.out⟩⟩
    injection hv with e1 e2 e3
    subst e1 e3
    clear e2 ACks
    have bBT0 := BT.out.cell 0 (.int .i64 nk) rfl
    have bBT1 := BT.out.cell 1 (.string nt) rfl
    have bBT2 := BT.out.cell 2 (.int .i64 nn) rfl
    have bBT3 := BT.out.cell 3 (.slice An nl.length cn) rfl
    go_wp2_with (at_builtin; (refine wpList_append_own_at _ rfl _ _ 22 rfl w103.heap.size 24 i0 (.agg #[.int .i64 0, .string ⟨#[]⟩, .int .i64 0, .slice none 0 0]) 4 56 Tryz.underlying22 hi0 hz0 hz1 hz2 rfl (by decide) _ _ _ rfl OL.out ⟨gq, 0, none⟩ ks.length cks xs rfl HO.out.1 ?c1 ?c2 ?c3 ?c4 ?c5 ?_))
    case c1 => exact fun j v hj => ((HO.out.alloc _).cells (g := gq) rfl j v hj)
    case c2 => exact HONE.out
    case c3 => unfold maxLen; omega
    case c4 => omega
    case c5 => simp
    intro v5 w104 hown5 hg5 _ hob5
    clear hi0 hz0 hz1 hz2 bBT0 bBT1 bBT2 bBT3
    have hb : Below w103.heap.size w103 w104 := hba.grown hg5 (by simp) (fun k e => by have e2 : some w103.heap.size = some k := e; injection e2 with e2; omega)
    have hfinr := call_repV (V := (fun b => w1.heap.size ≤ b ∧ b ≠ bt)) (ks := ks) (xs := xs) (x := (Nd.mk nk nt nn nl)) (B5 := w103.heap.size) hown5 (fun g hg => ⟨by omega, by omega⟩) (REPn.out.belowG hb) (RepCs.keep hb.size (fun b hv hlt => ⟨hb.block b hlt, hv⟩) _ _ HCV.out)
    obtain ⟨A5, c5, rfl, hrep5⟩ := hfinr
    have REPm := Lib.hid hrep5
    clear hrep5 hown5 hg5 hob5 hba HO HCV HONE OL REPn
    have hsz104 := hb.size
    replace KR := Lib.hid (KR.out.below hb)
    replace BT := Lib.hid (BT.out.below hb)
    replace HS := Lib.hid (HS.out.below hb)
    replace HM := Lib.hid (HM.out.below_ hb)
    clear hb
    have f0 := BT.out.free 0
    have g0 := BT.out.cell 0 (.int .i64 nk) rfl
    have f1 := BT.out.free 1
    have g1 := BT.out.cell 1 (.string nt) rfl
    have f2 := BT.out.free 2
    have g2 := BT.out.cell 2 (.int .i64 nn) rfl
    have f3 := BT.out.free 3
    have g3 := BT.out.cell 3 (.slice An nl.length cn) rfl
    go_wp2_with fail
    clear f0 f1 f2 f3 g0 g1 g2 g3
    have m' := put4_mv w104 bt (.int .i64 25) (.string ⟨#[]⟩) (.int .i64 0) (.slice A5 (ks.length + 1) c5)
    have hbt := blk_put4 BT.out (.int .i64 25) (.string ⟨#[]⟩) (.int .i64 0) (.slice A5 (ks.length + 1) c5)
    have hsz105 := m'.size
    replace HS := Lib.hid (RSt.put H0.out HS.out HM.out (by omega) m')
    replace HM := Lib.hid (HM.out.put (by omega) m')
    replace KR := Lib.hid (m'.blk KR.out (by omega))
    replace BT := Lib.hid hbt
    replace REPm := Lib.hid (REPm.out.mvG m' (fun b h => by have h1 := h.1; have h2 := h.2; omega))
    clear m' hbt
    generalize (((((w104).setCell ⟨bt, 0, none⟩ (.int .i64 25)).setCell ⟨bt, 1, none⟩ (.string ⟨#[]⟩)).setCell ⟨bt, 2, none⟩ (.int .i64 0)).setCell ⟨bt, 3, none⟩ (.slice A5 (ks.length + 1) c5)) = w105 at *
    go_wp2_with fail
    go_roundg g
    case measure => omega
    case rel => exact ⟨cnt + 1, 25, ⟨#[]⟩, 0, ((Nd.mk nk nt nn nl) :: ks), A5, c5, j51, b51, by go_num, by omega, Lib.hid ⟨by simpa using BT.out, by simpa using REPm.out, HS.out, HM.out, KR.out, by omega, by rw [decide_eq_true (show 0 < cnt + 1 by omega)]; exact HR.out⟩⟩
   have HV := Lib.hid (eat_any C _ _ false ⟨#[46]⟩ HS.out (by decide))
   rw [ht] at HV
   unfold EatOut at HV
   obtain ⟨hb, hyt⟩ := eat_yes ht
   clear ht
   cases hb
   replace HR := Lib.hid (mbr_yes (j := j + 1) HR.out hyt)
   clear hyt
   refine HV.out.mono ?_
   rintro e w101 ⟨rfl, h', m'⟩
   clear HV
   have hsz101 := m'.size
   replace KR := Lib.hid (m'.blk KR.out (by omega))
   replace BT := Lib.hid (m'.blk BT.out (by omega))
   replace REPn := Lib.hid (REPn.out.mvG m' (fun b h => by have h1 := h.1; have h2 := h.2; omega))
   replace HS := Lib.hid (show RSt C w101 (j + 1) false by simpa using h')
   replace HM := Lib.hid (HM.out.trans_ m')
   clear m'
   clear h'
   go_wp2_with fail
   have hb : Below w101.heap.size w101 w101.drew := (Below.refl _ _).drew
   have hsz102 := hb.size
   replace KR := Lib.hid (KR.out.below hb)
   replace BT := Lib.hid (BT.out.below hb)
   replace REPn := Lib.hid (REPn.out.belowG hb)
   replace HS := Lib.hid (HS.out.below hb)
   replace HM := Lib.hid (HM.out.below_ hb)
   clear hb
   refine wp_region_held_drew (S := (fun W => True)) (by kernel_rfl) trivial (fun hHeld => ?_)
   generalize w101.drew = w102 at *
   ((refine wpAnyH_take (i := 0) (v := ?_) rfl (by kernel_rfl) (by kernel_rfl) (by kernel_rfl) (fun _ _ _ h => h) (Or.inl ⟨by rfl, ?_⟩) (by assumption) ?_; rotate_left; · ((intro w hSw; (try dsimp only at hSw); go_simp) <;> with_reducible rfl); (try simp only [List.getElem_toArray, List.getElem_cons_succ, List.getElem_cons_zero, Act.put, List.setIfInBounds_toArray, List.set_cons_zero, List.set_cons_succ])))
   refine wpAnyH_ready (rs := [1, 2]) (by kernel_rfl) (by simp) (AllReadyH.cons rfl (fun K hK => ?_) (AllReadyH.cons rfl (fun K hK => ?_) AllReadyH.nil))
   ·go_simp
    refine (nameRd_any C _ _ false HS.out).mono ?_
    rintro e w103 ⟨nm2, j51, b51, rfl, hsz, h', m', hf⟩
    have hnm2 := nm_max hsz
    replace HR := Lib.hid (mbr_seq HR.out HW.out hf)
    clear hf hsz
    have hsz103 := m'.size
    replace KR := Lib.hid (m'.blk KR.out (by omega))
    replace BT := Lib.hid (m'.blk BT.out (by omega))
    replace REPn := Lib.hid (REPn.out.mvG m' (fun b h => by have h1 := h.1; have h2 := h.2; omega))
    replace HS := Lib.hid h'
    replace HM := Lib.hid (HM.out.trans_ m')
    clear m'
    clear h'
    refine hK.out _ _ trivial (fun hHeld => ?_)
    clear hK K
    (try simp only [List.getElem_toArray, List.getElem_cons_succ, List.getElem_cons_zero, Act.put, List.setIfInBounds_toArray, List.set_cons_zero, List.set_cons_succ])
    refine wpAnyH_ready (rs := [2]) (by kernel_rfl) (by simp) (AllReadyH.cons rfl (fun K hK => ?_) AllReadyH.nil)
    have b0 := BT.out.cell 0 (.int .i64 nk) rfl
    have b1 := BT.out.cell 1 (.string nt) rfl
    have b2 := BT.out.cell 2 (.int .i64 nn) rfl
    have b3 := BT.out.cell 3 (.slice An nl.length cn) rfl
    go_simp
    clear b0 b1 b2 b3
    refine hK.out _ _ trivial (fun hHeld => ?_)
    clear hK K
    (try simp only [List.getElem_toArray, List.getElem_cons_succ, List.getElem_cons_zero, Act.put, List.setIfInBounds_toArray, List.set_cons_zero, List.set_cons_succ])
    refine wpAnyH_ready (rs := [3]) (by kernel_rfl) (by simp) (AllReadyH.cons rfl (fun K hK => ?_) AllReadyH.nil)
    go_simp
    have KX := Blk.new_ w103 24 #[.int .i64 nk, .string nt, .int .i64 nn, .slice An nl.length cn]
    have hb : Below w103.heap.size w103 (w103.alloc (.cells #[.int .i64 nk, .string nt, .int .i64 nn, .slice An nl.length cn] 24)) := by (repeat (first | with_reducible assumption | with_reducible exact Below.refl _ _ | (refine Below.setCell ?_ (by first | omega | (simp; done) | (simp; omega)) _) | (refine Below.drewN_ ?_ _) | (refine Below.drew ?_) | (refine Below.alloc ?_ (by first | omega | (simp; done) | (simp; omega)) _)))
    have hbzby_ : w103.heap.size < (w103.alloc (.cells #[.int .i64 nk, .string nt, .int .i64 nn, .slice An nl.length cn] 24)).heap.size := KX.lt
    have hsz104 := hb.size
    replace KR := Lib.hid (KR.out.below hb)
    replace BT := Lib.hid (BT.out.below hb)
    replace REPn := Lib.hid (REPn.out.belowG hb)
    replace HS := Lib.hid (HS.out.below hb)
    replace HM := Lib.hid (HM.out.below_ hb)
    clear hb
    have BY := Lib.hid KX
    clear KX
    have HBSby_ : Hid ((w103.alloc (.cells #[.int .i64 nk, .string nt, .int .i64 nn, .slice An nl.length cn] 24)).heap.size = w103.heap.size + 1) := by show _ = _; simp
    generalize (w103.alloc (.cells #[.int .i64 nk, .string nt, .int .i64 nn, .slice An nl.length cn] 24)) = w104 at *
    obtain ⟨by_, hbwby_⟩ : ∃ x, x = w103.heap.size := ⟨_, rfl⟩
    rw [← hbwby_] at BY
    have hbvby_ : w103.heap.size ≤ by_ := by omega
    have hbxby_ : by_ < w104.heap.size := by omega
    rw [← hbwby_]
    clear hbwby_
    refine hK.out _ _ trivial (fun hHeld => ?_)
    clear hK K
    (try simp only [List.getElem_toArray, List.getElem_cons_succ, List.getElem_cons_zero, Act.put, List.setIfInBounds_toArray, List.set_cons_zero, List.set_cons_succ])
    ((refine wpAnyH_take (i := 4) (v := ?_) rfl (by kernel_rfl) (by kernel_rfl) (by kernel_rfl) (fun _ _ _ h => h) (Or.inl ⟨by rfl, ?_⟩) (by assumption) ?_; rotate_left; · ((intro w hSw; (try dsimp only at hSw); go_simp) <;> with_reducible rfl); (try simp only [List.getElem_toArray, List.getElem_cons_succ, List.getElem_cons_zero, Act.put, List.setIfInBounds_toArray, List.set_cons_zero, List.set_cons_succ])))
    refine wpAnyH_ready (rs := [5]) (by kernel_rfl) (by simp) (AllReadyH.cons rfl (fun K hK => ?_) AllReadyH.nil)
    have f0 := BT.out.free 0
    have g0 := BT.out.cell 0 (.int .i64 nk) rfl
    have f1 := BT.out.free 1
    have g1 := BT.out.cell 1 (.string nt) rfl
    have f2 := BT.out.free 2
    have g2 := BT.out.cell 2 (.int .i64 nn) rfl
    have f3 := BT.out.free 3
    have g3 := BT.out.cell 3 (.slice An nl.length cn) rfl
    go_simp
    clear f0 f1 f2 f3 g0 g1 g2 g3
    have m' := put4_mv w104 bt (.int .i64 24) (.string nm2) (.int .i64 0) (.slice (some ⟨by_, 0, none⟩) 1 1)
    have hbt := blk_put4 BT.out (.int .i64 24) (.string nm2) (.int .i64 0) (.slice (some ⟨by_, 0, none⟩) 1 1)
    have hsz105 := m'.size
    replace HS := Lib.hid (RSt.put H0.out HS.out HM.out (by omega) m')
    replace HM := Lib.hid (HM.out.put (by omega) m')
    replace KR := Lib.hid (m'.blk KR.out (by omega))
    replace BT := Lib.hid hbt
    replace REPn := Lib.hid (REPn.out.mvG m' (fun b h => by have h1 := h.1; have h2 := h.2; omega))
    replace BY := Lib.hid (m'.blk BY.out (by omega))
    clear m' hbt
    generalize (((((w104).setCell ⟨bt, 0, none⟩ (.int .i64 24)).setCell ⟨bt, 1, none⟩ (.string nm2)).setCell ⟨bt, 2, none⟩ (.int .i64 0)).setCell ⟨bt, 3, none⟩ (.slice (some ⟨by_, 0, none⟩) 1 1)) = w105 at *
    refine hK.out _ _ trivial (fun hHeld => ?_)
    clear hK K
    (try simp only [List.getElem_toArray, List.getElem_cons_succ, List.getElem_cons_zero, Act.put, List.setIfInBounds_toArray, List.set_cons_zero, List.set_cons_succ])
    refine wpAnyH_done (by kernel_rfl) ?_ _
    clear hHeld
    have REPm := Lib.hid (one_kidV (V := (fun b => w1.heap.size ≤ b ∧ b ≠ bt)) (k := 24) (t := nm2) (x := (Nd.mk nk nt nn nl)) BY.out REPn.out ⟨by omega, by omega⟩ hnm2)
    clear REPn BY
    go_wp2_with fail
    go_roundg g
    case measure => omega
    case rel => exact ⟨cnt, 24, nm2, 0, [(Nd.mk nk nt nn nl)], some ⟨by_, 0, none⟩, 1, j51, b51, rfl, by omega, Lib.hid ⟨BT.out, REPm.out, HS.out, HM.out, KR.out, by omega, HR.out⟩⟩
   have b0 := BT.out.cell 0 (.int .i64 nk) rfl
   have b1 := BT.out.cell 1 (.string nt) rfl
   have b2 := BT.out.cell 2 (.int .i64 nn) rfl
   have b3 := BT.out.cell 3 (.slice An nl.length cn) rfl
   go_simp
   clear b0 b1 b2 b3
   refine hK.out _ _ trivial (fun hHeld => ?_)
   clear hK K
   (try simp only [List.getElem_toArray, List.getElem_cons_succ, List.getElem_cons_zero, Act.put, List.setIfInBounds_toArray, List.set_cons_zero, List.set_cons_succ])
   refine wpAnyH_ready (rs := [1, 3]) (by kernel_rfl) (by simp) (AllReadyH.cons rfl (fun K hK => ?_) (AllReadyH.cons rfl (fun K hK => ?_) AllReadyH.nil))
   ·go_simp
    refine (nameRd_any C _ _ false HS.out).mono ?_
    rintro e w103 ⟨nm2, j51, b51, rfl, hsz, h', m', hf⟩
    have hnm2 := nm_max hsz
    replace HR := Lib.hid (mbr_seq HR.out HW.out hf)
    clear hf hsz
    have hsz103 := m'.size
    replace KR := Lib.hid (m'.blk KR.out (by omega))
    replace BT := Lib.hid (m'.blk BT.out (by omega))
    replace REPn := Lib.hid (REPn.out.mvG m' (fun b h => by have h1 := h.1; have h2 := h.2; omega))
    replace HS := Lib.hid h'
    replace HM := Lib.hid (HM.out.trans_ m')
    clear m'
    clear h'
    refine hK.out _ _ trivial (fun hHeld => ?_)
    clear hK K
    (try simp only [List.getElem_toArray, List.getElem_cons_succ, List.getElem_cons_zero, Act.put, List.setIfInBounds_toArray, List.set_cons_zero, List.set_cons_succ])
    refine wpAnyH_ready (rs := [3]) (by kernel_rfl) (by simp) (AllReadyH.cons rfl (fun K hK => ?_) AllReadyH.nil)
    go_simp
    have KX := Blk.new_ w103 24 #[.int .i64 nk, .string nt, .int .i64 nn, .slice An nl.length cn]
    have hb : Below w103.heap.size w103 (w103.alloc (.cells #[.int .i64 nk, .string nt, .int .i64 nn, .slice An nl.length cn] 24)) := by (repeat (first | with_reducible assumption | with_reducible exact Below.refl _ _ | (refine Below.setCell ?_ (by first | omega | (simp; done) | (simp; omega)) _) | (refine Below.drewN_ ?_ _) | (refine Below.drew ?_) | (refine Below.alloc ?_ (by first | omega | (simp; done) | (simp; omega)) _)))
    have hbzby_ : w103.heap.size < (w103.alloc (.cells #[.int .i64 nk, .string nt, .int .i64 nn, .slice An nl.length cn] 24)).heap.size := KX.lt
    have hsz104 := hb.size
    replace KR := Lib.hid (KR.out.below hb)
    replace BT := Lib.hid (BT.out.below hb)
    replace REPn := Lib.hid (REPn.out.belowG hb)
    replace HS := Lib.hid (HS.out.below hb)
    replace HM := Lib.hid (HM.out.below_ hb)
    clear hb
    have BY := Lib.hid KX
    clear KX
    have HBSby_ : Hid ((w103.alloc (.cells #[.int .i64 nk, .string nt, .int .i64 nn, .slice An nl.length cn] 24)).heap.size = w103.heap.size + 1) := by show _ = _; simp
    generalize (w103.alloc (.cells #[.int .i64 nk, .string nt, .int .i64 nn, .slice An nl.length cn] 24)) = w104 at *
    obtain ⟨by_, hbwby_⟩ : ∃ x, x = w103.heap.size := ⟨_, rfl⟩
    rw [← hbwby_] at BY
    have hbvby_ : w103.heap.size ≤ by_ := by omega
    have hbxby_ : by_ < w104.heap.size := by omega
    rw [← hbwby_]
    clear hbwby_
    refine hK.out _ _ trivial (fun hHeld => ?_)
    clear hK K
    (try simp only [List.getElem_toArray, List.getElem_cons_succ, List.getElem_cons_zero, Act.put, List.setIfInBounds_toArray, List.set_cons_zero, List.set_cons_succ])
    ((refine wpAnyH_take (i := 4) (v := ?_) rfl (by kernel_rfl) (by kernel_rfl) (by kernel_rfl) (fun _ _ _ h => h) (Or.inl ⟨by rfl, ?_⟩) (by assumption) ?_; rotate_left; · ((intro w hSw; (try dsimp only at hSw); go_simp) <;> with_reducible rfl); (try simp only [List.getElem_toArray, List.getElem_cons_succ, List.getElem_cons_zero, Act.put, List.setIfInBounds_toArray, List.set_cons_zero, List.set_cons_succ])))
    refine wpAnyH_ready (rs := [5]) (by kernel_rfl) (by simp) (AllReadyH.cons rfl (fun K hK => ?_) AllReadyH.nil)
    have f0 := BT.out.free 0
    have g0 := BT.out.cell 0 (.int .i64 nk) rfl
    have f1 := BT.out.free 1
    have g1 := BT.out.cell 1 (.string nt) rfl
    have f2 := BT.out.free 2
    have g2 := BT.out.cell 2 (.int .i64 nn) rfl
    have f3 := BT.out.free 3
    have g3 := BT.out.cell 3 (.slice An nl.length cn) rfl
    go_simp
    clear f0 f1 f2 f3 g0 g1 g2 g3
    have m' := put4_mv w104 bt (.int .i64 24) (.string nm2) (.int .i64 0) (.slice (some ⟨by_, 0, none⟩) 1 1)
    have hbt := blk_put4 BT.out (.int .i64 24) (.string nm2) (.int .i64 0) (.slice (some ⟨by_, 0, none⟩) 1 1)
    have hsz105 := m'.size
    replace HS := Lib.hid (RSt.put H0.out HS.out HM.out (by omega) m')
    replace HM := Lib.hid (HM.out.put (by omega) m')
    replace KR := Lib.hid (m'.blk KR.out (by omega))
    replace BT := Lib.hid hbt
    replace REPn := Lib.hid (REPn.out.mvG m' (fun b h => by have h1 := h.1; have h2 := h.2; omega))
    replace BY := Lib.hid (m'.blk BY.out (by omega))
    clear m' hbt
    generalize (((((w104).setCell ⟨bt, 0, none⟩ (.int .i64 24)).setCell ⟨bt, 1, none⟩ (.string nm2)).setCell ⟨bt, 2, none⟩ (.int .i64 0)).setCell ⟨bt, 3, none⟩ (.slice (some ⟨by_, 0, none⟩) 1 1)) = w105 at *
    refine hK.out _ _ trivial (fun hHeld => ?_)
    clear hK K
    (try simp only [List.getElem_toArray, List.getElem_cons_succ, List.getElem_cons_zero, Act.put, List.setIfInBounds_toArray, List.set_cons_zero, List.set_cons_succ])
    refine wpAnyH_done (by kernel_rfl) ?_ _
    clear hHeld
    have REPm := Lib.hid (one_kidV (V := (fun b => w1.heap.size ≤ b ∧ b ≠ bt)) (k := 24) (t := nm2) (x := (Nd.mk nk nt nn nl)) BY.out REPn.out ⟨by omega, by omega⟩ hnm2)
    clear REPn BY
    go_wp2_with fail
    go_roundg g
    case measure => omega
    case rel => exact ⟨cnt, 24, nm2, 0, [(Nd.mk nk nt nn nl)], some ⟨by_, 0, none⟩, 1, j51, b51, rfl, by omega, Lib.hid ⟨BT.out, REPm.out, HS.out, HM.out, KR.out, by omega, HR.out⟩⟩
   go_simp
   have KX := Blk.new_ w102 24 #[.int .i64 nk, .string nt, .int .i64 nn, .slice An nl.length cn]
   have hb : Below w102.heap.size w102 (w102.alloc (.cells #[.int .i64 nk, .string nt, .int .i64 nn, .slice An nl.length cn] 24)) := by (repeat (first | with_reducible assumption | with_reducible exact Below.refl _ _ | (refine Below.setCell ?_ (by first | omega | (simp; done) | (simp; omega)) _) | (refine Below.drewN_ ?_ _) | (refine Below.drew ?_) | (refine Below.alloc ?_ (by first | omega | (simp; done) | (simp; omega)) _)))
   have hbzby_ : w102.heap.size < (w102.alloc (.cells #[.int .i64 nk, .string nt, .int .i64 nn, .slice An nl.length cn] 24)).heap.size := KX.lt
   have hsz103 := hb.size
   replace KR := Lib.hid (KR.out.below hb)
   replace BT := Lib.hid (BT.out.below hb)
   replace REPn := Lib.hid (REPn.out.belowG hb)
   replace HS := Lib.hid (HS.out.below hb)
   replace HM := Lib.hid (HM.out.below_ hb)
   clear hb
   have BY := Lib.hid KX
   clear KX
   have HBSby_ : Hid ((w102.alloc (.cells #[.int .i64 nk, .string nt, .int .i64 nn, .slice An nl.length cn] 24)).heap.size = w102.heap.size + 1) := by show _ = _; simp
   generalize (w102.alloc (.cells #[.int .i64 nk, .string nt, .int .i64 nn, .slice An nl.length cn] 24)) = w103 at *
   obtain ⟨by_, hbwby_⟩ : ∃ x, x = w102.heap.size := ⟨_, rfl⟩
   rw [← hbwby_] at BY
   have hbvby_ : w102.heap.size ≤ by_ := by omega
   have hbxby_ : by_ < w103.heap.size := by omega
   rw [← hbwby_]
   clear hbwby_
   refine hK.out _ _ trivial (fun hHeld => ?_)
   clear hK K
   (try simp only [List.getElem_toArray, List.getElem_cons_succ, List.getElem_cons_zero, Act.put, List.setIfInBounds_toArray, List.set_cons_zero, List.set_cons_succ])
   refine wpAnyH_ready (rs := [1]) (by kernel_rfl) (by simp) (AllReadyH.cons rfl (fun K hK => ?_) AllReadyH.nil)
   go_simp
   refine (nameRd_any C _ _ false HS.out).mono ?_
   rintro e w104 ⟨nm2, j51, b51, rfl, hsz, h', m', hf⟩
   have hnm2 := nm_max hsz
   replace HR := Lib.hid (mbr_seq HR.out HW.out hf)
   clear hf hsz
   have hsz104 := m'.size
   replace KR := Lib.hid (m'.blk KR.out (by omega))
   replace BT := Lib.hid (m'.blk BT.out (by omega))
   replace REPn := Lib.hid (REPn.out.mvG m' (fun b h => by have h1 := h.1; have h2 := h.2; omega))
   replace BY := Lib.hid (m'.blk BY.out (by omega))
   replace HS := Lib.hid h'
   replace HM := Lib.hid (HM.out.trans_ m')
   clear m'
   clear h'
   refine hK.out _ _ trivial (fun hHeld => ?_)
   clear hK K
   (try simp only [List.getElem_toArray, List.getElem_cons_succ, List.getElem_cons_zero, Act.put, List.setIfInBounds_toArray, List.set_cons_zero, List.set_cons_succ])
   ((refine wpAnyH_take (i := 4) (v := ?_) rfl (by kernel_rfl) (by kernel_rfl) (by kernel_rfl) (fun _ _ _ h => h) (Or.inl ⟨by rfl, ?_⟩) (by assumption) ?_; rotate_left; · ((intro w hSw; (try dsimp only at hSw); go_simp) <;> with_reducible rfl); (try simp only [List.getElem_toArray, List.getElem_cons_succ, List.getElem_cons_zero, Act.put, List.setIfInBounds_toArray, List.set_cons_zero, List.set_cons_succ])))
   refine wpAnyH_ready (rs := [5]) (by kernel_rfl) (by simp) (AllReadyH.cons rfl (fun K hK => ?_) AllReadyH.nil)
   have f0 := BT.out.free 0
   have g0 := BT.out.cell 0 (.int .i64 nk) rfl
   have f1 := BT.out.free 1
   have g1 := BT.out.cell 1 (.string nt) rfl
   have f2 := BT.out.free 2
   have g2 := BT.out.cell 2 (.int .i64 nn) rfl
   have f3 := BT.out.free 3
   have g3 := BT.out.cell 3 (.slice An nl.length cn) rfl
   go_simp
   clear f0 f1 f2 f3 g0 g1 g2 g3
   have m' := put4_mv w104 bt (.int .i64 24) (.string nm2) (.int .i64 0) (.slice (some ⟨by_, 0, none⟩) 1 1)
   have hbt := blk_put4 BT.out (.int .i64 24) (.string nm2) (.int .i64 0) (.slice (some ⟨by_, 0, none⟩) 1 1)
   have hsz105 := m'.size
   replace HS := Lib.hid (RSt.put H0.out HS.out HM.out (by omega) m')
   replace HM := Lib.hid (HM.out.put (by omega) m')
   replace KR := Lib.hid (m'.blk KR.out (by omega))
   replace BT := Lib.hid hbt
   replace REPn := Lib.hid (REPn.out.mvG m' (fun b h => by have h1 := h.1; have h2 := h.2; omega))
   replace BY := Lib.hid (m'.blk BY.out (by omega))
   clear m' hbt
   generalize (((((w104).setCell ⟨bt, 0, none⟩ (.int .i64 24)).setCell ⟨bt, 1, none⟩ (.string nm2)).setCell ⟨bt, 2, none⟩ (.int .i64 0)).setCell ⟨bt, 3, none⟩ (.slice (some ⟨by_, 0, none⟩) 1 1)) = w105 at *
   refine hK.out _ _ trivial (fun hHeld => ?_)
   clear hK K
   (try simp only [List.getElem_toArray, List.getElem_cons_succ, List.getElem_cons_zero, Act.put, List.setIfInBounds_toArray, List.set_cons_zero, List.set_cons_succ])
   refine wpAnyH_done (by kernel_rfl) ?_ _
   clear hHeld
   have REPm := Lib.hid (one_kidV (V := (fun b => w1.heap.size ≤ b ∧ b ≠ bt)) (k := 24) (t := nm2) (x := (Nd.mk nk nt nn nl)) BY.out REPn.out ⟨by omega, by omega⟩ hnm2)
   clear REPn BY
   go_wp2_with fail
   go_roundg g
   case measure => omega
   case rel => exact ⟨cnt, 24, nm2, 0, [(Nd.mk nk nt nn nl)], some ⟨by_, 0, none⟩, 1, j51, b51, rfl, by omega, Lib.hid ⟨BT.out, REPm.out, HS.out, HM.out, KR.out, by omega, HR.out⟩⟩
end Go.Proofs.YtgegfbopogcjpaaGreatDoor
