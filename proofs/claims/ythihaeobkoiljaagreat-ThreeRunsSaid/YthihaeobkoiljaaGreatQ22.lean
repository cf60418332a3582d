/- Lemmas for the law. -/
import Derived.Test.YthihaeobkoiljaaGreatQ21
set_option linter.unusedVariables false
set_option linter.unusedSimpArgs false
set_option maxRecDepth 100000
set_option maxHeartbeats 40000000
namespace Go.Proofs.YthihaeobkoiljaaGreat
open Go.RowKit
theorem ord_f : OrdG (fun k => k = 8) := by
 unfold OrdG
 intro l w x base n u i bs K E nb R xb rb rg bb ob Ba bc mp bB o r Ad As Tn Tp cd cs tcn tcp m O od t t1 n0 pc scx a1 a4 sl Sx KC K1 z0 z1 z2 z4 z5 z9 z23 z24 z25 z26 z27 z28 z29 z30 z31 z32 z33 z34 z35 z36 z37 z38 z39 z40 z41 z42 z43 z44 z45 z46 z47 z48 z49 z50 z51 z52 z53 z54 z55 z56 z57 z58 z59 z60 z61 z62 z63 z64 z65 z66 z67 z68 z69 z70 z71 z6 a W HFIN HIH HL HH HH2 HPO HML HMPX HMP HF HM HER HT1 HOO HORD HRT HBA HNB HK3 HSQ HSL HGL hs100 HA HOP0 HS hS
 obtain ⟨y14, y17, y18, y19, y20, y21, y22, y, hy, hy2, rfl⟩ := hS
 obtain ⟨f, rfl⟩ := late232 hy
 replace hy2 : f 34 = .int .i64 o.op := by injection hy2
 rw [hy2]
 clear hy hy2
 obtain ⟨w0, rfl⟩ : ∃ y, y = W := ⟨_, rfl⟩
 unfold cSw cLp
 conv => arg 2; whnf
 have hop := HOP0.out
 ·rw [hop]
  have HOP := Lh hop
  clear hop
  have HOQ : Hid ((ord l ⟨u, i, r, bs, pc⟩).op = 8) := by show _ = _; rw [HORD.out]; exact HOP.out
  have HNP : Hid (pc + 1 < (bod l u i).code.length) := HF.out.nxt HL.out (by rw [HOQ.out]; decide) (by rw [HOQ.out]; decide)
  obtain ⟨hd1, hs1, hsp, hmy⟩ := HOO.out.o8 HOP.out
  clear hsp hd1
  obtain ⟨sv, st, rfl⟩ : ∃ a b, sl = a :: b := List.exists_cons_of_length_pos (by rw [HSL.out]; omega)
  have hsv : W32 sv := src_w (f := ⟨u, i, r, bs, pc⟩) (o := o) HF.out.rv sv (by rw [HSQ.out]; simp)
  obtain ⟨sg, rfl⟩ := own_some (HS.out.own 0 rfl) (by omega)
  have s0 : w0.cell? ⟨sg, 0, none⟩ = some (.int .i32 sv) := own_at5 (HS.out.own 0 rfl) 0 _ rfl
  have gs : (0 : Int) < (o.s.length : Int) := by omega
  have gsn : 0 < o.s.length := by omega
  have hwv : IntKind.i64.wrap sv = sv := by have := hsv.1; have := hsv.2; rw [IntKind.wrap_i64]; omega
  have HA8 := Lh (fun p hb ht => arg_8 (p := p) HL.out HF.out HOQ.out hb ht)
  rw [HORD.out, HSQ.out] at HA8
  dsimp only [List.getD_cons_zero, List.tail_cons] at HA8
  have hnb1 : nb ≤ 1000 := by have := allB_len (l := l) (fun u hu => by obtain ⟨j, hj, rfl⟩ := List.getElem_of_mem hu; exact HH.out j hj) l.length; rw [List.take_length] at this; have := HL.out.n4; have := HNB.out; unfold nbl at this; omega
  obtain ⟨B, hB⟩ : ∃ b, bck l sv = b := ⟨_, rfl⟩
  have HBB := Lh hB
  go_upto_region 40 with (fail)
  clear s0 hwv
  cases B with
  | none =>
   have HEE : Hid (E = ⟨3, 0, m.out, t1⟩) := by
    have ha := act_8n (m := m) HOQ.out (by rw [HORD.out, HSQ.out]; exact HBB.out)
    rw [HT1.out.1]
    exact HER.out.symm.trans (run_stop ha)
   have hno := bck_none hB
   rw [show (allB l l.length).length = nbl l from rfl, HNB.out] at hno
   clear HA8 HBB hB hsv
   by_cases hs0 : sv < 0
   ·have hd0 : decide (sv < 0) = true := by simp; exact hs0
    clear hno hs0
    replace HS := Lh HS.out.drew
    refine dQ (fun _ => True) (trivial) fun _ => ?_
    generalize w0.drew = w1 at *
    refine tQ2d 0 1 ?_; try simp only [sq]
    refine tQd 2 ?_; try simp only [sq]
    refine pQ4d 3 4 5 6 ?_; try simp only [sq]
    refine pQd 7 ?_; try simp only [sq]
    refine pQd 8 ?_; try simp only [sq]
    refine pQd 9 ?_; try simp only [sq]
    refine tQ2d 10 11 ?_; try simp only [sq]
    refine pQ4d 12 13 14 15 ?_; try simp only [sq]
    refine pQ4d 16 17 18 19 ?_; try simp only [sq]
    refine pQ4d 20 21 22 23 ?_; try simp only [sq]
    refine tQd 24 ?_; try simp only [sq]
    refine fQ ?_ _
    clear hd0 gs gsn
    go_wp2_with fail
    replace HS := Lh HS.out.drop.f3.drop.f3.drop.f3.drop.f3.drop.f2.f2.f2
    refine leaves_cons (f := 77) (args := #[.pointer (some ⟨xb, 0, none⟩)]) (by simp) (by simp [go_sem]) ?_
    refine (deep_any (d := K.length) (.panicking [{ v := .iface 115 (.agg #[.int .i64 (3)]), recovered := false }]) HS.out (by have := HK3.out.2; omega)).mono ?_
    rintro e u' W' ⟨rfl, rfl, hH⟩
    rw [HEE.out]
    exact .inr ⟨m.vs, O, od, K.length, Nat.le_refl _, Nat.le_succ _, rfl, by show Hp _ _ _; unfold prP; rw [show (allB l l.length).length = nbl l from rfl, HNB.out]; exact hH.f1.drop, rfl⟩
   ·have hd0 : decide (sv < 0) = false := by simp; omega
    have hd1 : decide ((nb : Int) ≤ sv) = true := by simp; omega
    clear hno hs0
    replace HS := Lh HS.out.drew
    refine dQ (fun W => At W xb 0 (.pointer (some ⟨x.X, 0, none⟩)) ∧ At W (x.X) 4 (.slice (some ⟨a1, 0, none⟩) nb x.d1)) (⟨HS.out.c 2 0, (by have h4 := HS.out.c 1 4; simp only [HA.out.1] at h4; exact h4)⟩) fun _ => ?_
    generalize w0.drew = w1 at *
    refine tQ4d 0 1 2 3 ?_; try simp only [sq]
    refine tQ4d 4 5 6 7 ?_; try simp only [sq]
    refine tQ4d 8 9 10 11 ?_; try simp only [sq]
    refine pQ4d 12 13 14 15 ?_; try simp only [sq]
    refine pQ4d 16 17 18 19 ?_; try simp only [sq]
    refine pQ4d 20 21 22 23 ?_; try simp only [sq]
    refine tQd 24 ?_; try simp only [sq]
    refine fQ ?_ _
    clear hd0 hd1 gs gsn
    go_wp2_with fail
    replace HS := Lh HS.out.drop.f3.drop.f3.drop.f3.drop.f3.drop.f2.f2.f2
    refine leaves_cons (f := 77) (args := #[.pointer (some ⟨xb, 0, none⟩)]) (by simp) (by simp [go_sem]) ?_
    refine (deep_any (d := K.length) (.panicking [{ v := .iface 115 (.agg #[.int .i64 (3)]), recovered := false }]) HS.out (by have := HK3.out.2; omega)).mono ?_
    rintro e u' W' ⟨rfl, rfl, hH⟩
    rw [HEE.out]
    exact .inr ⟨m.vs, O, od, K.length, Nat.le_refl _, Nat.le_succ _, rfl, by show Hp _ _ _; unfold prP; rw [show (allB l l.length).length = nbl l from rfl, HNB.out]; exact hH.f1.drop, rfl⟩
  | some p =>
   obtain ⟨pv, pi⟩ := p
   obtain ⟨hv1, hv2, hv3⟩ := bck_some hB
   dsimp only at hv1 hv2
   replace HA8 := Lh (HA8.out _ HBB.out)
   dsimp only at HA8
   obtain ⟨csb, hrb, -, hbc⟩ := px_body HPO.out hv1 hv2
   obtain ⟨Pn, pcn, Pp, pcp, A5, c5, rfl, hPT, -, -, -⟩ := hrb.nine
   have HPT := Lh hPT
   have hkn : nmb l (pv, pi) < nb := by
    have h2 : pi < l[pv].bs.length := by rwa [unAt_at hv1] at hv2
    obtain ⟨h3, -⟩ := allB_at hv1 h2 (k := l.length) hv1
    have := HNB.out
    unfold nbl at this
    unfold nmb
    dsimp only
    omega
   have HPY : Hid (may (bod l pv pi).ty = true) := (body_ok (bod_ok HL.out hv1 hv2)).my
   subst hv3
   have HNM2 : Hid (∀ a b : Nat, True) := fun _ _ => trivial
   generalize hT : (bod l pv pi).ty = T at *
   have HT := Lh hT
   clear hT
   have HBC : Hid (∀ Y vs', Hp w Y (prC l w.heap.size x vs' base) → Y.cell? ⟨a1, nmb l (pv, pi) * 9 + 2, none⟩ = some (.int .i64 T.k) ∧ Y.cell? ⟨a1, nmb l (pv, pi) * 9 + 3, none⟩ = some (.string T.nm) ∧ Y.cell? ⟨a1, nmb l (pv, pi) * 9 + 4, none⟩ = some (.slice Pn T.ns.length pcn) ∧ Y.cell? ⟨a1, nmb l (pv, pi) * 9 + 5, none⟩ = some (.slice Pp T.ps.length pcp) ∧ Y.cell? ⟨a1, nmb l (pv, pi) * 9 + 6, none⟩ = some (.bool T.many)) := fun Y vs' hY => ⟨hbc Y _ a1 HA.out.1 (hY.own 0 rfl) 2 _ rfl, hbc Y _ a1 HA.out.1 (hY.own 0 rfl) 3 _ rfl, hbc Y _ a1 HA.out.1 (hY.own 0 rfl) 4 _ rfl, hbc Y _ a1 HA.out.1 (hY.own 0 rfl) 5 _ rfl, hbc Y _ a1 HA.out.1 (hY.own 0 rfl) 6 _ rfl⟩
   have HAL := Lh (fun W2 (hb : Below w.heap.size w W2) => same_any T o.ty _ _ W2 (Rep.keep hb _ _ HPT.out) (Rep.keep hb _ _ HRT.out) (HML.out.keep hb))
   have HSB : Hid (sameB T o.ty = eqB T o.ty) := same_eq HPY.out
   rw [HSB.out] at HAL
   clear hPT hbc hrb HPT
   obtain ⟨tb, htb⟩ : ∃ b, eqB T o.ty = b := ⟨_, rfl⟩
   have HTB := Lh htb
   rw [htb] at HAL
   skip
   clear htb HSB
   generalize hkk : nmb l (pv, pi) = kn at *
   have HKN := Lh hkk
   clear hkk hB hsv
   have hd0 : decide ((kn : Int) < 0) = false := by simp
   have hd1 : decide ((nb : Int) ≤ (kn : Int)) = false := by simp; omega
   have hd2 : decide (nb ≤ kn) = false := by simp; omega
   have k1 : (kn : Int) < (nb : Int) := by omega
   have k2 : (0 : Int) ≤ (kn : Int) := by omega
   have k3 : (kn : Int) < 2000 := by omega
   replace HS := Lh HS.out.drew
   refine dQ (fun W => At W xb 0 (.pointer (some ⟨x.X, 0, none⟩)) ∧ At W (x.X) 4 (.slice (some ⟨a1, 0, none⟩) nb x.d1) ∧ At W a1 (kn * 9 + 2) (.int .i64 T.k) ∧ At W a1 (kn * 9 + 3) (.string T.nm) ∧ At W a1 (kn * 9 + 4) (.slice Pn T.ns.length pcn) ∧ At W a1 (kn * 9 + 5) (.slice Pp T.ps.length pcp) ∧ At W a1 (kn * 9 + 6) (.bool T.many) ∧ At W ob 5 (.int .i64 o.ty.k) ∧ At W ob 6 (.string o.ty.nm) ∧ At W ob 7 (.slice Tn o.ty.ns.length tcn) ∧ At W ob 8 (.slice Tp o.ty.ps.length tcp) ∧ At W ob 9 (.bool o.ty.many)) (⟨HS.out.c 2 0, (by have h4 := HS.out.c 1 4; simp only [HA.out.1] at h4; exact h4), (HBC.out _ _ (HS.out.drop.drop.drop.drop.drop.drop.drop.drop)).1, (HBC.out _ _ (HS.out.drop.drop.drop.drop.drop.drop.drop.drop)).2.1, (HBC.out _ _ (HS.out.drop.drop.drop.drop.drop.drop.drop.drop)).2.2.1, (HBC.out _ _ (HS.out.drop.drop.drop.drop.drop.drop.drop.drop)).2.2.2.1, (HBC.out _ _ (HS.out.drop.drop.drop.drop.drop.drop.drop.drop)).2.2.2.2, HS.out.c 7 5, HS.out.c 7 6, HS.out.c 7 7, HS.out.c 7 8, HS.out.c 7 9⟩) fun _ => ?_
   generalize w0.drew = w1 at *
   refine tQ4d 0 1 2 3 ?_; try simp only [sq]
   refine tQ4d 4 5 6 7 ?_; try simp only [sq]
   refine tQ4d 8 9 10 11 ?_; try simp only [sq]
   refine tQ4d 12 13 14 15 ?_; try simp only [sq]
   refine tQ4d 16 17 18 19 ?_; try simp only [sq]
   refine tQ2d 20 21 ?_; try simp only [sq]
   refine rQ 22 (fun K hK => ?_)
   go_simp
   refine (HAL.out _ HS.out.mv).mono ?_
   rintro e w2 ⟨rfl, hb⟩
   replace HS := Lh (HS.out.below hb)
   clear hb
   refine hK.out _ _ (⟨HS.out.c 2 0, (by have h4 := HS.out.c 1 4; simp only [HA.out.1] at h4; exact h4), (HBC.out _ _ (HS.out.drop.drop.drop.drop.drop.drop.drop.drop)).1, (HBC.out _ _ (HS.out.drop.drop.drop.drop.drop.drop.drop.drop)).2.1, (HBC.out _ _ (HS.out.drop.drop.drop.drop.drop.drop.drop.drop)).2.2.1, (HBC.out _ _ (HS.out.drop.drop.drop.drop.drop.drop.drop.drop)).2.2.2.1, (HBC.out _ _ (HS.out.drop.drop.drop.drop.drop.drop.drop.drop)).2.2.2.2, HS.out.c 7 5, HS.out.c 7 6, HS.out.c 7 7, HS.out.c 7 8, HS.out.c 7 9⟩) (fun _ => ?_)
   clear hK K
   try simp only [sq]
   refine tQ2d 23 24 ?_; try simp only [sq]
   refine fQ ?_ _
   clear hd0 hd1 hd2 k1 k2 k3 HAL HBC
   cases tb
   ·have HEE : Hid (E = ⟨3, 0, m.out, t1⟩) := by
     have ha := act_8t (m := m) HOQ.out (p := (pv, pi)) (by rw [HORD.out, HSQ.out]; exact HBB.out) (by rw [HORD.out]; dsimp only; rw [HT.out]; exact HTB.out)
     rw [HT1.out.1]
     exact HER.out.symm.trans (run_stop ha)
    clear HA8 HBB gs gsn
    go_wp2_with fail
    replace HS := Lh HS.out.drop.f3.drop.f3.drop.f3.drop.f3.drop.f2.f2.f2
    refine leaves_cons (f := 77) (args := #[.pointer (some ⟨xb, 0, none⟩)]) (by simp) (by simp [go_sem]) ?_
    refine (deep_any (d := K.length) (.panicking [{ v := .iface 115 (.agg #[.int .i64 (3)]), recovered := false }]) HS.out (by have := HK3.out.2; omega)).mono ?_
    rintro e u' W' ⟨rfl, rfl, hH⟩
    rw [HEE.out]
    exact .inr ⟨m.vs, O, od, K.length, Nat.le_refl _, Nat.le_succ _, rfl, by show Hp _ _ _; unfold prP; rw [show (allB l l.length).length = nbl l from rfl, HNB.out]; exact hH.f1.drop, rfl⟩
   obtain ⟨hAR, hDR⟩ := HA8.out HTB.out
   have HAR := Lh hAR
   have HDR : Hid (o.d.length = resW (bod l pv pi).ty) := by show _ = _; rw [HT.out]; exact hDR
   have HRC : Hid (rcl l n0 pv pi st (⟨u, i, r, bs, pc + 1⟩ :: K) m t1 = E) := by
    have ha := act_8 (m := m) HOQ.out (p := (pv, pi)) (by rw [HORD.out, HSQ.out]; exact HBB.out) (by rw [HORD.out]; dsimp only; rw [HT.out]; exact HTB.out)
    rw [HORD.out, HSQ.out] at ha
    have hr := (run_call ha).symm.trans HER.out
    rw [← HT1.out.1] at hr
    exact hr
   clear hAR hDR HA8 HBB HTB HT hv1 hv2 hkn
   obtain ⟨hcs, -⟩ := own_room (HS.out.own 0 rfl)
   have HST : Hid (st.length = o.s.length - 1) := by have := HSL.out; simp only [List.length_cons] at this; show _ = _; omega
   have r1 : (1 : Int) ≤ (o.s.length : Int) := by omega
   have r2 : (o.s.length : Int) ≤ (scx : Int) := by omega
   go_upto_region 42 with (fail)
   clear gs gsn
   replace HS := Lh HS.out.drew
   refine dQ (fun W => At W xb 0 (.pointer (some ⟨x.X, 0, none⟩))) (HS.out.c 2 0) fun _ => ?_
   generalize w2.drew = w3 at *
   refine tQ4d 0 1 2 3 ?_; try simp only [sq]
   refine rQ 4 (fun KK hK => ?_)
   go_simp
   clear r1 r2
   skip
   obtain ⟨Sy, hSy⟩ : ∃ y : Option Addr, (if scx = 1 then some ⟨sg, 0, none⟩ else some ⟨sg, 1, none⟩) = y := ⟨_, rfl⟩
   rw [hSy, ← HST.out]
   have HROOM : Hid (st.length ≤ scx - 1 ∧ (Sy = none → scx - 1 = 0)) := ⟨by have := HST.out; omega, fun e => by rw [← hSy] at e; split at e <;> cases e⟩
   have HSY := Lh hSy
   clear hSy
   have HS2 : Hid (Hp w w3 (rI w.heap.size (.slice (some ⟨sg, 0, none⟩) ((kn : Int) :: st).length scx) ((kn : Int) :: st) :: bx x.X 55 #[.int .i64 0, .int .i32 0, .slice O m.out.length od, .int .i64 (t1 : Int), .slice x.A1 nb x.d1, .slice x.A2 nb x.d2, .slice x.A3 (allG l l.length).length x.d3, .slice x.A4 l.length x.d4, .int .i64 (x.F : Int), .int .i64 ((K.length : Int) + 1), .int .i64 x.start] :: bx xb 50 #[.pointer (some ⟨x.X, 0, none⟩)] :: ow w.heap.size 21 1 (.slice O m.out.length od) m.out.length (m.out.map i32) :: ow w.heap.size 21 1 (.slice (some ⟨rg, 0, none⟩) R R) R (r.map i32) :: bx rb 42 #[.slice (some ⟨rg, 0, none⟩) R R] :: bB :: bx ob 63 #[.int .i64 o.op, .slice Ad o.d.length cd, .slice As o.s.length cs, .int .i64 o.n, .string o.nm, .int .i64 o.ty.k, .string o.ty.nm, .slice Tn o.ty.ns.length tcn, .slice Tp o.ty.ps.length tcp, .bool o.ty.many] :: (prC l w.heap.size x m.vs base))) := by unfold rI; rw [HSL.out]; exact HS
   replace HS := HS2
   clear HS2
   replace HS := Lh HS.out.f7.f7.f7.f7.f6.f7.f7
   have HS2 : Hid (Hp w w3 (prP l w.heap.size x m.vs O od m.out 0 0 t1 ((⟨u, i, r, bs, pc + 1⟩ :: K).length : Int) ([bx xb 50 #[.pointer (some ⟨x.X, 0, none⟩)], ow w.heap.size 21 1 (.slice (some ⟨rg, 0, none⟩) R R) R (r.map i32), bx rb 42 #[.slice (some ⟨rg, 0, none⟩) R R], bB, bx ob 63 #[.int .i64 o.op, .slice Ad o.d.length cd, .slice As o.s.length cs, .int .i64 o.n, .string o.nm, .int .i64 o.ty.k, .string o.ty.nm, .slice Tn o.ty.ns.length tcn, .slice Tp o.ty.ps.length tcp, .bool o.ty.many], rI w.heap.size (.slice (some ⟨sg, 0, none⟩) ((kn : Int) :: st).length scx) ((kn : Int) :: st)] ++ base))) := by
    have h2 := HS.out.perm (.cons _ (.cons _ (prC_in (F := [bx xb 50 #[.pointer (some ⟨x.X, 0, none⟩)], ow w.heap.size 21 1 (.slice (some ⟨rg, 0, none⟩) R R) R (r.map i32), bx rb 42 #[.slice (some ⟨rg, 0, none⟩) R R], bB, bx ob 63 #[.int .i64 o.op, .slice Ad o.d.length cd, .slice As o.s.length cs, .int .i64 o.n, .string o.nm, .int .i64 o.ty.k, .string o.ty.nm, .slice Tn o.ty.ns.length tcn, .slice Tp o.ty.ps.length tcp, .bool o.ty.many], rI w.heap.size (.slice (some ⟨sg, 0, none⟩) ((kn : Int) :: st).length scx) ((kn : Int) :: st)]) base)))
    show Hp _ _ _
    unfold prP
    rw [show ((⟨u, i, r, bs, pc + 1⟩ :: K).length : Int) = ((K.length : Int) + 1) from by simp, show (allB l l.length).length = nbl l from rfl, HNB.out]
    exact h2
   replace HS := HS2
   clear HS2
   have HCA := Lh (HIH.out n0 (by have := HT1.out; omega) w3 pv pi st (Sy) ((scx - 1)) (⟨u, i, r, bs, pc + 1⟩ :: K) m t1 E ([bx xb 50 #[.pointer (some ⟨x.X, 0, none⟩)], ow w.heap.size 21 1 (.slice (some ⟨rg, 0, none⟩) R R) R (r.map i32), bx rb 42 #[.slice (some ⟨rg, 0, none⟩) R R], bB, bx ob 63 #[.int .i64 o.op, .slice Ad o.d.length cd, .slice As o.s.length cs, .int .i64 o.n, .string o.nm, .int .i64 o.ty.k, .string o.ty.nm, .slice Tn o.ty.ns.length tcn, .slice Tp o.ty.ps.length tcp, .bool o.ty.many], rI w.heap.size (.slice (some ⟨sg, 0, none⟩) ((kn : Int) :: st).length scx) ((kn : Int) :: st)] ++ base) O od HT1.out.2.1 HAR.out (fun j hj => by rw [← HSY.out, if_neg (by have := HST.out; omega)]; exact RowAt.tl (x := (kn : Int)) (B := w.heap.size) (c := scx) (List.mem_append_left _ (by simp)) j hj) HROOM.out.1 HROOM.out.2 HM.out (by have := HT1.out; omega) (by have := HK3.out; simp; omega) HRC.out HS.out)
   rw [HKN.out] at HCA
   refine (HCA.out).mono ?_
   clear HCA HS HROOM; intro e w4 hO
   rcases hO with ⟨n2, t2, s2, RV, rc2, m2, O2, od2, rfl, HS, hsr, hsw, hm2, ho2, hnt2, hn2, hrg⟩ | ⟨vs2, O2, od2, dp, hdp1, hdp2, rfl, HS, hE0⟩
   ·have HSR2 := Lh hsr
    have HSW2 := Lh hsw
    have HM2 := Lh hm2
    have HT2 := Lh (And.intro ho2 (And.intro hnt2 hn2))
    have HRN : Hid (run l n2 ⟨u, i, (setR r o.d s2), bs, (pc + 1)⟩ K m2 t2 = E) := by
     show _ = _
     rw [← hrg]
     show run l n2 ⟨u, i, (setR r o.d s2), bs, (pc + 1)⟩ K m2 t2 = run l n2 ⟨u, i, (setR r (ord l ⟨u, i, r, bs, pc⟩).d s2), bs, (pc + 1)⟩ K m2 t2
     rw [HORD.out]
    clear hsr hsw hm2 ho2 hnt2 hn2 hrg
    have HS2 : Hid (Hp w w4 (rI w.heap.size (.slice RV s2.length rc2) s2 :: bx x.X 55 #[.int .i64 0, .int .i32 0, .slice O2 m2.out.length od2, .int .i64 (t2 : Int), .slice x.A1 nb x.d1, .slice x.A2 nb x.d2, .slice x.A3 (allG l l.length).length x.d3, .slice x.A4 l.length x.d4, .int .i64 (x.F : Int), .int .i64 ((K.length : Int) + 1), .int .i64 x.start] :: ow w.heap.size 21 1 (.slice O2 m2.out.length od2) m2.out.length (m2.out.map i32) :: bx xb 50 #[.pointer (some ⟨x.X, 0, none⟩)] :: ow w.heap.size 21 1 (.slice (some ⟨rg, 0, none⟩) R R) R (r.map i32) :: bx rb 42 #[.slice (some ⟨rg, 0, none⟩) R R] :: bB :: bx ob 63 #[.int .i64 o.op, .slice Ad o.d.length cd, .slice As o.s.length cs, .int .i64 o.n, .string o.nm, .int .i64 o.ty.k, .string o.ty.nm, .slice Tn o.ty.ns.length tcn, .slice Tp o.ty.ps.length tcp, .bool o.ty.many] :: rI w.heap.size (.slice (some ⟨sg, 0, none⟩) ((kn : Int) :: st).length scx) ((kn : Int) :: st) :: (prC l w.heap.size x m2.vs base))) := by
     have h2 := HS.out
     unfold prP at h2
     rw [show ((⟨u, i, r, bs, pc + 1⟩ :: K).length : Int) = ((K.length : Int) + 1) from by simp, show (allB l l.length).length = nbl l from rfl, HNB.out] at h2
     exact h2.perm (.cons _ (.cons _ (.cons _ (prC_in (F := [bx xb 50 #[.pointer (some ⟨x.X, 0, none⟩)], ow w.heap.size 21 1 (.slice (some ⟨rg, 0, none⟩) R R) R (r.map i32), bx rb 42 #[.slice (some ⟨rg, 0, none⟩) R R], bB, bx ob 63 #[.int .i64 o.op, .slice Ad o.d.length cd, .slice As o.s.length cs, .int .i64 o.n, .string o.nm, .int .i64 o.ty.k, .string o.ty.nm, .slice Tn o.ty.ns.length tcn, .slice Tp o.ty.ps.length tcp, .bool o.ty.many], rI w.heap.size (.slice (some ⟨sg, 0, none⟩) ((kn : Int) :: st).length scx) ((kn : Int) :: st)]) base).symm)))
    replace HS := HS2
    clear HS2
    refine hK.out _ _ (HS.out.c 3 0) (fun _ => ?_)
    clear hK KK
    try simp only [sq]
    refine tQd 5 ?_; try simp only [sq]
    refine fQ ?_ _
    go_wp2_with fail
    replace HS := Lh HS.out.f8.drop.f6.f6.f5.f6.f6.f6.f7.f7
    refine HFIN.out _ _ _ _ ⟨_, _, _, _, _, _, _, _, _, rfl, rfl⟩ ?_
    exact ⟨n2, t2, pc + 1, m2, O2, od2, s2, RV, rc2, by go_num, rfl, Lh ⟨HT2.out.2.1, HT2.out.2.2, by have := HT1.out; omega, HT2.out.1⟩, Lh ⟨HSR2.out.trans HDR.out.symm, HSW2.out⟩, Lh (HF.out.set HSW2.out HNP.out), HM2, HRN, HS⟩
   ·have HDP := Lh (And.intro hdp1 hdp2)
    have HE0 := Lh hE0
    clear hdp1 hdp2 hE0
    have HS2 := HS.out
    unfold prP at HS2
    rw [show (allB l l.length).length = nbl l from rfl, HNB.out] at HS2
    replace HS := Lh (HS2.perm (.cons _ (.cons _ (prC_in (F := [bx xb 50 #[.pointer (some ⟨x.X, 0, none⟩)], ow w.heap.size 21 1 (.slice (some ⟨rg, 0, none⟩) R R) R (r.map i32), bx rb 42 #[.slice (some ⟨rg, 0, none⟩) R R], bB, bx ob 63 #[.int .i64 o.op, .slice Ad o.d.length cd, .slice As o.s.length cs, .int .i64 o.n, .string o.nm, .int .i64 o.ty.k, .string o.ty.nm, .slice Tn o.ty.ns.length tcn, .slice Tp o.ty.ps.length tcp, .bool o.ty.many], rI w.heap.size (.slice (some ⟨sg, 0, none⟩) ((kn : Int) :: st).length scx) ((kn : Int) :: st)]) base).symm)))
    clear HS2
    replace HS := Lh HS.out.f3.drop.f3.drop.f3.drop.f3.drop.f3.drop.f1.f2.f2
    have hdq : (dp : Int) = ((dp - 1 : Nat) : Int) + 1 := by have := HDP.out.1; simp only [List.length_cons] at this; omega
    rw [hdq] at HS
    clear hdq
    refine leaves_cons (f := 77) (args := #[.pointer (some ⟨xb, 0, none⟩)]) (by simp) (by simp [go_sem]) ?_
    refine (deep_any (d := dp - 1) (.panicking [{ v := .iface 115 (.agg #[.int .i64 (E.e)]), recovered := false }]) HS.out (by have := HDP.out.2; have := HK3.out.2; simp only [List.length_cons] at *; omega)).mono ?_
    rintro e u' W' ⟨rfl, rfl, hH⟩
    refine .inr ⟨vs2, O2, od2, dp - 1, by have := HDP.out.1; simp only [List.length_cons] at this; omega, by have := HDP.out.2; simp only [List.length_cons] at this; omega, rfl, ?_, HE0.out⟩
    show Hp _ _ _
    unfold prP
    rw [show (allB l l.length).length = nbl l from rfl, HNB.out]
    exact hH.f1.drop
theorem ord_g : OrdG (fun k => k = 14) := by
 unfold OrdG
 intro l w x base n u i bs K E nb R xb rb rg bb ob Ba bc mp bB o r Ad As Tn Tp cd cs tcn tcp m O od t t1 n0 pc scx a1 a4 sl Sx KC K1 z0 z1 z2 z4 z5 z9 z23 z24 z25 z26 z27 z28 z29 z30 z31 z32 z33 z34 z35 z36 z37 z38 z39 z40 z41 z42 z43 z44 z45 z46 z47 z48 z49 z50 z51 z52 z53 z54 z55 z56 z57 z58 z59 z60 z61 z62 z63 z64 z65 z66 z67 z68 z69 z70 z71 z6 a W HFIN HIH HL HH HH2 HPO HML HMPX HMP HF HM HER HT1 HOO HORD HRT HBA HNB HK3 HSQ HSL HGL hs100 HA HOP0 HS hS
 obtain ⟨y14, y17, y18, y19, y20, y21, y22, y, hy, hy2, rfl⟩ := hS
 obtain ⟨f, rfl⟩ := late232 hy
 replace hy2 : f 34 = .int .i64 o.op := by injection hy2
 rw [hy2]
 clear hy hy2
 obtain ⟨w0, rfl⟩ : ∃ y, y = W := ⟨_, rfl⟩
 unfold cSw cLp
 conv => arg 2; whnf
 have hop := HOP0.out
 ·rw [hop]
  have HOP := Lh hop
  clear hop
  have HOQ : Hid ((ord l ⟨u, i, r, bs, pc⟩).op = 14) := by show _ = _; rw [HORD.out]; exact HOP.out
  have HNP : Hid (pc + 1 < (bod l u i).code.length) := HF.out.nxt HL.out (by rw [HOQ.out]; decide) (by rw [HOQ.out]; decide)
  obtain ⟨hd1, hs1⟩ := HOO.out.o14 HOP.out
  have HDD := Lh hd1
  clear hd1
  obtain ⟨sv, rfl⟩ : ∃ v, sl = [v] := List.length_eq_one_iff.1 (HSL.out.trans hs1)
  have hsv : W32 sv := src_w (f := ⟨u, i, r, bs, pc⟩) (o := o) HF.out.rv sv (by rw [HSQ.out]; simp)
  obtain ⟨sg, rfl⟩ := own_some (HS.out.own 0 rfl) (by omega)
  have s0 : w0.cell? ⟨sg, 0, none⟩ = some (.int .i32 sv) := own_at5 (HS.out.own 0 rfl) 0 _ rfl
  have gs : (0 : Int) < (o.s.length : Int) := by omega
  have gsn : 0 < o.s.length := by omega
  have hsv1 := hsv.1
  have hsv2 := hsv.2
  clear hsv
  clear hs1 s0
  have hb12 : bs.length ≤ 12 := HF.out.bl
  have hwv : IntKind.i64.wrap sv = sv := by rw [IntKind.wrap_i64]; omega
  have HSV : Hid (W32 sv) := ⟨hsv1, hsv2⟩
  go_upto_region 56 with (fail)
  replace HS := Lh (HS.out.lit1 (0))
  generalize w0.alloc _ = w1 at *
  generalize w0.heap.size = dg at *
  have s0 : w1.cell? ⟨sg, 0, none⟩ = some (.int .i32 sv) := own_at5 (HS.out.own 1 rfl) 0 _ rfl
  go_upto_region 57 with (fail)
  clear s0 hwv
  by_cases hn0 : sv < 0
  ·have HGO : Hid (run l n0 ⟨u, i, (setR r o.d [0]), bs, (pc + 1)⟩ K m t1 = E) := by
    have ha := act_14 (m := m) HOQ.out
    rw [HORD.out] at ha
    rw [HSQ.out] at ha
    have hval : (if 0 ≤ ([sv] : List Int).getD 0 0 ∧ ([sv] : List Int).getD 0 0 < (bs.length : Int) then bs.getD (([sv] : List Int).getD 0 0).toNat 0 else 0) = 0 := by show (if 0 ≤ sv ∧ sv < (bs.length : Int) then bs.getD (sv).toNat 0 else 0) = 0; rw [if_neg (by omega)]
    dsimp only at ha
    rw [hval] at ha
    have hr := (run_go ha).symm.trans HER.out
    rw [← HT1.out.1] at hr
    exact hr
   have hge : decide ((0 : Int) ≤ sv) = false := by simp; omega
   clear hn0
   go_wp2_with fail
   clear gs gsn
   replace HS := Lh HS.out.f1.drop.f6.f6.f4.f6.f6.f6.f7.f7
   refine HFIN.out _ _ _ _ ⟨_, _, _, _, _, _, _, _, _, rfl, rfl⟩ ?_
   exact ⟨n0, t1, (pc + 1), m, O, od, [0], _, _, by go_num, rfl, Lh ⟨HT1.out.2.1, Nat.le_refl _, by have := HT1.out; omega, by have := HT1.out; show m.out.length ≤ t1; omega⟩, Lh ⟨HDD.out.symm, fun y hy => by rw [List.mem_singleton] at hy; rw [hy]; exact (show W32 0 from ⟨by decide, by decide⟩)⟩, Lh (HF.out.set (fun y hy => by rw [List.mem_singleton] at hy; rw [hy]; exact (show W32 0 from ⟨by decide, by decide⟩)) HNP.out), HM, HGO, HS⟩
  obtain ⟨sn, rfl⟩ : ∃ sn : Nat, sv = (sn : Int) := ⟨sv.toNat, by omega⟩
  have hge : decide ((0 : Int) ≤ (sn : Int)) = true := by simp
  have sn0 : (0 : Int) ≤ (sn : Int) := by omega
  clear hn0
  by_cases hlt : sn < bs.length
  ·obtain ⟨b5, o5, hBa, hc5⟩ := HBA.out sn hlt
   subst hBa
   have HBV : Hid (W32 bs[sn]) := HF.out.bv _ (List.getElem_mem _)
   have c5 := hc5 _ (HS.out.drop.drop.drop.drop.drop.drop.drop.drop.drop.sub (prC_base _))
   have hbg : bs.getD sn 0 = bs[sn] := by simp [List.getD_eq_getElem?_getD, hlt]
   have HGO : Hid (run l n0 ⟨u, i, (setR r o.d [bs[sn]]), bs, (pc + 1)⟩ K m t1 = E) := by
    have ha := act_14 (m := m) HOQ.out
    rw [HORD.out] at ha
    rw [HSQ.out] at ha
    have hval : (if 0 ≤ ([(sn : Int)] : List Int).getD 0 0 ∧ ([(sn : Int)] : List Int).getD 0 0 < (bs.length : Int) then bs.getD (([(sn : Int)] : List Int).getD 0 0).toNat 0 else 0) = bs[sn] := by show (if 0 ≤ (sn : Int) ∧ (sn : Int) < (bs.length : Int) then bs.getD ((sn : Int)).toNat 0 else 0) = bs[sn]; rw [if_pos ⟨by omega, by omega⟩, Int.toNat_natCast, hbg]
    dsimp only at ha
    rw [hval] at ha
    have hr := (run_go ha).symm.trans HER.out
    rw [← HT1.out.1] at hr
    exact hr
   clear hbg hc5
   generalize bs[sn] = bv at *
   have hb1 : decide ((sn : Int) < (bs.length : Int)) = true := by simp; omega
   have hb2 : decide (sn < bs.length) = true := by simp; omega
   have hb3 : (sn : Int) < (bs.length : Int) := by omega
   have fz := HS.out.one.frozenAt 0
   have ce := HS.out.one.cellAt 0 (by decide)
   simp only [List.map_cons, List.getElem?_cons_zero, i32] at ce
   go_wp2_with fail
   clear fz ce c5 hb1 hb2 hb3 hge sn0
   replace HS := Lh (HS.out.rowput 0 (.int .i32 bv))
   generalize w1.setCell _ _ = w2 at *
   have HS2 : Hid (Hp w w2 (rI w.heap.size (.slice (some ⟨dg, 0, none⟩) 1 1) [bv] :: ow w.heap.size 21 1 (.slice (some ⟨sg, 0, none⟩) o.s.length scx) o.s.length ([(sn : Int)].map i32) :: bx x.X 55 #[.int .i64 0, .int .i32 0, .slice O m.out.length od, .int .i64 (t1 : Int), .slice x.A1 nb x.d1, .slice x.A2 nb x.d2, .slice x.A3 (allG l l.length).length x.d3, .slice x.A4 l.length x.d4, .int .i64 (x.F : Int), .int .i64 ((K.length : Int) + 1), .int .i64 x.start] :: bx xb 50 #[.pointer (some ⟨x.X, 0, none⟩)] :: ow w.heap.size 21 1 (.slice O m.out.length od) m.out.length (m.out.map i32) :: ow w.heap.size 21 1 (.slice (some ⟨rg, 0, none⟩) R R) R (r.map i32) :: bx rb 42 #[.slice (some ⟨rg, 0, none⟩) R R] :: bB :: bx ob 63 #[.int .i64 o.op, .slice Ad o.d.length cd, .slice As o.s.length cs, .int .i64 o.n, .string o.nm, .int .i64 o.ty.k, .string o.ty.nm, .slice Tn o.ty.ns.length tcn, .slice Tp o.ty.ps.length tcp, .bool o.ty.many] :: (prC l w.heap.size x m.vs base))) := HS
   replace HS := HS2
   clear HS2
   clear gs gsn
   replace HS := Lh HS.out.f1.drop.f6.f6.f4.f6.f6.f6.f7.f7
   refine HFIN.out _ _ _ _ ⟨_, _, _, _, _, _, _, _, _, rfl, rfl⟩ ?_
   exact ⟨n0, t1, (pc + 1), m, O, od, [bv], _, _, by go_num, rfl, Lh ⟨HT1.out.2.1, Nat.le_refl _, by have := HT1.out; omega, by have := HT1.out; show m.out.length ≤ t1; omega⟩, Lh ⟨HDD.out.symm, fun y hy => by rw [List.mem_singleton] at hy; rw [hy]; exact HBV.out⟩, Lh (HF.out.set (fun y hy => by rw [List.mem_singleton] at hy; rw [hy]; exact HBV.out) HNP.out), HM, HGO, HS⟩
  have HGO : Hid (run l n0 ⟨u, i, (setR r o.d [0]), bs, (pc + 1)⟩ K m t1 = E) := by
   have ha := act_14 (m := m) HOQ.out
   rw [HORD.out] at ha
   rw [HSQ.out] at ha
   have hval : (if 0 ≤ ([(sn : Int)] : List Int).getD 0 0 ∧ ([(sn : Int)] : List Int).getD 0 0 < (bs.length : Int) then bs.getD (([(sn : Int)] : List Int).getD 0 0).toNat 0 else 0) = 0 := by show (if 0 ≤ (sn : Int) ∧ (sn : Int) < (bs.length : Int) then bs.getD ((sn : Int)).toNat 0 else 0) = 0; rw [if_neg (by omega)]
   dsimp only at ha
   rw [hval] at ha
   have hr := (run_go ha).symm.trans HER.out
   rw [← HT1.out.1] at hr
   exact hr
  have hb1 : decide ((sn : Int) < (bs.length : Int)) = false := by simp; omega
  have hb2 : decide (sn < bs.length) = false := by simp; omega
  go_wp2_with fail
  clear gs gsn
  replace HS := Lh HS.out.f1.drop.f6.f6.f4.f6.f6.f6.f7.f7
  refine HFIN.out _ _ _ _ ⟨_, _, _, _, _, _, _, _, _, rfl, rfl⟩ ?_
  exact ⟨n0, t1, (pc + 1), m, O, od, [0], _, _, by go_num, rfl, Lh ⟨HT1.out.2.1, Nat.le_refl _, by have := HT1.out; omega, by have := HT1.out; show m.out.length ≤ t1; omega⟩, Lh ⟨HDD.out.symm, fun y hy => by rw [List.mem_singleton] at hy; rw [hy]; exact (show W32 0 from ⟨by decide, by decide⟩)⟩, Lh (HF.out.set (fun y hy => by rw [List.mem_singleton] at hy; rw [hy]; exact (show W32 0 from ⟨by decide, by decide⟩)) HNP.out), HM, HGO, HS⟩
theorem calls_round {l : List Un} {w : World} {x : Px} {base : List Rc} {n u i : Nat} {bs : List Int} {K : List Fr} {E : Shw} {nb R xb rb rg bb : Nat} {bnm : ByteArray} {bst : Bool} {bty : Ty} {bcode : List Or} {An Ap A' : Option Addr} {cn cp c' a1 a4 gk : Nat} {Ba : Option Addr} {bc : Nat} {mp : Nat × List (ByteArray × Tv)} {bB : Rc} {KC : Act → World → Prop} {z0 z1 z2 z4 z5 z9 z23 z24 z25 z26 z27 z28 z29 z30 z31 z32 z33 z34 z35 z36 z37 z38 z39 z40 z41 z42 z43 z44 z45 z46 z47 z48 z49 z50 z51 z52 z53 z54 z55 z56 z57 z58 z59 z60 z61 z62 z63 z64 z65 z66 z67 z68 z69 z70 z71 : Value} {a : Act} {p : Value} {W : World} (hA : FrA z0 z1 z2 z4 z5 z9 z23 z24 z25 z26 z27 z28 z29 z30 z31 z32 z33 z34 z35 z36 z37 z38 z39 z40 z41 z42 z43 z44 z45 z46 z47 z48 z49 z50 z51 z52 z53 z54 z55 z56 z57 z58 z59 z60 z61 z62 z63 z64 z65 z66 z67 z68 z69 z70 z71 xb bb rb Ba bs.length bc mp.1 a p) (HBB : Hid (bB = bx bb 37 #[.string bnm, .bool bst, .int .i64 bty.k, .string bty.nm, .slice An bty.ns.length cn, .slice Ap bty.ps.length cp, .bool bty.many, .int .i64 (R : Int), .slice A' bcode.length c'])) (HRD : Hid (∀ a p gk1 (W : World), FrA z0 z1 z2 z4 z5 z9 z23 z24 z25 z26 z27 z28 z29 z30 z31 z32 z33 z34 z35 z36 z37 z38 z39 z40 z41 z42 z43 z44 z45 z46 z47 z48 z49 z50 z51 z52 z53 z54 z55 z56 z57 z58 z59 z60 z61 z62 z63 z64 z65 z66 z67 z68 z69 z70 z71 xb bb rb Ba bs.length bc mp.1 a p → gk1 < gk → Iv l w x base n u i bs K E nb R xb rb rg bB gk1 p W → KC a W))
 (HIH : Hid (∀ n1, n1 < n → CallsOk l w x n1)) (HL : Hid (Lnk l)) (HH : Hid (∀ u (h : u < l.length), l[u].bs.length ≤ 40)) (HH2 : Hid (∀ u (h : u < l.length), l[u].gs.length ≤ 40)) (HPO : Hid (PxOk l w x)) (HML : Hid (ML w)) (HMPX : Hid (x.ms[u]? = some mp)) (HMP : Hid (∀ Y vs', Hp w Y (prC l w.heap.size x vs' base) → Y.cell? ⟨a4, u, none⟩ = some (.map (some mp.1)) ∧ MapIs Tryz.prog 9 Y mp.1 (gM Tv.val mp.2))) (HOL : Hid (RepOL w A' bcode)) (HBD : Hid (bod l u i = ⟨bnm, bst, bty, (R : Int), bcode⟩)) (HBA : Hid (RowAt w base Ba bs)) (HNB : Hid (nbl l = nb)) (HK3 : Hid (¬ 3000 ≤ K.length ∧ K.length ≤ 3000)) (HR8 : Hid (R ≤ 8000)) (HF3 : Hid (x.F ≤ 300000)) (HA : Hid (x.A1 = some ⟨a1, 0, none⟩ ∧ x.A4 = some ⟨a4, 0, none⟩))
 (hI : Iv l w x base n u i bs K E nb R xb rb rg bB gk p W) : cLp.wp Tryz.prog (Exit.then KC (Exit.inBlock 0 (bodyPostD Tryz.prog Tryz.f61 (CallOut l w x base n u i K E)))) a W := by
 obtain ⟨y6, y13, y14, y15, y16, y17, y18, y19, y20, y21, y22, y, hy, rfl⟩ := hA
 obtain ⟨f, rfl⟩ := late232 hy
 clear hy
 have hbb := HBB.out
 obtain ⟨n', t, r, pc, m, O, od, rfl, rfl, HNM, HF, HM, HER, HS⟩ := hI
 obtain ⟨w0, rfl⟩ : ∃ y, y = W := ⟨_, rfl⟩
 rw [hbb] at HS
 replace HS : Hid (Hp w w0 (bx x.X 55 #[.int .i64 0, .int .i32 0, .slice O m.out.length od, .int .i64 (t : Int), .slice x.A1 nb x.d1, .slice x.A2 nb x.d2, .slice x.A3 (allG l l.length).length x.d3, .slice x.A4 l.length x.d4, .int .i64 (x.F : Int), .int .i64 ((K.length : Int) + 1), .int .i64 x.start] :: ow w.heap.size 21 1 (.slice O m.out.length od) m.out.length (m.out.map i32) :: ow w.heap.size 21 1 (.slice (some ⟨rg, 0, none⟩) R R) R (r.map i32) :: bx xb 50 #[.pointer (some ⟨x.X, 0, none⟩)] :: bx rb 42 #[.slice (some ⟨rg, 0, none⟩) R R] :: bx bb 37 #[.string bnm, .bool bst, .int .i64 bty.k, .string bty.nm, .slice An bty.ns.length cn, .slice Ap bty.ps.length cp, .bool bty.many, .int .i64 (R : Int), .slice A' bcode.length c'] :: (prC l w.heap.size x m.vs base))) := HS
 clear hbb
 unfold cLp
 conv => arg 2; whnf
 obtain ⟨m1, m2, m3⟩ := HNM.out
 have hF3 := HF3.out
 cases n' with
 | zero =>
  have hge : (x.F : Int) ≤ (t : Int) := by omega
  have HEE : Hid (E = ⟨0, 0, m.out, t⟩) := HER.out.symm
  go_upto_region 12 with (fail)
  replace HS := Lh HS.out.drew
  refine dQ (fun W => At W xb 0 (.pointer (some ⟨x.X, 0, none⟩)) ∧ At W (x.X) 3 (.int .i64 (t : Int)) ∧ At W (x.X) 8 (.int .i64 (x.F : Int))) (⟨HS.out.c 3 0, HS.out.c 0 3, HS.out.c 0 8⟩) fun _ => ?_
  generalize w0.drew = w1 at *
  refine tQ4d 0 1 2 3 ?_; try simp only [sq]
  refine tQ4d 4 5 6 7 ?_; try simp only [sq]
  refine tQ2d 8 9 ?_; try simp only [sq]
  refine fQ ?_ _
  go_wp2_with fail
  replace HS := Lh HS.out.f2.drop.f3.drop.f3.drop.f1.f2.f2
  refine leaves_cons (f := 77) (args := #[.pointer (some ⟨xb, 0, none⟩)]) (by simp) (by simp [go_sem]) ?_
  refine (deep_any (d := K.length) (.panicking [{ v := .iface 115 (.agg #[.int .i64 (0)]), recovered := false }]) HS.out (by have := HK3.out.2; omega)).mono ?_
  rintro e u' W' ⟨rfl, rfl, hH⟩
  rw [HEE.out]
  exact .inr ⟨m.vs, O, od, K.length, Nat.le_refl _, Nat.le_succ _, rfl, by show Hp _ _ _; unfold prP; rw [show (allB l l.length).length = nbl l from rfl, HNB.out]; exact hH.f1.drop, rfl⟩
 | succ n0 =>
  have hge : ¬ (x.F : Int) ≤ (t : Int) := by omega
  have ht9 : t ≤ 300000 := by omega
  go_upto_region 12 with (fail)
  replace HS := Lh HS.out.drew
  refine dQ (fun W => At W xb 0 (.pointer (some ⟨x.X, 0, none⟩)) ∧ At W (x.X) 3 (.int .i64 (t : Int)) ∧ At W (x.X) 8 (.int .i64 (x.F : Int))) (⟨HS.out.c 3 0, HS.out.c 0 3, HS.out.c 0 8⟩) fun _ => ?_
  generalize w0.drew = w1 at *
  refine tQ4d 0 1 2 3 ?_; try simp only [sq]
  refine tQ4d 4 5 6 7 ?_; try simp only [sq]
  refine tQ2d 8 9 ?_; try simp only [sq]
  refine fQ ?_ _
  have x0 := HS.out.c 3 0
  have f3 := (HS.out.blk 0 rfl).free 3
  have g3 := HS.out.c 0 3
  have htw : IntKind.i64.wrap ((t : Int) + 1) = (t : Int) + 1 := by rw [IntKind.wrap_i64]; omega
  clear ht9 m1 m2 m3 hF3
  go_upto_region 15 with (fail)
  clear x0 f3 g3 htw hge
  replace HS := Lh (HS.out.put1 3 (.int .i64 ((t : Int) + 1)))
  simp only [sq] at HS
  generalize w1.setCell _ _ = w2 at *
  obtain ⟨t1, ht1⟩ : ∃ t1, t1 = t + 1 := ⟨_, rfl⟩
  rw [show ((t : Int) + 1) = (t1 : Int) by omega] at HS
  have HT1 : Hid (t1 = t + 1 ∧ n0 + t1 = x.F ∧ n0 + 1 ≤ n ∧ m.out.length ≤ t ∧ x.F ≤ 300000) := ⟨ht1, by have := HNM.out; omega, by have := HNM.out; omega, HNM.out.2.2, HF3.out⟩
  clear ht1 HNM
  have hpc : pc < bcode.length := by have := HF.out.pc; rw [show bod l u i = _ from HBD.out] at this; exact this
  have hgl : r.length = R := by have := HF.out.hr; rw [show bod l u i = _ from HBD.out] at this; dsimp only at this; omega
  have hbl6 : bcode.length ≤ 6000 := by have := (HF.out.bo HL.out).n2; dsimp only at this; rw [show bod l u i = _ from HBD.out] at this; exact this
  obtain ⟨b3, o3, cs3, hA3, hlt3, hc3, hr3⟩ := HOL.out pc hpc
  obtain ⟨Ad, cd, As, cs, Tn, tcn, Tp, tcp, rfl, hD, hS3, hT3, -⟩ := hr3.ten
  subst hA3
  have HRD2 := Lh hD
  have HRS := Lh hS3
  have HT3 := Lh hT3
  have oc0 := (HS.out.mv.cell (p := ⟨b3, o3 + pc * 10 + 0, none⟩) hlt3).trans (hc3 0 _ rfl)
  have oc1 := (HS.out.mv.cell (p := ⟨b3, o3 + pc * 10 + 1, none⟩) hlt3).trans (hc3 1 _ rfl)
  have oc2 := (HS.out.mv.cell (p := ⟨b3, o3 + pc * 10 + 2, none⟩) hlt3).trans (hc3 2 _ rfl)
  have oc3 := (HS.out.mv.cell (p := ⟨b3, o3 + pc * 10 + 3, none⟩) hlt3).trans (hc3 3 _ rfl)
  have oc4 := (HS.out.mv.cell (p := ⟨b3, o3 + pc * 10 + 4, none⟩) hlt3).trans (hc3 4 _ rfl)
  have oc5 := (HS.out.mv.cell (p := ⟨b3, o3 + pc * 10 + 5, none⟩) hlt3).trans (hc3 5 _ rfl)
  have oc6 := (HS.out.mv.cell (p := ⟨b3, o3 + pc * 10 + 6, none⟩) hlt3).trans (hc3 6 _ rfl)
  have oc7 := (HS.out.mv.cell (p := ⟨b3, o3 + pc * 10 + 7, none⟩) hlt3).trans (hc3 7 _ rfl)
  have oc8 := (HS.out.mv.cell (p := ⟨b3, o3 + pc * 10 + 8, none⟩) hlt3).trans (hc3 8 _ rfl)
  have oc9 := (HS.out.mv.cell (p := ⟨b3, o3 + pc * 10 + 9, none⟩) hlt3).trans (hc3 9 _ rfl)
  rw [Nat.add_zero] at oc0
  have p8 := HS.out.c 5 8
  have hco : ord l ⟨u, i, r, bs, pc⟩ = bcode[pc] := by
   have := HF.out.code
   rw [this]
   simp only [show bod l u i = _ from HBD.out]
  have HORD := Lh hco
  have HOO : Hid (OrdOk (bod l u i).ty (bod l u i).regs (bod l u i).code.length (ord l ⟨u, i, r, bs, pc⟩)) := HF.out.oo HL.out
  have hs100 := s_le HOO.out (resW_le (HF.out.bo HL.out).my (HF.out.bo HL.out).ty).2
  have hd100 := d_le HOO.out
  rw [HORD.out] at HOO hs100 hd100
  have j4 : (pc : Int) < (bcode.length : Int) := by omega
  have j5 : (0 : Int) ≤ (pc : Int) := by omega
  have j6 : (pc : Int) < 10000 := by omega
  have hpw : IntKind.i64.wrap ((pc : Int) + 1) = (pc : Int) + 1 := by rw [IntKind.wrap_i64]; omega
  clear hc3 hlt3 hr3 hD hS3 hT3 hco
  generalize bcode[pc] = o at *
  go_upto_region 16 with (fail)
  clear oc0 oc1 oc2 oc3 oc4 oc5 oc6 oc7 oc8 oc9 p8 j4 j5 j6
  replace HS := Lh (HS.out.box 63 #[.int .i64 o.op, .slice Ad o.d.length cd, .slice As o.s.length cs, .int .i64 o.n, .string o.nm, .int .i64 o.ty.k, .string o.ty.nm, .slice Tn o.ty.ns.length tcn, .slice Tp o.ty.ps.length tcp, .bool o.ty.many])
  generalize w2.alloc _ = w3 at *
  generalize w2.heap.size = ob at *
  have q2 := HS.out.c 0 2
  have HIX : Hid (∀ y ∈ o.s, ∃ k : Nat, y = (k : Int) ∧ k < r.length ∧ k < 8000) := fun y hy => by
   have := HOO.out.s y hy
   have h8 := HR8.out
   rw [show bod l u i = _ from HBD.out] at this
   dsimp only at this
   exact ⟨y.toNat, by omega, by omega, by omega⟩
  have HID : Hid (∀ y ∈ o.d, ∃ k : Nat, y = (k : Int) ∧ k < R ∧ k < 8000) := fun y hy => by
   have := HOO.out.d y hy
   have h8 := HR8.out
   rw [show bod l u i = _ from HBD.out] at this
   dsimp only at this
   exact ⟨y.toNat, by omega, by omega, by omega⟩
  have HGL2 := Lh hgl
  clear hgl hpc hbl6
  replace HS := Lh HS.out.f3.f5
  have HSG : Hid (Hp w w3 (bx rb 42 #[.slice (some ⟨rg, 0, none⟩) r.length R] :: ow w.heap.size 21 1 (.slice (some ⟨rg, 0, none⟩) r.length R) r.length (r.map i32) :: bx ob 63 #[.int .i64 o.op, .slice Ad o.d.length cd, .slice As o.s.length cs, .int .i64 o.n, .string o.nm, .int .i64 o.ty.k, .string o.ty.nm, .slice Tn o.ty.ns.length tcn, .slice Tp o.ty.ps.length tcp, .bool o.ty.many] :: bx x.X 55 #[.int .i64 0, .int .i32 0, .slice O m.out.length od, .int .i64 (t1 : Int), .slice x.A1 nb x.d1, .slice x.A2 nb x.d2, .slice x.A3 (allG l l.length).length x.d3, .slice x.A4 l.length x.d4, .int .i64 (x.F : Int), .int .i64 ((K.length : Int) + 1), .int .i64 x.start] :: ow w.heap.size 21 1 (.slice O m.out.length od) m.out.length (m.out.map i32) :: bx xb 50 #[.pointer (some ⟨x.X, 0, none⟩)] :: bx bb 37 #[.string bnm, .bool bst, .int .i64 bty.k, .string bty.nm, .slice An bty.ns.length cn, .slice Ap bty.ps.length cp, .bool bty.many, .int .i64 (R : Int), .slice (some ⟨b3, o3, none⟩) bcode.length c'] :: (prC l w.heap.size x m.vs base))) := by rw [HGL2.out]; exact HS
  clear HS
  have HGT := Lh (get_any o.s r (cs := cs) HRS.out HIX.out hs100 HSG.out)
  clear HSG
  rw [HGL2.out] at HGT
  go_wp2_with fail
  refine (HGT.out).mono ?_
  clear HGT; rintro e w4 ⟨Sx, scx, rfl, HS⟩
  clear q2 hpw
  have q0 := HS.out.c 3 0
  go_upto_block 2 with (fail)
  clear q0
  rename_i K1 hK1
  obtain ⟨sl, hsl⟩ : ∃ y, src ⟨u, i, r, bs, pc⟩ o = y := ⟨_, rfl⟩
  have HSQ := Lh hsl
  have HSL : Hid (sl.length = o.s.length) := by show _ = _; rw [← hsl, src_len]
  rw [show gotL r o.s = sl from hsl] at HS
  clear hsl
  replace HS := Lh HS.out.f3.f7.f3.f4.f6.f7.f7.f7
  have HRDD := Lh HRD2.out
  have HFIN : Hid (∀ a p d (W : World), FrB z0 z1 z2 z4 z5 z9 z23 z24 z25 z26 z27 z28 z29 z30 z31 z32 z33 z34 z35 z36 z37 z38 z39 z40 z41 z42 z43 z44 z45 z46 z47 z48 z49 z50 z51 z52 z53 z54 z55 z56 z57 z58 z59 z60 z61 z62 z63 z64 z65 z66 z67 z68 z69 z70 z71 y6 xb bb rb ob Ba bs.length bc mp.1 a p d → Nx l w x base n u i bs K E nb R xb rb rg bB (bx ob 63 #[.int .i64 o.op, .slice Ad o.d.length cd, .slice As o.s.length cs, .int .i64 o.n, .string o.nm, .int .i64 o.ty.k, .string o.ty.nm, .slice Tn o.ty.ns.length tcn, .slice Tp o.ty.ps.length tcp, .bool o.ty.many]) o r n0 p d W → K1 a W) := Lh (fun _ _ _ W hB h => hK1 _ _ (calls_fin (n0 := n0) HRD HID HRDD HGL2 hd100 hB h))
  have HBB2 : Hid (bx bb 37 #[.string bnm, .bool bst, .int .i64 bty.k, .string bty.nm, .slice An bty.ns.length cn, .slice Ap bty.ps.length cp, .bool bty.many, .int .i64 (R : Int), .slice (some ⟨b3, o3, none⟩) bcode.length c'] = bB) := HBB.out.symm
  rw [HBB2.out] at HS
  have hop := op14_cases HOO.out.op
  rcases hop with hop | hop | hop | hop | hop | hop | hop | hop | hop | hop | hop | hop | hop | hop
  ·exact ord_a HFIN HIH HL HH HH2 HPO HML HMPX HMP HF HM HER HT1 HOO HORD HT3 HBA HNB HK3 HSQ HSL HGL2 hs100 HA (Lh (.inl hop)) HS ⟨_, _, _, _, _, _, _, _, rfl, rfl, rfl⟩
  ·exact ord_a HFIN HIH HL HH HH2 HPO HML HMPX HMP HF HM HER HT1 HOO HORD HT3 HBA HNB HK3 HSQ HSL HGL2 hs100 HA (Lh (.inr (.inl hop))) HS ⟨_, _, _, _, _, _, _, _, rfl, rfl, rfl⟩
  ·exact ord_b HFIN HIH HL HH HH2 HPO HML HMPX HMP HF HM HER HT1 HOO HORD HT3 HBA HNB HK3 HSQ HSL HGL2 hs100 HA (Lh hop) HS ⟨_, _, _, _, _, _, _, _, rfl, rfl, rfl⟩
  ·exact ord_c HFIN HIH HL HH HH2 HPO HML HMPX HMP HF HM HER HT1 HOO HORD HT3 HBA HNB HK3 HSQ HSL HGL2 hs100 HA (Lh (.inl hop)) HS ⟨_, _, _, _, _, _, _, _, rfl, rfl, rfl⟩
  ·exact ord_c HFIN HIH HL HH HH2 HPO HML HMPX HMP HF HM HER HT1 HOO HORD HT3 HBA HNB HK3 HSQ HSL HGL2 hs100 HA (Lh (.inr (.inl hop))) HS ⟨_, _, _, _, _, _, _, _, rfl, rfl, rfl⟩
  ·exact ord_c HFIN HIH HL HH HH2 HPO HML HMPX HMP HF HM HER HT1 HOO HORD HT3 HBA HNB HK3 HSQ HSL HGL2 hs100 HA (Lh (.inr (.inr hop))) HS ⟨_, _, _, _, _, _, _, _, rfl, rfl, rfl⟩
  ·exact ord_e HFIN HIH HL HH HH2 HPO HML HMPX HMP HF HM HER HT1 HOO HORD HT3 HBA HNB HK3 HSQ HSL HGL2 hs100 HA (Lh hop) HS ⟨_, _, _, _, _, _, _, _, rfl, rfl, rfl⟩
  ·exact ord_f HFIN HIH HL HH HH2 HPO HML HMPX HMP HF HM HER HT1 HOO HORD HT3 HBA HNB HK3 HSQ HSL HGL2 hs100 HA (Lh hop) HS ⟨_, _, _, _, _, _, _, _, rfl, rfl, rfl⟩
  ·exact ord_a HFIN HIH HL HH HH2 HPO HML HMPX HMP HF HM HER HT1 HOO HORD HT3 HBA HNB HK3 HSQ HSL HGL2 hs100 HA (Lh (.inr (.inr (.inl hop)))) HS ⟨_, _, _, _, _, _, _, _, rfl, rfl, rfl⟩
  ·exact ord_a HFIN HIH HL HH HH2 HPO HML HMPX HMP HF HM HER HT1 HOO HORD HT3 HBA HNB HK3 HSQ HSL HGL2 hs100 HA (Lh (.inr (.inr (.inr (.inl hop))))) HS ⟨_, _, _, _, _, _, _, _, rfl, rfl, rfl⟩
  ·exact ord_d HFIN HIH HL HH HH2 HPO HML HMPX HMP HF HM HER HT1 HOO HORD HT3 HBA HNB HK3 HSQ HSL HGL2 hs100 HA (Lh (.inl hop)) HS ⟨_, _, _, _, _, _, _, _, rfl, rfl, rfl⟩
  ·exact ord_d HFIN HIH HL HH HH2 HPO HML HMPX HMP HF HM HER HT1 HOO HORD HT3 HBA HNB HK3 HSQ HSL HGL2 hs100 HA (Lh (.inr hop)) HS ⟨_, _, _, _, _, _, _, _, rfl, rfl, rfl⟩
  ·exact ord_a HFIN HIH HL HH HH2 HPO HML HMPX HMP HF HM HER HT1 HOO HORD HT3 HBA HNB HK3 HSQ HSL HGL2 hs100 HA (Lh (.inr (.inr (.inr (.inr hop))))) HS ⟨_, _, _, _, _, _, _, _, rfl, rfl, rfl⟩
  ·exact ord_g HFIN HIH HL HH HH2 HPO HML HMPX HMP HF HM HER HT1 HOO HORD HT3 HBA HNB HK3 HSQ HSL HGL2 hs100 HA (Lh hop) HS ⟨_, _, _, _, _, _, _, _, rfl, rfl, rfl⟩
theorem calls_all {l : List Un} (L : Lnk l) (hh : ∀ u (h : u < l.length), l[u].bs.length ≤ 40) (hh2 : ∀ u (h : u < l.length), l[u].gs.length ≤ 40) {w : World} {x : Px} (PO : PxOk l w x) (hml : ML w) (hF : x.F ≤ 300000) : ∀ n, CallsOk l w x n := by
 intro n
 induction n using Nat.strongRecOn with
 | _ n IH =>
 intro W u i a Sa sc K m t E base O od hn hA hRow hsc hnone hm ho hK hE h
 by_cases hK3 : 3000 ≤ K.length
 ·exact calls_deep _ _ hK3 hK hE h
 have HIH := Lh IH
 have HL := Lh L
 have HH := Lh hh
 have HH2 := Lh hh2
 have HPO := Lh PO
 have HML := Lh hml
 have HRW := Lh hRow
 have HAR := Lh hA
 have HM := Lh hm
 have HNT : Hid (n + t = x.F ∧ x.F ≤ 300000 ∧ m.out.length ≤ t) := ⟨hn, hF, ho⟩
 have HER : Hid (run l n (beg l u i a) K m t = E) := by have := hE; unfold rcl at this; rwa [if_neg hK3] at this
 have hu := hA.hu
 have hi' : i < l[u].bs.length := by have := hA.hi; rwa [unAt_at hu] at this
 obtain ⟨hkn, -⟩ := allB_at hu hi' (k := l.length) hu
 have hkb : nmb l (u, i) < (allB l l.length).length := hkn
 have hnb : (allB l l.length).length ≤ 1000 := by have := allB_len (l := l) (fun u hu => by obtain ⟨j, hj, rfl⟩ := List.getElem_of_mem hu; exact hh j hj) l.length; rw [List.take_length] at this; have := L.n4; omega
 have hln := hA.ln
 have B0 := body_ok (bod_ok L hA.hu hA.hi)
 obtain ⟨csb, hrb, -, hbc⟩ := px_body PO hA.hu hA.hi
 obtain ⟨An, cn, Ap, cp, A', c', rfl, hTy, -, hOL, -⟩ := hrb.nine
 obtain ⟨mp, hmp, hmc⟩ := px_map PO hA.hu
 have HMP0 := Lh hmp
 have HS : Hid (Hp w W (bx x.X 55 #[.int .i64 0, .int .i32 0, .slice O m.out.length od, .int .i64 (t : Int), .slice x.A1 (allB l l.length).length x.d1, .slice x.A2 (allB l l.length).length x.d2, .slice x.A3 (allG l l.length).length x.d3, .slice x.A4 l.length x.d4, .int .i64 (x.F : Int), .int .i64 (K.length : Int), .int .i64 x.start] :: ow w.heap.size 21 1 (.slice O m.out.length od) m.out.length (m.out.map i32) :: (prC l w.heap.size x m.vs base))) := h
 obtain ⟨a1, ha1⟩ := own_some (HS.out.own 2 rfl) (by omega)
 obtain ⟨a2, ha2⟩ := own_some (HS.out.own 3 rfl) (by omega)
 obtain ⟨a4, ha4⟩ := own_some (HS.out.own 5 rfl) (by omega)
 have HBC : Hid (∀ Y vs', Hp w Y (prC l w.heap.size x vs' base) → Y.cell? ⟨a1, nmb l (u, i) * 9, none⟩ = some (.string (bod l u i).nm) ∧ Y.cell? ⟨a1, nmb l (u, i) * 9 + 1, none⟩ = some (.bool (bod l u i).static) ∧ Y.cell? ⟨a1, nmb l (u, i) * 9 + 2, none⟩ = some (.int .i64 (bod l u i).ty.k) ∧ Y.cell? ⟨a1, nmb l (u, i) * 9 + 3, none⟩ = some (.string (bod l u i).ty.nm) ∧ Y.cell? ⟨a1, nmb l (u, i) * 9 + 4, none⟩ = some (.slice An (bod l u i).ty.ns.length cn) ∧ Y.cell? ⟨a1, nmb l (u, i) * 9 + 5, none⟩ = some (.slice Ap (bod l u i).ty.ps.length cp) ∧ Y.cell? ⟨a1, nmb l (u, i) * 9 + 6, none⟩ = some (.bool (bod l u i).ty.many) ∧ Y.cell? ⟨a1, nmb l (u, i) * 9 + 7, none⟩ = some (.int .i64 (bod l u i).regs) ∧ Y.cell? ⟨a1, nmb l (u, i) * 9 + 8, none⟩ = some (.slice A' (bod l u i).code.length c')) := fun Y vs' hY => ⟨hbc Y _ a1 ha1 (hY.own 0 rfl) 0 _ rfl, hbc Y _ a1 ha1 (hY.own 0 rfl) 1 _ rfl, hbc Y _ a1 ha1 (hY.own 0 rfl) 2 _ rfl, hbc Y _ a1 ha1 (hY.own 0 rfl) 3 _ rfl, hbc Y _ a1 ha1 (hY.own 0 rfl) 4 _ rfl, hbc Y _ a1 ha1 (hY.own 0 rfl) 5 _ rfl, hbc Y _ a1 ha1 (hY.own 0 rfl) 6 _ rfl, hbc Y _ a1 ha1 (hY.own 0 rfl) 7 _ rfl, hbc Y _ a1 ha1 (hY.own 0 rfl) 8 _ rfl⟩
 have HUN : Hid (∀ Y vs', Hp w Y (prC l w.heap.size x vs' base) → Y.cell? ⟨a2, nmb l (u, i), none⟩ = some (.int .i64 (u : Int))) := fun Y vs' hY => px_unit hA.hu hA.hi ha2 (hY.own 1 rfl)
 have HMP : Hid (∀ Y vs', Hp w Y (prC l w.heap.size x vs' base) → Y.cell? ⟨a4, u, none⟩ = some (.map (some mp.1)) ∧ MapIs Tryz.prog 9 Y mp.1 (gM Tv.val mp.2)) := fun Y vs' hY => ⟨hmc Y _ a4 ha4 (hY.own 3 rfl), hY.ok (mpB mp) (by unfold prC; have := List.mem_of_getElem? HMP0.out; simp only [List.mem_cons, List.mem_append, List.mem_map]; exact .inr (.inr (.inr (.inr (.inl ⟨mp, this, rfl⟩)))))⟩
 clear IH L hh hh2 PO hml hRow hA hm hn ho hE hF hbc hmp hmc hrb hkn h hi'
 have HTY := Lh hTy
 have HOL := Lh hOL
 clear hTy hOL
 generalize hbb : bod l u i = bd at *
 have HBD := Lh hbb
 clear hbb
 obtain ⟨bnm, bst, bty, bregs, bcode⟩ := bd
 have hty4 := B0.ty
 have hmy := B0.my
 have hrl := B0.rl
 have hrh := B0.rh
 clear B0
 dsimp only at HBC HTY HOL hty4 hmy hrl hrh hln
 obtain ⟨R, rfl⟩ : ∃ R : Nat, bregs = (R : Int) := ⟨bregs.toNat, by omega⟩
 have hp84 := parW_le hmy
 have HPW := Lh (fun (W2 : World) (hb : Below w.heap.size w W2) => params3_any bty _ W2 (Rep.keep hb _ _ HTY.out) (HML.out.keep hb) hmy hty4)
 clear hty4 hmy
 generalize hpn : parW bty = p at *
 have HPN := Lh hpn
 clear hpn
 generalize nmb l (u, i) = k at *
 have k1 : (k : Int) < ((allB l l.length).length : Int) := by omega
 have k2 : (0 : Int) ≤ (k : Int) := by omega
 have k3 : (k : Int) < 2000 := by omega
 have HNB : Hid (nbl l = (allB l l.length).length) := rfl
 generalize (allB l l.length).length = nb at *
 have hmf : ∀ (fn : Fn) (first cap : Array Value) (w : World), (Instr.makeFunc fn first cap).run Tryz.prog w = .ok (.func fn first cap) w := fun _ _ _ _ => rfl
 go_enter_defers Tryz.func61, Tryz.ntmps61
 go_upto_region 1 with (fail)
 replace HS := Lh (HS.out.box 50 #[.pointer (some ⟨x.X, 0, none⟩)]).f1
 generalize W.alloc _ = w1 at *
 generalize W.heap.size = xb at *
 have x0 := HS.out.c 1 0
 have f9 := HS.out.one.free 9
 have g9 := HS.out.c 0 9
 have hw : IntKind.i64.wrap ((K.length : Int) + 1) = (K.length : Int) + 1 := by rw [IntKind.wrap_i64]; omega
 have hle : ¬ (3000 : Int) < (K.length : Int) + 1 := by omega
 go_upto_region 2 with (fail)
 replace HS := Lh (HS.out.put1 9 (.int .i64 ((K.length : Int) + 1)))
 simp only [sq] at HS
 generalize w1.setCell _ _ = w2 at *
 clear g9 f9 x0 hw hle
 have x0 := HS.out.c 1 0
 have g9 := HS.out.c 0 9
 have hle : ¬ (3000 : Int) < (K.length : Int) + 1 := by omega
 go_upto_region 5 with (fail)
 clear g9 hle
 obtain ⟨c0, c1, c2, c3, c4, c5, c6, c7, c8⟩ := HBC.out _ _ HS.out.drop.drop.drop
 have g4 := HS.out.c 0 4
 simp only [ha1] at g4
 go_upto_region 6 with (fail)
 clear c0 c1 c2 c3 c4 c5 c6 c7 c8 g4 x0
 replace HS := Lh (HS.out.box 37 #[.string bnm, .bool bst, .int .i64 bty.k, .string bty.nm, .slice An bty.ns.length cn, .slice Ap bty.ps.length cp, .bool bty.many, .int .i64 (R : Int), .slice A' bcode.length c'])
 generalize w2.alloc _ = w3 at *
 generalize w2.heap.size = bb at *
 have p7 := HS.out.c 0 7
 have hmk := make_i32 R (by omega) w3
 go_upto_region 7 with (fail)
 clear hmk p7
 have hz : (w3.alloc (.cells (Array.replicate R (Value.int .i32 0)) 21)).heap.size = w3.heap.size + 1 := by simp
 replace HS := Lh ((HS.out.mkrow R (by omega)).box 42 #[.slice (some ⟨w3.heap.size, 0, none⟩) R R])
 rw [hz] at HS
 clear hz
 generalize (w3.alloc _).alloc _ = w4 at *
 generalize w3.heap.size + 1 = rb at *
 generalize w3.heap.size = rg at *
 have p2 := HS.out.c 2 2
 have p3 := HS.out.c 2 3
 have p4 := HS.out.c 2 4
 have p5 := HS.out.c 2 5
 have p6 := HS.out.c 2 6
 have HPX := Lh (HPW.out w4 HS.out.mv)
 clear HPW
 go_wp2_with fail
 refine (HPX.out).mono ?_
 rintro e w5 ⟨rfl, hb⟩
 replace HS := Lh (HS.out.below hb)
 clear hb
 clear HPX p2 p3 p4 p5 p6
 go_upto_region 8 with (fail)
 have z1 : (p : Int) ≤ (sc : Int) := by omega
 have z2 : p ≤ sc := by omega
 have z3 : (0 : Int) ≤ (p : Int) := by omega
 replace HS := Lh HS.out.drew
 refine dQ (fun W => At W rb 0 (.slice (some ⟨rg, 0, none⟩) R R)) (HS.out.c 0 0) fun _ => ?_
 generalize w5.drew = w6 at *
 refine tQ4d 0 1 2 3 ?_; try simp only [sq]
 refine rQ 4 (fun K hK => ?_)
 replace HS := Lh HS.out.f1
 refine oper_copy (show Hp w _ (ow _ _ _ _ _ _ :: _) from by have h := HS.out; unfold rI at h; rw [List.length_replicate] at h; exact h) _ _ (by rfl) (by rfl) Sa p sc (by rfl) (by omega) ((a.take p).map i32) (by rw [List.length_map, List.length_take]; omega) (fun v hv => by obtain ⟨z, -, rfl⟩ := List.mem_map.1 hv; rfl) (fun j v hj => ?_) ?_
 ·have hjl : j < (a.take p).length := by have := (List.getElem?_eq_some_iff.1 hj).1; rwa [List.length_map] at this
  have hja : j < a.length := by rw [List.length_take] at hjl; omega
  obtain ⟨b5, o5, e5, hc5⟩ := HRW.out j hja
  rw [List.getElem?_map, List.getElem?_eq_getElem hjl] at hj
  injection hj with hj
  subst hj
  refine ⟨⟨b5, o5, none⟩, e5, ?_⟩
  rw [add_plain_, List.getElem_take]
  exact hc5 _ (HS.out.drop.drop.drop.drop.drop.drop.sub (prC_base _))
 clear HS; intro w7 HS
 refine hK.out _ _ (HS.out.c 1 0) (fun _ => ?_)
 clear hK K
 try simp only [sq]
 refine fQ ?_ _
 have HBR : Hid ((a.take p).map i32 ++ ((List.replicate R (0 : Int)).map i32).drop p = (a.take p ++ List.replicate (R - p) 0).map i32) := by show _ = _; rw [← List.map_drop, List.drop_replicate, List.map_append]
 rw [HBR.out] at HS
 clear z1 z2 z3
 have z4 : (p : Int) ≤ (a.length : Int) := by omega
 have z5 : p ≤ a.length := by omega
 have z6 : (a.length : Int) ≤ (sc : Int) := by omega
 have z7 : (0 : Int) ≤ (p : Int) := by omega
 go_upto_region 10 with (fail)
 clear z4 z5 z6 z7
 obtain ⟨Ba, hBa⟩ : ∃ y, (if sc = p then Sa else Option.map (fun y => y.add p) Sa) = y := ⟨_, rfl⟩
 have HBA : Hid (RowAt w base Ba (a.drop p)) := fun j hj => by
  rw [List.length_drop] at hj
  obtain ⟨b5, o5, e5, hc5⟩ := HRW.out (p + j) (by omega)
  refine ⟨b5, o5 + p, by rw [← hBa, if_neg (by omega), e5]; simp [add_plain_], fun Y hY => ?_⟩
  rw [Nat.add_assoc, List.getElem_drop]
  exact hc5 Y hY
 rw [hBa]
 clear hBa hsc hnone HRW
 have z1 : (u : Int) < (l.length : Int) := by omega
 have z2 : (0 : Int) ≤ (u : Int) := by omega
 have z3 : (u : Int) < 9 := by have := HL.out.n4; omega
 replace HS := Lh HS.out.drew
 refine dQ (fun W => At W xb 0 (.pointer (some ⟨x.X, 0, none⟩)) ∧ At W (x.X) 7 (.slice (some ⟨a4, 0, none⟩) l.length x.d4) ∧ At W (x.X) 5 (.slice (some ⟨a2, 0, none⟩) nb x.d2) ∧ At W a2 k (.int .i64 (u : Int)) ∧ At W a4 u (.map (some mp.1))) (⟨HS.out.c 4 0, (by have h7 := HS.out.c 3 7; simp only [ha4] at h7; exact h7), (by have h5 := HS.out.c 3 5; simp only [ha2] at h5; exact h5), HUN.out _ _ (HS.out.drop.drop.drop.drop.drop.drop), (HMP.out _ _ (HS.out.drop.drop.drop.drop.drop.drop)).1⟩) fun _ => ?_
 generalize w7.drew = w8 at *
 refine tQ4d 0 1 2 3 ?_; try simp only [sq]
 refine tQ4d 4 5 6 7 ?_; try simp only [sq]
 refine tQ4d 8 9 10 11 ?_; try simp only [sq]
 refine tQ2d 12 13 ?_; try simp only [sq]
 refine fQ ?_ _
 clear z1 z2 z3 k1 k2 k3
 have HBG : Hid (beg l u i a = ⟨u, i, a.take p ++ List.replicate (R - p) 0, a.drop p, 0⟩) := by
  show _ = _
  unfold beg
  rw [HBD.out]
  dsimp only
  rw [HPN.out, Int.toNat_natCast]
 have HF0 := HAR.out.beg HL.out
 rw [HBG.out] at HF0 HER
 have HF1 := Lh HF0
 clear HF0
 obtain ⟨bs, hbs⟩ : ∃ y, a.drop p = y := ⟨_, rfl⟩
 rw [hbs] at HF1 HER HBA
 have HBL : Hid (bs.length = a.length - p) := by show _ = _; rw [← hbs, List.length_drop]
 rw [← HBL.out]
 clear hbs
 replace HS := Lh HS.out.f2.f2.f2.f5.f5.f5
 obtain ⟨nt1, nt2, nt3⟩ := HNT.out
 have HK3 : Hid (¬ 3000 ≤ K.length ∧ K.length ≤ 3000) := ⟨hK3, hK⟩
 have HMPX := HMP0
 have HR8 : Hid (R ≤ 8000) := by show _ ≤ _; omega
 have HA : Hid (x.A1 = some ⟨a1, 0, none⟩ ∧ x.A4 = some ⟨a4, 0, none⟩) := ⟨ha1, ha4⟩
 have HF3 : Hid (x.F ≤ 300000) := nt2
 go_wp2_with fail
 replace HS := Lh HS.out.f5.f5.f3.f5.f5.f5
 obtain ⟨bB, hbb⟩ : ∃ y, y = bx bb 37 #[.string bnm, .bool bst, .int .i64 bty.k, .string bty.nm, .slice An bty.ns.length cn, .slice Ap bty.ps.length cp, .bool bty.many, .int .i64 (R : Int), .slice A' bcode.length c'] := ⟨_, rfl⟩
 have HBB := Lh hbb
 rw [← hbb] at HS
 clear hbb
 go_loopg [12] (n + 1) (fun gk pv wr => Iv l w x base n u i bs K E nb R xb rb rg bB gk pv wr)
 case atStart => exact ⟨n, t, _, 0, m, O, od, rfl, rfl, Lh ⟨nt1, Nat.le_refl _, nt3⟩, HF1, HM, HER, HS⟩
 case round =>
  rename_i J KC hJ hKC
  refine calls_round ⟨_, _, _, _, _, _, _, _, _, _, _, _, rfl, rfl⟩ HBB (Lh fun a p gk1 W1 hA hlt hI => ?_) HIH HL HH HH2 HPO HML HMPX HMP HOL HBD HBA HNB HK3 HR8 HF3 HA hrel
  obtain ⟨y6, y13, y14, y15, y16, y17, y18, y19, y20, y21, y22, y, hy, rfl⟩ := hA
  obtain ⟨f, rfl⟩ := late232 hy
  exact hKC _ _ (Handed.intro gk1 hlt (hJ _ _ _ (by (repeat apply Exists.intro); exact ⟨hI, rfl⟩)))
end Go.Proofs.YthihaeobkoiljaaGreat
