/- Lemmas for the law. -/
import Derived.Test.YthihaeobkoiljaaGreatQ17
set_option linter.unusedVariables false
set_option linter.unusedSimpArgs false
set_option maxRecDepth 100000
set_option maxHeartbeats 40000000
namespace Go.Proofs.YthihaeobkoiljaaGreat
open Go.RowKit
theorem stp_G : OrdS (fun k => k = 3 ∨ k = 6 ∨ k = 14) := by
 unfold OrdS
 intro l w W bb oo c rv cb dc gu gi q gr gb RA BA rc bc KT V vd VS base n t E o Ad As An Ap cd cs cn cp ob m O od nc sl Sa sc K1 a HFIN HF HR HH HH2 HL HKO HM HE HIX HOO HNC HORD HTY HBT HSQ HSL hV hu hs100 HOP0 HS hS
 obtain ⟨x1, x5, y, hy, hy2, rfl⟩ := hS
 obtain ⟨f, rfl⟩ := late345 hy
 replace hy2 : f 76 = .int .i64 o.op := by injection hy2
 rw [hy2]
 clear hy hy2
 obtain ⟨w0, rfl⟩ : ∃ y, y = W := ⟨_, rfl⟩
 unfold rSw
 conv => arg 2; whnf
 have hl4 := HL.out.n4
 have k1 : (KT.length : Int) < 3000 := by have := HBT.out; omega
 have k0 : (0 : Int) ≤ (KT.length : Int) := by omega
 have k2 : (KT.length : Int) < (KT.length : Int) + 1 := by omega
 have hop := HOP0.out
 rcases hop with hop | hop | hop
 ·rw [hop]
  have HOP := Lh hop
  clear hop
  have HOQ : Hid ((ord l ⟨gu, gi, gr, gb, q⟩).op = 3) := by show _ = _; rw [HORD.out]; exact HOP.out
  have HNP : Hid (q + 1 < (bod l gu gi).code.length) := HF.out.nxt HL.out (by rw [HOQ.out]; decide) (by rw [HOQ.out]; decide)
  obtain ⟨hd1, hs2, hn1, hn2⟩ := HOO.out.o3 HOP.out
  have HDD := Lh hd1
  clear hd1 hn1 hn2
  obtain ⟨s0, s1, rfl⟩ : ∃ a b, sl = [a, b] := len_two (HSL.out.trans hs2)
  have hw0 : W32 s0 := src_w (f := ⟨gu, gi, gr, gb, q⟩) (o := o) HF.out.rv s0 (by rw [HSQ.out]; simp)
  have hw1 : W32 s1 := src_w (f := ⟨gu, gi, gr, gb, q⟩) (o := o) HF.out.rv s1 (by rw [HSQ.out]; simp)
  obtain ⟨sg, rfl⟩ := own_some (HS.out.own 0 rfl) (by omega)
  have gsn : 0 < o.s.length := by omega
  have gsm : (1 : Int) < (o.s.length : Int) := by omega
  clear hs2
  obtain ⟨ok, hok⟩ : ∃ b, opOk o.n s1 = b := ⟨_, rfl⟩
  have HOK := Lh hok
  have HOC := Lh (fun W => rop_any o.n s0 s1 hw0.1 hw0.2 hw1.1 hw1.2 W)
  have HVW : Hid (W32 (opV o.n s0 s1)) := opV_lo o.n s0 s1 hw0.1 hw0.2 hw1.1 hw1.2
  rw [hok] at HOC
  clear hok hw0 hw1
  go_upto_region 15 with (fail)
  skip
  replace HS := Lh HS.out.drew
  refine dQ (fun W => At W ob 3 (.int .i64 o.n) ∧ At W sg 0 (.int .i32 s0) ∧ At W sg 1 (.int .i32 s1)) (⟨HS.out.c 7 3, own_at5 (HS.out.own 0 rfl) 0 _ rfl, own_at5 (HS.out.own 0 rfl) 1 _ rfl⟩) fun _ => ?_
  generalize w0.drew = w1 at *
  refine tQ4 0 1 2 3 ?_; try simp only [sq]
  refine tQ4 4 5 6 7 ?_; try simp only [sq]
  refine rQ 8 (fun K hK => ?_)
  go_simp
  refine (HOC.out w1).mono ?_
  rintro e _ ⟨rfl, rfl⟩
  refine hK.out _ _ (⟨HS.out.c 7 3, own_at5 (HS.out.own 0 rfl) 0 _ rfl, own_at5 (HS.out.own 0 rfl) 1 _ rfl⟩) (fun _ => ?_)
  clear hK K
  try simp only [sq]
  refine tQ4 9 10 11 12 ?_; try simp only [sq]
  refine tQ 13 ?_; try simp only [sq]
  refine fQ ?_ _
  clear HOC
  generalize hov : opV o.n s0 s1 = ov at *
  have HOV := Lh hov
  clear hov
  cases ok
  ·have HEE : Hid (E = ⟨2, 0, m.out, t + 1⟩) := by
    have ha := act_3' (m := m) HOQ.out (by rw [HORD.out, HSQ.out]; exact HOK.out)
    exact HE.out.symm.trans (run_stop ha)
   go_wp2_with fail
   replace HS := Lh HS.out.f1
   refine (end_any 2 HS.out).mono ?_
   clear HS; rintro e w2 ⟨rfl, hS⟩
   have HS := Lh hS
   clear hS
   replace HS := Lh HS.out.f1.drop.f6.drop.f5.f5.f5.f5.f5.f5
   go_wp2_with fail
   refine bodyPost_ret (v := .tuple #[]) (results_none_ rfl _ _ _) rfl ?_
   rw [HEE.out]
   refine ⟨rfl, .inl ⟨some ⟨cb, 0, none⟩, dc, ⟨⟨gu, gi, gr, gb, q + 1⟩, .slice RA gr.length rc, .slice BA gb.length bc⟩ :: KT, O, od, m.vs, ?_⟩⟩
   show Hp _ _ _
   unfold rfP
   simp only [List.flatMap_cons, frP, rI, List.cons_append, List.nil_append]
   exact HS.out
  have HGO : Hid (∀ (gR : Value) (O : Option Addr) (od : Nat) (W' : World), Hp w W' (rfP w.heap.size rv (.slice (some ⟨bb, oo, none⟩) l.length c) (some ⟨cb, 0, none⟩) dc (⟨⟨gu, gi, (setR gr o.d [ov]), gb, (q + 1)⟩, gR, .slice BA gb.length bc⟩ :: KT) O od (m.out) V vd VS (m.vs) 0 0 (t + 1) false base) → Going l w rv (.slice (some ⟨bb, oo, none⟩) l.length c) V vd VS base n (t + 1) E W') := fun gR O od => by
   have ha := act_3 (m := m) HOQ.out (by rw [HORD.out, HSQ.out]; exact HOK.out)
   rw [HORD.out] at ha
   rw [HSQ.out] at ha
   rw [show opV o.n ([s0, s1].getD 0 0) ([s0, s1].getD 1 0) = ov from HOV.out] at ha
   exact go_on (m' := ⟨m.vs, m.out⟩) ha HE.out (HF.out.set (fun x hx => by rw [List.mem_singleton] at hx; rw [hx]; exact HVW.out) HNP.out) HKO.out (HM.out) (by have := HBT.out.1; show m.out.length ≤ t + 1; omega) HBT.out.2.2
  go_wp2_with fail
  clear gsn gsm
  replace HS := Lh HS.out.drop.f6.f6.f6.f6.f6.f6.f6
  refine HFIN.out _ _ _ ⟨_, _, _, _, _, rfl, rfl⟩ ?_
  exact ⟨ov, (setR gr o.d [ov]), (q + 1), m, O, od, rfl, by rw [if_pos HDD.out], HGO, HS⟩
 ·rw [hop]
  have HOP := Lh hop
  clear hop
  have HOQ : Hid ((ord l ⟨gu, gi, gr, gb, q⟩).op = 6) := by show _ = _; rw [HORD.out]; exact HOP.out
  have HNP : Hid (q + 1 < (bod l gu gi).code.length) := HF.out.nxt HL.out (by rw [HOQ.out]; decide) (by rw [HOQ.out]; decide)
  obtain ⟨hd1, hs0, hnm⟩ := HOO.out.o6 HOP.out
  have HDD := Lh hd1
  clear hd1 hs0
  obtain ⟨kn2, kn1, kn7, kns⟩ := spk_name (u := unAt l gu) (o := o) (by have := HF.out.spk HL.out; rw [HORD.out] at this; exact this) hnm
  rw [HOP.out] at kn1
  have HFV := fnd_fun HL.out hu kn2 kn1
  have HFD : Hid (∀ W2, Below w.heap.size w W2 → W2.cell? ⟨rv, 0, none⟩ = some (.slice (some ⟨bb, oo, none⟩) l.length c) → Calls Tryz.prog 64 #[.pointer (some ⟨rv, 0, none⟩), .int .i64 (gu : Int), .string o.nm] W2 (FindOut (fnd l gu o.nm) W2)) := fun W2 hb h0 => find_any l HL.out o.nm (some ⟨bb, oo, none⟩) c rv gu HR.out hb hu h0
  obtain ⟨⟨pv, pi⟩, hp⟩ : ∃ p, fnd l gu o.nm = p := ⟨_, rfl⟩
  rw [hp] at HFD HFV
  have HPQ := Lh hp
  dsimp only at HFV
  obtain ⟨hv1, hv2, hv3⟩ := HFV
  clear hp
  go_upto_region 26 with (fail)
  replace HS := Lh HS.out.drew
  refine dQ (fun W => At W cb (KT.length * 5) (.int .i64 (gu : Int)) ∧ At W ob 4 (.string o.nm)) (⟨(call_cells (HS.out.own 2 rfl)).1, HS.out.c 7 4⟩) fun _ => ?_
  generalize w0.drew = w1 at *
  refine tQ4 0 1 2 3 ?_; try simp only [sq]
  refine tQ3 4 5 6 ?_; try simp only [sq]
  refine rQ 7 (fun K hK => ?_)
  go_simp
  refine (HFD.out _ HS.out.mv (HS.out.c 1 0)).mono ?_
  rintro e w2 ⟨rfl, hb⟩
  replace HS := Lh (HS.out.below hb)
  clear hb
  dsimp only
  refine hK.out _ _ (⟨(call_cells (HS.out.own 2 rfl)).1, HS.out.c 7 4⟩) (fun _ => ?_)
  clear hK K
  try simp only [sq]
  refine tQ4 8 9 10 11 ?_; try simp only [sq]
  refine tQ 12 ?_; try simp only [sq]
  refine fQ ?_ _
  clear HFD
  clear hnm kn2 kn1 kn7 kns hv3
  have hb40 : ∀ k, (allB l k).length ≤ 1000 := fun k => by have := allB_len (l := l) (fun u hu => by obtain ⟨j, hj, rfl⟩ := List.getElem_of_mem hu; exact HH.out j hj) k; rw [List.length_take] at this; omega
  have hpi : pi < 41 := by rw [unAt_at hv1] at hv2; have := HH.out pv hv1; omega
  have HNU := Lh (numR_any l (some ⟨bb, oo, none⟩) c rv pv pi HR.out HS.out.mv hv1 (by omega) hb40 (by omega) (HS.out.c 1 0))
  have hnb : nmb l (pv, pi) ≤ 2000 := by unfold nmb; have := hb40 pv; dsimp only; omega
  have HGO : Hid (∀ (gR : Value) (O : Option Addr) (od : Nat) (W' : World), Hp w W' (rfP w.heap.size rv (.slice (some ⟨bb, oo, none⟩) l.length c) (some ⟨cb, 0, none⟩) dc (⟨⟨gu, gi, (setR gr o.d [(nmb l (pv, pi) : Int)]), gb, (q + 1)⟩, gR, .slice BA gb.length bc⟩ :: KT) O od (m.out) V vd VS (m.vs) 0 0 (t + 1) false base) → Going l w rv (.slice (some ⟨bb, oo, none⟩) l.length c) V vd VS base n (t + 1) E W') := fun gR O od => by
   have ha := act_6 (m := m) HOQ.out -- NOS
   rw [HORD.out] at ha
   rw [HPQ.out] at ha
   exact go_on (m' := ⟨m.vs, m.out⟩) ha HE.out (HF.out.set (fun x hx => by rw [List.mem_singleton] at hx; rw [hx]; exact ⟨by omega, by omega⟩) HNP.out) HKO.out (HM.out) (by have := HBT.out.1; show m.out.length ≤ t + 1; omega) HBT.out.2.2
  generalize nmb l (pv, pi) = nb2 at *
  have hwn : IntKind.i32.wrap (nb2 : Int) = (nb2 : Int) := by rw [IntKind.wrap_i32]; omega
  clear hb40 hv2
  go_wp2_with fail
  refine (HNU.out).mono ?_
  rintro e w3 ⟨rfl, rfl⟩
  clear HNU
  go_wp2_with fail
  clear hwn
  replace HS := Lh HS.out.drop.f6.f6.f6.f6.f6.f6.f6
  refine HFIN.out _ _ _ ⟨_, _, _, _, _, rfl, rfl⟩ ?_
  exact ⟨(nb2 : Int), (setR gr o.d [(nb2 : Int)]), (q + 1), m, O, od, rfl, by rw [if_pos HDD.out], HGO, HS⟩
 ·rw [hop]
  have HOP := Lh hop
  clear hop
  have HOQ : Hid ((ord l ⟨gu, gi, gr, gb, q⟩).op = 14) := by show _ = _; rw [HORD.out]; exact HOP.out
  have HNP : Hid (q + 1 < (bod l gu gi).code.length) := HF.out.nxt HL.out (by rw [HOQ.out]; decide) (by rw [HOQ.out]; decide)
  obtain ⟨hd1, hs1⟩ := HOO.out.o14 HOP.out
  have HDD := Lh hd1
  clear hd1
  obtain ⟨sv, rfl⟩ : ∃ v, sl = [v] := List.length_eq_one_iff.1 (HSL.out.trans hs1)
  have hsv : W32 sv := src_w (f := ⟨gu, gi, gr, gb, q⟩) (o := o) HF.out.rv sv (by rw [HSQ.out]; simp)
  obtain ⟨sg, rfl⟩ := own_some (HS.out.own 0 rfl) (by omega)
  have s0 : w0.cell? ⟨sg, 0, none⟩ = some (.int .i32 sv) := own_at5 (HS.out.own 0 rfl) 0 _ rfl
  have gs : (0 : Int) < (o.s.length : Int) := by omega
  have gsn : 0 < o.s.length := by omega
  have hsv1 := hsv.1
  have hsv2 := hsv.2
  clear hsv
  clear hs1
  have hb12 : gb.length ≤ 12 := HF.out.bl
  by_cases hn0 : sv < 0
  ·have HGO : Hid (∀ (gR : Value) (O : Option Addr) (od : Nat) (W' : World), Hp w W' (rfP w.heap.size rv (.slice (some ⟨bb, oo, none⟩) l.length c) (some ⟨cb, 0, none⟩) dc (⟨⟨gu, gi, (setR gr o.d [0]), gb, (q + 1)⟩, gR, .slice BA gb.length bc⟩ :: KT) O od (m.out) V vd VS (m.vs) 0 0 (t + 1) false base) → Going l w rv (.slice (some ⟨bb, oo, none⟩) l.length c) V vd VS base n (t + 1) E W') := fun gR O od => by
    have ha := act_14 (m := m) HOQ.out
    rw [HORD.out] at ha
    rw [HSQ.out] at ha
    have hval : (if 0 ≤ ([sv] : List Int).getD 0 0 ∧ ([sv] : List Int).getD 0 0 < (gb.length : Int) then gb.getD (([sv] : List Int).getD 0 0).toNat 0 else 0) = 0 := by show (if 0 ≤ sv ∧ sv < (gb.length : Int) then gb.getD (sv).toNat 0 else 0) = 0; rw [if_neg (by omega)]
    rw [hval] at ha
    exact go_on (m' := ⟨m.vs, m.out⟩) ha HE.out (HF.out.set (fun x hx => by rw [List.mem_singleton] at hx; rw [hx]; exact ⟨by decide, by decide⟩) HNP.out) HKO.out (HM.out) (by have := HBT.out.1; show m.out.length ≤ t + 1; omega) HBT.out.2.2
   have hge : decide ((0 : Int) ≤ sv) = false := by simp; omega
   clear hn0
   go_upto_region 55 with (fail)
   replace HS := Lh HS.out.drew
   refine dQ (fun W => At W sg 0 (.int .i32 sv)) (own_at5 (HS.out.own 0 rfl) 0 _ rfl) fun _ => ?_
   generalize w0.drew = w1 at *
   refine tQ4 0 1 2 3 ?_; try simp only [sq]
   refine tQ 4 ?_; try simp only [sq]
   refine pQ4 5 6 7 8 ?_; try simp only [sq]
   refine pQ4 9 10 11 12 ?_; try simp only [sq]
   refine pQ 13 ?_; try simp only [sq]
   refine pQ 14 ?_; try simp only [sq]
   refine tQ 15 ?_; try simp only [sq]
   refine fQ ?_ _
   clear hge s0 gs gsn 
   go_wp2_with fail
   replace HS := Lh HS.out.drop.f6.f6.f6.f6.f6.f6.f6
   refine HFIN.out _ _ _ ⟨_, _, _, _, _, rfl, rfl⟩ ?_
   exact ⟨0, (setR gr o.d [0]), (q + 1), m, O, od, rfl, by rw [if_pos HDD.out], HGO, HS⟩
  obtain ⟨sn, rfl⟩ : ∃ sn : Nat, sv = (sn : Int) := ⟨sv.toNat, by omega⟩
  have hge : decide ((0 : Int) ≤ (sn : Int)) = true := by simp
  have hwv : IntKind.i64.wrap (sn : Int) = (sn : Int) := by rw [IntKind.wrap_i64]; omega
  have sn0 : (0 : Int) ≤ (sn : Int) := by omega
  clear hn0
  by_cases hlt : sn < gb.length
  ·obtain ⟨bv, hbv⟩ : ∃ x, gb[sn] = x := ⟨_, rfl⟩
   have HBV := Lh hbv
   have HWB : Hid (W32 bv) := by show W32 bv; rw [← hbv]; exact HF.out.bv _ (List.getElem_mem _)
   clear hbv
   have HGO : Hid (∀ (gR : Value) (O : Option Addr) (od : Nat) (W' : World), Hp w W' (rfP w.heap.size rv (.slice (some ⟨bb, oo, none⟩) l.length c) (some ⟨cb, 0, none⟩) dc (⟨⟨gu, gi, (setR gr o.d [bv]), gb, (q + 1)⟩, gR, .slice BA gb.length bc⟩ :: KT) O od (m.out) V vd VS (m.vs) 0 0 (t + 1) false base) → Going l w rv (.slice (some ⟨bb, oo, none⟩) l.length c) V vd VS base n (t + 1) E W') := fun gR O od => by
    have ha := act_14 (m := m) HOQ.out
    rw [HORD.out] at ha
    rw [HSQ.out] at ha
    have hval : (if 0 ≤ ([(sn : Int)] : List Int).getD 0 0 ∧ ([(sn : Int)] : List Int).getD 0 0 < (gb.length : Int) then gb.getD (([(sn : Int)] : List Int).getD 0 0).toNat 0 else 0) = bv := by show (if 0 ≤ (sn : Int) ∧ (sn : Int) < (gb.length : Int) then gb.getD ((sn : Int)).toNat 0 else 0) = bv; rw [if_pos ⟨by omega, by omega⟩, Int.toNat_natCast, List.getD_eq_getElem?_getD, List.getElem?_eq_getElem hlt, HBV.out]; rfl
    rw [hval] at ha
    exact go_on (m' := ⟨m.vs, m.out⟩) ha HE.out (HF.out.set (fun x hx => by rw [List.mem_singleton] at hx; rw [hx]; exact HWB.out) HNP.out) HKO.out (HM.out) (by have := HBT.out.1; show m.out.length ≤ t + 1; omega) HBT.out.2.2
   have hb1 : decide ((sn : Int) < (gb.length : Int)) = true := by simp; omega
   have hb2 : decide (sn < gb.length) = true := by simp; omega
   have hb3 : (sn : Int) < (gb.length : Int) := by omega
   go_upto_region 55 with (fail)
   replace HS := Lh HS.out.drew
   refine dQ (fun W => At W cb (KT.length * 5 + 3) (.slice BA gb.length bc) ∧ At W sg 0 (.int .i32 (sn : Int))) (⟨(call_cells (HS.out.own 2 rfl)).2.2.2.1, own_at5 (HS.out.own 0 rfl) 0 _ rfl⟩) fun _ => ?_
   generalize w0.drew = w1 at *
   refine tQ4 0 1 2 3 ?_; try simp only [sq]
   refine tQ4 4 5 6 7 ?_; try simp only [sq]
   refine tQ4 8 9 10 11 ?_; try simp only [sq]
   refine tQ4 12 13 14 15 ?_; try simp only [sq]
   refine fQ ?_ _
   clear hge hwv hb1 hb2
   go_upto_region 56 with (fail)
   obtain ⟨bg, rfl⟩ := own_some (HS.out.own 6 rfl) (by omega)
   replace HS := Lh HS.out.drew
   refine dQ (fun W => At W cb (KT.length * 5 + 3) (.slice (some ⟨bg, 0, none⟩) gb.length bc) ∧ At W sg 0 (.int .i32 (sn : Int)) ∧ At W bg sn (.int .i32 bv)) (⟨(call_cells (HS.out.own 2 rfl)).2.2.2.1, own_at5 (HS.out.own 0 rfl) 0 _ rfl, own_at5 (HS.out.own 6 rfl) sn _ (by rw [List.getElem?_map, List.getElem?_eq_getElem hlt, HBV.out]; rfl)⟩) fun _ => ?_
   generalize w1.drew = w2 at *
   refine tQ4 0 1 2 3 ?_; try simp only [sq]
   refine tQ4 4 5 6 7 ?_; try simp only [sq]
   refine tQ2 8 9 ?_; try simp only [sq]
   refine fQ ?_ _
   clear s0 gs gsn hb3 sn0
   go_wp2_with fail
   replace HS := Lh HS.out.drop.f6.f6.f6.f6.f6.f6.f6
   refine HFIN.out _ _ _ ⟨_, _, _, _, _, rfl, rfl⟩ ?_
   exact ⟨bv, (setR gr o.d [bv]), (q + 1), m, O, od, rfl, by rw [if_pos HDD.out], HGO, HS⟩
  have HGO : Hid (∀ (gR : Value) (O : Option Addr) (od : Nat) (W' : World), Hp w W' (rfP w.heap.size rv (.slice (some ⟨bb, oo, none⟩) l.length c) (some ⟨cb, 0, none⟩) dc (⟨⟨gu, gi, (setR gr o.d [0]), gb, (q + 1)⟩, gR, .slice BA gb.length bc⟩ :: KT) O od (m.out) V vd VS (m.vs) 0 0 (t + 1) false base) → Going l w rv (.slice (some ⟨bb, oo, none⟩) l.length c) V vd VS base n (t + 1) E W') := fun gR O od => by
   have ha := act_14 (m := m) HOQ.out
   rw [HORD.out] at ha
   rw [HSQ.out] at ha
   have hval : (if 0 ≤ ([(sn : Int)] : List Int).getD 0 0 ∧ ([(sn : Int)] : List Int).getD 0 0 < (gb.length : Int) then gb.getD (([(sn : Int)] : List Int).getD 0 0).toNat 0 else 0) = 0 := by show (if 0 ≤ (sn : Int) ∧ (sn : Int) < (gb.length : Int) then gb.getD ((sn : Int)).toNat 0 else 0) = 0; rw [if_neg (by omega)]
   rw [hval] at ha
   exact go_on (m' := ⟨m.vs, m.out⟩) ha HE.out (HF.out.set (fun x hx => by rw [List.mem_singleton] at hx; rw [hx]; exact ⟨by decide, by decide⟩) HNP.out) HKO.out (HM.out) (by have := HBT.out.1; show m.out.length ≤ t + 1; omega) HBT.out.2.2
  have hb1 : decide ((sn : Int) < (gb.length : Int)) = false := by simp; omega
  have hb2 : decide (sn < gb.length) = false := by simp; omega
  go_upto_region 55 with (fail)
  replace HS := Lh HS.out.drew
  refine dQ (fun W => At W cb (KT.length * 5 + 3) (.slice BA gb.length bc) ∧ At W sg 0 (.int .i32 (sn : Int))) (⟨(call_cells (HS.out.own 2 rfl)).2.2.2.1, own_at5 (HS.out.own 0 rfl) 0 _ rfl⟩) fun _ => ?_
  generalize w0.drew = w1 at *
  refine tQ4 0 1 2 3 ?_; try simp only [sq]
  refine tQ4 4 5 6 7 ?_; try simp only [sq]
  refine tQ4 8 9 10 11 ?_; try simp only [sq]
  refine tQ4 12 13 14 15 ?_; try simp only [sq]
  refine fQ ?_ _
  clear hge hwv hb1 hb2 s0 gs gsn sn0
  go_wp2_with fail
  replace HS := Lh HS.out.drop.f6.f6.f6.f6.f6.f6.f6
  refine HFIN.out _ _ _ ⟨_, _, _, _, _, rfl, rfl⟩ ?_
  exact ⟨0, (setR gr o.d [0]), (q + 1), m, O, od, rfl, by rw [if_pos HDD.out], HGO, HS⟩
theorem stp_H : OrdS (fun k => k = 7 ∨ k = 8 ∨ k = 12) := by
 unfold OrdS
 intro l w W bb oo c rv cb dc gu gi q gr gb RA BA rc bc KT V vd VS base n t E o Ad As An Ap cd cs cn cp ob m O od nc sl Sa sc K1 a HFIN HF HR HH HH2 HL HKO HM HE HIX HOO HNC HORD HTY HBT HSQ HSL hV hu hs100 HOP0 HS hS
 obtain ⟨x1, x5, y, hy, hy2, rfl⟩ := hS
 obtain ⟨f, rfl⟩ := late345 hy
 replace hy2 : f 76 = .int .i64 o.op := by injection hy2
 rw [hy2]
 clear hy hy2
 obtain ⟨w0, rfl⟩ : ∃ y, y = W := ⟨_, rfl⟩
 unfold rSw
 conv => arg 2; whnf
 have hl4 := HL.out.n4
 have k1 : (KT.length : Int) < 3000 := by have := HBT.out; omega
 have k0 : (0 : Int) ≤ (KT.length : Int) := by omega
 have k2 : (KT.length : Int) < (KT.length : Int) + 1 := by omega
 have hop := HOP0.out
 rcases hop with hop | hop | hop
 ·rw [hop]
  have HOP := Lh hop
  clear hop
  have HOQ : Hid ((ord l ⟨gu, gi, gr, gb, q⟩).op = 7) := by show _ = _; rw [HORD.out]; exact HOP.out
  have HNP : Hid (q + 1 < (bod l gu gi).code.length) := HF.out.nxt HL.out (by rw [HOQ.out]; decide) (by rw [HOQ.out]; decide)
  have q0 : w0.cell? ⟨ob, 0, none⟩ = some (.int .i64 7) := by rw [← HOP.out]; exact HS.out.c 7 0
  obtain ⟨hd1, hsp, hnm, hmy⟩ := HOO.out.o7 HOP.out
  clear hsp hmy hd1
  obtain ⟨kn2, kn1, kn7, kns⟩ := spk_name (u := unAt l gu) (o := o) (by have := HF.out.spk HL.out; rw [HORD.out] at this; exact this) hnm
  rw [HOP.out] at kn1
  have HFV := fnd_fun HL.out hu kn2 kn1
  have HFD : Hid (∀ W2, Below w.heap.size w W2 → W2.cell? ⟨rv, 0, none⟩ = some (.slice (some ⟨bb, oo, none⟩) l.length c) → Calls Tryz.prog 64 #[.pointer (some ⟨rv, 0, none⟩), .int .i64 (gu : Int), .string o.nm] W2 (FindOut (fnd l gu o.nm) W2)) := fun W2 hb h0 => find_any l HL.out o.nm (some ⟨bb, oo, none⟩) c rv gu HR.out hb hu h0
  obtain ⟨⟨pv, pi⟩, hp⟩ : ∃ p, fnd l gu o.nm = p := ⟨_, rfl⟩
  rw [hp] at HFD HFV
  have HPQ := Lh hp
  dsimp only at HFV
  obtain ⟨hv1, hv2, hv3⟩ := HFV
  clear hp
  go_upto_region 33 with (fail)
  replace HS := Lh HS.out.drew
  refine dQ (fun W => At W cb (KT.length * 5) (.int .i64 (gu : Int)) ∧ At W ob 4 (.string o.nm)) (⟨(call_cells (HS.out.own 2 rfl)).1, HS.out.c 7 4⟩) fun _ => ?_
  generalize w0.drew = w1 at *
  refine tQ4 0 1 2 3 ?_; try simp only [sq]
  refine tQ3 4 5 6 ?_; try simp only [sq]
  refine rQ 7 (fun K hK => ?_)
  go_simp
  refine (HFD.out _ HS.out.mv (HS.out.c 1 0)).mono ?_
  rintro e w2 ⟨rfl, hb⟩
  replace HS := Lh (HS.out.below hb)
  clear hb
  dsimp only
  refine hK.out _ _ (⟨(call_cells (HS.out.own 2 rfl)).1, HS.out.c 7 4⟩) (fun _ => ?_)
  clear hK K
  try simp only [sq]
  refine tQ4 8 9 10 11 ?_; try simp only [sq]
  refine tQ 12 ?_; try simp only [sq]
  refine fQ ?_ _
  clear HFD
  have HA7 := arg_7 HL.out HF.out HOQ.out
  rw [HORD.out] at HA7
  dsimp only at HA7
  rw [HPQ.out, HSQ.out] at HA7
  have HAR : Hid (ArgOk l pv pi sl) := HA7.1
  have HDR : Hid ((ord l ⟨gu, gi, gr, gb, q⟩).d.length = resW (bod l pv pi).ty) := by show _ = _; rw [HORD.out]; exact HA7.2
  have HRC : Hid (rcl l n pv pi sl (⟨gu, gi, gr, gb, q + 1⟩ :: KT.map Fm.f) m (t + 1) = E) := by
   have ha := act_7 (m := m) HOQ.out
   rw [HORD.out, HSQ.out] at ha
   dsimp only at ha
   rw [HPQ.out] at ha
   exact (run_call ha).symm.trans HE.out
  clear HA7 hnm kn2 kn1 kn7 kns hv1 hv2 hv3
  go_upto_region 39 with (fail)
  skip
  have r1 := HS.out.c 1 1
  by_cases h3 : 3000 ≤ KT.length + 1
  ·have hi3 : (3000 : Int) ≤ (KT.length : Int) + 1 := by omega
   have hn3 : 3000 ≤ KT.length + 1 := h3
   have HEE : Hid (E = ⟨0, 0, m.out, t + 1⟩) := HRC.out.symm.trans (by unfold rcl; rw [if_pos (by simp; omega)])
   clear h3
   go_wp2_with fail
   replace HS := Lh HS.out.f1
   refine (end_any 0 HS.out).mono ?_
   clear HS; rintro e w3 ⟨rfl, hS⟩
   have HS := Lh hS
   clear hS
   replace HS := Lh HS.out.f1.drop.f6.drop.f5.f5.f5.f5.f5.f5
   go_wp2_with fail
   refine bodyPost_ret (v := .tuple #[]) (results_none_ rfl _ _ _) rfl ?_
   rw [HEE.out]
   refine ⟨rfl, .inl ⟨some ⟨cb, 0, none⟩, dc, ⟨⟨gu, gi, gr, gb, q + 1⟩, .slice RA gr.length rc, .slice BA gb.length bc⟩ :: KT, O, od, m.vs, ?_⟩⟩
   show Hp _ _ _
   unfold rfP
   simp only [List.flatMap_cons, frP, rI, List.cons_append, List.nil_append]
   exact HS.out
  have hi3 : ¬ (3000 : Int) ≤ (KT.length : Int) + 1 := by omega
  have hn3 : ¬ 3000 ≤ KT.length + 1 := h3
  have HRN : Hid (run l n (beg l pv pi sl) (⟨gu, gi, gr, gb, q + 1⟩ :: KT.map Fm.f) m (t + 1) = E) := by have := HRC.out; unfold rcl at this; rw [if_neg (by simp; omega)] at this; exact this
  clear h3
  replace HS := Lh HS.out.f7.f7.f7.f7.f7.f5.f7.f7
  have HS2 : Hid (Hp w w2 (bx rv 85 #[.slice (some ⟨bb, oo, none⟩) l.length c, .slice (some ⟨cb, 0, none⟩) (⟨⟨gu, gi, gr, gb, q + 1⟩, .slice RA gr.length rc, .slice BA gb.length bc⟩ :: KT).length dc, .slice V VS.length vd, .int .i64 0, .int .i32 0, .slice O m.out.length od, .int .i64 ((t + 1 : Nat) : Int), .bool false] :: ow w.heap.size 120 5 (.slice (some ⟨cb, 0, none⟩) (⟨⟨gu, gi, gr, gb, q + 1⟩, .slice RA gr.length rc, .slice BA gb.length bc⟩ :: KT).length dc) (⟨⟨gu, gi, gr, gb, q + 1⟩, .slice RA gr.length rc, .slice BA gb.length bc⟩ :: KT).length (callsC (⟨⟨gu, gi, gr, gb, q + 1⟩, .slice RA gr.length rc, .slice BA gb.length bc⟩ :: KT)) :: (ow w.heap.size 21 1 (.slice Sa o.s.length sc) o.s.length (sl.map i32) :: ow w.heap.size 21 1 (.slice O m.out.length od) m.out.length (m.out.map i32) :: ow w.heap.size 86 1 (.slice V VS.length vd) VS.length VS :: ow w.heap.size 21 1 (.slice RA gr.length rc) gr.length (gr.map i32) :: ow w.heap.size 21 1 (.slice BA gb.length bc) gb.length (gb.map i32) :: bx ob 63 #[.int .i64 o.op, .slice Ad o.d.length cd, .slice As o.s.length cs, .int .i64 o.n, .string o.nm, .int .i64 o.ty.k, .string o.ty.nm, .slice An o.ty.ns.length cn, .slice Ap o.ty.ps.length cp, .bool o.ty.many] :: (KT.flatMap (frP w.heap.size) ++ (vrP w.heap.size VS m.vs ++ base))))) := HS
  have HBG := Lh (begin_any l HL.out pv pi sl (some ⟨bb, oo, none⟩) c rv (⟨⟨gu, gi, gr, gb, q + 1⟩, .slice RA gr.length rc, .slice BA gb.length bc⟩ :: KT) HR.out HAR.out (by have := HBT.out.2.2; simp; omega) (fun h => HH.out _ h) (RowAt.own HS2.out.drop.drop (by rw [HSL.out]; unfold rI; rw [HSL.out]; exact List.mem_cons_self ..)) HS2.out (sc := sc))
  clear HS HS2
  rw [HSL.out] at HBG
  go_wp2_with fail
  refine (HBG.out).mono ?_
  clear HBG; rintro e w3 hO
  obtain ⟨rfl, Cx, dcx, R2, B2, HS⟩ := hO
  replace HS := Lh HS.out.f4.drop.f8.drop.f7.f7.f5.f5.f7.f7.f7.f7
  go_wp2_with fail
  refine bodyPost_ret (v := .tuple #[]) (results_none_ rfl _ _ _) rfl ?_
  refine ⟨rfl, .inr ⟨Cx, dcx, ⟨beg l pv pi sl, R2, B2⟩, (⟨⟨gu, gi, gr, gb, q + 1⟩, .slice RA gr.length rc, .slice BA gb.length bc⟩ :: KT), O, od, m, ?_, HAR.out.beg HL.out, ?_, HM.out, by have := HBT.out.1; omega, by have := HBT.out.2.2; simp; omega, HRN.out⟩⟩
  ·show Hp _ _ _
   unfold rfP
   simp only [List.flatMap_cons, frP, rI, List.cons_append, List.nil_append]
   exact HS.out
  ·exact ⟨HF.out.at HNP.out, Nat.succ_le_succ (Nat.zero_le _), HDR.out, HKO.out⟩
 ·rw [hop]
  have HOP := Lh hop
  clear hop
  have HOQ : Hid ((ord l ⟨gu, gi, gr, gb, q⟩).op = 8) := by show _ = _; rw [HORD.out]; exact HOP.out
  have HNP : Hid (q + 1 < (bod l gu gi).code.length) := HF.out.nxt HL.out (by rw [HOQ.out]; decide) (by rw [HOQ.out]; decide)
  have q0 : w0.cell? ⟨ob, 0, none⟩ = some (.int .i64 8) := by rw [← HOP.out]; exact HS.out.c 7 0
  obtain ⟨hd1, hs1, hsp, hmy⟩ := HOO.out.o8 HOP.out
  clear hsp hd1
  obtain ⟨sv, st, rfl⟩ : ∃ a b, sl = a :: b := List.exists_cons_of_length_pos (by rw [HSL.out]; omega)
  have hsv : W32 sv := src_w (f := ⟨gu, gi, gr, gb, q⟩) (o := o) HF.out.rv sv (by rw [HSQ.out]; simp)
  obtain ⟨sg, rfl⟩ := own_some (HS.out.own 0 rfl) (by omega)
  have s0 : w0.cell? ⟨sg, 0, none⟩ = some (.int .i32 sv) := own_at5 (HS.out.own 0 rfl) 0 _ rfl
  have gs : (0 : Int) < (o.s.length : Int) := by omega
  have gsn : 0 < o.s.length := by omega
  have hwv : IntKind.i64.wrap sv = sv := by have := hsv.1; have := hsv.2; rw [IntKind.wrap_i64]; omega
  have HBK := Lh (back_any l (some ⟨bb, oo, none⟩) c rv sv HR.out HS.out.mv (by omega) hsv HH.out (HS.out.c 1 0))
  have HA8 := Lh (fun p hb ht => arg_8 (p := p) HL.out HF.out HOQ.out hb ht)
  rw [HORD.out, HSQ.out] at HA8
  dsimp only [List.getD_cons_zero, List.tail_cons] at HA8
  have HBS := Lh (fun p (hb : bck l sv = some p) => bck_some hb)
  obtain ⟨B, hB⟩ : ∃ b, bck l sv = b := ⟨_, rfl⟩
  have HBB := Lh hB
  rw [hB] at HBK
  clear hB hsv
  go_wp2_with fail
  refine (HBK.out).mono ?_
  clear HBK; rintro e w1 ⟨rfl, hO⟩
  rcases hO with ⟨⟨pv, pi⟩, hB, rfl⟩ | ⟨hB, rfl⟩
  rotate_left
  ·subst hB
   have HEE : Hid (E = ⟨3, 0, m.out, t + 1⟩) := by
    have ha := act_8n (m := m) HOQ.out (by rw [HORD.out, HSQ.out]; exact HBB.out)
    exact HE.out.symm.trans (run_stop ha)
   clear HA8 HBS HBB
   go_upto_region 36 with (fail)
   replace HS := Lh HS.out.drew
   refine dQ (fun _ => True) (trivial) fun _ => ?_
   generalize w1.drew = w2 at *
   refine tQ3 0 1 2 ?_; try simp only [sq]
   refine pQ4 3 4 5 6 ?_; try simp only [sq]
   refine pQ4 7 8 9 10 ?_; try simp only [sq]
   refine pQ4 11 12 13 14 ?_; try simp only [sq]
   refine pQ4 15 16 17 18 ?_; try simp only [sq]
   refine tQ 19 ?_; try simp only [sq]
   refine fQ ?_ _
   clear s0 gs gsn hwv
   go_wp2_with fail
   replace HS := Lh HS.out.f1
   refine (end_any 3 HS.out).mono ?_
   clear HS; rintro e w3 ⟨rfl, hS⟩
   have HS := Lh hS
   clear hS
   replace HS := Lh HS.out.f1.drop.f6.drop.f5.f5.f5.f5.f5.f5
   go_wp2_with fail
   refine bodyPost_ret (v := .tuple #[]) (results_none_ rfl _ _ _) rfl ?_
   rw [HEE.out]
   refine ⟨rfl, .inl ⟨some ⟨cb, 0, none⟩, dc, ⟨⟨gu, gi, gr, gb, q + 1⟩, .slice RA gr.length rc, .slice BA gb.length bc⟩ :: KT, O, od, m.vs, ?_⟩⟩
   show Hp _ _ _
   unfold rfP
   simp only [List.flatMap_cons, frP, rI, List.cons_append, List.nil_append]
   exact HS.out
  subst hB
  dsimp only
  obtain ⟨hv1, hv2, -⟩ := HBS.out _ HBB.out
  dsimp only at hv1 hv2
  replace HA8 := Lh (HA8.out _ HBB.out)
  dsimp only at HA8
  obtain ⟨p2, po, pua, Pn, pcn, Pp, pcp, hPT, hPM⟩ := fr_ty HR.out hv1 hv2
  have HPT := Lh hPT
  have HPM := Lh hPM
  have HPY : Hid (may (bod l pv pi).ty = true) := (body_ok (bod_ok HL.out hv1 hv2)).my
  have hv40 : (unAt l pv).bs.length ≤ 40 := by rw [unAt_at hv1]; exact HH.out pv hv1
  have HAL := Lh (fun W2 (hb : Below w.heap.size w W2) => alkR 4 (bod l pv pi).ty HPY.out o.ty _ _ W2 (Rep.keep hb _ _ HPT.out) (Rep.keep hb _ _ HTY.out))
  generalize hpb : (unAt l pv).bs.length = pb at *
  clear hpb hPT hPM HBS
  obtain ⟨T, hT⟩ : ∃ T, (bod l pv pi).ty = T := ⟨_, rfl⟩
  have HT := Lh hT
  rw [hT] at HPT HPM HPY HAL HA8
  clear hT
  obtain ⟨tb, htb⟩ : ∃ b, eqB T o.ty = b := ⟨_, rfl⟩
  have HTB := Lh htb
  rw [htb] at HAL HA8
  clear htb
  have k5 : (pv : Int) < (l.length : Int) := by omega
  have k6 : (0 : Int) ≤ (pv : Int) := by omega
  have k7 : (pv : Int) < 9 := by omega
  have k8 : (pi : Int) < (pb : Int) := by omega
  have k9 : (0 : Int) ≤ (pi : Int) := by omega
  have k10 : (pi : Int) < 100 := by omega
  go_upto_region 36 with (fail)
  replace HS := Lh HS.out.drew
  refine dQ (fun W => At W rv 0 (.slice (some ⟨bb, oo, none⟩) l.length c) ∧ At W ob 5 (.int .i64 o.ty.k) ∧ At W ob 6 (.string o.ty.nm) ∧ At W ob 7 (.slice An o.ty.ns.length cn) ∧ At W ob 8 (.slice Ap o.ty.ps.length cp) ∧ At W ob 9 (.bool o.ty.many) ∧ At W bb (oo + pv * 3) (.slice (some ⟨p2, po, none⟩) pb pua) ∧ At W p2 (po + pi * 9 + 2) (.int .i64 T.k) ∧ At W p2 (po + pi * 9 + 3) (.string T.nm) ∧ At W p2 (po + pi * 9 + 4) (.slice Pn T.ns.length pcn) ∧ At W p2 (po + pi * 9 + 5) (.slice Pp T.ps.length pcp) ∧ At W p2 (po + pi * 9 + 6) (.bool T.many)) (⟨HS.out.c 1 0, HS.out.c 7 5, HS.out.c 7 6, HS.out.c 7 7, HS.out.c 7 8, HS.out.c 7 9, HPM.out _ HS.out.mv⟩) fun _ => ?_
  generalize w1.drew = w2 at *
  refine tQ4 0 1 2 3 ?_; try simp only [sq]
  refine tQ4 4 5 6 7 ?_; try simp only [sq]
  refine tQ4 8 9 10 11 ?_; try simp only [sq]
  refine tQ4 12 13 14 15 ?_; try simp only [sq]
  refine tQ 16 ?_; try simp only [sq]
  refine rQ 17 (fun K hK => ?_)
  go_simp
  refine (HAL.out _ HS.out.mv).mono ?_
  rintro e w3 ⟨rfl, hb⟩
  replace HS := Lh (HS.out.below hb)
  clear hb
  refine hK.out _ _ (⟨HS.out.c 1 0, HS.out.c 7 5, HS.out.c 7 6, HS.out.c 7 7, HS.out.c 7 8, HS.out.c 7 9, HPM.out _ HS.out.mv⟩) (fun _ => ?_)
  clear hK K
  try simp only [sq]
  refine tQ2 18 19 ?_; try simp only [sq]
  refine fQ ?_ _
  clear HAL HPM HPT HPY s0 hwv k5 k6 k7 k8 k9 k10
  cases tb
  ·have HEE : Hid (E = ⟨3, 0, m.out, t + 1⟩) := by
    have ha := act_8t (m := m) HOQ.out (p := (pv, pi)) (by rw [HORD.out, HSQ.out]; exact HBB.out) (by rw [HORD.out]; dsimp only; rw [HT.out]; exact HTB.out)
    exact HE.out.symm.trans (run_stop ha)
   clear HA8 HBB gs gsn
   go_wp2_with fail
   replace HS := Lh HS.out.f1
   refine (end_any 3 HS.out).mono ?_
   clear HS; rintro e w4 ⟨rfl, hS⟩
   have HS := Lh hS
   clear hS
   replace HS := Lh HS.out.f1.drop.f6.drop.f5.f5.f5.f5.f5.f5
   go_wp2_with fail
   refine bodyPost_ret (v := .tuple #[]) (results_none_ rfl _ _ _) rfl ?_
   rw [HEE.out]
   refine ⟨rfl, .inl ⟨some ⟨cb, 0, none⟩, dc, ⟨⟨gu, gi, gr, gb, q + 1⟩, .slice RA gr.length rc, .slice BA gb.length bc⟩ :: KT, O, od, m.vs, ?_⟩⟩
   show Hp _ _ _
   unfold rfP
   simp only [List.flatMap_cons, frP, rI, List.cons_append, List.nil_append]
   exact HS.out
  obtain ⟨hAR, hDR⟩ := HA8.out rfl
  have HAR := Lh hAR
  have HDR : Hid ((ord l ⟨gu, gi, gr, gb, q⟩).d.length = resW (bod l pv pi).ty) := by show _ = _; rw [HORD.out, HT.out]; exact hDR
  have HRC : Hid (rcl l n pv pi st (⟨gu, gi, gr, gb, q + 1⟩ :: KT.map Fm.f) m (t + 1) = E) := by
   have ha := act_8 (m := m) HOQ.out (p := (pv, pi)) (by rw [HORD.out, HSQ.out]; exact HBB.out) (by rw [HORD.out]; dsimp only; rw [HT.out]; exact HTB.out)
   rw [HORD.out, HSQ.out] at ha
   exact (run_call ha).symm.trans HE.out
  clear hAR hDR HA8 HBB HTB HT hv1 hv2 hv40
  have hcs := own_cap5 (HS.out.own 0 rfl)
  have HST : Hid (st.length = o.s.length - 1) := by have := HSL.out; simp only [List.length_cons] at this; show _ = _; omega
  by_cases hc1 : sc = 1
  ·have hn1 : o.s.length = 1 := by omega
   obtain rfl : st = [] := List.eq_nil_of_length_eq_zero (by rw [HST.out, hn1])
   subst hc1
   rw [hn1]
   clear hn1 gs gsn hcs
   go_upto_region 39 with (fail)
   skip
   have r1 := HS.out.c 1 1
   by_cases h3 : 3000 ≤ KT.length + 1
   ·have hi3 : (3000 : Int) ≤ (KT.length : Int) + 1 := by omega
    have hn3 : 3000 ≤ KT.length + 1 := h3
    have HEE : Hid (E = ⟨0, 0, m.out, t + 1⟩) := HRC.out.symm.trans (by unfold rcl; rw [if_pos (by simp; omega)])
    clear h3
    go_wp2_with fail
    replace HS := Lh HS.out.f1
    refine (end_any 0 HS.out).mono ?_
    clear HS; rintro e w4 ⟨rfl, hS⟩
    have HS := Lh hS
    clear hS
    replace HS := Lh HS.out.f1.drop.f6.drop.f5.f5.f5.f5.f5.f5
    go_wp2_with fail
    refine bodyPost_ret (v := .tuple #[]) (results_none_ rfl _ _ _) rfl ?_
    rw [HEE.out]
    refine ⟨rfl, .inl ⟨some ⟨cb, 0, none⟩, dc, ⟨⟨gu, gi, gr, gb, q + 1⟩, .slice RA gr.length rc, .slice BA gb.length bc⟩ :: KT, O, od, m.vs, ?_⟩⟩
    show Hp _ _ _
    unfold rfP
    simp only [List.flatMap_cons, frP, rI, List.cons_append, List.nil_append]
    exact HS.out
   have hi3 : ¬ (3000 : Int) ≤ (KT.length : Int) + 1 := by omega
   have hn3 : ¬ 3000 ≤ KT.length + 1 := h3
   have HRN : Hid (run l n (beg l pv pi []) (⟨gu, gi, gr, gb, q + 1⟩ :: KT.map Fm.f) m (t + 1) = E) := by have := HRC.out; unfold rcl at this; rw [if_neg (by simp; omega)] at this; exact this
   clear h3
   replace HS := Lh HS.out.f7.f7.f7.f7.f7.f5.f7.f7
   have HS2 : Hid (Hp w w3 (bx rv 85 #[.slice (some ⟨bb, oo, none⟩) l.length c, .slice (some ⟨cb, 0, none⟩) (⟨⟨gu, gi, gr, gb, q + 1⟩, .slice RA gr.length rc, .slice BA gb.length bc⟩ :: KT).length dc, .slice V VS.length vd, .int .i64 0, .int .i32 0, .slice O m.out.length od, .int .i64 ((t + 1 : Nat) : Int), .bool false] :: ow w.heap.size 120 5 (.slice (some ⟨cb, 0, none⟩) (⟨⟨gu, gi, gr, gb, q + 1⟩, .slice RA gr.length rc, .slice BA gb.length bc⟩ :: KT).length dc) (⟨⟨gu, gi, gr, gb, q + 1⟩, .slice RA gr.length rc, .slice BA gb.length bc⟩ :: KT).length (callsC (⟨⟨gu, gi, gr, gb, q + 1⟩, .slice RA gr.length rc, .slice BA gb.length bc⟩ :: KT)) :: (ow w.heap.size 21 1 (.slice (some ⟨sg, 0, none⟩) o.s.length 1) o.s.length ([sv].map i32) :: ow w.heap.size 21 1 (.slice O m.out.length od) m.out.length (m.out.map i32) :: ow w.heap.size 86 1 (.slice V VS.length vd) VS.length VS :: ow w.heap.size 21 1 (.slice RA gr.length rc) gr.length (gr.map i32) :: ow w.heap.size 21 1 (.slice BA gb.length bc) gb.length (gb.map i32) :: bx ob 63 #[.int .i64 o.op, .slice Ad o.d.length cd, .slice As o.s.length cs, .int .i64 o.n, .string o.nm, .int .i64 o.ty.k, .string o.ty.nm, .slice An o.ty.ns.length cn, .slice Ap o.ty.ps.length cp, .bool o.ty.many] :: (KT.flatMap (frP w.heap.size) ++ (vrP w.heap.size VS m.vs ++ base))))) := HS
   have HBG := Lh (begin_any l HL.out pv pi [] (some ⟨bb, oo, none⟩) c rv (⟨⟨gu, gi, gr, gb, q + 1⟩, .slice RA gr.length rc, .slice BA gb.length bc⟩ :: KT) HR.out HAR.out (by have := HBT.out.2.2; simp; omega) (fun h => HH.out _ h) (RowAt.nil (Sa := some ⟨sg, 0, none⟩)) HS2.out (sc := 0))
   clear HS HS2
   go_wp2_with fail
   refine (HBG.out).mono ?_
   clear HBG; rintro e w4 hO
   obtain ⟨rfl, Cx, dcx, R2, B2, HS⟩ := hO
   replace HS := Lh HS.out.f4.drop.f8.drop.f7.f7.f5.f5.f7.f7.f7.f7
   go_wp2_with fail
   refine bodyPost_ret (v := .tuple #[]) (results_none_ rfl _ _ _) rfl ?_
   refine ⟨rfl, .inr ⟨Cx, dcx, ⟨beg l pv pi [], R2, B2⟩, (⟨⟨gu, gi, gr, gb, q + 1⟩, .slice RA gr.length rc, .slice BA gb.length bc⟩ :: KT), O, od, m, ?_, HAR.out.beg HL.out, ?_, HM.out, by have := HBT.out.1; omega, by have := HBT.out.2.2; simp; omega, HRN.out⟩⟩
   ·show Hp _ _ _
    unfold rfP
    simp only [List.flatMap_cons, frP, rI, List.cons_append, List.nil_append]
    exact HS.out
   ·exact ⟨HF.out.at HNP.out, Nat.succ_le_succ (Nat.zero_le _), HDR.out, HKO.out⟩
  go_upto_region 39 with (fail)
  clear gs gsn
  have r1 := HS.out.c 1 1
  by_cases h3 : 3000 ≤ KT.length + 1
  ·have hi3 : (3000 : Int) ≤ (KT.length : Int) + 1 := by omega
   have hn3 : 3000 ≤ KT.length + 1 := h3
   have HEE : Hid (E = ⟨0, 0, m.out, t + 1⟩) := HRC.out.symm.trans (by unfold rcl; rw [if_pos (by simp; omega)])
   clear h3
   go_wp2_with fail
   replace HS := Lh HS.out.f1
   refine (end_any 0 HS.out).mono ?_
   clear HS; rintro e w4 ⟨rfl, hS⟩
   have HS := Lh hS
   clear hS
   replace HS := Lh HS.out.f1.drop.f6.drop.f5.f5.f5.f5.f5.f5
   go_wp2_with fail
   refine bodyPost_ret (v := .tuple #[]) (results_none_ rfl _ _ _) rfl ?_
   rw [HEE.out]
   refine ⟨rfl, .inl ⟨some ⟨cb, 0, none⟩, dc, ⟨⟨gu, gi, gr, gb, q + 1⟩, .slice RA gr.length rc, .slice BA gb.length bc⟩ :: KT, O, od, m.vs, ?_⟩⟩
   show Hp _ _ _
   unfold rfP
   simp only [List.flatMap_cons, frP, rI, List.cons_append, List.nil_append]
   exact HS.out
  have hi3 : ¬ (3000 : Int) ≤ (KT.length : Int) + 1 := by omega
  have hn3 : ¬ 3000 ≤ KT.length + 1 := h3
  have HRN : Hid (run l n (beg l pv pi st) (⟨gu, gi, gr, gb, q + 1⟩ :: KT.map Fm.f) m (t + 1) = E) := by have := HRC.out; unfold rcl at this; rw [if_neg (by simp; omega)] at this; exact this
  clear h3
  replace HS := Lh HS.out.f7.f7.f7.f7.f7.f5.f7.f7
  have HS2 : Hid (Hp w w3 (bx rv 85 #[.slice (some ⟨bb, oo, none⟩) l.length c, .slice (some ⟨cb, 0, none⟩) (⟨⟨gu, gi, gr, gb, q + 1⟩, .slice RA gr.length rc, .slice BA gb.length bc⟩ :: KT).length dc, .slice V VS.length vd, .int .i64 0, .int .i32 0, .slice O m.out.length od, .int .i64 ((t + 1 : Nat) : Int), .bool false] :: ow w.heap.size 120 5 (.slice (some ⟨cb, 0, none⟩) (⟨⟨gu, gi, gr, gb, q + 1⟩, .slice RA gr.length rc, .slice BA gb.length bc⟩ :: KT).length dc) (⟨⟨gu, gi, gr, gb, q + 1⟩, .slice RA gr.length rc, .slice BA gb.length bc⟩ :: KT).length (callsC (⟨⟨gu, gi, gr, gb, q + 1⟩, .slice RA gr.length rc, .slice BA gb.length bc⟩ :: KT)) :: (ow w.heap.size 21 1 (.slice (some ⟨sg, 0, none⟩) o.s.length sc) o.s.length ((sv :: st).map i32) :: ow w.heap.size 21 1 (.slice O m.out.length od) m.out.length (m.out.map i32) :: ow w.heap.size 86 1 (.slice V VS.length vd) VS.length VS :: ow w.heap.size 21 1 (.slice RA gr.length rc) gr.length (gr.map i32) :: ow w.heap.size 21 1 (.slice BA gb.length bc) gb.length (gb.map i32) :: bx ob 63 #[.int .i64 o.op, .slice Ad o.d.length cd, .slice As o.s.length cs, .int .i64 o.n, .string o.nm, .int .i64 o.ty.k, .string o.ty.nm, .slice An o.ty.ns.length cn, .slice Ap o.ty.ps.length cp, .bool o.ty.many] :: (KT.flatMap (frP w.heap.size) ++ (vrP w.heap.size VS m.vs ++ base))))) := HS
  have HBG := Lh (begin_any l HL.out pv pi st (some ⟨bb, oo, none⟩) c rv (⟨⟨gu, gi, gr, gb, q + 1⟩, .slice RA gr.length rc, .slice BA gb.length bc⟩ :: KT) HR.out HAR.out (by have := HBT.out.2.2; simp; omega) (fun h => HH.out _ h) (RowAt.tl (by rw [HSL.out]; unfold rI; rw [HSL.out]; exact List.mem_cons_self ..)) HS2.out (sc := (sc - 1)))
  clear HS HS2
  rw [HST.out] at HBG
  go_wp2_with fail
  refine (HBG.out).mono ?_
  clear HBG; rintro e w4 hO
  obtain ⟨rfl, Cx, dcx, R2, B2, HS⟩ := hO
  replace HS := Lh HS.out.f4.drop.f8.drop.f7.f7.f5.f5.f7.f7.f7.f7
  go_wp2_with fail
  refine bodyPost_ret (v := .tuple #[]) (results_none_ rfl _ _ _) rfl ?_
  refine ⟨rfl, .inr ⟨Cx, dcx, ⟨beg l pv pi st, R2, B2⟩, (⟨⟨gu, gi, gr, gb, q + 1⟩, .slice RA gr.length rc, .slice BA gb.length bc⟩ :: KT), O, od, m, ?_, HAR.out.beg HL.out, ?_, HM.out, by have := HBT.out.1; omega, by have := HBT.out.2.2; simp; omega, HRN.out⟩⟩
  ·show Hp _ _ _
   unfold rfP
   simp only [List.flatMap_cons, frP, rI, List.cons_append, List.nil_append]
   exact HS.out
  ·exact ⟨HF.out.at HNP.out, Nat.succ_le_succ (Nat.zero_le _), HDR.out, HKO.out⟩
 ·rw [hop]
  have HOP := Lh hop
  clear hop
  have HOQ : Hid ((ord l ⟨gu, gi, gr, gb, q⟩).op = 12) := by show _ = _; rw [HORD.out]; exact HOP.out
  obtain ⟨hd0, hs0⟩ := HOO.out.o12 HOP.out
  have HSR : Hid (sl.length = resW (bod l gu gi).ty) := HSL.out.trans hs0
  clear hd0 hs0
  have HRG : Hid (rgv l n (KT.map Fm.f) sl m (t + 1) = E) := by
   have ha := act_12 (m := m) HOQ.out
   rw [HORD.out, HSQ.out] at ha
   exact (run_ret ha).symm.trans HE.out
  have HSW : Hid (∀ x ∈ sl, W32 x) := fun x hx => src_w (f := ⟨gu, gi, gr, gb, q⟩) (o := o) HF.out.rv x (by rw [HSQ.out]; exact hx)
  have hwr : IntKind.i64.wrap (KT.length : Int) = (KT.length : Int) := by rw [IntKind.wrap_i64]; omega
  have hcp := own_cap5 (HS.out.own 2 rfl)
  have k3 : (KT.length : Int) ≤ (dc : Int) := by omega
  have k4 : KT.length ≤ dc := by omega
  clear hcp
  go_upto_region 50 with (fail)
  replace HS := Lh HS.out.drew
  refine dQ (fun _ => True) (trivial) fun _ => ?_
  generalize w0.drew = w1 at *
  refine tQ4 0 1 2 3 ?_; try simp only [sq]
  refine tQ3 5 6 7 ?_; try simp only [sq]
  replace HS := Lh HS.out.f1
  refine wpAnyH_grp [⟨4, some 290, []⟩, ⟨8, some 294, []⟩, ⟨9, some 295, [8]⟩, ⟨10, some 296, [9]⟩, ⟨11, some 297, [4, 10]⟩] 3 (fun vs W => Hid (Hp w W (bx rv 85 #[.slice (some ⟨bb, oo, none⟩) l.length c, .slice (some ⟨cb, 0, none⟩) (KT.length + 1) dc, .slice V VS.length vd, .int .i64 0, .int .i32 0, .slice O m.out.length od, .int .i64 ((t + 1 : Nat) : Int), .bool false] :: ow w.heap.size 21 1 (.slice Sa o.s.length sc) o.s.length (sl.map i32) :: ow w.heap.size 120 5 (.slice (some ⟨cb, 0, none⟩) (KT.length + 1) dc) (KT.length + 1) (callsC KT ++ ([.int .i64 (gu : Int), .int .i64 (gi : Int), .slice RA gr.length rc, .slice BA gb.length bc, .int .i64 ((q : Int) + 1)] : List Value)) :: ow w.heap.size 21 1 (.slice O m.out.length od) m.out.length (m.out.map i32) :: ow w.heap.size 86 1 (.slice V VS.length vd) VS.length VS :: ow w.heap.size 21 1 (.slice RA gr.length rc) gr.length (gr.map i32) :: ow w.heap.size 21 1 (.slice BA gb.length bc) gb.length (gb.map i32) :: bx ob 63 #[.int .i64 o.op, .slice Ad o.d.length cd, .slice As o.s.length cs, .int .i64 o.n, .string o.nm, .int .i64 o.ty.k, .string o.ty.nm, .slice An o.ty.ns.length cn, .slice Ap o.ty.ps.length cp, .bool o.ty.many] :: (KT.flatMap (frP w.heap.size) ++ (vrP w.heap.size VS m.vs ++ base)))) ∧ OV (vs 4) (.slice (some ⟨cb, 0, none⟩) (KT.length + 1) dc) ∧ OV (vs 8) (.slice (some ⟨cb, 0, none⟩) (KT.length + 1) dc) ∧ OV (vs 9) (.int .i64 ((KT.length : Int) + 1)) ∧ OV (vs 10) (.int .i64 (KT.length : Int)) ∧ OV (vs 11) (.slice (some ⟨cb, 0, none⟩) KT.length dc)) (by rfl) (by decide +kernel) ⟨HS, OP.no _ rfl, OP.no _ rfl, OP.no _ rfl, OP.no _ rfl, OP.no _ rfl⟩ (fun _ _ _ => trivial) ⟨?_, ?_, ?_, ?_, ?_, trivial⟩ ?_
  ·clear HS; refine ⟨_, rfl, fun vs W h4 hd hn ⟨HS, e4, e8, e9, e10, e11⟩ => ?_⟩
   have hk := HS.out.ok (bx rv 85 #[.slice (some ⟨bb, oo, none⟩) l.length c, .slice (some ⟨cb, 0, none⟩) (KT.length + 1) dc, .slice V VS.length vd, .int .i64 0, .int .i32 0, .slice O m.out.length od, .int .i64 ((t + 1 : Nat) : Int), .bool false]) (by simp)
   have hk := (show Blk W rv 85 #[.slice (some ⟨bb, oo, none⟩) l.length c, .slice (some ⟨cb, 0, none⟩) (KT.length + 1) dc, .slice V VS.length vd, .int .i64 0, .int .i32 0, .slice O m.out.length od, .int .i64 ((t + 1 : Nat) : Int), .bool false] from hk)
   have c1 := hk.cell 1 _ rfl
   clear hk
   simp only [actG, old, Option.getD_some]; try simp only [sq]; intro K hK
   go_simp
   exact hK.out _ _ ⟨HS, OP.is rfl, e8, e9, e10, OP.no _ hn.2.2.2.2.1⟩
  ·clear HS; refine ⟨_, rfl, fun vs W h8 hd hn ⟨HS, e4, e8, e9, e10, e11⟩ => ?_⟩
   have hk := HS.out.ok (bx rv 85 #[.slice (some ⟨bb, oo, none⟩) l.length c, .slice (some ⟨cb, 0, none⟩) (KT.length + 1) dc, .slice V VS.length vd, .int .i64 0, .int .i32 0, .slice O m.out.length od, .int .i64 ((t + 1 : Nat) : Int), .bool false]) (by simp)
   have hk := (show Blk W rv 85 #[.slice (some ⟨bb, oo, none⟩) l.length c, .slice (some ⟨cb, 0, none⟩) (KT.length + 1) dc, .slice V VS.length vd, .int .i64 0, .int .i32 0, .slice O m.out.length od, .int .i64 ((t + 1 : Nat) : Int), .bool false] from hk)
   have c1 := hk.cell 1 _ rfl
   clear hk
   simp only [actG, old, Option.getD_some]; try simp only [sq]; intro K hK
   go_simp
   exact hK.out _ _ ⟨HS, e4, OP.is rfl, OP.no _ hn.2.2.1, e10, e11⟩
  ·clear HS; refine ⟨_, rfl, fun vs W h9 hd hn ⟨HS, e4, e8, e9, e10, e11⟩ => ?_⟩
   obtain ⟨⟨v8, h8⟩, -⟩ := hd
   obtain rfl := e8 _ h8
   simp only [actG, old, h8, Option.getD_some]; try simp only [sq]; intro K hK
   go_simp
   exact hK.out _ _ ⟨HS, e4, e8, OP.is rfl, OP.no _ hn.2.2.2.1, e11⟩
  ·clear HS; refine ⟨_, rfl, fun vs W h10 hd hn ⟨HS, e4, e8, e9, e10, e11⟩ => ?_⟩
   obtain ⟨⟨v9, h9⟩, -⟩ := hd
   obtain rfl := e9 _ h9
   simp only [actG, old, h9, Option.getD_some]; try simp only [sq]; intro K hK
   go_simp
   exact hK.out _ _ ⟨HS, e4, e8, e9, OP.is rfl, OP.no _ hn.2.2.2.2.1⟩
  ·clear HS; refine ⟨_, rfl, fun vs W h11 hd hn ⟨HS, e4, e8, e9, e10, e11⟩ => ?_⟩
   obtain ⟨⟨v4, h4⟩, ⟨v10, h10⟩, -⟩ := hd
   obtain rfl := e4 _ h4
   obtain rfl := e10 _ h10
   simp only [actG, old, h4, h10, Option.getD_some]; try simp only [sq]; intro K hK
   go_simp
   exact hK.out _ _ ⟨HS, e4, e8, e9, e10, OP.is rfl⟩
  clear HS; intro vs W ⟨HS, e4, e8, e9, e10, e11⟩ hall
  obtain ⟨⟨v4, h4⟩, ⟨v8, h8⟩, ⟨v9, h9⟩, ⟨v10, h10⟩, ⟨v11, h11⟩, -⟩ := hall
  obtain rfl := e4 _ h4
  obtain rfl := e8 _ h8
  obtain rfl := e9 _ h9
  obtain rfl := e10 _ h10
  obtain rfl := e11 _ h11
  simp only [actG, lisG, old, h4, h8, h9, h10, h11, Option.getD_some, Option.isSome_some, if_true, List.length_cons, List.length_nil]; try simp only [sq]
  clear h4 e4 h8 e8 h9 e9 h10 e10 h11 e11 vs
  obtain ⟨w2, rfl⟩ : ∃ x, x = W := ⟨_, rfl⟩
  refine tQ2 12 13 ?_; try simp only [sq]
  refine rQ 14 (fun K hK => ?_)
  have f1 := (HS.out.blk 0 rfl).free 1
  have g1 := HS.out.c 0 1
  go_simp
  clear f1 g1
  replace HS := Lh (HS.out.put1 1 (.slice (some ⟨cb, 0, none⟩) KT.length dc))
  simp only [sq] at HS
  generalize w2.setCell _ _ = w3 at *
  refine hK.out _ _ (trivial) (fun _ => ?_)
  clear hK K
  try simp only [sq]
  refine fQ ?_ _
  replace HS := Lh HS.out.f2
  replace HS := Lh (HS.out.cut (callsC_len KT))
  replace HS := Lh HS.out.f7.drop.f5.drop.f5.drop.f4.f4.f2.f3.f4
  have HS2 : Hid (Hp w w3 (rfP w.heap.size rv (.slice (some ⟨bb, oo, none⟩) l.length c) (some ⟨cb, 0, none⟩) dc KT O od m.out V vd VS m.vs 0 0 (t + 1) false (rI w.heap.size (.slice Sa sl.length sc) sl :: base))) := by
   have h2 := HS.out.perm s_back
   show Hp _ _ _
   unfold rfP rI
   rw [HSL.out]
   exact h2
  replace HS := HS2
  clear HS2
  have HAT : Hid (RowAt w (rI w.heap.size (.slice Sa sl.length sc) sl :: base) Sa sl) := RowAt.own (HS.out.sub (by unfold rfP; exact .cons _ (.cons _ (.cons _ (.cons _ (List.Sublist.trans (List.sublist_append_right _ _) (List.sublist_append_right _ _))))))) (List.mem_cons_self ..)
  have HGI := Lh (giveR_any HR.out sl HSW.out (sc := sc) KT m HL.out HH.out HAT.out (by rw [HSL.out]; exact hs100) HS.out (by rw [HSR.out]; exact HKO.out) HM.out (by have := HBT.out.1; omega) (by have := HBT.out.2.2; omega) HRG.out)
  rw [HSL.out] at HGI
  clear HS
  go_wp2_with fail
  refine (HGI.out).mono ?_
  clear HGI; rintro e w4 hO
  obtain ⟨rfl, hO2⟩ := id hO
  have HO := Lh hO
  clear hO hO2
  go_wp2_with fail
  refine bodyPost_ret (v := .tuple #[]) (results_none_ rfl _ _ _) rfl ?_
  exact (HO.out).sub (List.sublist_cons_self _ _)
end Go.Proofs.YthihaeobkoiljaaGreat
