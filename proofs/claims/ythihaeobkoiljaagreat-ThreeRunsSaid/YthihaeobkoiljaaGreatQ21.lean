/- Lemmas for the law. -/
import Derived.Test.YthihaeobkoiljaaGreatQ20
set_option linter.unusedVariables false
set_option linter.unusedSimpArgs false
set_option maxRecDepth 100000
set_option maxHeartbeats 40000000
namespace Go.Proofs.YthihaeobkoiljaaGreat
open Go.RowKit
theorem ord_c : OrdG (fun k => k = 4 ∨ k = 5 ∨ k = 6) := by
 unfold OrdG
 intro l w x base n u i bs K E nb R xb rb rg bb ob Ba bc mp bB o r Ad As Tn Tp cd cs tcn tcp m O od t t1 n0 pc scx a1 a4 sl Sx KC K1 z0 z1 z2 z4 z5 z9 z23 z24 z25 z26 z27 z28 z29 z30 z31 z32 z33 z34 z35 z36 z37 z38 z39 z40 z41 z42 z43 z44 z45 z46 z47 z48 z49 z50 z51 z52 z53 z54 z55 z56 z57 z58 z59 z60 z61 z62 z63 z64 z65 z66 z67 z68 z69 z70 z71 z6 a W HFIN HIH HL HH HH2 HPO HML HMPX HMP HF HM HER HT1 HOO HORD HRT HBA HNB HK3 HSQ HSL HGL hs100 HA HOP0 HS hS
 obtain ⟨y14, y17, y18, y19, y20, y21, y22, y, hy, hy2, rfl⟩ := hS
 obtain ⟨f, rfl⟩ := late232 hy
 replace hy2 : f 34 = .int .i64 o.op := by injection hy2
 rw [hy2]
 clear hy hy2
 obtain ⟨w0, rfl⟩ : ∃ y, y = W := ⟨_, rfl⟩
 unfold cSw cLp
 conv => arg 2; whnf
 have hop := HOP0.out
 rcases hop with hop | hop | hop
 ·rw [hop]
  have HOP := Lh hop
  clear hop
  have HOQ : Hid ((ord l ⟨u, i, r, bs, pc⟩).op = 4) := by show _ = _; rw [HORD.out]; exact HOP.out
  have HNP : Hid (pc + 1 < (bod l u i).code.length) := HF.out.nxt HL.out (by rw [HOQ.out]; decide) (by rw [HOQ.out]; decide)
  obtain ⟨hd1, hs0, hn1, hn2, hnm⟩ := HOO.out.o4 HOP.out
  have HDD := Lh hd1
  clear hd1 hs0
  have hnn : o.n = 0 ∨ o.n = 1 := by omega
  clear hn1 hn2
  obtain ⟨kn2, kn1, kn7, kns⟩ := spk_name (u := unAt l u) (o := o) (by have := HF.out.spk HL.out; rw [HORD.out] at this; exact this) hnm
  rw [HOP.out] at kn1
  have HFV := fnd_var HL.out HF.out.hu kn2 kn1
  have kns2 := kns kn1
  obtain ⟨tv, hlk, htn⟩ := HPO.out.nm u mp HMPX.out o.nm kn2
  rw [kn1] at htn
  have hsz : o.nm.size ≤ maxLen := nm_max hnm
  have HLK : Hid (∀ Y : World, MapIs Tryz.prog 9 Y mp.1 (gM Tv.val mp.2) → (Instr.lookup 57 (.map (some mp.1)) (.string o.nm) false).run Tryz.prog Y = .ok (.agg #[.bool tv.fn, .string tv.t, .int .i64 tv.n, .int .i64 tv.k, .string tv.nm, .slice tv.A tv.a tv.ca, .slice tv.B tv.b tv.cb, .bool tv.many]) Y) := fun Y hY => by
   have hl := look_tv1 hY o.nm hsz
   rw [hlk] at hl
   exact hl
  obtain ⟨⟨pv, pi⟩, hp⟩ : ∃ p, fnd l u o.nm = p := ⟨_, rfl⟩
  rw [hp] at HFV htn
  have HPQ := Lh hp
  dsimp only at HFV htn
  obtain ⟨hv1, hv2, hv3⟩ := HFV
  clear hp hlk hsz
  rw [if_neg (by decide)] at htn
  obtain ⟨y, RR, hj, hvr, hyn, hV0, hV1, hV2⟩ := px_var HPO.out HM.out hv1 hv2
  rw [hv3] at hyn
  have hon : o.n < (y.n : Int) := by rw [hyn]; exact kns2
  clear hyn kns2 kns kn7 hv3
  obtain ⟨tfn, tt, ttn, tk, tnm, tA, ta, tca, tB, tb, tcb, tmany⟩ := tv
  dsimp only at HLK htn
  subst htn
  generalize (allG l pv).length + pi = jn at *
  obtain ⟨vb, vlo, vhi, vn⟩ := y
  dsimp only [Vr.val] at hvr hV0 hV1 hV2 hon
  have HV0 := Lh hV0
  have HV1 := Lh hV1
  have HV2 := Lh hV2
  clear hV0 hV1 hV2
  rw [prC_D] at HS
  replace HS := Lh (HS.out.perm (var_front (F := [ow w.heap.size 21 1 (.slice Sx o.s.length scx) o.s.length (sl.map i32), bx x.X 55 #[.int .i64 0, .int .i32 0, .slice O m.out.length od, .int .i64 (t1 : Int), .slice x.A1 nb x.d1, .slice x.A2 nb x.d2, .slice x.A3 (allG l l.length).length x.d3, .slice x.A4 l.length x.d4, .int .i64 (x.F : Int), .int .i64 ((K.length : Int) + 1), .int .i64 x.start], bx xb 50 #[.pointer (some ⟨x.X, 0, none⟩)], ow w.heap.size 21 1 (.slice O m.out.length od) m.out.length (m.out.map i32), ow w.heap.size 21 1 (.slice (some ⟨rg, 0, none⟩) R R) R (r.map i32), bx rb 42 #[.slice (some ⟨rg, 0, none⟩) R R], bB, bx ob 63 #[.int .i64 o.op, .slice Ad o.d.length cd, .slice As o.s.length cs, .int .i64 o.n, .string o.nm, .int .i64 o.ty.k, .string o.ty.nm, .slice Tn o.ty.ns.length tcn, .slice Tp o.ty.ps.length tcp, .bool o.ty.many]]) (D := prD l w.heap.size x) (base := base) HV0.out))
  replace HS : Hid (Hp w w0 (bx vb 21 #[.int .i32 (getV m.vs (pv, pi) 0), .int .i32 (getV m.vs (pv, pi) 1)] :: ow w.heap.size 21 1 (.slice Sx o.s.length scx) o.s.length (sl.map i32) :: bx x.X 55 #[.int .i64 0, .int .i32 0, .slice O m.out.length od, .int .i64 (t1 : Int), .slice x.A1 nb x.d1, .slice x.A2 nb x.d2, .slice x.A3 (allG l l.length).length x.d3, .slice x.A4 l.length x.d4, .int .i64 (x.F : Int), .int .i64 ((K.length : Int) + 1), .int .i64 x.start] :: bx xb 50 #[.pointer (some ⟨x.X, 0, none⟩)] :: ow w.heap.size 21 1 (.slice O m.out.length od) m.out.length (m.out.map i32) :: ow w.heap.size 21 1 (.slice (some ⟨rg, 0, none⟩) R R) R (r.map i32) :: bx rb 42 #[.slice (some ⟨rg, 0, none⟩) R R] :: bB :: bx ob 63 #[.int .i64 o.op, .slice Ad o.d.length cd, .slice As o.s.length cs, .int .i64 o.n, .string o.nm, .int .i64 o.ty.k, .string o.ty.nm, .slice Tn o.ty.ns.length tcn, .slice Tp o.ty.ps.length tcp, .bool o.ty.many] :: (prD l w.heap.size x ++ (RR ++ base)))) := HS
  obtain ⟨a3, ha3⟩ := own_some (show w0.ownsRow w.heap.size 42 1 (.slice x.A3 (allG l l.length).length x.d3) (allG l l.length).length (x.vr.map Vr.val) from HS.out.ok (ow w.heap.size 42 1 (.slice x.A3 (allG l l.length).length x.d3) (allG l l.length).length (x.vr.map Vr.val)) (mc (mc (mc (mc (mc (mc (mc (mc (mc (List.mem_append_left _ (mc (mc (List.mem_cons_self ..)))))))))))))) (by omega)
  have HV3 : Hid (∀ Y : World, Y.ownsRow w.heap.size 42 1 (.slice x.A3 (allG l l.length).length x.d3) (allG l l.length).length (x.vr.map Vr.val) → Y.cell? ⟨a3, jn, none⟩ = some (.slice (some ⟨vb, 0, none⟩) vn 2)) := fun Y hY => by rw [ha3] at hY; exact own_at5 hY jn _ hvr
  have HMB : Hid (mpB mp ∈ prD l w.heap.size x) := by
   have h := List.mem_of_getElem? HMPX.out
   exact mc (mc (mc (mc (List.mem_map.2 ⟨mp, h, rfl⟩))))
  have hnv : (allG l l.length).length ≤ 1000 := by have := allG_len (l := l) (fun u hu => by obtain ⟨j, hj, rfl⟩ := List.getElem_of_mem hu; exact HH2.out j hj) l.length; rw [List.take_length] at this; have := HL.out.n4; omega
  have hfd : ∀ W, (Instr.field 93 (.agg #[.bool tfn, .string tt, .int .i64 (jn : Int), .int .i64 tk, .string tnm, .slice tA ta tca, .slice tB tb tcb, .bool tmany]) 2).run Tryz.prog W = .ok (.int .i64 (jn : Int)) W := fun _ => rfl
  have j1 : (jn : Int) < ((allG l l.length).length : Int) := by omega
  have j2 : (0 : Int) ≤ (jn : Int) := by omega
  have j3 : (jn : Int) < 2000 := by omega
  clear hvr hj hnv
  clear hnm kn2 kn1
  obtain ⟨N, hN, hN2⟩ : ∃ N : Nat, o.n = (N : Int) ∧ N < 2 := ⟨o.n.toNat, by omega, by omega⟩
  have HNV := Lh hN
  have HP3 : Hid (∀ Y, Blk Y ob 63 #[.int .i64 o.op, .slice Ad o.d.length cd, .slice As o.s.length cs, .int .i64 o.n, .string o.nm, .int .i64 o.ty.k, .string o.ty.nm, .slice Tn o.ty.ns.length tcn, .slice Tp o.ty.ps.length tcp, .bool o.ty.many] → Y.cell? ⟨ob, 3, none⟩ = some (.int .i64 (N : Int))) := fun Y h => by have h2 : Y.cell? ⟨ob, 3, none⟩ = some (.int .i64 o.n) := h.cell 3 _ rfl; rw [HNV.out] at h2; exact h2
  have v1 : (N : Int) < (vn : Int) := by rw [← HNV.out]; exact hon
  have v1n : N < vn := by omega
  have v2 : (0 : Int) ≤ (N : Int) := by omega
  have v3 : (N : Int) < 9 := by omega
  have HN2 := Lh (show N = 0 ∨ N = 1 by omega)
  have HVN : Hid (∀ Y, Blk Y vb 21 #[.int .i32 (getV m.vs (pv, pi) 0), .int .i32 (getV m.vs (pv, pi) 1)] → Y.cell? ⟨vb, N, none⟩ = some (.int .i32 (getV m.vs (pv, pi) (N : Int)))) := fun Y h => by rcases HN2.out with rfl | rfl; exact h.cell 0 _ rfl; exact h.cell 1 _ rfl
  clear hon hN hN2 hnn
  have HWV : Hid (W32 (getV m.vs (pv, pi) (N : Int))) := HM.out.get hv1 _
  have HGO : Hid (run l n0 ⟨u, i, (setR r o.d [getV m.vs (pv, pi) (N : Int)]), bs, (pc + 1)⟩ K m t1 = E) := by
   have ha := act_4 (m := m) HOQ.out
   rw [HORD.out] at ha
   rw [HPQ.out, HNV.out] at ha
   have hr := (run_go ha).symm.trans HER.out
   rw [← HT1.out.1] at hr
   exact hr
  go_upto_region 31 with (fail)
  replace HS := Lh HS.out.drew
  refine dQ (fun W => At W xb 0 (.pointer (some ⟨x.X, 0, none⟩)) ∧ At W (x.X) 6 (.slice (some ⟨a3, 0, none⟩) (allG l l.length).length x.d3) ∧ At W ob 4 (.string o.nm) ∧ (Instr.lookup 57 (.map (some mp.1)) (.string o.nm) false).run Tryz.prog W = .ok (.agg #[.bool tfn, .string tt, .int .i64 (jn : Int), .int .i64 tk, .string tnm, .slice tA ta tca, .slice tB tb tcb, .bool tmany]) W ∧ At W a3 jn (.slice (some ⟨vb, 0, none⟩) vn 2) ∧ At W ob 3 (.int .i64 (N : Int)) ∧ At W vb N (.int .i32 (getV m.vs (pv, pi) (N : Int)))) (⟨HS.out.c 3 0, (by have h6 := HS.out.c 2 6; simp only [ha3] at h6; exact h6), HS.out.c 8 4, HLK.out _ (HS.out.ok (mpB mp) (mc (mc (mc (mc (mc (mc (mc (mc (mc (List.mem_append_left _ (HMB.out)))))))))))), HV3.out _ (HS.out.ok (ow w.heap.size 42 1 (.slice x.A3 (allG l l.length).length x.d3) (allG l l.length).length (x.vr.map Vr.val)) (mc (mc (mc (mc (mc (mc (mc (mc (mc (List.mem_append_left _ (mc (mc (List.mem_cons_self ..)))))))))))))), HP3.out _ (HS.out.blk 8 rfl), HVN.out _ (HS.out.blk 0 rfl)⟩) fun _ => ?_
  generalize w0.drew = w1 at *
  refine tQ4d 0 1 2 3 ?_; try simp only [sq]
  refine tQ4d 4 5 6 7 ?_; try simp only [sq]
  refine tQ4d 8 9 10 11 ?_; try simp only [sq]
  refine tQ2d 12 13 ?_; try simp only [sq]
  refine tQd 14 ?_; try simp only [sq]
  refine rQ 15 (fun K hK => ?_)
  go_simp
  replace HS := Lh (HS.out.lit1 (getV m.vs (pv, pi) (N : Int)))
  generalize w1.alloc _ = w2 at *
  generalize w1.heap.size = dg at *
  refine hK.out _ _ (⟨HS.out.c 4 0, (by have h6 := HS.out.c 3 6; simp only [ha3] at h6; exact h6), HS.out.c 9 4, HLK.out _ (HS.out.ok (mpB mp) (mc (mc (mc (mc (mc (mc (mc (mc (mc (mc (List.mem_append_left _ (HMB.out))))))))))))), HV3.out _ (HS.out.ok (ow w.heap.size 42 1 (.slice x.A3 (allG l l.length).length x.d3) (allG l l.length).length (x.vr.map Vr.val)) (mc (mc (mc (mc (mc (mc (mc (mc (mc (mc (List.mem_append_left _ (mc (mc (List.mem_cons_self ..))))))))))))))), HP3.out _ (HS.out.blk 9 rfl), HVN.out _ (HS.out.blk 1 rfl)⟩) (fun _ => ?_)
  clear hK K
  try simp only [sq]
  refine tQd 16 ?_; try simp only [sq]
  refine fQ ?_ _
  go_wp2_with fail
  clear v1 v1n v2 v3 j1 j2 j3 hfd
  replace HS := Lh HS.out.f1
  replace HS := Lh (HS.out.perm (var_front (F := [rI w.heap.size (.slice (some ⟨dg, 0, none⟩) 1 1) [getV m.vs (pv, pi) (N : Int)], ow w.heap.size 21 1 (.slice Sx o.s.length scx) o.s.length (sl.map i32), bx x.X 55 #[.int .i64 0, .int .i32 0, .slice O m.out.length od, .int .i64 (t1 : Int), .slice x.A1 nb x.d1, .slice x.A2 nb x.d2, .slice x.A3 (allG l l.length).length x.d3, .slice x.A4 l.length x.d4, .int .i64 (x.F : Int), .int .i64 ((K.length : Int) + 1), .int .i64 x.start], bx xb 50 #[.pointer (some ⟨x.X, 0, none⟩)], ow w.heap.size 21 1 (.slice O m.out.length od) m.out.length (m.out.map i32), ow w.heap.size 21 1 (.slice (some ⟨rg, 0, none⟩) R R) R (r.map i32), bx rb 42 #[.slice (some ⟨rg, 0, none⟩) R R], bB, bx ob 63 #[.int .i64 o.op, .slice Ad o.d.length cd, .slice As o.s.length cs, .int .i64 o.n, .string o.nm, .int .i64 o.ty.k, .string o.ty.nm, .slice Tn o.ty.ns.length tcn, .slice Tp o.ty.ps.length tcp, .bool o.ty.many]]) (D := prD l w.heap.size x) (base := base) HV0.out).symm)
  have HS2 : Hid (Hp w w2 (rI w.heap.size (.slice (some ⟨dg, 0, none⟩) 1 1) [getV m.vs (pv, pi) (N : Int)] :: ow w.heap.size 21 1 (.slice Sx o.s.length scx) o.s.length (sl.map i32) :: bx x.X 55 #[.int .i64 0, .int .i32 0, .slice O m.out.length od, .int .i64 (t1 : Int), .slice x.A1 nb x.d1, .slice x.A2 nb x.d2, .slice x.A3 (allG l l.length).length x.d3, .slice x.A4 l.length x.d4, .int .i64 (x.F : Int), .int .i64 ((K.length : Int) + 1), .int .i64 x.start] :: bx xb 50 #[.pointer (some ⟨x.X, 0, none⟩)] :: ow w.heap.size 21 1 (.slice O m.out.length od) m.out.length (m.out.map i32) :: ow w.heap.size 21 1 (.slice (some ⟨rg, 0, none⟩) R R) R (r.map i32) :: bx rb 42 #[.slice (some ⟨rg, 0, none⟩) R R] :: bB :: bx ob 63 #[.int .i64 o.op, .slice Ad o.d.length cd, .slice As o.s.length cs, .int .i64 o.n, .string o.nm, .int .i64 o.ty.k, .string o.ty.nm, .slice Tn o.ty.ns.length tcn, .slice Tp o.ty.ps.length tcp, .bool o.ty.many] :: (prC l w.heap.size x m.vs base))) := by show Hp _ _ _; rw [prC_D]; exact HS.out
  replace HS := HS2
  clear HS2
  replace HS := Lh HS.out.f1.drop.f6.f6.f4.f6.f6.f6.f7.f7
  refine HFIN.out _ _ _ _ ⟨_, _, _, _, _, _, _, _, _, rfl, rfl⟩ ?_
  exact ⟨n0, t1, (pc + 1), m, O, od, [getV m.vs (pv, pi) (N : Int)], _, _, by go_num, rfl, Lh ⟨HT1.out.2.1, Nat.le_refl _, by have := HT1.out; omega, by have := HT1.out; show m.out.length ≤ t1; omega⟩, Lh ⟨HDD.out.symm, fun y hy => by rw [List.mem_singleton] at hy; rw [hy]; exact HWV.out⟩, Lh (HF.out.set (fun y hy => by rw [List.mem_singleton] at hy; rw [hy]; exact HWV.out) HNP.out), HM, HGO, HS⟩
 ·rw [hop]
  have HOP := Lh hop
  clear hop
  have HOQ : Hid ((ord l ⟨u, i, r, bs, pc⟩).op = 5) := by show _ = _; rw [HORD.out]; exact HOP.out
  have HNP : Hid (pc + 1 < (bod l u i).code.length) := HF.out.nxt HL.out (by rw [HOQ.out]; decide) (by rw [HOQ.out]; decide)
  obtain ⟨hd0, hs1, hn1, hn2, hnm⟩ := HOO.out.o5 HOP.out
  have HDD := Lh hd0
  clear hd0
  obtain ⟨sv, rfl⟩ : ∃ v, sl = [v] := List.length_eq_one_iff.1 (HSL.out.trans hs1)
  have hsv : W32 sv := src_w (f := ⟨u, i, r, bs, pc⟩) (o := o) HF.out.rv sv (by rw [HSQ.out]; simp)
  obtain ⟨sg, rfl⟩ := own_some (HS.out.own 0 rfl) (by omega)
  have s0 : w0.cell? ⟨sg, 0, none⟩ = some (.int .i32 sv) := own_at5 (HS.out.own 0 rfl) 0 _ rfl
  have gs : (0 : Int) < (o.s.length : Int) := by omega
  have gsn : 0 < o.s.length := by omega
  have hsv1 := hsv.1
  have hsv2 := hsv.2
  clear hsv
  clear hs1 s0
  have hnn : o.n = 0 ∨ o.n = 1 := by omega
  clear hn1 hn2
  obtain ⟨kn2, kn1, kn7, kns⟩ := spk_name (u := unAt l u) (o := o) (by have := HF.out.spk HL.out; rw [HORD.out] at this; exact this) hnm
  rw [HOP.out] at kn1
  have HFV := fnd_var HL.out HF.out.hu kn2 kn1
  have kns2 := kns kn1
  obtain ⟨tv, hlk, htn⟩ := HPO.out.nm u mp HMPX.out o.nm kn2
  rw [kn1] at htn
  have hsz : o.nm.size ≤ maxLen := nm_max hnm
  have HLK : Hid (∀ Y : World, MapIs Tryz.prog 9 Y mp.1 (gM Tv.val mp.2) → (Instr.lookup 57 (.map (some mp.1)) (.string o.nm) false).run Tryz.prog Y = .ok (.agg #[.bool tv.fn, .string tv.t, .int .i64 tv.n, .int .i64 tv.k, .string tv.nm, .slice tv.A tv.a tv.ca, .slice tv.B tv.b tv.cb, .bool tv.many]) Y) := fun Y hY => by
   have hl := look_tv1 hY o.nm hsz
   rw [hlk] at hl
   exact hl
  obtain ⟨⟨pv, pi⟩, hp⟩ : ∃ p, fnd l u o.nm = p := ⟨_, rfl⟩
  rw [hp] at HFV htn
  have HPQ := Lh hp
  dsimp only at HFV htn
  obtain ⟨hv1, hv2, hv3⟩ := HFV
  clear hp hlk hsz
  rw [if_neg (by decide)] at htn
  obtain ⟨y, RR, hj, hvr, hyn, hV0, hV1, hV2⟩ := px_var HPO.out HM.out hv1 hv2
  rw [hv3] at hyn
  have hon : o.n < (y.n : Int) := by rw [hyn]; exact kns2
  clear hyn kns2 kns kn7 hv3
  obtain ⟨tfn, tt, ttn, tk, tnm, tA, ta, tca, tB, tb, tcb, tmany⟩ := tv
  dsimp only at HLK htn
  subst htn
  generalize (allG l pv).length + pi = jn at *
  obtain ⟨vb, vlo, vhi, vn⟩ := y
  dsimp only [Vr.val] at hvr hV0 hV1 hV2 hon
  have HV0 := Lh hV0
  have HV1 := Lh hV1
  have HV2 := Lh hV2
  clear hV0 hV1 hV2
  rw [prC_D] at HS
  replace HS := Lh (HS.out.perm (var_front (F := [ow w.heap.size 21 1 (.slice (some ⟨sg, 0, none⟩) o.s.length scx) o.s.length ([sv].map i32), bx x.X 55 #[.int .i64 0, .int .i32 0, .slice O m.out.length od, .int .i64 (t1 : Int), .slice x.A1 nb x.d1, .slice x.A2 nb x.d2, .slice x.A3 (allG l l.length).length x.d3, .slice x.A4 l.length x.d4, .int .i64 (x.F : Int), .int .i64 ((K.length : Int) + 1), .int .i64 x.start], bx xb 50 #[.pointer (some ⟨x.X, 0, none⟩)], ow w.heap.size 21 1 (.slice O m.out.length od) m.out.length (m.out.map i32), ow w.heap.size 21 1 (.slice (some ⟨rg, 0, none⟩) R R) R (r.map i32), bx rb 42 #[.slice (some ⟨rg, 0, none⟩) R R], bB, bx ob 63 #[.int .i64 o.op, .slice Ad o.d.length cd, .slice As o.s.length cs, .int .i64 o.n, .string o.nm, .int .i64 o.ty.k, .string o.ty.nm, .slice Tn o.ty.ns.length tcn, .slice Tp o.ty.ps.length tcp, .bool o.ty.many]]) (D := prD l w.heap.size x) (base := base) HV0.out))
  replace HS : Hid (Hp w w0 (bx vb 21 #[.int .i32 (getV m.vs (pv, pi) 0), .int .i32 (getV m.vs (pv, pi) 1)] :: ow w.heap.size 21 1 (.slice (some ⟨sg, 0, none⟩) o.s.length scx) o.s.length ([sv].map i32) :: bx x.X 55 #[.int .i64 0, .int .i32 0, .slice O m.out.length od, .int .i64 (t1 : Int), .slice x.A1 nb x.d1, .slice x.A2 nb x.d2, .slice x.A3 (allG l l.length).length x.d3, .slice x.A4 l.length x.d4, .int .i64 (x.F : Int), .int .i64 ((K.length : Int) + 1), .int .i64 x.start] :: bx xb 50 #[.pointer (some ⟨x.X, 0, none⟩)] :: ow w.heap.size 21 1 (.slice O m.out.length od) m.out.length (m.out.map i32) :: ow w.heap.size 21 1 (.slice (some ⟨rg, 0, none⟩) R R) R (r.map i32) :: bx rb 42 #[.slice (some ⟨rg, 0, none⟩) R R] :: bB :: bx ob 63 #[.int .i64 o.op, .slice Ad o.d.length cd, .slice As o.s.length cs, .int .i64 o.n, .string o.nm, .int .i64 o.ty.k, .string o.ty.nm, .slice Tn o.ty.ns.length tcn, .slice Tp o.ty.ps.length tcp, .bool o.ty.many] :: (prD l w.heap.size x ++ (RR ++ base)))) := HS
  obtain ⟨a3, ha3⟩ := own_some (show w0.ownsRow w.heap.size 42 1 (.slice x.A3 (allG l l.length).length x.d3) (allG l l.length).length (x.vr.map Vr.val) from HS.out.ok (ow w.heap.size 42 1 (.slice x.A3 (allG l l.length).length x.d3) (allG l l.length).length (x.vr.map Vr.val)) (mc (mc (mc (mc (mc (mc (mc (mc (mc (List.mem_append_left _ (mc (mc (List.mem_cons_self ..)))))))))))))) (by omega)
  have HV3 : Hid (∀ Y : World, Y.ownsRow w.heap.size 42 1 (.slice x.A3 (allG l l.length).length x.d3) (allG l l.length).length (x.vr.map Vr.val) → Y.cell? ⟨a3, jn, none⟩ = some (.slice (some ⟨vb, 0, none⟩) vn 2)) := fun Y hY => by rw [ha3] at hY; exact own_at5 hY jn _ hvr
  have HMB : Hid (mpB mp ∈ prD l w.heap.size x) := by
   have h := List.mem_of_getElem? HMPX.out
   exact mc (mc (mc (mc (List.mem_map.2 ⟨mp, h, rfl⟩))))
  have hnv : (allG l l.length).length ≤ 1000 := by have := allG_len (l := l) (fun u hu => by obtain ⟨j, hj, rfl⟩ := List.getElem_of_mem hu; exact HH2.out j hj) l.length; rw [List.take_length] at this; have := HL.out.n4; omega
  have hfd : ∀ W, (Instr.field 93 (.agg #[.bool tfn, .string tt, .int .i64 (jn : Int), .int .i64 tk, .string tnm, .slice tA ta tca, .slice tB tb tcb, .bool tmany]) 2).run Tryz.prog W = .ok (.int .i64 (jn : Int)) W := fun _ => rfl
  have j1 : (jn : Int) < ((allG l l.length).length : Int) := by omega
  have j2 : (0 : Int) ≤ (jn : Int) := by omega
  have j3 : (jn : Int) < 2000 := by omega
  clear hvr hj hnv
  clear hnm kn2 kn1
  obtain ⟨N, hN, hN2⟩ : ∃ N : Nat, o.n = (N : Int) ∧ N < 2 := ⟨o.n.toNat, by omega, by omega⟩
  have HNV := Lh hN
  have HP3 : Hid (∀ Y, Blk Y ob 63 #[.int .i64 o.op, .slice Ad o.d.length cd, .slice As o.s.length cs, .int .i64 o.n, .string o.nm, .int .i64 o.ty.k, .string o.ty.nm, .slice Tn o.ty.ns.length tcn, .slice Tp o.ty.ps.length tcp, .bool o.ty.many] → Y.cell? ⟨ob, 3, none⟩ = some (.int .i64 (N : Int))) := fun Y h => by have h2 : Y.cell? ⟨ob, 3, none⟩ = some (.int .i64 o.n) := h.cell 3 _ rfl; rw [HNV.out] at h2; exact h2
  have v1 : (N : Int) < (vn : Int) := by rw [← HNV.out]; exact hon
  have v1n : N < vn := by omega
  have v2 : (0 : Int) ≤ (N : Int) := by omega
  have v3 : (N : Int) < 9 := by omega
  have HN2 := Lh (show N = 0 ∨ N = 1 by omega)
  have HVN : Hid (∀ Y, Blk Y vb 21 #[.int .i32 (getV m.vs (pv, pi) 0), .int .i32 (getV m.vs (pv, pi) 1)] → Y.cell? ⟨vb, N, none⟩ = some (.int .i32 (getV m.vs (pv, pi) (N : Int)))) := fun Y h => by rcases HN2.out with rfl | rfl; exact h.cell 0 _ rfl; exact h.cell 1 _ rfl
  clear hon hN hN2 hnn
  have HMM : Hid (MsOk l (⟨setV m.vs (pv, pi) (N : Int) sv, m.out⟩ : Ms)) := HM.out.set (p := (pv, pi)) hv1 (N : Int) (x := sv) ⟨hsv1, hsv2⟩ m.out
  have HVW : Hid (((vrW x.vr (setV m.vs (pv, pi) (N : Int) sv).flatten).map varB).Perm (bx vb 21 (#[.int .i32 (getV m.vs (pv, pi) 0), .int .i32 (getV m.vs (pv, pi) 1)].setIfInBounds N (.int .i32 sv)) :: RR)) := by rcases HN2.out with rfl | rfl; exact HV1.out sv; exact HV2.out sv
  have HGO : Hid (run l n0 ⟨u, i, (setR r o.d []), bs, (pc + 1)⟩ K ⟨setV m.vs (pv, pi) (N : Int) sv, m.out⟩ t1 = E) := by
   have ha := act_5 (m := m) HOQ.out
   rw [HORD.out] at ha
   rw [HSQ.out] at ha
   rw [HPQ.out, HNV.out] at ha
   rw [setR_nil]
   have hr := (run_go ha).symm.trans HER.out
   rw [← HT1.out.1] at hr
   exact hr
  go_upto_region 33 with (fail)
  replace HS := Lh HS.out.drew
  refine dQ (fun W => At W xb 0 (.pointer (some ⟨x.X, 0, none⟩)) ∧ At W (x.X) 6 (.slice (some ⟨a3, 0, none⟩) (allG l l.length).length x.d3) ∧ At W ob 4 (.string o.nm) ∧ (Instr.lookup 57 (.map (some mp.1)) (.string o.nm) false).run Tryz.prog W = .ok (.agg #[.bool tfn, .string tt, .int .i64 (jn : Int), .int .i64 tk, .string tnm, .slice tA ta tca, .slice tB tb tcb, .bool tmany]) W ∧ At W a3 jn (.slice (some ⟨vb, 0, none⟩) vn 2) ∧ At W ob 3 (.int .i64 (N : Int)) ∧ At W sg 0 (.int .i32 sv)) (⟨HS.out.c 3 0, (by have h6 := HS.out.c 2 6; simp only [ha3] at h6; exact h6), HS.out.c 8 4, HLK.out _ (HS.out.ok (mpB mp) (mc (mc (mc (mc (mc (mc (mc (mc (mc (List.mem_append_left _ (HMB.out)))))))))))), HV3.out _ (HS.out.ok (ow w.heap.size 42 1 (.slice x.A3 (allG l l.length).length x.d3) (allG l l.length).length (x.vr.map Vr.val)) (mc (mc (mc (mc (mc (mc (mc (mc (mc (List.mem_append_left _ (mc (mc (List.mem_cons_self ..)))))))))))))), HP3.out _ (HS.out.blk 8 rfl), own_at5 (HS.out.own 1 rfl) 0 _ rfl⟩) fun _ => ?_
  generalize w0.drew = w1 at *
  refine tQ4d 0 1 2 3 ?_; try simp only [sq]
  refine tQ4d 4 5 6 7 ?_; try simp only [sq]
  refine tQ4d 8 9 10 11 ?_; try simp only [sq]
  refine tQ4d 12 13 14 15 ?_; try simp only [sq]
  refine tQd 16 ?_; try simp only [sq]
  refine rQ 17 (fun K hK => ?_)
  have f0 := HS.out.one.free N
  have g0 := HVN.out _ HS.out.one
  go_simp
  clear f0 g0
  replace HS := Lh (HS.out.put1 N (.int .i32 sv))
  generalize w1.setCell _ _ = w2 at *
  refine hK.out _ _ (⟨HS.out.c 3 0, (by have h6 := HS.out.c 2 6; simp only [ha3] at h6; exact h6), HS.out.c 8 4, HLK.out _ (HS.out.ok (mpB mp) (mc (mc (mc (mc (mc (mc (mc (mc (mc (List.mem_append_left _ (HMB.out)))))))))))), HV3.out _ (HS.out.ok (ow w.heap.size 42 1 (.slice x.A3 (allG l l.length).length x.d3) (allG l l.length).length (x.vr.map Vr.val)) (mc (mc (mc (mc (mc (mc (mc (mc (mc (List.mem_append_left _ (mc (mc (List.mem_cons_self ..)))))))))))))), HP3.out _ (HS.out.blk 8 rfl), own_at5 (HS.out.own 1 rfl) 0 _ rfl⟩) (fun _ => ?_)
  clear hK K
  try simp only [sq]
  refine fQ ?_ _
  go_wp2_with fail
  clear v1 v1n v2 v3 j1 j2 j3 gs gsn hfd
  replace HS := Lh (HS.out.perm (var_front (F := [ow w.heap.size 21 1 (.slice (some ⟨sg, 0, none⟩) o.s.length scx) o.s.length ([sv].map i32), bx x.X 55 #[.int .i64 0, .int .i32 0, .slice O m.out.length od, .int .i64 (t1 : Int), .slice x.A1 nb x.d1, .slice x.A2 nb x.d2, .slice x.A3 (allG l l.length).length x.d3, .slice x.A4 l.length x.d4, .int .i64 (x.F : Int), .int .i64 ((K.length : Int) + 1), .int .i64 x.start], bx xb 50 #[.pointer (some ⟨x.X, 0, none⟩)], ow w.heap.size 21 1 (.slice O m.out.length od) m.out.length (m.out.map i32), ow w.heap.size 21 1 (.slice (some ⟨rg, 0, none⟩) R R) R (r.map i32), bx rb 42 #[.slice (some ⟨rg, 0, none⟩) R R], bB, bx ob 63 #[.int .i64 o.op, .slice Ad o.d.length cd, .slice As o.s.length cs, .int .i64 o.n, .string o.nm, .int .i64 o.ty.k, .string o.ty.nm, .slice Tn o.ty.ns.length tcn, .slice Tp o.ty.ps.length tcp, .bool o.ty.many]]) (D := prD l w.heap.size x) (base := base) HVW.out).symm)
  have HS2 : Hid (Hp w w2 (ow w.heap.size 21 1 (.slice (some ⟨sg, 0, none⟩) o.s.length scx) o.s.length ([sv].map i32) :: bx x.X 55 #[.int .i64 0, .int .i32 0, .slice O m.out.length od, .int .i64 (t1 : Int), .slice x.A1 nb x.d1, .slice x.A2 nb x.d2, .slice x.A3 (allG l l.length).length x.d3, .slice x.A4 l.length x.d4, .int .i64 (x.F : Int), .int .i64 ((K.length : Int) + 1), .int .i64 x.start] :: bx xb 50 #[.pointer (some ⟨x.X, 0, none⟩)] :: ow w.heap.size 21 1 (.slice O m.out.length od) m.out.length (m.out.map i32) :: ow w.heap.size 21 1 (.slice (some ⟨rg, 0, none⟩) R R) R (r.map i32) :: bx rb 42 #[.slice (some ⟨rg, 0, none⟩) R R] :: bB :: bx ob 63 #[.int .i64 o.op, .slice Ad o.d.length cd, .slice As o.s.length cs, .int .i64 o.n, .string o.nm, .int .i64 o.ty.k, .string o.ty.nm, .slice Tn o.ty.ns.length tcn, .slice Tp o.ty.ps.length tcp, .bool o.ty.many] :: (prC l w.heap.size x (⟨setV m.vs (pv, pi) (N : Int) sv, m.out⟩ : Ms).vs base))) := by show Hp _ _ _; rw [prC_D]; exact HS.out
  replace HS := HS2
  clear HS2
  replace HS := Lh (HS.out.row0 w.heap.size 21 1)
  replace HS := Lh HS.out.f1.drop.f6.f6.f4.f6.f6.f6.f7.f7
  refine HFIN.out _ _ _ _ ⟨_, _, _, _, _, _, _, _, _, rfl, rfl⟩ ?_
  exact ⟨n0, t1, (pc + 1), (⟨setV m.vs (pv, pi) (N : Int) sv, m.out⟩ : Ms), O, od, [], _, _, by go_num, rfl, Lh ⟨HT1.out.2.1, Nat.le_refl _, by have := HT1.out; omega, by have := HT1.out; show m.out.length ≤ t1; omega⟩, Lh ⟨HDD.out.symm, fun y hy => by simp at hy⟩, Lh (by rw [setR_nil]; exact HF.out.at HNP.out), HMM, HGO, HS⟩
 ·rw [hop]
  have HOP := Lh hop
  clear hop
  have HOQ : Hid ((ord l ⟨u, i, r, bs, pc⟩).op = 6) := by show _ = _; rw [HORD.out]; exact HOP.out
  have HNP : Hid (pc + 1 < (bod l u i).code.length) := HF.out.nxt HL.out (by rw [HOQ.out]; decide) (by rw [HOQ.out]; decide)
  obtain ⟨hd1, hs0, hnm⟩ := HOO.out.o6 HOP.out
  have HDD := Lh hd1
  clear hd1 hs0
  obtain ⟨kn2, kn1, kn7, kns⟩ := spk_name (u := unAt l u) (o := o) (by have := HF.out.spk HL.out; rw [HORD.out] at this; exact this) hnm
  rw [HOP.out] at kn1
  have HFV := fnd_fun HL.out HF.out.hu kn2 kn1
  obtain ⟨tv, hlk, htn⟩ := HPO.out.nm u mp HMPX.out o.nm kn2
  rw [kn1] at htn
  have hsz : o.nm.size ≤ maxLen := nm_max hnm
  have HLK : Hid (∀ Y : World, MapIs Tryz.prog 9 Y mp.1 (gM Tv.val mp.2) → (Instr.lookup 57 (.map (some mp.1)) (.string o.nm) false).run Tryz.prog Y = .ok (.agg #[.bool tv.fn, .string tv.t, .int .i64 tv.n, .int .i64 tv.k, .string tv.nm, .slice tv.A tv.a tv.ca, .slice tv.B tv.b tv.cb, .bool tv.many]) Y) := fun Y hY => by
   have hl := look_tv1 hY o.nm hsz
   rw [hlk] at hl
   exact hl
  obtain ⟨⟨pv, pi⟩, hp⟩ : ∃ p, fnd l u o.nm = p := ⟨_, rfl⟩
  rw [hp] at HFV htn
  have HPQ := Lh hp
  dsimp only at HFV htn
  obtain ⟨hv1, hv2, hv3⟩ := HFV
  clear hp hlk hsz
  rw [if_pos (by decide)] at htn
  have hnb : nmb l (pv, pi) < 1000 := by
   have h2 : pi < l[pv].bs.length := by rwa [unAt_at hv1] at hv2
   obtain ⟨h3, -⟩ := allB_at hv1 h2 (k := l.length) hv1
   have := allB_len (l := l) (fun u hu => by obtain ⟨j, hj, rfl⟩ := List.getElem_of_mem hu; exact HH.out j hj) l.length
   rw [List.take_length] at this
   have := HL.out.n4
   unfold nmb
   dsimp only
   omega
  obtain ⟨tfn, tt, ttn, tk, tnm, tA, ta, tca, tB, tb, tcb, tmany⟩ := tv
  dsimp only at HLK htn
  subst htn
  generalize hnn : nmb l (pv, pi) = nm2 at *
  have HNN := Lh hnn
  clear hnn
  have hfd : ∀ W, (Instr.field 93 (.agg #[.bool tfn, .string tt, .int .i64 (nm2 : Int), .int .i64 tk, .string tnm, .slice tA ta tca, .slice tB tb tcb, .bool tmany]) 2).run Tryz.prog W = .ok (.int .i64 (nm2 : Int)) W := fun _ => rfl
  have hl := HLK.out w0 (HMP.out _ _ HS.out.drop.drop.drop.drop.drop.drop.drop.drop).2
  have p4 := HS.out.c 7 4
  have HWN : Hid (W32 (nm2 : Int)) := ⟨by omega, by omega⟩
  have hwn : IntKind.i32.wrap (nm2 : Int) = (nm2 : Int) := by rw [IntKind.wrap_i32]; omega
  have HGO : Hid (run l n0 ⟨u, i, (setR r o.d [(nm2 : Int)]), bs, (pc + 1)⟩ K m t1 = E) := by
   have ha := act_6 (m := m) HOQ.out
   rw [HORD.out] at ha
   rw [HPQ.out, HNN.out] at ha
   have hr := (run_go ha).symm.trans HER.out
   rw [← HT1.out.1] at hr
   exact hr
  clear hnm kn2 kn1 kn7 kns hv1 hv2 hv3 hnb
  go_wp2_with fail
  clear hl p4 hwn HLK hfd
  replace HS := Lh (HS.out.lit1 ((nm2 : Int)))
  generalize w0.alloc _ = w1 at *
  generalize w0.heap.size = dg at *
  replace HS := Lh HS.out.f1.drop.f6.f6.f4.f6.f6.f6.f7.f7
  refine HFIN.out _ _ _ _ ⟨_, _, _, _, _, _, _, _, _, rfl, rfl⟩ ?_
  exact ⟨n0, t1, (pc + 1), m, O, od, [(nm2 : Int)], _, _, by go_num, rfl, Lh ⟨HT1.out.2.1, Nat.le_refl _, by have := HT1.out; omega, by have := HT1.out; show m.out.length ≤ t1; omega⟩, Lh ⟨HDD.out.symm, fun y hy => by rw [List.mem_singleton] at hy; rw [hy]; exact HWN.out⟩, Lh (HF.out.set (fun y hy => by rw [List.mem_singleton] at hy; rw [hy]; exact HWN.out) HNP.out), HM, HGO, HS⟩
theorem ord_d : OrdG (fun k => k = 11 ∨ k = 12) := by
 unfold OrdG
 intro l w x base n u i bs K E nb R xb rb rg bb ob Ba bc mp bB o r Ad As Tn Tp cd cs tcn tcp m O od t t1 n0 pc scx a1 a4 sl Sx KC K1 z0 z1 z2 z4 z5 z9 z23 z24 z25 z26 z27 z28 z29 z30 z31 z32 z33 z34 z35 z36 z37 z38 z39 z40 z41 z42 z43 z44 z45 z46 z47 z48 z49 z50 z51 z52 z53 z54 z55 z56 z57 z58 z59 z60 z61 z62 z63 z64 z65 z66 z67 z68 z69 z70 z71 z6 a W HFIN HIH HL HH HH2 HPO HML HMPX HMP HF HM HER HT1 HOO HORD HRT HBA HNB HK3 HSQ HSL HGL hs100 HA HOP0 HS hS
 obtain ⟨y14, y17, y18, y19, y20, y21, y22, y, hy, hy2, rfl⟩ := hS
 obtain ⟨f, rfl⟩ := late232 hy
 replace hy2 : f 34 = .int .i64 o.op := by injection hy2
 rw [hy2]
 clear hy hy2
 obtain ⟨w0, rfl⟩ : ∃ y, y = W := ⟨_, rfl⟩
 unfold cSw cLp
 conv => arg 2; whnf
 have hop := HOP0.out
 rcases hop with hop | hop
 ·rw [hop]
  have HOP := Lh hop
  clear hop
  have HOQ : Hid ((ord l ⟨u, i, r, bs, pc⟩).op = 11) := by show _ = _; rw [HORD.out]; exact HOP.out
  have HNP : Hid (pc + 1 < (bod l u i).code.length) := HF.out.nxt HL.out (by rw [HOQ.out]; decide) (by rw [HOQ.out]; decide)
  obtain ⟨hd0, hs1⟩ := HOO.out.o11 HOP.out
  have HDD := Lh hd0
  clear hd0
  obtain ⟨sv, rfl⟩ : ∃ v, sl = [v] := List.length_eq_one_iff.1 (HSL.out.trans hs1)
  have hsv : W32 sv := src_w (f := ⟨u, i, r, bs, pc⟩) (o := o) HF.out.rv sv (by rw [HSQ.out]; simp)
  obtain ⟨sg, rfl⟩ := own_some (HS.out.own 0 rfl) (by omega)
  have s0 : w0.cell? ⟨sg, 0, none⟩ = some (.int .i32 sv) := own_at5 (HS.out.own 0 rfl) 0 _ rfl
  have gs : (0 : Int) < (o.s.length : Int) := by omega
  have gsn : 0 < o.s.length := by omega
  have hsv1 := hsv.1
  have hsv2 := hsv.2
  clear hsv
  clear hs1
  have HGO : Hid (run l n0 ⟨u, i, (setR r o.d []), bs, (pc + 1)⟩ K ⟨m.vs, m.out ++ [sv]⟩ t1 = E) := by
   have ha := act_11 (m := m) HOQ.out
   rw [HORD.out] at ha
   rw [HSQ.out] at ha
   rw [setR_nil]
   have hr := (run_go ha).symm.trans HER.out
   rw [← HT1.out.1] at hr
   exact hr
  go_upto_region 49 with (fail)
  clear s0
  have ho1 : m.out.length ≤ 300000 := by have := HT1.out; omega
  replace HS := Lh HS.out.drew
  refine dQ (fun W => At W sg 0 (.int .i32 sv) ∧ At W xb 0 (.pointer (some ⟨x.X, 0, none⟩))) (⟨own_at5 (HS.out.own 0 rfl) 0 _ rfl, HS.out.c 2 0⟩) fun _ => ?_
  generalize w0.drew = w1 at *
  refine tQ4d 0 1 2 3 ?_; try simp only [sq]
  refine tQ4d 4 6 7 8 ?_; try simp only [sq]
  refine wpAnyH_grp [⟨5, some 249, []⟩, ⟨9, some 253, []⟩] 5 (fun vs W => ∃ y_ : Nat, Hid (Hp w W (ifq (vs 9) (bx y_ 21 #[.int .i32 sv]) ++ (ow w.heap.size 21 1 (.slice (some ⟨sg, 0, none⟩) o.s.length scx) o.s.length ([sv].map i32) :: bx x.X 55 #[.int .i64 0, .int .i32 0, .slice O m.out.length od, .int .i64 (t1 : Int), .slice x.A1 nb x.d1, .slice x.A2 nb x.d2, .slice x.A3 (allG l l.length).length x.d3, .slice x.A4 l.length x.d4, .int .i64 (x.F : Int), .int .i64 ((K.length : Int) + 1), .int .i64 x.start] :: bx xb 50 #[.pointer (some ⟨x.X, 0, none⟩)] :: ow w.heap.size 21 1 (.slice O m.out.length od) m.out.length (m.out.map i32) :: ow w.heap.size 21 1 (.slice (some ⟨rg, 0, none⟩) R R) R (r.map i32) :: bx rb 42 #[.slice (some ⟨rg, 0, none⟩) R R] :: bB :: bx ob 63 #[.int .i64 o.op, .slice Ad o.d.length cd, .slice As o.s.length cs, .int .i64 o.n, .string o.nm, .int .i64 o.ty.k, .string o.ty.nm, .slice Tn o.ty.ns.length tcn, .slice Tp o.ty.ps.length tcp, .bool o.ty.many] :: (prC l w.heap.size x m.vs base)))) ∧ OV (vs 5) (.slice (O) (m.out.length) (od)) ∧ OV (vs 9) (.slice (some ⟨y_, 0, none⟩) 1 1)) (by rfl) (by decide +kernel) ⟨0, HS, OP.no _ rfl, OP.no _ rfl⟩ (fun vs W ⟨y_, HS, _⟩ => ⟨own_at5 (show W.ownsRow _ _ _ _ _ _ from HS.out.ok (ow w.heap.size 21 1 (.slice (some ⟨sg, 0, none⟩) o.s.length scx) o.s.length ([sv].map i32)) (by simp)) 0 _ rfl, (show Blk W xb _ _ from HS.out.ok (bx xb 50 #[.pointer (some ⟨x.X, 0, none⟩)]) (by simp)).cell 0 _ rfl⟩) ⟨?_, ?_, trivial⟩ ?_
  ·clear HS; refine ⟨_, rfl, fun vs W h5 hd hn ⟨y_, HS, e5, e9⟩ => ?_⟩
   have hk := HS.out.ok (bx x.X 55 #[.int .i64 0, .int .i32 0, .slice O m.out.length od, .int .i64 (t1 : Int), .slice x.A1 nb x.d1, .slice x.A2 nb x.d2, .slice x.A3 (allG l l.length).length x.d3, .slice x.A4 l.length x.d4, .int .i64 (x.F : Int), .int .i64 ((K.length : Int) + 1), .int .i64 x.start]) (by simp)
   have hk := (show Blk W x.X 55 #[.int .i64 0, .int .i32 0, .slice O m.out.length od, .int .i64 (t1 : Int), .slice x.A1 nb x.d1, .slice x.A2 nb x.d2, .slice x.A3 (allG l l.length).length x.d3, .slice x.A4 l.length x.d4, .int .i64 (x.F : Int), .int .i64 ((K.length : Int) + 1), .int .i64 x.start] from hk)
   have c2 := hk.cell 2 _ rfl
   clear hk
   simp only [actG, old, Option.getD_some]; try simp only [sq]; intro K hK
   go_simp
   exact hK.out _ _ ⟨y_, HS, OP.is rfl, e9⟩
  ·clear HS; refine ⟨_, rfl, fun vs W h9 hd hn ⟨y_, HS, e5, e9⟩ => ?_⟩
   rw [h9] at HS
   simp only [actG, old, Option.getD_some]; try simp only [sq]; intro K hK
   go_simp
   exact hK.out _ _ ⟨W.heap.size, Lh (HS.out.box 21 #[.int .i32 sv]), e5, OP.is rfl⟩
  clear HS; intro vs W ⟨y_, HS, e5, e9⟩ hall
  obtain ⟨⟨v5, h5⟩, ⟨v9, h9⟩, -⟩ := hall
  obtain rfl := e5 _ h5
  obtain rfl := e9 _ h9
  rw [h9] at HS
  simp only [ifq, List.cons_append, List.nil_append] at HS
  simp only [actG, lisG, old, h5, h9, Option.getD_some, Option.isSome_some, if_true, List.length_cons, List.length_nil]; try simp only [sq]
  clear h5 e5 h9 e9 vs
  obtain ⟨w2, rfl⟩ : ∃ x, x = W := ⟨_, rfl⟩
  refine rQ 10 (fun K hK => ?_)
  replace HS := Lh HS.out.f4
  refine oper_push_own HS.out (Nat.le_refl _) _ _ 42 4 rfl Tryz.underlying42 elt_i32 (by rfl) ⟨y_, 0, none⟩ 1 _ [.int .i32 sv] (by rfl) (by rfl) (HS.out.blk 1 rfl).news (by simp [Value.oneCell']) (by unfold maxLen; omega) (by omega) ?_
  clear HS; intro Ox odx w3 HS
  refine hK.out _ _ (⟨own_at5 (HS.out.own 2 rfl) 0 _ rfl, HS.out.c 4 0⟩) (fun _ => ?_)
  clear hK K
  try simp only [sq]
  replace HS := Lh HS.out.f1.drop
  refine tQ2d 11 12 ?_; try simp only [sq]
  refine tQd 13 ?_; try simp only [sq]
  refine rQ 14 (fun K hK => ?_)
  replace HS := Lh HS.out.f2
  have f2 := (HS.out.blk 0 rfl).free 2
  have g2 := HS.out.c 0 2
  go_simp
  clear f2 g2
  replace HS := Lh (HS.out.put1 2 (.slice Ox (m.out.length + 1) odx))
  simp only [sq] at HS
  generalize w3.setCell _ _ = w4 at *
  refine hK.out _ _ (⟨own_at5 (HS.out.own 2 rfl) 0 _ rfl, HS.out.c 3 0⟩) (fun _ => ?_)
  clear hK K
  try simp only [sq]
  refine fQ ?_ _
  clear gs gsn ho1
  go_wp2_with fail
  have HS2 : Hid (Hp w w4 (bx x.X 55 #[.int .i64 0, .int .i32 0, .slice Ox (⟨m.vs, m.out ++ [sv]⟩ : Ms).out.length odx, .int .i64 (t1 : Int), .slice x.A1 nb x.d1, .slice x.A2 nb x.d2, .slice x.A3 (allG l l.length).length x.d3, .slice x.A4 l.length x.d4, .int .i64 (x.F : Int), .int .i64 ((K.length : Int) + 1), .int .i64 x.start] :: ow w.heap.size 21 1 (.slice Ox (⟨m.vs, m.out ++ [sv]⟩ : Ms).out.length odx) (⟨m.vs, m.out ++ [sv]⟩ : Ms).out.length ((⟨m.vs, m.out ++ [sv]⟩ : Ms).out.map i32) :: ow w.heap.size 21 1 (.slice (some ⟨sg, 0, none⟩) o.s.length scx) o.s.length ([sv].map i32) :: bx xb 50 #[.pointer (some ⟨x.X, 0, none⟩)] :: ow w.heap.size 21 1 (.slice (some ⟨rg, 0, none⟩) R R) R (r.map i32) :: bx rb 42 #[.slice (some ⟨rg, 0, none⟩) R R] :: bB :: bx ob 63 #[.int .i64 o.op, .slice Ad o.d.length cd, .slice As o.s.length cs, .int .i64 o.n, .string o.nm, .int .i64 o.ty.k, .string o.ty.nm, .slice Tn o.ty.ns.length tcn, .slice Tp o.ty.ps.length tcp, .bool o.ty.many] :: (prC l w.heap.size x (⟨m.vs, m.out ++ [sv]⟩ : Ms).vs base))) := by show Hp _ _ _; dsimp only; rw [List.length_append, List.map_append]; exact HS.out
  replace HS := HS2
  clear HS2
  replace HS := Lh (HS.out.row0 w.heap.size 21 1)
  replace HS := Lh HS.out.f3.drop.f6.f6.f5.f6.f6.f6.f7.f7
  refine HFIN.out _ _ _ _ ⟨_, _, _, _, _, _, _, _, _, rfl, rfl⟩ ?_
  exact ⟨n0, t1, (pc + 1), (⟨m.vs, m.out ++ [sv]⟩ : Ms), Ox, odx, [], _, _, by go_num, rfl, Lh ⟨HT1.out.2.1, Nat.le_refl _, by have := HT1.out; omega, by have := HT1.out; show (m.out ++ [sv]).length ≤ t1; rw [List.length_append]; simp; omega⟩, Lh ⟨HDD.out.symm, fun y hy => by simp at hy⟩, Lh (by rw [setR_nil]; exact HF.out.at HNP.out), (Lh (HM.out.out _)), HGO, HS⟩
 ·rw [hop]
  have HOP := Lh hop
  clear hop
  have HOQ : Hid ((ord l ⟨u, i, r, bs, pc⟩).op = 12) := by show _ = _; rw [HORD.out]; exact HOP.out
  obtain ⟨hd0, hs0⟩ := HOO.out.o12 HOP.out
  have HSR : Hid (sl.length = resW (bod l u i).ty) := HSL.out.trans hs0
  clear hd0 hs0
  have HSW : Hid (∀ y ∈ sl, W32 y) := fun y hy => src_w (f := ⟨u, i, r, bs, pc⟩) (o := o) HF.out.rv y (by rw [HSQ.out]; exact hy)
  have HRG : Hid (rgv l n0 K sl m t1 = E) := by
   have ha := act_12 (m := m) HOQ.out
   rw [HORD.out, HSQ.out] at ha
   have hr := (run_ret ha).symm.trans HER.out
   rw [← HT1.out.1] at hr
   exact hr
  replace HS := Lh HS.out.f7.drop.f4.drop.f4.drop.f4.drop.f3.f1.f3.f3
  go_wp2_with fail
  refine leaves_cons (f := 77) (args := #[.pointer (some ⟨xb, 0, none⟩)]) (by simp) (by simp [go_sem]) ?_
  refine (deep_any (d := K.length) .returning HS.out (by have := HK3.out.2; omega)).mono ?_
  rintro e u' W' ⟨rfl, rfl, hH⟩
  refine ⟨_, results_tmp Tryz.results61 _ _ _, ?_⟩
  refine .inl ⟨n0, t1, sl, Sx, scx, m, O, od, by simp [HSL.out], ?_, HSR.out, HSW.out, HM.out, by have := HT1.out; omega, HT1.out.2.1, by have := HT1.out; omega, HRG.out⟩
  show Hp _ _ _
  unfold prP rI
  rw [show (allB l l.length).length = nbl l from rfl, HNB.out, HSL.out]
  exact hH.f1.drop.f1
theorem ord_e : OrdG (fun k => k = 7) := by
 unfold OrdG
 intro l w x base n u i bs K E nb R xb rb rg bb ob Ba bc mp bB o r Ad As Tn Tp cd cs tcn tcp m O od t t1 n0 pc scx a1 a4 sl Sx KC K1 z0 z1 z2 z4 z5 z9 z23 z24 z25 z26 z27 z28 z29 z30 z31 z32 z33 z34 z35 z36 z37 z38 z39 z40 z41 z42 z43 z44 z45 z46 z47 z48 z49 z50 z51 z52 z53 z54 z55 z56 z57 z58 z59 z60 z61 z62 z63 z64 z65 z66 z67 z68 z69 z70 z71 z6 a W HFIN HIH HL HH HH2 HPO HML HMPX HMP HF HM HER HT1 HOO HORD HRT HBA HNB HK3 HSQ HSL HGL hs100 HA HOP0 HS hS
 obtain ⟨y14, y17, y18, y19, y20, y21, y22, y, hy, hy2, rfl⟩ := hS
 obtain ⟨f, rfl⟩ := late232 hy
 replace hy2 : f 34 = .int .i64 o.op := by injection hy2
 rw [hy2]
 clear hy hy2
 obtain ⟨w0, rfl⟩ : ∃ y, y = W := ⟨_, rfl⟩
 unfold cSw cLp
 conv => arg 2; whnf
 have hop := HOP0.out
 ·rw [hop]
  have HOP := Lh hop
  clear hop
  have HOQ : Hid ((ord l ⟨u, i, r, bs, pc⟩).op = 7) := by show _ = _; rw [HORD.out]; exact HOP.out
  have HNP : Hid (pc + 1 < (bod l u i).code.length) := HF.out.nxt HL.out (by rw [HOQ.out]; decide) (by rw [HOQ.out]; decide)
  obtain ⟨hd1, hsp, hnm, hmy⟩ := HOO.out.o7 HOP.out
  clear hsp hmy hd1
  obtain ⟨kn2, kn1, kn7, kns⟩ := spk_name (u := unAt l u) (o := o) (by have := HF.out.spk HL.out; rw [HORD.out] at this; exact this) hnm
  rw [HOP.out] at kn1
  have HFV := fnd_fun HL.out HF.out.hu kn2 kn1
  obtain ⟨tv, hlk, htn⟩ := HPO.out.nm u mp HMPX.out o.nm kn2
  rw [kn1] at htn
  have hsz : o.nm.size ≤ maxLen := nm_max hnm
  have HLK : Hid (∀ Y : World, MapIs Tryz.prog 9 Y mp.1 (gM Tv.val mp.2) → (Instr.lookup 57 (.map (some mp.1)) (.string o.nm) false).run Tryz.prog Y = .ok (.agg #[.bool tv.fn, .string tv.t, .int .i64 tv.n, .int .i64 tv.k, .string tv.nm, .slice tv.A tv.a tv.ca, .slice tv.B tv.b tv.cb, .bool tv.many]) Y) := fun Y hY => by
   have hl := look_tv1 hY o.nm hsz
   rw [hlk] at hl
   exact hl
  obtain ⟨⟨pv, pi⟩, hp⟩ : ∃ p, fnd l u o.nm = p := ⟨_, rfl⟩
  rw [hp] at HFV htn
  have HPQ := Lh hp
  dsimp only at HFV htn
  obtain ⟨hv1, hv2, hv3⟩ := HFV
  clear hp hlk hsz
  rw [if_pos (by decide)] at htn
  have hnb : nmb l (pv, pi) < 1000 := by
   have h2 : pi < l[pv].bs.length := by rwa [unAt_at hv1] at hv2
   obtain ⟨h3, -⟩ := allB_at hv1 h2 (k := l.length) hv1
   have := allB_len (l := l) (fun u hu => by obtain ⟨j, hj, rfl⟩ := List.getElem_of_mem hu; exact HH.out j hj) l.length
   rw [List.take_length] at this
   have := HL.out.n4
   unfold nmb
   dsimp only
   omega
  obtain ⟨tfn, tt, ttn, tk, tnm, tA, ta, tca, tB, tb, tcb, tmany⟩ := tv
  dsimp only at HLK htn
  subst htn
  generalize hnn : nmb l (pv, pi) = nm2 at *
  have HNN := Lh hnn
  clear hnn
  have hfd : ∀ W, (Instr.field 93 (.agg #[.bool tfn, .string tt, .int .i64 (nm2 : Int), .int .i64 tk, .string tnm, .slice tA ta tca, .slice tB tb tcb, .bool tmany]) 2).run Tryz.prog W = .ok (.int .i64 (nm2 : Int)) W := fun _ => rfl
  have hl := HLK.out w0 (HMP.out _ _ HS.out.drop.drop.drop.drop.drop.drop.drop.drop).2
  have p4 := HS.out.c 7 4
  have HA7 := arg_7 HL.out HF.out HOQ.out
  rw [HORD.out] at HA7
  dsimp only at HA7
  rw [HPQ.out, HSQ.out] at HA7
  have HAR : Hid (ArgOk l pv pi sl) := HA7.1
  have HDR : Hid (o.d.length = resW (bod l pv pi).ty) := HA7.2
  have HRC : Hid (rcl l n0 pv pi sl (⟨u, i, r, bs, pc + 1⟩ :: K) m t1 = E) := by
   have ha := act_7 (m := m) HOQ.out
   rw [HORD.out, HSQ.out] at ha
   dsimp only at ha
   rw [HPQ.out] at ha
   have hr := (run_call ha).symm.trans HER.out
   rw [← HT1.out.1] at hr
   exact hr
  clear HA7 hnm kn2 kn1 kn7 kns hv1 hv2 hv3 hnb
  have x0 := HS.out.c 2 0
  have HROOM : Hid (sl.length ≤ scx ∧ (Sx = none → scx = 0)) := by have h := own_room (HS.out.own 0 rfl); rw [← HSL.out] at h; exact h
  go_wp2_with fail
  clear hl p4 x0 HLK hfd
  rw [← HSL.out, ← HNN.out]
  have HS2 : Hid (Hp w w0 (rI w.heap.size (.slice Sx sl.length scx) sl :: bx x.X 55 #[.int .i64 0, .int .i32 0, .slice O m.out.length od, .int .i64 (t1 : Int), .slice x.A1 nb x.d1, .slice x.A2 nb x.d2, .slice x.A3 (allG l l.length).length x.d3, .slice x.A4 l.length x.d4, .int .i64 (x.F : Int), .int .i64 ((K.length : Int) + 1), .int .i64 x.start] :: bx xb 50 #[.pointer (some ⟨x.X, 0, none⟩)] :: ow w.heap.size 21 1 (.slice O m.out.length od) m.out.length (m.out.map i32) :: ow w.heap.size 21 1 (.slice (some ⟨rg, 0, none⟩) R R) R (r.map i32) :: bx rb 42 #[.slice (some ⟨rg, 0, none⟩) R R] :: bB :: bx ob 63 #[.int .i64 o.op, .slice Ad o.d.length cd, .slice As o.s.length cs, .int .i64 o.n, .string o.nm, .int .i64 o.ty.k, .string o.ty.nm, .slice Tn o.ty.ns.length tcn, .slice Tp o.ty.ps.length tcp, .bool o.ty.many] :: (prC l w.heap.size x m.vs base))) := by unfold rI; rw [HSL.out]; exact HS
  replace HS := HS2
  clear HS2
  replace HS := Lh HS.out.f7.f7.f7.f7.f6.f7.f7
  have HS2 : Hid (Hp w w0 (prP l w.heap.size x m.vs O od m.out 0 0 t1 ((⟨u, i, r, bs, pc + 1⟩ :: K).length : Int) ([bx xb 50 #[.pointer (some ⟨x.X, 0, none⟩)], ow w.heap.size 21 1 (.slice (some ⟨rg, 0, none⟩) R R) R (r.map i32), bx rb 42 #[.slice (some ⟨rg, 0, none⟩) R R], bB, bx ob 63 #[.int .i64 o.op, .slice Ad o.d.length cd, .slice As o.s.length cs, .int .i64 o.n, .string o.nm, .int .i64 o.ty.k, .string o.ty.nm, .slice Tn o.ty.ns.length tcn, .slice Tp o.ty.ps.length tcp, .bool o.ty.many], rI w.heap.size (.slice Sx sl.length scx) sl] ++ base))) := by
   have h2 := HS.out.perm (.cons _ (.cons _ (prC_in (F := [bx xb 50 #[.pointer (some ⟨x.X, 0, none⟩)], ow w.heap.size 21 1 (.slice (some ⟨rg, 0, none⟩) R R) R (r.map i32), bx rb 42 #[.slice (some ⟨rg, 0, none⟩) R R], bB, bx ob 63 #[.int .i64 o.op, .slice Ad o.d.length cd, .slice As o.s.length cs, .int .i64 o.n, .string o.nm, .int .i64 o.ty.k, .string o.ty.nm, .slice Tn o.ty.ns.length tcn, .slice Tp o.ty.ps.length tcp, .bool o.ty.many], rI w.heap.size (.slice Sx sl.length scx) sl]) base)))
   show Hp _ _ _
   unfold prP
   rw [show ((⟨u, i, r, bs, pc + 1⟩ :: K).length : Int) = ((K.length : Int) + 1) from by simp, show (allB l l.length).length = nbl l from rfl, HNB.out]
   exact h2
  replace HS := HS2
  clear HS2
  have HCA := Lh (HIH.out n0 (by have := HT1.out; omega) w0 pv pi sl (Sx) (scx) (⟨u, i, r, bs, pc + 1⟩ :: K) m t1 E ([bx xb 50 #[.pointer (some ⟨x.X, 0, none⟩)], ow w.heap.size 21 1 (.slice (some ⟨rg, 0, none⟩) R R) R (r.map i32), bx rb 42 #[.slice (some ⟨rg, 0, none⟩) R R], bB, bx ob 63 #[.int .i64 o.op, .slice Ad o.d.length cd, .slice As o.s.length cs, .int .i64 o.n, .string o.nm, .int .i64 o.ty.k, .string o.ty.nm, .slice Tn o.ty.ns.length tcn, .slice Tp o.ty.ps.length tcp, .bool o.ty.many], rI w.heap.size (.slice Sx sl.length scx) sl] ++ base) O od HT1.out.2.1 HAR.out (RowAt.own (B := w.heap.size) (c := scx) (HS.out.sub (by unfold prP prC; exact .cons _ (.cons _ (.cons _ (.cons _ (.cons _ (.cons _ (List.Sublist.trans (List.sublist_append_right _ _) (List.sublist_append_right _ _)))))))) ) (List.mem_append_left _ (by simp))) HROOM.out.1 HROOM.out.2 HM.out (by have := HT1.out; omega) (by have := HK3.out; simp; omega) HRC.out HS.out)
  refine (HCA.out).mono ?_
  clear HCA HS HROOM; intro e w1 hO
  rcases hO with ⟨n2, t2, s2, RV, rc2, m2, O2, od2, rfl, HS, hsr, hsw, hm2, ho2, hnt2, hn2, hrg⟩ | ⟨vs2, O2, od2, dp, hdp1, hdp2, rfl, HS, hE0⟩
  ·have HSR2 := Lh hsr
   have HSW2 := Lh hsw
   have HM2 := Lh hm2
   have HT2 := Lh (And.intro ho2 (And.intro hnt2 hn2))
   have HRN : Hid (run l n2 ⟨u, i, (setR r o.d s2), bs, (pc + 1)⟩ K m2 t2 = E) := by
    show _ = _
    rw [← hrg]
    show run l n2 ⟨u, i, (setR r o.d s2), bs, (pc + 1)⟩ K m2 t2 = run l n2 ⟨u, i, (setR r (ord l ⟨u, i, r, bs, pc⟩).d s2), bs, (pc + 1)⟩ K m2 t2
    rw [HORD.out]
   clear hsr hsw hm2 ho2 hnt2 hn2 hrg
   have HS2 : Hid (Hp w w1 (rI w.heap.size (.slice RV s2.length rc2) s2 :: bx x.X 55 #[.int .i64 0, .int .i32 0, .slice O2 m2.out.length od2, .int .i64 (t2 : Int), .slice x.A1 nb x.d1, .slice x.A2 nb x.d2, .slice x.A3 (allG l l.length).length x.d3, .slice x.A4 l.length x.d4, .int .i64 (x.F : Int), .int .i64 ((K.length : Int) + 1), .int .i64 x.start] :: ow w.heap.size 21 1 (.slice O2 m2.out.length od2) m2.out.length (m2.out.map i32) :: bx xb 50 #[.pointer (some ⟨x.X, 0, none⟩)] :: ow w.heap.size 21 1 (.slice (some ⟨rg, 0, none⟩) R R) R (r.map i32) :: bx rb 42 #[.slice (some ⟨rg, 0, none⟩) R R] :: bB :: bx ob 63 #[.int .i64 o.op, .slice Ad o.d.length cd, .slice As o.s.length cs, .int .i64 o.n, .string o.nm, .int .i64 o.ty.k, .string o.ty.nm, .slice Tn o.ty.ns.length tcn, .slice Tp o.ty.ps.length tcp, .bool o.ty.many] :: rI w.heap.size (.slice Sx sl.length scx) sl :: (prC l w.heap.size x m2.vs base))) := by
    have h2 := HS.out
    unfold prP at h2
    rw [show ((⟨u, i, r, bs, pc + 1⟩ :: K).length : Int) = ((K.length : Int) + 1) from by simp, show (allB l l.length).length = nbl l from rfl, HNB.out] at h2
    exact h2.perm (.cons _ (.cons _ (.cons _ (prC_in (F := [bx xb 50 #[.pointer (some ⟨x.X, 0, none⟩)], ow w.heap.size 21 1 (.slice (some ⟨rg, 0, none⟩) R R) R (r.map i32), bx rb 42 #[.slice (some ⟨rg, 0, none⟩) R R], bB, bx ob 63 #[.int .i64 o.op, .slice Ad o.d.length cd, .slice As o.s.length cs, .int .i64 o.n, .string o.nm, .int .i64 o.ty.k, .string o.ty.nm, .slice Tn o.ty.ns.length tcn, .slice Tp o.ty.ps.length tcp, .bool o.ty.many], rI w.heap.size (.slice Sx sl.length scx) sl]) base).symm)))
   replace HS := HS2
   clear HS2
   go_wp2_with fail
   replace HS := Lh HS.out.f8.drop.f6.f6.f5.f6.f6.f6.f7.f7
   refine HFIN.out _ _ _ _ ⟨_, _, _, _, _, _, _, _, _, rfl, rfl⟩ ?_
   exact ⟨n2, t2, pc + 1, m2, O2, od2, s2, RV, rc2, by go_num, rfl, Lh ⟨HT2.out.2.1, HT2.out.2.2, by have := HT1.out; omega, HT2.out.1⟩, Lh ⟨HSR2.out.trans HDR.out.symm, HSW2.out⟩, Lh (HF.out.set HSW2.out HNP.out), HM2, HRN, HS⟩
  ·have HDP := Lh (And.intro hdp1 hdp2)
   have HE0 := Lh hE0
   clear hdp1 hdp2 hE0
   have HS2 := HS.out
   unfold prP at HS2
   rw [show (allB l l.length).length = nbl l from rfl, HNB.out] at HS2
   replace HS := Lh (HS2.perm (.cons _ (.cons _ (prC_in (F := [bx xb 50 #[.pointer (some ⟨x.X, 0, none⟩)], ow w.heap.size 21 1 (.slice (some ⟨rg, 0, none⟩) R R) R (r.map i32), bx rb 42 #[.slice (some ⟨rg, 0, none⟩) R R], bB, bx ob 63 #[.int .i64 o.op, .slice Ad o.d.length cd, .slice As o.s.length cs, .int .i64 o.n, .string o.nm, .int .i64 o.ty.k, .string o.ty.nm, .slice Tn o.ty.ns.length tcn, .slice Tp o.ty.ps.length tcp, .bool o.ty.many], rI w.heap.size (.slice Sx sl.length scx) sl]) base).symm)))
   clear HS2
   go_wp2_with fail
   replace HS := Lh HS.out.f3.drop.f3.drop.f3.drop.f3.drop.f3.drop.f1.f2.f2
   have hdq : (dp : Int) = ((dp - 1 : Nat) : Int) + 1 := by have := HDP.out.1; simp only [List.length_cons] at this; omega
   rw [hdq] at HS
   clear hdq
   refine leaves_cons (f := 77) (args := #[.pointer (some ⟨xb, 0, none⟩)]) (by simp) (by simp [go_sem]) ?_
   refine (deep_any (d := dp - 1) (.panicking [{ v := .iface 115 (.agg #[.int .i64 (E.e)]), recovered := false }]) HS.out (by have := HDP.out.2; have := HK3.out.2; simp only [List.length_cons] at *; omega)).mono ?_
   rintro e u' W' ⟨rfl, rfl, hH⟩
   refine .inr ⟨vs2, O2, od2, dp - 1, by have := HDP.out.1; simp only [List.length_cons] at this; omega, by have := HDP.out.2; simp only [List.length_cons] at this; omega, rfl, ?_, HE0.out⟩
   show Hp _ _ _
   unfold prP
   rw [show (allB l l.length).length = nbl l from rfl, HNB.out]
   exact hH.f1.drop
end Go.Proofs.YthihaeobkoiljaaGreat
