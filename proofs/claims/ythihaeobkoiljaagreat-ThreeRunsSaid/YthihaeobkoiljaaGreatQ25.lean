/- Lemmas for the law. -/
import Derived.Test.YthihaeobkoiljaaGreatQ17
set_option linter.unusedVariables false
set_option linter.unusedSimpArgs false
set_option maxRecDepth 100000
set_option maxHeartbeats 40000000
namespace Go.Proofs.YthihaeobkoiljaaGreat
open Go.RowKit
theorem stp_E : OrdS (fun k => k = 1 ∨ k = 2 ∨ k = 9 ∨ k = 10 ∨ k = 11 ∨ k = 13) := by
 unfold OrdS
 intro l w W bb oo c rv cb dc gu gi q gr gb RA BA rc bc KT V vd VS base n t E o Ad As An Ap cd cs cn cp ob m O od nc sl Sa sc K1 a HFIN HF HR HH HH2 HL HKO HM HE HIX HOO HNC HORD HTY HBT HSQ HSL hV hu hs100 HOP0 HS hS
 obtain ⟨x1, x5, y, hy, hy2, rfl⟩ := hS
 obtain ⟨f, rfl⟩ := late345 hy
 replace hy2 : f 76 = .int .i64 o.op := by injection hy2
 rw [hy2]
 clear hy hy2
 obtain ⟨w0, rfl⟩ : ∃ y, y = W := ⟨_, rfl⟩
 unfold rSw
 conv => arg 2; whnf
 have hl4 := HL.out.n4
 have k1 : (KT.length : Int) < 3000 := by have := HBT.out; omega
 have k0 : (0 : Int) ≤ (KT.length : Int) := by omega
 have k2 : (KT.length : Int) < (KT.length : Int) + 1 := by omega
 have hop := HOP0.out
 rcases hop with hop | hop | hop | hop | hop | hop
 ·rw [hop]
  have HOP := Lh hop
  clear hop
  have HOQ : Hid ((ord l ⟨gu, gi, gr, gb, q⟩).op = 1) := by show _ = _; rw [HORD.out]; exact HOP.out
  have HNP : Hid (q + 1 < (bod l gu gi).code.length) := HF.out.nxt HL.out (by rw [HOQ.out]; decide) (by rw [HOQ.out]; decide)
  obtain ⟨hd1, hs0, hn1, hn2⟩ := HOO.out.o1 HOP.out
  have HDD := Lh hd1
  clear hd1 hs0
  have hwn : IntKind.i32.wrap o.n = o.n := by rw [IntKind.wrap_i32]; omega
  have p3 := HS.out.c 7 3
  have HNN : Hid (W32 o.n) := ⟨hn1, hn2⟩
  have HGO : Hid (∀ (gR : Value) (O : Option Addr) (od : Nat) (W' : World), Hp w W' (rfP w.heap.size rv (.slice (some ⟨bb, oo, none⟩) l.length c) (some ⟨cb, 0, none⟩) dc (⟨⟨gu, gi, (setR gr o.d [o.n]), gb, (q + 1)⟩, gR, .slice BA gb.length bc⟩ :: KT) O od (m.out) V vd VS (m.vs) 0 0 (t + 1) false base) → Going l w rv (.slice (some ⟨bb, oo, none⟩) l.length c) V vd VS base n (t + 1) E W') := fun gR O od => by
   have ha := act_1 (m := m) HOQ.out -- NOS
   rw [HORD.out] at ha
   exact go_on (m' := ⟨m.vs, m.out⟩) ha HE.out (HF.out.set (fun x hx => by rw [List.mem_singleton] at hx; rw [hx]; exact HNN.out) HNP.out) HKO.out (HM.out) (by have := HBT.out.1; show m.out.length ≤ t + 1; omega) HBT.out.2.2
  go_wp2_with fail
  clear p3 hwn hn1 hn2
  replace HS := Lh HS.out.drop.f6.f6.f6.f6.f6.f6.f6
  refine HFIN.out _ _ _ ⟨_, _, _, _, _, rfl, rfl⟩ ?_
  exact ⟨o.n, (setR gr o.d [o.n]), (q + 1), m, O, od, rfl, by rw [if_pos HDD.out], HGO, HS⟩
 ·rw [hop]
  have HOP := Lh hop
  clear hop
  have HOQ : Hid ((ord l ⟨gu, gi, gr, gb, q⟩).op = 2) := by show _ = _; rw [HORD.out]; exact HOP.out
  have HNP : Hid (q + 1 < (bod l gu gi).code.length) := HF.out.nxt HL.out (by rw [HOQ.out]; decide) (by rw [HOQ.out]; decide)
  obtain ⟨hd1, hs1⟩ := HOO.out.o2 HOP.out
  have HDD := Lh hd1
  clear hd1
  obtain ⟨sv, rfl⟩ : ∃ v, sl = [v] := List.length_eq_one_iff.1 (HSL.out.trans hs1)
  have hsv : W32 sv := src_w (f := ⟨gu, gi, gr, gb, q⟩) (o := o) HF.out.rv sv (by rw [HSQ.out]; simp)
  obtain ⟨sg, rfl⟩ := own_some (HS.out.own 0 rfl) (by omega)
  have s0 : w0.cell? ⟨sg, 0, none⟩ = some (.int .i32 sv) := own_at5 (HS.out.own 0 rfl) 0 _ rfl
  have gs : (0 : Int) < (o.s.length : Int) := by omega
  have gsn : 0 < o.s.length := by omega
  have hsv1 := hsv.1
  have hsv2 := hsv.2
  clear hsv
  clear hs1
  have HGO : Hid (∀ (gR : Value) (O : Option Addr) (od : Nat) (W' : World), Hp w W' (rfP w.heap.size rv (.slice (some ⟨bb, oo, none⟩) l.length c) (some ⟨cb, 0, none⟩) dc (⟨⟨gu, gi, (setR gr o.d [sv]), gb, (q + 1)⟩, gR, .slice BA gb.length bc⟩ :: KT) O od (m.out) V vd VS (m.vs) 0 0 (t + 1) false base) → Going l w rv (.slice (some ⟨bb, oo, none⟩) l.length c) V vd VS base n (t + 1) E W') := fun gR O od => by
   have ha := act_2 (m := m) HOQ.out
   rw [HORD.out] at ha
   rw [HSQ.out] at ha
   exact go_on (m' := ⟨m.vs, m.out⟩) ha HE.out (HF.out.set (fun x hx => by rw [List.mem_singleton] at hx; rw [hx]; exact ⟨hsv1, hsv2⟩) HNP.out) HKO.out (HM.out) (by have := HBT.out.1; show m.out.length ≤ t + 1; omega) HBT.out.2.2
  go_wp2_with fail
  clear s0 gs
  replace HS := Lh HS.out.drop.f6.f6.f6.f6.f6.f6.f6
  refine HFIN.out _ _ _ ⟨_, _, _, _, _, rfl, rfl⟩ ?_
  exact ⟨sv, (setR gr o.d [sv]), (q + 1), m, O, od, rfl, by rw [if_pos HDD.out], HGO, HS⟩
 ·rw [hop]
  have HOP := Lh hop
  clear hop
  have HOQ : Hid ((ord l ⟨gu, gi, gr, gb, q⟩).op = 9) := by show _ = _; rw [HORD.out]; exact HOP.out
  obtain ⟨hd0, hs0, hn1, hn2⟩ := HOO.out.o9 HOP.out
  have HDD := Lh hd0
  clear hd0 hs0
  obtain ⟨on, hon⟩ : ∃ on : Nat, o.n = (on : Int) := ⟨o.n.toNat, by omega⟩
  have HON : Hid (o.n.toNat = on) := by show _ = _; rw [hon]; rfl
  have honl : on < nc := by omega
  have p3 : w0.cell? ⟨ob, 3, none⟩ = some (.int .i64 (on : Int)) := by rw [← hon]; exact HS.out.c 7 3
  have HNJ : Hid (on < (bod l gu gi).code.length) := by show _ < _; rw [HNC.out]; exact honl
  clear hon hn1 hn2 honl
  have HGO : Hid (∀ (gR : Value) (O : Option Addr) (od : Nat) (W' : World), Hp w W' (rfP w.heap.size rv (.slice (some ⟨bb, oo, none⟩) l.length c) (some ⟨cb, 0, none⟩) dc (⟨⟨gu, gi, gr, gb, on⟩, gR, .slice BA gb.length bc⟩ :: KT) O od (m.out) V vd VS (m.vs) 0 0 (t + 1) false base) → Going l w rv (.slice (some ⟨bb, oo, none⟩) l.length c) V vd VS base n (t + 1) E W') := fun gR O od => by
   have ha := act_9 (m := m) HOQ.out -- NOS
   rw [HORD.out] at ha
   rw [HON.out] at ha
   exact go_on (m' := ⟨m.vs, m.out⟩) ha HE.out (HF.out.at HNJ.out) HKO.out (HM.out) (by have := HBT.out.1; show m.out.length ≤ t + 1; omega) HBT.out.2.2
  replace HS := Lh HS.out.f2
  have ce := (call_cells HS.out.one).2.2.2.2
  have fz := HS.out.one.frozenAt (KT.length * 5 + 4)
  go_wp2_with fail
  clear ce fz p3
  replace HS := Lh (HS.out.rowput (KT.length * 5 + 4) (.int .i64 (on : Int)))
  generalize w0.setCell _ _ = w1 at *
  rw [callsC_set4] at HS
  replace HS := Lh HS.out.f1.drop.f6.f6.f6.f6.f6.f5.f6
  refine HFIN.out _ _ _ ⟨_, _, _, _, _, rfl, rfl⟩ ?_
  exact ⟨0, gr, on, m, O, od, rfl, by rw [if_neg (by rw [HDD.out]; decide)], HGO, HS⟩
 ·rw [hop]
  have HOP := Lh hop
  clear hop
  have HOQ : Hid ((ord l ⟨gu, gi, gr, gb, q⟩).op = 10) := by show _ = _; rw [HORD.out]; exact HOP.out
  obtain ⟨hd0, hs1, hn1, hn2⟩ := HOO.out.o10 HOP.out
  have HDD := Lh hd0
  clear hd0
  obtain ⟨on, hon⟩ : ∃ on : Nat, o.n = (on : Int) := ⟨o.n.toNat, by omega⟩
  have HON : Hid (o.n.toNat = on) := by show _ = _; rw [hon]; rfl
  have honl : on < nc := by omega
  have p3 : w0.cell? ⟨ob, 3, none⟩ = some (.int .i64 (on : Int)) := by rw [← hon]; exact HS.out.c 7 3
  have HNJ : Hid (on < (bod l gu gi).code.length) := by show _ < _; rw [HNC.out]; exact honl
  clear hon hn1 hn2 honl
  obtain ⟨sv, rfl⟩ : ∃ v, sl = [v] := List.length_eq_one_iff.1 (HSL.out.trans hs1)
  have hsv : W32 sv := src_w (f := ⟨gu, gi, gr, gb, q⟩) (o := o) HF.out.rv sv (by rw [HSQ.out]; simp)
  obtain ⟨sg, rfl⟩ := own_some (HS.out.own 0 rfl) (by omega)
  have s0 : w0.cell? ⟨sg, 0, none⟩ = some (.int .i32 sv) := own_at5 (HS.out.own 0 rfl) 0 _ rfl
  have gs : (0 : Int) < (o.s.length : Int) := by omega
  have gsn : 0 < o.s.length := by omega
  have hsv1 := hsv.1
  have hsv2 := hsv.2
  clear hsv
  clear hs1
  by_cases hz : sv = 0
  ·subst hz
   have HGO : Hid (∀ (gR : Value) (O : Option Addr) (od : Nat) (W' : World), Hp w W' (rfP w.heap.size rv (.slice (some ⟨bb, oo, none⟩) l.length c) (some ⟨cb, 0, none⟩) dc (⟨⟨gu, gi, gr, gb, on⟩, gR, .slice BA gb.length bc⟩ :: KT) O od (m.out) V vd VS (m.vs) 0 0 (t + 1) false base) → Going l w rv (.slice (some ⟨bb, oo, none⟩) l.length c) V vd VS base n (t + 1) E W') := fun gR O od => by
    have ha := act_10 (m := m) HOQ.out
    rw [HORD.out] at ha
    rw [HSQ.out] at ha
    rw [HON.out] at ha
    exact go_on (m' := ⟨m.vs, m.out⟩) ha HE.out (HF.out.at HNJ.out) HKO.out (HM.out) (by have := HBT.out.1; show m.out.length ≤ t + 1; omega) HBT.out.2.2
   replace HS := Lh HS.out.f2
   have ce := (call_cells HS.out.one).2.2.2.2
   have fz := HS.out.one.frozenAt (KT.length * 5 + 4)
   go_wp2_with fail
   clear ce fz p3
   replace HS := Lh (HS.out.rowput (KT.length * 5 + 4) (.int .i64 (on : Int)))
   generalize w0.setCell _ _ = w1 at *
   rw [callsC_set4] at HS
   clear s0 gs
   replace HS := Lh HS.out.f1.drop.f6.f6.f6.f6.f6.f5.f6
   refine HFIN.out _ _ _ ⟨_, _, _, _, _, rfl, rfl⟩ ?_
   exact ⟨0, gr, on, m, O, od, rfl, by rw [if_neg (by rw [HDD.out]; decide)], HGO, HS⟩
  have HNP : Hid (q + 1 < (bod l gu gi).code.length) := HF.out.nxt HL.out (by rw [HOQ.out]; decide) (by rw [HOQ.out]; decide)
  have HGO : Hid (∀ (gR : Value) (O : Option Addr) (od : Nat) (W' : World), Hp w W' (rfP w.heap.size rv (.slice (some ⟨bb, oo, none⟩) l.length c) (some ⟨cb, 0, none⟩) dc (⟨⟨gu, gi, gr, gb, (q + 1)⟩, gR, .slice BA gb.length bc⟩ :: KT) O od (m.out) V vd VS (m.vs) 0 0 (t + 1) false base) → Going l w rv (.slice (some ⟨bb, oo, none⟩) l.length c) V vd VS base n (t + 1) E W') := fun gR O od => by
   have ha := act_10 (m := m) HOQ.out
   rw [HORD.out] at ha
   rw [HSQ.out] at ha
   rw [if_neg (show ¬ ([sv] : List Int).getD 0 0 = 0 from hz)] at ha
   exact go_on (m' := ⟨m.vs, m.out⟩) ha HE.out (HF.out.at HNP.out) HKO.out (HM.out) (by have := HBT.out.1; show m.out.length ≤ t + 1; omega) HBT.out.2.2
  have hz2 : (sv == 0) = false := by simp [hz]
  clear hz
  go_wp2_with fail
  clear s0 gs p3
  replace HS := Lh HS.out.drop.f6.f6.f6.f6.f6.f6.f6
  refine HFIN.out _ _ _ ⟨_, _, _, _, _, rfl, rfl⟩ ?_
  exact ⟨0, gr, (q + 1), m, O, od, rfl, by rw [if_neg (by rw [HDD.out]; decide)], HGO, HS⟩
 ·rw [hop]
  have HOP := Lh hop
  clear hop
  have HOQ : Hid ((ord l ⟨gu, gi, gr, gb, q⟩).op = 11) := by show _ = _; rw [HORD.out]; exact HOP.out
  have HNP : Hid (q + 1 < (bod l gu gi).code.length) := HF.out.nxt HL.out (by rw [HOQ.out]; decide) (by rw [HOQ.out]; decide)
  obtain ⟨hd0, hs1⟩ := HOO.out.o11 HOP.out
  have HDD := Lh hd0
  clear hd0
  obtain ⟨sv, rfl⟩ : ∃ v, sl = [v] := List.length_eq_one_iff.1 (HSL.out.trans hs1)
  have hsv : W32 sv := src_w (f := ⟨gu, gi, gr, gb, q⟩) (o := o) HF.out.rv sv (by rw [HSQ.out]; simp)
  obtain ⟨sg, rfl⟩ := own_some (HS.out.own 0 rfl) (by omega)
  have s0 : w0.cell? ⟨sg, 0, none⟩ = some (.int .i32 sv) := own_at5 (HS.out.own 0 rfl) 0 _ rfl
  have gs : (0 : Int) < (o.s.length : Int) := by omega
  have gsn : 0 < o.s.length := by omega
  have hsv1 := hsv.1
  have hsv2 := hsv.2
  clear hsv
  clear hs1
  have HGO : Hid (∀ (gR : Value) (O : Option Addr) (od : Nat) (W' : World), Hp w W' (rfP w.heap.size rv (.slice (some ⟨bb, oo, none⟩) l.length c) (some ⟨cb, 0, none⟩) dc (⟨⟨gu, gi, gr, gb, (q + 1)⟩, gR, .slice BA gb.length bc⟩ :: KT) O od (m.out ++ [sv]) V vd VS (m.vs) 0 0 (t + 1) false base) → Going l w rv (.slice (some ⟨bb, oo, none⟩) l.length c) V vd VS base n (t + 1) E W') := fun gR O od => by
   have ha := act_11 (m := m) HOQ.out
   rw [HORD.out] at ha
   rw [HSQ.out] at ha
   exact go_on (m' := ⟨m.vs, m.out ++ [sv]⟩) ha HE.out (HF.out.at HNP.out) HKO.out (HM.out.out _) (by have := HBT.out.1; show (m.out ++ [sv]).length ≤ t + 1; rw [List.length_append]; simp; omega) HBT.out.2.2
  go_upto_region 48 with (fail)
  clear s0
  obtain ⟨ho1, ho2, -⟩ := HBT.out
  replace HS := Lh HS.out.drew
  refine dQ (fun W => At W sg 0 (.int .i32 sv)) (own_at5 (HS.out.own 0 rfl) 0 _ rfl) fun _ => ?_
  generalize w0.drew = w1 at *
  refine tQ4 0 1 2 3 ?_; try simp only [sq]
  refine tQ4 4 6 7 8 ?_; try simp only [sq]
  refine wpAnyH_grp [⟨5, some 275, []⟩, ⟨9, some 279, []⟩] 5 (fun vs W => ∃ y_ : Nat, Hid (Hp w W (ifq (vs 9) (bx y_ 21 #[.int .i32 sv]) ++ (ow w.heap.size 21 1 (.slice (some ⟨sg, 0, none⟩) o.s.length sc) o.s.length ([sv].map i32) :: bx rv 85 #[.slice (some ⟨bb, oo, none⟩) l.length c, .slice (some ⟨cb, 0, none⟩) (KT.length + 1) dc, .slice V VS.length vd, .int .i64 0, .int .i32 0, .slice O m.out.length od, .int .i64 ((t + 1 : Nat) : Int), .bool false] :: ow w.heap.size 120 5 (.slice (some ⟨cb, 0, none⟩) (KT.length + 1) dc) (KT.length + 1) (callsC KT ++ ([.int .i64 (gu : Int), .int .i64 (gi : Int), .slice RA gr.length rc, .slice BA gb.length bc, .int .i64 ((q : Int) + 1)] : List Value)) :: ow w.heap.size 21 1 (.slice O m.out.length od) m.out.length (m.out.map i32) :: ow w.heap.size 86 1 (.slice V VS.length vd) VS.length VS :: ow w.heap.size 21 1 (.slice RA gr.length rc) gr.length (gr.map i32) :: ow w.heap.size 21 1 (.slice BA gb.length bc) gb.length (gb.map i32) :: bx ob 63 #[.int .i64 o.op, .slice Ad o.d.length cd, .slice As o.s.length cs, .int .i64 o.n, .string o.nm, .int .i64 o.ty.k, .string o.ty.nm, .slice An o.ty.ns.length cn, .slice Ap o.ty.ps.length cp, .bool o.ty.many] :: (KT.flatMap (frP w.heap.size) ++ (vrP w.heap.size VS m.vs ++ base))))) ∧ OV (vs 5) (.slice (O) (m.out.length) (od)) ∧ OV (vs 9) (.slice (some ⟨y_, 0, none⟩) 1 1)) (by rfl) (by decide +kernel) ⟨0, HS, OP.no _ rfl, OP.no _ rfl⟩ (fun vs W ⟨y_, HS, _⟩ => own_at5 (show W.ownsRow _ _ _ _ _ _ from HS.out.ok (ow w.heap.size 21 1 (.slice (some ⟨sg, 0, none⟩) o.s.length sc) o.s.length ([sv].map i32)) (by simp)) 0 _ rfl) ⟨?_, ?_, trivial⟩ ?_
  ·clear HS; refine ⟨_, rfl, fun vs W h5 hd hn ⟨y_, HS, e5, e9⟩ => ?_⟩
   have hk := HS.out.ok (bx rv 85 #[.slice (some ⟨bb, oo, none⟩) l.length c, .slice (some ⟨cb, 0, none⟩) (KT.length + 1) dc, .slice V VS.length vd, .int .i64 0, .int .i32 0, .slice O m.out.length od, .int .i64 ((t + 1 : Nat) : Int), .bool false]) (by simp)
   have hk := (show Blk W rv 85 #[.slice (some ⟨bb, oo, none⟩) l.length c, .slice (some ⟨cb, 0, none⟩) (KT.length + 1) dc, .slice V VS.length vd, .int .i64 0, .int .i32 0, .slice O m.out.length od, .int .i64 ((t + 1 : Nat) : Int), .bool false] from hk)
   have c5 := hk.cell 5 _ rfl
   clear hk
   simp only [actG, old, Option.getD_some]; try simp only [sq]; intro K hK
   go_simp
   exact hK.out _ _ ⟨y_, HS, OP.is rfl, e9⟩
  ·clear HS; refine ⟨_, rfl, fun vs W h9 hd hn ⟨y_, HS, e5, e9⟩ => ?_⟩
   rw [h9] at HS
   simp only [actG, old, Option.getD_some]; try simp only [sq]; intro K hK
   go_simp
   exact hK.out _ _ ⟨W.heap.size, Lh (HS.out.box 21 #[.int .i32 sv]), e5, OP.is rfl⟩
  clear HS; intro vs W ⟨y_, HS, e5, e9⟩ hall
  obtain ⟨⟨v5, h5⟩, ⟨v9, h9⟩, -⟩ := hall
  obtain rfl := e5 _ h5
  obtain rfl := e9 _ h9
  rw [h9] at HS
  simp only [ifq, List.cons_append, List.nil_append] at HS
  simp only [actG, lisG, old, h5, h9, Option.getD_some, Option.isSome_some, if_true, List.length_cons, List.length_nil]; try simp only [sq]
  clear h5 e5 h9 e9 vs
  obtain ⟨w2, rfl⟩ : ∃ x, x = W := ⟨_, rfl⟩
  refine rQ 10 (fun K hK => ?_)
  replace HS := Lh HS.out.f4
  refine oper_push_own HS.out (Nat.le_refl _) _ _ 42 4 rfl Tryz.underlying42 elt_i32 (by rfl) ⟨y_, 0, none⟩ 1 _ [.int .i32 sv] (by rfl) (by rfl) (HS.out.blk 1 rfl).news (by simp [Value.oneCell']) (by unfold maxLen; omega) (by omega) ?_
  clear HS; intro Ox odx w3 HS
  refine hK.out _ _ (own_at5 (HS.out.own 2 rfl) 0 _ rfl) (fun _ => ?_)
  clear hK K
  try simp only [sq]
  replace HS := Lh HS.out.f1.drop
  refine tQ3 11 12 13 ?_; try simp only [sq]
  refine rQ 14 (fun K hK => ?_)
  replace HS := Lh HS.out.f2
  have f5 := (HS.out.blk 0 rfl).free 5
  have g5 := HS.out.c 0 5
  go_simp
  clear f5 g5
  replace HS := Lh (HS.out.put1 5 (.slice Ox (m.out.length + 1) odx))
  simp only [sq] at HS
  generalize w3.setCell _ _ = w4 at *
  refine hK.out _ _ (own_at5 (HS.out.own 2 rfl) 0 _ rfl) (fun _ => ?_)
  clear hK K
  try simp only [sq]
  refine fQ ?_ _
  clear gs
  go_wp2_with fail
  have HS2 : Hid (Hp w w4 (bx rv 85 #[.slice (some ⟨bb, oo, none⟩) l.length c, .slice (some ⟨cb, 0, none⟩) (KT.length + 1) dc, .slice V VS.length vd, .int .i64 0, .int .i32 0, .slice Ox (⟨m.vs, m.out ++ [sv]⟩ : Ms).out.length odx, .int .i64 ((t + 1 : Nat) : Int), .bool false] :: ow w.heap.size 21 1 (.slice Ox (⟨m.vs, m.out ++ [sv]⟩ : Ms).out.length odx) (⟨m.vs, m.out ++ [sv]⟩ : Ms).out.length ((⟨m.vs, m.out ++ [sv]⟩ : Ms).out.map i32) :: ow w.heap.size 21 1 (.slice (some ⟨sg, 0, none⟩) o.s.length sc) o.s.length ([sv].map i32) :: ow w.heap.size 120 5 (.slice (some ⟨cb, 0, none⟩) (KT.length + 1) dc) (KT.length + 1) (callsC KT ++ ([.int .i64 (gu : Int), .int .i64 (gi : Int), .slice RA gr.length rc, .slice BA gb.length bc, .int .i64 ((q : Int) + 1)] : List Value)) :: ow w.heap.size 86 1 (.slice V VS.length vd) VS.length VS :: ow w.heap.size 21 1 (.slice RA gr.length rc) gr.length (gr.map i32) :: ow w.heap.size 21 1 (.slice BA gb.length bc) gb.length (gb.map i32) :: bx ob 63 #[.int .i64 o.op, .slice Ad o.d.length cd, .slice As o.s.length cs, .int .i64 o.n, .string o.nm, .int .i64 o.ty.k, .string o.ty.nm, .slice An o.ty.ns.length cn, .slice Ap o.ty.ps.length cp, .bool o.ty.many] :: (KT.flatMap (frP w.heap.size) ++ (vrP w.heap.size VS (⟨m.vs, m.out ++ [sv]⟩ : Ms).vs ++ base)))) := by show Hp _ _ _; dsimp only; rw [List.length_append, List.map_append]; exact HS.out
  replace HS := HS2
  clear HS2
  replace HS := Lh HS.out.f2.drop.f6.f6.f6.f6.f5.f6.f6
  refine HFIN.out _ _ _ ⟨_, _, _, _, _, rfl, rfl⟩ ?_
  exact ⟨0, gr, (q + 1), (⟨m.vs, m.out ++ [sv]⟩ : Ms), Ox, odx, rfl, by rw [if_neg (by rw [HDD.out]; decide)], HGO, HS⟩
 ·rw [hop]
  have HOP := Lh hop
  clear hop
  have HOQ : Hid ((ord l ⟨gu, gi, gr, gb, q⟩).op = 13) := by show _ = _; rw [HORD.out]; exact HOP.out
  have HNP : Hid (q + 1 < (bod l gu gi).code.length) := HF.out.nxt HL.out (by rw [HOQ.out]; decide) (by rw [HOQ.out]; decide)
  obtain ⟨hd1, hs0⟩ := HOO.out.o13 HOP.out
  have HDD := Lh hd1
  clear hd1 hs0
  have hb12 : gb.length ≤ 12 := HF.out.bl
  have hwn : IntKind.i32.wrap (gb.length : Int) = (gb.length : Int) := by rw [IntKind.wrap_i32]; omega
  have ce := (call_cells (HS.out.own 2 rfl)).2.2.2.1
  have HGO : Hid (∀ (gR : Value) (O : Option Addr) (od : Nat) (W' : World), Hp w W' (rfP w.heap.size rv (.slice (some ⟨bb, oo, none⟩) l.length c) (some ⟨cb, 0, none⟩) dc (⟨⟨gu, gi, (setR gr o.d [(gb.length : Int)]), gb, (q + 1)⟩, gR, .slice BA gb.length bc⟩ :: KT) O od (m.out) V vd VS (m.vs) 0 0 (t + 1) false base) → Going l w rv (.slice (some ⟨bb, oo, none⟩) l.length c) V vd VS base n (t + 1) E W') := fun gR O od => by
   have ha := act_13 (m := m) HOQ.out -- NOS
   rw [HORD.out] at ha
   exact go_on (m' := ⟨m.vs, m.out⟩) ha HE.out (HF.out.set (fun x hx => by rw [List.mem_singleton] at hx; rw [hx]; exact (show W32 (gb.length : Int) from ⟨by omega, by omega⟩)) HNP.out) HKO.out (HM.out) (by have := HBT.out.1; show m.out.length ≤ t + 1; omega) HBT.out.2.2
  go_wp2_with fail
  clear ce hwn
  replace HS := Lh HS.out.drop.f6.f6.f6.f6.f6.f6.f6
  refine HFIN.out _ _ _ ⟨_, _, _, _, _, rfl, rfl⟩ ?_
  exact ⟨(gb.length : Int), (setR gr o.d [(gb.length : Int)]), (q + 1), m, O, od, rfl, by rw [if_pos HDD.out], HGO, HS⟩
theorem stp_F : OrdS (fun k => k = 4 ∨ k = 5) := by
 unfold OrdS
 intro l w W bb oo c rv cb dc gu gi q gr gb RA BA rc bc KT V vd VS base n t E o Ad As An Ap cd cs cn cp ob m O od nc sl Sa sc K1 a HFIN HF HR HH HH2 HL HKO HM HE HIX HOO HNC HORD HTY HBT HSQ HSL hV hu hs100 HOP0 HS hS
 obtain ⟨x1, x5, y, hy, hy2, rfl⟩ := hS
 obtain ⟨f, rfl⟩ := late345 hy
 replace hy2 : f 76 = .int .i64 o.op := by injection hy2
 rw [hy2]
 clear hy hy2
 obtain ⟨w0, rfl⟩ : ∃ y, y = W := ⟨_, rfl⟩
 unfold rSw
 conv => arg 2; whnf
 have hl4 := HL.out.n4
 have k1 : (KT.length : Int) < 3000 := by have := HBT.out; omega
 have k0 : (0 : Int) ≤ (KT.length : Int) := by omega
 have k2 : (KT.length : Int) < (KT.length : Int) + 1 := by omega
 have hop := HOP0.out
 rcases hop with hop | hop
 ·rw [hop]
  have HOP := Lh hop
  clear hop
  have HOQ : Hid ((ord l ⟨gu, gi, gr, gb, q⟩).op = 4) := by show _ = _; rw [HORD.out]; exact HOP.out
  have HNP : Hid (q + 1 < (bod l gu gi).code.length) := HF.out.nxt HL.out (by rw [HOQ.out]; decide) (by rw [HOQ.out]; decide)
  obtain ⟨hd1, hs0, hn1, hn2, hnm⟩ := HOO.out.o4 HOP.out
  have HDD := Lh hd1
  clear hd1 hs0
  have hnn : o.n = 0 ∨ o.n = 1 := by omega
  clear hn1 hn2
  obtain ⟨kn2, kn1, kn7, kns⟩ := spk_name (u := unAt l gu) (o := o) (by have := HF.out.spk HL.out; rw [HORD.out] at this; exact this) hnm
  rw [HOP.out] at kn1
  have HFV := fnd_var HL.out hu kn2 kn1
  replace kns := kns kn1
  have HFD : Hid (∀ W2, Below w.heap.size w W2 → W2.cell? ⟨rv, 0, none⟩ = some (.slice (some ⟨bb, oo, none⟩) l.length c) → Calls Tryz.prog 64 #[.pointer (some ⟨rv, 0, none⟩), .int .i64 (gu : Int), .string o.nm] W2 (FindOut (fnd l gu o.nm) W2)) := fun W2 hb h0 => find_any l HL.out o.nm (some ⟨bb, oo, none⟩) c rv gu HR.out hb hu h0
  obtain ⟨⟨pv, pi⟩, hp⟩ : ∃ p, fnd l gu o.nm = p := ⟨_, rfl⟩
  rw [hp] at HFD HFV
  have HPQ := Lh hp
  dsimp only at HFV
  obtain ⟨hv1, hv2, hv3⟩ := HFV
  clear hp
  go_upto_region 20 with (fail)
  replace HS := Lh HS.out.drew
  refine dQ (fun W => At W cb (KT.length * 5) (.int .i64 (gu : Int)) ∧ At W ob 4 (.string o.nm)) (⟨(call_cells (HS.out.own 2 rfl)).1, HS.out.c 7 4⟩) fun _ => ?_
  generalize w0.drew = w1 at *
  refine tQ4 0 1 2 3 ?_; try simp only [sq]
  refine tQ3 4 5 6 ?_; try simp only [sq]
  refine rQ 7 (fun K hK => ?_)
  go_simp
  refine (HFD.out _ HS.out.mv (HS.out.c 1 0)).mono ?_
  rintro e w2 ⟨rfl, hb⟩
  replace HS := Lh (HS.out.below hb)
  clear hb
  dsimp only
  refine hK.out _ _ (⟨(call_cells (HS.out.own 2 rfl)).1, HS.out.c 7 4⟩) (fun _ => ?_)
  clear hK K
  try simp only [sq]
  refine tQ4 8 9 10 11 ?_; try simp only [sq]
  refine tQ 12 ?_; try simp only [sq]
  refine fQ ?_ _
  clear HFD
  clear hnm kn2 kn1 kn7 hv3 kns
  have hgl2 : (m.vs.getD pv []).length = (unAt l pv).gs.length := HM.out.ev pv hv1
  have hVS : VS.length = m.vs.length := hV.trans HM.out.ln.symm
  have hpv : pv < VS.length := by omega
  obtain ⟨vg, rfl⟩ := own_some (HS.out.own 4 rfl) (by omega)
  have hvm := vr_mem (B := w.heap.size) hVS hpv
  obtain ⟨XA, xc, hXV, -⟩ := Row.of_own (show w2.ownsRow w.heap.size 89 2 VS[pv] (m.vs.getD pv []).length (varC (m.vs.getD pv [])) from HS.out.ok _ (mc (mc (mc (mc (mc (mc (mc (mc (List.mem_append_right _ (List.mem_append_left _ hvm)))))))))))
  rw [hXV] at hvm
  obtain ⟨xg, rfl⟩ := own_some (show w2.ownsRow w.heap.size 89 2 (.slice XA (m.vs.getD pv []).length xc) (m.vs.getD pv []).length (varC (m.vs.getD pv [])) from HS.out.ok _ (mc (mc (mc (mc (mc (mc (mc (mc (List.mem_append_right _ (List.mem_append_left _ hvm))))))))))) (by omega)
  have hpi : pi < (m.vs.getD pv []).length := by omega
  have HXV := Lh hXV
  have HVM := Lh hvm
  have HVC : Hid (∀ Y : World, Y.ownsRow w.heap.size 89 2 (.slice (some ⟨xg, 0, none⟩) (m.vs.getD pv []).length xc) (m.vs.getD pv []).length (varC (m.vs.getD pv [])) → Y.cell? ⟨xg, pi * 2, none⟩ = some (.int .i32 (getV m.vs (pv, pi) 0)) ∧ Y.cell? ⟨xg, pi * 2 + 1, none⟩ = some (.int .i32 (getV m.vs (pv, pi) 1))) := fun Y hY => ⟨own_at5 hY _ _ (varC_at hpi).1, own_at5 hY _ _ (varC_at hpi).2⟩
  have HVG : Hid (∀ Y : World, Y.ownsRow w.heap.size 86 1 (.slice (some ⟨vg, 0, none⟩) VS.length vd) VS.length VS → Y.cell? ⟨vg, pv, none⟩ = some (.slice (some ⟨xg, 0, none⟩) (m.vs.getD pv []).length xc)) := fun Y hY => own_at5 hY _ _ (by rw [List.getElem?_eq_getElem hpv, HXV.out])
  have HG40 : Hid ((m.vs.getD pv []).length ≤ 1000000) := by show _ ≤ _; rw [hgl2, unAt_at hv1]; exact Nat.le_trans (HH2.out pv hv1) (by decide)
  have v1 : (pv : Int) < (VS.length : Int) := by omega
  have v2 : (0 : Int) ≤ (pv : Int) := by omega
  have v3 : (pv : Int) < 9 := by omega
  have v4 : (pi : Int) < ((m.vs.getD pv []).length : Int) := by omega
  have v5 : (0 : Int) ≤ (pi : Int) := by omega
  have v6 : (pi : Int) < 1000000 := by have := HG40.out; omega
  clear hvm hXV hgl2 hVS
  generalize hrow : m.vs.getD pv [] = row at *
  have HROW := Lh hrow
  clear hrow
  rcases hnn with hn | hn
  ·have HNV := Lh hn
   clear hn
   have HP3 : Hid (∀ Y, Blk Y ob 63 #[.int .i64 o.op, .slice Ad o.d.length cd, .slice As o.s.length cs, .int .i64 o.n, .string o.nm, .int .i64 o.ty.k, .string o.ty.nm, .slice An o.ty.ns.length cn, .slice Ap o.ty.ps.length cp, .bool o.ty.many] → Y.cell? ⟨ob, 3, none⟩ = some (.int .i64 0)) := fun Y h => by have h2 : Y.cell? ⟨ob, 3, none⟩ = some (.int .i64 o.n) := h.cell 3 _ rfl; rw [HNV.out] at h2; exact h2
   have HGO : Hid (∀ (gR : Value) (O : Option Addr) (od : Nat) (W' : World), Hp w W' (rfP w.heap.size rv (.slice (some ⟨bb, oo, none⟩) l.length c) (some ⟨cb, 0, none⟩) dc (⟨⟨gu, gi, (setR gr o.d [getV m.vs (pv, pi) 0]), gb, (q + 1)⟩, gR, .slice BA gb.length bc⟩ :: KT) O od (m.out) (some ⟨vg, 0, none⟩) vd VS (m.vs) 0 0 (t + 1) false base) → Going l w rv (.slice (some ⟨bb, oo, none⟩) l.length c) (some ⟨vg, 0, none⟩) vd VS base n (t + 1) E W') := fun gR O od => by
    have ha := act_4 (m := m) HOQ.out -- NOS
    rw [HORD.out] at ha
    rw [HPQ.out, HNV.out] at ha
    exact go_on (m' := ⟨m.vs, m.out⟩) ha HE.out (HF.out.set (fun x hx => by rw [List.mem_singleton] at hx; rw [hx]; exact HM.out.get hv1 _) HNP.out) HKO.out (HM.out) (by have := HBT.out.1; show m.out.length ≤ t + 1; omega) HBT.out.2.2
   go_upto_region 21 with (fail)
   replace HS := Lh HS.out.drew
   refine dQ (fun W => At W rv 2 (.slice (some ⟨vg, 0, none⟩) VS.length vd) ∧ At W vg pv (.slice (some ⟨xg, 0, none⟩) row.length xc) ∧ At W ob 3 (.int .i64 0) ∧ At W xg (pi * 2) (.int .i32 (getV m.vs (pv, pi) 0))) (⟨HS.out.c 1 2, HVG.out _ (HS.out.own 4 rfl), HP3.out _ (HS.out.blk 7 rfl), (HVC.out _ (HS.out.ok _ (mc (mc (mc (mc (mc (mc (mc (mc (List.mem_append_right _ (List.mem_append_left _ HVM.out)))))))))))).1⟩) fun _ => ?_
   generalize w2.drew = w3 at *
   refine tQ4 0 1 2 3 ?_; try simp only [sq]
   refine tQ4 4 5 6 7 ?_; try simp only [sq]
   refine tQ4 8 9 10 11 ?_; try simp only [sq]
   refine tQ2 12 13 ?_; try simp only [sq]
   refine fQ ?_ _
   clear v1 v2 v3 v4 v5 v6 HVC HVG HVM HXV HP3
   generalize getV m.vs (pv, pi) 0 = xv at *
   go_wp2_with fail
   replace HS := Lh HS.out.drop.f6.f6.f6.f6.f6.f6.f6
   refine HFIN.out _ _ _ ⟨_, _, _, _, _, rfl, rfl⟩ ?_
   exact ⟨xv, (setR gr o.d [xv]), (q + 1), m, O, od, rfl, by rw [if_pos HDD.out], HGO, HS⟩
  have HNV := Lh hn
  clear hn
  have HP3 : Hid (∀ Y, Blk Y ob 63 #[.int .i64 o.op, .slice Ad o.d.length cd, .slice As o.s.length cs, .int .i64 o.n, .string o.nm, .int .i64 o.ty.k, .string o.ty.nm, .slice An o.ty.ns.length cn, .slice Ap o.ty.ps.length cp, .bool o.ty.many] → Y.cell? ⟨ob, 3, none⟩ = some (.int .i64 1)) := fun Y h => by have h2 : Y.cell? ⟨ob, 3, none⟩ = some (.int .i64 o.n) := h.cell 3 _ rfl; rw [HNV.out] at h2; exact h2
  have HGO : Hid (∀ (gR : Value) (O : Option Addr) (od : Nat) (W' : World), Hp w W' (rfP w.heap.size rv (.slice (some ⟨bb, oo, none⟩) l.length c) (some ⟨cb, 0, none⟩) dc (⟨⟨gu, gi, (setR gr o.d [getV m.vs (pv, pi) 1]), gb, (q + 1)⟩, gR, .slice BA gb.length bc⟩ :: KT) O od (m.out) (some ⟨vg, 0, none⟩) vd VS (m.vs) 0 0 (t + 1) false base) → Going l w rv (.slice (some ⟨bb, oo, none⟩) l.length c) (some ⟨vg, 0, none⟩) vd VS base n (t + 1) E W') := fun gR O od => by
   have ha := act_4 (m := m) HOQ.out -- NOS
   rw [HORD.out] at ha
   rw [HPQ.out, HNV.out] at ha
   exact go_on (m' := ⟨m.vs, m.out⟩) ha HE.out (HF.out.set (fun x hx => by rw [List.mem_singleton] at hx; rw [hx]; exact HM.out.get hv1 _) HNP.out) HKO.out (HM.out) (by have := HBT.out.1; show m.out.length ≤ t + 1; omega) HBT.out.2.2
  go_upto_region 21 with (fail)
  replace HS := Lh HS.out.drew
  refine dQ (fun W => At W rv 2 (.slice (some ⟨vg, 0, none⟩) VS.length vd) ∧ At W vg pv (.slice (some ⟨xg, 0, none⟩) row.length xc) ∧ At W ob 3 (.int .i64 1) ∧ At W xg (pi * 2 + 1) (.int .i32 (getV m.vs (pv, pi) 1))) (⟨HS.out.c 1 2, HVG.out _ (HS.out.own 4 rfl), HP3.out _ (HS.out.blk 7 rfl), (HVC.out _ (HS.out.ok _ (mc (mc (mc (mc (mc (mc (mc (mc (List.mem_append_right _ (List.mem_append_left _ HVM.out)))))))))))).2⟩) fun _ => ?_
  generalize w2.drew = w3 at *
  refine tQ4 0 1 2 3 ?_; try simp only [sq]
  refine tQ4 4 5 6 7 ?_; try simp only [sq]
  refine tQ4 8 9 10 11 ?_; try simp only [sq]
  refine tQ2 12 13 ?_; try simp only [sq]
  refine fQ ?_ _
  clear v1 v2 v3 v4 v5 v6 HVC HVG HVM HXV HP3
  generalize getV m.vs (pv, pi) 1 = xv at *
  go_wp2_with fail
  replace HS := Lh HS.out.drop.f6.f6.f6.f6.f6.f6.f6
  refine HFIN.out _ _ _ ⟨_, _, _, _, _, rfl, rfl⟩ ?_
  exact ⟨xv, (setR gr o.d [xv]), (q + 1), m, O, od, rfl, by rw [if_pos HDD.out], HGO, HS⟩
 ·rw [hop]
  have HOP := Lh hop
  clear hop
  have HOQ : Hid ((ord l ⟨gu, gi, gr, gb, q⟩).op = 5) := by show _ = _; rw [HORD.out]; exact HOP.out
  have HNP : Hid (q + 1 < (bod l gu gi).code.length) := HF.out.nxt HL.out (by rw [HOQ.out]; decide) (by rw [HOQ.out]; decide)
  obtain ⟨hd0, hs1, hn1, hn2, hnm⟩ := HOO.out.o5 HOP.out
  have HDD := Lh hd0
  clear hd0
  obtain ⟨sv, rfl⟩ : ∃ v, sl = [v] := List.length_eq_one_iff.1 (HSL.out.trans hs1)
  have hsv : W32 sv := src_w (f := ⟨gu, gi, gr, gb, q⟩) (o := o) HF.out.rv sv (by rw [HSQ.out]; simp)
  obtain ⟨sg, rfl⟩ := own_some (HS.out.own 0 rfl) (by omega)
  have s0 : w0.cell? ⟨sg, 0, none⟩ = some (.int .i32 sv) := own_at5 (HS.out.own 0 rfl) 0 _ rfl
  have gs : (0 : Int) < (o.s.length : Int) := by omega
  have gsn : 0 < o.s.length := by omega
  have hsv1 := hsv.1
  have hsv2 := hsv.2
  clear hsv
  clear hs1
  have hnn : o.n = 0 ∨ o.n = 1 := by omega
  clear hn1 hn2
  obtain ⟨kn2, kn1, kn7, kns⟩ := spk_name (u := unAt l gu) (o := o) (by have := HF.out.spk HL.out; rw [HORD.out] at this; exact this) hnm
  rw [HOP.out] at kn1
  have HFV := fnd_var HL.out hu kn2 kn1
  replace kns := kns kn1
  have HFD : Hid (∀ W2, Below w.heap.size w W2 → W2.cell? ⟨rv, 0, none⟩ = some (.slice (some ⟨bb, oo, none⟩) l.length c) → Calls Tryz.prog 64 #[.pointer (some ⟨rv, 0, none⟩), .int .i64 (gu : Int), .string o.nm] W2 (FindOut (fnd l gu o.nm) W2)) := fun W2 hb h0 => find_any l HL.out o.nm (some ⟨bb, oo, none⟩) c rv gu HR.out hb hu h0
  obtain ⟨⟨pv, pi⟩, hp⟩ : ∃ p, fnd l gu o.nm = p := ⟨_, rfl⟩
  rw [hp] at HFD HFV
  have HPQ := Lh hp
  dsimp only at HFV
  obtain ⟨hv1, hv2, hv3⟩ := HFV
  clear hp
  go_upto_region 23 with (fail)
  replace HS := Lh HS.out.drew
  refine dQ (fun W => At W cb (KT.length * 5) (.int .i64 (gu : Int)) ∧ At W ob 4 (.string o.nm)) (⟨(call_cells (HS.out.own 2 rfl)).1, HS.out.c 7 4⟩) fun _ => ?_
  generalize w0.drew = w1 at *
  refine tQ4 0 1 2 3 ?_; try simp only [sq]
  refine tQ3 4 5 6 ?_; try simp only [sq]
  refine rQ 7 (fun K hK => ?_)
  go_simp
  refine (HFD.out _ HS.out.mv (HS.out.c 1 0)).mono ?_
  rintro e w2 ⟨rfl, hb⟩
  replace HS := Lh (HS.out.below hb)
  clear hb
  dsimp only
  refine hK.out _ _ (⟨(call_cells (HS.out.own 2 rfl)).1, HS.out.c 7 4⟩) (fun _ => ?_)
  clear hK K
  try simp only [sq]
  refine tQ4 8 9 10 11 ?_; try simp only [sq]
  refine tQ 12 ?_; try simp only [sq]
  refine fQ ?_ _
  clear HFD
  clear hnm kn2 kn1 kn7 hv3 kns s0
  have hgl2 : (m.vs.getD pv []).length = (unAt l pv).gs.length := HM.out.ev pv hv1
  have hVS : VS.length = m.vs.length := hV.trans HM.out.ln.symm
  have hpv : pv < VS.length := by omega
  obtain ⟨vg, rfl⟩ := own_some (HS.out.own 4 rfl) (by omega)
  have hvm := vr_mem (B := w.heap.size) hVS hpv
  obtain ⟨XA, xc, hXV, -⟩ := Row.of_own (show w2.ownsRow w.heap.size 89 2 VS[pv] (m.vs.getD pv []).length (varC (m.vs.getD pv [])) from HS.out.ok _ (mc (mc (mc (mc (mc (mc (mc (mc (List.mem_append_right _ (List.mem_append_left _ hvm)))))))))))
  rw [hXV] at hvm
  obtain ⟨xg, rfl⟩ := own_some (show w2.ownsRow w.heap.size 89 2 (.slice XA (m.vs.getD pv []).length xc) (m.vs.getD pv []).length (varC (m.vs.getD pv [])) from HS.out.ok _ (mc (mc (mc (mc (mc (mc (mc (mc (List.mem_append_right _ (List.mem_append_left _ hvm))))))))))) (by omega)
  have hpi : pi < (m.vs.getD pv []).length := by omega
  have HXV := Lh hXV
  have HVM := Lh hvm
  have HVC : Hid (∀ Y : World, Y.ownsRow w.heap.size 89 2 (.slice (some ⟨xg, 0, none⟩) (m.vs.getD pv []).length xc) (m.vs.getD pv []).length (varC (m.vs.getD pv [])) → Y.cell? ⟨xg, pi * 2, none⟩ = some (.int .i32 (getV m.vs (pv, pi) 0)) ∧ Y.cell? ⟨xg, pi * 2 + 1, none⟩ = some (.int .i32 (getV m.vs (pv, pi) 1))) := fun Y hY => ⟨own_at5 hY _ _ (varC_at hpi).1, own_at5 hY _ _ (varC_at hpi).2⟩
  have HVG : Hid (∀ Y : World, Y.ownsRow w.heap.size 86 1 (.slice (some ⟨vg, 0, none⟩) VS.length vd) VS.length VS → Y.cell? ⟨vg, pv, none⟩ = some (.slice (some ⟨xg, 0, none⟩) (m.vs.getD pv []).length xc)) := fun Y hY => own_at5 hY _ _ (by rw [List.getElem?_eq_getElem hpv, HXV.out])
  have HG40 : Hid ((m.vs.getD pv []).length ≤ 1000000) := by show _ ≤ _; rw [hgl2, unAt_at hv1]; exact Nat.le_trans (HH2.out pv hv1) (by decide)
  have v1 : (pv : Int) < (VS.length : Int) := by omega
  have v2 : (0 : Int) ≤ (pv : Int) := by omega
  have v3 : (pv : Int) < 9 := by omega
  have v4 : (pi : Int) < ((m.vs.getD pv []).length : Int) := by omega
  have v5 : (0 : Int) ≤ (pi : Int) := by omega
  have v6 : (pi : Int) < 1000000 := by have := HG40.out; omega
  clear hvm hXV hgl2 hVS
  generalize hrow : m.vs.getD pv [] = row at *
  have HROW := Lh hrow
  clear hrow
  have hVS2 : VS.length = m.vs.length := hV.trans HM.out.ln.symm
  obtain ⟨RR, hRR⟩ := vr_pull (B := w.heap.size) hVS2 hpv
  have hR0 := hRR row
  rw [← HROW.out, set_self (by omega), HROW.out, HXV.out] at hR0
  have HR0 := Lh hR0
  rw [HXV.out] at hRR
  have HR1 := Lh hRR
  clear hR0 hRR
  rcases hnn with hn | hn
  ·have HNV := Lh hn
   clear hn
   have HP3 : Hid (∀ Y, Blk Y ob 63 #[.int .i64 o.op, .slice Ad o.d.length cd, .slice As o.s.length cs, .int .i64 o.n, .string o.nm, .int .i64 o.ty.k, .string o.ty.nm, .slice An o.ty.ns.length cn, .slice Ap o.ty.ps.length cp, .bool o.ty.many] → Y.cell? ⟨ob, 3, none⟩ = some (.int .i64 0)) := fun Y h => by have h2 : Y.cell? ⟨ob, 3, none⟩ = some (.int .i64 o.n) := h.cell 3 _ rfl; rw [HNV.out] at h2; exact h2
   have HGO : Hid (∀ (gR : Value) (O : Option Addr) (od : Nat) (W' : World), Hp w W' (rfP w.heap.size rv (.slice (some ⟨bb, oo, none⟩) l.length c) (some ⟨cb, 0, none⟩) dc (⟨⟨gu, gi, gr, gb, (q + 1)⟩, gR, .slice BA gb.length bc⟩ :: KT) O od (m.out) (some ⟨vg, 0, none⟩) vd VS (m.vs.set pv (row.set pi (sv, (row.getD pi (0, 0)).2))) 0 0 (t + 1) false base) → Going l w rv (.slice (some ⟨bb, oo, none⟩) l.length c) (some ⟨vg, 0, none⟩) vd VS base n (t + 1) E W') := fun gR O od => by
    have ha := act_5 (m := m) HOQ.out
    rw [HORD.out] at ha
    rw [HSQ.out] at ha
    rw [HPQ.out, HNV.out] at ha
    have hset : setV m.vs (pv, pi) 0 sv = m.vs.set pv (row.set pi (sv, (row.getD pi (0, 0)).2)) := by unfold setV; dsimp only; rw [HROW.out]; rfl
    rw [show ([sv] : List Int).getD 0 0 = sv from rfl, hset] at ha
    have HMM : Hid (MsOk l ⟨m.vs.set pv (row.set pi (sv, (row.getD pi (0, 0)).2)), m.out⟩) := by have := HM.out.set (p := (pv, pi)) hv1 0 (x := sv) ⟨hsv1, hsv2⟩ m.out; rw [hset] at this; exact this
    exact go_on (m' := ⟨m.vs.set pv (row.set pi (sv, (row.getD pi (0, 0)).2)), m.out⟩) ha HE.out (HF.out.at HNP.out) HKO.out (HMM.out) (by have := HBT.out.1; show m.out.length ≤ t + 1; omega) HBT.out.2.2
   go_upto_region 24 with (fail)
   replace HS := Lh (HS.out.perm (.cons _ (.cons _ (.cons _ (.cons _ (.cons _ (.cons _ (.cons _ (.cons _ ((List.Perm.append_left _ (List.Perm.append_right _ HR0.out))))))))))))
   have HX0 : Hid (Hp w w2 (ow w.heap.size 89 2 (.slice (some ⟨xg, 0, none⟩) row.length xc) row.length (varC row) :: ow w.heap.size 21 1 (.slice (some ⟨sg, 0, none⟩) o.s.length sc) o.s.length ([sv].map i32) :: bx rv 85 #[.slice (some ⟨bb, oo, none⟩) l.length c, .slice (some ⟨cb, 0, none⟩) (KT.length + 1) dc, .slice (some ⟨vg, 0, none⟩) VS.length vd, .int .i64 0, .int .i32 0, .slice O m.out.length od, .int .i64 ((t + 1 : Nat) : Int), .bool false] :: ow w.heap.size 120 5 (.slice (some ⟨cb, 0, none⟩) (KT.length + 1) dc) (KT.length + 1) (callsC KT ++ ([.int .i64 (gu : Int), .int .i64 (gi : Int), .slice RA gr.length rc, .slice BA gb.length bc, .int .i64 ((q : Int) + 1)] : List Value)) :: ow w.heap.size 21 1 (.slice O m.out.length od) m.out.length (m.out.map i32) :: ow w.heap.size 86 1 (.slice (some ⟨vg, 0, none⟩) VS.length vd) VS.length VS :: ow w.heap.size 21 1 (.slice RA gr.length rc) gr.length (gr.map i32) :: ow w.heap.size 21 1 (.slice BA gb.length bc) gb.length (gb.map i32) :: bx ob 63 #[.int .i64 o.op, .slice Ad o.d.length cd, .slice As o.s.length cs, .int .i64 o.n, .string o.nm, .int .i64 o.ty.k, .string o.ty.nm, .slice An o.ty.ns.length cn, .slice Ap o.ty.ps.length cp, .bool o.ty.many] :: (KT.flatMap (frP w.heap.size) ++ (RR ++ base)))) := Lh (HS.out.perm x_front)
   replace HS := HX0
   clear HX0
   replace HS := Lh HS.out.drew
   refine dQ (fun W => At W rv 2 (.slice (some ⟨vg, 0, none⟩) VS.length vd) ∧ At W vg pv (.slice (some ⟨xg, 0, none⟩) row.length xc) ∧ At W ob 3 (.int .i64 0) ∧ At W sg 0 (.int .i32 sv)) (⟨HS.out.c 2 2, HVG.out _ (HS.out.own 5 rfl), HP3.out _ (HS.out.blk 8 rfl), own_at5 (HS.out.own 1 rfl) 0 _ rfl⟩) fun _ => ?_
   generalize w2.drew = w3 at *
   refine tQ4 0 1 2 3 ?_; try simp only [sq]
   refine tQ4 4 5 6 7 ?_; try simp only [sq]
   refine tQ4 8 9 10 11 ?_; try simp only [sq]
   refine tQ3 12 13 14 ?_; try simp only [sq]
   refine rQ 15 (fun K hK => ?_)
   have fz := HS.out.one.frozenAt (pi * 2)
   have ce := HS.out.one.cellAt (pi * 2) (by omega)
   rw [(varC_at hpi).1] at ce
   go_simp
   clear fz ce
   replace HS := Lh (HS.out.rowput (pi * 2) (.int .i32 sv))
   generalize w3.setCell _ _ = w4 at *
   rw [(varC_set hpi).1] at HS
   refine hK.out _ _ (⟨HS.out.c 2 2, HVG.out _ (HS.out.own 5 rfl), HP3.out _ (HS.out.blk 8 rfl), own_at5 (HS.out.own 1 rfl) 0 _ rfl⟩) (fun _ => ?_)
   clear hK K
   try simp only [sq]
   refine fQ ?_ _
   replace HS := Lh HS.out.f1.f8.f8.f8.f8.f8.f8.f8.f8
   have HX1 := HR1.out (row.set pi (sv, (row.getD pi (0, 0)).2))
   rw [List.length_set] at HX1
   replace HS := Lh ((HS.out.perm x_front.symm).perm (.cons _ (.cons _ (.cons _ (.cons _ (.cons _ (.cons _ (.cons _ (.cons _ ((List.Perm.append_left _ (List.Perm.append_right _ HX1.symm))))))))))))
   clear HX1
   clear v1 v2 v3 v4 v5 v6 HVC HVG HVM HXV HP3 gs gsn HR0 HR1
   go_wp2_with fail
   replace HS := Lh HS.out.f7.drop.f6.f6.f6.f6.f6.f6.f6
   refine HFIN.out _ _ _ ⟨_, _, _, _, _, rfl, rfl⟩ ?_
   exact ⟨0, gr, (q + 1), ⟨m.vs.set pv (row.set pi (sv, (row.getD pi (0, 0)).2)), m.out⟩, O, od, rfl, by rw [if_neg (by rw [HDD.out]; decide)], HGO, HS⟩
  have HNV := Lh hn
  clear hn
  have HP3 : Hid (∀ Y, Blk Y ob 63 #[.int .i64 o.op, .slice Ad o.d.length cd, .slice As o.s.length cs, .int .i64 o.n, .string o.nm, .int .i64 o.ty.k, .string o.ty.nm, .slice An o.ty.ns.length cn, .slice Ap o.ty.ps.length cp, .bool o.ty.many] → Y.cell? ⟨ob, 3, none⟩ = some (.int .i64 1)) := fun Y h => by have h2 : Y.cell? ⟨ob, 3, none⟩ = some (.int .i64 o.n) := h.cell 3 _ rfl; rw [HNV.out] at h2; exact h2
  have HGO : Hid (∀ (gR : Value) (O : Option Addr) (od : Nat) (W' : World), Hp w W' (rfP w.heap.size rv (.slice (some ⟨bb, oo, none⟩) l.length c) (some ⟨cb, 0, none⟩) dc (⟨⟨gu, gi, gr, gb, (q + 1)⟩, gR, .slice BA gb.length bc⟩ :: KT) O od (m.out) (some ⟨vg, 0, none⟩) vd VS (m.vs.set pv (row.set pi ((row.getD pi (0, 0)).1, sv))) 0 0 (t + 1) false base) → Going l w rv (.slice (some ⟨bb, oo, none⟩) l.length c) (some ⟨vg, 0, none⟩) vd VS base n (t + 1) E W') := fun gR O od => by
   have ha := act_5 (m := m) HOQ.out
   rw [HORD.out] at ha
   rw [HSQ.out] at ha
   rw [HPQ.out, HNV.out] at ha
   have hset : setV m.vs (pv, pi) 1 sv = m.vs.set pv (row.set pi ((row.getD pi (0, 0)).1, sv)) := by unfold setV; dsimp only; rw [HROW.out]; rfl
   rw [show ([sv] : List Int).getD 0 0 = sv from rfl, hset] at ha
   have HMM : Hid (MsOk l ⟨m.vs.set pv (row.set pi ((row.getD pi (0, 0)).1, sv)), m.out⟩) := by have := HM.out.set (p := (pv, pi)) hv1 1 (x := sv) ⟨hsv1, hsv2⟩ m.out; rw [hset] at this; exact this
   exact go_on (m' := ⟨m.vs.set pv (row.set pi ((row.getD pi (0, 0)).1, sv)), m.out⟩) ha HE.out (HF.out.at HNP.out) HKO.out (HMM.out) (by have := HBT.out.1; show m.out.length ≤ t + 1; omega) HBT.out.2.2
  go_upto_region 24 with (fail)
  replace HS := Lh (HS.out.perm (.cons _ (.cons _ (.cons _ (.cons _ (.cons _ (.cons _ (.cons _ (.cons _ ((List.Perm.append_left _ (List.Perm.append_right _ HR0.out))))))))))))
  have HX0 : Hid (Hp w w2 (ow w.heap.size 89 2 (.slice (some ⟨xg, 0, none⟩) row.length xc) row.length (varC row) :: ow w.heap.size 21 1 (.slice (some ⟨sg, 0, none⟩) o.s.length sc) o.s.length ([sv].map i32) :: bx rv 85 #[.slice (some ⟨bb, oo, none⟩) l.length c, .slice (some ⟨cb, 0, none⟩) (KT.length + 1) dc, .slice (some ⟨vg, 0, none⟩) VS.length vd, .int .i64 0, .int .i32 0, .slice O m.out.length od, .int .i64 ((t + 1 : Nat) : Int), .bool false] :: ow w.heap.size 120 5 (.slice (some ⟨cb, 0, none⟩) (KT.length + 1) dc) (KT.length + 1) (callsC KT ++ ([.int .i64 (gu : Int), .int .i64 (gi : Int), .slice RA gr.length rc, .slice BA gb.length bc, .int .i64 ((q : Int) + 1)] : List Value)) :: ow w.heap.size 21 1 (.slice O m.out.length od) m.out.length (m.out.map i32) :: ow w.heap.size 86 1 (.slice (some ⟨vg, 0, none⟩) VS.length vd) VS.length VS :: ow w.heap.size 21 1 (.slice RA gr.length rc) gr.length (gr.map i32) :: ow w.heap.size 21 1 (.slice BA gb.length bc) gb.length (gb.map i32) :: bx ob 63 #[.int .i64 o.op, .slice Ad o.d.length cd, .slice As o.s.length cs, .int .i64 o.n, .string o.nm, .int .i64 o.ty.k, .string o.ty.nm, .slice An o.ty.ns.length cn, .slice Ap o.ty.ps.length cp, .bool o.ty.many] :: (KT.flatMap (frP w.heap.size) ++ (RR ++ base)))) := Lh (HS.out.perm x_front)
  replace HS := HX0
  clear HX0
  replace HS := Lh HS.out.drew
  refine dQ (fun W => At W rv 2 (.slice (some ⟨vg, 0, none⟩) VS.length vd) ∧ At W vg pv (.slice (some ⟨xg, 0, none⟩) row.length xc) ∧ At W ob 3 (.int .i64 1) ∧ At W sg 0 (.int .i32 sv)) (⟨HS.out.c 2 2, HVG.out _ (HS.out.own 5 rfl), HP3.out _ (HS.out.blk 8 rfl), own_at5 (HS.out.own 1 rfl) 0 _ rfl⟩) fun _ => ?_
  generalize w2.drew = w3 at *
  refine tQ4 0 1 2 3 ?_; try simp only [sq]
  refine tQ4 4 5 6 7 ?_; try simp only [sq]
  refine tQ4 8 9 10 11 ?_; try simp only [sq]
  refine tQ3 12 13 14 ?_; try simp only [sq]
  refine rQ 15 (fun K hK => ?_)
  have fz := HS.out.one.frozenAt (pi * 2 + 1)
  have ce := HS.out.one.cellAt (pi * 2 + 1) (by omega)
  rw [(varC_at hpi).2] at ce
  go_simp
  clear fz ce
  replace HS := Lh (HS.out.rowput (pi * 2 + 1) (.int .i32 sv))
  generalize w3.setCell _ _ = w4 at *
  rw [(varC_set hpi).2] at HS
  refine hK.out _ _ (⟨HS.out.c 2 2, HVG.out _ (HS.out.own 5 rfl), HP3.out _ (HS.out.blk 8 rfl), own_at5 (HS.out.own 1 rfl) 0 _ rfl⟩) (fun _ => ?_)
  clear hK K
  try simp only [sq]
  refine fQ ?_ _
  replace HS := Lh HS.out.f1.f8.f8.f8.f8.f8.f8.f8.f8
  have HX1 := HR1.out (row.set pi ((row.getD pi (0, 0)).1, sv))
  rw [List.length_set] at HX1
  replace HS := Lh ((HS.out.perm x_front.symm).perm (.cons _ (.cons _ (.cons _ (.cons _ (.cons _ (.cons _ (.cons _ (.cons _ ((List.Perm.append_left _ (List.Perm.append_right _ HX1.symm))))))))))))
  clear HX1
  clear v1 v2 v3 v4 v5 v6 HVC HVG HVM HXV HP3 gs gsn HR0 HR1
  go_wp2_with fail
  replace HS := Lh HS.out.f7.drop.f6.f6.f6.f6.f6.f6.f6
  refine HFIN.out _ _ _ ⟨_, _, _, _, _, rfl, rfl⟩ ?_
  exact ⟨0, gr, (q + 1), ⟨m.vs.set pv (row.set pi ((row.getD pi (0, 0)).1, sv)), m.out⟩, O, od, rfl, by rw [if_neg (by rw [HDD.out]; decide)], HGO, HS⟩
end Go.Proofs.YthihaeobkoiljaaGreat
