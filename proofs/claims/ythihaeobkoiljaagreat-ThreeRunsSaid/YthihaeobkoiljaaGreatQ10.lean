/- Lemmas for the law. -/
import Derived.Test.YthihaeobkoiljaaGreatQ08
set_option linter.unusedVariables false
set_option linter.unusedSimpArgs false
set_option maxRecDepth 100000
set_option maxHeartbeats 40000000
namespace Go.Proofs.YthihaeobkoiljaaGreat
open Go.RowKit
theorem num_01 (n : Int) : (decide (0 ≤ n) && decide (n ≤ 1)) = ((n == 0) || (n == 1)) := by
 rw [Bool.eq_iff_iff]; simp; omega
theorem ord_1 {b : Bo} {o : Or} (h : o.op = 1) (hd : withinB o.d b.regs = true) (hs : withinB o.s b.regs = true) : orderB b.ty b.regs b.code.length o = ((decide (-2147483648 ≤ o.n) && decide (o.n ≤ 2147483647)) && o.nm.toList.isEmpty && (zeroT o.ty && ((o.d.length : Int) == 1) && ((o.s.length : Int) == 0))) := by
 have hr : rowOf b.ty b.code.length o.op = rowOf b.ty b.code.length 1 := by rw [h]
 unfold orderB
 rw [hr, hd, hs]
 simp [rowOf, numB, namB, Bool.and_assoc]
theorem ord_2 {b : Bo} {o : Or} (h : o.op = 2) (hd : withinB o.d b.regs = true) (hs : withinB o.s b.regs = true) : orderB b.ty b.regs b.code.length o = (((o.n == 0)) && o.nm.toList.isEmpty && (zeroT o.ty && ((o.d.length : Int) == 1) && ((o.s.length : Int) == 1))) := by
 have hr : rowOf b.ty b.code.length o.op = rowOf b.ty b.code.length 2 := by rw [h]
 unfold orderB
 rw [hr, hd, hs]
 simp [rowOf, numB, namB, Bool.and_assoc]
theorem ord_3 {b : Bo} {o : Or} (h : o.op = 3) (hd : withinB o.d b.regs = true) (hs : withinB o.s b.regs = true) : orderB b.ty b.regs b.code.length o = ((decide (1 ≤ o.n) && decide (o.n ≤ 12)) && o.nm.toList.isEmpty && (zeroT o.ty && ((o.d.length : Int) == 1) && ((o.s.length : Int) == 2))) := by
 have hr : rowOf b.ty b.code.length o.op = rowOf b.ty b.code.length 3 := by rw [h]
 unfold orderB
 rw [hr, hd, hs]
 simp [rowOf, numB, namB, Bool.and_assoc]
theorem ord_4 {b : Bo} {o : Or} (h : o.op = 4) (hd : withinB o.d b.regs = true) (hs : withinB o.s b.regs = true) : orderB b.ty b.regs b.code.length o = (((o.n == 0) || (o.n == 1)) && nameOf o.nm && (zeroT o.ty && ((o.d.length : Int) == 1) && ((o.s.length : Int) == 0))) := by
 have hr : rowOf b.ty b.code.length o.op = rowOf b.ty b.code.length 4 := by rw [h]
 unfold orderB
 rw [hr, hd, hs]
 simp [rowOf, numB, namB, Bool.and_assoc]; rw [← Bool.and_assoc, num_01]
theorem ord_5 {b : Bo} {o : Or} (h : o.op = 5) (hd : withinB o.d b.regs = true) (hs : withinB o.s b.regs = true) : orderB b.ty b.regs b.code.length o = (((o.n == 0) || (o.n == 1)) && nameOf o.nm && (zeroT o.ty && ((o.d.length : Int) == 0) && ((o.s.length : Int) == 1))) := by
 have hr : rowOf b.ty b.code.length o.op = rowOf b.ty b.code.length 5 := by rw [h]
 unfold orderB
 rw [hr, hd, hs]
 simp [rowOf, numB, namB, Bool.and_assoc]; rw [← Bool.and_assoc, num_01]
theorem ord_6 {b : Bo} {o : Or} (h : o.op = 6) (hd : withinB o.d b.regs = true) (hs : withinB o.s b.regs = true) : orderB b.ty b.regs b.code.length o = (((o.n == 0)) && nameOf o.nm && (zeroT o.ty && ((o.d.length : Int) == 1) && ((o.s.length : Int) == 0))) := by
 have hr : rowOf b.ty b.code.length o.op = rowOf b.ty b.code.length 6 := by rw [h]
 unfold orderB
 rw [hr, hd, hs]
 simp [rowOf, numB, namB, Bool.and_assoc]
theorem ord_9 {b : Bo} {o : Or} (h : o.op = 9) (hd : withinB o.d b.regs = true) (hs : withinB o.s b.regs = true) : orderB b.ty b.regs b.code.length o = ((decide (0 ≤ o.n) && decide (o.n ≤ (b.code.length : Int) - 1)) && o.nm.toList.isEmpty && (zeroT o.ty && ((o.d.length : Int) == 0) && ((o.s.length : Int) == 0))) := by
 have hr : rowOf b.ty b.code.length o.op = rowOf b.ty b.code.length 9 := by rw [h]
 unfold orderB
 rw [hr, hd, hs]
 simp [rowOf, numB, namB, Bool.and_assoc]
theorem ord_10 {b : Bo} {o : Or} (h : o.op = 10) (hd : withinB o.d b.regs = true) (hs : withinB o.s b.regs = true) : orderB b.ty b.regs b.code.length o = ((decide (0 ≤ o.n) && decide (o.n ≤ (b.code.length : Int) - 1)) && o.nm.toList.isEmpty && (zeroT o.ty && ((o.d.length : Int) == 0) && ((o.s.length : Int) == 1))) := by
 have hr : rowOf b.ty b.code.length o.op = rowOf b.ty b.code.length 10 := by rw [h]
 unfold orderB
 rw [hr, hd, hs]
 simp [rowOf, numB, namB, Bool.and_assoc]
theorem ord_11 {b : Bo} {o : Or} (h : o.op = 11) (hd : withinB o.d b.regs = true) (hs : withinB o.s b.regs = true) : orderB b.ty b.regs b.code.length o = (((o.n == 0)) && o.nm.toList.isEmpty && (zeroT o.ty && ((o.d.length : Int) == 0) && ((o.s.length : Int) == 1))) := by
 have hr : rowOf b.ty b.code.length o.op = rowOf b.ty b.code.length 11 := by rw [h]
 unfold orderB
 rw [hr, hd, hs]
 simp [rowOf, numB, namB, Bool.and_assoc]
theorem ord_12 {b : Bo} {o : Or} (h : o.op = 12) (hd : withinB o.d b.regs = true) (hs : withinB o.s b.regs = true) : orderB b.ty b.regs b.code.length o = (((o.n == 0)) && o.nm.toList.isEmpty && (zeroT o.ty && ((o.d.length : Int) == 0) && ((o.s.length : Int) == (resW b.ty : Int)))) := by
 have hr : rowOf b.ty b.code.length o.op = rowOf b.ty b.code.length 12 := by rw [h]
 unfold orderB
 rw [hr, hd, hs]
 simp [rowOf, numB, namB, Bool.and_assoc]
theorem ord_13 {b : Bo} {o : Or} (h : o.op = 13) (hd : withinB o.d b.regs = true) (hs : withinB o.s b.regs = true) : orderB b.ty b.regs b.code.length o = (b.ty.many && ((o.n == 0)) && o.nm.toList.isEmpty && (zeroT o.ty && ((o.d.length : Int) == 1) && ((o.s.length : Int) == 0))) := by
 have hr : rowOf b.ty b.code.length o.op = rowOf b.ty b.code.length 13 := by rw [h]
 unfold orderB
 rw [hr, hd, hs]
 simp [rowOf, numB, namB, Bool.and_assoc]
theorem ord_14 {b : Bo} {o : Or} (h : o.op = 14) (hd : withinB o.d b.regs = true) (hs : withinB o.s b.regs = true) : orderB b.ty b.regs b.code.length o = (b.ty.many && ((o.n == 0)) && o.nm.toList.isEmpty && (zeroT o.ty && ((o.d.length : Int) == 1) && ((o.s.length : Int) == 1))) := by
 have hr : rowOf b.ty b.code.length o.op = rowOf b.ty b.code.length 14 := by rw [h]
 unfold orderB
 rw [hr, hd, hs]
 simp [rowOf, numB, namB, Bool.and_assoc]
theorem ord_7 {b : Bo} {o : Or} (h : o.op = 7) (hd : withinB o.d b.regs = true) (hs : withinB o.s b.regs = true) : orderB b.ty b.regs b.code.length o = ((o.n == 0) && nameOf o.nm && ((o.ty.k == 4) && may o.ty && (o.d.length == resW o.ty) && decide o.d.Nodup && spareB o.ty o.s.length)) := by
 have hr : rowOf b.ty b.code.length o.op = rowOf b.ty b.code.length 7 := by rw [h]
 unfold orderB
 rw [hr, hd, hs]
 simp [rowOf, numB, namB, callB, h]
theorem ord_8 {b : Bo} {o : Or} (h : o.op = 8) (hd : withinB o.d b.regs = true) (hs : withinB o.s b.regs = true) : orderB b.ty b.regs b.code.length o = ((o.n == 0) && o.nm.toList.isEmpty && ((o.ty.k == 4) && may o.ty && (o.d.length == resW o.ty) && decide o.d.Nodup && (decide (1 ≤ o.s.length) && spareB o.ty (o.s.length - 1)))) := by
 have hr : rowOf b.ty b.code.length o.op = rowOf b.ty b.code.length 8 := by rw [h]
 unfold orderB
 rw [hr, hd, hs]
 simp [rowOf, numB, namB, callB, h]
theorem ord_none {b : Bo} {o : Or} (h : (o.op == 1) = false ∧ (o.op == 2) = false ∧ (o.op == 3) = false ∧ (o.op == 4) = false ∧ (o.op == 5) = false ∧ (o.op == 6) = false ∧ (o.op == 7) = false ∧ (o.op == 8) = false ∧ (o.op == 9) = false ∧ (o.op == 10) = false ∧ (o.op == 11) = false ∧ (o.op == 12) = false ∧ (o.op == 13) = false ∧ (o.op == 14) = false) : orderB b.ty b.regs b.code.length o = false := by
 simp only [beq_eq_false_iff_ne] at h
 unfold orderB
 have : (rowOf b.ty b.code.length o.op).2 = false := by simp [rowOf, h]
 rw [this]; rfl
theorem op_cases (x : Int) : x = 1 ∨ x = 2 ∨ x = 3 ∨ x = 4 ∨ x = 5 ∨ x = 6 ∨ x = 7 ∨ x = 8 ∨ x = 9 ∨ x = 10 ∨ x = 11 ∨ x = 12 ∨ x = 13 ∨ x = 14 ∨ ((x == 1) = false ∧ (x == 2) = false ∧ (x == 3) = false ∧ (x == 4) = false ∧ (x == 5) = false ∧ (x == 6) = false ∧ (x == 7) = false ∧ (x == 8) = false ∧ (x == 9) = false ∧ (x == 10) = false ∧ (x == 11) = false ∧ (x == 12) = false ∧ (x == 13) = false ∧ (x == 14) = false) := by
 by_cases e1 : x = 1
 ·simp [e1]
 by_cases e2 : x = 2
 ·simp [e2]
 by_cases e3 : x = 3
 ·simp [e3]
 by_cases e4 : x = 4
 ·simp [e4]
 by_cases e5 : x = 5
 ·simp [e5]
 by_cases e6 : x = 6
 ·simp [e6]
 by_cases e7 : x = 7
 ·simp [e7]
 by_cases e8 : x = 8
 ·simp [e8]
 by_cases e9 : x = 9
 ·simp [e9]
 by_cases e10 : x = 10
 ·simp [e10]
 by_cases e11 : x = 11
 ·simp [e11]
 by_cases e12 : x = 12
 ·simp [e12]
 by_cases e13 : x = 13
 ·simp [e13]
 by_cases e14 : x = 14
 ·simp [e14]
 simp [*]
theorem orderR_any (b : Bo) (cs : List Value) (o : Or) (os : List Value) (w : World) (hr : RepB w b cs) (ho : RepO w o os) (hmy : may b.ty = true) (h4 : b.ty.k = 4) (hlen : b.code.length ≤ 6000) :
 Calls Tryz.prog 25 #[.agg cs.toArray, .agg os.toArray] w fun e w' => e = .returned (.bool (orderB b.ty b.regs b.code.length o)) ∧ Below w.heap.size w w' := by
 have hr0 := hr
 obtain ⟨An, cn, Ap, cp, A, c, rfl, hBT, -, -, -⟩ := hr.nine
 have ho0 := ho
 obtain ⟨Ad, cd, As, c', An', cn', Ap', cp', rfl, hD, hS, hT, hPs, hdl, hsl, hLT⟩ := ho.ten
 have B0 : Below w.heap.size w ((w.alloc (.cells #[.string b.nm, .bool b.static, .int .i64 b.ty.k, .string b.ty.nm, .slice An b.ty.ns.length cn, .slice Ap b.ty.ps.length cp, .bool b.ty.many, .int .i64 b.regs, .slice A b.code.length c] 37)).alloc (.cells #[.int .i64 o.op, .slice Ad o.d.length cd, .slice As o.s.length c', .int .i64 o.n, .string o.nm, .int .i64 o.ty.k, .string o.ty.nm, .slice An' o.ty.ns.length cn', .slice Ap' o.ty.ps.length cp', .bool o.ty.many] 63)) := bel
 have kb := (Blk.new_ w 37 #[.string b.nm, .bool b.static, .int .i64 b.ty.k, .string b.ty.nm, .slice An b.ty.ns.length cn, .slice Ap b.ty.ps.length cp, .bool b.ty.many, .int .i64 b.regs, .slice A b.code.length c]).alloc (.cells #[.int .i64 o.op, .slice Ad o.d.length cd, .slice As o.s.length c', .int .i64 o.n, .string o.nm, .int .i64 o.ty.k, .string o.ty.nm, .slice An' o.ty.ns.length cn', .slice Ap' o.ty.ps.length cp', .bool o.ty.many] 63)
 have ko := Blk.nxt1 w (.cells #[.string b.nm, .bool b.static, .int .i64 b.ty.k, .string b.ty.nm, .slice An b.ty.ns.length cn, .slice Ap b.ty.ps.length cp, .bool b.ty.many, .int .i64 b.regs, .slice A b.code.length c] 37) 63 #[.int .i64 o.op, .slice Ad o.d.length cd, .slice As o.s.length c', .int .i64 o.n, .string o.nm, .int .i64 o.ty.k, .string o.ty.nm, .slice An' o.ty.ns.length cn', .slice Ap' o.ty.ps.length cp', .bool o.ty.many]
 have HD := Lh hD
 have HS := Lh hS
 have HTy := Lh hT
 have HBT := Lh hBT
 have HMY := Lh hmy
 have H4 := Lh h4
 have HDL := Lh hdl
 have HSL := Lh hsl
 have HB0 := Lh B0
 have HR12 := Lh (resW_le hmy h4)
 have HW0 : Hid (withinB o.d b.regs = false → orderB b.ty b.regs b.code.length o = false) := fun h => by unfold orderB; rw [h]; simp
 have HW1 : Hid (withinB o.s b.regs = false → orderB b.ty b.regs b.code.length o = false) := fun h => by unfold orderB; rw [h]; simp
 have HF1 := Lh (@ord_1 b o)
 have HF2 := Lh (@ord_2 b o)
 have HF3 := Lh (@ord_3 b o)
 have HF4 := Lh (@ord_4 b o)
 have HF5 := Lh (@ord_5 b o)
 have HF6 := Lh (@ord_6 b o)
 have HF7 := Lh (@ord_7 b o)
 have HF8 := Lh (@ord_8 b o)
 have HF9 := Lh (@ord_9 b o)
 have HF10 := Lh (@ord_10 b o)
 have HF11 := Lh (@ord_11 b o)
 have HF12 := Lh (@ord_12 b o)
 have HF13 := Lh (@ord_13 b o)
 have HF14 := Lh (@ord_14 b o)
 have HF0 := Lh (@ord_none b o)
 generalize orderB b.ty b.regs b.code.length o = E at *
 clear hr hr0 ho ho0 hD hS hT hPs hBT hmy h4 hdl hsl hLT B0
 go_enter Tryz.func25, Tryz.ntmps25
 go_upto_region 1 with (fail)
 generalize hw1 : (w.alloc (.cells #[.string b.nm, .bool b.static, .int .i64 b.ty.k, .string b.ty.nm, .slice An b.ty.ns.length cn, .slice Ap b.ty.ps.length cp, .bool b.ty.many, .int .i64 b.regs, .slice A b.code.length c] 37)).alloc (.cells #[.int .i64 o.op, .slice Ad o.d.length cd, .slice As o.s.length c', .int .i64 o.n, .string o.nm, .int .i64 o.ty.k, .string o.ty.nm, .slice An' o.ty.ns.length cn', .slice Ap' o.ty.ps.length cp', .bool o.ty.many] 63) = w1 at *
 clear hw1
 have b1 := HB0.out
 have HWD := Lh (there_any Ad cd o.d b.regs w1 (HD.out.keep b1) HDL.out)
 have HWS := Lh (there_any As c' o.s b.regs w1 (HS.out.keep b1) HSL.out)
 have x1 := ko.cell 1 (.slice Ad o.d.length cd) rfl
 have x2 := ko.cell 2 (.slice As o.s.length c') rfl
 have y7 := kb.cell 7 (.int .i64 b.regs) rfl
 go_wp2_with fail
 ((with_reducible refine (HWD.out).mono ?_); rintro e w4 ⟨rfl, rfl⟩)
 rcases hwd : withinB o.d b.regs with _ | _
 ·have hf : Hid (E = false) := HW0.out hwd
  clear hwd
  go_wp2
  go_ret
  exact ⟨by rw [hf.out]; rfl, b1⟩
 have HWDt := Lh hwd
 clear hwd
 go_wp2_with fail
 ((with_reducible refine (HWS.out).mono ?_); rintro e w4 ⟨rfl, rfl⟩)
 rcases hws : withinB o.s b.regs with _ | _
 ·have hf : Hid (E = false) := HW1.out hws
  clear hws
  go_wp2
  go_ret
  exact ⟨by rw [hf.out]; rfl, b1⟩
 have HWSt := Lh hws
 clear hws HWD HWS
 have y2 := kb.cell 2 (.int .i64 b.ty.k) rfl
 have y3 := kb.cell 3 (.string b.ty.nm) rfl
 have y4 := kb.cell 4 (.slice An b.ty.ns.length cn) rfl
 have y5 := kb.cell 5 (.slice Ap b.ty.ps.length cp) rfl
 have y6 := kb.cell 6 (.bool b.ty.many) rfl
 have HBW := Lh (wordsR_any b.ty _ w1 (Rep.keep b1 _ _ HBT.out) HMY.out H4.out)
 go_wp2_with fail
 ((with_reducible refine (HBW.out).mono ?_); rintro e w5 ⟨rfl, hb5⟩)
 clear HBW x1 x2 y7 y2 y3 y4 y5 y6
 have b5 := b1.trans (hb5.mono b1.size)
 have kb5 := kb.below hb5
 have ko5 := ko.below hb5
 have y4 := kb5.cell 8 (.slice A b.code.length c) rfl
 have y6 := kb5.cell 6 (.bool b.ty.many) rfl
 have x0 := ko5.cell 0 (.int .i64 o.op) rfl
 have x1 := ko5.cell 1 (.slice Ad o.d.length cd) rfl
 have x3 := ko5.cell 3 (.int .i64 o.n) rfl
 have x4 := ko5.cell 4 (.string o.nm) rfl
 have x5 := ko5.cell 5 (.int .i64 o.ty.k) rfl
 have x6 := ko5.cell 6 (.string o.ty.nm) rfl
 have x7 := ko5.cell 7 (.slice An' o.ty.ns.length cn') rfl
 have x8 := ko5.cell 8 (.slice Ap' o.ty.ps.length cp') rfl
 have x9 := ko5.cell 9 (.bool o.ty.many) rfl
 have HNO := Lh (none_any o.ty _ w5 (Rep.keep b5 _ _ HTy.out))
 clear kb ko hb5 b1
 go_upto_region 6 with (fail)
 rcases op_cases o.op with h1 | h2 | h3 | h4 | h5 | h6 | h7 | h8 | h9 | h10 | h11 | h12 | h13 | h14 | h0
 ·have HE : Hid (E = ((decide (-2147483648 ≤ o.n) && decide (o.n ≤ 2147483647)) && o.nm.toList.isEmpty && (zeroT o.ty && ((o.d.length : Int) == 1) && ((o.s.length : Int) == 0)))) := HF1.out h1 HWDt.out HWSt.out
  rw [h1] at x0
  have HOP := Lh h1
  clear h1
  clear HW0 HW1 HF0 HF1 HF2 HF3 HF4 HF5 HF6 HF7 HF8 HF9 HF10 HF11 HF12 HF13 HF14
  go_wp2_with fail
  ((with_reducible refine (HNO.out).mono ?_); rintro e w6 ⟨rfl, hb6⟩)
  have b6 := b5.trans (hb6.mono b5.size)
  rcases hz : zeroT o.ty with _ | _
  ·have hf : Hid (E = false) := by show _ = _; rw [HE.out, hz]; simp
   clear hz
   go_wp2
   go_ret
   exact ⟨by rw [hf.out]; rfl, b6⟩
  have kb6 := kb5.below hb6
  have ko6 := ko5.below hb6
  have HE2 : Hid (E = ((decide (-2147483648 ≤ o.n) && decide (o.n ≤ 2147483647)) && o.nm.toList.isEmpty && (true && ((o.d.length : Int) == 1) && ((o.s.length : Int) == 0)))) := by show _ = _; rw [HE.out, hz]
  clear hz HE HNO x0 x1 x3 x4 x5 x6 x7 x8 x9 y4 y6
  have y4 := kb6.cell 8 (.slice A b.code.length c) rfl
  have y6 := kb6.cell 6 (.bool b.ty.many) rfl
  have x0 := ko6.cell 0 (.int .i64 o.op) rfl
  have x3 := ko6.cell 3 (.int .i64 o.n) rfl
  have x4 := ko6.cell 4 (.string o.nm) rfl
  rw [HOP.out] at x0
  by_cases hem : o.nm.toList = []
  case neg =>
   have hem1 : o.nm.toList.isEmpty = false := by simpa using hem
   have hf : Hid (E = false) := by
    show _ = _; rw [HE2.out]
    have : o.nm.toList.isEmpty = false := by simpa using hem
    rw [this]; simp
   go_wp2
   go_ret
   exact ⟨by rw [hf.out]; rfl, b6⟩
  have HE3 : Hid (E = ((decide (-2147483648 ≤ o.n) && decide (o.n ≤ 2147483647)) && (((o.d.length : Int) == 1) && ((o.s.length : Int) == 0)))) := by
   show _ = _; rw [HE2.out]
   have : o.nm.toList.isEmpty = true := by simpa using hem
   rw [this]; simp
  clear HE2
  have hem1 : o.nm.toList.isEmpty = true := by simpa using hem
  have bb := b6
  clear HD HS HTy HBT HMY H4 HWDt HWSt kb5 ko5 hb6
  go_wp2
  all_goals go_ret
  all_goals refine ⟨?_, bb⟩
  all_goals
   rw [HE3.out]
   refine congrArg (fun x => Ending.returned (.bool x)) ?_
   clear x0 x3 x4 y4 y6 HE3 bb
   clear HOP
   first | (simp [*]; done) | (simp [*]; omega) | (simp_all; done) | (simp_all; omega)
 ·have HE : Hid (E = (((o.n == 0)) && o.nm.toList.isEmpty && (zeroT o.ty && ((o.d.length : Int) == 1) && ((o.s.length : Int) == 1)))) := HF2.out h2 HWDt.out HWSt.out
  rw [h2] at x0
  have HOP := Lh h2
  clear h2
  clear HW0 HW1 HF0 HF1 HF2 HF3 HF4 HF5 HF6 HF7 HF8 HF9 HF10 HF11 HF12 HF13 HF14
  go_wp2_with fail
  ((with_reducible refine (HNO.out).mono ?_); rintro e w6 ⟨rfl, hb6⟩)
  have b6 := b5.trans (hb6.mono b5.size)
  rcases hz : zeroT o.ty with _ | _
  ·have hf : Hid (E = false) := by show _ = _; rw [HE.out, hz]; simp
   clear hz
   go_wp2
   go_ret
   exact ⟨by rw [hf.out]; rfl, b6⟩
  have kb6 := kb5.below hb6
  have ko6 := ko5.below hb6
  have HE2 : Hid (E = (((o.n == 0)) && o.nm.toList.isEmpty && (true && ((o.d.length : Int) == 1) && ((o.s.length : Int) == 1)))) := by show _ = _; rw [HE.out, hz]
  clear hz HE HNO x0 x1 x3 x4 x5 x6 x7 x8 x9 y4 y6
  have y4 := kb6.cell 8 (.slice A b.code.length c) rfl
  have y6 := kb6.cell 6 (.bool b.ty.many) rfl
  have x0 := ko6.cell 0 (.int .i64 o.op) rfl
  have x3 := ko6.cell 3 (.int .i64 o.n) rfl
  have x4 := ko6.cell 4 (.string o.nm) rfl
  rw [HOP.out] at x0
  by_cases hem : o.nm.toList = []
  case neg =>
   have hem1 : o.nm.toList.isEmpty = false := by simpa using hem
   have hf : Hid (E = false) := by
    show _ = _; rw [HE2.out]
    have : o.nm.toList.isEmpty = false := by simpa using hem
    rw [this]; simp
   go_wp2
   go_ret
   exact ⟨by rw [hf.out]; rfl, b6⟩
  have HE3 : Hid (E = (((o.n == 0)) && (((o.d.length : Int) == 1) && ((o.s.length : Int) == 1)))) := by
   show _ = _; rw [HE2.out]
   have : o.nm.toList.isEmpty = true := by simpa using hem
   rw [this]; simp
  clear HE2
  have hem1 : o.nm.toList.isEmpty = true := by simpa using hem
  have bb := b6
  clear HD HS HTy HBT HMY H4 HWDt HWSt kb5 ko5 hb6
  go_wp2
  all_goals go_ret
  all_goals refine ⟨?_, bb⟩
  all_goals
   rw [HE3.out]
   refine congrArg (fun x => Ending.returned (.bool x)) ?_
   clear x0 x3 x4 y4 y6 HE3 bb
   clear HOP
   first | (simp [*]; done) | (simp [*]; omega) | (simp_all; done) | (simp_all; omega)
 ·have HE : Hid (E = ((decide (1 ≤ o.n) && decide (o.n ≤ 12)) && o.nm.toList.isEmpty && (zeroT o.ty && ((o.d.length : Int) == 1) && ((o.s.length : Int) == 2)))) := HF3.out h3 HWDt.out HWSt.out
  rw [h3] at x0
  have HOP := Lh h3
  clear h3
  clear HW0 HW1 HF0 HF1 HF2 HF3 HF4 HF5 HF6 HF7 HF8 HF9 HF10 HF11 HF12 HF13 HF14
  go_wp2_with fail
  ((with_reducible refine (HNO.out).mono ?_); rintro e w6 ⟨rfl, hb6⟩)
  have b6 := b5.trans (hb6.mono b5.size)
  rcases hz : zeroT o.ty with _ | _
  ·have hf : Hid (E = false) := by show _ = _; rw [HE.out, hz]; simp
   clear hz
   go_wp2
   go_ret
   exact ⟨by rw [hf.out]; rfl, b6⟩
  have kb6 := kb5.below hb6
  have ko6 := ko5.below hb6
  have HE2 : Hid (E = ((decide (1 ≤ o.n) && decide (o.n ≤ 12)) && o.nm.toList.isEmpty && (true && ((o.d.length : Int) == 1) && ((o.s.length : Int) == 2)))) := by show _ = _; rw [HE.out, hz]
  clear hz HE HNO x0 x1 x3 x4 x5 x6 x7 x8 x9 y4 y6
  have y4 := kb6.cell 8 (.slice A b.code.length c) rfl
  have y6 := kb6.cell 6 (.bool b.ty.many) rfl
  have x0 := ko6.cell 0 (.int .i64 o.op) rfl
  have x3 := ko6.cell 3 (.int .i64 o.n) rfl
  have x4 := ko6.cell 4 (.string o.nm) rfl
  rw [HOP.out] at x0
  by_cases hem : o.nm.toList = []
  case neg =>
   have hem1 : o.nm.toList.isEmpty = false := by simpa using hem
   have hf : Hid (E = false) := by
    show _ = _; rw [HE2.out]
    have : o.nm.toList.isEmpty = false := by simpa using hem
    rw [this]; simp
   go_wp2
   go_ret
   exact ⟨by rw [hf.out]; rfl, b6⟩
  have HE3 : Hid (E = ((decide (1 ≤ o.n) && decide (o.n ≤ 12)) && (((o.d.length : Int) == 1) && ((o.s.length : Int) == 2)))) := by
   show _ = _; rw [HE2.out]
   have : o.nm.toList.isEmpty = true := by simpa using hem
   rw [this]; simp
  clear HE2
  have hem1 : o.nm.toList.isEmpty = true := by simpa using hem
  have bb := b6
  clear HD HS HTy HBT HMY H4 HWDt HWSt kb5 ko5 hb6
  go_wp2
  all_goals go_ret
  all_goals refine ⟨?_, bb⟩
  all_goals
   rw [HE3.out]
   refine congrArg (fun x => Ending.returned (.bool x)) ?_
   clear x0 x3 x4 y4 y6 HE3 bb
   clear HOP
   first | (simp [*]; done) | (simp [*]; omega) | (simp_all; done) | (simp_all; omega)
 ·have HE : Hid (E = (((o.n == 0) || (o.n == 1)) && nameOf o.nm && (zeroT o.ty && ((o.d.length : Int) == 1) && ((o.s.length : Int) == 0)))) := HF4.out h4 HWDt.out HWSt.out
  rw [h4] at x0
  have HOP := Lh h4
  clear h4
  clear HW0 HW1 HF0 HF1 HF2 HF3 HF4 HF5 HF6 HF7 HF8 HF9 HF10 HF11 HF12 HF13 HF14
  go_wp2_with fail
  ((with_reducible refine (HNO.out).mono ?_); rintro e w6 ⟨rfl, hb6⟩)
  have b6 := b5.trans (hb6.mono b5.size)
  rcases hz : zeroT o.ty with _ | _
  ·have hf : Hid (E = false) := by show _ = _; rw [HE.out, hz]; simp
   clear hz
   go_wp2
   go_ret
   exact ⟨by rw [hf.out]; rfl, b6⟩
  have kb6 := kb5.below hb6
  have ko6 := ko5.below hb6
  have HE2 : Hid (E = (((o.n == 0) || (o.n == 1)) && nameOf o.nm && (true && ((o.d.length : Int) == 1) && ((o.s.length : Int) == 0)))) := by show _ = _; rw [HE.out, hz]
  clear hz HE HNO x0 x1 x3 x4 x5 x6 x7 x8 x9 y4 y6
  have y4 := kb6.cell 8 (.slice A b.code.length c) rfl
  have y6 := kb6.cell 6 (.bool b.ty.many) rfl
  have x0 := ko6.cell 0 (.int .i64 o.op) rfl
  have x3 := ko6.cell 3 (.int .i64 o.n) rfl
  have x4 := ko6.cell 4 (.string o.nm) rfl
  rw [HOP.out] at x0
  go_wp2_with fail
  ((with_reducible refine (nameR_any o.nm w6).mono ?_); rintro e w7 ⟨rfl, hb7⟩)
  have b7 := b6.trans (hb7.mono b6.size)
  rcases hz : nameOf o.nm with _ | _
  ·have hf : Hid (E = false) := by show _ = _; rw [HE2.out, hz]; simp
   clear hz
   go_wp2
   go_ret
   exact ⟨by rw [hf.out]; rfl, b7⟩
  have HE3 : Hid (E = (((o.n == 0) || (o.n == 1)) && (((o.d.length : Int) == 1) && ((o.s.length : Int) == 0)))) := by show _ = _; rw [HE2.out, hz]; simp
  have kb7 := kb6.below hb7
  have ko7 := ko6.below hb7
  clear hz HE2 x0 x3 x4 y4 y6
  have y4 := kb7.cell 8 (.slice A b.code.length c) rfl
  have y6 := kb7.cell 6 (.bool b.ty.many) rfl
  have x0 := ko7.cell 0 (.int .i64 o.op) rfl
  have x3 := ko7.cell 3 (.int .i64 o.n) rfl
  have x4 := ko7.cell 4 (.string o.nm) rfl
  rw [HOP.out] at x0
  have bb := b7
  clear HD HS HTy HBT HMY H4 HWDt HWSt kb5 ko5 hb6
  go_wp2
  all_goals go_ret
  all_goals refine ⟨?_, bb⟩
  all_goals
   rw [HE3.out]
   refine congrArg (fun x => Ending.returned (.bool x)) ?_
   clear x0 x3 x4 y4 y6 HE3 bb
   clear HOP
   first | (simp [*]; done) | (simp [*]; omega) | (simp_all; done) | (simp_all; omega)
 ·have HE : Hid (E = (((o.n == 0) || (o.n == 1)) && nameOf o.nm && (zeroT o.ty && ((o.d.length : Int) == 0) && ((o.s.length : Int) == 1)))) := HF5.out h5 HWDt.out HWSt.out
  rw [h5] at x0
  have HOP := Lh h5
  clear h5
  clear HW0 HW1 HF0 HF1 HF2 HF3 HF4 HF5 HF6 HF7 HF8 HF9 HF10 HF11 HF12 HF13 HF14
  go_wp2_with fail
  ((with_reducible refine (HNO.out).mono ?_); rintro e w6 ⟨rfl, hb6⟩)
  have b6 := b5.trans (hb6.mono b5.size)
  rcases hz : zeroT o.ty with _ | _
  ·have hf : Hid (E = false) := by show _ = _; rw [HE.out, hz]; simp
   clear hz
   go_wp2
   go_ret
   exact ⟨by rw [hf.out]; rfl, b6⟩
  have kb6 := kb5.below hb6
  have ko6 := ko5.below hb6
  have HE2 : Hid (E = (((o.n == 0) || (o.n == 1)) && nameOf o.nm && (true && ((o.d.length : Int) == 0) && ((o.s.length : Int) == 1)))) := by show _ = _; rw [HE.out, hz]
  clear hz HE HNO x0 x1 x3 x4 x5 x6 x7 x8 x9 y4 y6
  have y4 := kb6.cell 8 (.slice A b.code.length c) rfl
  have y6 := kb6.cell 6 (.bool b.ty.many) rfl
  have x0 := ko6.cell 0 (.int .i64 o.op) rfl
  have x3 := ko6.cell 3 (.int .i64 o.n) rfl
  have x4 := ko6.cell 4 (.string o.nm) rfl
  rw [HOP.out] at x0
  go_wp2_with fail
  ((with_reducible refine (nameR_any o.nm w6).mono ?_); rintro e w7 ⟨rfl, hb7⟩)
  have b7 := b6.trans (hb7.mono b6.size)
  rcases hz : nameOf o.nm with _ | _
  ·have hf : Hid (E = false) := by show _ = _; rw [HE2.out, hz]; simp
   clear hz
   go_wp2
   go_ret
   exact ⟨by rw [hf.out]; rfl, b7⟩
  have HE3 : Hid (E = (((o.n == 0) || (o.n == 1)) && (((o.d.length : Int) == 0) && ((o.s.length : Int) == 1)))) := by show _ = _; rw [HE2.out, hz]; simp
  have kb7 := kb6.below hb7
  have ko7 := ko6.below hb7
  clear hz HE2 x0 x3 x4 y4 y6
  have y4 := kb7.cell 8 (.slice A b.code.length c) rfl
  have y6 := kb7.cell 6 (.bool b.ty.many) rfl
  have x0 := ko7.cell 0 (.int .i64 o.op) rfl
  have x3 := ko7.cell 3 (.int .i64 o.n) rfl
  have x4 := ko7.cell 4 (.string o.nm) rfl
  rw [HOP.out] at x0
  have bb := b7
  clear HD HS HTy HBT HMY H4 HWDt HWSt kb5 ko5 hb6
  go_wp2
  all_goals go_ret
  all_goals refine ⟨?_, bb⟩
  all_goals
   rw [HE3.out]
   refine congrArg (fun x => Ending.returned (.bool x)) ?_
   clear x0 x3 x4 y4 y6 HE3 bb
   clear HOP
   first | (simp [*]; done) | (simp [*]; omega) | (simp_all; done) | (simp_all; omega)
 ·have HE : Hid (E = (((o.n == 0)) && nameOf o.nm && (zeroT o.ty && ((o.d.length : Int) == 1) && ((o.s.length : Int) == 0)))) := HF6.out h6 HWDt.out HWSt.out
  rw [h6] at x0
  have HOP := Lh h6
  clear h6
  clear HW0 HW1 HF0 HF1 HF2 HF3 HF4 HF5 HF6 HF7 HF8 HF9 HF10 HF11 HF12 HF13 HF14
  go_wp2_with fail
  ((with_reducible refine (HNO.out).mono ?_); rintro e w6 ⟨rfl, hb6⟩)
  have b6 := b5.trans (hb6.mono b5.size)
  rcases hz : zeroT o.ty with _ | _
  ·have hf : Hid (E = false) := by show _ = _; rw [HE.out, hz]; simp
   clear hz
   go_wp2
   go_ret
   exact ⟨by rw [hf.out]; rfl, b6⟩
  have kb6 := kb5.below hb6
  have ko6 := ko5.below hb6
  have HE2 : Hid (E = (((o.n == 0)) && nameOf o.nm && (true && ((o.d.length : Int) == 1) && ((o.s.length : Int) == 0)))) := by show _ = _; rw [HE.out, hz]
  clear hz HE HNO x0 x1 x3 x4 x5 x6 x7 x8 x9 y4 y6
  have y4 := kb6.cell 8 (.slice A b.code.length c) rfl
  have y6 := kb6.cell 6 (.bool b.ty.many) rfl
  have x0 := ko6.cell 0 (.int .i64 o.op) rfl
  have x3 := ko6.cell 3 (.int .i64 o.n) rfl
  have x4 := ko6.cell 4 (.string o.nm) rfl
  rw [HOP.out] at x0
  go_wp2_with fail
  ((with_reducible refine (nameR_any o.nm w6).mono ?_); rintro e w7 ⟨rfl, hb7⟩)
  have b7 := b6.trans (hb7.mono b6.size)
  rcases hz : nameOf o.nm with _ | _
  ·have hf : Hid (E = false) := by show _ = _; rw [HE2.out, hz]; simp
   clear hz
   go_wp2
   go_ret
   exact ⟨by rw [hf.out]; rfl, b7⟩
  have HE3 : Hid (E = (((o.n == 0)) && (((o.d.length : Int) == 1) && ((o.s.length : Int) == 0)))) := by show _ = _; rw [HE2.out, hz]; simp
  have kb7 := kb6.below hb7
  have ko7 := ko6.below hb7
  clear hz HE2 x0 x3 x4 y4 y6
  have y4 := kb7.cell 8 (.slice A b.code.length c) rfl
  have y6 := kb7.cell 6 (.bool b.ty.many) rfl
  have x0 := ko7.cell 0 (.int .i64 o.op) rfl
  have x3 := ko7.cell 3 (.int .i64 o.n) rfl
  have x4 := ko7.cell 4 (.string o.nm) rfl
  rw [HOP.out] at x0
  have bb := b7
  clear HD HS HTy HBT HMY H4 HWDt HWSt kb5 ko5 hb6
  go_wp2
  all_goals go_ret
  all_goals refine ⟨?_, bb⟩
  all_goals
   rw [HE3.out]
   refine congrArg (fun x => Ending.returned (.bool x)) ?_
   clear x0 x3 x4 y4 y6 HE3 bb
   clear HOP
   first | (simp [*]; done) | (simp [*]; omega) | (simp_all; done) | (simp_all; omega)
 ·have HE : Hid (E = ((o.n == 0) && nameOf o.nm && ((o.ty.k == 4) && may o.ty && (o.d.length == resW o.ty) && decide o.d.Nodup && spareB o.ty o.s.length))) := HF7.out h7 HWDt.out HWSt.out
  have HOP := Lh h7
  rw [h7] at x0
  clear h7 HNO
  clear HW0 HW1 HF0 HF1 HF2 HF3 HF4 HF5 HF6 HF7 HF8 HF9 HF10 HF11 HF12 HF13 HF14
  rcases e0 : (o.n == 0) with _ | _
  ·have hf : Hid (E = false) := by show _ = _; rw [HE.out, e0]; simp
   have g0 : (o.n != 0) = true := by simpa using e0
   clear e0
   go_wp2
   go_ret
   exact ⟨by rw [hf.out]; rfl, b5⟩
  have g0 : (o.n != 0) = false := by simpa using e0
  have HE1 : Hid (E = (nameOf o.nm && ((o.ty.k == 4) && may o.ty && (o.d.length == resW o.ty) && decide o.d.Nodup && spareB o.ty o.s.length))) := by show _ = _; rw [HE.out, e0]; rfl
  clear e0 HE
  go_wp2_with fail
  ((with_reducible refine (nameR_any o.nm w5).mono ?_); rintro e w6 ⟨rfl, hb6⟩)
  have b6 := b5.trans (hb6.mono b5.size)
  rcases hz : nameOf o.nm with _ | _
  ·have hf : Hid (E = false) := by show _ = _; rw [HE1.out, hz]; rfl
   clear hz
   go_wp2
   go_ret
   exact ⟨by rw [hf.out]; rfl, b6⟩
  have HE2 : Hid (E = ((o.ty.k == 4) && may o.ty && (o.d.length == resW o.ty) && decide o.d.Nodup && spareB o.ty o.s.length)) := by show _ = _; rw [HE1.out, hz]; rfl
  have kb6 := kb5.below hb6
  have ko6 := ko5.below hb6
  clear hz HE1 x0 x1 x3 x4 x5 x6 x7 x8 x9 y4 y6 hb6
  have x0 := ko6.cell 0 (.int .i64 o.op) rfl
  have x1 := ko6.cell 1 (.slice Ad o.d.length cd) rfl
  have x3 := ko6.cell 3 (.int .i64 o.n) rfl
  have x4 := ko6.cell 4 (.string o.nm) rfl
  have x5 := ko6.cell 5 (.int .i64 o.ty.k) rfl
  have x6 := ko6.cell 6 (.string o.ty.nm) rfl
  have x7 := ko6.cell 7 (.slice An' o.ty.ns.length cn') rfl
  have x8 := ko6.cell 8 (.slice Ap' o.ty.ps.length cp') rfl
  have x9 := ko6.cell 9 (.bool o.ty.many) rfl
  rw [HOP.out] at x0
  have HFN := Lh (isFn_any o.ty _ w6 (Rep.keep b6 _ _ HTy.out))
  go_wp2_with fail
  ((with_reducible refine (HFN.out).mono ?_); rintro e w7 ⟨rfl, hb7⟩)
  clear HFN
  have b7 := b6.trans (hb7.mono b6.size)
  rcases hkm : ((o.ty.k == 4) && may o.ty) with _ | _
  ·have hf : Hid (E = false) := by show _ = _; rw [HE2.out, hkm]; rfl
   clear hkm
   go_wp2
   go_ret
   exact ⟨by rw [hf.out]; rfl, b7⟩
  have HE3 : Hid (E = ((o.d.length == resW o.ty) && (decide o.d.Nodup && spareB o.ty o.s.length))) := by
   show _ = _; rw [HE2.out, hkm]; simp [Bool.and_assoc]
  simp only [Bool.and_eq_true, beq_iff_eq] at hkm
  obtain ⟨hk4, hmo⟩ := hkm
  have ko7 := ko6.below hb7
  clear HE2 x0 x1 x3 x4 x5 x6 x7 x8 x9 hb7
  have x0 := ko7.cell 0 (.int .i64 o.op) rfl
  have x1 := ko7.cell 1 (.slice Ad o.d.length cd) rfl
  have x3 := ko7.cell 3 (.int .i64 o.n) rfl
  have x4 := ko7.cell 4 (.string o.nm) rfl
  have x5 := ko7.cell 5 (.int .i64 o.ty.k) rfl
  have x6 := ko7.cell 6 (.string o.ty.nm) rfl
  have x7 := ko7.cell 7 (.slice An' o.ty.ns.length cn') rfl
  have x8 := ko7.cell 8 (.slice Ap' o.ty.ps.length cp') rfl
  have x9 := ko7.cell 9 (.bool o.ty.many) rfl
  rw [HOP.out] at x0
  have HFW := Lh (wordsR_any o.ty _ w7 (Rep.keep b7 _ _ HTy.out) hmo hk4)
  have hr12 := resW_le hmo hk4
  have hp84 := parW_le hmo
  have HMO := Lh hmo
  have HK4 := Lh hk4
  clear hmo hk4
  go_wp2_with fail
  ((with_reducible refine (HFW.out).mono ?_); rintro e w8 ⟨rfl, hb8⟩)
  clear HFW
  have b8 := b7.trans (hb8.mono b7.size)
  have ko8 := ko7.below hb8
  clear x0 x1 x3 x4 x5 x6 x7 x8 x9 hb8
  have x0 := ko8.cell 0 (.int .i64 o.op) rfl
  have x1 := ko8.cell 1 (.slice Ad o.d.length cd) rfl
  have x3 := ko8.cell 3 (.int .i64 o.n) rfl
  have x4 := ko8.cell 4 (.string o.nm) rfl
  have x5 := ko8.cell 5 (.int .i64 o.ty.k) rfl
  have x6 := ko8.cell 6 (.string o.ty.nm) rfl
  have x7 := ko8.cell 7 (.slice An' o.ty.ns.length cn') rfl
  have x8 := ko8.cell 8 (.slice Ap' o.ty.ps.length cp') rfl
  have x9 := ko8.cell 9 (.bool o.ty.many) rfl
  rw [HOP.out] at x0
  by_cases hlr : o.d.length = resW o.ty
  case neg =>
   have hf : Hid (E = false) := by
    show _ = _; rw [HE3.out]
    have : (o.d.length == resW o.ty) = false := by simpa using hlr
    rw [this]; rfl
   have g2 : ((o.d.length : Int) != (resW o.ty : Int)) = true := by simp; omega
   have g3 : (o.d.length != resW o.ty) = true := by simpa using hlr
   clear hlr
   go_wp2
   go_ret
   exact ⟨by rw [hf.out]; rfl, b8⟩
  have HE4 : Hid (E = (decide o.d.Nodup && spareB o.ty o.s.length)) := by
   show _ = _; rw [HE3.out]
   have : (o.d.length == resW o.ty) = true := by simpa using hlr
   rw [this]; rfl
  have g2 : ((o.d.length : Int) != (resW o.ty : Int)) = false := by simp; omega
  have g3 : (o.d.length != resW o.ty) = false := by simpa using hlr
  have HTW := Lh (twice_any Ad cd o.d w8 (HD.out.keep b8) (by omega))
  clear hlr HE3 hr12
  go_wp2_with fail
  ((with_reducible refine (HTW.out).mono ?_); rintro e w9 ⟨rfl, nd, rfl⟩)
  clear HTW
  rcases hnd : decide o.d.Nodup with _ | _
  ·have hf : Hid (E = false) := by show _ = _; rw [HE4.out, hnd]; rfl
   clear hnd
   go_wp2
   go_ret
   exact ⟨by rw [hf.out]; rfl, Below.drewN_ b8 _⟩
  have HE5 : Hid (E = spareB o.ty o.s.length) := by show _ = _; rw [HE4.out, hnd]; rfl
  clear hnd HE4 g2 g3
  have bb := Below.drewN_ b8 nd
  have hsl := HSL.out
  unfold maxLen at hsl
  by_cases hl1 : o.s.length < parW o.ty
  ·have hf : Hid (E = false) := by
    show _ = _; rw [HE5.out]; unfold spareB
    have e1 : (o.s.length == parW o.ty) = false := by simp; omega
    have e2 : decide (parW o.ty < o.s.length) = false := by simp; omega
    rw [e1, e2]; rfl
   have g4 : decide (o.s.length < parW o.ty) = true := by simpa using hl1
   have g5 : decide ((o.s.length : Int) < (parW o.ty : Int)) = true := by simpa using hl1
   go_wp2
   go_ret
   exact ⟨by rw [hf.out]; rfl, bb⟩
  have g4 : decide (o.s.length < parW o.ty) = false := by simpa using hl1
  have g5 : decide ((o.s.length : Int) < (parW o.ty : Int)) = false := by simpa using hl1
  by_cases hl2 : o.s.length = parW o.ty
  ·have hf : Hid (E = true) := by
    show _ = _; rw [HE5.out]; unfold spareB
    have e1 : (o.s.length == parW o.ty) = true := by simpa using hl2
    rw [e1]; rfl
   have g6 : (o.s.length == parW o.ty) = true := by simpa using hl2
   have g7 : ((o.s.length : Int) == (parW o.ty : Int)) = true := by rw [beq_iff_eq]; omega
   clear hl1 hl2
   go_wp2
   go_ret
   exact ⟨by rw [hf.out]; rfl, bb⟩
  have g6 : (o.s.length == parW o.ty) = false := by simpa using hl2
  have g7 : ((o.s.length : Int) == (parW o.ty : Int)) = false := by rw [beq_eq_false_iff_ne]; omega
  have HE6 : Hid (E = (o.ty.many && decide (o.s.length ≤ parW o.ty + 12))) := by
   show _ = _; rw [HE5.out]; unfold spareB
   have e2 : decide (parW o.ty < o.s.length) = true := by simp; omega
   rw [g6, e2]; rfl
  clear HE5 hl1 hl2
  obtain ⟨mny, hmny⟩ : ∃ mny, o.ty.many = mny := ⟨_, rfl⟩
  rw [hmny] at x9 HE6
  clear hmny
  cases mny
  ·have hf : Hid (E = false) := by show _ = _; rw [HE6.out]; rfl
   go_wp2
   go_ret
   exact ⟨by rw [hf.out]; rfl, bb⟩
  have HE7 : Hid (E = decide ((o.s.length : Int) ≤ (parW o.ty : Int) + 12)) := by
   show _ = _; rw [HE6.out, Bool.true_and, decide_eq_decide]; omega
  go_wp2
  go_ret
  exact ⟨by rw [HE7.out]; rfl, bb⟩
 ·have HE : Hid (E = ((o.n == 0) && o.nm.toList.isEmpty && ((o.ty.k == 4) && may o.ty && (o.d.length == resW o.ty) && decide o.d.Nodup && (decide (1 ≤ o.s.length) && spareB o.ty (o.s.length - 1))))) := HF8.out h8 HWDt.out HWSt.out
  have HOP := Lh h8
  rw [h8] at x0
  clear h8 HNO
  clear HW0 HW1 HF0 HF1 HF2 HF3 HF4 HF5 HF6 HF7 HF8 HF9 HF10 HF11 HF12 HF13 HF14
  rcases e0 : (o.n == 0) with _ | _
  ·have hf : Hid (E = false) := by show _ = _; rw [HE.out, e0]; simp
   have g0 : (o.n != 0) = true := by simpa using e0
   clear e0
   go_wp2
   go_ret
   exact ⟨by rw [hf.out]; rfl, b5⟩
  have g0 : (o.n != 0) = false := by simpa using e0
  have HE1 : Hid (E = (o.nm.toList.isEmpty && ((o.ty.k == 4) && may o.ty && (o.d.length == resW o.ty) && decide o.d.Nodup && (decide (1 ≤ o.s.length) && spareB o.ty (o.s.length - 1))))) := by show _ = _; rw [HE.out, e0]; rfl
  clear e0 HE
  by_cases hem : o.nm.toList = []
  case neg =>
   have hem1 : o.nm.toList.isEmpty = false := by simpa using hem
   have hf : Hid (E = false) := by
    show _ = _; rw [HE1.out]
    have : o.nm.toList.isEmpty = false := by simpa using hem
    rw [this]; rfl
   go_wp2
   go_ret
   exact ⟨by rw [hf.out]; rfl, b5⟩
  have HE2 : Hid (E = ((o.ty.k == 4) && may o.ty && (o.d.length == resW o.ty) && decide o.d.Nodup && (decide (1 ≤ o.s.length) && spareB o.ty (o.s.length - 1)))) := by
   show _ = _; rw [HE1.out]
   have : o.nm.toList.isEmpty = true := by simpa using hem
   rw [this]; rfl
  clear HE1
  have hem1 : o.nm.toList.isEmpty = true := by simpa using hem
  by_cases hs0 : o.s.length = 0
  ·have hf : Hid (E = false) := by show _ = _; rw [HE2.out, hs0]; simp
   have g1 : ((o.s.length : Int) == 0) = true := by rw [beq_iff_eq]; omega
   clear hs0
   go_wp2
   go_ret
   exact ⟨by rw [hf.out]; rfl, b5⟩
  have g1 : ((o.s.length : Int) == 0) = false := by rw [beq_eq_false_iff_ne]; omega
  have g2 : (1 : Int) ≤ (o.s.length : Int) := by omega
  obtain ⟨sn, hsn⟩ : ∃ sn, o.s.length = sn + 1 := ⟨o.s.length - 1, by omega⟩
  have HSN : Hid ((o.s.length : Int) - 1 = (sn : Int)) := by show _ = _; omega
  have HS1 : Hid ((decide (1 ≤ o.s.length) && spareB o.ty (o.s.length - 1)) = spareB o.ty sn) := by show _ = _; rw [hsn]; simp
  clear hs0 hsn
  have HFN := Lh (isFn_any o.ty _ w5 (Rep.keep b5 _ _ HTy.out))
  go_wp2_with fail
  ((with_reducible refine (HFN.out).mono ?_); rintro e w7 ⟨rfl, hb7⟩)
  clear HFN
  have b7 := b5.trans (hb7.mono b5.size)
  rcases hkm : ((o.ty.k == 4) && may o.ty) with _ | _
  ·have hf : Hid (E = false) := by show _ = _; rw [HE2.out, hkm]; rfl
   clear hkm
   go_wp2
   go_ret
   exact ⟨by rw [hf.out]; rfl, b7⟩
  have HE3 : Hid (E = ((o.d.length == resW o.ty) && (decide o.d.Nodup && spareB o.ty sn))) := by
   show _ = _; rw [HE2.out, hkm, HS1.out]; simp [Bool.and_assoc]
  simp only [Bool.and_eq_true, beq_iff_eq] at hkm
  obtain ⟨hk4, hmo⟩ := hkm
  have ko7 := ko5.below hb7
  clear HE2 x0 x1 x3 x4 x5 x6 x7 x8 x9 hb7
  have x0 := ko7.cell 0 (.int .i64 o.op) rfl
  have x1 := ko7.cell 1 (.slice Ad o.d.length cd) rfl
  have x3 := ko7.cell 3 (.int .i64 o.n) rfl
  have x4 := ko7.cell 4 (.string o.nm) rfl
  have x5 := ko7.cell 5 (.int .i64 o.ty.k) rfl
  have x6 := ko7.cell 6 (.string o.ty.nm) rfl
  have x7 := ko7.cell 7 (.slice An' o.ty.ns.length cn') rfl
  have x8 := ko7.cell 8 (.slice Ap' o.ty.ps.length cp') rfl
  have x9 := ko7.cell 9 (.bool o.ty.many) rfl
  rw [HOP.out] at x0
  have HFW := Lh (wordsR_any o.ty _ w7 (Rep.keep b7 _ _ HTy.out) hmo hk4)
  have hr12 := resW_le hmo hk4
  have hp84 := parW_le hmo
  have HMO := Lh hmo
  have HK4 := Lh hk4
  clear hmo hk4
  have hsl0 := HSL.out
  unfold maxLen at hsl0
  go_upto_region 11 with (fail)
  rw [HSN.out]
  clear hsl0
  go_wp2_with fail
  ((with_reducible refine (HFW.out).mono ?_); rintro e w8 ⟨rfl, hb8⟩)
  clear HFW
  have b8 := b7.trans (hb8.mono b7.size)
  have ko8 := ko7.below hb8
  clear x0 x1 x3 x4 x5 x6 x7 x8 x9 hb8
  have x0 := ko8.cell 0 (.int .i64 o.op) rfl
  have x1 := ko8.cell 1 (.slice Ad o.d.length cd) rfl
  have x3 := ko8.cell 3 (.int .i64 o.n) rfl
  have x4 := ko8.cell 4 (.string o.nm) rfl
  have x5 := ko8.cell 5 (.int .i64 o.ty.k) rfl
  have x6 := ko8.cell 6 (.string o.ty.nm) rfl
  have x7 := ko8.cell 7 (.slice An' o.ty.ns.length cn') rfl
  have x8 := ko8.cell 8 (.slice Ap' o.ty.ps.length cp') rfl
  have x9 := ko8.cell 9 (.bool o.ty.many) rfl
  rw [HOP.out] at x0
  by_cases hlr : o.d.length = resW o.ty
  case neg =>
   have hf : Hid (E = false) := by
    show _ = _; rw [HE3.out]
    have : (o.d.length == resW o.ty) = false := by simpa using hlr
    rw [this]; rfl
   have g2 : ((o.d.length : Int) != (resW o.ty : Int)) = true := by simp; omega
   have g3 : (o.d.length != resW o.ty) = true := by simpa using hlr
   clear hlr
   go_wp2
   go_ret
   exact ⟨by rw [hf.out]; rfl, b8⟩
  have HE4 : Hid (E = (decide o.d.Nodup && spareB o.ty sn)) := by
   show _ = _; rw [HE3.out]
   have : (o.d.length == resW o.ty) = true := by simpa using hlr
   rw [this]; rfl
  have g2 : ((o.d.length : Int) != (resW o.ty : Int)) = false := by simp; omega
  have g3 : (o.d.length != resW o.ty) = false := by simpa using hlr
  have HTW := Lh (twice_any Ad cd o.d w8 (HD.out.keep b8) (by omega))
  clear hlr HE3 hr12
  go_wp2_with fail
  ((with_reducible refine (HTW.out).mono ?_); rintro e w9 ⟨rfl, nd, rfl⟩)
  clear HTW
  rcases hnd : decide o.d.Nodup with _ | _
  ·have hf : Hid (E = false) := by show _ = _; rw [HE4.out, hnd]; rfl
   clear hnd
   go_wp2
   go_ret
   exact ⟨by rw [hf.out]; rfl, Below.drewN_ b8 _⟩
  have HE5 : Hid (E = spareB o.ty sn) := by show _ = _; rw [HE4.out, hnd]; rfl
  clear hnd HE4 g2 g3
  have bb := Below.drewN_ b8 nd
  have hsl := HSL.out
  unfold maxLen at hsl
  by_cases hl1 : sn < parW o.ty
  ·have hf : Hid (E = false) := by
    show _ = _; rw [HE5.out]; unfold spareB
    have e1 : (sn == parW o.ty) = false := by simp; omega
    have e2 : decide (parW o.ty < sn) = false := by simp; omega
    rw [e1, e2]; rfl
   have g4 : decide (sn < parW o.ty) = true := by simpa using hl1
   have g5 : decide ((sn : Int) < (parW o.ty : Int)) = true := by simpa using hl1
   go_wp2
   go_ret
   exact ⟨by rw [hf.out]; rfl, bb⟩
  have g4 : decide (sn < parW o.ty) = false := by simpa using hl1
  have g5 : decide ((sn : Int) < (parW o.ty : Int)) = false := by simpa using hl1
  by_cases hl2 : sn = parW o.ty
  ·have hf : Hid (E = true) := by
    show _ = _; rw [HE5.out]; unfold spareB
    have e1 : (sn == parW o.ty) = true := by simpa using hl2
    rw [e1]; rfl
   have g6 : (sn == parW o.ty) = true := by simpa using hl2
   have g7 : ((sn : Int) == (parW o.ty : Int)) = true := by rw [beq_iff_eq]; omega
   clear hl1 hl2
   go_wp2
   go_ret
   exact ⟨by rw [hf.out]; rfl, bb⟩
  have g6 : (sn == parW o.ty) = false := by simpa using hl2
  have g7 : ((sn : Int) == (parW o.ty : Int)) = false := by rw [beq_eq_false_iff_ne]; omega
  have HE6 : Hid (E = (o.ty.many && decide (sn ≤ parW o.ty + 12))) := by
   show _ = _; rw [HE5.out]; unfold spareB
   have e2 : decide (parW o.ty < sn) = true := by simp; omega
   rw [g6, e2]; rfl
  clear HE5 hl1 hl2
  obtain ⟨mny, hmny⟩ : ∃ mny, o.ty.many = mny := ⟨_, rfl⟩
  rw [hmny] at x9 HE6
  clear hmny
  cases mny
  ·have hf : Hid (E = false) := by show _ = _; rw [HE6.out]; rfl
   go_wp2
   go_ret
   exact ⟨by rw [hf.out]; rfl, bb⟩
  have HE7 : Hid (E = decide ((sn : Int) ≤ (parW o.ty : Int) + 12)) := by
   show _ = _; rw [HE6.out, Bool.true_and, decide_eq_decide]; omega
  go_wp2
  go_ret
  exact ⟨by rw [HE7.out]; rfl, bb⟩
 ·have HE : Hid (E = ((decide (0 ≤ o.n) && decide (o.n ≤ (b.code.length : Int) - 1)) && o.nm.toList.isEmpty && (zeroT o.ty && ((o.d.length : Int) == 0) && ((o.s.length : Int) == 0)))) := HF9.out h9 HWDt.out HWSt.out
  rw [h9] at x0
  have HOP := Lh h9
  clear h9
  clear HW0 HW1 HF0 HF1 HF2 HF3 HF4 HF5 HF6 HF7 HF8 HF9 HF10 HF11 HF12 HF13 HF14
  go_wp2_with fail
  ((with_reducible refine (HNO.out).mono ?_); rintro e w6 ⟨rfl, hb6⟩)
  have b6 := b5.trans (hb6.mono b5.size)
  rcases hz : zeroT o.ty with _ | _
  ·have hf : Hid (E = false) := by show _ = _; rw [HE.out, hz]; simp
   clear hz
   go_wp2
   go_ret
   exact ⟨by rw [hf.out]; rfl, b6⟩
  have kb6 := kb5.below hb6
  have ko6 := ko5.below hb6
  have HE2 : Hid (E = ((decide (0 ≤ o.n) && decide (o.n ≤ (b.code.length : Int) - 1)) && o.nm.toList.isEmpty && (true && ((o.d.length : Int) == 0) && ((o.s.length : Int) == 0)))) := by show _ = _; rw [HE.out, hz]
  clear hz HE HNO x0 x1 x3 x4 x5 x6 x7 x8 x9 y4 y6
  have y4 := kb6.cell 8 (.slice A b.code.length c) rfl
  have y6 := kb6.cell 6 (.bool b.ty.many) rfl
  have x0 := ko6.cell 0 (.int .i64 o.op) rfl
  have x3 := ko6.cell 3 (.int .i64 o.n) rfl
  have x4 := ko6.cell 4 (.string o.nm) rfl
  rw [HOP.out] at x0
  by_cases hem : o.nm.toList = []
  case neg =>
   have hem1 : o.nm.toList.isEmpty = false := by simpa using hem
   have hf : Hid (E = false) := by
    show _ = _; rw [HE2.out]
    have : o.nm.toList.isEmpty = false := by simpa using hem
    rw [this]; simp
   go_wp2
   go_ret
   exact ⟨by rw [hf.out]; rfl, b6⟩
  have HE3 : Hid (E = ((decide (0 ≤ o.n) && decide (o.n ≤ (b.code.length : Int) - 1)) && (((o.d.length : Int) == 0) && ((o.s.length : Int) == 0)))) := by
   show _ = _; rw [HE2.out]
   have : o.nm.toList.isEmpty = true := by simpa using hem
   rw [this]; simp
  clear HE2
  have hem1 : o.nm.toList.isEmpty = true := by simpa using hem
  have bb := b6
  clear HD HS HTy HBT HMY H4 HWDt HWSt kb5 ko5 hb6
  go_wp2
  all_goals go_ret
  all_goals refine ⟨?_, bb⟩
  all_goals
   rw [HE3.out]
   refine congrArg (fun x => Ending.returned (.bool x)) ?_
   clear x0 x3 x4 y4 y6 HE3 bb
   clear HOP
   first | (simp [*]; done) | (simp [*]; omega) | (simp_all; done) | (simp_all; omega)
 ·have HE : Hid (E = ((decide (0 ≤ o.n) && decide (o.n ≤ (b.code.length : Int) - 1)) && o.nm.toList.isEmpty && (zeroT o.ty && ((o.d.length : Int) == 0) && ((o.s.length : Int) == 1)))) := HF10.out h10 HWDt.out HWSt.out
  rw [h10] at x0
  have HOP := Lh h10
  clear h10
  clear HW0 HW1 HF0 HF1 HF2 HF3 HF4 HF5 HF6 HF7 HF8 HF9 HF10 HF11 HF12 HF13 HF14
  go_wp2_with fail
  ((with_reducible refine (HNO.out).mono ?_); rintro e w6 ⟨rfl, hb6⟩)
  have b6 := b5.trans (hb6.mono b5.size)
  rcases hz : zeroT o.ty with _ | _
  ·have hf : Hid (E = false) := by show _ = _; rw [HE.out, hz]; simp
   clear hz
   go_wp2
   go_ret
   exact ⟨by rw [hf.out]; rfl, b6⟩
  have kb6 := kb5.below hb6
  have ko6 := ko5.below hb6
  have HE2 : Hid (E = ((decide (0 ≤ o.n) && decide (o.n ≤ (b.code.length : Int) - 1)) && o.nm.toList.isEmpty && (true && ((o.d.length : Int) == 0) && ((o.s.length : Int) == 1)))) := by show _ = _; rw [HE.out, hz]
  clear hz HE HNO x0 x1 x3 x4 x5 x6 x7 x8 x9 y4 y6
  have y4 := kb6.cell 8 (.slice A b.code.length c) rfl
  have y6 := kb6.cell 6 (.bool b.ty.many) rfl
  have x0 := ko6.cell 0 (.int .i64 o.op) rfl
  have x3 := ko6.cell 3 (.int .i64 o.n) rfl
  have x4 := ko6.cell 4 (.string o.nm) rfl
  rw [HOP.out] at x0
  by_cases hem : o.nm.toList = []
  case neg =>
   have hem1 : o.nm.toList.isEmpty = false := by simpa using hem
   have hf : Hid (E = false) := by
    show _ = _; rw [HE2.out]
    have : o.nm.toList.isEmpty = false := by simpa using hem
    rw [this]; simp
   go_wp2
   go_ret
   exact ⟨by rw [hf.out]; rfl, b6⟩
  have HE3 : Hid (E = ((decide (0 ≤ o.n) && decide (o.n ≤ (b.code.length : Int) - 1)) && (((o.d.length : Int) == 0) && ((o.s.length : Int) == 1)))) := by
   show _ = _; rw [HE2.out]
   have : o.nm.toList.isEmpty = true := by simpa using hem
   rw [this]; simp
  clear HE2
  have hem1 : o.nm.toList.isEmpty = true := by simpa using hem
  have bb := b6
  clear HD HS HTy HBT HMY H4 HWDt HWSt kb5 ko5 hb6
  go_wp2
  all_goals go_ret
  all_goals refine ⟨?_, bb⟩
  all_goals
   rw [HE3.out]
   refine congrArg (fun x => Ending.returned (.bool x)) ?_
   clear x0 x3 x4 y4 y6 HE3 bb
   clear HOP
   first | (simp [*]; done) | (simp [*]; omega) | (simp_all; done) | (simp_all; omega)
 ·have HE : Hid (E = (((o.n == 0)) && o.nm.toList.isEmpty && (zeroT o.ty && ((o.d.length : Int) == 0) && ((o.s.length : Int) == 1)))) := HF11.out h11 HWDt.out HWSt.out
  rw [h11] at x0
  have HOP := Lh h11
  clear h11
  clear HW0 HW1 HF0 HF1 HF2 HF3 HF4 HF5 HF6 HF7 HF8 HF9 HF10 HF11 HF12 HF13 HF14
  go_wp2_with fail
  ((with_reducible refine (HNO.out).mono ?_); rintro e w6 ⟨rfl, hb6⟩)
  have b6 := b5.trans (hb6.mono b5.size)
  rcases hz : zeroT o.ty with _ | _
  ·have hf : Hid (E = false) := by show _ = _; rw [HE.out, hz]; simp
   clear hz
   go_wp2
   go_ret
   exact ⟨by rw [hf.out]; rfl, b6⟩
  have kb6 := kb5.below hb6
  have ko6 := ko5.below hb6
  have HE2 : Hid (E = (((o.n == 0)) && o.nm.toList.isEmpty && (true && ((o.d.length : Int) == 0) && ((o.s.length : Int) == 1)))) := by show _ = _; rw [HE.out, hz]
  clear hz HE HNO x0 x1 x3 x4 x5 x6 x7 x8 x9 y4 y6
  have y4 := kb6.cell 8 (.slice A b.code.length c) rfl
  have y6 := kb6.cell 6 (.bool b.ty.many) rfl
  have x0 := ko6.cell 0 (.int .i64 o.op) rfl
  have x3 := ko6.cell 3 (.int .i64 o.n) rfl
  have x4 := ko6.cell 4 (.string o.nm) rfl
  rw [HOP.out] at x0
  by_cases hem : o.nm.toList = []
  case neg =>
   have hem1 : o.nm.toList.isEmpty = false := by simpa using hem
   have hf : Hid (E = false) := by
    show _ = _; rw [HE2.out]
    have : o.nm.toList.isEmpty = false := by simpa using hem
    rw [this]; simp
   go_wp2
   go_ret
   exact ⟨by rw [hf.out]; rfl, b6⟩
  have HE3 : Hid (E = (((o.n == 0)) && (((o.d.length : Int) == 0) && ((o.s.length : Int) == 1)))) := by
   show _ = _; rw [HE2.out]
   have : o.nm.toList.isEmpty = true := by simpa using hem
   rw [this]; simp
  clear HE2
  have hem1 : o.nm.toList.isEmpty = true := by simpa using hem
  have bb := b6
  clear HD HS HTy HBT HMY H4 HWDt HWSt kb5 ko5 hb6
  go_wp2
  all_goals go_ret
  all_goals refine ⟨?_, bb⟩
  all_goals
   rw [HE3.out]
   refine congrArg (fun x => Ending.returned (.bool x)) ?_
   clear x0 x3 x4 y4 y6 HE3 bb
   clear HOP
   first | (simp [*]; done) | (simp [*]; omega) | (simp_all; done) | (simp_all; omega)
 ·have HE : Hid (E = (((o.n == 0)) && o.nm.toList.isEmpty && (zeroT o.ty && ((o.d.length : Int) == 0) && ((o.s.length : Int) == (resW b.ty : Int))))) := HF12.out h12 HWDt.out HWSt.out
  rw [h12] at x0
  have HOP := Lh h12
  clear h12
  clear HW0 HW1 HF0 HF1 HF2 HF3 HF4 HF5 HF6 HF7 HF8 HF9 HF10 HF11 HF12 HF13 HF14
  go_wp2_with fail
  ((with_reducible refine (HNO.out).mono ?_); rintro e w6 ⟨rfl, hb6⟩)
  have b6 := b5.trans (hb6.mono b5.size)
  rcases hz : zeroT o.ty with _ | _
  ·have hf : Hid (E = false) := by show _ = _; rw [HE.out, hz]; simp
   clear hz
   go_wp2
   go_ret
   exact ⟨by rw [hf.out]; rfl, b6⟩
  have kb6 := kb5.below hb6
  have ko6 := ko5.below hb6
  have HE2 : Hid (E = (((o.n == 0)) && o.nm.toList.isEmpty && (true && ((o.d.length : Int) == 0) && ((o.s.length : Int) == (resW b.ty : Int))))) := by show _ = _; rw [HE.out, hz]
  clear hz HE HNO x0 x1 x3 x4 x5 x6 x7 x8 x9 y4 y6
  have y4 := kb6.cell 8 (.slice A b.code.length c) rfl
  have y6 := kb6.cell 6 (.bool b.ty.many) rfl
  have x0 := ko6.cell 0 (.int .i64 o.op) rfl
  have x3 := ko6.cell 3 (.int .i64 o.n) rfl
  have x4 := ko6.cell 4 (.string o.nm) rfl
  rw [HOP.out] at x0
  by_cases hem : o.nm.toList = []
  case neg =>
   have hem1 : o.nm.toList.isEmpty = false := by simpa using hem
   have hf : Hid (E = false) := by
    show _ = _; rw [HE2.out]
    have : o.nm.toList.isEmpty = false := by simpa using hem
    rw [this]; simp
   go_wp2
   go_ret
   exact ⟨by rw [hf.out]; rfl, b6⟩
  have HE3 : Hid (E = (((o.n == 0)) && (((o.d.length : Int) == 0) && ((o.s.length : Int) == (resW b.ty : Int))))) := by
   show _ = _; rw [HE2.out]
   have : o.nm.toList.isEmpty = true := by simpa using hem
   rw [this]; simp
  clear HE2
  have hem1 : o.nm.toList.isEmpty = true := by simpa using hem
  have bb := b6
  clear HD HS HTy HBT HMY H4 HWDt HWSt kb5 ko5 hb6
  go_wp2
  all_goals go_ret
  all_goals refine ⟨?_, bb⟩
  all_goals
   rw [HE3.out]
   refine congrArg (fun x => Ending.returned (.bool x)) ?_
   clear x0 x3 x4 y4 y6 HE3 bb
   clear HOP
   first | (simp [*]; done) | (simp [*]; omega) | (simp_all; done) | (simp_all; omega)
 ·have HE : Hid (E = (b.ty.many && ((o.n == 0)) && o.nm.toList.isEmpty && (zeroT o.ty && ((o.d.length : Int) == 1) && ((o.s.length : Int) == 0)))) := HF13.out h13 HWDt.out HWSt.out
  rw [h13] at x0
  have HOP := Lh h13
  clear h13
  clear HW0 HW1 HF0 HF1 HF2 HF3 HF4 HF5 HF6 HF7 HF8 HF9 HF10 HF11 HF12 HF13 HF14
  go_wp2_with fail
  ((with_reducible refine (HNO.out).mono ?_); rintro e w6 ⟨rfl, hb6⟩)
  have b6 := b5.trans (hb6.mono b5.size)
  rcases hz : zeroT o.ty with _ | _
  ·have hf : Hid (E = false) := by show _ = _; rw [HE.out, hz]; simp
   clear hz
   go_wp2
   go_ret
   exact ⟨by rw [hf.out]; rfl, b6⟩
  have kb6 := kb5.below hb6
  have ko6 := ko5.below hb6
  have HE2 : Hid (E = (b.ty.many && ((o.n == 0)) && o.nm.toList.isEmpty && (true && ((o.d.length : Int) == 1) && ((o.s.length : Int) == 0)))) := by show _ = _; rw [HE.out, hz]
  clear hz HE HNO x0 x1 x3 x4 x5 x6 x7 x8 x9 y4 y6
  have y4 := kb6.cell 8 (.slice A b.code.length c) rfl
  have y6 := kb6.cell 6 (.bool b.ty.many) rfl
  have x0 := ko6.cell 0 (.int .i64 o.op) rfl
  have x3 := ko6.cell 3 (.int .i64 o.n) rfl
  have x4 := ko6.cell 4 (.string o.nm) rfl
  rw [HOP.out] at x0
  by_cases hem : o.nm.toList = []
  case neg =>
   have hem1 : o.nm.toList.isEmpty = false := by simpa using hem
   have hf : Hid (E = false) := by
    show _ = _; rw [HE2.out]
    have : o.nm.toList.isEmpty = false := by simpa using hem
    rw [this]; simp
   go_wp2
   go_ret
   exact ⟨by rw [hf.out]; rfl, b6⟩
  have HE3 : Hid (E = (b.ty.many && ((o.n == 0)) && (((o.d.length : Int) == 1) && ((o.s.length : Int) == 0)))) := by
   show _ = _; rw [HE2.out]
   have : o.nm.toList.isEmpty = true := by simpa using hem
   rw [this]; simp
  clear HE2
  have hem1 : o.nm.toList.isEmpty = true := by simpa using hem
  have bb := b6
  clear HD HS HTy HBT HMY H4 HWDt HWSt kb5 ko5 hb6
  go_wp2
  all_goals go_ret
  all_goals refine ⟨?_, bb⟩
  all_goals
   rw [HE3.out]
   refine congrArg (fun x => Ending.returned (.bool x)) ?_
   clear x0 x3 x4 y4 y6 HE3 bb
   clear HOP
   first | (simp [*]; done) | (simp [*]; omega) | (simp_all; done) | (simp_all; omega)
 ·have HE : Hid (E = (b.ty.many && ((o.n == 0)) && o.nm.toList.isEmpty && (zeroT o.ty && ((o.d.length : Int) == 1) && ((o.s.length : Int) == 1)))) := HF14.out h14 HWDt.out HWSt.out
  rw [h14] at x0
  have HOP := Lh h14
  clear h14
  clear HW0 HW1 HF0 HF1 HF2 HF3 HF4 HF5 HF6 HF7 HF8 HF9 HF10 HF11 HF12 HF13 HF14
  go_wp2_with fail
  ((with_reducible refine (HNO.out).mono ?_); rintro e w6 ⟨rfl, hb6⟩)
  have b6 := b5.trans (hb6.mono b5.size)
  rcases hz : zeroT o.ty with _ | _
  ·have hf : Hid (E = false) := by show _ = _; rw [HE.out, hz]; simp
   clear hz
   go_wp2
   go_ret
   exact ⟨by rw [hf.out]; rfl, b6⟩
  have kb6 := kb5.below hb6
  have ko6 := ko5.below hb6
  have HE2 : Hid (E = (b.ty.many && ((o.n == 0)) && o.nm.toList.isEmpty && (true && ((o.d.length : Int) == 1) && ((o.s.length : Int) == 1)))) := by show _ = _; rw [HE.out, hz]
  clear hz HE HNO x0 x1 x3 x4 x5 x6 x7 x8 x9 y4 y6
  have y4 := kb6.cell 8 (.slice A b.code.length c) rfl
  have y6 := kb6.cell 6 (.bool b.ty.many) rfl
  have x0 := ko6.cell 0 (.int .i64 o.op) rfl
  have x3 := ko6.cell 3 (.int .i64 o.n) rfl
  have x4 := ko6.cell 4 (.string o.nm) rfl
  rw [HOP.out] at x0
  by_cases hem : o.nm.toList = []
  case neg =>
   have hem1 : o.nm.toList.isEmpty = false := by simpa using hem
   have hf : Hid (E = false) := by
    show _ = _; rw [HE2.out]
    have : o.nm.toList.isEmpty = false := by simpa using hem
    rw [this]; simp
   go_wp2
   go_ret
   exact ⟨by rw [hf.out]; rfl, b6⟩
  have HE3 : Hid (E = (b.ty.many && ((o.n == 0)) && (((o.d.length : Int) == 1) && ((o.s.length : Int) == 1)))) := by
   show _ = _; rw [HE2.out]
   have : o.nm.toList.isEmpty = true := by simpa using hem
   rw [this]; simp
  clear HE2
  have hem1 : o.nm.toList.isEmpty = true := by simpa using hem
  have bb := b6
  clear HD HS HTy HBT HMY H4 HWDt HWSt kb5 ko5 hb6
  go_wp2
  all_goals go_ret
  all_goals refine ⟨?_, bb⟩
  all_goals
   rw [HE3.out]
   refine congrArg (fun x => Ending.returned (.bool x)) ?_
   clear x0 x3 x4 y4 y6 HE3 bb
   clear HOP
   first | (simp [*]; done) | (simp [*]; omega) | (simp_all; done) | (simp_all; omega)
 ·have hf : Hid (E = false) := HF0.out h0
  obtain ⟨e1, e2, e3, e4, e5, e6, e7, e8, e9, e10, e11, e12, e13, e14⟩ := h0
  go_wp2_with fail
  ((with_reducible refine (HNO.out).mono ?_); rintro e w6 ⟨rfl, hb6⟩)
  have b6 := b5.trans (hb6.mono b5.size)
  have ko6 := ko5.below hb6
  clear x0 x4
  have x0 := ko6.cell 0 (.int .i64 o.op) rfl
  have x4 := ko6.cell 4 (.string o.nm) rfl
  go_wp2
  all_goals go_ret
  all_goals exact ⟨by rw [hf.out]; rfl, b6⟩
end Go.Proofs.YthihaeobkoiljaaGreat
