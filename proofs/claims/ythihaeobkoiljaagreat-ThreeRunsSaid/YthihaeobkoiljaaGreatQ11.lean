/- Lemmas for the law. -/
import Derived.Test.YthihaeobkoiljaaGreatQ09
import Derived.Test.YthihaeobkoiljaaGreatQ10
import Derived.Maps.OwnIn
set_option linter.unusedVariables false
set_option linter.unusedSimpArgs false
set_option maxRecDepth 100000
set_option maxHeartbeats 40000000
namespace Go.Proofs.YthihaeobkoiljaaGreat
open Go.RowKit
theorem mayR11_any (b : Bo) (cs : List Value) (w : World) (hr : RepB w b cs) :
 Calls Tryz.prog 8 #[.agg cs.toArray] w fun e w' => e = .returned (.bool (bodyB b)) ∧ Below w.heap.size w w' := by
 have hr0 := hr
 obtain ⟨An, cn, Ap, cp, A, c, rfl, hT, hP, hO, hl⟩ := hr.nine
 have B0 : Below w.heap.size w (w.alloc (.cells #[.string b.nm, .bool b.static, .int .i64 b.ty.k, .string b.ty.nm, .slice An b.ty.ns.length cn, .slice Ap b.ty.ps.length cp, .bool b.ty.many, .int .i64 b.regs, .slice A b.code.length c] 37)) := bel
 have kb := Blk.new_ w 37 #[.string b.nm, .bool b.static, .int .i64 b.ty.k, .string b.ty.nm, .slice An b.ty.ns.length cn, .slice Ap b.ty.ps.length cp, .bool b.ty.many, .int .i64 b.regs, .slice A b.code.length c]
 have HR := Lh (fun (W : World) (h : Below w.heap.size w W) => RepB.keep hr0 h)
 have HT := Lh hT
 have HO := Lh hO
 have HHB : Hid (headB b = (nameOf b.nm && (b.ty.k == 4) && may b.ty && decide ((parW b.ty : Int) ≤ b.regs) && decide (b.regs ≤ 8000) && decide (1 ≤ b.code.length) && decide (b.code.length ≤ 6000))) := rfl
 have HNOH := Lh (@body_no b)
 have HNO := Lh (fun (hh : headB b = true) k (hk : k < b.code.length) hn => body_some hh hk hn)
 have HAL := Lh (@body_all b)
 generalize bodyB b = E at *
 generalize headB b = HB at *
 have hl' := hl
 unfold maxLen at hl'
 clear hr hr0 hP hO hl hT
 go_enter Tryz.func8, Tryz.ntmps8
 go_upto_region 1 with (fail)
 generalize hw1 : w.alloc (.cells #[.string b.nm, .bool b.static, .int .i64 b.ty.k, .string b.ty.nm, .slice An b.ty.ns.length cn, .slice Ap b.ty.ps.length cp, .bool b.ty.many, .int .i64 b.regs, .slice A b.code.length c] 37) = w1 at *
 clear hw1
 have y0 := kb.cell 0 (.string b.nm) rfl
 have y2 := kb.cell 2 (.int .i64 b.ty.k) rfl
 have y3 := kb.cell 3 (.string b.ty.nm) rfl
 have y4 := kb.cell 4 (.slice An b.ty.ns.length cn) rfl
 have y5 := kb.cell 5 (.slice Ap b.ty.ps.length cp) rfl
 have y6 := kb.cell 6 (.bool b.ty.many) rfl
 have y7 := kb.cell 7 (.int .i64 b.regs) rfl
 have y8 := kb.cell 8 (.slice A b.code.length c) rfl
 have HNM := Lh (nameR_any b.nm w1)
 go_wp2_with fail
 ((with_reducible refine (HNM.out).mono ?_); rintro e w2 ⟨rfl, hb2⟩)
 clear HNM
 have b2 := B0.trans (hb2.mono B0.size)
 have kb2 := kb.below hb2
 rcases hnm : nameOf b.nm with _ | _
 ·have hf : Hid (E = false) := HNOH.out (by rw [HHB.out, hnm]; rfl)
  clear hnm
  go_wp2
  go_ret
  exact ⟨by rw [hf.out]; rfl, b2⟩
 have HN0 := Lh hnm
 clear hnm y0 y2 y3 y4 y5 y6 y7 y8 hb2
 have y0 := kb2.cell 0 (.string b.nm) rfl
 have y2 := kb2.cell 2 (.int .i64 b.ty.k) rfl
 have y3 := kb2.cell 3 (.string b.ty.nm) rfl
 have y4 := kb2.cell 4 (.slice An b.ty.ns.length cn) rfl
 have y5 := kb2.cell 5 (.slice Ap b.ty.ps.length cp) rfl
 have y6 := kb2.cell 6 (.bool b.ty.many) rfl
 have y7 := kb2.cell 7 (.int .i64 b.regs) rfl
 have y8 := kb2.cell 8 (.slice A b.code.length c) rfl
 have HFN := Lh (isFn_any b.ty _ w2 (Rep.keep b2 _ _ HT.out))
 go_wp2_with fail
 ((with_reducible refine (HFN.out).mono ?_); rintro e w3 ⟨rfl, hb3⟩)
 clear HFN
 have b3 := b2.trans (hb3.mono b2.size)
 have kb3 := kb2.below hb3
 rcases hkm : ((b.ty.k == 4) && may b.ty) with _ | _
 ·have hf : Hid (E = false) := HNOH.out (by rw [HHB.out, HN0.out, Bool.true_and, hkm]; rfl)
  clear hkm
  go_wp2
  go_ret
  exact ⟨by rw [hf.out]; rfl, b3⟩
 have HKM := Lh hkm
 clear hkm y0 y2 y3 y4 y5 y6 y7 y8 hb3
 by_cases h1 : b.code.length < 1
 ·have hf : Hid (E = false) := HNOH.out (by
   have : decide (1 ≤ b.code.length) = false := by rw [decide_eq_false_iff_not]; omega
   rw [HHB.out, this]; simp)
  have g1 : (b.code.length : Int) < 1 := by omega
  have g2 : decide ((b.code.length : Int) < 1) = true := by simpa using g1
  have g3 : decide (b.code.length < 1) = true := by simpa using h1
  clear h1
  go_wp2
  go_ret
  exact ⟨by rw [hf.out]; rfl, b3⟩
 have g1 : decide ((b.code.length : Int) < 1) = false := by rw [decide_eq_false_iff_not]; omega
 have g1' : decide (b.code.length < 1) = false := by rw [decide_eq_false_iff_not]; omega
 have g1'' : ¬ (b.code.length : Int) < 1 := by omega
 by_cases h2 : 6000 < b.code.length
 ·have hf : Hid (E = false) := HNOH.out (by
   have : decide (b.code.length ≤ 6000) = false := by simp; omega
   rw [HHB.out, this]; simp)
  have g2 : decide ((6000 : Int) < (b.code.length : Int)) = true := by simp; omega
  have g3 : decide (6000 < b.code.length) = true := by simpa using h2
  go_wp2
  go_ret
  exact ⟨by rw [hf.out]; rfl, b3⟩
 have g2 : decide ((6000 : Int) < (b.code.length : Int)) = false := by simp; omega
 have g2' : decide (6000 < b.code.length) = false := by simp; omega
 have y7 := kb3.cell 7 (.int .i64 b.regs) rfl
 by_cases h3 : 8000 < b.regs
 ·have hf : Hid (E = false) := HNOH.out (by
   have : decide (b.regs ≤ 8000) = false := by simp; omega
   rw [HHB.out, this]; simp)
  have g3 : decide (8000 < b.regs) = true := by simpa using h3
  go_wp2
  go_ret
  exact ⟨by rw [hf.out]; rfl, b3⟩
 have g3 : decide (8000 < b.regs) = false := by simp; omega
 have H1 : 1 ≤ b.code.length ∧ b.code.length ≤ 6000 ∧ b.regs ≤ 8000 := ⟨by omega, by omega, by omega⟩
 have HH1 := Lh H1
 obtain ⟨hk4, hmy⟩ : b.ty.k = 4 ∧ may b.ty = true := by
  have := HKM.out
  simp only [Bool.and_eq_true, beq_iff_eq] at this
  exact this
 have hp84 := parW_le hmy
 have HMY := Lh hmy
 have HK4 := Lh hk4
 have HWD := Lh (wordsR_any b.ty _ w3 (Rep.keep b3 _ _ HT.out) hmy hk4)
 clear hmy hk4 H1 h1 h2 h3 y7
 have y0 := kb3.cell 0 (.string b.nm) rfl
 have y2 := kb3.cell 2 (.int .i64 b.ty.k) rfl
 have y3 := kb3.cell 3 (.string b.ty.nm) rfl
 have y4 := kb3.cell 4 (.slice An b.ty.ns.length cn) rfl
 have y5 := kb3.cell 5 (.slice Ap b.ty.ps.length cp) rfl
 have y6 := kb3.cell 6 (.bool b.ty.many) rfl
 have y7 := kb3.cell 7 (.int .i64 b.regs) rfl
 have y8 := kb3.cell 8 (.slice A b.code.length c) rfl
 go_wp2_with fail
 ((with_reducible refine (HWD.out).mono ?_); rintro e w4 ⟨rfl, hb4⟩)
 clear HWD g1 g1' g1'' g2 g2' g3 y0 y2 y3 y4 y5 y6 y7 y8
 have b4 := b3.trans (hb4.mono b3.size)
 have kb4 := kb3.below hb4
 have y7 := kb4.cell 7 (.int .i64 b.regs) rfl
 by_cases h5 : b.regs < (parW b.ty : Int)
 ·have hf : Hid (E = false) := HNOH.out (by
   have : decide ((parW b.ty : Int) ≤ b.regs) = false := by simp; omega
   rw [HHB.out, this]; simp)
  go_wp2
  go_ret
  exact ⟨by rw [hf.out]; rfl, b4⟩
 have HHT : Hid (HB = true) := by
  show _ = _
  have e1 : decide ((parW b.ty : Int) ≤ b.regs) = true := by simp; omega
  have e2 : decide (b.regs ≤ 8000) = true := by simpa using HH1.out.2.2
  have e3 : decide (1 ≤ b.code.length) = true := by simpa using HH1.out.1
  have e4 : decide (b.code.length ≤ 6000) = true := by simpa using HH1.out.2.1
  rw [HHB.out, HN0.out, Bool.true_and, HKM.out, e1, e2, e3, e4]; rfl
 go_upto_region 7 with (fail)
 clear hb4
 go_wp2
 go_loopw [6] (fun i wr => OrdsRel b w w4 i wr) (fun i _ => b.code.length - (intOf i).toNat)
 case atStart => exact ⟨0, Nat.zero_le _, rfl, fun j _ h => absurd h (by omega), Below.refl _ _, b4⟩
 case round =>
  clear y7
  obtain ⟨k, hk, rfl, hg, hb, hbw⟩ := hrel
  have kbr := kb4.below hb
  have hlen6 := HH1.out.2.1
  by_cases hlt : k < b.code.length
  ·obtain ⟨bb, oo, Ad, cd, As, c', An', cn', Ap', cp', rfl, hbl, hrep, hcs⟩ := HO.out.ten hlt
   have hi : (k : Int) < (b.code.length : Int) := by omega
   have hi0 : (0 : Int) ≤ (k : Int) := by omega
   have hk6 : (k : Int) < 6000 := by omega
   have HN := Lh (HNO.out HHT.out k hlt)
   have HG : Hid (orderB b.ty b.regs b.code.length b.code[k] = true → ∀ j (h : j < b.code.length), j < k + 1 → orderB b.ty b.regs b.code.length b.code[j] = true) := fun h0 j h hj => by
    rcases Nat.lt_or_ge j k with h1 | h1
    ·exact hg j h h1
    ·obtain rfl : j = k := by omega
     exact h0
   have HCS : Hid (∀ W, Below wr.heap.size wr W → W.cell? ⟨bb, oo + k * 10, none⟩ = some (.int .i64 b.code[k].op) ∧ W.cell? ⟨bb, oo + k * 10 + 1, none⟩ = some (.slice Ad b.code[k].d.length cd) ∧ W.cell? ⟨bb, oo + k * 10 + 2, none⟩ = some (.slice As b.code[k].s.length c') ∧ W.cell? ⟨bb, oo + k * 10 + 3, none⟩ = some (.int .i64 b.code[k].n) ∧ W.cell? ⟨bb, oo + k * 10 + 4, none⟩ = some (.string b.code[k].nm) ∧ W.cell? ⟨bb, oo + k * 10 + 5, none⟩ = some (.int .i64 b.code[k].ty.k) ∧ W.cell? ⟨bb, oo + k * 10 + 6, none⟩ = some (.string b.code[k].ty.nm) ∧ W.cell? ⟨bb, oo + k * 10 + 7, none⟩ = some (.slice An' b.code[k].ty.ns.length cn') ∧ W.cell? ⟨bb, oo + k * 10 + 8, none⟩ = some (.slice Ap' b.code[k].ty.ps.length cp') ∧ W.cell? ⟨bb, oo + k * 10 + 9, none⟩ = some (.bool b.code[k].ty.many)) := fun W h => hcs W (hbw.trans (h.mono hbw.size))
   have HREP : Hid (∀ W, Below wr.heap.size wr W → RepO W b.code[k] [.int .i64 b.code[k].op, .slice Ad b.code[k].d.length cd, .slice As b.code[k].s.length c', .int .i64 b.code[k].n, .string b.code[k].nm, .int .i64 b.code[k].ty.k, .string b.code[k].ty.nm, .slice An' b.code[k].ty.ns.length cn', .slice Ap' b.code[k].ty.ps.length cp', .bool b.code[k].ty.many]) := fun W h => hrep.keep (hbw.trans (h.mono hbw.size))
   have HRB : Hid (∀ W, Below wr.heap.size wr W → RepB W b [.string b.nm, .bool b.static, .int .i64 b.ty.k, .string b.ty.nm, .slice An b.ty.ns.length cn, .slice Ap b.ty.ps.length cp, .bool b.ty.many, .int .i64 b.regs, .slice (some ⟨bb, oo, none⟩) b.code.length c]) := fun W h => HR.out W (hbw.trans (h.mono hbw.size))
   clear hg hrep hcs
   generalize b.code[k] = od at *
   have HF : Hid (∀ W, Below wr.heap.size wr W → ((W.cell? ⟨w.heap.size, 0, none⟩ = some (.string b.nm) ∧ W.cell? ⟨w.heap.size, 1, none⟩ = some (.bool b.static) ∧ W.cell? ⟨w.heap.size, 2, none⟩ = some (.int .i64 b.ty.k) ∧ W.cell? ⟨w.heap.size, 3, none⟩ = some (.string b.ty.nm) ∧ W.cell? ⟨w.heap.size, 4, none⟩ = some (.slice An b.ty.ns.length cn) ∧ W.cell? ⟨w.heap.size, 5, none⟩ = some (.slice Ap b.ty.ps.length cp) ∧ W.cell? ⟨w.heap.size, 6, none⟩ = some (.bool b.ty.many) ∧ W.cell? ⟨w.heap.size, 7, none⟩ = some (.int .i64 b.regs) ∧ W.cell? ⟨w.heap.size, 8, none⟩ = some (.slice (some ⟨bb, oo, none⟩) b.code.length c)) ∧ W.cell? ⟨bb, oo + k * 10, none⟩ = some (.int .i64 od.op) ∧ W.cell? ⟨bb, oo + k * 10 + 1, none⟩ = some (.slice Ad od.d.length cd) ∧ W.cell? ⟨bb, oo + k * 10 + 2, none⟩ = some (.slice As od.s.length c') ∧ W.cell? ⟨bb, oo + k * 10 + 3, none⟩ = some (.int .i64 od.n) ∧ W.cell? ⟨bb, oo + k * 10 + 4, none⟩ = some (.string od.nm) ∧ W.cell? ⟨bb, oo + k * 10 + 5, none⟩ = some (.int .i64 od.ty.k) ∧ W.cell? ⟨bb, oo + k * 10 + 6, none⟩ = some (.string od.ty.nm) ∧ W.cell? ⟨bb, oo + k * 10 + 7, none⟩ = some (.slice An' od.ty.ns.length cn') ∧ W.cell? ⟨bb, oo + k * 10 + 8, none⟩ = some (.slice Ap' od.ty.ps.length cp') ∧ W.cell? ⟨bb, oo + k * 10 + 9, none⟩ = some (.bool od.ty.many))) := fun W h => by
    have q := kbr.below h
    exact ⟨⟨q.cell 0 _ rfl, q.cell 1 _ rfl, q.cell 2 _ rfl, q.cell 3 _ rfl, q.cell 4 _ rfl, q.cell 5 _ rfl, q.cell 6 _ rfl, q.cell 7 _ rfl, q.cell 8 _ rfl⟩, HCS.out W h⟩
   have HC : Hid (∀ W, (Below wr.heap.size wr W ∧ ((W.cell? ⟨w.heap.size, 0, none⟩ = some (.string b.nm) ∧ W.cell? ⟨w.heap.size, 1, none⟩ = some (.bool b.static) ∧ W.cell? ⟨w.heap.size, 2, none⟩ = some (.int .i64 b.ty.k) ∧ W.cell? ⟨w.heap.size, 3, none⟩ = some (.string b.ty.nm) ∧ W.cell? ⟨w.heap.size, 4, none⟩ = some (.slice An b.ty.ns.length cn) ∧ W.cell? ⟨w.heap.size, 5, none⟩ = some (.slice Ap b.ty.ps.length cp) ∧ W.cell? ⟨w.heap.size, 6, none⟩ = some (.bool b.ty.many) ∧ W.cell? ⟨w.heap.size, 7, none⟩ = some (.int .i64 b.regs) ∧ W.cell? ⟨w.heap.size, 8, none⟩ = some (.slice (some ⟨bb, oo, none⟩) b.code.length c)) ∧ W.cell? ⟨bb, oo + k * 10, none⟩ = some (.int .i64 od.op) ∧ W.cell? ⟨bb, oo + k * 10 + 1, none⟩ = some (.slice Ad od.d.length cd) ∧ W.cell? ⟨bb, oo + k * 10 + 2, none⟩ = some (.slice As od.s.length c') ∧ W.cell? ⟨bb, oo + k * 10 + 3, none⟩ = some (.int .i64 od.n) ∧ W.cell? ⟨bb, oo + k * 10 + 4, none⟩ = some (.string od.nm) ∧ W.cell? ⟨bb, oo + k * 10 + 5, none⟩ = some (.int .i64 od.ty.k) ∧ W.cell? ⟨bb, oo + k * 10 + 6, none⟩ = some (.string od.ty.nm) ∧ W.cell? ⟨bb, oo + k * 10 + 7, none⟩ = some (.slice An' od.ty.ns.length cn') ∧ W.cell? ⟨bb, oo + k * 10 + 8, none⟩ = some (.slice Ap' od.ty.ps.length cp') ∧ W.cell? ⟨bb, oo + k * 10 + 9, none⟩ = some (.bool od.ty.many))) → Calls Tryz.prog 25 #[.agg #[.string b.nm, .bool b.static, .int .i64 b.ty.k, .string b.ty.nm, .slice An b.ty.ns.length cn, .slice Ap b.ty.ps.length cp, .bool b.ty.many, .int .i64 b.regs, .slice (some ⟨bb, oo, none⟩) b.code.length c], .agg #[.int .i64 od.op, .slice Ad od.d.length cd, .slice As od.s.length c', .int .i64 od.n, .string od.nm, .int .i64 od.ty.k, .string od.ty.nm, .slice An' od.ty.ns.length cn', .slice Ap' od.ty.ps.length cp', .bool od.ty.many]] W fun e w' => e = .returned (.bool (orderB b.ty b.regs b.code.length od)) ∧ Below W.heap.size W w') := fun W h =>
    orderR_any b _ od _ W (HRB.out W h.1) (HREP.out W h.1) HMY.out HK4.out hlen6
   clear hlen6
   go_wp2_with fail
   go_region_held3 (fun W => Below wr.heap.size wr W ∧ ((W.cell? ⟨w.heap.size, 0, none⟩ = some (.string b.nm) ∧ W.cell? ⟨w.heap.size, 1, none⟩ = some (.bool b.static) ∧ W.cell? ⟨w.heap.size, 2, none⟩ = some (.int .i64 b.ty.k) ∧ W.cell? ⟨w.heap.size, 3, none⟩ = some (.string b.ty.nm) ∧ W.cell? ⟨w.heap.size, 4, none⟩ = some (.slice An b.ty.ns.length cn) ∧ W.cell? ⟨w.heap.size, 5, none⟩ = some (.slice Ap b.ty.ps.length cp) ∧ W.cell? ⟨w.heap.size, 6, none⟩ = some (.bool b.ty.many) ∧ W.cell? ⟨w.heap.size, 7, none⟩ = some (.int .i64 b.regs) ∧ W.cell? ⟨w.heap.size, 8, none⟩ = some (.slice (some ⟨bb, oo, none⟩) b.code.length c)) ∧ W.cell? ⟨bb, oo + k * 10, none⟩ = some (.int .i64 od.op) ∧ W.cell? ⟨bb, oo + k * 10 + 1, none⟩ = some (.slice Ad od.d.length cd) ∧ W.cell? ⟨bb, oo + k * 10 + 2, none⟩ = some (.slice As od.s.length c') ∧ W.cell? ⟨bb, oo + k * 10 + 3, none⟩ = some (.int .i64 od.n) ∧ W.cell? ⟨bb, oo + k * 10 + 4, none⟩ = some (.string od.nm) ∧ W.cell? ⟨bb, oo + k * 10 + 5, none⟩ = some (.int .i64 od.ty.k) ∧ W.cell? ⟨bb, oo + k * 10 + 6, none⟩ = some (.string od.ty.nm) ∧ W.cell? ⟨bb, oo + k * 10 + 7, none⟩ = some (.slice An' od.ty.ns.length cn') ∧ W.cell? ⟨bb, oo + k * 10 + 8, none⟩ = some (.slice Ap' od.ty.ps.length cp') ∧ W.cell? ⟨bb, oo + k * 10 + 9, none⟩ = some (.bool od.ty.many))) (first | exact held0 HF | exact heldS HF (by assumption) hbq | exact heldD HF (by assumption) | go_keep) ((go_at_call 25; ((with_reducible refine (HC.out _ (by assumption)).mono ?_); rintro e w' ⟨rfl, hbq⟩)))
   rename_i hh
   obtain ⟨w5, rfl⟩ : ∃ w5 : World, w5 = w' := ⟨_, rfl⟩
   have b7 := hb.trans (hh.1.mono hb.size)
   have bw7 := hbw.trans (hh.1.mono hbw.size)
   clear hh HC HF HCS HREP HRB
   rcases hob : orderB b.ty b.regs b.code.length od with _ | _
   ·have hf := Lh (HN.out hob)
    clear hob
    go_wp2
    go_ret
    exact ⟨by rw [hf.out]; rfl, bw7⟩
   ·have hgg := Lh (HG.out hob)
    clear hob
    go_wp2
    go_roundw
    case rel => exact ⟨k + 1, by omega, by go_num, hgg.out, b7, bw7⟩
    case measure => simp [intOf] <;> omega
  ·have hi : ¬ (k : Int) < (b.code.length : Int) := by omega
   have he := HAL.out HHT.out HH1.out.1 (fun j h => hg j h (by omega))
   have hl1 := HH1.out.1
   have hlast : b.code.length - 1 < b.code.length := by omega
   obtain ⟨bb, oo, Ad, cd, As, c', An', cn', Ap', cp', rfl, hbl, hrep, hcs⟩ := HO.out.ten hlast
   obtain ⟨c0, -⟩ := hcs wr hbw
   have y8 := kbr.cell 8 (.slice (some ⟨bb, oo, none⟩) b.code.length c) rfl
   have hp1 : (1 : Int) ≤ (b.code.length : Int) := by omega
   have hp6 : (b.code.length : Int) ≤ 6000 := by omega
   have hnat : ((b.code.length : Int) - 1).toNat = b.code.length - 1 := by omega
   clear hrep hcs
   have HE := Lh he
   generalize b.code[b.code.length - 1] = od at *
   have HE2 := Lh he
   clear hg he HE
   rcases e9 : (od.op == 9) with _ | _
   ·go_wp2
    go_ret
    exact ⟨by rw [HE2.out, e9]; rfl, hbw⟩
   ·go_wp2
    go_ret
    exact ⟨by rw [HE2.out, e9]; rfl, hbw⟩
theorem info_str : (Tryz.prog.info? 9).map (fun i => (i.zero, i.size, i.bytes)) = some (some (.string ⟨#[]⟩), 1, 16) := by kernel_rfl
def NmRel (pre ns : List ByteArray) (B : Nat → Bool) (w w1 : World) (v i : Value) (wr : World) : Prop :=
 ∃ k : Nat, k ≤ ns.length ∧ i = .int .i64 k ∧ (∀ j, j < k → B j = true) ∧ wr.ownsRow w1.heap.size 9 1 v (pre.length + k) ((pre ++ ns.take k).map .string) ∧ Below w1.heap.size w1 wr ∧ Below w.heap.size w wr
theorem unit_bs {u : Un} {k : Nat} (hk : k < u.bs.length) (h : bodyB u.bs[k] = false) : unitB u = false := by
 unfold unitB
 have : u.bs.all bodyB = false := by rw [List.all_eq_false]; exact ⟨_, List.getElem_mem hk, by rw [h]; decide⟩
 rw [this]; rfl
theorem unit_gs {u : Un} {k : Nat} (hk : k < u.gs.length) (h : glB u.gs[k] = false) : unitB u = false := by
 unfold unitB
 have : u.gs.all glB = false := by rw [List.all_eq_false]; exact ⟨_, List.getElem_mem hk, by rw [h]; decide⟩
 rw [this, Bool.and_false]; rfl
theorem unit_os {u : Un} {k : Nat} (hk : k < u.os.length) (h : ouB u.os[k] = false) : unitB u = false := by
 unfold unitB
 have : u.os.all ouB = false := by rw [List.all_eq_false]; exact ⟨_, List.getElem_mem hk, by rw [h]; decide⟩
 rw [this, Bool.and_false]; rfl
theorem own_cap {w : World} {B : Nat} {e : TypeId} {s n : Nat} {v : Value} {xs : List Value} (h : w.ownsRow B e s v n xs) : ∃ A c, v = .slice A n c ∧ n ≤ c ∧ Row w A xs := by
 obtain ⟨A, c, rfl, hr⟩ := Row.of_own h
 refine ⟨A, c, rfl, ?_, hr⟩
 rcases h.2 with ⟨-, h1⟩ | ⟨g, cap, cur, e, hb, hg, hnc, -⟩
 ·omega
 ·injection e with _ _ e
  omega
def okN (l : List ByteArray) (k : Nat) : Prop := ∀ j (h : j < l.length), j < k → nameOf l[j] = true ∧ strIn (l.take j) l[j] = false
theorem okN_all {l : List ByteArray} (h : okN l l.length) : (l.all nameOf && decide l.Nodup) = true := by
 rw [Bool.and_eq_true, List.all_eq_true, decide_eq_true_eq]
 refine ⟨fun x hx => ?_, ?_⟩
 ·obtain ⟨j, hj, rfl⟩ := List.getElem_of_mem hx
  exact (h j hj hj).1
 ·rw [List.Nodup, List.pairwise_iff_getElem]
  intro i j hi hj hij e
  have := (h j hj hj).2
  unfold strIn at this
  rw [decide_eq_false_iff_not] at this
  exact this (by rw [← e]; exact List.mem_take_iff_getElem.2 ⟨i, by omega, rfl⟩)
theorem okN_name {l : List ByteArray} {k : Nat} (hk : k < l.length) (h : nameOf l[k] = false) : (l.all nameOf && decide l.Nodup) = false := by
 have : l.all nameOf = false := by rw [List.all_eq_false]; exact ⟨_, List.getElem_mem hk, by rw [h]; decide⟩
 rw [this]; rfl
theorem okN_dup {l : List ByteArray} {k : Nat} (hk : k < l.length) (h : strIn (l.take k) l[k] = true) : (l.all nameOf && decide l.Nodup) = false := by
 have : decide l.Nodup = false := by
  rw [decide_eq_false_iff_not]
  intro hn
  unfold strIn at h
  obtain ⟨j, hj, e⟩ := List.mem_take_iff_getElem.1 (by classical exact of_decide_eq_true h)
  rw [List.Nodup, List.pairwise_iff_getElem] at hn
  exact hn j k (by omega) hk (by omega) e
 rw [this, Bool.and_false]
def NoRel (l : List ByteArray) (w w5 : World) (i : Value) (wr : World) : Prop := ∃ k : Nat, k ≤ l.length ∧ i = .int .i64 k ∧ okN l k ∧ Below w5.heap.size w5 wr ∧ Below w.heap.size w wr
theorem unit_nm {u : Un} (h : ((unNames u).all nameOf && decide (unNames u).Nodup) = false) : unitB u = false := by
 unfold unitB
 rw [Bool.and_assoc, h, Bool.and_false]
theorem unit_yes {u : Un} (h1 : ∀ j, j < u.bs.length → bodyB (u.bs.getD j default) = true) (h2 : ∀ j, j < u.gs.length → glB (u.gs.getD j default) = true) (h3 : ∀ j, j < u.os.length → ouB (u.os.getD j default) = true) (h : ((unNames u).all nameOf && decide (unNames u).Nodup) = true) : unitB u = true := by
 unfold unitB
 rw [Bool.and_assoc, h, Bool.and_true, Bool.and_eq_true, Bool.and_eq_true, List.all_eq_true, List.all_eq_true, List.all_eq_true]
 refine ⟨⟨fun x hx => ?_, fun x hx => ?_⟩, fun x hx => ?_⟩
 ·obtain ⟨j, hj, rfl⟩ := List.getElem_of_mem hx
  simpa [List.getD_eq_getElem?_getD, hj] using h1 j hj
 ·obtain ⟨j, hj, rfl⟩ := List.getElem_of_mem hx
  simpa [List.getD_eq_getElem?_getD, hj] using h2 j hj
 ·obtain ⟨j, hj, rfl⟩ := List.getElem_of_mem hx
  simpa [List.getD_eq_getElem?_getD, hj] using h3 j hj
theorem unitR_any (u : Un) (us : List Value) (w : World) (hu : RepU w u us) (h1 : u.bs.length ≤ 40) (h2 : u.gs.length ≤ 40) (h3 : u.os.length ≤ 40) :
 Calls Tryz.prog 16 #[.agg us.toArray] w fun e w' => e = .returned (.bool (unitB u)) ∧ Below w.heap.size w w' := by
 obtain ⟨UA, ua, UB, ub, UC, uc, rfl, rA, rB, rC, -, -, -⟩ := hu
 have B0 : Below w.heap.size w (w.alloc (.cells #[.slice UA u.bs.length ua, .slice UB u.gs.length ub, .slice UC u.os.length uc] 29)) := bel
 have ku := Blk.new_ w 29 #[.slice UA u.bs.length ua, .slice UB u.gs.length ub, .slice UC u.os.length uc]
 have HA := Lh rA
 have HB := Lh rB
 have HC := Lh rC
 have HN1 := Lh (fun k (hk : k < u.bs.length) hn => unit_bs (u := u) hk hn)
 have HN2 := Lh (fun k (hk : k < u.gs.length) hn => unit_gs (u := u) hk hn)
 have HN3 := Lh (fun k (hk : k < u.os.length) hn => unit_os (u := u) hk hn)
 obtain ⟨i0, hi0, hz0, hz1, hz2⟩ := info_parts info_str
 obtain ⟨E, HE⟩ : ∃ E, Hid (unitB u = E) := ⟨_, rfl⟩
 rw [HE.out] at HN1 HN2 HN3 ⊢
 clear rA rB rC
 go_enter Tryz.func16, Tryz.ntmps16
 go_upto_region 1 with (fail)
 generalize hw1 : w.alloc (.cells #[.slice UA u.bs.length ua, .slice UB u.gs.length ub, .slice UC u.os.length uc] 29) = w1 at *
 clear hw1
 go_wp2_with fail
 go_loopw [3, 4] (fun v i wr => NmRel [] (u.bs.map (·.nm)) (fun j => bodyB (u.bs.getD j default)) w w1 v i wr) (fun _ i _ => u.bs.length - (intOf i).toNat)
 case atStart => exact ⟨0, Nat.zero_le _, rfl, fun j h => absurd h (by omega), World.ownsRow_nil _ _ _ _, Below.refl _ _, B0⟩
 case round =>
  obtain ⟨k, hk, rfl, hg, hown, hb, hbw⟩ := hrel
  rw [List.length_map] at hk
  have ku1 := ku.below hb
  have u0 := ku1.cell 0 _ rfl
  have hH := ku1.lt
  by_cases hlt : k < u.bs.length
  ·obtain ⟨bb, oo, cs3, rfl, hbl, hrep, hc⟩ := HA.out.at hlt
   have hrep0 := hrep
   obtain ⟨An, cn, Ap, cp, A, c, rfl, -, -, -, -⟩ := hrep.nine
   have c0 := hc wr hbw 0 _ rfl
   have c1 := hc wr hbw 1 _ rfl
   have c2 := hc wr hbw 2 _ rfl
   have c3 := hc wr hbw 3 _ rfl
   have c4 := hc wr hbw 4 _ rfl
   have c5 := hc wr hbw 5 _ rfl
   have c6 := hc wr hbw 6 _ rfl
   have c7 := hc wr hbw 7 _ rfl
   have c8 := hc wr hbw 8 _ rfl
   rw [Nat.add_zero] at c0
   have HM := Lh (mayR11_any u.bs[k] _ wr (hrep0.keep hbw))
   have HN := Lh (HN1.out k hlt)
   have HY : Hid (bodyB u.bs[k] = true → ∀ j, j < k + 1 → bodyB (u.bs.getD j default) = true) := fun h0 j hj => by
    rcases Nat.lt_or_ge j k with h1 | h1
    ·exact hg j h1
    ·have e : j = k := by omega
     subst e
     simpa [List.getD_eq_getElem?_getD, hlt] using h0
   obtain ⟨n, Hn⟩ : ∃ n, Hid (([] : List ByteArray).length + k = n) := ⟨_, rfl⟩
   obtain ⟨X, HX⟩ : ∃ X, Hid ((([] : List ByteArray) ++ (u.bs.map (·.nm)).take k).map Value.string = X) := ⟨_, rfl⟩
   have HTX : Hid (((([] : List ByteArray) ++ (u.bs.map (·.nm)).take (k + 1)).map Value.string) = X ++ [.string u.bs[k].nm]) := by
    show _ = _
    rw [← HX.out, List.take_succ_eq_append_getElem (by simpa using hlt)]
    simp
   have Hn1 : Hid (([] : List ByteArray).length + (k + 1) = n + 1) := by show _ = _; rw [← Hn.out]; rfl
   have hn6 : n ≤ 120 := by rw [← Hn.out]; simp; omega
   rw [Hn.out, HX.out] at hown
   have HCC := Lh hc
   have HBW := Lh hbw
   have HBR := Lh hb
   have HO := Lh hown
   have hi : (k : Int) < (u.bs.length : Int) := by omega
   have hi1 : (0 : Int) ≤ (k : Int) := by omega
   have hi6 : (k : Int) < 40 := by omega
   clear hg hown hb hbw hc hrep hrep0
   generalize u.bs[k] = bd at *
   go_wp2_with fail
   refine (HM.out).mono ?_
   rintro e w2 ⟨rfl, hb2⟩
   have HB2 := Lh (HBR.out.trans (hb2.mono HBR.out.size))
   have HBW2 := Lh (HBW.out.trans (hb2.mono HBW.out.size))
   have HO2 := Lh (own_below HO.out hb2)
   have ku2 := ku1.below hb2
   have d0 := HCC.out w2 HBW2.out 0 _ rfl
   rw [Nat.add_zero] at d0
   clear c0 c1 c2 c3 c4 c5 c6 c7 c8 u0 HM HBR HBW HO ku1 hb2
   have u0 := ku2.cell 0 _ rfl
   generalize hbe : bodyB bd = be at *
   cases be
   ·have hq := Lh (HN.out rfl)
    clear HY HN
    go_wp2_with fail
    go_ret
    exact ⟨by rw [hq.out]; rfl, HBW2.out⟩
   ·have hs2 := HB2.out.size
    have hq := Lh (HY.out rfl)
    clear HY HN
    go_wp2_with (at_builtin; refine wpList_append_own _ rfl _ _ 31 rfl w1.heap.size 9 i0 (.string ⟨#[]⟩) 1 16 Tryz.underlying31 hi0 hz0 hz1 hz2 rfl (by decide) _ _ _ rfl (HO2.out.alloc _) ⟨w2.heap.size, 0, none⟩ 1 1 [.string bd.nm] rfl rfl ?c1 ?c2 ?c3 ?c4 ?c5 ?_)
    case c1 => exact World.news_of_block (cs := #[.string bd.nm]) (t := 9) (fr := (0, 0)) (heap_new rfl)
    case c2 => simp [Value.oneCell']
    case c3 => unfold maxLen; omega
    case c4 => omega
    case c5 => simp; omega
    intro v' w3 hown3 hgrow3 _
    have hb3 : Below w1.heap.size w1 w3 := (HB2.out.alloc hs2 (.cells #[.string bd.nm] 9)).grown hgrow3 (by simp; omega) (own_ge HO2.out)
    have hbw3 : Below w.heap.size w w3 := B0.trans (hb3.mono B0.size)
    have HO3 := Lh hown3
    have HB3 := Lh hb3
    have HBW3 := Lh hbw3
    clear hown3 hb3 hbw3 hgrow3
    go_wp2
    go_roundw
    case rel => exact ⟨k + 1, by simp; omega, by go_num, hq.out, by rw [HTX.out, Hn1.out]; exact HO3.out, HB3.out, HBW3.out⟩
    case measure => simp [intOf] <;> omega
  ·have hi : ¬ (k : Int) < (u.bs.length : Int) := by omega
   obtain rfl : k = u.bs.length := by omega
   have hall1 := Lh hg
   have hown1 : Hid (wr.ownsRow w1.heap.size 9 1 u3 (u.bs.length) ((u.bs.map (·.nm)).map .string)) := by
    have h := hown
    rw [List.nil_append, List.take_of_length_le (by simp), List.length_nil, Nat.zero_add] at h
    exact h
   have hb1 := Lh hb
   have hbw1 := Lh hbw
   clear hg hown hb hbw HN1 hH
   go_wp2_with fail
   clear u0 ku1
   go_loopw [3, 5] (fun v i wr => NmRel (u.bs.map (·.nm)) (u.gs.map (·.nm)) (fun j => glB (u.gs.getD j default)) w w1 v i wr) (fun _ i _ => u.gs.length - (intOf i).toNat)
   case atStart => exact ⟨0, Nat.zero_le _, rfl, fun j h => absurd h (by omega), by simpa using hown1.out, hb1.out, hbw1.out⟩
   case round =>
    obtain ⟨k, hk, rfl, hg, hown, hb, hbw⟩ := hrel
    rw [List.length_map] at hk
    have ku1 := ku.below hb
    have u1 := ku1.cell 1 _ rfl
    have hH := ku1.lt
    by_cases hlt : k < u.gs.length
    ·obtain ⟨bb, oo, cs3, rfl, hbl, hrep, hc⟩ := HB.out.at hlt
     obtain ⟨An, cn, Ap, cp, rfl, hT, -⟩ := hrep.eight
     have c0 := hc wr hbw 0 _ rfl
     have c1 := hc wr hbw 1 _ rfl
     have c2 := hc wr hbw 2 _ rfl
     have c3 := hc wr hbw 3 _ rfl
     have c4 := hc wr hbw 4 _ rfl
     have c5 := hc wr hbw 5 _ rfl
     have c6 := hc wr hbw 6 _ rfl
     have c7 := hc wr hbw 7 _ rfl
     rw [Nat.add_zero] at c0
     have HT := Lh hT
     have HN := Lh (HN2.out k hlt)
     have HY : Hid (glB u.gs[k] = true → ∀ j, j < k + 1 → glB (u.gs.getD j default) = true) := fun h0 j hj => by
      rcases Nat.lt_or_ge j k with h1 | h1
      ·exact hg j h1
      ·have e : j = k := by omega
       subst e
       simpa [List.getD_eq_getElem?_getD, hlt] using h0
     obtain ⟨n, Hn⟩ : ∃ n, Hid ((u.bs.map (·.nm)).length + k = n) := ⟨_, rfl⟩
     obtain ⟨X, HX⟩ : ∃ X, Hid (((u.bs.map (·.nm)) ++ (u.gs.map (·.nm)).take k).map Value.string = X) := ⟨_, rfl⟩
     have HTX : Hid (((u.bs.map (·.nm)) ++ (u.gs.map (·.nm)).take (k + 1)).map Value.string = X ++ [.string u.gs[k].nm]) := by
      show _ = _
      rw [← HX.out, List.take_succ_eq_append_getElem (by simpa using hlt), ← List.append_assoc, List.map_append]
      simp
     have Hn1 : Hid ((u.bs.map (·.nm)).length + (k + 1) = n + 1) := by show _ = _; rw [← Hn.out]; rfl
     have hn6 : n ≤ 120 := by rw [← Hn.out]; simp; omega
     rw [Hn.out, HX.out] at hown
     have HBW := Lh hbw
     have HBR := Lh hb
     have HO := Lh hown
     have hi : (k : Int) < (u.gs.length : Int) := by omega
     have hi1 : (0 : Int) ≤ (k : Int) := by omega
     have hi6 : (k : Int) < 40 := by omega
     clear hg hown hb hbw hc hrep hT
     generalize u.gs[k] = g at *
     go_upto_region 12 with (fail)
     have kg := Blk.new_ wr 71 #[.string g.nm, .bool g.static, .int .i64 g.ty.k, .string g.ty.nm, .slice An g.ty.ns.length cn, .slice Ap g.ty.ps.length cp, .bool g.ty.many, .int .i64 g.v]
     have b2 : Below wr.heap.size wr (wr.alloc (.cells #[.string g.nm, .bool g.static, .int .i64 g.ty.k, .string g.ty.nm, .slice An g.ty.ns.length cn, .slice Ap g.ty.ps.length cp, .bool g.ty.many, .int .i64 g.v] 71)) := bel
     generalize hw2 : wr.alloc (.cells #[.string g.nm, .bool g.static, .int .i64 g.ty.k, .string g.ty.nm, .slice An g.ty.ns.length cn, .slice Ap g.ty.ps.length cp, .bool g.ty.many, .int .i64 g.v] 71) = w2 at *
     clear hw2
     have HB2 := Lh (HBR.out.trans (b2.mono HBR.out.size))
     have HBW2 := Lh (HBW.out.trans (b2.mono HBW.out.size))
     have HO2 := Lh (own_below HO.out b2)
     clear c0 c1 c2 c3 c4 c5 c6 c7 u1 HBR HBW HO b2 ku1
     have hgl := kg.lt
     generalize wr.heap.size = gb at *
     have p0 := kg.cell 0 _ rfl
     have p1 := kg.cell 1 _ rfl
     have p2 := kg.cell 2 _ rfl
     have p3 := kg.cell 3 _ rfl
     have p4 := kg.cell 4 _ rfl
     have p5 := kg.cell 5 _ rfl
     have p6 := kg.cell 6 _ rfl
     have p7 := kg.cell 7 _ rfl
     unfold glB at HN HY
     have HM := Lh (counts_any g.ty _ w2 (Rep.keep HBW2.out _ _ HT.out))
     go_wp2_with fail
     refine (HM.out).mono ?_
     rintro e w3 ⟨rfl, hb3⟩
     have HB3 := Lh (HB2.out.trans (hb3.mono HB2.out.size))
     have HBW3 := Lh (HBW2.out.trans (hb3.mono HBW2.out.size))
     have HO3 := Lh (own_below HO2.out hb3)
     replace kg := kg.below hb3
     clear HM hb3 HB2 HBW2 HO2 p0 p1 p2 p3 p4 p5 p6 p7
     have p0 := kg.cell 0 _ rfl
     have p1 := kg.cell 1 _ rfl
     have p2 := kg.cell 2 _ rfl
     have p3 := kg.cell 3 _ rfl
     have p4 := kg.cell 4 _ rfl
     have p5 := kg.cell 5 _ rfl
     have p6 := kg.cell 6 _ rfl
     have p7 := kg.cell 7 _ rfl
     generalize hce : cntB g.ty = ce at *
     cases ce
     ·have hq := Lh (HN.out rfl)
      clear HY HN
      go_wp2_with fail
      go_ret
      exact ⟨by rw [hq.out]; rfl, HBW3.out⟩
     ·rcases e1 : (g.ty.k == 1) with _ | _
      ·have e1' : (g.ty.k != 1) = true := by simp [bne, e1]
       rw [e1'] at HN HY
       have hs2 := HB3.out.size
       have hq := Lh (HY.out rfl)
       clear HY HN
       go_wp2_with (at_builtin; refine wpList_append_own _ rfl _ _ 31 rfl w1.heap.size 9 i0 (.string ⟨#[]⟩) 1 16 Tryz.underlying31 hi0 hz0 hz1 hz2 rfl (by decide) _ _ _ rfl (HO3.out.alloc _) ⟨w3.heap.size, 0, none⟩ 1 1 [.string g.nm] rfl rfl ?c1 ?c2 ?c3 ?c4 ?c5 ?_)
       case c1 => exact World.news_of_block (cs := #[.string g.nm]) (t := 9) (fr := (0, 0)) (heap_new rfl)
       case c2 => simp [Value.oneCell']
       case c3 => unfold maxLen; omega
       case c4 => omega
       case c5 => simp; omega
       intro v' w9 hown9 hgrow9 _
       have hb9 : Below w1.heap.size w1 w9 := (HB3.out.alloc hs2 (.cells #[.string g.nm] 9)).grown hgrow9 (by simp; omega) (own_ge HO3.out)
       have hbw9 : Below w.heap.size w w9 := B0.trans (hb9.mono B0.size)
       have HO9 := Lh hown9
       have HB9 := Lh hb9
       have HBW9 := Lh hbw9
       clear hown9 hb9 hbw9 hgrow9
       go_wp2
       go_roundw
       case rel => exact ⟨k + 1, by simp; omega, by go_num, hq.out, by rw [HTX.out, Hn1.out]; exact HO9.out, HB9.out, HBW9.out⟩
       case measure => simp [intOf] <;> omega
      ·have e1' : (g.ty.k != 1) = false := by simp [bne, e1]
       rw [e1'] at HN HY
       by_cases d1 : g.v < -2147483648
       ·have d1' : decide (-2147483648 ≤ g.v) = false := by simp; omega
        rw [d1'] at HN HY
        have d1 : decide (g.v < -2147483648) = true := by simpa using d1
        have hq := Lh (HN.out rfl)
        clear HY HN
        go_wp2_with fail
        go_ret
        exact ⟨by rw [hq.out]; rfl, HBW3.out⟩
       ·have d1' : decide (-2147483648 ≤ g.v) = true := by simp; omega
        rw [d1'] at HN HY
        have d1 : decide (g.v < -2147483648) = false := by simpa using d1
        by_cases d2 : 2147483647 < g.v
        ·have d2' : decide (g.v ≤ 2147483647) = false := by simp; omega
         rw [d2'] at HN HY
         have d2 : decide (2147483647 < g.v) = true := by simpa using d2
         have hq := Lh (HN.out rfl)
         clear HY HN
         go_wp2_with fail
         go_ret
         exact ⟨by rw [hq.out]; rfl, HBW3.out⟩
        ·have d2' : decide (g.v ≤ 2147483647) = true := by simp; omega
         rw [d2'] at HN HY
         have d2 : decide (2147483647 < g.v) = false := by simpa using d2
         have hs2 := HB3.out.size
         have hq := Lh (HY.out rfl)
         clear HY HN
         go_wp2_with (at_builtin; refine wpList_append_own _ rfl _ _ 31 rfl w1.heap.size 9 i0 (.string ⟨#[]⟩) 1 16 Tryz.underlying31 hi0 hz0 hz1 hz2 rfl (by decide) _ _ _ rfl (HO3.out.alloc _) ⟨w3.heap.size, 0, none⟩ 1 1 [.string g.nm] rfl rfl ?c1 ?c2 ?c3 ?c4 ?c5 ?_)
         case c1 => exact World.news_of_block (cs := #[.string g.nm]) (t := 9) (fr := (0, 0)) (heap_new rfl)
         case c2 => simp [Value.oneCell']
         case c3 => unfold maxLen; omega
         case c4 => omega
         case c5 => simp; omega
         intro v' w9 hown9 hgrow9 _
         have hb9 : Below w1.heap.size w1 w9 := (HB3.out.alloc hs2 (.cells #[.string g.nm] 9)).grown hgrow9 (by simp; omega) (own_ge HO3.out)
         have hbw9 : Below w.heap.size w w9 := B0.trans (hb9.mono B0.size)
         have HO9 := Lh hown9
         have HB9 := Lh hb9
         have HBW9 := Lh hbw9
         clear hown9 hb9 hbw9 hgrow9
         go_wp2
         go_roundw
         case rel => exact ⟨k + 1, by simp; omega, by go_num, hq.out, by rw [HTX.out, Hn1.out]; exact HO9.out, HB9.out, HBW9.out⟩
         case measure => simp [intOf] <;> omega
    ·have hi : ¬ (k : Int) < (u.gs.length : Int) := by omega
     obtain rfl : k = u.gs.length := by omega
     have hall2 := Lh hg
     have hown2 : Hid (wr.ownsRow w1.heap.size 9 1 u3 ((u.bs.map (·.nm)).length + u.gs.length) (((u.bs.map (·.nm)) ++ u.gs.map (·.nm)).map .string)) := by
      have h := hown
      rw [List.take_of_length_le (by simp)] at h
      exact h
     have hb2 := Lh hb
     have hbw2 := Lh hbw
     clear hg hown hb hbw HN2 hH
     go_wp2_with fail
     clear u1 ku1
     go_loopw [3, 7] (fun v i wr => NmRel (u.bs.map (·.nm) ++ u.gs.map (·.nm)) (u.os.map (·.nm)) (fun j => ouB (u.os.getD j default)) w w1 v i wr) (fun _ i _ => u.os.length - (intOf i).toNat)
     case atStart => exact ⟨0, Nat.zero_le _, rfl, fun j h => absurd h (by omega), by simpa using hown2.out, hb2.out, hbw2.out⟩
     case round =>
      obtain ⟨k, hk, rfl, hg, hown, hb, hbw⟩ := hrel
      rw [List.length_map] at hk
      have ku1 := ku.below hb
      have u2 := ku1.cell 2 _ rfl
      have hH := ku1.lt
      by_cases hlt : k < u.os.length
      ·obtain ⟨bb, oo, cs3, rfl, hbl, hrep, hc⟩ := HC.out.at hlt
       obtain ⟨An, cn, Ap, cp, rfl, hT⟩ := hrep.seven
       have c0 := hc wr hbw 0 _ rfl
       have c1 := hc wr hbw 1 _ rfl
       have c2 := hc wr hbw 2 _ rfl
       have c3 := hc wr hbw 3 _ rfl
       have c4 := hc wr hbw 4 _ rfl
       have c5 := hc wr hbw 5 _ rfl
       have c6 := hc wr hbw 6 _ rfl
       rw [Nat.add_zero] at c0
       have HT := Lh hT
       have HN := Lh (HN3.out k hlt)
       have HY : Hid (ouB u.os[k] = true → ∀ j, j < k + 1 → ouB (u.os.getD j default) = true) := fun h0 j hj => by
        rcases Nat.lt_or_ge j k with h1 | h1
        ·exact hg j h1
        ·have e : j = k := by omega
         subst e
         simpa [List.getD_eq_getElem?_getD, hlt] using h0
       obtain ⟨n, Hn⟩ : ∃ n, Hid ((u.bs.map (·.nm) ++ u.gs.map (·.nm)).length + k = n) := ⟨_, rfl⟩
       obtain ⟨X, HX⟩ : ∃ X, Hid (((u.bs.map (·.nm) ++ u.gs.map (·.nm)) ++ (u.os.map (·.nm)).take k).map Value.string = X) := ⟨_, rfl⟩
       have HTX : Hid (((u.bs.map (·.nm) ++ u.gs.map (·.nm)) ++ (u.os.map (·.nm)).take (k + 1)).map Value.string = X ++ [.string u.os[k].nm]) := by
        show _ = _
        rw [← HX.out, List.take_succ_eq_append_getElem (by simpa using hlt), ← List.append_assoc, List.map_append]
        simp
       have Hn1 : Hid ((u.bs.map (·.nm) ++ u.gs.map (·.nm)).length + (k + 1) = n + 1) := by show _ = _; rw [← Hn.out]; rfl
       have hn6 : n ≤ 120 := by rw [← Hn.out]; simp; omega
       rw [Hn.out, HX.out] at hown
       have HBW := Lh hbw
       have HBR := Lh hb
       have HO := Lh hown
       have hi : (k : Int) < (u.os.length : Int) := by omega
       have hi1 : (0 : Int) ≤ (k : Int) := by omega
       have hi6 : (k : Int) < 40 := by omega
       clear hg hown hb hbw hc hrep hT
       generalize u.os[k] = g at *
       go_upto_region 19 with (fail)
       have kg := Blk.new_ wr 75 #[.string g.nm, .int .i64 g.ty.k, .string g.ty.nm, .slice An g.ty.ns.length cn, .slice Ap g.ty.ps.length cp, .bool g.ty.many, .bool g.fn]
       have b2 : Below wr.heap.size wr (wr.alloc (.cells #[.string g.nm, .int .i64 g.ty.k, .string g.ty.nm, .slice An g.ty.ns.length cn, .slice Ap g.ty.ps.length cp, .bool g.ty.many, .bool g.fn] 75)) := bel
       generalize hw2 : wr.alloc (.cells #[.string g.nm, .int .i64 g.ty.k, .string g.ty.nm, .slice An g.ty.ns.length cn, .slice Ap g.ty.ps.length cp, .bool g.ty.many, .bool g.fn] 75) = w2 at *
       clear hw2
       have HB2 := Lh (HBR.out.trans (b2.mono HBR.out.size))
       have HBW2 := Lh (HBW.out.trans (b2.mono HBW.out.size))
       have HO2 := Lh (own_below HO.out b2)
       clear c0 c1 c2 c3 c4 c5 c6 u2 HBR HBW HO b2 ku1
       have hgl := kg.lt
       generalize wr.heap.size = gb at *
       have p0 := kg.cell 0 _ rfl
       have p1 := kg.cell 1 _ rfl
       have p2 := kg.cell 2 _ rfl
       have p3 := kg.cell 3 _ rfl
       have p4 := kg.cell 4 _ rfl
       have p5 := kg.cell 5 _ rfl
       have p6 := kg.cell 6 _ rfl
       unfold ouB at HN HY
       generalize hfn : g.fn = fn at *
       cases fn
       ·have HM := Lh (counts_any g.ty _ w2 (Rep.keep HBW2.out _ _ HT.out))
        go_wp2_with fail
        refine (HM.out).mono ?_
        rintro e w3 ⟨rfl, hb3⟩
        have HB3 := Lh (HB2.out.trans (hb3.mono HB2.out.size))
        have HBW3 := Lh (HBW2.out.trans (hb3.mono HBW2.out.size))
        have HO3 := Lh (own_below HO2.out hb3)
        replace kg := kg.below hb3
        clear HM hb3 HB2 HBW2 HO2 p0 p1 p2 p3 p4 p5 p6
        have p0 := kg.cell 0 _ rfl
        have p1 := kg.cell 1 _ rfl
        have p2 := kg.cell 2 _ rfl
        have p3 := kg.cell 3 _ rfl
        have p4 := kg.cell 4 _ rfl
        have p5 := kg.cell 5 _ rfl
        have p6 := kg.cell 6 _ rfl
        generalize hce : cntB g.ty = ce at *
        cases ce
        ·have hq := Lh (HN.out rfl)
         clear HY HN
         go_wp2_with fail
         go_ret
         exact ⟨by rw [hq.out]; rfl, HBW3.out⟩
        ·have hs2 := HB3.out.size
         have hq := Lh (HY.out rfl)
         clear HY HN
         go_wp2_with (at_builtin; refine wpList_append_own _ rfl _ _ 31 rfl w1.heap.size 9 i0 (.string ⟨#[]⟩) 1 16 Tryz.underlying31 hi0 hz0 hz1 hz2 rfl (by decide) _ _ _ rfl (HO3.out.alloc _) ⟨w3.heap.size, 0, none⟩ 1 1 [.string g.nm] rfl rfl ?c1 ?c2 ?c3 ?c4 ?c5 ?_)
         case c1 => exact World.news_of_block (cs := #[.string g.nm]) (t := 9) (fr := (0, 0)) (heap_new rfl)
         case c2 => simp [Value.oneCell']
         case c3 => unfold maxLen; omega
         case c4 => omega
         case c5 => simp; omega
         intro v' w9 hown9 hgrow9 _
         have hb9 : Below w1.heap.size w1 w9 := (HB3.out.alloc hs2 (.cells #[.string g.nm] 9)).grown hgrow9 (by simp; omega) (own_ge HO3.out)
         have hbw9 : Below w.heap.size w w9 := B0.trans (hb9.mono B0.size)
         have HO9 := Lh hown9
         have HB9 := Lh hb9
         have HBW9 := Lh hbw9
         clear hown9 hb9 hbw9 hgrow9
         go_wp2
         go_roundw
         case rel => exact ⟨k + 1, by simp; omega, by go_num, hq.out, by rw [HTX.out, Hn1.out]; exact HO9.out, HB9.out, HBW9.out⟩
         case measure => simp [intOf] <;> omega
       ·have HM := Lh (isFn_any g.ty _ w2 (Rep.keep HBW2.out _ _ HT.out))
        go_wp2_with fail
        refine (HM.out).mono ?_
        rintro e w3 ⟨rfl, hb3⟩
        have HB3 := Lh (HB2.out.trans (hb3.mono HB2.out.size))
        have HBW3 := Lh (HBW2.out.trans (hb3.mono HBW2.out.size))
        have HO3 := Lh (own_below HO2.out hb3)
        replace kg := kg.below hb3
        clear HM hb3 HB2 HBW2 HO2 p0 p1 p2 p3 p4 p5 p6
        have p0 := kg.cell 0 _ rfl
        have p1 := kg.cell 1 _ rfl
        have p2 := kg.cell 2 _ rfl
        have p3 := kg.cell 3 _ rfl
        have p4 := kg.cell 4 _ rfl
        have p5 := kg.cell 5 _ rfl
        have p6 := kg.cell 6 _ rfl
        generalize hce : ((g.ty.k == 4) && may g.ty) = ce at *
        cases ce
        ·have hq := Lh (HN.out rfl)
         clear HY HN
         go_wp2_with fail
         go_ret
         exact ⟨by rw [hq.out]; rfl, HBW3.out⟩
        ·have hs2 := HB3.out.size
         have hq := Lh (HY.out rfl)
         clear HY HN
         go_wp2_with (at_builtin; refine wpList_append_own _ rfl _ _ 31 rfl w1.heap.size 9 i0 (.string ⟨#[]⟩) 1 16 Tryz.underlying31 hi0 hz0 hz1 hz2 rfl (by decide) _ _ _ rfl (HO3.out.alloc _) ⟨w3.heap.size, 0, none⟩ 1 1 [.string g.nm] rfl rfl ?c1 ?c2 ?c3 ?c4 ?c5 ?_)
         case c1 => exact World.news_of_block (cs := #[.string g.nm]) (t := 9) (fr := (0, 0)) (heap_new rfl)
         case c2 => simp [Value.oneCell']
         case c3 => unfold maxLen; omega
         case c4 => omega
         case c5 => simp; omega
         intro v' w9 hown9 hgrow9 _
         have hb9 : Below w1.heap.size w1 w9 := (HB3.out.alloc hs2 (.cells #[.string g.nm] 9)).grown hgrow9 (by simp; omega) (own_ge HO3.out)
         have hbw9 : Below w.heap.size w w9 := B0.trans (hb9.mono B0.size)
         have HO9 := Lh hown9
         have HB9 := Lh hb9
         have HBW9 := Lh hbw9
         clear hown9 hb9 hbw9 hgrow9
         go_wp2
         go_roundw
         case rel => exact ⟨k + 1, by simp; omega, by go_num, hq.out, by rw [HTX.out, Hn1.out]; exact HO9.out, HB9.out, HBW9.out⟩
         case measure => simp [intOf] <;> omega
      ·have hi : ¬ (k : Int) < (u.os.length : Int) := by omega
       obtain rfl : k = u.os.length := by omega
       have hall3 := Lh hg
       have hown3 : Hid (wr.ownsRow w1.heap.size 9 1 u3 ((u.bs.map (·.nm) ++ u.gs.map (·.nm)).length + u.os.length) (((u.bs.map (·.nm) ++ u.gs.map (·.nm)) ++ u.os.map (·.nm)).map .string)) := by
        have h := hown
        rw [List.take_of_length_le (by simp)] at h
        exact h
       have hb3 := Lh hb
       have hbw3 := Lh hbw
       clear hg hown hb hbw HN3 hH
       go_wp2_with fail
       clear u2 ku1
       obtain ⟨NA, nc, rfl, hcap, hrow⟩ := own_cap hown3.out
       have hLn : (unNames u).length = u.bs.length + u.gs.length + u.os.length := by unfold unNames; simp; omega
       have HNN : Hid (((unNames u).all nameOf && decide (unNames u).Nodup) = false → E = false) := fun h => by rw [← HE.out]; exact unit_nm h
       have HYY : Hid (((unNames u).all nameOf && decide (unNames u).Nodup) = true → E = true) := fun h => by rw [← HE.out]; exact unit_yes hall1.out hall2.out hall3.out h
       have hlen4 : (u.bs.map (·.nm) ++ u.gs.map (·.nm)).length + u.os.length = (unNames u).length := by rw [hLn]; simp
       rw [hlen4] at hcap ⊢
       have HRW : Hid (Row wr NA ((unNames u).map .string)) := hrow
       have HBW3 := Lh hbw3.out
       have hL120 : (unNames u).length ≤ 120 := by omega
       clear hrow hown3 hown2 hown1 hall1 hall2 hall3 hb3 hb2 hb1 hbw3 hbw2 hbw1 HE hlen4 hLn HA HB HC
       generalize unNames u = L at *
       generalize wr = w5 at *
       go_loopw [9] (fun i wr => NoRel L w w5 i wr) (fun i _ => L.length - (intOf i).toNat)
       case atStart => exact ⟨0, Nat.zero_le _, rfl, fun j _ h => absurd h (by omega), Below.refl _ _, HBW3.out⟩
       case round =>
        obtain ⟨k, hk, rfl, hg, hb, hbw⟩ := hrel
        by_cases hlt : k < L.length
        ·obtain ⟨bb, oo, rfl, hbl, hc⟩ := HRW.out.at_ (by intro e; have := congrArg List.length e; simp at this; subst this; simp at hlt)
         have c0 := (hb.cell (p := ⟨bb, oo + k, none⟩) hbl).trans (hc k (.string L[k]) (by rw [List.getElem?_map, List.getElem?_eq_getElem hlt]; rfl))
         have HNO1 : Hid (nameOf L[k] = false → E = false) := fun h => HNN.out (okN_name hlt h)
         have HNO2 : Hid (strIn (L.take k) L[k] = true → E = false) := fun h => HNN.out (okN_dup hlt h)
         have HY : Hid (nameOf L[k] = true → strIn (L.take k) L[k] = false → okN L (k + 1)) := fun ha hd j h hj => by
          rcases Nat.lt_or_ge j k with h1 | h1
          ·exact hg j h h1
          ·have e : j = k := by omega
           subst e
           exact ⟨ha, hd⟩
         have hRT : Row wr (some ⟨bb, oo, none⟩) ((L.take k).map .string) := by rw [List.map_take]; exact (HRW.out.keep hb).take_ k
         have HF : Hid (∀ W, Below wr.heap.size wr W → W.cell? ⟨bb, oo + k, none⟩ = some (.string L[k])) := fun W h => (h.cell (Nat.lt_of_lt_of_le hbl hb.size)).trans c0
         have HNM : Hid (∀ W, (Below wr.heap.size wr W ∧ W.cell? ⟨bb, oo + k, none⟩ = some (.string L[k])) → Calls Tryz.prog 22 #[.string L[k]] W fun e w' => e = .returned (.bool (nameOf L[k])) ∧ Below W.heap.size W w') := fun W h => nameR_any _ W
         have HAM : Hid (∀ W, (Below wr.heap.size wr W ∧ W.cell? ⟨bb, oo + k, none⟩ = some (.string L[k])) → Calls Tryz.prog 43 #[.slice (some ⟨bb, oo, none⟩) k nc, .string L[k]] W fun e w' => e = .returned (.bool (strIn (L.take k) L[k])) ∧ Below W.heap.size W w') := fun W h => by
          have := among_any (some ⟨bb, oo, none⟩) nc (L.take k) L[k] W (hRT.keep h.1) (by unfold maxLen; simp; omega)
          rw [List.length_take, Nat.min_eq_left hk] at this
          exact this.mono fun _ _ ⟨h1, h2⟩ => ⟨h1, by rw [h2]; exact Below.refl _ _⟩
         have hi : (k : Int) < (L.length : Int) := by omega
         have hi1 : (0 : Int) ≤ (k : Int) := by omega
         have hi6 : (k : Int) < 120 := by omega
         have hi7 : (k : Int) ≤ (nc : Int) := by omega
         have hi8 : k ≤ nc := by omega
         clear hg hc hRT HRW HNN HYY
         generalize hna : nameOf L[k] = na at *
         generalize hdu : strIn (L.take k) L[k] = du at *
         clear hna hdu
         generalize L[k] = x at *
         cases na
         ·have hq := Lh (HNO1.out rfl)
          clear HNO1 HNO2 HY
          go_upto_region 25 with (fail)
          refine dQ (fun W => Below wr.heap.size wr W ∧ (At W bb (oo + k) (.string x))) (held0 HF) (fun hHeld => ?_)
          clear c0
          refine tQ4 0 1 2 3 ?_; try simp only [sq]
          refine wpAnyH_ready (rs := [4]) (by kernel_rfl) (by simp) ?_
          refine AllReadyH.cons rfl (fun K hK => ?_) AllReadyH.nil
          go_simp
          with_reducible refine (HNM.out _ (by assumption)).mono ?_
          rintro e w' ⟨rfl, hbq⟩
          refine hK.out _ _ (heldS HF (by assumption) hbq) (fun hHeld => ?_)
          clear hK K hbq
          (try simp only [Act.put, List.setIfInBounds_toArray, List.set_cons_zero, List.set_cons_succ])
          refine tQ2 5 6 ?_; try simp only [sq]
          refine pQ4 7 8 9 10 ?_; try simp only [sq]
          refine pQ4 11 12 13 14 ?_; try simp only [sq]
          refine tQ 15 ?_; try simp only [sq]
          refine fQ ?_ _
          have b5 := hb.trans (hHeld.1.mono hb.size)
          have b6 := hbw.trans (hHeld.1.mono hbw.size)
          go_wp2_with fail
          go_ret
          exact ⟨by rw [hq.out]; rfl, b6⟩
         ·cases du
          ·have hq := Lh (HY.out rfl rfl)
           clear HNO1 HNO2 HY
           go_upto_region 25 with (fail)
           refine dQ (fun W => Below wr.heap.size wr W ∧ (At W bb (oo + k) (.string x))) (held0 HF) (fun hHeld => ?_)
           clear c0
           refine tQ4 0 1 2 3 ?_; try simp only [sq]
           refine wpAnyH_ready (rs := [4]) (by kernel_rfl) (by simp) ?_
           refine AllReadyH.cons rfl (fun K hK => ?_) AllReadyH.nil
           go_simp
           with_reducible refine (HNM.out _ (by assumption)).mono ?_
           rintro e w' ⟨rfl, hbq⟩
           refine hK.out _ _ (heldS HF (by assumption) hbq) (fun hHeld => ?_)
           clear hK K hbq
           (try simp only [Act.put, List.setIfInBounds_toArray, List.set_cons_zero, List.set_cons_succ])
           refine tQ4 5 6 7 8 ?_; try simp only [sq]
           refine tQ4 9 10 11 12 ?_; try simp only [sq]
           refine tQ 13 ?_; try simp only [sq]
           refine wpAnyH_ready (rs := [14]) (by kernel_rfl) (by simp) ?_
           refine AllReadyH.cons rfl (fun K hK => ?_) AllReadyH.nil
           go_simp
           with_reducible refine (HAM.out _ (by assumption)).mono ?_
           rintro e w' ⟨rfl, hbq⟩
           refine hK.out _ _ (heldS HF (by assumption) hbq) (fun hHeld => ?_)
           clear hK K hbq
           (try simp only [Act.put, List.setIfInBounds_toArray, List.set_cons_zero, List.set_cons_succ])
           refine tQ 15 ?_; try simp only [sq]
           refine fQ ?_ _
           have b5 := hb.trans (hHeld.1.mono hb.size)
           have b6 := hbw.trans (hHeld.1.mono hbw.size)
           go_wp2_with fail
           go_roundw
           case rel => exact ⟨k + 1, by omega, by go_num, hq.out, b5, b6⟩
           case measure => simp [intOf] <;> omega
          ·have hq := Lh (HNO2.out rfl)
           clear HNO1 HNO2 HY
           go_upto_region 25 with (fail)
           refine dQ (fun W => Below wr.heap.size wr W ∧ (At W bb (oo + k) (.string x))) (held0 HF) (fun hHeld => ?_)
           clear c0
           refine tQ4 0 1 2 3 ?_; try simp only [sq]
           refine wpAnyH_ready (rs := [4]) (by kernel_rfl) (by simp) ?_
           refine AllReadyH.cons rfl (fun K hK => ?_) AllReadyH.nil
           go_simp
           with_reducible refine (HNM.out _ (by assumption)).mono ?_
           rintro e w' ⟨rfl, hbq⟩
           refine hK.out _ _ (heldS HF (by assumption) hbq) (fun hHeld => ?_)
           clear hK K hbq
           (try simp only [Act.put, List.setIfInBounds_toArray, List.set_cons_zero, List.set_cons_succ])
           refine tQ4 5 6 7 8 ?_; try simp only [sq]
           refine tQ4 9 10 11 12 ?_; try simp only [sq]
           refine tQ 13 ?_; try simp only [sq]
           refine wpAnyH_ready (rs := [14]) (by kernel_rfl) (by simp) ?_
           refine AllReadyH.cons rfl (fun K hK => ?_) AllReadyH.nil
           go_simp
           with_reducible refine (HAM.out _ (by assumption)).mono ?_
           rintro e w' ⟨rfl, hbq⟩
           refine hK.out _ _ (heldS HF (by assumption) hbq) (fun hHeld => ?_)
           clear hK K hbq
           (try simp only [Act.put, List.setIfInBounds_toArray, List.set_cons_zero, List.set_cons_succ])
           refine tQ 15 ?_; try simp only [sq]
           refine fQ ?_ _
           have b5 := hb.trans (hHeld.1.mono hb.size)
           have b6 := hbw.trans (hHeld.1.mono hbw.size)
           go_wp2_with fail
           go_ret
           exact ⟨by rw [hq.out]; rfl, b6⟩
        ·have hi : ¬ (k : Int) < (L.length : Int) := by omega
         obtain rfl : k = L.length := by omega
         have hq := Lh (HYY.out (okN_all hg))
         clear hg HYY HNN
         go_wp2_with fail
         go_ret
         exact ⟨by rw [hq.out]; rfl, hbw⟩
end Go.Proofs.YthihaeobkoiljaaGreat
