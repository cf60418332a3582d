/- The walk of ref11.May. -/
import Derived.Test.YtkkjkbljgaipcaaOrdH
import Derived.Test.YtkkjkbljgaipcaaOrdG
namespace Go.Proofs.Ytkkjkbljgaipcaa
open Go.RowKit
set_option linter.unusedVariables false
set_option linter.unusedSimpArgs false
set_option maxRecDepth 100000
set_option maxHeartbeats 8000000
theorem mayR11_any (b : Bo) (cs : List Value) (w : World) (hr : RepB w b cs) :
    Calls Try.prog 7 #[.agg cs.toArray] w fun e w' => e = .returned (.bool (bodyB b)) ∧ Below w.heap.size w w' := by
  have hr0 := hr
  obtain ⟨An, cn, Ap, cp, A, c, rfl, hT, hP, hO, hl⟩ := hr.nine
  have B0 : Below w.heap.size w (w.alloc (.cells #[.string b.nm, .bool b.static, .int .i64 b.ty.k, .string b.ty.nm, .slice An b.ty.ns.length cn, .slice Ap b.ty.ps.length cp, .bool b.ty.many, .int .i64 b.regs, .slice A b.code.length c] 28)) := by (repeat (first | with_reducible assumption | with_reducible exact Below.refl _ _ | (refine Below.setCell ?_ (by first | omega | (simp; done) | (simp; omega)) _) | (refine Below.drewN_ ?_ _) | (refine Below.drew ?_) | (refine Below.alloc ?_ (by first | omega | (simp; done) | (simp; omega)) _)))
  have kb := Blk.new_ w 28 #[.string b.nm, .bool b.static, .int .i64 b.ty.k, .string b.ty.nm, .slice An b.ty.ns.length cn, .slice Ap b.ty.ps.length cp, .bool b.ty.many, .int .i64 b.regs, .slice A b.code.length c]
  have HR := Lib.hid (fun (W : World) (h : Below w.heap.size w W) => RepB.keep hr0 h)
  have HT := Lib.hid hT
  have HO := Lib.hid hO
  have HHB : Hid (headB b = (nameOf b.nm && (b.ty.k == 4) && may b.ty && decide ((parW b.ty : Int) ≤ b.regs) && decide (b.regs ≤ 8000) && decide (1 ≤ b.code.length) && decide (b.code.length ≤ 6000))) := rfl
  have HNOH := Lib.hid (@body_no b)
  have HNO := Lib.hid (fun (hh : headB b = true) k (hk : k < b.code.length) hn => body_some hh hk hn)
  have HAL := Lib.hid (@body_all b)
  generalize bodyB b = E at *
  generalize headB b = HB at *
  have hl' := hl
  unfold maxLen at hl'
  clear hr hr0 hP hO hl hT
  go_enter Try.func7, Try.ntmps7
  go_upto_region 1 with (fail)
  generalize hw1 : w.alloc (.cells #[.string b.nm, .bool b.static, .int .i64 b.ty.k, .string b.ty.nm, .slice An b.ty.ns.length cn, .slice Ap b.ty.ps.length cp, .bool b.ty.many, .int .i64 b.regs, .slice A b.code.length c] 28) = w1 at *
  clear hw1
  have y0 := kb.cell 0 (.string b.nm) rfl
  have y2 := kb.cell 2 (.int .i64 b.ty.k) rfl
  have y3 := kb.cell 3 (.string b.ty.nm) rfl
  have y4 := kb.cell 4 (.slice An b.ty.ns.length cn) rfl
  have y5 := kb.cell 5 (.slice Ap b.ty.ps.length cp) rfl
  have y6 := kb.cell 6 (.bool b.ty.many) rfl
  have y7 := kb.cell 7 (.int .i64 b.regs) rfl
  have y8 := kb.cell 8 (.slice A b.code.length c) rfl
  have HNM := Lib.hid (nameR_any b.nm w1)
  go_wp2_with fail
  ((with_reducible refine (HNM.out).mono ?_); rintro e w2 ⟨rfl, hb2⟩)
  clear HNM
  have b2 := B0.trans (hb2.mono B0.size)
  have kb2 := kb.below hb2
  rcases hnm : nameOf b.nm with _ | _
  · have hf : Hid (E = false) := HNOH.out (by rw [HHB.out, hnm]; rfl)
    clear hnm
    go_wp2
    go_ret
    exact ⟨by rw [hf.out]; rfl, b2⟩
  have HN0 := Lib.hid hnm
  clear hnm y0 y2 y3 y4 y5 y6 y7 y8 hb2
  have y0 := kb2.cell 0 (.string b.nm) rfl
  have y2 := kb2.cell 2 (.int .i64 b.ty.k) rfl
  have y3 := kb2.cell 3 (.string b.ty.nm) rfl
  have y4 := kb2.cell 4 (.slice An b.ty.ns.length cn) rfl
  have y5 := kb2.cell 5 (.slice Ap b.ty.ps.length cp) rfl
  have y6 := kb2.cell 6 (.bool b.ty.many) rfl
  have y7 := kb2.cell 7 (.int .i64 b.regs) rfl
  have y8 := kb2.cell 8 (.slice A b.code.length c) rfl
  have HFN := Lib.hid (isFn_any b.ty _ w2 (Rep.keep b2 _ _ HT.out))
  go_wp2_with fail
  ((with_reducible refine (HFN.out).mono ?_); rintro e w3 ⟨rfl, hb3⟩)
  clear HFN
  have b3 := b2.trans (hb3.mono b2.size)
  have kb3 := kb2.below hb3
  rcases hkm : ((b.ty.k == 4) && may b.ty) with _ | _
  · have hf : Hid (E = false) := HNOH.out (by rw [HHB.out, HN0.out, Bool.true_and, hkm]; rfl)
    clear hkm
    go_wp2
    go_ret
    exact ⟨by rw [hf.out]; rfl, b3⟩
  have HKM := Lib.hid hkm
  clear hkm y0 y2 y3 y4 y5 y6 y7 y8 hb3
  by_cases h1 : b.code.length < 1
  · have hf : Hid (E = false) := HNOH.out (by
      have : decide (1 ≤ b.code.length) = false := by rw [decide_eq_false_iff_not]; omega
      rw [HHB.out, this]; simp)
    have g1 : (b.code.length : Int) < 1 := by omega
    have g2 : decide ((b.code.length : Int) < 1) = true := by simpa using g1
    have g3 : decide (b.code.length < 1) = true := by simpa using h1
    clear h1
    go_wp2
    go_ret
    exact ⟨by rw [hf.out]; rfl, b3⟩
  have g1 : decide ((b.code.length : Int) < 1) = false := by rw [decide_eq_false_iff_not]; omega
  have g1' : decide (b.code.length < 1) = false := by rw [decide_eq_false_iff_not]; omega
  have g1'' : ¬ (b.code.length : Int) < 1 := by omega
  by_cases h2 : 6000 < b.code.length
  · have hf : Hid (E = false) := HNOH.out (by
      have : decide (b.code.length ≤ 6000) = false := by simp; omega
      rw [HHB.out, this]; simp)
    have g2 : decide ((6000 : Int) < (b.code.length : Int)) = true := by simp; omega
    have g3 : decide (6000 < b.code.length) = true := by simpa using h2
    go_wp2
    go_ret
    exact ⟨by rw [hf.out]; rfl, b3⟩
  have g2 : decide ((6000 : Int) < (b.code.length : Int)) = false := by simp; omega
  have g2' : decide (6000 < b.code.length) = false := by simp; omega
  have y7 := kb3.cell 7 (.int .i64 b.regs) rfl
  by_cases h3 : 8000 < b.regs
  · have hf : Hid (E = false) := HNOH.out (by
      have : decide (b.regs ≤ 8000) = false := by simp; omega
      rw [HHB.out, this]; simp)
    have g3 : decide (8000 < b.regs) = true := by simpa using h3
    go_wp2
    go_ret
    exact ⟨by rw [hf.out]; rfl, b3⟩
  have g3 : decide (8000 < b.regs) = false := by simp; omega
  have H1 : 1 ≤ b.code.length ∧ b.code.length ≤ 6000 ∧ b.regs ≤ 8000 := ⟨by omega, by omega, by omega⟩
  have HH1 := Lib.hid H1
  obtain ⟨hk4, hmy⟩ : b.ty.k = 4 ∧ may b.ty = true := by
    have := HKM.out
    simp only [Bool.and_eq_true, beq_iff_eq] at this
    exact this
  have hp84 := parW_le hmy
  have HMY := Lib.hid hmy
  have HK4 := Lib.hid hk4
  have HWD := Lib.hid (wordsR_any b.ty _ w3 (Rep.keep b3 _ _ HT.out) hmy hk4)
  clear hmy hk4 H1 h1 h2 h3 y7
  have y0 := kb3.cell 0 (.string b.nm) rfl
  have y2 := kb3.cell 2 (.int .i64 b.ty.k) rfl
  have y3 := kb3.cell 3 (.string b.ty.nm) rfl
  have y4 := kb3.cell 4 (.slice An b.ty.ns.length cn) rfl
  have y5 := kb3.cell 5 (.slice Ap b.ty.ps.length cp) rfl
  have y6 := kb3.cell 6 (.bool b.ty.many) rfl
  have y7 := kb3.cell 7 (.int .i64 b.regs) rfl
  have y8 := kb3.cell 8 (.slice A b.code.length c) rfl
  go_wp2_with fail
  ((with_reducible refine (HWD.out).mono ?_); rintro e w4 ⟨rfl, hb4⟩)
  clear HWD g1 g1' g1'' g2 g2' g3 y0 y2 y3 y4 y5 y6 y7 y8
  have b4 := b3.trans (hb4.mono b3.size)
  have kb4 := kb3.below hb4
  have y7 := kb4.cell 7 (.int .i64 b.regs) rfl
  by_cases h5 : b.regs < (parW b.ty : Int)
  · have hf : Hid (E = false) := HNOH.out (by
      have : decide ((parW b.ty : Int) ≤ b.regs) = false := by simp; omega
      rw [HHB.out, this]; simp)
    go_wp2
    go_ret
    exact ⟨by rw [hf.out]; rfl, b4⟩
  have HHT : Hid (HB = true) := by
    show _ = _
    have e1 : decide ((parW b.ty : Int) ≤ b.regs) = true := by simp; omega
    have e2 : decide (b.regs ≤ 8000) = true := by simpa using HH1.out.2.2
    have e3 : decide (1 ≤ b.code.length) = true := by simpa using HH1.out.1
    have e4 : decide (b.code.length ≤ 6000) = true := by simpa using HH1.out.2.1
    rw [HHB.out, HN0.out, Bool.true_and, HKM.out, e1, e2, e3, e4]; rfl
  go_upto_region 7 with (fail)
  clear hb4
  go_wp2
  go_loopw [6] (fun i wr => OrdsRel b w w4 i wr) (fun i _ => b.code.length - (intOf i).toNat)
  case atStart => exact ⟨0, Nat.zero_le _, rfl, fun j _ h => absurd h (by omega), Below.refl _ _, b4⟩
  case round =>
    clear y7
    obtain ⟨k, hk, rfl, hg, hb, hbw⟩ := hrel
    have kbr := kb4.below hb
    have hlen6 := HH1.out.2.1
    by_cases hlt : k < b.code.length
    · obtain ⟨bb, oo, Ad, cd, As, c', An', cn', Ap', cp', rfl, hbl, hrep, hcs⟩ := HO.out.ten hlt
      have hi : (k : Int) < (b.code.length : Int) := by omega
      have hi0 : (0 : Int) ≤ (k : Int) := by omega
      have hk6 : (k : Int) < 6000 := by omega
      have HN := Lib.hid (HNO.out HHT.out k hlt)
      have HG : Hid (orderB b.ty b.regs b.code.length b.code[k] = true → ∀ j (h : j < b.code.length), j < k + 1 → orderB b.ty b.regs b.code.length b.code[j] = true) := fun h0 j h hj => by
        rcases Nat.lt_or_ge j k with h1 | h1
        · exact hg j h h1
        · obtain rfl : j = k := by omega
          exact h0
      have HCS : Hid (∀ W, Below wr.heap.size wr W → W.cell? ⟨bb, oo + k * 10, none⟩ = some (.int .i64 b.code[k].op) ∧ W.cell? ⟨bb, oo + k * 10 + 1, none⟩ = some (.slice Ad b.code[k].d.length cd) ∧ W.cell? ⟨bb, oo + k * 10 + 2, none⟩ = some (.slice As b.code[k].s.length c') ∧ W.cell? ⟨bb, oo + k * 10 + 3, none⟩ = some (.int .i64 b.code[k].n) ∧ W.cell? ⟨bb, oo + k * 10 + 4, none⟩ = some (.string b.code[k].nm) ∧ W.cell? ⟨bb, oo + k * 10 + 5, none⟩ = some (.int .i64 b.code[k].ty.k) ∧ W.cell? ⟨bb, oo + k * 10 + 6, none⟩ = some (.string b.code[k].ty.nm) ∧ W.cell? ⟨bb, oo + k * 10 + 7, none⟩ = some (.slice An' b.code[k].ty.ns.length cn') ∧ W.cell? ⟨bb, oo + k * 10 + 8, none⟩ = some (.slice Ap' b.code[k].ty.ps.length cp') ∧ W.cell? ⟨bb, oo + k * 10 + 9, none⟩ = some (.bool b.code[k].ty.many)) := fun W h => hcs W (hbw.trans (h.mono hbw.size))
      have HREP : Hid (∀ W, Below wr.heap.size wr W → RepO W b.code[k] [.int .i64 b.code[k].op, .slice Ad b.code[k].d.length cd, .slice As b.code[k].s.length c', .int .i64 b.code[k].n, .string b.code[k].nm, .int .i64 b.code[k].ty.k, .string b.code[k].ty.nm, .slice An' b.code[k].ty.ns.length cn', .slice Ap' b.code[k].ty.ps.length cp', .bool b.code[k].ty.many]) := fun W h => hrep.keep (hbw.trans (h.mono hbw.size))
      have HRB : Hid (∀ W, Below wr.heap.size wr W → RepB W b [.string b.nm, .bool b.static, .int .i64 b.ty.k, .string b.ty.nm, .slice An b.ty.ns.length cn, .slice Ap b.ty.ps.length cp, .bool b.ty.many, .int .i64 b.regs, .slice (some ⟨bb, oo, none⟩) b.code.length c]) := fun W h => HR.out W (hbw.trans (h.mono hbw.size))
      clear hg hrep hcs
      generalize b.code[k] = od at *
      have HF : Hid (∀ W, Below wr.heap.size wr W → ((W.cell? ⟨w.heap.size, 0, none⟩ = some (.string b.nm) ∧ W.cell? ⟨w.heap.size, 1, none⟩ = some (.bool b.static) ∧ W.cell? ⟨w.heap.size, 2, none⟩ = some (.int .i64 b.ty.k) ∧ W.cell? ⟨w.heap.size, 3, none⟩ = some (.string b.ty.nm) ∧ W.cell? ⟨w.heap.size, 4, none⟩ = some (.slice An b.ty.ns.length cn) ∧ W.cell? ⟨w.heap.size, 5, none⟩ = some (.slice Ap b.ty.ps.length cp) ∧ W.cell? ⟨w.heap.size, 6, none⟩ = some (.bool b.ty.many) ∧ W.cell? ⟨w.heap.size, 7, none⟩ = some (.int .i64 b.regs) ∧ W.cell? ⟨w.heap.size, 8, none⟩ = some (.slice (some ⟨bb, oo, none⟩) b.code.length c)) ∧ W.cell? ⟨bb, oo + k * 10, none⟩ = some (.int .i64 od.op) ∧ W.cell? ⟨bb, oo + k * 10 + 1, none⟩ = some (.slice Ad od.d.length cd) ∧ W.cell? ⟨bb, oo + k * 10 + 2, none⟩ = some (.slice As od.s.length c') ∧ W.cell? ⟨bb, oo + k * 10 + 3, none⟩ = some (.int .i64 od.n) ∧ W.cell? ⟨bb, oo + k * 10 + 4, none⟩ = some (.string od.nm) ∧ W.cell? ⟨bb, oo + k * 10 + 5, none⟩ = some (.int .i64 od.ty.k) ∧ W.cell? ⟨bb, oo + k * 10 + 6, none⟩ = some (.string od.ty.nm) ∧ W.cell? ⟨bb, oo + k * 10 + 7, none⟩ = some (.slice An' od.ty.ns.length cn') ∧ W.cell? ⟨bb, oo + k * 10 + 8, none⟩ = some (.slice Ap' od.ty.ps.length cp') ∧ W.cell? ⟨bb, oo + k * 10 + 9, none⟩ = some (.bool od.ty.many))) := fun W h => by
        have q := kbr.below h
        exact ⟨⟨q.cell 0 _ rfl, q.cell 1 _ rfl, q.cell 2 _ rfl, q.cell 3 _ rfl, q.cell 4 _ rfl, q.cell 5 _ rfl, q.cell 6 _ rfl, q.cell 7 _ rfl, q.cell 8 _ rfl⟩, HCS.out W h⟩
      have HC : Hid (∀ W, (Below wr.heap.size wr W ∧ ((W.cell? ⟨w.heap.size, 0, none⟩ = some (.string b.nm) ∧ W.cell? ⟨w.heap.size, 1, none⟩ = some (.bool b.static) ∧ W.cell? ⟨w.heap.size, 2, none⟩ = some (.int .i64 b.ty.k) ∧ W.cell? ⟨w.heap.size, 3, none⟩ = some (.string b.ty.nm) ∧ W.cell? ⟨w.heap.size, 4, none⟩ = some (.slice An b.ty.ns.length cn) ∧ W.cell? ⟨w.heap.size, 5, none⟩ = some (.slice Ap b.ty.ps.length cp) ∧ W.cell? ⟨w.heap.size, 6, none⟩ = some (.bool b.ty.many) ∧ W.cell? ⟨w.heap.size, 7, none⟩ = some (.int .i64 b.regs) ∧ W.cell? ⟨w.heap.size, 8, none⟩ = some (.slice (some ⟨bb, oo, none⟩) b.code.length c)) ∧ W.cell? ⟨bb, oo + k * 10, none⟩ = some (.int .i64 od.op) ∧ W.cell? ⟨bb, oo + k * 10 + 1, none⟩ = some (.slice Ad od.d.length cd) ∧ W.cell? ⟨bb, oo + k * 10 + 2, none⟩ = some (.slice As od.s.length c') ∧ W.cell? ⟨bb, oo + k * 10 + 3, none⟩ = some (.int .i64 od.n) ∧ W.cell? ⟨bb, oo + k * 10 + 4, none⟩ = some (.string od.nm) ∧ W.cell? ⟨bb, oo + k * 10 + 5, none⟩ = some (.int .i64 od.ty.k) ∧ W.cell? ⟨bb, oo + k * 10 + 6, none⟩ = some (.string od.ty.nm) ∧ W.cell? ⟨bb, oo + k * 10 + 7, none⟩ = some (.slice An' od.ty.ns.length cn') ∧ W.cell? ⟨bb, oo + k * 10 + 8, none⟩ = some (.slice Ap' od.ty.ps.length cp') ∧ W.cell? ⟨bb, oo + k * 10 + 9, none⟩ = some (.bool od.ty.many))) → Calls Try.prog 20 #[.agg #[.string b.nm, .bool b.static, .int .i64 b.ty.k, .string b.ty.nm, .slice An b.ty.ns.length cn, .slice Ap b.ty.ps.length cp, .bool b.ty.many, .int .i64 b.regs, .slice (some ⟨bb, oo, none⟩) b.code.length c], .agg #[.int .i64 od.op, .slice Ad od.d.length cd, .slice As od.s.length c', .int .i64 od.n, .string od.nm, .int .i64 od.ty.k, .string od.ty.nm, .slice An' od.ty.ns.length cn', .slice Ap' od.ty.ps.length cp', .bool od.ty.many]] W fun e w' => e = .returned (.bool (orderB b.ty b.regs b.code.length od)) ∧ Below W.heap.size W w') := fun W h =>
        orderR_any b _ od _ W (HRB.out W h.1) (HREP.out W h.1) HMY.out HK4.out hlen6
      clear hlen6
      go_wp2_with fail
      go_region_held3 (fun W => Below wr.heap.size wr W ∧ ((W.cell? ⟨w.heap.size, 0, none⟩ = some (.string b.nm) ∧ W.cell? ⟨w.heap.size, 1, none⟩ = some (.bool b.static) ∧ W.cell? ⟨w.heap.size, 2, none⟩ = some (.int .i64 b.ty.k) ∧ W.cell? ⟨w.heap.size, 3, none⟩ = some (.string b.ty.nm) ∧ W.cell? ⟨w.heap.size, 4, none⟩ = some (.slice An b.ty.ns.length cn) ∧ W.cell? ⟨w.heap.size, 5, none⟩ = some (.slice Ap b.ty.ps.length cp) ∧ W.cell? ⟨w.heap.size, 6, none⟩ = some (.bool b.ty.many) ∧ W.cell? ⟨w.heap.size, 7, none⟩ = some (.int .i64 b.regs) ∧ W.cell? ⟨w.heap.size, 8, none⟩ = some (.slice (some ⟨bb, oo, none⟩) b.code.length c)) ∧ W.cell? ⟨bb, oo + k * 10, none⟩ = some (.int .i64 od.op) ∧ W.cell? ⟨bb, oo + k * 10 + 1, none⟩ = some (.slice Ad od.d.length cd) ∧ W.cell? ⟨bb, oo + k * 10 + 2, none⟩ = some (.slice As od.s.length c') ∧ W.cell? ⟨bb, oo + k * 10 + 3, none⟩ = some (.int .i64 od.n) ∧ W.cell? ⟨bb, oo + k * 10 + 4, none⟩ = some (.string od.nm) ∧ W.cell? ⟨bb, oo + k * 10 + 5, none⟩ = some (.int .i64 od.ty.k) ∧ W.cell? ⟨bb, oo + k * 10 + 6, none⟩ = some (.string od.ty.nm) ∧ W.cell? ⟨bb, oo + k * 10 + 7, none⟩ = some (.slice An' od.ty.ns.length cn') ∧ W.cell? ⟨bb, oo + k * 10 + 8, none⟩ = some (.slice Ap' od.ty.ps.length cp') ∧ W.cell? ⟨bb, oo + k * 10 + 9, none⟩ = some (.bool od.ty.many))) (first | exact held0 HF | exact heldS HF (by assumption) hbq | exact heldD HF (by assumption) | go_keep) ((go_at_call 20; ((with_reducible refine (HC.out _ (by assumption)).mono ?_); rintro e w' ⟨rfl, hbq⟩)))
      rename_i hh
      obtain ⟨w5, rfl⟩ : ∃ w5 : World, w5 = w' := ⟨_, rfl⟩
      have b7 := hb.trans (hh.1.mono hb.size)
      have bw7 := hbw.trans (hh.1.mono hbw.size)
      clear hh HC HF HCS HREP HRB
      rcases hob : orderB b.ty b.regs b.code.length od with _ | _
      · have hf := Lib.hid (HN.out hob)
        clear hob
        go_wp2
        go_ret
        exact ⟨by rw [hf.out]; rfl, bw7⟩
      · have hgg := Lib.hid (HG.out hob)
        clear hob
        go_wp2
        go_roundw
        case rel => exact ⟨k + 1, by omega, by go_num, hgg.out, b7, bw7⟩
        case measure => (first | (simp [intOf]; done) | (simp [intOf]; omega))
    · have hi : ¬ (k : Int) < (b.code.length : Int) := by omega
      have he := HAL.out HHT.out HH1.out.1 (fun j h => hg j h (by omega))
      have hl1 := HH1.out.1
      have hlast : b.code.length - 1 < b.code.length := by omega
      obtain ⟨bb, oo, Ad, cd, As, c', An', cn', Ap', cp', rfl, hbl, hrep, hcs⟩ := HO.out.ten hlast
      obtain ⟨c0, -⟩ := hcs wr hbw
      have y8 := kbr.cell 8 (.slice (some ⟨bb, oo, none⟩) b.code.length c) rfl
      have hp1 : (1 : Int) ≤ (b.code.length : Int) := by omega
      have hp6 : (b.code.length : Int) ≤ 6000 := by omega
      have hnat : ((b.code.length : Int) - 1).toNat = b.code.length - 1 := by omega
      clear hrep hcs
      have HE := Lib.hid he
      generalize b.code[b.code.length - 1] = od at *
      have HE2 := Lib.hid he
      clear hg he HE
      rcases e9 : (od.op == 9) with _ | _
      · go_wp2
        go_ret
        exact ⟨by rw [HE2.out, e9]; rfl, hbw⟩
      · go_wp2
        go_ret
        exact ⟨by rw [HE2.out, e9]; rfl, hbw⟩
end Go.Proofs.Ytkkjkbljgaipcaa
