/- The walk of the law LiveTells. -/
import Derived.Test.YtkkjkbljgaipcaaLivH
namespace Go.Proofs.Ytkkjkbljgaipcaa
open Go.RowKit
set_option linter.unusedVariables false
set_option linter.unusedSimpArgs false
set_option maxRecDepth 100000
set_option maxHeartbeats 8000000
def LawRel (n : Nat) (w : World) (i : Value) (wr : World) : Prop := ∃ k : Nat, k ≤ n ∧ i = .int .i64 (k : Int) ∧ ∃ d, wr = w.drewN d
theorem quiet_sum {P : Program} {f : FuncId} {args : Array Value} {w : World} {a n : Nat} {b : Bool} (h : Calls P f args (w.drewN (a + n)) (DrOut b (w.drewN (a + n)))) :
    Calls P f args (w.drewN (a + n)) fun e w'' => e = .returned (.bool b) ∧ ∃ m, w'' = w.drewN (a + m) :=
  h.mono fun _ _ ⟨he, m, hm⟩ => ⟨he, n + m, by rw [hm, World.drewN_drewN, Nat.add_assoc]⟩
theorem row_at {w : World} {base k : Nat} {A : Option Addr} {outs : List Value} {xss : List (List Int)} (h : Row w A outs) (hr : RowsAt w base outs xss) (hk : k < outs.length) (hk' : k < xss.length) :
    ∃ b o B c, A = some ⟨b, o, none⟩ ∧ w.cell? ⟨b, o + k, none⟩ = some (.slice B xss[k].length c) ∧ Row w B (xss[k].map i64) := by
  obtain ⟨b, o, hA, -, hc⟩ := h.at_ (by intro e; subst e; simp at hk)
  obtain ⟨B, c, hv, hrow⟩ := Row.of_own (hr.2.1 k hk hk')
  exact ⟨b, o, B, c, hA, by rw [← hv]; exact hc k _ (List.getElem?_eq_getElem hk), hrow⟩
theorem tellsL_any (b : Bo) (cs : List Value) (w : World) (hr : RepB w b cs) (hm : ML w) : Calls Try.prog 5 #[.agg cs.toArray] w fun e w' => e = .returned (.bool true) ∧ Below w.heap.size w w' := by
  have HR := Lib.hid hr
  obtain ⟨An, cn, Ap, cp, A, c, rfl, -, -, -, hl⟩ := hr.nine
  have B0 : Below w.heap.size w (w.alloc (.cells #[.string b.nm, .bool b.static, .int .i64 b.ty.k, .string b.ty.nm, .slice An b.ty.ns.length cn, .slice Ap b.ty.ps.length cp, .bool b.ty.many, .int .i64 b.regs, .slice A b.code.length c] 28)) := by (repeat (first | with_reducible assumption | with_reducible exact Below.refl _ _ | (refine Below.setCell ?_ (by first | omega | (simp; done) | (simp; omega)) _) | (refine Below.drewN_ ?_ _) | (refine Below.drew ?_) | (refine Below.alloc ?_ (by first | omega | (simp; done) | (simp; omega)) _)))
  have kb := Blk.new_ w 28 #[.string b.nm, .bool b.static, .int .i64 b.ty.k, .string b.ty.nm, .slice An b.ty.ns.length cn, .slice Ap b.ty.ps.length cp, .bool b.ty.many, .int .i64 b.regs, .slice A b.code.length c]
  have HC := Lib.hid (liveOf_any b _ _ (HR.out.keep B0) (hm.keep B0))
  have HB0 := Lib.hid B0
  unfold maxLen at hl
  clear hr hm B0
  by_cases h1 : 200 < b.regs
  · have g1 : decide (200 < b.regs) = true := by simpa using h1
    go_enter Try.func5, Try.ntmps5
    go_wp2
    go_ret
    exact ⟨rfl, HB0.out⟩
  have g1 : decide (200 < b.regs) = false := by simpa using h1
  by_cases h2 : 200 < b.code.length
  · have g2 : decide ((200 : Int) < (b.code.length : Int)) = true := by simp; omega
    go_enter Try.func5, Try.ntmps5
    go_wp2
    go_ret
    exact ⟨rfl, HB0.out⟩
  have g2 : decide ((200 : Int) < (b.code.length : Int)) = false := by simp; omega
  go_enter Try.func5, Try.ntmps5
  go_wp2_with fail
  (refine (HC.out).mono ?_; rintro e w2 hout)
  rcases hout with ⟨hbo, rfl, hb2⟩ | ⟨hbo, regs, base, outs, A1, c1, hregs, rfl, hrow, hrows, hb2⟩
  · have b2 := HB0.out.trans (hb2.mono HB0.out.size)
    have kb2 := kb.below hb2
    have HM := Lib.hid (ofR_any b _ w2 (HR.out.keep b2))
    have HBO := Lib.hid hbo
    have q0 := kb2.cell 0 (.string b.nm) rfl
    have q1 := kb2.cell 1 (.bool b.static) rfl
    have q2 := kb2.cell 2 (.int .i64 b.ty.k) rfl
    have q3 := kb2.cell 3 (.string b.ty.nm) rfl
    have q4 := kb2.cell 4 (.slice An b.ty.ns.length cn) rfl
    have q5 := kb2.cell 5 (.slice Ap b.ty.ps.length cp) rfl
    have q6 := kb2.cell 6 (.bool b.ty.many) rfl
    have q7 := kb2.cell 7 (.int .i64 b.regs) rfl
    have q8 := kb2.cell 8 (.slice A b.code.length c) rfl
    clear hbo kb hb2 HC
    go_wp2_with fail
    (refine (HM.out).mono ?_; rintro e w3 hout2)
    rcases hout2 with ⟨-, rfl, hb3⟩ | ⟨hbo2, -⟩
    · go_wp2
      refine wp_loop_rounds 1 ?_
      rw [rounds_succ]
      go_wp2
      go_ret
      exact ⟨rfl, b2.trans (hb3.mono b2.size)⟩
    · rw [HBO.out] at hbo2
      cases hbo2
  · have b2 := HB0.out.trans (hb2.mono HB0.out.size)
    have kb2 := kb.below hb2
    have HM := Lib.hid (ofR_any b _ w2 (HR.out.keep b2))
    have HBO := Lib.hid hbo
    have HRG := Lib.hid hregs
    have HROW := Lib.hid hrow
    have HROWS := Lib.hid hrows
    have q0 := kb2.cell 0 (.string b.nm) rfl
    have q1 := kb2.cell 1 (.bool b.static) rfl
    have q2 := kb2.cell 2 (.int .i64 b.ty.k) rfl
    have q3 := kb2.cell 3 (.string b.ty.nm) rfl
    have q4 := kb2.cell 4 (.slice An b.ty.ns.length cn) rfl
    have q5 := kb2.cell 5 (.slice Ap b.ty.ps.length cp) rfl
    have q6 := kb2.cell 6 (.bool b.ty.many) rfl
    have q7 := kb2.cell 7 (.int .i64 b.regs) rfl
    have q8 := kb2.cell 8 (.slice A b.code.length c) rfl
    clear hbo kb hb2 HC hregs hrow hrows
    go_wp2_with fail
    (refine (HM.out).mono ?_; rintro e w3 hout2)
    rcases hout2 with ⟨hbo2, -⟩ | ⟨-, regs2, base2, outs2, A2, c2, hregs2, rfl, hrow2, hrows2, hb3⟩
    · rw [HBO.out] at hbo2
      cases hbo2
    · have hre : regs2 = regs := by
        have := HRG.out
        rw [hregs2] at this
        omega
      subst hre
      have b3 := b2.trans (hb3.mono b2.size)
      have hrow1 := HROW.out.keep hb3
      have hrows1 := HROWS.out.below hb3
      have HW1 := Lib.hid hrow1
      have HW2 := Lib.hid hrow2
      have HS1 := Lib.hid hrows1
      have HS2 := Lib.hid hrows2
      have hn200 : b.code.length ≤ 200 := by omega
      have hr200 : regs2 ≤ 200 := by omega
      clear hregs2 hrow2 hrows2 hrow1 hrows1 HROW HROWS hb3 q0 q1 q2 q3 q4 q5 q6 q7 q8 kb2 HM g1 g2 h1 h2
      go_wp2
      go_loopw [7] (fun i wr => LawRel b.code.length w3 i wr) (fun i _ => b.code.length - (intOf i).toNat)
      case atStart => exact ⟨0, Nat.zero_le _, rfl, 0, rfl⟩
      case round =>
        obtain ⟨k, hk, rfl, nd, rfl⟩ := hrel
        by_cases hlt : k < b.code.length
        · have hk0 : (0 : Int) ≤ (k : Int) := by omega
          have hk1 : (k : Int) < (b.code.length : Int) := by omega
          have hk2 : (k : Int) < 200 := by omega
          have hxl : k < ((List.range b.code.length).map (liveL b.code regs2)).length := by simpa using hlt
          have ho1 : k < outs.length := by rw [HS1.out.1]; exact hxl
          have ho2 : k < outs2.length := by rw [HS2.out.1]; exact hxl
          obtain ⟨p1, o1, B1, e1, hA1, z1, r1⟩ := row_at HW1.out HS1.out ho1 hxl
          obtain ⟨p2, o2, B2, e2, hA2, z2, r2⟩ := row_at HW2.out HS2.out ho2 hxl
          subst hA1 hA2
          have hxe : ((List.range b.code.length).map (liveL b.code regs2))[k] = liveL b.code regs2 k := by simp
          rw [hxe] at z1 z2 r1 r2
          have hll := liveL_len b.code regs2 k
          have HEQ : Hid (∀ n, Calls Try.prog 11 #[.slice B1 (liveL b.code regs2 k).length e1, .slice B2 (liveL b.code regs2 k).length e2] (w3.drewN n) (DrOut true (w3.drewN n))) := fun n =>
            intsEq_any B1 B2 e1 e2 _ (w3.drewN n) (r1.keep (Below.drewN_ (Below.refl _ _) n)) (r2.keep (Below.drewN_ (Below.refl _ _) n)) (by omega)
          clear hxe r1 r2
          generalize liveL b.code regs2 k = lk at *
          go_wp2
          go_quiet ((go_at_call 11; exact quiet_sum (HEQ.out _)))
          go_wp2
          go_roundw
          case rel => exact ⟨k + 1, by omega, by go_num, _, rfl⟩
          case measure => (first | (simp [intOf]; done) | (simp [intOf]; omega))
        · have hk1 : ¬ (k : Int) < (b.code.length : Int) := by omega
          go_wp2
          go_ret
          exact ⟨rfl, Below.drewN_ b3 _⟩
end Go.Proofs.Ytkkjkbljgaipcaa
