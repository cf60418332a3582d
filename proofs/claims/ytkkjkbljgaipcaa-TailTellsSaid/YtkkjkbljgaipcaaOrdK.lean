/- The walk of tail.last. -/
import Derived.Test.YtkkjkbljgaipcaaOrdJ
import Derived.Test.YtkkjkbljgaipcaaOrdG
namespace Go.Proofs.Ytkkjkbljgaipcaa
open Go.RowKit
set_option linter.unusedVariables false
set_option linter.unusedSimpArgs false
set_option maxRecDepth 100000
set_option maxHeartbeats 4000000
/-- is what a call answers returned behind it? -/
def lastB (b : Bo) (i : Nat) : Bool := match b.code[i]?, b.code[i + 1]? with
  | some o, some o' => (o'.op == 12) && decide (o'.s = o.d) && decide (o.d.length ≤ 2)
  | _, _ => false
theorem last_any (b : Bo) (cs : List Value) (i : Nat) (w : World) (hr : RepB w b cs) (hi : i < b.code.length) (hlen : b.code.length ≤ 6000) :
    Calls Try.prog 26 #[.agg cs.toArray, .int .i64 (i : Int)] w fun e w' => e = .returned (.bool (lastB b i)) ∧ Below w.heap.size w w' := by
  obtain ⟨An, cn, Ap, cp, A, c, rfl, -, -, hO, -⟩ := hr.nine
  have B0 : Below w.heap.size w (w.alloc (.cells #[.string b.nm, .bool b.static, .int .i64 b.ty.k, .string b.ty.nm, .slice An b.ty.ns.length cn, .slice Ap b.ty.ps.length cp, .bool b.ty.many, .int .i64 b.regs, .slice A b.code.length c] 28)) := by (repeat (first | with_reducible assumption | with_reducible exact Below.refl _ _ | (refine Below.setCell ?_ (by first | omega | (simp; done) | (simp; omega)) _) | (refine Below.drewN_ ?_ _) | (refine Below.drew ?_) | (refine Below.alloc ?_ (by first | omega | (simp; done) | (simp; omega)) _)))
  have kb := Blk.new_ w 28 #[.string b.nm, .bool b.static, .int .i64 b.ty.k, .string b.ty.nm, .slice An b.ty.ns.length cn, .slice Ap b.ty.ps.length cp, .bool b.ty.many, .int .i64 b.regs, .slice A b.code.length c]
  have HV : Hid (lastB b i = match b.code[i]?, b.code[i + 1]? with
    | some o, some o' => (o'.op == 12) && decide (o'.s = o.d) && decide (o.d.length ≤ 2)
    | _, _ => false) := rfl
  generalize lastB b i = V at *
  have HO := Lib.hid hO
  have HB0 := Lib.hid B0
  clear hr hO B0
  go_enter Try.func26, Try.ntmps26
  go_upto_region 1 with (fail)
  generalize hw1 : w.alloc (.cells #[.string b.nm, .bool b.static, .int .i64 b.ty.k, .string b.ty.nm, .slice An b.ty.ns.length cn, .slice Ap b.ty.ps.length cp, .bool b.ty.many, .int .i64 b.regs, .slice A b.code.length c] 28) = w1 at *
  clear hw1
  have y8 := kb.cell 8 (.slice A b.code.length c) rfl
  have hwr : IntKind.i64.wrap ((i : Int) + 1) = (i : Int) + 1 := IntWalk.i64_in _ (by omega)
  by_cases h1 : i + 1 < b.code.length
  case neg =>
    have hf : Hid (V = false) := by
      show _ = _; rw [HV.out, List.getElem?_eq_none (l := b.code) (i := i + 1) (by omega)]
      cases b.code[i]? <;> rfl
    have g1 : decide ((i : Int) + 1 < (b.code.length : Int)) = false := by rw [decide_eq_false_iff_not]; omega
    go_wp2_with fail
    go_quiet (fail)
    go_wp2
    go_ret
    exact ⟨by rw [hf.out]; rfl, Below.drewN_ HB0.out _⟩
  have g1 : decide ((i : Int) + 1 < (b.code.length : Int)) = true := by rw [decide_eq_true_eq]; omega
  obtain ⟨bb, oo, Ad, cd, As, c', An', cn', Ap', cp', rfl, hbl, hrep, hcs⟩ := HO.out.ten hi
  obtain ⟨bb2, oo2, Ad2, cd2, As2, c2, An2, cn2, Ap2, cp2, hA, hbl2, hrep2, hcs2⟩ := HO.out.ten h1
  obtain ⟨rfl, rfl⟩ : bb = bb2 ∧ oo = oo2 := by simpa using hA
  obtain ⟨-, c1, c2', -⟩ := hcs w1 HB0.out
  obtain ⟨d0, d1, d2', -⟩ := hcs2 w1 HB0.out
  have HV1 : Hid (V = ((b.code[i + 1].op == 12) && decide (b.code[i + 1].s = b.code[i].d) && decide (b.code[i].d.length ≤ 2))) := by
    show _ = _; rw [HV.out, List.getElem?_eq_getElem h1, List.getElem?_eq_getElem hi]
  obtain ⟨Adx, cdx, Asx, csx, Anx, cnx, Apx, cpx, hcsx, hD, -, -, -, hdl, -⟩ := hrep.ten
  obtain ⟨rfl, rfl⟩ : Ad = Adx ∧ cd = cdx := by
    simp only [List.cons.injEq, Value.slice.injEq] at hcsx
    exact ⟨hcsx.2.1.1, hcsx.2.1.2.2⟩
  obtain ⟨Ady, cdy, Asy, csy, Any, cny, Apy, cpy, hcsy, -, hS, -, -, -, hsl, -⟩ := hrep2.ten
  obtain ⟨rfl, rfl⟩ : As2 = Asy ∧ c2 = csy := by
    simp only [List.cons.injEq, Value.slice.injEq] at hcsy
    exact ⟨hcsy.2.2.1.1, hcsy.2.2.1.2.2⟩
  clear hcsx hcsy hrep hrep2 hcs hcs2 hA HV
  have HEQ : Hid (∀ n, Calls Try.prog 53 #[.slice As2 b.code[i + 1].s.length c2, .slice Ad b.code[i].d.length cd] (w1.drewN n) (DrOut (decide (b.code[i + 1].s = b.code[i].d)) (w1.drewN n))) :=
    fun n => equal_any As2 Ad c2 cd b.code[i + 1].s b.code[i].d (w1.drewN n) (hS.keep (Below.drewN_ HB0.out n)) (hD.keep (Below.drewN_ HB0.out n)) hsl hdl
  have hi0 : (0 : Int) ≤ (i : Int) := by omega
  have hi1 : (i : Int) < (b.code.length : Int) := by omega
  have hj0 : (0 : Int) ≤ (i : Int) + 1 := by omega
  have hj1 : (i : Int) + 1 < (b.code.length : Int) := by omega
  have hnat : ((i : Int) + 1).toNat = i + 1 := by omega
  generalize b.code[i + 1] = p at *
  generalize b.code[i] = o at *
  unfold maxLen at hdl
  rcases e1 : (p.op == 12) with _ | _
  · have hf : Hid (V = false) := by show _ = _; rw [HV1.out, e1]; rfl
    go_wp2_with fail
    go_quiet (fail)
    go_wp2
    go_ret
    exact ⟨by rw [hf.out]; rfl, Below.drewN_ HB0.out _⟩
  rcases e2 : decide (p.s = o.d) with _ | _
  · have hf : Hid (V = false) := by show _ = _; rw [HV1.out, e2]; simp
    rw [e2] at HEQ
    clear e2
    go_wp2_with fail
    go_quiet ((go_at_call 53; exact Calls.quiet_of (HEQ.out _)))
    go_wp2
    go_ret
    exact ⟨by rw [hf.out]; rfl, Below.drewN_ HB0.out _⟩
  have hf : Hid (V = decide ((o.d.length : Int) ≤ 2)) := by
    show _ = _; rw [HV1.out, e1, e2, Bool.true_and, Bool.true_and, decide_eq_decide]; omega
  rw [e2] at HEQ
  clear e2
  go_wp2_with fail
  go_quiet ((go_at_call 53; exact Calls.quiet_of (HEQ.out _)))
  go_wp2
  go_ret
  exact ⟨by rw [hf.out]; rfl, Below.drewN_ HB0.out _⟩
end Go.Proofs.Ytkkjkbljgaipcaa
