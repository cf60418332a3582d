/- The walk of the law TailTells. -/
import Derived.Test.YtkkjkbljgaipcaaOrdV
namespace Go.Proofs.Ytkkjkbljgaipcaa
open Go.RowKit
set_option linter.unusedVariables false
set_option linter.unusedSimpArgs false
set_option maxRecDepth 100000
set_option maxHeartbeats 8000000
noncomputable def wantL (b : Bo) (k : Nat) : List (Fin b.code.length) := ((List.finRange b.code.length).take k).filter fun x => tailB b x.1 b.code[x.1]
theorem wantL_succ {b : Bo} {k : Nat} (h : k < b.code.length) : wantL b (k + 1) = if tailB b k b.code[k] then wantL b k ++ [⟨k, h⟩] else wantL b k := by
  unfold wantL
  rw [← fin_take h, List.filter_append]
  simp only [List.filter_cons, List.filter_nil]
  split <;> simp
theorem wantL_all (b : Bo) : wantL b b.code.length = tailL b := by
  unfold wantL tailL tailF callsL
  rw [List.filter_filter]
  congr 1
  funext x
  unfold tailB
  rw [Bool.and_comm]
theorem wantL_len (b : Bo) (k : Nat) : (wantL b k).length ≤ k := by
  unfold wantL
  exact Nat.le_trans (List.length_filter_le _ _) (List.length_take_le _ _)
def SameRel (l : List Int) (w : World) (i : Value) (wr : World) : Prop := ∃ k : Nat, k ≤ l.length ∧ i = .int .i64 k ∧ ∃ n, wr = w.drewN n
theorem intsEq_any (A A' : Option Addr) (c c' : Nat) (l : List Int) (w : World) (hr : Row w A (l.map i64)) (hr' : Row w A' (l.map i64)) (hn : l.length ≤ 10000) :
    Calls Try.prog 11 #[.slice A l.length c, .slice A' l.length c'] w (DrOut true w) := by
  go_enter Try.func11, Try.ntmps11
  go_wp2
  go_loopw [5] (fun i wr => SameRel l w i wr) (fun i _ => l.length - (intOf i).toNat)
  case atStart => exact ⟨0, Nat.zero_le _, rfl, 0, rfl⟩
  case round =>
    obtain ⟨k, hk, rfl, nd, rfl⟩ := hrel
    by_cases hlt : k < l.length
    · obtain ⟨b, o, rfl, hbl, c0⟩ := hr.i64 hlt
      obtain ⟨b', o', rfl, hbl', c0'⟩ := hr'.i64 hlt
      have hi : (k : Int) < (l.length : Int) := by omega
      have hi0 : (0 : Int) ≤ (k : Int) := by omega
      have hk6 : (k : Int) < 10000 := by omega
      generalize l[k] = x at *
      have t : ((x : Int) != (x : Int)) = false := by simp
      go_wp2_with fail
      go_quiet (fail)
      go_wp2
      go_roundw
      case rel => exact ⟨k + 1, by omega, by go_num, _, rfl⟩
      case measure => (first | (simp [intOf]; done) | (simp [intOf]; omega))
    · have hi : ¬ (k : Int) < (l.length : Int) := by omega
      go_wp2
      go_ret
      exact ⟨rfl, nd, rfl⟩
def WantRel (b : Bo) (w w3 : World) (v i : Value) (wr : World) : Prop :=
  ∃ k : Nat, k ≤ b.code.length ∧ i = .int .i64 k ∧ wr.ownsRow w3.heap.size 3 1 v (wantL b k).length (ixV (wantL b k)) ∧ Below w3.heap.size w3 wr ∧ Below w.heap.size w wr
theorem ixV_i64 {n : Nat} (l : List (Fin n)) : ixV l = (l.map fun x => (x.1 : Int)).map i64 := by
  unfold ixV
  rw [List.map_map]
  rfl
theorem tellsT_any (b : Bo) (cs : List Value) (w : World) (hr : RepB w b cs) (hm : ML w) : Calls Try.prog 4 #[.agg cs.toArray] w fun e w' => e = .returned (.bool true) ∧ Below w.heap.size w w' := by
  have HR := Lib.hid hr
  obtain ⟨An, cn, Ap, cp, A, c, rfl, -, -, hO, -⟩ := hr.nine
  have B0 : Below w.heap.size w (w.alloc (.cells #[.string b.nm, .bool b.static, .int .i64 b.ty.k, .string b.ty.nm, .slice An b.ty.ns.length cn, .slice Ap b.ty.ps.length cp, .bool b.ty.many, .int .i64 b.regs, .slice A b.code.length c] 28)) := by (repeat (first | with_reducible assumption | with_reducible exact Below.refl _ _ | (refine Below.setCell ?_ (by first | omega | (simp; done) | (simp; omega)) _) | (refine Below.drewN_ ?_ _) | (refine Below.drew ?_) | (refine Below.alloc ?_ (by first | omega | (simp; done) | (simp; omega)) _)))
  have kb := Blk.new_ w 28 #[.string b.nm, .bool b.static, .int .i64 b.ty.k, .string b.ty.nm, .slice An b.ty.ns.length cn, .slice Ap b.ty.ps.length cp, .bool b.ty.many, .int .i64 b.regs, .slice A b.code.length c]
  have HC := Lib.hid (tailOf_any b _ _ (HR.out.keep B0) (hm.keep B0))
  have HB0 := Lib.hid B0
  clear hr hm hO B0
  go_enter Try.func4, Try.ntmps4
  go_wp2_with fail
  ((with_reducible refine (HC.out).mono ?_); rintro e w2 ho)
  rcases ho with ⟨hbo, rfl, hb2⟩ | ⟨hbo, A1, c1, rfl, hrow, hb2⟩
  · have b2 := HB0.out.trans (hb2.mono HB0.out.size)
    have kb2 := kb.below hb2
    have HM := Lib.hid (mayR11_any b _ w2 (HR.out.keep b2))
    have HBO := Lib.hid hbo
    have q0 := kb2.cell 0 (.string b.nm) rfl
    have q1 := kb2.cell 1 (.bool b.static) rfl
    have q2 := kb2.cell 2 (.int .i64 b.ty.k) rfl
    have q3 := kb2.cell 3 (.string b.ty.nm) rfl
    have q4 := kb2.cell 4 (.slice An b.ty.ns.length cn) rfl
    have q5 := kb2.cell 5 (.slice Ap b.ty.ps.length cp) rfl
    have q6 := kb2.cell 6 (.bool b.ty.many) rfl
    have q7 := kb2.cell 7 (.int .i64 b.regs) rfl
    have q8 := kb2.cell 8 (.slice A b.code.length c) rfl
    clear hbo kb hb2 HC
    go_wp2_with fail
    ((with_reducible refine (HM.out).mono ?_); rintro e w3 ⟨rfl, hb3⟩)
    rw [HBO.out]
    go_wp2
    go_ret
    exact ⟨rfl, b2.trans (hb3.mono b2.size)⟩
  · have b2 := HB0.out.trans (hb2.mono HB0.out.size)
    have kb2 := kb.below hb2
    have HM := Lib.hid (mayR11_any b _ w2 (HR.out.keep b2))
    have hlen := code_le hbo
    have HBO := Lib.hid hbo
    have q0 := kb2.cell 0 (.string b.nm) rfl
    have q1 := kb2.cell 1 (.bool b.static) rfl
    have q2 := kb2.cell 2 (.int .i64 b.ty.k) rfl
    have q3 := kb2.cell 3 (.string b.ty.nm) rfl
    have q4 := kb2.cell 4 (.slice An b.ty.ns.length cn) rfl
    have q5 := kb2.cell 5 (.slice Ap b.ty.ps.length cp) rfl
    have q6 := kb2.cell 6 (.bool b.ty.many) rfl
    have q7 := kb2.cell 7 (.int .i64 b.regs) rfl
    have q8 := kb2.cell 8 (.slice A b.code.length c) rfl
    have HRW := Lib.hid hrow
    clear hbo kb hb2 HC hrow
    go_wp2_with fail
    ((with_reducible refine (HM.out).mono ?_); rintro e w3 ⟨rfl, hb3⟩)
    rw [HBO.out]
    have b3 := b2.trans (hb3.mono b2.size)
    have kb3 := kb2.below hb3
    have HRW3 := Lib.hid (HRW.out.keep hb3)
    obtain ⟨i0, hi, hz0, hz1, hz2⟩ := info_parts info_int
    clear HM q0 q1 q2 q3 q4 q5 q6 q7 q8 hb3 HRW kb2
    go_upto_region 6 with (fail)
    go_wp2
    go_loopw [5, 6] (fun v i wr => WantRel b w w3 v i wr) (fun _ i _ => b.code.length - (intOf i).toNat)
    case atStart => exact ⟨0, Nat.zero_le _, rfl, World.ownsRow_nil _ _ _ _, Below.refl _ _, b3⟩
    case round =>
      obtain ⟨k, hk, rfl, hown, hb, hbw⟩ := hrel
      have kbr := kb3.below hb
      have hH := kbr.lt
      have hwl := wantL_len b k
      have q0 := kbr.cell 0 (.string b.nm) rfl
      have q1 := kbr.cell 1 (.bool b.static) rfl
      have q2 := kbr.cell 2 (.int .i64 b.ty.k) rfl
      have q3 := kbr.cell 3 (.string b.ty.nm) rfl
      have q4 := kbr.cell 4 (.slice An b.ty.ns.length cn) rfl
      have q5 := kbr.cell 5 (.slice Ap b.ty.ps.length cp) rfl
      have q6 := kbr.cell 6 (.bool b.ty.many) rfl
      have q7 := kbr.cell 7 (.int .i64 b.regs) rfl
      have q8 := kbr.cell 8 (.slice A b.code.length c) rfl
      by_cases hlt : k < b.code.length
      · have hi1 : (k : Int) < (b.code.length : Int) := by omega
        have hk7 : (k : Int) < 6000 := by omega
        have HTC := Lib.hid (tailR_any b _ k wr (HR.out.keep hbw) HBO.out hlt)
        have HWS := Lib.hid (wantL_succ hlt)
        have HO := Lib.hid hown
        clear hown
        generalize tailB b k b.code[k] = tb at *
        go_wp2_with fail
        ((with_reducible refine (HTC.out).mono ?_); rintro e w4 ⟨rfl, hb4⟩)
        have b4 := hb.trans (hb4.mono hb.size)
        have bw4 := hbw.trans (hb4.mono hbw.size)
        have hown := own_below HO.out hb4
        clear HTC q0 q1 q2 q3 q4 q5 q6 q7 q8 HO hb4
        cases tb
        · have HW2 : Hid (wantL b (k + 1) = wantL b k) := HWS.out
          go_wp2
          go_roundw
          case rel => exact ⟨k + 1, by omega, by go_num, by rw [HW2.out]; exact hown, b4, bw4⟩
          case measure => (first | (simp [intOf]; done) | (simp [intOf]; omega))
        · have HW2 : Hid (wantL b (k + 1) = wantL b k ++ [⟨k, hlt⟩]) := HWS.out
          go_wp2_with (at_builtin; refine wpList_append_own _ rfl _ _ 35 rfl w3.heap.size 3 i0 (.int .i64 0) 1 8 Try.underlying35 hi hz0 hz1 hz2 rfl (by decide) _ _ _ rfl (hown.alloc _) ⟨w4.heap.size, 0, none⟩ 1 1 [.int .i64 (k : Int)] rfl rfl ?c1 ?c2 ?c3 ?c4 ?c5 ?_)
          case c1 => exact cell_one_new _ _ _
          case c2 => simp [Value.oneCell']
          case c3 => unfold maxLen; omega
          case c4 => omega
          case c5 => have := b4.size; simp; omega
          intro v' w5 hown' hgrow _
          have b5 := below_app b4 (Nat.le_refl _) hown hgrow
          have bw5 := b3.trans (b5.mono b3.size)
          have HO' : Hid (w5.ownsRow w3.heap.size 3 1 v' (wantL b (k + 1)).length (ixV (wantL b (k + 1)))) := by
            show World.ownsRow _ _ _ _ _ _ _
            rw [HW2.out]
            simpa [ixV] using hown'
          clear hown hown' hgrow
          go_wp2
          go_roundw
          case rel => exact ⟨k + 1, by omega, by go_num, HO'.out, b5, bw5⟩
          case measure => (first | (simp [intOf]; done) | (simp [intOf]; omega))
      · have hi1 : ¬ (k : Int) < (b.code.length : Int) := by omega
        obtain rfl : k = b.code.length := by omega
        rw [wantL_all] at hown
        have hll : (tailL b).length ≤ 6000 := by rw [← wantL_all]; omega
        obtain ⟨A2, c2, rfl, hrow2⟩ := Row.of_own hown
        have hrow1 := HRW3.out.keep hb
        rw [ixV_i64] at hrow2 hrow1
        have hll2 : (tailL b).length = ((tailL b).map fun x => (x.1 : Int)).length := by simp
        have heq := intsEq_any A1 A2 c1 c2 _ wr hrow1 hrow2 (by rw [← hll2]; omega)
        rw [← hll2] at heq
        have HEQ := Lib.hid heq
        clear heq
        clear hrow1 hrow2 hown hwl hll hll2
        go_wp2_with fail
        ((with_reducible refine (HEQ.out).mono ?_); rintro e w6 ⟨rfl, nd, rfl⟩)
        go_wp2
        go_ret
        exact ⟨rfl, Below.drewN_ hbw _⟩
end Go.Proofs.Ytkkjkbljgaipcaa
