/- The iterator over a body's calls: tail.calls. -/
import Derived.Test.YtkkjkbljgaipcaaOrdK
import Derived.Test.YtkkjkbljgaipcaaOrdR
import Derived.Test.YtkkjkbljgaipcaaTypF
import Derived.RangeFuncBox
import Derived.Maps.AppendAt
import Derived.Maps.OwnIn
namespace Go.Proofs.Ytkkjkbljgaipcaa
open Go.RowKit Go.Shelf
set_option linter.unusedVariables false
set_option linter.unusedSimpArgs false
set_option maxRecDepth 100000
set_option maxHeartbeats 4000000
attribute [local go_sem] Oper.semAt_some
/-- the cells of each order of a row -/
def OcsOf (w0 : World) (A : Option Addr) (l : List Or) (ocs : Nat → List Value) : Prop := ∀ i (h : i < l.length), ∃ b o, A = some ⟨b, o, none⟩ ∧ b < w0.heap.size ∧ (∀ j v, (ocs i)[j]? = some v → w0.cell? ⟨b, o + i * 10 + j, none⟩ = some v) ∧ RepO w0 l[i] (ocs i)
theorem ocs_of {w0 : World} {A : Option Addr} {l : List Or} (h : RepOL w0 A l) : ∃ ocs, OcsOf w0 A l ocs := by
  obtain ⟨X, hX⟩ := Go.Deep.choose_lt (α := List Value) (n := l.length) (p := fun i cs => ∃ h : i < l.length, ∃ b o, A = some ⟨b, o, none⟩ ∧ b < w0.heap.size ∧ (∀ j v, cs[j]? = some v → w0.cell? ⟨b, o + i * 10 + j, none⟩ = some v) ∧ RepO w0 l[i] cs) (fun i hi => by
    obtain ⟨b, o, cs, h1, h2, h3, h4⟩ := h i hi
    exact ⟨cs, hi, b, o, h1, h2, h3, h4⟩)
  exact ⟨X, fun i hi => by obtain ⟨_, h⟩ := hX i hi; exact h⟩
def isCallB (o : Or) : Bool := (o.op == 7) || (o.op == 8)
def callsL (l : List Or) (k : Nat) : List (Fin l.length) := ((List.finRange l.length).take k).filter fun x => isCallB l[x.1]
theorem callsL_succ {l : List Or} {k : Nat} (h : k < l.length) : callsL l (k + 1) = if isCallB l[k] then callsL l k ++ [⟨k, h⟩] else callsL l k := by
  unfold callsL
  rw [← fin_take h, List.filter_append]
  simp only [List.filter_cons, List.filter_nil]
  split <;> simp
theorem callsL_len {l : List Or} {k : Nat} (h : k < l.length) : (callsL l k).length < l.length := by
  unfold callsL
  have := List.length_filter_le (fun x : Fin l.length => isCallB l[x.1]) ((List.finRange l.length).take k)
  have h2 := List.length_take_le k (List.finRange l.length)
  omega
def CallsRel (l : List Or) (J : List (Fin l.length) → World → Prop) (W w0 : World) (i : Value) (wr : World) : Prop :=
  ∃ k : Nat, k ≤ l.length ∧ i = .int .i64 k ∧ J (callsL l k) wr ∧ Below w0.heap.size W wr ∧ W.heap.size ≤ wr.heap.size
theorem calls1_in (n l Bn : Nat) (w0 : World) (A : Option Addr) (c : Nat) (code : List Or) (ocs : Nat → List Value) (hO : OcsOf w0 A code ocs) (hlen : code.length ≤ 6000) (J Jx : List (Fin code.length) → World → Prop) (W : World)
    (hw : Below w0.heap.size w0 W) (hJ : AbidesFrom W.heap.size J) (hJx : AbidesFrom W.heap.size Jx)
    (hY : ∀ pre (x : Fin code.length) W1, J pre W1 → pre.length < code.length → YieldAt Fence.wide (n - 1) Try.prog l #[.int .i64 (x.1 : Int), .agg (ocs x.1).toArray] W1 fun e W' =>
      (e = .returned (.bool true) ∧ J (pre ++ [x]) W' ∧ Below w0.heap.size W1 W') ∨ (e = .returned (.bool false) ∧ Jx (pre ++ [x]) W'))
    (hB : W.cell? ⟨Bn, 8, none⟩ = some (.slice A code.length c)) (h0 : J [] W) :
    CallsIn Fence.wide n Try.prog 52 #[.func (.yield l) #[] #[], .pointer (some ⟨Bn, 0, none⟩)] W fun e W' => (∃ v, e = .returned v) ∧
      (J (callsL code code.length) W' ∨ ∃ pre, Jx pre W') := by
  refine callsIn_of_wp Try.func52 rfl trivial ?_ rfl
  simp only [Try.ntmps52, List.size_toArray, List.length_cons, List.length_nil, Nat.reduceAdd, Nat.reduceSub, Array.replicate_succ, Array.replicate_zero, List.push_toArray, List.append_toArray, List.nil_append, List.cons_append]
  gi_wp2
  gi_loopw [8] (fun i wr => CallsRel code J W w0 i wr) (fun i _ => code.length - (intOf i).toNat)
  case atStart => exact ⟨0, Nat.zero_le _, rfl, h0, Below.refl _ _, Nat.le_refl _⟩
  case round =>
    obtain ⟨k, hk, rfl, hJs, hnx, hsz⟩ := hrel
    by_cases hlt : k < code.length
    · obtain ⟨b, o, rfl, hbl, hc, hrep⟩ := hO k hlt
      obtain ⟨Ad, cd, As, c', An, cn, Ap, cp, hcs, -⟩ := hrep.ten
      have hbn := hw.trans hnx
      have hc' : ∀ j v, (ocs k)[j]? = some v → wr.cell? ⟨b, o + k * 10 + j, none⟩ = some v := fun j v hj => (hbn.cell (p := ⟨b, o + k * 10 + j, none⟩) hbl).trans (hc j v hj)
      have hY' := hY (callsL code k) ⟨k, hlt⟩
      simp only at hY'
      rw [hcs] at hc' hY'
      have c0 := hc' 0 _ rfl
      have c1 := hc' 1 _ rfl
      have c2 := hc' 2 _ rfl
      have c3 := hc' 3 _ rfl
      have c4 := hc' 4 _ rfl
      have c5 := hc' 5 _ rfl
      have c6 := hc' 6 _ rfl
      have c7 := hc' 7 _ rfl
      have c8 := hc' 8 _ rfl
      have c9 := hc' 9 _ rfl
      rw [Nat.add_zero] at c0
      have hi : (k : Int) < (code.length : Int) := by omega
      have hi0 : (0 : Int) ≤ (k : Int) := by omega
      have hk6 : (k : Int) < 6000 := by omega
      have HSC := Lib.hid (callsL_succ hlt)
      have HLN := Lib.hid (callsL_len hlt)
      clear hc hc' hcs hrep hY
      have hIC : isCallB code[k] = ((code[k].op == 7) || (code[k].op == 8)) := rfl
      generalize isCallB code[k] = ic at *
      generalize code[k] = od at *
      generalize od.op = x at *
      have X : Below wr.heap.size wr (wr.alloc (.cells #[.int .i64 x, .slice Ad od.d.length cd, .slice As od.s.length c', .int .i64 od.n, .string od.nm, .int .i64 od.ty.k, .string od.ty.nm, .slice An od.ty.ns.length cn, .slice Ap od.ty.ps.length cp, .bool od.ty.many] 60)) := by (repeat (first | with_reducible assumption | with_reducible exact Below.refl _ _ | (refine Below.setCell ?_ (by first | omega | (simp; done) | (simp; omega)) _) | (refine Below.drewN_ ?_ _) | (refine Below.drew ?_) | (refine Below.alloc ?_ (by first | omega | (simp; done) | (simp; omega)) _)))
      have hJ2 := hJ _ _ _ none hJs (grown_of X) (fun r e => by cases e)
      have b2 : Below w0.heap.size W (wr.alloc (.cells #[.int .i64 x, .slice Ad od.d.length cd, .slice As od.s.length c', .int .i64 od.n, .string od.nm, .int .i64 od.ty.k, .string od.ty.nm, .slice An od.ty.ns.length cn, .slice Ap od.ty.ps.length cp, .bool od.ty.many] 60)) := hnx.trans (X.mono hbn.size)
      have s2 := Nat.le_trans hsz X.size
      by_cases hx : x = 7 ∨ x = 8
      · obtain rfl : ic = true := by rw [hIC]; rcases hx with rfl | rfl <;> rfl
        have HSC2 : Hid (callsL code (k + 1) = callsL code k ++ [⟨k, hlt⟩]) := by show _ = _; rw [HSC.out]; rfl
        obtain ⟨fn, tmps, assign, body, hy, hR⟩ := hY' _ hJ2 HLN.out
        clear hY' hJ2 X hIC HSC
        rcases hx with rfl | rfl
        all_goals
          gi_wp2
          refine ⟨fun h => (by cases h), hR.mono ?_⟩
          rintro e W3 (⟨rfl, hJ3, hk3⟩ | ⟨rfl, hJx3⟩)
          · gi_wp2
            go_roundw
            case rel => exact ⟨k + 1, by omega, by go_num, by rw [HSC2.out]; exact hJ3, b2.trans hk3, Nat.le_trans s2 hk3.size⟩
            case measure => (first | (simp [intOf]; done) | (simp [intOf]; omega))
          · gi_wp2
            refine bodyPost_ret (results_none rfl _ _ _) rfl ?_
            exact ⟨⟨_, rfl⟩, .inr ⟨_, hJx3⟩⟩
      · have e7 : (x == 7) = false := by rw [beq_eq_false_iff_ne]; omega
        have e8 : (x == 8) = false := by rw [beq_eq_false_iff_ne]; omega
        obtain rfl : ic = false := by rw [hIC, e7, e8]; rfl
        have HSC2 : Hid (callsL code (k + 1) = callsL code k) := by show _ = _; rw [HSC.out]; rfl
        clear hY' X hIC HSC hx
        gi_wp2
        refine ⟨fun _ h => (by cases h), ?_⟩
        gi_wp2
        go_roundw
        case rel => exact ⟨k + 1, by omega, by go_num, by rw [HSC2.out]; exact hJ2, b2, s2⟩
        case measure => (first | (simp [intOf]; done) | (simp [intOf]; omega))
    · have hi : ¬ (k : Int) < (code.length : Int) := by omega
      obtain rfl : k = code.length := by omega
      gi_wp2
      go_end0
      exact ⟨⟨_, rfl⟩, .inl hJs⟩
theorem calls_stops (n Bn : Nat) (w0 : World) (A : Option Addr) (c : Nat) (code : List Or) (ocs : Nat → List Value) (hO : OcsOf w0 A code ocs) (hlen : code.length ≤ 6000) (w : World)
    (hw : Below w0.heap.size w0 w) (hBn : Bn < w.heap.size) (hB : w.cell? ⟨Bn, 8, none⟩ = some (.slice A code.length c)) :
    SeqStopsK Fence.wide n Try.prog 52 #[.pointer (some ⟨Bn, 0, none⟩)] (fun x : Fin code.length => #[Value.int .i64 (x.1 : Int), .agg (ocs x.1).toArray]) (Below w0.heap.size)
      (fun ys => ys = callsL code code.length) (fun _ => True) code.length w := fun l J Jx W hW hJ hJx hY h0 => by
  refine (calls1_in n l Bn w0 A c code ocs hO hlen J Jx W (hw.trans (hW.mono hw.size)) hJ hJx hY ((hW.cell (p := ⟨Bn, 8, none⟩) hBn).trans hB) h0).mono ?_
  rintro e W' ⟨he, h | ⟨pre, h⟩⟩
  · exact ⟨he, .inl ⟨_, rfl, h⟩⟩
  · exact ⟨he, .inr ⟨_, trivial, h⟩⟩
theorem calls_any (b : Bo) (cs : List Value) (w : World) (hr : RepB w b cs) : Calls Try.prog 25 #[.agg cs.toArray] w fun e w' => e = .returned (.func (.func 52) #[] #[.pointer (some ⟨w.heap.size, 0, none⟩)]) ∧ w' = w.alloc (.cells cs.toArray 28) := by
  obtain ⟨An, cn, Ap, cp, A, c, rfl, -, -, -, -⟩ := hr.nine
  clear hr
  go_enter Try.func25, Try.ntmps25
  go_wp2
  go_ret
  exact ⟨rfl, rfl⟩
end Go.Proofs.Ytkkjkbljgaipcaa
