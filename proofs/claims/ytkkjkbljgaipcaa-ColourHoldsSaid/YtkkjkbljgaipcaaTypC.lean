/- How a type lies: sizes and places; the iterator over a struct's fields (types.laid) and types.size. -/
import Derived.Test.YtkkjkbljgaipcaaTypB
import Derived.RangeFuncNested
import Derived.RangeFuncBound
import Derived.RangeFuncCalls
import Derived.RangeFuncLeaves
import Derived.RangeFuncFrom
import Derived.Shelf.Abstract
import Derived.OwnWalkIn
import Derived.TacticsInMore
import Derived.LoopNIn
import Derived.LoopIn
namespace Go.Proofs.Ytkkjkbljgaipcaa
open Go.RowKit Go.Shelf
set_option linter.unusedVariables false
set_option linter.unusedSimpArgs false
set_option maxRecDepth 100000
attribute [local go_sem] Oper.semAt_some
/-- out of the fields' sizes (and whether each is even): where all ends, and where the k-th lies -/
def endZ (zs : List (Nat × Bool)) : Nat → Nat
  | 0 => 0
  | k + 1 => (let e := endZ zs k; if (zs.getD k (0, false)).2 then e + e % 2 else e) + (zs.getD k (0, false)).1
def plcZ (zs : List (Nat × Bool)) (k : Nat) : Nat := if (zs.getD k (0, false)).2 then endZ zs k + endZ zs k % 2 else endZ zs k
theorem endZ_succ (zs : List (Nat × Bool)) (k : Nat) : endZ zs (k + 1) = plcZ zs k + (zs.getD k (0, false)).1 := rfl
def sizeZ (zs : List (Nat × Bool)) : Nat × Bool :=
  let n := endZ zs zs.length
  let e := zs.any (·.2)
  (if e then n + n % 2 else n, e)
mutual
def sizeT : Ty → Nat × Bool
  | .mk k _ _ ps _ => if k = 2 then (2, true) else if k = 3 then sizeZ (sizeL ps) else (1, false)
def sizeL : List Ty → List (Nat × Bool)
  | [] => []
  | t :: ts => sizeT t :: sizeL ts
end
theorem sizeL_map : ∀ ts : List Ty, sizeL ts = ts.map sizeT
  | [] => by unfold sizeL; rfl
  | t :: ts => by unfold sizeL; rw [sizeL_map ts]; rfl
theorem sizeT_eq (T : Ty) : sizeT T = if T.k = 2 then (2, true) else if T.k = 3 then sizeZ (T.ps.map sizeT) else (1, false) := by
  cases T
  unfold sizeT
  rw [sizeL_map]
  rfl
theorem endZ_le (zs : List (Nat × Bool)) (m : Nat) (h : ∀ k, (zs.getD k (0, false)).1 ≤ m) : ∀ k, endZ zs k ≤ k * (m + 1)
  | 0 => Nat.zero_le _
  | k + 1 => by
    have h1 := endZ_le zs m h k
    have h2 := h k
    rw [endZ_succ]
    have : plcZ zs k ≤ endZ zs k + 1 := by unfold plcZ; split <;> omega
    rw [Nat.succ_mul]
    omega
theorem laid_any (a b c d e : Value) (w : World) : Calls Try.prog 91 #[.agg #[a, b, c, d, e]] w fun r w' => r = .returned (.func (.func 99) #[] #[.pointer (some ⟨w.heap.size, 0, none⟩)]) ∧ w' = w.alloc (.cells #[a, b, c, d, e] 25) := by
  go_enter Try.func91, Try.ntmps91
  go_wp2
  go_ret
  exact ⟨rfl, rfl⟩
def Sized (T : Ty) : Prop := ∀ (cs : List Value) (w : World), Rep w T cs → Calls Try.prog 71 #[.agg cs.toArray] w fun e w' => e = .returned (.tuple #[.int .i64 (sizeT T).1, .bool (sizeT T).2]) ∧ Below w.heap.size w w'
theorem grown_of {W W' : World} (h : Below W.heap.size W W') : W.grownBy W' none := ⟨h.os, h.tape, h.output, h.size, fun i hi _ => h.block i hi⟩
def Laid1 (J : Nat → World → Prop) (W : World) (n₀ : Nat) (ps : List Ty) (a i : Value) (wr : World) : Prop :=
  ∃ k : Nat, k ≤ ps.length ∧ i = .int .i64 k ∧ a = .int .i64 (endZ (ps.map sizeT) k) ∧ J k wr ∧ Below n₀ W wr ∧ W.heap.size ≤ wr.heap.size
theorem laid1_in (n l Bn : Nat) (w0 : World) (A : Option Addr) (c : Nat) (ps : List Ty) (hS : ∀ p ∈ ps, Sized p) (hm : ∀ p ∈ ps, (sizeT p).1 ≤ 12) (hl : ps.length ≤ 7) (J Jx : Nat → World → Prop) (W : World)
    (hw : Below w0.heap.size w0 W) (hJ : AbidesFrom W.heap.size J) (hJx : AbidesFrom W.heap.size Jx)
    (hY : ∀ (k : Nat) W1, J k W1 → k < ps.length → YieldAt Fence.wide (n - 1) Try.prog l #[.int .i64 (k : Int), .int .i64 (plcZ (ps.map sizeT) k : Int)] W1 fun e W' =>
      (e = .returned (.bool true) ∧ J (k + 1) W' ∧ Below w0.heap.size W1 W') ∨ (e = .returned (.bool false) ∧ Jx (k + 1) W'))
    (hB : W.cell? ⟨Bn, 3, none⟩ = some (.slice A ps.length c)) (hA : RepL w0 ps A) (h0 : J 0 W) :
    CallsIn Fence.wide n Try.prog 99 #[.func (.yield l) #[] #[], .pointer (some ⟨Bn, 0, none⟩)] W fun e W' => (∃ v, e = .returned v) ∧
      (J ps.length W' ∨ ∃ k, k ≤ ps.length ∧ Jx k W') := by
  refine callsIn_of_wp Try.func99 rfl trivial ?_ rfl
  simp only [Try.ntmps99, List.size_toArray, List.length_cons, List.length_nil, Nat.reduceAdd, Nat.reduceSub, Array.replicate_succ, Array.replicate_zero, List.push_toArray, List.append_toArray, List.nil_append, List.cons_append]
  gi_wp2
  gi_loopw [3, 11] (fun a i wr => Laid1 J W w0.heap.size ps a i wr) (fun _ i _ => ps.length - (intOf i).toNat)
  case atStart => exact ⟨0, Nat.zero_le _, rfl, rfl, h0, Below.refl _ _, Nat.le_refl _⟩
  case round =>
    obtain ⟨k, hk, rfl, rfl, hJs, hnx, hsz⟩ := hrel
    by_cases hlt : k < ps.length
    · have hb0 := hw.trans hnx
      obtain ⟨b, o, cs, rfl, hbl, hc, hrep0⟩ := RepL.at_ ps _ (RepL.keep hb0 ps _ hA) k hlt
      obtain ⟨b', o', -, hA', hb', -, -⟩ := RepL.at_ ps _ hA k hlt
      obtain ⟨rfl, rfl⟩ : b = b' ∧ o = o' := by simpa using hA'
      clear hA'
      have hrep := hrep0
      obtain ⟨An, cn, Ap, cp, rfl, h1, h2⟩ := hrep.five
      have c0 := hc 0 _ rfl
      have c1 := hc 1 _ rfl
      have c2 := hc 2 _ rfl
      have c3 := hc 3 _ rfl
      have c4 := hc 4 _ rfl
      rw [Nat.add_zero] at c0
      have hSk := hS _ (List.getElem_mem hlt)
      have hmk := hm _ (List.getElem_mem hlt)
      clear hc h1 h2
      have hi : (k : Int) < (ps.length : Int) := by omega
      have hz : (ps.map sizeT).getD k (0, false) = sizeT ps[k] := by simp [hlt]
      have hE : endZ (ps.map sizeT) k ≤ 91 := by
        have := endZ_le (ps.map sizeT) 12 (fun j => by
          by_cases hj : j < ps.length
          · simp [hj]
            exact hm _ (List.getElem_mem hj)
          · simp [hj]) k
        omega
      have hsucc := endZ_succ (ps.map sizeT) k
      have hplc : plcZ (ps.map sizeT) k = if (sizeT ps[k]).2 then endZ (ps.map sizeT) k + endZ (ps.map sizeT) k % 2 else endZ (ps.map sizeT) k := by unfold plcZ; rw [hz]
      rw [hz] at hsucc
      clear hz hS hm
      generalize hps : ps[k] = p at *
      gi_wp2
      refine ⟨trivial, fun h => (by cases h), ?_⟩
      refine (callsIn_wide.2 (hSk _ _ (Rep.keep ((Below.refl _ _).alloc (Nat.le_refl _) _) _ _ hrep))).mono ?_
      rintro e w2 ⟨rfl, hb2⟩
      have hJ2 := hJ _ _ _ none hJs (grown_of (((Below.refl wr.heap.size wr).alloc (Nat.le_refl _) _).trans (hb2.mono (by simp)))) (fun r e => by cases e)
      have hnx2 : Below w0.heap.size W w2 := hnx.trans (((Below.refl w0.heap.size wr).alloc (Nat.le_trans hw.size (by have := hnx.size; omega)) _).trans (hb2.mono (by have := hw.size; simp; omega)))
      have hsz2 : W.heap.size ≤ w2.heap.size := by have := hb2.size; simp at this; omega
      obtain ⟨fn, tmps, assign, body, hy, hR⟩ := hY k w2 hJ2 hlt
      have hk91 : (k : Int) < 7 := by omega
      clear hb2 hnx hsz hJs hrep0 hrep c0 c1 c2 c3 c4 hSk hb0
      rcases hzz : sizeT p with ⟨z, ev⟩
      rw [hzz] at hsucc hplc hmk
      generalize hEE : endZ (ps.map sizeT) k = E at *
      generalize hqq : plcZ (ps.map sizeT) k = q at *
      dsimp only at hsucc hplc hmk
      cases ev
      · have hq : q = E := by simpa using hplc
        subst hq
        clear hplc
        gi_wp2
        refine ⟨fun h => (by cases h), hR.mono ?_⟩
        rintro e W3 (⟨rfl, hJ3, hk3⟩ | ⟨rfl, hJx3⟩)
        · gi_wp2
          go_roundw
          case rel => exact ⟨k + 1, by omega, by go_num, by rw [hsucc]; go_num, hJ3, hnx2.trans hk3, Nat.le_trans hsz2 hk3.size⟩
          case measure => (first | (simp [intOf]; done) | (simp [intOf]; omega))
        · gi_wp2
          refine bodyPost_ret (results_none rfl _ _ _) rfl ?_
          exact ⟨⟨_, rfl⟩, .inr ⟨k + 1, by omega, hJx3⟩⟩
      · have hq : q = E + E % 2 := by simpa using hplc
        subst hq
        clear hplc
        have hcast : ((E + E % 2 : Nat) : Int) = (E : Int) + (E : Int) % 2 := by simp
        rw [hcast] at hy
        gi_wp2
        refine ⟨fun h => (by cases h), hR.mono ?_⟩
        rintro e W3 (⟨rfl, hJ3, hk3⟩ | ⟨rfl, hJx3⟩)
        · gi_wp2
          go_roundw
          case rel => exact ⟨k + 1, by omega, by go_num, by rw [hsucc]; go_num, hJ3, hnx2.trans hk3, Nat.le_trans hsz2 hk3.size⟩
          case measure => (first | (simp [intOf]; done) | (simp [intOf]; omega))
        · gi_wp2
          refine bodyPost_ret (results_none rfl _ _ _) rfl ?_
          exact ⟨⟨_, rfl⟩, .inr ⟨k + 1, by omega, hJx3⟩⟩
    · obtain rfl : k = ps.length := by omega
      gi_wp2
      go_end0
      exact ⟨⟨_, rfl⟩, .inl hJs⟩
end Go.Proofs.Ytkkjkbljgaipcaa
