/- The contract of the closure in moves.Row: is a place still asked for? -/
import Derived.Test.YtffhfcddlhdicaaMovF
namespace Go.Proofs.Ytffhfcddlhdicaa
open Go.RowKit
set_option linter.unusedVariables false
set_option linter.unusedSimpArgs false
set_option maxRecDepth 100000
attribute [local go_sem ↓] eq_loc ne_loc Go.wp_at_zero Go.wp_at_succ
def askedB (l : List (Pl × Pl)) (p : Pl) : Bool := l.any fun m => decide (m.1 = p)
def AskRel (l : List (Pl × Pl)) (p : Pl) (w : World) (i : Value) (wr : World) : Prop :=
  ∃ k : Nat, k ≤ l.length ∧ i = .int .i64 k ∧ askedB (l.take k) p = false ∧ Below w.heap.size w wr ∧ w.heap.size < wr.heap.size ∧ wr.cell? ⟨w.heap.size, 0, none⟩ = some (.bool p.s) ∧ wr.cell? ⟨w.heap.size, 1, none⟩ = some (.int .i64 p.n)
theorem asked_snoc (l : List (Pl × Pl)) (p : Pl) (k : Nat) (hk : k < l.length) : askedB (l.take (k + 1)) p = (askedB (l.take k) p || decide (l[k].1 = p)) := by
  rw [List.take_succ_eq_append_getElem hk]
  unfold askedB
  rw [List.any_append, List.any_cons, List.any_nil, Bool.or_false]
theorem asked_yes (l : List (Pl × Pl)) (p : Pl) (k : Nat) (hk : k < l.length) (h : l[k].1 = p) : askedB l p = true := by
  unfold askedB
  rw [List.any_eq_true]
  exact ⟨l[k], List.getElem_mem hk, by simpa using h⟩
theorem asked_any (A : Option Addr) (c B : Nat) (l : List (Pl × Pl)) (p : Pl) (w : World) (hr : Row w A (pcs l)) (hmx : l.length ≤ 1000000) (hB : B < w.heap.size) (hc : w.cell? ⟨B, 0, none⟩ = some (.slice A l.length c)) :
    Calls Try.prog 40 #[.agg #[.bool p.s, .int .i64 p.n], .pointer (some ⟨B, 0, none⟩)] w fun e w' => e = .returned (.bool (askedB l p)) ∧ Below w.heap.size w w' := by
  go_enter Try.func40, Try.ntmps40
  go_wp2
  go_loopw [8] (fun i wr => AskRel l p w i wr) (fun i _ => l.length - (intOf i).toNat)
  case atStart => exact ⟨0, Nat.zero_le _, rfl, rfl, (Below.refl _ _).alloc (Nat.le_refl _) _, by simp, by go_simp, by go_simp⟩
  case round =>
    obtain ⟨k, hk, rfl, hg, hb, hsz, p0, p1⟩ := hrel
    by_cases hlt : k < l.length
    · obtain ⟨b, o, rfl, hbl, c0, c1, c2, c3⟩ := hr.pair (k := k) (by omega)
      rw [← keep_cell hb hbl] at c0 c1 c2 c3
      have hbl2 : b < wr.heap.size := by omega
      have hkk : (k : Int) < (l.length : Int) := by omega
      have HG := Lib.hid (asked_snoc l p k hlt)
      have HY : Hid (l[k].1 = p → askedB l p = true) := asked_yes l p k hlt
      have Hg := Lib.hid hg
      clear hg
      generalize l[k] = h at *
      by_cases he : h.1 = p
      · have hq := leq_yes he
        have HY2 := Lib.hid (HY.out he)
        clear HY HG he
        go_wp2
        go_ret
        exact ⟨ret_bo HY2.out.symm, by (repeat (first | with_reducible assumption | with_reducible exact Below.refl _ _ | (refine Below.setCell ?_ (by first | omega | (simp; done) | (simp; omega)) _) | (refine Below.drewN_ ?_ _) | (refine Below.drew ?_) | (refine Below.alloc ?_ (by first | omega | (simp; done) | (simp; omega)) _)))⟩
      · have hq := leq_no he
        have HG2 : Hid (askedB (l.take (k + 1)) p = false) := by unfold Hid; rw [HG.out, Hg.out]; simpa using he
        clear HY HG he
        go_wp2
        go_roundw
        case rel => exact ⟨k + 1, by omega, by go_num, HG2.out, by (repeat (first | with_reducible assumption | with_reducible exact Below.refl _ _ | (refine Below.setCell ?_ (by first | omega | (simp; done) | (simp; omega)) _) | (refine Below.drewN_ ?_ _) | (refine Below.drew ?_) | (refine Below.alloc ?_ (by first | omega | (simp; done) | (simp; omega)) _))), by simp; omega, by go_simp, by go_simp⟩
        case measure => (first | (simp [intOf]; done) | (simp [intOf]; omega))
    · obtain rfl : k = l.length := by omega
      have Hg : Hid (askedB l p = false) := by unfold Hid; rw [← hg, List.take_length]
      clear hg
      go_wp2
      go_ret
      exact ⟨ret_bo Hg.out.symm, hb⟩
end Go.Proofs.Ytffhfcddlhdicaa
