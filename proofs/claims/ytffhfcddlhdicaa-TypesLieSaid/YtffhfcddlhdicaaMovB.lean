/- The contract of the reference's At. -/
import Derived.Test.YtffhfcddlhdicaaMovA
import Derived.Outline
namespace Go.Proofs.Ytffhfcddlhdicaa
open Go.RowKit
set_option linter.unusedVariables false
set_option linter.unusedSimpArgs false
attribute [local go_sem ↓] eq_loc ne_loc
def pc (p : Pl × Pl) : List Value := [.bool p.1.s, .int .i64 p.1.n, .bool p.2.s, .int .i64 p.2.n]
theorem pc_len (p : Pl × Pl) : (pc p).length = 4 := rfl
def pcs (l : List (Pl × Pl)) : List Value := l.flatMap pc
theorem Row.pair {w : World} {A : Option Addr} {l : List (Pl × Pl)} (h : Row w A (pcs l)) {k : Nat} (hk : k < l.length) :
    ∃ b o, A = some ⟨b, o, none⟩ ∧ b < w.heap.size ∧ w.cell? ⟨b, o + k * 4, none⟩ = some (.bool l[k].1.s) ∧ w.cell? ⟨b, o + k * 4 + 1, none⟩ = some (.int .i64 l[k].1.n) ∧
      w.cell? ⟨b, o + k * 4 + 2, none⟩ = some (.bool l[k].2.s) ∧ w.cell? ⟨b, o + k * 4 + 3, none⟩ = some (.int .i64 l[k].2.n) := by
  have hf := fun j hj => flat_at pc 4 pc_len l k j hj
  have hx : l[k]? = some l[k] := List.getElem?_eq_getElem hk
  rw [hx] at hf
  obtain ⟨b, o, hA, hlt, hc⟩ := h.at_ (by
    intro e
    have := flat_len pc 4 pc_len l
    unfold pcs at e
    rw [e] at this
    simp at this
    omega)
  refine ⟨b, o, hA, hlt, ?_, ?_, ?_, ?_⟩
  · exact hc (k * 4) _ (hf 0 (by omega))
  · exact hc (k * 4 + 1) _ (hf 1 (by omega))
  · exact hc (k * 4 + 2) _ (hf 2 (by omega))
  · exact hc (k * 4 + 3) _ (hf 3 (by omega))
def atL (hs : List (Pl × Pl)) (p : Pl) : Pl := match hs.reverse.find? (fun h => decide (h.1 = p)) with
  | some h => h.2
  | none => p
theorem atL_nil (p : Pl) : atL [] p = p := rfl
theorem atL_snoc (hs : List (Pl × Pl)) (h : Pl × Pl) (p : Pl) : atL (hs ++ [h]) p = if h.1 = p then h.2 else atL hs p := by
  unfold atL
  rw [List.reverse_append]
  simp only [List.reverse_cons, List.reverse_nil, List.nil_append, List.singleton_append, List.find?_cons]
  by_cases e : h.1 = p <;> simp [e]
theorem atL_take (hs : List (Pl × Pl)) (p : Pl) (k : Nat) (hk : k < hs.length) : atL (hs.take (k + 1)) p = if hs[k].1 = p then hs[k].2 else atL (hs.take k) p := by
  rw [List.take_succ_eq_append_getElem hk, atL_snoc]
def AtRel (hs : List (Pl × Pl)) (p : Pl) (w : World) (i : Value) (wr : World) : Prop :=
  ∃ k m : Nat, k ≤ hs.length ∧ i = .int .i64 ((k : Int) - 1) ∧ wr = w.drewN m ∧ atL hs p = atL (hs.take k) p
theorem at_any (A : Option Addr) (c : Nat) (hs : List (Pl × Pl)) (p : Pl) (w : World) (hr : Row w A (pcs hs)) (hn : hs.length ≤ 1000000) :
    Calls Try.prog 21 #[.slice A hs.length c, .agg #[.bool p.s, .int .i64 p.n]] w fun e w' => e = .returned (.agg #[.bool (atL hs p).s, .int .i64 (atL hs p).n]) ∧ Below w.heap.size w w' := by
  go_enter Try.func21, Try.ntmps21
  go_wp2
  go_loopw [5] (fun i wr => AtRel hs p ((w.alloc (.cells #[.bool p.s, .int .i64 p.n] 41)).alloc (.cells #[.bool false, .int .i64 0] 41)) i wr) (fun i _ => ((intOf i) + 1).toNat)
  case atStart => exact ⟨hs.length, 0, Nat.le_refl _, rfl, rfl, by simp⟩
  case round =>
    obtain ⟨k, m, hk, rfl, rfl, hat⟩ := hrel
    have HA := Lib.hid hat
    clear hat
    rcases k with _ | k
    · go_wp2
      exact bodyPost_ret (v := .agg #[.bool (atL hs p).s, .int .i64 (atL hs p).n]) (by rw [HA.out]; simp [results, Try.results21, go_sem, atL_nil]) rfl ⟨rfl, by (repeat (first | with_reducible assumption | with_reducible exact Below.refl _ _ | (refine Below.setCell ?_ (by first | omega | (simp; done) | (simp; omega)) _) | (refine Below.drewN_ ?_ _) | (refine Below.drew ?_) | (refine Below.alloc ?_ (by first | omega | (simp; done) | (simp; omega)) _)))⟩
    · rw [show (((k + 1 : Nat) : Int) - 1) = (k : Int) from by omega]
      obtain ⟨b, o, rfl, hlt, c0, c1, c2, c3⟩ := hr.pair (k := k) (by omega)
      have hk2 : (k : Int) < (hs.length : Int) := by omega
      have HT := Lib.hid (atL_take hs p k (by omega))
      generalize hs[k] = h at *
      by_cases he : h.1 = p
      · have hq := leq_yes he
        have HE := Lib.hid he
        clear he
        go_wp2_with fail
        go_quiet (fail)
        go_wp2
        exact bodyPost_ret (v := .agg #[.bool (atL hs p).s, .int .i64 (atL hs p).n]) (by rw [HA.out, HT.out, if_pos HE.out]; simp [results, Try.results21, go_sem]) rfl ⟨rfl, by (repeat (first | with_reducible assumption | with_reducible exact Below.refl _ _ | (refine Below.setCell ?_ (by first | omega | (simp; done) | (simp; omega)) _) | (refine Below.drewN_ ?_ _) | (refine Below.drew ?_) | (refine Below.alloc ?_ (by first | omega | (simp; done) | (simp; omega)) _)))⟩
      · have hq := leq_no he
        have HE := Lib.hid he
        clear he
        go_wp2_with fail
        go_quiet (fail)
        go_wp2
        go_roundw
        case rel => exact ⟨k, m + nq, by omega, rfl, rfl, by rw [HA.out, HT.out, if_neg HE.out]⟩
        case measure => (first | (simp [intOf]; done) | (simp [intOf]; omega))
end Go.Proofs.Ytffhfcddlhdicaa
