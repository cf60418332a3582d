/- The walk of types.Places. -/
import Derived.Test.YtkjlmllhhfacfaaTypF
import Derived.RangeFuncBox
import Derived.Maps.AppendAt
import Derived.Maps.OwnIn
namespace Go.Proofs.Ytkjlmllhhfacfaa
open Go.RowKit Go.Shelf
set_option linter.unusedVariables false
set_option linter.unusedSimpArgs false
set_option maxRecDepth 100000
set_option maxHeartbeats 2000000
attribute [local go_sem] Oper.semAt_some
theorem info_int : (Try.prog.info? 3).map (fun i => (i.zero, i.size, i.bytes)) = some (some (.int .i64 0), 1, 8) := by kernel_rfl
noncomputable def placesT (T : Ty) : List Nat := if T.k = 3 ∧ may T = true then (List.range T.ps.length).map (plcZ (T.ps.map sizeT)) else []
def ints (l : List Nat) : List Value := l.map fun n : Nat => .int .i64 (n : Int)
theorem places_any (T : Ty) (cs : List Value) (w : World) (hr : Rep w T cs) (hm : ML w) : Calls Try.prog 13 #[.agg cs.toArray] w fun e w' => (∃ A c, e = .returned (.slice A (placesT T).length c) ∧ Row w' A (ints (placesT T))) ∧ Below w.heap.size w w' := by
  have hr0 := hr
  obtain ⟨An, cn, Ap, cp, rfl, hN, hP⟩ := hr.five
  by_cases h3 : T.k = 3
  · rcases hmy : may T with _ | _
    · have hp : placesT T = [] := by simp [placesT, hmy]
      rw [hp]
      have HR := Lib.hid hr0
      rw [h3] at HR ⊢
      go_enter Try.func13, Try.ntmps13
      go_wp2_with fail
      refine (may_any T _ _ (Rep.keep (by (repeat (first | with_reducible assumption | with_reducible exact Below.refl _ _ | (refine Below.setCell ?_ (by first | omega | (simp; done) | (simp; omega)) _) | (refine Below.drewN_ ?_ _) | (refine Below.drew ?_) | (refine Below.alloc ?_ (by first | omega | (simp; done) | (simp; omega)) _)))) _ _ HR.out) (hm.keep (by (repeat (first | with_reducible assumption | with_reducible exact Below.refl _ _ | (refine Below.setCell ?_ (by first | omega | (simp; done) | (simp; omega)) _) | (refine Below.drewN_ ?_ _) | (refine Below.drew ?_) | (refine Below.alloc ?_ (by first | omega | (simp; done) | (simp; omega)) _)))))).mono ?_
      rintro e w1 ⟨rfl, hb⟩
      rw [hmy]
      have hb1 : Below w.heap.size w w1 := Below.trans (by (repeat (first | with_reducible assumption | with_reducible exact Below.refl _ _ | (refine Below.setCell ?_ (by first | omega | (simp; done) | (simp; omega)) _) | (refine Below.drewN_ ?_ _) | (refine Below.drew ?_) | (refine Below.alloc ?_ (by first | omega | (simp; done) | (simp; omega)) _)))) (hb.mono (by simp))
      clear hb
      go_wp2
      go_ret
      exact ⟨⟨none, 0, rfl, .inl (by simp [ints])⟩, hb1⟩
    · have hp : placesT T = (List.range T.ps.length).map (plcZ (T.ps.map sizeT)) := by unfold placesT; rw [if_pos ⟨h3, hmy⟩]
      rw [hp]
      have HR := Lib.hid hr0
      rw [h3] at HR ⊢
      refine (callsIn_wide (n := 10)).1 ?_
      refine callsIn_of_wp_marks Try.func13 rfl trivial ?_ rfl
      simp only [Try.ntmps13, List.size_toArray, List.length_cons, List.length_nil, Nat.reduceAdd, Nat.reduceSub, Array.replicate_succ, Array.replicate_zero, List.push_toArray, List.append_toArray, List.nil_append, List.cons_append]
      gi_wp2_with fail
      refine ⟨trivial, ?_⟩
      refine (callsIn_wide.2 (may_any T _ _ (Rep.keep (by (repeat (first | with_reducible assumption | with_reducible exact Below.refl _ _ | (refine Below.setCell ?_ (by first | omega | (simp; done) | (simp; omega)) _) | (refine Below.drewN_ ?_ _) | (refine Below.drew ?_) | (refine Below.alloc ?_ (by first | omega | (simp; done) | (simp; omega)) _)))) _ _ HR.out) (hm.keep (by (repeat (first | with_reducible assumption | with_reducible exact Below.refl _ _ | (refine Below.setCell ?_ (by first | omega | (simp; done) | (simp; omega)) _) | (refine Below.drewN_ ?_ _) | (refine Below.drew ?_) | (refine Below.alloc ?_ (by first | omega | (simp; done) | (simp; omega)) _))))))).mono ?_
      rintro e w1 ⟨rfl, hb⟩
      rw [hmy]
      have hb1 : Below w.heap.size w w1 := Below.trans (by (repeat (first | with_reducible assumption | with_reducible exact Below.refl _ _ | (refine Below.setCell ?_ (by first | omega | (simp; done) | (simp; omega)) _) | (refine Below.drewN_ ?_ _) | (refine Below.drew ?_) | (refine Below.alloc ?_ (by first | omega | (simp; done) | (simp; omega)) _)))) (hb.mono (by simp))
      have q0 : w1.cell? ⟨w.heap.size, 0, none⟩ = some (.int .i64 3) := (hb.cell (p := ⟨w.heap.size, 0, none⟩) (by simp)).trans (by go_simp)
      have q1 : w1.cell? ⟨w.heap.size, 1, none⟩ = some (.string T.nm) := (hb.cell (p := ⟨w.heap.size, 1, none⟩) (by simp)).trans (by go_simp)
      have q2 : w1.cell? ⟨w.heap.size, 2, none⟩ = some (.slice An T.ns.length cn) := (hb.cell (p := ⟨w.heap.size, 2, none⟩) (by simp)).trans (by go_simp)
      have q3 : w1.cell? ⟨w.heap.size, 3, none⟩ = some (.slice Ap T.ps.length cp) := (hb.cell (p := ⟨w.heap.size, 3, none⟩) (by simp)).trans (by go_simp)
      have q4 : w1.cell? ⟨w.heap.size, 4, none⟩ = some (.bool T.many) := (hb.cell (p := ⟨w.heap.size, 4, none⟩) (by simp)).trans (by go_simp)
      have hlt1 : w.heap.size < w1.heap.size := by have := hb.size; simp at this; omega
      clear hb
      gi_wp2_with (refine ⟨trivial, ?_⟩; gi_at_call 28; refine (callsIn_wide.2 (laid_any _ _ _ _ _ _)).mono ?_; rintro e w' ⟨rfl, rfl⟩)
      clear q0 q1 q2 q3 q4
      have hall : T.ps.length ≤ 7 ∧ (∀ p ∈ T.ps, Sized p) ∧ ∀ p ∈ T.ps, (sizeT p).1 ≤ 12 := by
        unfold may mayT at hmy
        rw [if_neg (by omega), if_pos h3] at hmy
        simp only [Bool.and_eq_true, decide_eq_true_eq, List.all_eq_true] at hmy
        obtain ⟨⟨⟨-, ⟨⟨_, hl⟩, hp⟩⟩, -⟩, -⟩ := hmy
        exact ⟨by omega, fun p h => (sized_of_may _ p (hp p h)).1, fun p h => (sized_of_may _ p (hp p h)).2⟩
      obtain ⟨hl, hS, hmm⟩ := hall
      obtain ⟨i0, hi, hz0, hz1, hz2⟩ := info_parts info_int
      have bO := Boxed.new w1 31 (.slice none 0 0)
      have hb0 : Below w.heap.size w ((w1.alloc (.cells #[.slice none 0 0] 31)).alloc (.cells #[Value.int .i64 3, Value.string T.nm, Value.slice An T.ns.length cn, Value.slice Ap T.ps.length cp, Value.bool T.many] 25)) := (hb1.alloc (Nat.le_of_lt hlt1) _).alloc (by simp; omega) _
      have x4 : ((w1.alloc (.cells #[.slice none 0 0] 31)).alloc (.cells #[Value.int .i64 3, Value.string T.nm, Value.slice An T.ns.length cn, Value.slice Ap T.ps.length cp, Value.bool T.many] 25)).cell? ⟨w1.heap.size + 1, 3, none⟩ = some (.slice Ap T.ps.length cp) := by go_simp
      refine wpIn_rangeFunc_ownG rfl (by omega) (gf := 43) (lb := #[.pointer (some ⟨w1.heap.size + 1, 0, none⟩)]) rfl trivial (enters_of Try.func43 (by kernel_rfl) rfl)
        (laid_stops 9 (w1.heap.size + 1) w Ap cp T.ps hS hmm hl _ hb0 (by simp) x4 hP) belowK_t (belowK_b (by simp; omega)) (Below.refl _ _) (fun _ => rfl)
        (fun pre W => (∃ v, Boxed W w1.heap.size 31 v ∧ W.ownsRow w.heap.size 3 1 v pre.length (pre.map fun x => Value.int .i64 (plcZ (T.ps.map sizeT) x.1 : Int)) ∧ True) ∧ Below w.heap.size w W)
        (fun _ _ _ => False)
        (OwnFrom.and (Own.from (holdsRow_own w.heap.size w1.heap.size 31 3 1 (fun pre : List (Fin T.ps.length) => pre.length) (fun pre : List (Fin T.ps.length) => pre.map fun x => Value.int .i64 (plcZ (T.ps.map sizeT) x.1 : Int)) (fun pre v => True)) _) (ownFrom_below (Nat.le_refl _) (by simp; omega)))
        (fun _ _ _ _ _ hs _ _ => hs)
        ⟨⟨_, bO.alloc _, World.ownsRow_nil _ _ _ _, trivial⟩, hb0⟩
        (fun x => { tmps := #[.agg #[Value.int .i64 3, Value.string T.nm, Value.slice An T.ns.length cn, Value.slice Ap T.ps.length cp, Value.bool T.many], .pointer (some ⟨w.heap.size, 0, none⟩), .slice none 0 0, .pointer (some ⟨w1.heap.size, 0, none⟩), undef, .int .i64 (plcZ (T.ps.map sizeT) x.1 : Int),
          .pointer (some ⟨w.heap.size, 0, none⟩), .int .i64 3, .bool false, .bool false, .agg #[Value.int .i64 3, Value.string T.nm, Value.slice An T.ns.length cn, Value.slice Ap T.ps.length cp, Value.bool T.many], .bool true, .bool false, .bool false, .agg #[Value.int .i64 3, Value.string T.nm, Value.slice An T.ns.length cn, Value.slice Ap T.ps.length cp, Value.bool T.many], .func (.func 43) #[] #[.pointer (some ⟨w1.heap.size + 1, 0, none⟩)], .int .i64 (x.1 : Int), .int .i64 (plcZ (T.ps.map sizeT) x.1 : Int),
          undef, undef, undef, undef, undef], defers := [] }) ?assign ?body ?done ?stop
      case assign =>
        intro l x W K hK
        gi_wp2
        exact hK
      case body =>
        rintro l pre x W ⟨⟨v, hv, hrow, -⟩, hB⟩ hlt
        have hc := hv.cell
        generalize hq : plcZ (T.ps.map sizeT) x.1 = q at *
        gi_wp2_with (gi_at_builtin; refine wpListIn_append_own _ rfl _ _ 31 rfl w.heap.size 3 i0 (.int .i64 0) 1 8 Try.underlying31 hi hz0 hz1 hz2 rfl (by decide) _ _ _ rfl (hrow.alloc _) ⟨W.heap.size, 0, none⟩ 1 1 [.int .i64 (q : Int)] rfl rfl (cell_one_new _ _ _) (by simp [Value.oneCell']) (by unfold maxLen; omega) (by omega) (by have := hB.size; simp; omega) ?_; intro v' w2 hown' hgrow _; obtain ⟨g', cap', rfl⟩ := ownsRow_succ hown'; obtain ⟨hv1, hv2, hr2, hk2, hb2⟩ := hv.appended (by decide) hrow hB.size (by omega) hown' hgrow; have hc1 := hv1.cell; have hf1 := hv1.frozen)
        exact ⟨hk2.from _, hb2, ⟨_, hv2, by simpa [hq] using hr2, trivial⟩, hB.trans hb2⟩
      case done =>
        rintro D ys W hD rfl ⟨⟨v, hv, hrow, -⟩, hB⟩ hK
        have hc := hv.cell
        gi_wp2
        refine ⟨by simp, .inl ⟨_, _, rfl, run_takeDeferred hK, ?_⟩⟩
        obtain ⟨A, c, rfl, hR⟩ := Row.of_own (ownsRow_putObj hrow _ hK rfl)
        have e1 : ((List.finRange T.ps.length).map fun x => Value.int .i64 (plcZ (T.ps.map sizeT) x.1 : Int)) = ints ((List.range T.ps.length).map (plcZ (T.ps.map sizeT))) := by
          apply List.ext_getElem
          · simp [ints]
          · intro i h1 h2
            simp [ints]
        rw [e1] at hR
        exact ⟨_, results_tmp rfl _ _ _, ⟨A, c, by simp, hR⟩, hB.trans (belowK_b (w := w) (Nat.le_refl _) W D _ _ (by simp at hD; omega) hK rfl rfl)⟩
      case stop =>
        rintro D c pre W _ _ h _
        exact h.elim
  · have hp : placesT T = [] := by simp [placesT, h3]
    have e3 : (T.k != 3) = true := by simpa using h3
    rw [hp]
    go_enter Try.func13, Try.ntmps13
    go_wp2
    go_ret
    exact ⟨⟨none, 0, rfl, .inl (by simp [ints])⟩, by (repeat (first | with_reducible assumption | with_reducible exact Below.refl _ _ | (refine Below.setCell ?_ (by first | omega | (simp; done) | (simp; omega)) _) | (refine Below.drewN_ ?_ _) | (refine Below.drew ?_) | (refine Below.alloc ?_ (by first | omega | (simp; done) | (simp; omega)) _)))⟩
end Go.Proofs.Ytkjlmllhhfacfaa
