/- The walk of the document's places: what is wrong. -/
import Derived.Test.YtkkjkbljgaipcaaAbiU
namespace Go.Proofs.Ytkkjkbljgaipcaa
open Go.RowKit
set_option linter.unusedVariables false
set_option linter.unusedSimpArgs false
set_option maxRecDepth 100000
set_option maxHeartbeats 6000000
theorem abiR_kind (T : Ty) (cs : List Value) (bs : List Ty) (Ab : Option Addr) (cb : Nat) (w : World) (hr : Rep w T cs) (h4 : T.k ≠ 4) : Calls Try.prog 29 #[.agg cs.toArray, .slice Ab bs.length cb] w (PlOut T bs w) := by
  obtain ⟨An, cn, Ap, cp, rfl, hN, hP⟩ := hr.five
  have he : abiE T bs = 3 := by unfold abiE; rw [if_pos (.inl h4)]
  have t1 : (T.k != 4) = true := by simpa using h4
  have HE := Lib.hid he
  clear he
  go_enter Try.func29, Try.ntmps29
  go_wp2
  exact bodyPost_ret (v := .tuple #[.agg zeroP, .int .i64 3]) (by simp [results, Try.results29, go_sem, zeroP]) rfl (PlOut.bad HE.out (by decide) (by (repeat (first | with_reducible assumption | with_reducible exact Below.refl _ _ | (refine Below.setCell ?_ (by first | omega | (simp; done) | (simp; omega)) _) | (refine Below.drewN_ ?_ _) | (refine Below.drew ?_) | (refine Below.alloc ?_ (by first | omega | (simp; done) | (simp; omega)) _)))))
theorem abiR_may (T : Ty) (cs : List Value) (bs : List Ty) (Ab : Option Addr) (cb : Nat) (w : World) (hr : Rep w T cs) (h4 : T.k = 4) (hmy : may T = false) : Calls Try.prog 29 #[.agg cs.toArray, .slice Ab bs.length cb] w (PlOut T bs w) := by
  have he : Hid (abiE T bs = 3) := by show _ = _; unfold abiE; rw [if_pos (.inr hmy)]
  have hr0 := hr
  obtain ⟨An, cn, Ap, cp, rfl, hN, hP⟩ := hr.five
  have hcap := hr.cap
  have hb0 : Below w.heap.size w ((w.alloc (.cells #[.int .i64 T.k, .string T.nm, .slice An T.ns.length cn, .slice Ap T.ps.length cp, .bool T.many] 25)).alloc (.cells zeroP 67)) := by (repeat (first | with_reducible assumption | with_reducible exact Below.refl _ _ | (refine Below.setCell ?_ (by first | omega | (simp; done) | (simp; omega)) _) | (refine Below.drewN_ ?_ _) | (refine Below.drew ?_) | (refine Below.alloc ?_ (by first | omega | (simp; done) | (simp; omega)) _)))
  have HR := Lib.hid (Rep.keep hb0 _ _ hr0)
  unfold zeroP at hb0 HR
  rw [h4] at hb0 HR ⊢
  have H4 := Lib.hid h4
  clear hr h4
  go_enter Try.func29, Try.ntmps29
  go_wp2_with fail
  refine (mayRef_any T _ _ HR.out).mono ?_
  rintro e w1 ⟨rfl, hb⟩
  rw [hmy]
  have b1 := hb0.trans (hb.mono hb0.size)
  have kr := (Blk.nxt1 w (.cells #[.int .i64 4, .string T.nm, .slice An T.ns.length cn, .slice Ap T.ps.length cp, .bool T.many] 25) 67 zeroP).below hb
  have kt := ((Blk.new_ w 25 #[.int .i64 4, .string T.nm, .slice An T.ns.length cn, .slice Ap T.ps.length cp, .bool T.many]).alloc (.cells zeroP 67)).below hb
  unfold zeroP at kr
  clear hb hb0 HR
  have f := fun i => kr.free i
  have d0 := kr.cell 0 _ rfl
  have d1 := kr.cell 1 _ rfl
  have d2 := kr.cell 2 _ rfl
  have d3 := kr.cell 3 _ rfl
  have d4 := kr.cell 4 _ rfl
  have d5 := kr.cell 5 _ rfl
  have d6 := kr.cell 6 _ rfl
  go_wp2
  have k2 := kr.set7 (.int .i64 0) (.int .i64 0) (.slice none 0 0) (.slice none 0 0) (.slice none 0 0) (.int .i64 0) (.int .i64 0)
  exact bodyPost_ret (results_places (by kernel_rfl) k2 rfl rfl) rfl (PlOut.bad he.out (by decide) (below_set7 b1 (by omega) _ _ _ _ _ _ _))
theorem abiR_range (T : Ty) (cs : List Value) (bs : List Ty) (Ab : Option Addr) (cb : Nat) (w : World) (hr : Rep w T cs) (h4 : T.k = 4) (hmy : may T = true) (hx : 6 < bs.length ∨ (0 < bs.length ∧ T.many = false)) : Calls Try.prog 29 #[.agg cs.toArray, .slice Ab bs.length cb] w (PlOut T bs w) := by
  have he : Hid (abiE T bs = 6) := by show _ = _; unfold abiE; rw [if_neg (by simp [h4, hmy]), if_pos hx]
  have hr0 := hr
  obtain ⟨An, cn, Ap, cp, rfl, hN, hP⟩ := hr.five
  have hcap := hr.cap
  have hb0 : Below w.heap.size w ((w.alloc (.cells #[.int .i64 T.k, .string T.nm, .slice An T.ns.length cn, .slice Ap T.ps.length cp, .bool T.many] 25)).alloc (.cells zeroP 67)) := by (repeat (first | with_reducible assumption | with_reducible exact Below.refl _ _ | (refine Below.setCell ?_ (by first | omega | (simp; done) | (simp; omega)) _) | (refine Below.drewN_ ?_ _) | (refine Below.drew ?_) | (refine Below.alloc ?_ (by first | omega | (simp; done) | (simp; omega)) _)))
  have HR := Lib.hid (Rep.keep hb0 _ _ hr0)
  unfold zeroP at hb0 HR
  rw [h4] at hb0 HR ⊢
  have H4 := Lib.hid h4
  clear hr h4
  go_enter Try.func29, Try.ntmps29
  go_wp2_with fail
  refine (mayRef_any T _ _ HR.out).mono ?_
  rintro e w1 ⟨rfl, hb⟩
  rw [hmy]
  have b1 := hb0.trans (hb.mono hb0.size)
  have kr := (Blk.nxt1 w (.cells #[.int .i64 4, .string T.nm, .slice An T.ns.length cn, .slice Ap T.ps.length cp, .bool T.many] 25) 67 zeroP).below hb
  have kt := ((Blk.new_ w 25 #[.int .i64 4, .string T.nm, .slice An T.ns.length cn, .slice Ap T.ps.length cp, .bool T.many]).alloc (.cells zeroP 67)).below hb
  unfold zeroP at kr
  clear hb hb0 HR
  have q4 := kt.cell 4 _ rfl
  by_cases h6 : 6 < bs.length
  · have h6' : (6 : Int) < (bs.length : Int) := by omega
    clear hx h6
    have f := fun i => kr.free i
    have d0 := kr.cell 0 _ rfl
    have d1 := kr.cell 1 _ rfl
    have d2 := kr.cell 2 _ rfl
    have d3 := kr.cell 3 _ rfl
    have d4 := kr.cell 4 _ rfl
    have d5 := kr.cell 5 _ rfl
    have d6 := kr.cell 6 _ rfl
    go_wp2
    have k2 := kr.set7 (.int .i64 0) (.int .i64 0) (.slice none 0 0) (.slice none 0 0) (.slice none 0 0) (.int .i64 0) (.int .i64 0)
    exact bodyPost_ret (results_places (by kernel_rfl) k2 rfl rfl) rfl (PlOut.bad he.out (by decide) (below_set7 b1 (by omega) _ _ _ _ _ _ _))
  · have h6' : ¬ (6 : Int) < (bs.length : Int) := by omega
    obtain ⟨hx1, hx2⟩ : 0 < bs.length ∧ T.many = false := by
      rcases hx with h | h
      · exact absurd h h6
      · exact h
    have h0' : (0 : Int) < (bs.length : Int) := by omega
    rw [hx2] at q4
    clear hx h6 hx2 hx1
    have f := fun i => kr.free i
    have d0 := kr.cell 0 _ rfl
    have d1 := kr.cell 1 _ rfl
    have d2 := kr.cell 2 _ rfl
    have d3 := kr.cell 3 _ rfl
    have d4 := kr.cell 4 _ rfl
    have d5 := kr.cell 5 _ rfl
    have d6 := kr.cell 6 _ rfl
    go_wp2
    have k2 := kr.set7 (.int .i64 0) (.int .i64 0) (.slice none 0 0) (.slice none 0 0) (.slice none 0 0) (.int .i64 0) (.int .i64 0)
    exact bodyPost_ret (results_places (by kernel_rfl) k2 rfl rfl) rfl (PlOut.bad he.out (by decide) (below_set7 b1 (by omega) _ _ _ _ _ _ _))
end Go.Proofs.Ytkkjkbljgaipcaa
