/- The law SyntaxPrints. -/
import Derived.Test.YtgegfbopogcjpaaDoorShwP
import Derived.Test.YtgegfbopogcjpaaDoorSynS
namespace Go.Proofs.YtgegfbopogcjpaaDoor
open Go.RowKit
set_option linter.unusedVariables false
set_option linter.unusedSimpArgs false
set_option maxRecDepth 100000
set_option maxHeartbeats 1000000
theorem syntaxPrints_any (n : Nd) (cs : List Value) (w : World) (hr : RepN w n cs) (hE : Env w) : Calls Tryd.prog 3 #[.agg cs.toArray] w fun e w' => e = .returned (.bool true) ∧ Below w.heap.size w w' := by
  have PA := Lib.hid (fun (W : World) (h : RepN W n cs) (h2 : Env W) => print_any n cs W h h2)
  have PR := Lib.hid (fun (W : World) (h : RepN W n cs) => printR_any n cs W h)
  obtain ⟨A, c, rfl, -⟩ := hr.four
  have hb0 : Below w.heap.size w (w.alloc (.cells #[.int .i64 n.k, .string n.t, .int .i64 n.num, .slice A n.kids.length c] 24)) := by (repeat (first | with_reducible assumption | with_reducible exact Below.refl _ _ | (refine Below.setCell ?_ (by first | omega | (simp; done) | (simp; omega)) _) | (refine Below.drewN_ ?_ _) | (refine Below.drew ?_) | (refine Below.alloc ?_ (by first | omega | (simp; done) | (simp; omega)) _)))
  have HB0 := Lib.hid hb0
  have HK := Lib.hid (Blk.new_ w 24 #[.int .i64 n.k, .string n.t, .int .i64 n.num, .slice A n.kids.length c])
  have HREP := Lib.hid (RepN.keep hb0 _ _ hr)
  have HE0 := Lib.hid (hE.keep hb0)
  clear hr hb0 hE
  unfold PrintOut at PA
  unfold PrintR at PR
  generalize printT n = PT at *
  generalize printE n = PE at *
  go_enter Tryd.func3, Tryd.ntmps3
  go_wp2_with fail
  refine (PA.out _ HREP.out HE0.out).mono ?_
  rintro e w1 ⟨rfl, hb1⟩
  have B1 := Lib.hid (below_trans HB0.out (Nat.le_refl _) hb1)
  have K1 := HK.out.below hb1
  have HREP1 := Lib.hid (RepN.keep hb1 _ _ HREP.out)
  clear hb1
  have q0 := K1.cell 0 _ rfl
  have q1 := K1.cell 1 _ rfl
  have q2 := K1.cell 2 _ rfl
  have q3 := K1.cell 3 _ rfl
  clear K1
  go_wp2_with fail
  refine (PR.out _ HREP1.out).mono ?_
  rintro e w2 ⟨rfl, hb2⟩
  have B2 := Lib.hid (below_trans B1.out (Nat.le_refl _) hb2)
  clear hb2 q0 q1 q2 q3
  go_wp2_with fail
  go_ret
  exact ⟨rfl, B2.out⟩
end Go.Proofs.YtgegfbopogcjpaaDoor
