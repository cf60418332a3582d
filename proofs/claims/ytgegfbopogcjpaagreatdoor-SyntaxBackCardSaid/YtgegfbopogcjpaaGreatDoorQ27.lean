/- The law SyntaxBack. -/
import Derived.Test.YtgegfbopogcjpaaGreatDoorQ08
import Derived.Test.YtgegfbopogcjpaaGreatDoorQ22
import Derived.Test.YtgegfbopogcjpaaGreatDoorQ25
import Derived.Test.YtgegfbopogcjpaaGreatDoorQ26
namespace Go.Proofs.YtgegfbopogcjpaaGreatDoor
open Go.RowKit
set_option linter.unusedVariables false
set_option linter.unusedSimpArgs false
set_option maxRecDepth 100000
set_option maxHeartbeats 1000000
theorem print_bad {n : Nd} (h : printE n ≠ 0) : printT n = ⟨#[]⟩ := by
 unfold printT
 rw [if_neg]
 rintro ⟨h1, h2, h3, h4⟩
 apply h
 unfold printE
 rw [if_neg (by rw [h1]; simp), if_neg (fun hn => hn ⟨h2, h3⟩), if_neg (by omega)]
theorem syntaxBack_any (n : Nd) (cs : List Value) (w : World) (hr : RepN w n cs) (hE : Env w) (hX : ER w) : Calls Tryz.prog 4 #[.agg cs.toArray] w fun e w' => e = .returned (.bool true) ∧ Below w.heap.size w w' := by
 have PA := Lib.hid (fun (W : World) (h : RepN W n cs) (h2 : Env W) => print_any n cs W h h2)
 obtain ⟨A, c, rfl, -⟩ := hr.four
 have hb0 : Below w.heap.size w (w.alloc (.cells #[.int .i64 n.k, .string n.t, .int .i64 n.num, .slice A n.kids.length c] 24)) := by (repeat (first | with_reducible assumption | with_reducible exact Below.refl _ _ | (refine Below.setCell ?_ (by first | omega | (simp; done) | (simp; omega)) _) | (refine Below.drewN_ ?_ _) | (refine Below.drew ?_) | (refine Below.alloc ?_ (by first | omega | (simp; done) | (simp; omega)) _)))
 have HB0 := Lib.hid hb0
 have HK := Lib.hid (Blk.new_ w 24 #[.int .i64 n.k, .string n.t, .int .i64 n.num, .slice A n.kids.length c])
 have HREP := Lib.hid (RepN.keep hb0 _ _ hr)
 have HE0 := Lib.hid (hE.keep hb0)
 have HX0 := Lib.hid (hX.keep hb0)
 clear hr hb0 hE hX
 unfold PrintOut at PA
 by_cases hz : printE n = 0
 ·have PB := Lib.hid (fun (W : World) (h1 : ML W) (h2 : ER W) => parse_any decl_all (printT n) W h1 h2)
  unfold PaOut PaO at PB
  rw [parse_print hz] at PB
  rw [hz] at PA
  simp only at PB
  clear hz
  generalize printT n = PT at *
  go_enter Tryz.func4, Tryz.ntmps4
  go_wp2_with fail
  refine (PA.out _ HREP.out HE0.out).mono ?_
  rintro e w1 ⟨rfl, hb1⟩
  have B1 := Lib.hid (below_trans HB0.out (Nat.le_refl _) hb1)
  have K1 := Lib.hid (HK.out.below hb1)
  have HR1 := Lib.hid (RepN.keep hb1 _ _ HREP.out)
  have HE1 := Lib.hid (HE0.out.keep hb1)
  have HX1 := Lib.hid (HX0.out.keep hb1)
  clear hb1 HK HREP HE0 HX0 HB0
  go_wp2_with fail
  refine (PB.out _ HE1.out.ml HX1.out).mono ?_
  rintro e w2 ⟨A2, c2, rfl, hr2, hb2⟩
  replace B1 := Lib.hid (below_trans B1.out (Nat.le_refl _) hb2)
  replace K1 := Lib.hid (K1.out.below hb2)
  replace HR1 := Lib.hid (RepN.keep hb2 _ _ HR1.out)
  have HR2 := Lib.hid hr2
  clear hr2 hb2 HE1 HX1
  go_upto_region 5 with (fail)
  have K3 := Lib.hid ((Blk.new_ w2 24 #[.int .i64 n.k, .string n.t, .int .i64 n.num, .slice A2 n.kids.length c2]).alloc (.cells #[.int .i64 0, .int .i64 ((0 : Nat) : Int)] 27))
  have K4 : Hid (Blk ((w2.alloc (.cells #[.int .i64 n.k, .string n.t, .int .i64 n.num, .slice A2 n.kids.length c2] 24)).alloc (.cells #[.int .i64 0, .int .i64 ((0 : Nat) : Int)] 27)) (w2.heap.size + 1) 27 #[.int .i64 0, .int .i64 ((0 : Nat) : Int)]) := by
   have := Blk.new_ (w2.alloc (.cells #[.int .i64 n.k, .string n.t, .int .i64 n.num, .slice A2 n.kids.length c2] 24)) 27 #[.int .i64 0, .int .i64 ((0 : Nat) : Int)]
   rwa [World.size_alloc] at this
  have hb3 : Below w2.heap.size w2 ((w2.alloc (.cells #[.int .i64 n.k, .string n.t, .int .i64 n.num, .slice A2 n.kids.length c2] 24)).alloc (.cells #[.int .i64 0, .int .i64 ((0 : Nat) : Int)] 27)) := ((Below.refl _ _).alloc (Nat.le_refl _) _).alloc (by simp) _
  replace HR1 := Lib.hid (RepN.keep hb3 _ _ HR1.out)
  replace HR2 := Lib.hid (RepN.keep hb3 _ _ HR2.out)
  replace B1 := Lib.hid (below_trans B1.out (Nat.le_refl _) hb3)
  replace K1 := Lib.hid (K1.out.below hb3)
  clear hb3
  generalize (w2.alloc (.cells #[.int .i64 n.k, .string n.t, .int .i64 n.num, .slice A2 n.kids.length c2] 24)).alloc (.cells #[.int .i64 0, .int .i64 ((0 : Nat) : Int)] 27) = w4 at *
  have a0 := K1.out.cell 0 _ rfl
  have a1 := K1.out.cell 1 _ rfl
  have a2 := K1.out.cell 2 _ rfl
  have a3 := K1.out.cell 3 _ rfl
  have c0 := K3.out.cell 0 _ rfl
  have c1 := K3.out.cell 1 _ rfl
  have c2 := K3.out.cell 2 _ rfl
  have c3 := K3.out.cell 3 _ rfl
  have d0 := K4.out.cell 0 _ rfl
  have d1 := K4.out.cell 1 _ rfl
  go_wp2_with fail
  refine (same_any n _ _ w4 HR1.out HR2.out).mono ?_
  rintro e w5 ⟨rfl, hb5⟩
  replace B1 := Lib.hid (below_trans B1.out (Nat.le_refl _) hb5)
  clear hb5 a0 a1 a2 a3 c0 c1 c2 c3 d0 d1
  go_wp2_with fail
  go_ret
  exact ⟨rfl, B1.out⟩
 ·have hpt := print_bad hz
  rw [hpt] at PA
  have hd : (printE n == 0) = false := by simpa using hz
  clear hpt
  generalize printE n = PE at *
  go_enter Tryz.func4, Tryz.ntmps4
  go_wp2_with fail
  refine (PA.out _ HREP.out HE0.out).mono ?_
  rintro e w1 ⟨rfl, hb1⟩
  have B1 := Lib.hid (below_trans HB0.out (Nat.le_refl _) hb1)
  clear hb1
  go_wp2_with fail
  go_ret
  exact ⟨rfl, B1.out⟩
end Go.Proofs.YtgegfbopogcjpaaGreatDoor
