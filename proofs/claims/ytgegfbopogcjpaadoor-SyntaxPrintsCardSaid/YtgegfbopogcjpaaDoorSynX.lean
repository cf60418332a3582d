/- What a kid is to be: ref6.wants. -/
import Derived.Test.YtgegfbopogcjpaaDoorSynD
import Derived.Test.YtgegfbopogcjpaaDoorOpenN
import Derived.WalkLawsBesides
import Derived.Lib.Hide
import Derived.IntWalk
namespace Go.Proofs.YtgegfbopogcjpaaDoor
open Go.RowKit
set_option linter.unusedVariables false
set_option linter.unusedSimpArgs false
set_option maxRecDepth 100000
set_option maxHeartbeats 1000000
def WaOut (k : Int) (i len : Nat) (w : World) (e : Ending) (w' : World) : Prop := e = .returned (.tuple #[.int .i64 (wantC k i len).1, .int .i64 (wantC k i len).2]) ∧ Below w.heap.size w w'
theorem wants_1 (n : Nd) (A : Option Addr) (c i : Nat) (w : World) (hk : Hid (n.k = 1)) (hi : i < n.kids.length) (hl : n.kids.length ≤ 9223372036854775807) :
    Calls Tryd.prog 32 #[.agg #[.int .i64 n.k, .string n.t, .int .i64 n.num, .slice A n.kids.length c], .int .i64 (i : Int)] w (WaOut n.k i n.kids.length w) := by
  have hB : Below w.heap.size w (w.alloc (.cells #[.int .i64 n.k, .string n.t, .int .i64 n.num, .slice A n.kids.length c] 24)) := by (repeat (first | with_reducible assumption | with_reducible exact Below.refl _ _ | (refine Below.setCell ?_ (by first | omega | (simp; done) | (simp; omega)) _) | (refine Below.drewN_ ?_ _) | (refine Below.drew ?_) | (refine Below.alloc ?_ (by first | omega | (simp; done) | (simp; omega)) _)))
  have HB := Lib.hid hB
  clear hB
  have HV : Hid (wantC n.k i n.kids.length = (1, 0)) := by
    show _ = _
    rw [hk.out]
    unfold wantC
    simp only [Int.reduceEq, if_false, if_true, or_false, or_true, false_or, true_or]
    skip
  have b1 : (n.k == 1) = true := by rw [hk.out]; rfl
  have b2 : (n.k == 2) = false := by rw [hk.out]; rfl
  have b3 : (n.k == 3) = false := by rw [hk.out]; rfl
  have b5 : (n.k == 5) = false := by rw [hk.out]; rfl
  have b8 : (n.k == 8) = false := by rw [hk.out]; rfl
  have b12 : (n.k == 12) = false := by rw [hk.out]; rfl
  have b4 : (n.k == 4) = false := by rw [hk.out]; rfl
  have b6 : (n.k == 6) = false := by rw [hk.out]; rfl
  have b7 : (n.k == 7) = false := by rw [hk.out]; rfl
  have b13 : (n.k == 13) = false := by rw [hk.out]; rfl
  have b14 : (n.k == 14) = false := by rw [hk.out]; rfl
  have b16 : (n.k == 16) = false := by rw [hk.out]; rfl
  have b17 : (n.k == 17) = false := by rw [hk.out]; rfl
  go_enter Tryd.func32, Tryd.ntmps32
  go_wp2
  go_ret2
  exact ⟨by rw [HV.out]; rfl, HB.out⟩
theorem wants_2 (n : Nd) (A : Option Addr) (c i : Nat) (w : World) (hk : Hid (n.k = 2)) (hi : i < n.kids.length) (hl : n.kids.length ≤ 9223372036854775807) :
    Calls Tryd.prog 32 #[.agg #[.int .i64 n.k, .string n.t, .int .i64 n.num, .slice A n.kids.length c], .int .i64 (i : Int)] w (WaOut n.k i n.kids.length w) := by
  have hB : Below w.heap.size w (w.alloc (.cells #[.int .i64 n.k, .string n.t, .int .i64 n.num, .slice A n.kids.length c] 24)) := by (repeat (first | with_reducible assumption | with_reducible exact Below.refl _ _ | (refine Below.setCell ?_ (by first | omega | (simp; done) | (simp; omega)) _) | (refine Below.drewN_ ?_ _) | (refine Below.drew ?_) | (refine Below.alloc ?_ (by first | omega | (simp; done) | (simp; omega)) _)))
  have HB := Lib.hid hB
  clear hB
  have HV : Hid (wantC n.k i n.kids.length = (5, 3)) := by
    show _ = _
    rw [hk.out]
    unfold wantC
    simp only [Int.reduceEq, if_false, if_true, or_false, or_true, false_or, true_or]
    skip
  have b1 : (n.k == 1) = false := by rw [hk.out]; rfl
  have b2 : (n.k == 2) = true := by rw [hk.out]; rfl
  have b3 : (n.k == 3) = false := by rw [hk.out]; rfl
  have b5 : (n.k == 5) = false := by rw [hk.out]; rfl
  have b8 : (n.k == 8) = false := by rw [hk.out]; rfl
  have b12 : (n.k == 12) = false := by rw [hk.out]; rfl
  have b4 : (n.k == 4) = false := by rw [hk.out]; rfl
  have b6 : (n.k == 6) = false := by rw [hk.out]; rfl
  have b7 : (n.k == 7) = false := by rw [hk.out]; rfl
  have b13 : (n.k == 13) = false := by rw [hk.out]; rfl
  have b14 : (n.k == 14) = false := by rw [hk.out]; rfl
  have b16 : (n.k == 16) = false := by rw [hk.out]; rfl
  have b17 : (n.k == 17) = false := by rw [hk.out]; rfl
  go_enter Tryd.func32, Tryd.ntmps32
  go_wp2
  go_ret2
  exact ⟨by rw [HV.out]; rfl, HB.out⟩
theorem wants_3 (n : Nd) (A : Option Addr) (c i : Nat) (w : World) (hk : Hid (n.k = 3)) (hi : i < n.kids.length) (hl : n.kids.length ≤ 9223372036854775807) :
    Calls Tryd.prog 32 #[.agg #[.int .i64 n.k, .string n.t, .int .i64 n.num, .slice A n.kids.length c], .int .i64 (i : Int)] w (WaOut n.k i n.kids.length w) := by
  have hB : Below w.heap.size w (w.alloc (.cells #[.int .i64 n.k, .string n.t, .int .i64 n.num, .slice A n.kids.length c] 24)) := by (repeat (first | with_reducible assumption | with_reducible exact Below.refl _ _ | (refine Below.setCell ?_ (by first | omega | (simp; done) | (simp; omega)) _) | (refine Below.drewN_ ?_ _) | (refine Below.drew ?_) | (refine Below.alloc ?_ (by first | omega | (simp; done) | (simp; omega)) _)))
  have HB := Lib.hid hB
  clear hB
  have HV : Hid (wantC n.k i n.kids.length = (2, 0)) := by
    show _ = _
    rw [hk.out]
    unfold wantC
    simp only [Int.reduceEq, if_false, if_true, or_false, or_true, false_or, true_or]
    skip
  have b1 : (n.k == 1) = false := by rw [hk.out]; rfl
  have b2 : (n.k == 2) = false := by rw [hk.out]; rfl
  have b3 : (n.k == 3) = true := by rw [hk.out]; rfl
  have b5 : (n.k == 5) = false := by rw [hk.out]; rfl
  have b8 : (n.k == 8) = false := by rw [hk.out]; rfl
  have b12 : (n.k == 12) = false := by rw [hk.out]; rfl
  have b4 : (n.k == 4) = false := by rw [hk.out]; rfl
  have b6 : (n.k == 6) = false := by rw [hk.out]; rfl
  have b7 : (n.k == 7) = false := by rw [hk.out]; rfl
  have b13 : (n.k == 13) = false := by rw [hk.out]; rfl
  have b14 : (n.k == 14) = false := by rw [hk.out]; rfl
  have b16 : (n.k == 16) = false := by rw [hk.out]; rfl
  have b17 : (n.k == 17) = false := by rw [hk.out]; rfl
  go_enter Tryd.func32, Tryd.ntmps32
  go_wp2
  go_ret2
  exact ⟨by rw [HV.out]; rfl, HB.out⟩
theorem wants_5 (n : Nd) (A : Option Addr) (c i : Nat) (w : World) (hk : Hid (n.k = 5)) (hi : i < n.kids.length) (hl : n.kids.length ≤ 9223372036854775807) :
    Calls Tryd.prog 32 #[.agg #[.int .i64 n.k, .string n.t, .int .i64 n.num, .slice A n.kids.length c], .int .i64 (i : Int)] w (WaOut n.k i n.kids.length w) := by
  have hB : Below w.heap.size w (w.alloc (.cells #[.int .i64 n.k, .string n.t, .int .i64 n.num, .slice A n.kids.length c] 24)) := by (repeat (first | with_reducible assumption | with_reducible exact Below.refl _ _ | (refine Below.setCell ?_ (by first | omega | (simp; done) | (simp; omega)) _) | (refine Below.drewN_ ?_ _) | (refine Below.drew ?_) | (refine Below.alloc ?_ (by first | omega | (simp; done) | (simp; omega)) _)))
  have HB := Lib.hid hB
  clear hB
  have HV : Hid (wantC n.k i n.kids.length = (2, 0)) := by
    show _ = _
    rw [hk.out]
    unfold wantC
    simp only [Int.reduceEq, if_false, if_true, or_false, or_true, false_or, true_or]
    skip
  have b1 : (n.k == 1) = false := by rw [hk.out]; rfl
  have b2 : (n.k == 2) = false := by rw [hk.out]; rfl
  have b3 : (n.k == 3) = false := by rw [hk.out]; rfl
  have b5 : (n.k == 5) = true := by rw [hk.out]; rfl
  have b8 : (n.k == 8) = false := by rw [hk.out]; rfl
  have b12 : (n.k == 12) = false := by rw [hk.out]; rfl
  have b4 : (n.k == 4) = false := by rw [hk.out]; rfl
  have b6 : (n.k == 6) = false := by rw [hk.out]; rfl
  have b7 : (n.k == 7) = false := by rw [hk.out]; rfl
  have b13 : (n.k == 13) = false := by rw [hk.out]; rfl
  have b14 : (n.k == 14) = false := by rw [hk.out]; rfl
  have b16 : (n.k == 16) = false := by rw [hk.out]; rfl
  have b17 : (n.k == 17) = false := by rw [hk.out]; rfl
  go_enter Tryd.func32, Tryd.ntmps32
  go_wp2
  go_ret2
  exact ⟨by rw [HV.out]; rfl, HB.out⟩
theorem wants_8 (n : Nd) (A : Option Addr) (c i : Nat) (w : World) (hk : Hid (n.k = 8)) (hi : i < n.kids.length) (hl : n.kids.length ≤ 9223372036854775807) :
    Calls Tryd.prog 32 #[.agg #[.int .i64 n.k, .string n.t, .int .i64 n.num, .slice A n.kids.length c], .int .i64 (i : Int)] w (WaOut n.k i n.kids.length w) := by
  have hB : Below w.heap.size w (w.alloc (.cells #[.int .i64 n.k, .string n.t, .int .i64 n.num, .slice A n.kids.length c] 24)) := by (repeat (first | with_reducible assumption | with_reducible exact Below.refl _ _ | (refine Below.setCell ?_ (by first | omega | (simp; done) | (simp; omega)) _) | (refine Below.drewN_ ?_ _) | (refine Below.drew ?_) | (refine Below.alloc ?_ (by first | omega | (simp; done) | (simp; omega)) _)))
  have HB := Lib.hid hB
  clear hB
  have HV : Hid (wantC n.k i n.kids.length = (2, 0)) := by
    show _ = _
    rw [hk.out]
    unfold wantC
    simp only [Int.reduceEq, if_false, if_true, or_false, or_true, false_or, true_or]
    skip
  have b1 : (n.k == 1) = false := by rw [hk.out]; rfl
  have b2 : (n.k == 2) = false := by rw [hk.out]; rfl
  have b3 : (n.k == 3) = false := by rw [hk.out]; rfl
  have b5 : (n.k == 5) = false := by rw [hk.out]; rfl
  have b8 : (n.k == 8) = true := by rw [hk.out]; rfl
  have b12 : (n.k == 12) = false := by rw [hk.out]; rfl
  have b4 : (n.k == 4) = false := by rw [hk.out]; rfl
  have b6 : (n.k == 6) = false := by rw [hk.out]; rfl
  have b7 : (n.k == 7) = false := by rw [hk.out]; rfl
  have b13 : (n.k == 13) = false := by rw [hk.out]; rfl
  have b14 : (n.k == 14) = false := by rw [hk.out]; rfl
  have b16 : (n.k == 16) = false := by rw [hk.out]; rfl
  have b17 : (n.k == 17) = false := by rw [hk.out]; rfl
  go_enter Tryd.func32, Tryd.ntmps32
  go_wp2
  go_ret2
  exact ⟨by rw [HV.out]; rfl, HB.out⟩
theorem wants_12 (n : Nd) (A : Option Addr) (c i : Nat) (w : World) (hk : Hid (n.k = 12)) (hi : i < n.kids.length) (hl : n.kids.length ≤ 9223372036854775807) :
    Calls Tryd.prog 32 #[.agg #[.int .i64 n.k, .string n.t, .int .i64 n.num, .slice A n.kids.length c], .int .i64 (i : Int)] w (WaOut n.k i n.kids.length w) := by
  have hB : Below w.heap.size w (w.alloc (.cells #[.int .i64 n.k, .string n.t, .int .i64 n.num, .slice A n.kids.length c] 24)) := by (repeat (first | with_reducible assumption | with_reducible exact Below.refl _ _ | (refine Below.setCell ?_ (by first | omega | (simp; done) | (simp; omega)) _) | (refine Below.drewN_ ?_ _) | (refine Below.drew ?_) | (refine Below.alloc ?_ (by first | omega | (simp; done) | (simp; omega)) _)))
  have HB := Lib.hid hB
  clear hB
  have HV : Hid (wantC n.k i n.kids.length = (2, 0)) := by
    show _ = _
    rw [hk.out]
    unfold wantC
    simp only [Int.reduceEq, if_false, if_true, or_false, or_true, false_or, true_or]
    skip
  have b1 : (n.k == 1) = false := by rw [hk.out]; rfl
  have b2 : (n.k == 2) = false := by rw [hk.out]; rfl
  have b3 : (n.k == 3) = false := by rw [hk.out]; rfl
  have b5 : (n.k == 5) = false := by rw [hk.out]; rfl
  have b8 : (n.k == 8) = false := by rw [hk.out]; rfl
  have b12 : (n.k == 12) = true := by rw [hk.out]; rfl
  have b4 : (n.k == 4) = false := by rw [hk.out]; rfl
  have b6 : (n.k == 6) = false := by rw [hk.out]; rfl
  have b7 : (n.k == 7) = false := by rw [hk.out]; rfl
  have b13 : (n.k == 13) = false := by rw [hk.out]; rfl
  have b14 : (n.k == 14) = false := by rw [hk.out]; rfl
  have b16 : (n.k == 16) = false := by rw [hk.out]; rfl
  have b17 : (n.k == 17) = false := by rw [hk.out]; rfl
  go_enter Tryd.func32, Tryd.ntmps32
  go_wp2
  go_ret2
  exact ⟨by rw [HV.out]; rfl, HB.out⟩
theorem wants_4a (n : Nd) (A : Option Addr) (c i : Nat) (w : World) (hk : Hid (n.k = 4)) (hi : i < n.kids.length) (hl : n.kids.length ≤ 9223372036854775807) (h1 : i + 1 = n.kids.length) :
    Calls Tryd.prog 32 #[.agg #[.int .i64 n.k, .string n.t, .int .i64 n.num, .slice A n.kids.length c], .int .i64 (i : Int)] w (WaOut n.k i n.kids.length w) := by
  have hB : Below w.heap.size w (w.alloc (.cells #[.int .i64 n.k, .string n.t, .int .i64 n.num, .slice A n.kids.length c] 24)) := by (repeat (first | with_reducible assumption | with_reducible exact Below.refl _ _ | (refine Below.setCell ?_ (by first | omega | (simp; done) | (simp; omega)) _) | (refine Below.drewN_ ?_ _) | (refine Below.drew ?_) | (refine Below.alloc ?_ (by first | omega | (simp; done) | (simp; omega)) _)))
  have HB := Lib.hid hB
  clear hB
  have HV : Hid (wantC n.k i n.kids.length = (2, 0)) := by
    show _ = _
    rw [hk.out]
    unfold wantC
    simp only [Int.reduceEq, if_false, if_true, or_false, or_true, false_or, true_or]
    rw [if_pos h1]
  have b1 : (n.k == 1) = false := by rw [hk.out]; rfl
  have b2 : (n.k == 2) = false := by rw [hk.out]; rfl
  have b3 : (n.k == 3) = false := by rw [hk.out]; rfl
  have b5 : (n.k == 5) = false := by rw [hk.out]; rfl
  have b8 : (n.k == 8) = false := by rw [hk.out]; rfl
  have b12 : (n.k == 12) = false := by rw [hk.out]; rfl
  have b4 : (n.k == 4) = true := by rw [hk.out]; rfl
  have b6 : (n.k == 6) = false := by rw [hk.out]; rfl
  have b7 : (n.k == 7) = false := by rw [hk.out]; rfl
  have b13 : (n.k == 13) = false := by rw [hk.out]; rfl
  have b14 : (n.k == 14) = false := by rw [hk.out]; rfl
  have b16 : (n.k == 16) = false := by rw [hk.out]; rfl
  have b17 : (n.k == 17) = false := by rw [hk.out]; rfl
  have he : ((i : Int) == (n.kids.length : Int) - 1) = true := by simp; omega
  clear h1
  go_enter Tryd.func32, Tryd.ntmps32
  go_wp2
  go_ret2
  exact ⟨by rw [HV.out]; rfl, HB.out⟩
theorem wants_4b (n : Nd) (A : Option Addr) (c i : Nat) (w : World) (hk : Hid (n.k = 4)) (hi : i < n.kids.length) (hl : n.kids.length ≤ 9223372036854775807) (h1 : ¬ i + 1 = n.kids.length) :
    Calls Tryd.prog 32 #[.agg #[.int .i64 n.k, .string n.t, .int .i64 n.num, .slice A n.kids.length c], .int .i64 (i : Int)] w (WaOut n.k i n.kids.length w) := by
  have hB : Below w.heap.size w (w.alloc (.cells #[.int .i64 n.k, .string n.t, .int .i64 n.num, .slice A n.kids.length c] 24)) := by (repeat (first | with_reducible assumption | with_reducible exact Below.refl _ _ | (refine Below.setCell ?_ (by first | omega | (simp; done) | (simp; omega)) _) | (refine Below.drewN_ ?_ _) | (refine Below.drew ?_) | (refine Below.alloc ?_ (by first | omega | (simp; done) | (simp; omega)) _)))
  have HB := Lib.hid hB
  clear hB
  have HV : Hid (wantC n.k i n.kids.length = (5, 8)) := by
    show _ = _
    rw [hk.out]
    unfold wantC
    simp only [Int.reduceEq, if_false, if_true, or_false, or_true, false_or, true_or]
    rw [if_neg h1]
  have b1 : (n.k == 1) = false := by rw [hk.out]; rfl
  have b2 : (n.k == 2) = false := by rw [hk.out]; rfl
  have b3 : (n.k == 3) = false := by rw [hk.out]; rfl
  have b5 : (n.k == 5) = false := by rw [hk.out]; rfl
  have b8 : (n.k == 8) = false := by rw [hk.out]; rfl
  have b12 : (n.k == 12) = false := by rw [hk.out]; rfl
  have b4 : (n.k == 4) = true := by rw [hk.out]; rfl
  have b6 : (n.k == 6) = false := by rw [hk.out]; rfl
  have b7 : (n.k == 7) = false := by rw [hk.out]; rfl
  have b13 : (n.k == 13) = false := by rw [hk.out]; rfl
  have b14 : (n.k == 14) = false := by rw [hk.out]; rfl
  have b16 : (n.k == 16) = false := by rw [hk.out]; rfl
  have b17 : (n.k == 17) = false := by rw [hk.out]; rfl
  have he : ((i : Int) == (n.kids.length : Int) - 1) = false := by simp; omega
  clear h1
  go_enter Tryd.func32, Tryd.ntmps32
  go_wp2
  go_ret2
  exact ⟨by rw [HV.out]; rfl, HB.out⟩
theorem wants_6a (n : Nd) (A : Option Addr) (c i : Nat) (w : World) (hk : Hid (n.k = 6)) (hi : i < n.kids.length) (hl : n.kids.length ≤ 9223372036854775807) (h1 : i = 0) :
    Calls Tryd.prog 32 #[.agg #[.int .i64 n.k, .string n.t, .int .i64 n.num, .slice A n.kids.length c], .int .i64 (i : Int)] w (WaOut n.k i n.kids.length w) := by
  have hB : Below w.heap.size w (w.alloc (.cells #[.int .i64 n.k, .string n.t, .int .i64 n.num, .slice A n.kids.length c] 24)) := by (repeat (first | with_reducible assumption | with_reducible exact Below.refl _ _ | (refine Below.setCell ?_ (by first | omega | (simp; done) | (simp; omega)) _) | (refine Below.drewN_ ?_ _) | (refine Below.drew ?_) | (refine Below.alloc ?_ (by first | omega | (simp; done) | (simp; omega)) _)))
  have HB := Lib.hid hB
  clear hB
  have HV : Hid (wantC n.k i n.kids.length = (2, 0)) := by
    show _ = _
    rw [hk.out]
    unfold wantC
    simp only [Int.reduceEq, if_false, if_true, or_false, or_true, false_or, true_or]
    rw [if_pos h1]
  have b1 : (n.k == 1) = false := by rw [hk.out]; rfl
  have b2 : (n.k == 2) = false := by rw [hk.out]; rfl
  have b3 : (n.k == 3) = false := by rw [hk.out]; rfl
  have b5 : (n.k == 5) = false := by rw [hk.out]; rfl
  have b8 : (n.k == 8) = false := by rw [hk.out]; rfl
  have b12 : (n.k == 12) = false := by rw [hk.out]; rfl
  have b4 : (n.k == 4) = false := by rw [hk.out]; rfl
  have b6 : (n.k == 6) = true := by rw [hk.out]; rfl
  have b7 : (n.k == 7) = false := by rw [hk.out]; rfl
  have b13 : (n.k == 13) = false := by rw [hk.out]; rfl
  have b14 : (n.k == 14) = false := by rw [hk.out]; rfl
  have b16 : (n.k == 16) = false := by rw [hk.out]; rfl
  have b17 : (n.k == 17) = false := by rw [hk.out]; rfl
  have he : ((i : Int) == 0) = true := by simp; omega
  clear h1
  go_enter Tryd.func32, Tryd.ntmps32
  go_wp2
  go_ret2
  exact ⟨by rw [HV.out]; rfl, HB.out⟩
theorem wants_6b (n : Nd) (A : Option Addr) (c i : Nat) (w : World) (hk : Hid (n.k = 6)) (hi : i < n.kids.length) (hl : n.kids.length ≤ 9223372036854775807) (h1 : ¬ i = 0) :
    Calls Tryd.prog 32 #[.agg #[.int .i64 n.k, .string n.t, .int .i64 n.num, .slice A n.kids.length c], .int .i64 (i : Int)] w (WaOut n.k i n.kids.length w) := by
  have hB : Below w.heap.size w (w.alloc (.cells #[.int .i64 n.k, .string n.t, .int .i64 n.num, .slice A n.kids.length c] 24)) := by (repeat (first | with_reducible assumption | with_reducible exact Below.refl _ _ | (refine Below.setCell ?_ (by first | omega | (simp; done) | (simp; omega)) _) | (refine Below.drewN_ ?_ _) | (refine Below.drew ?_) | (refine Below.alloc ?_ (by first | omega | (simp; done) | (simp; omega)) _)))
  have HB := Lib.hid hB
  clear hB
  have HV : Hid (wantC n.k i n.kids.length = (4, -1)) := by
    show _ = _
    rw [hk.out]
    unfold wantC
    simp only [Int.reduceEq, if_false, if_true, or_false, or_true, false_or, true_or]
    rw [if_neg h1]
  have b1 : (n.k == 1) = false := by rw [hk.out]; rfl
  have b2 : (n.k == 2) = false := by rw [hk.out]; rfl
  have b3 : (n.k == 3) = false := by rw [hk.out]; rfl
  have b5 : (n.k == 5) = false := by rw [hk.out]; rfl
  have b8 : (n.k == 8) = false := by rw [hk.out]; rfl
  have b12 : (n.k == 12) = false := by rw [hk.out]; rfl
  have b4 : (n.k == 4) = false := by rw [hk.out]; rfl
  have b6 : (n.k == 6) = true := by rw [hk.out]; rfl
  have b7 : (n.k == 7) = false := by rw [hk.out]; rfl
  have b13 : (n.k == 13) = false := by rw [hk.out]; rfl
  have b14 : (n.k == 14) = false := by rw [hk.out]; rfl
  have b16 : (n.k == 16) = false := by rw [hk.out]; rfl
  have b17 : (n.k == 17) = false := by rw [hk.out]; rfl
  have he : ((i : Int) == 0) = false := by simp; omega
  clear h1
  go_enter Tryd.func32, Tryd.ntmps32
  go_wp2
  go_ret2
  exact ⟨by rw [HV.out]; rfl, HB.out⟩
theorem wants_7a (n : Nd) (A : Option Addr) (c i : Nat) (w : World) (hk : Hid (n.k = 7)) (hi : i < n.kids.length) (hl : n.kids.length ≤ 9223372036854775807) (h1 : i + 1 = n.kids.length) :
    Calls Tryd.prog 32 #[.agg #[.int .i64 n.k, .string n.t, .int .i64 n.num, .slice A n.kids.length c], .int .i64 (i : Int)] w (WaOut n.k i n.kids.length w) := by
  have hB : Below w.heap.size w (w.alloc (.cells #[.int .i64 n.k, .string n.t, .int .i64 n.num, .slice A n.kids.length c] 24)) := by (repeat (first | with_reducible assumption | with_reducible exact Below.refl _ _ | (refine Below.setCell ?_ (by first | omega | (simp; done) | (simp; omega)) _) | (refine Below.drewN_ ?_ _) | (refine Below.drew ?_) | (refine Below.alloc ?_ (by first | omega | (simp; done) | (simp; omega)) _)))
  have HB := Lib.hid hB
  clear hB
  have HV : Hid (wantC n.k i n.kids.length = (5, 13)) := by
    show _ = _
    rw [hk.out]
    unfold wantC
    simp only [Int.reduceEq, if_false, if_true, or_false, or_true, false_or, true_or]
    rw [if_pos h1]
  have b1 : (n.k == 1) = false := by rw [hk.out]; rfl
  have b2 : (n.k == 2) = false := by rw [hk.out]; rfl
  have b3 : (n.k == 3) = false := by rw [hk.out]; rfl
  have b5 : (n.k == 5) = false := by rw [hk.out]; rfl
  have b8 : (n.k == 8) = false := by rw [hk.out]; rfl
  have b12 : (n.k == 12) = false := by rw [hk.out]; rfl
  have b4 : (n.k == 4) = false := by rw [hk.out]; rfl
  have b6 : (n.k == 6) = false := by rw [hk.out]; rfl
  have b7 : (n.k == 7) = true := by rw [hk.out]; rfl
  have b13 : (n.k == 13) = false := by rw [hk.out]; rfl
  have b14 : (n.k == 14) = false := by rw [hk.out]; rfl
  have b16 : (n.k == 16) = false := by rw [hk.out]; rfl
  have b17 : (n.k == 17) = false := by rw [hk.out]; rfl
  have he : ((i : Int) == (n.kids.length : Int) - 1) = true := by simp; omega
  clear h1
  go_enter Tryd.func32, Tryd.ntmps32
  go_wp2
  go_ret2
  exact ⟨by rw [HV.out]; rfl, HB.out⟩
theorem wants_7b (n : Nd) (A : Option Addr) (c i : Nat) (w : World) (hk : Hid (n.k = 7)) (hi : i < n.kids.length) (hl : n.kids.length ≤ 9223372036854775807) (h1 : i + 2 = n.kids.length) :
    Calls Tryd.prog 32 #[.agg #[.int .i64 n.k, .string n.t, .int .i64 n.num, .slice A n.kids.length c], .int .i64 (i : Int)] w (WaOut n.k i n.kids.length w) := by
  have hB : Below w.heap.size w (w.alloc (.cells #[.int .i64 n.k, .string n.t, .int .i64 n.num, .slice A n.kids.length c] 24)) := by (repeat (first | with_reducible assumption | with_reducible exact Below.refl _ _ | (refine Below.setCell ?_ (by first | omega | (simp; done) | (simp; omega)) _) | (refine Below.drewN_ ?_ _) | (refine Below.drew ?_) | (refine Below.alloc ?_ (by first | omega | (simp; done) | (simp; omega)) _)))
  have HB := Lib.hid hB
  clear hB
  have HV : Hid (wantC n.k i n.kids.length = (2, 0)) := by
    show _ = _
    rw [hk.out]
    unfold wantC
    simp only [Int.reduceEq, if_false, if_true, or_false, or_true, false_or, true_or]
    rw [if_neg (by omega), if_pos h1]
  have b1 : (n.k == 1) = false := by rw [hk.out]; rfl
  have b2 : (n.k == 2) = false := by rw [hk.out]; rfl
  have b3 : (n.k == 3) = false := by rw [hk.out]; rfl
  have b5 : (n.k == 5) = false := by rw [hk.out]; rfl
  have b8 : (n.k == 8) = false := by rw [hk.out]; rfl
  have b12 : (n.k == 12) = false := by rw [hk.out]; rfl
  have b4 : (n.k == 4) = false := by rw [hk.out]; rfl
  have b6 : (n.k == 6) = false := by rw [hk.out]; rfl
  have b7 : (n.k == 7) = true := by rw [hk.out]; rfl
  have b13 : (n.k == 13) = false := by rw [hk.out]; rfl
  have b14 : (n.k == 14) = false := by rw [hk.out]; rfl
  have b16 : (n.k == 16) = false := by rw [hk.out]; rfl
  have b17 : (n.k == 17) = false := by rw [hk.out]; rfl
  have he : ((i : Int) == (n.kids.length : Int) - 1) = false := by simp; omega
  have he2 : ((i : Int) == (n.kids.length : Int) - 1 - 1) = true := by simp; omega
  have hlt2 : (0 : Int) ≤ (n.kids.length : Int) - 1 := by omega
  clear h1
  go_enter Tryd.func32, Tryd.ntmps32
  go_wp2
  go_ret2
  exact ⟨by rw [HV.out]; rfl, HB.out⟩
theorem wants_7c (n : Nd) (A : Option Addr) (c i : Nat) (w : World) (hk : Hid (n.k = 7)) (hi : i < n.kids.length) (hl : n.kids.length ≤ 9223372036854775807) (h1 : ¬ i + 1 = n.kids.length) (h2 : ¬ i + 2 = n.kids.length) :
    Calls Tryd.prog 32 #[.agg #[.int .i64 n.k, .string n.t, .int .i64 n.num, .slice A n.kids.length c], .int .i64 (i : Int)] w (WaOut n.k i n.kids.length w) := by
  have hB : Below w.heap.size w (w.alloc (.cells #[.int .i64 n.k, .string n.t, .int .i64 n.num, .slice A n.kids.length c] 24)) := by (repeat (first | with_reducible assumption | with_reducible exact Below.refl _ _ | (refine Below.setCell ?_ (by first | omega | (simp; done) | (simp; omega)) _) | (refine Below.drewN_ ?_ _) | (refine Below.drew ?_) | (refine Below.alloc ?_ (by first | omega | (simp; done) | (simp; omega)) _)))
  have HB := Lib.hid hB
  clear hB
  have HV : Hid (wantC n.k i n.kids.length = (5, 8)) := by
    show _ = _
    rw [hk.out]
    unfold wantC
    simp only [Int.reduceEq, if_false, if_true, or_false, or_true, false_or, true_or]
    rw [if_neg h1, if_neg h2]
  have b1 : (n.k == 1) = false := by rw [hk.out]; rfl
  have b2 : (n.k == 2) = false := by rw [hk.out]; rfl
  have b3 : (n.k == 3) = false := by rw [hk.out]; rfl
  have b5 : (n.k == 5) = false := by rw [hk.out]; rfl
  have b8 : (n.k == 8) = false := by rw [hk.out]; rfl
  have b12 : (n.k == 12) = false := by rw [hk.out]; rfl
  have b4 : (n.k == 4) = false := by rw [hk.out]; rfl
  have b6 : (n.k == 6) = false := by rw [hk.out]; rfl
  have b7 : (n.k == 7) = true := by rw [hk.out]; rfl
  have b13 : (n.k == 13) = false := by rw [hk.out]; rfl
  have b14 : (n.k == 14) = false := by rw [hk.out]; rfl
  have b16 : (n.k == 16) = false := by rw [hk.out]; rfl
  have b17 : (n.k == 17) = false := by rw [hk.out]; rfl
  have he : ((i : Int) == (n.kids.length : Int) - 1) = false := by simp; omega
  have he2 : ((i : Int) == (n.kids.length : Int) - 1 - 1) = false := by simp; omega
  have hlt2 : (0 : Int) ≤ (n.kids.length : Int) - 1 := by omega
  clear h1 h2
  go_enter Tryd.func32, Tryd.ntmps32
  go_wp2
  go_ret2
  exact ⟨by rw [HV.out]; rfl, HB.out⟩
theorem wants_13 (n : Nd) (A : Option Addr) (c i : Nat) (w : World) (hk : Hid (n.k = 13)) (hi : i < n.kids.length) (hl : n.kids.length ≤ 9223372036854775807) :
    Calls Tryd.prog 32 #[.agg #[.int .i64 n.k, .string n.t, .int .i64 n.num, .slice A n.kids.length c], .int .i64 (i : Int)] w (WaOut n.k i n.kids.length w) := by
  have hB : Below w.heap.size w (w.alloc (.cells #[.int .i64 n.k, .string n.t, .int .i64 n.num, .slice A n.kids.length c] 24)) := by (repeat (first | with_reducible assumption | with_reducible exact Below.refl _ _ | (refine Below.setCell ?_ (by first | omega | (simp; done) | (simp; omega)) _) | (refine Below.drewN_ ?_ _) | (refine Below.drew ?_) | (refine Below.alloc ?_ (by first | omega | (simp; done) | (simp; omega)) _)))
  have HB := Lib.hid hB
  clear hB
  have HV : Hid (wantC n.k i n.kids.length = (3, 0)) := by
    show _ = _
    rw [hk.out]
    unfold wantC
    simp only [Int.reduceEq, if_false, if_true, or_false, or_true, false_or, true_or]
    skip
  have b1 : (n.k == 1) = false := by rw [hk.out]; rfl
  have b2 : (n.k == 2) = false := by rw [hk.out]; rfl
  have b3 : (n.k == 3) = false := by rw [hk.out]; rfl
  have b5 : (n.k == 5) = false := by rw [hk.out]; rfl
  have b8 : (n.k == 8) = false := by rw [hk.out]; rfl
  have b12 : (n.k == 12) = false := by rw [hk.out]; rfl
  have b4 : (n.k == 4) = false := by rw [hk.out]; rfl
  have b6 : (n.k == 6) = false := by rw [hk.out]; rfl
  have b7 : (n.k == 7) = false := by rw [hk.out]; rfl
  have b13 : (n.k == 13) = true := by rw [hk.out]; rfl
  have b14 : (n.k == 14) = false := by rw [hk.out]; rfl
  have b16 : (n.k == 16) = false := by rw [hk.out]; rfl
  have b17 : (n.k == 17) = false := by rw [hk.out]; rfl
  go_enter Tryd.func32, Tryd.ntmps32
  go_wp2
  go_ret2
  exact ⟨by rw [HV.out]; rfl, HB.out⟩
theorem wants_14a (n : Nd) (A : Option Addr) (c i : Nat) (w : World) (hk : Hid (n.k = 14)) (hi : i < n.kids.length) (hl : n.kids.length ≤ 9223372036854775807) (h1 : i = 0) :
    Calls Tryd.prog 32 #[.agg #[.int .i64 n.k, .string n.t, .int .i64 n.num, .slice A n.kids.length c], .int .i64 (i : Int)] w (WaOut n.k i n.kids.length w) := by
  have hB : Below w.heap.size w (w.alloc (.cells #[.int .i64 n.k, .string n.t, .int .i64 n.num, .slice A n.kids.length c] 24)) := by (repeat (first | with_reducible assumption | with_reducible exact Below.refl _ _ | (refine Below.setCell ?_ (by first | omega | (simp; done) | (simp; omega)) _) | (refine Below.drewN_ ?_ _) | (refine Below.drew ?_) | (refine Below.alloc ?_ (by first | omega | (simp; done) | (simp; omega)) _)))
  have HB := Lib.hid hB
  clear hB
  have HV : Hid (wantC n.k i n.kids.length = (2, 0)) := by
    show _ = _
    rw [hk.out]
    unfold wantC
    simp only [Int.reduceEq, if_false, if_true, or_false, or_true, false_or, true_or]
    rw [if_pos h1]
  have b1 : (n.k == 1) = false := by rw [hk.out]; rfl
  have b2 : (n.k == 2) = false := by rw [hk.out]; rfl
  have b3 : (n.k == 3) = false := by rw [hk.out]; rfl
  have b5 : (n.k == 5) = false := by rw [hk.out]; rfl
  have b8 : (n.k == 8) = false := by rw [hk.out]; rfl
  have b12 : (n.k == 12) = false := by rw [hk.out]; rfl
  have b4 : (n.k == 4) = false := by rw [hk.out]; rfl
  have b6 : (n.k == 6) = false := by rw [hk.out]; rfl
  have b7 : (n.k == 7) = false := by rw [hk.out]; rfl
  have b13 : (n.k == 13) = false := by rw [hk.out]; rfl
  have b14 : (n.k == 14) = true := by rw [hk.out]; rfl
  have b16 : (n.k == 16) = false := by rw [hk.out]; rfl
  have b17 : (n.k == 17) = false := by rw [hk.out]; rfl
  have he : ((i : Int) == 0) = true := by simp; omega
  clear h1
  go_enter Tryd.func32, Tryd.ntmps32
  go_wp2
  go_ret2
  exact ⟨by rw [HV.out]; rfl, HB.out⟩
theorem wants_14b (n : Nd) (A : Option Addr) (c i : Nat) (w : World) (hk : Hid (n.k = 14)) (hi : i < n.kids.length) (hl : n.kids.length ≤ 9223372036854775807) (h1 : ¬ i = 0) :
    Calls Tryd.prog 32 #[.agg #[.int .i64 n.k, .string n.t, .int .i64 n.num, .slice A n.kids.length c], .int .i64 (i : Int)] w (WaOut n.k i n.kids.length w) := by
  have hB : Below w.heap.size w (w.alloc (.cells #[.int .i64 n.k, .string n.t, .int .i64 n.num, .slice A n.kids.length c] 24)) := by (repeat (first | with_reducible assumption | with_reducible exact Below.refl _ _ | (refine Below.setCell ?_ (by first | omega | (simp; done) | (simp; omega)) _) | (refine Below.drewN_ ?_ _) | (refine Below.drew ?_) | (refine Below.alloc ?_ (by first | omega | (simp; done) | (simp; omega)) _)))
  have HB := Lib.hid hB
  clear hB
  have HV : Hid (wantC n.k i n.kids.length = (4, 0)) := by
    show _ = _
    rw [hk.out]
    unfold wantC
    simp only [Int.reduceEq, if_false, if_true, or_false, or_true, false_or, true_or]
    rw [if_neg h1]
  have b1 : (n.k == 1) = false := by rw [hk.out]; rfl
  have b2 : (n.k == 2) = false := by rw [hk.out]; rfl
  have b3 : (n.k == 3) = false := by rw [hk.out]; rfl
  have b5 : (n.k == 5) = false := by rw [hk.out]; rfl
  have b8 : (n.k == 8) = false := by rw [hk.out]; rfl
  have b12 : (n.k == 12) = false := by rw [hk.out]; rfl
  have b4 : (n.k == 4) = false := by rw [hk.out]; rfl
  have b6 : (n.k == 6) = false := by rw [hk.out]; rfl
  have b7 : (n.k == 7) = false := by rw [hk.out]; rfl
  have b13 : (n.k == 13) = false := by rw [hk.out]; rfl
  have b14 : (n.k == 14) = true := by rw [hk.out]; rfl
  have b16 : (n.k == 16) = false := by rw [hk.out]; rfl
  have b17 : (n.k == 17) = false := by rw [hk.out]; rfl
  have he : ((i : Int) == 0) = false := by simp; omega
  clear h1
  go_enter Tryd.func32, Tryd.ntmps32
  go_wp2
  go_ret2
  exact ⟨by rw [HV.out]; rfl, HB.out⟩
theorem wants_16a (n : Nd) (A : Option Addr) (c i : Nat) (w : World) (hk : Hid (n.k = 16)) (hi : i < n.kids.length) (hl : n.kids.length ≤ 9223372036854775807) (h1 : 0 < i) :
    Calls Tryd.prog 32 #[.agg #[.int .i64 n.k, .string n.t, .int .i64 n.num, .slice A n.kids.length c], .int .i64 (i : Int)] w (WaOut n.k i n.kids.length w) := by
  have hB : Below w.heap.size w (w.alloc (.cells #[.int .i64 n.k, .string n.t, .int .i64 n.num, .slice A n.kids.length c] 24)) := by (repeat (first | with_reducible assumption | with_reducible exact Below.refl _ _ | (refine Below.setCell ?_ (by first | omega | (simp; done) | (simp; omega)) _) | (refine Below.drewN_ ?_ _) | (refine Below.drew ?_) | (refine Below.alloc ?_ (by first | omega | (simp; done) | (simp; omega)) _)))
  have HB := Lib.hid hB
  clear hB
  have HV : Hid (wantC n.k i n.kids.length = (5, 13)) := by
    show _ = _
    rw [hk.out]
    unfold wantC
    simp only [Int.reduceEq, if_false, if_true, or_false, or_true, false_or, true_or]
    rw [if_pos h1]
  have b1 : (n.k == 1) = false := by rw [hk.out]; rfl
  have b2 : (n.k == 2) = false := by rw [hk.out]; rfl
  have b3 : (n.k == 3) = false := by rw [hk.out]; rfl
  have b5 : (n.k == 5) = false := by rw [hk.out]; rfl
  have b8 : (n.k == 8) = false := by rw [hk.out]; rfl
  have b12 : (n.k == 12) = false := by rw [hk.out]; rfl
  have b4 : (n.k == 4) = false := by rw [hk.out]; rfl
  have b6 : (n.k == 6) = false := by rw [hk.out]; rfl
  have b7 : (n.k == 7) = false := by rw [hk.out]; rfl
  have b13 : (n.k == 13) = false := by rw [hk.out]; rfl
  have b14 : (n.k == 14) = false := by rw [hk.out]; rfl
  have b16 : (n.k == 16) = true := by rw [hk.out]; rfl
  have b17 : (n.k == 17) = false := by rw [hk.out]; rfl
  have he : decide ((0 : Int) < (i : Int)) = true := by simp; omega
  have he2 : (0 : Int) < (i : Int) := by omega
  go_enter Tryd.func32, Tryd.ntmps32
  go_wp2
  go_ret2
  exact ⟨by rw [HV.out]; rfl, HB.out⟩
theorem wants_16b (n : Nd) (A : Option Addr) (c i : Nat) (w : World) (hk : Hid (n.k = 16)) (hi : i < n.kids.length) (hl : n.kids.length ≤ 9223372036854775807) (h1 : ¬ 0 < i) :
    Calls Tryd.prog 32 #[.agg #[.int .i64 n.k, .string n.t, .int .i64 n.num, .slice A n.kids.length c], .int .i64 (i : Int)] w (WaOut n.k i n.kids.length w) := by
  have hB : Below w.heap.size w (w.alloc (.cells #[.int .i64 n.k, .string n.t, .int .i64 n.num, .slice A n.kids.length c] 24)) := by (repeat (first | with_reducible assumption | with_reducible exact Below.refl _ _ | (refine Below.setCell ?_ (by first | omega | (simp; done) | (simp; omega)) _) | (refine Below.drewN_ ?_ _) | (refine Below.drew ?_) | (refine Below.alloc ?_ (by first | omega | (simp; done) | (simp; omega)) _)))
  have HB := Lib.hid hB
  clear hB
  have HV : Hid (wantC n.k i n.kids.length = (4, 0)) := by
    show _ = _
    rw [hk.out]
    unfold wantC
    simp only [Int.reduceEq, if_false, if_true, or_false, or_true, false_or, true_or]
    rw [if_neg h1]
  have b1 : (n.k == 1) = false := by rw [hk.out]; rfl
  have b2 : (n.k == 2) = false := by rw [hk.out]; rfl
  have b3 : (n.k == 3) = false := by rw [hk.out]; rfl
  have b5 : (n.k == 5) = false := by rw [hk.out]; rfl
  have b8 : (n.k == 8) = false := by rw [hk.out]; rfl
  have b12 : (n.k == 12) = false := by rw [hk.out]; rfl
  have b4 : (n.k == 4) = false := by rw [hk.out]; rfl
  have b6 : (n.k == 6) = false := by rw [hk.out]; rfl
  have b7 : (n.k == 7) = false := by rw [hk.out]; rfl
  have b13 : (n.k == 13) = false := by rw [hk.out]; rfl
  have b14 : (n.k == 14) = false := by rw [hk.out]; rfl
  have b16 : (n.k == 16) = true := by rw [hk.out]; rfl
  have b17 : (n.k == 17) = false := by rw [hk.out]; rfl
  have he : decide ((0 : Int) < (i : Int)) = false := by simp; omega
  have he2 : ¬ (0 : Int) < (i : Int) := by omega
  go_enter Tryd.func32, Tryd.ntmps32
  go_wp2
  go_ret2
  exact ⟨by rw [HV.out]; rfl, HB.out⟩
theorem wants_17a (n : Nd) (A : Option Addr) (c i : Nat) (w : World) (hk : Hid (n.k = 17)) (hi : i < n.kids.length) (hl : n.kids.length ≤ 9223372036854775807) (h1 : 0 < i) :
    Calls Tryd.prog 32 #[.agg #[.int .i64 n.k, .string n.t, .int .i64 n.num, .slice A n.kids.length c], .int .i64 (i : Int)] w (WaOut n.k i n.kids.length w) := by
  have hB : Below w.heap.size w (w.alloc (.cells #[.int .i64 n.k, .string n.t, .int .i64 n.num, .slice A n.kids.length c] 24)) := by (repeat (first | with_reducible assumption | with_reducible exact Below.refl _ _ | (refine Below.setCell ?_ (by first | omega | (simp; done) | (simp; omega)) _) | (refine Below.drewN_ ?_ _) | (refine Below.drew ?_) | (refine Below.alloc ?_ (by first | omega | (simp; done) | (simp; omega)) _)))
  have HB := Lib.hid hB
  clear hB
  have HV : Hid (wantC n.k i n.kids.length = (5, 13)) := by
    show _ = _
    rw [hk.out]
    unfold wantC
    simp only [Int.reduceEq, if_false, if_true, or_false, or_true, false_or, true_or]
    rw [if_pos h1]
  have b1 : (n.k == 1) = false := by rw [hk.out]; rfl
  have b2 : (n.k == 2) = false := by rw [hk.out]; rfl
  have b3 : (n.k == 3) = false := by rw [hk.out]; rfl
  have b5 : (n.k == 5) = false := by rw [hk.out]; rfl
  have b8 : (n.k == 8) = false := by rw [hk.out]; rfl
  have b12 : (n.k == 12) = false := by rw [hk.out]; rfl
  have b4 : (n.k == 4) = false := by rw [hk.out]; rfl
  have b6 : (n.k == 6) = false := by rw [hk.out]; rfl
  have b7 : (n.k == 7) = false := by rw [hk.out]; rfl
  have b13 : (n.k == 13) = false := by rw [hk.out]; rfl
  have b14 : (n.k == 14) = false := by rw [hk.out]; rfl
  have b16 : (n.k == 16) = false := by rw [hk.out]; rfl
  have b17 : (n.k == 17) = true := by rw [hk.out]; rfl
  have he : decide ((0 : Int) < (i : Int)) = true := by simp; omega
  have he2 : (0 : Int) < (i : Int) := by omega
  go_enter Tryd.func32, Tryd.ntmps32
  go_wp2
  go_ret2
  exact ⟨by rw [HV.out]; rfl, HB.out⟩
theorem wants_17b (n : Nd) (A : Option Addr) (c i : Nat) (w : World) (hk : Hid (n.k = 17)) (hi : i < n.kids.length) (hl : n.kids.length ≤ 9223372036854775807) (h1 : ¬ 0 < i) :
    Calls Tryd.prog 32 #[.agg #[.int .i64 n.k, .string n.t, .int .i64 n.num, .slice A n.kids.length c], .int .i64 (i : Int)] w (WaOut n.k i n.kids.length w) := by
  have hB : Below w.heap.size w (w.alloc (.cells #[.int .i64 n.k, .string n.t, .int .i64 n.num, .slice A n.kids.length c] 24)) := by (repeat (first | with_reducible assumption | with_reducible exact Below.refl _ _ | (refine Below.setCell ?_ (by first | omega | (simp; done) | (simp; omega)) _) | (refine Below.drewN_ ?_ _) | (refine Below.drew ?_) | (refine Below.alloc ?_ (by first | omega | (simp; done) | (simp; omega)) _)))
  have HB := Lib.hid hB
  clear hB
  have HV : Hid (wantC n.k i n.kids.length = (4, 0)) := by
    show _ = _
    rw [hk.out]
    unfold wantC
    simp only [Int.reduceEq, if_false, if_true, or_false, or_true, false_or, true_or]
    rw [if_neg h1]
  have b1 : (n.k == 1) = false := by rw [hk.out]; rfl
  have b2 : (n.k == 2) = false := by rw [hk.out]; rfl
  have b3 : (n.k == 3) = false := by rw [hk.out]; rfl
  have b5 : (n.k == 5) = false := by rw [hk.out]; rfl
  have b8 : (n.k == 8) = false := by rw [hk.out]; rfl
  have b12 : (n.k == 12) = false := by rw [hk.out]; rfl
  have b4 : (n.k == 4) = false := by rw [hk.out]; rfl
  have b6 : (n.k == 6) = false := by rw [hk.out]; rfl
  have b7 : (n.k == 7) = false := by rw [hk.out]; rfl
  have b13 : (n.k == 13) = false := by rw [hk.out]; rfl
  have b14 : (n.k == 14) = false := by rw [hk.out]; rfl
  have b16 : (n.k == 16) = false := by rw [hk.out]; rfl
  have b17 : (n.k == 17) = true := by rw [hk.out]; rfl
  have he : decide ((0 : Int) < (i : Int)) = false := by simp; omega
  have he2 : ¬ (0 : Int) < (i : Int) := by omega
  go_enter Tryd.func32, Tryd.ntmps32
  go_wp2
  go_ret2
  exact ⟨by rw [HV.out]; rfl, HB.out⟩
theorem wants_no (n : Nd) (A : Option Addr) (c i : Nat) (w : World) (hk : Hid (n.k ≠ 1 ∧ n.k ≠ 2 ∧ n.k ≠ 3 ∧ n.k ≠ 5 ∧ n.k ≠ 8 ∧ n.k ≠ 12 ∧ n.k ≠ 4 ∧ n.k ≠ 6 ∧ n.k ≠ 7 ∧ n.k ≠ 13 ∧ n.k ≠ 14 ∧ n.k ≠ 16 ∧ n.k ≠ 17)) (hi : i < n.kids.length) (hl : n.kids.length ≤ 9223372036854775807) :
    Calls Tryd.prog 32 #[.agg #[.int .i64 n.k, .string n.t, .int .i64 n.num, .slice A n.kids.length c], .int .i64 (i : Int)] w (WaOut n.k i n.kids.length w) := by
  have hB : Below w.heap.size w (w.alloc (.cells #[.int .i64 n.k, .string n.t, .int .i64 n.num, .slice A n.kids.length c] 24)) := by (repeat (first | with_reducible assumption | with_reducible exact Below.refl _ _ | (refine Below.setCell ?_ (by first | omega | (simp; done) | (simp; omega)) _) | (refine Below.drewN_ ?_ _) | (refine Below.drew ?_) | (refine Below.alloc ?_ (by first | omega | (simp; done) | (simp; omega)) _)))
  have HB := Lib.hid hB
  clear hB
  have HV : Hid (wantC n.k i n.kids.length = (4, 0)) := by
    show _ = _
    skip
    unfold wantC
    obtain ⟨a1, a2, a3, a5, a8, a12, a4, a6, a7, a13, a14, a16, a17⟩ := hk.out; simp only [a1, a2, a3, a5, a8, a12, a4, a6, a7, a13, a14, a16, a17, if_false, or_self]
    skip
  have b1 : (n.k == 1) = false := by have := hk.out.1; simpa using this
  have b2 : (n.k == 2) = false := by have := hk.out.2.1; simpa using this
  have b3 : (n.k == 3) = false := by have := hk.out.2.2.1; simpa using this
  have b5 : (n.k == 5) = false := by have := hk.out.2.2.2.1; simpa using this
  have b8 : (n.k == 8) = false := by have := hk.out.2.2.2.2.1; simpa using this
  have b12 : (n.k == 12) = false := by have := hk.out.2.2.2.2.2.1; simpa using this
  have b4 : (n.k == 4) = false := by have := hk.out.2.2.2.2.2.2.1; simpa using this
  have b6 : (n.k == 6) = false := by have := hk.out.2.2.2.2.2.2.2.1; simpa using this
  have b7 : (n.k == 7) = false := by have := hk.out.2.2.2.2.2.2.2.2.1; simpa using this
  have b13 : (n.k == 13) = false := by have := hk.out.2.2.2.2.2.2.2.2.2.1; simpa using this
  have b14 : (n.k == 14) = false := by have := hk.out.2.2.2.2.2.2.2.2.2.2.1; simpa using this
  have b16 : (n.k == 16) = false := by have := hk.out.2.2.2.2.2.2.2.2.2.2.2.1; simpa using this
  have b17 : (n.k == 17) = false := by have := hk.out.2.2.2.2.2.2.2.2.2.2.2.2; simpa using this
  go_enter Tryd.func32, Tryd.ntmps32
  go_wp2
  go_ret2
  exact ⟨by rw [HV.out]; rfl, HB.out⟩
theorem wants_any (n : Nd) (A : Option Addr) (c i : Nat) (w : World) (hi : i < n.kids.length) (hl : n.kids.length ≤ 9223372036854775807) :
    Calls Tryd.prog 32 #[.agg #[.int .i64 n.k, .string n.t, .int .i64 n.num, .slice A n.kids.length c], .int .i64 (i : Int)] w (WaOut n.k i n.kids.length w) := by
  by_cases h1 : n.k = 1
  · exact wants_1 n A c i w h1 hi hl
  by_cases h2 : n.k = 2
  · exact wants_2 n A c i w h2 hi hl
  by_cases h3 : n.k = 3
  · exact wants_3 n A c i w h3 hi hl
  by_cases h5 : n.k = 5
  · exact wants_5 n A c i w h5 hi hl
  by_cases h8 : n.k = 8
  · exact wants_8 n A c i w h8 hi hl
  by_cases h12 : n.k = 12
  · exact wants_12 n A c i w h12 hi hl
  by_cases h4 : n.k = 4
  · by_cases h1 : i + 1 = n.kids.length
    · exact wants_4a n A c i w h4 hi hl h1
    · exact wants_4b n A c i w h4 hi hl h1
  by_cases h6 : n.k = 6
  · by_cases h1 : i = 0
    · exact wants_6a n A c i w h6 hi hl h1
    · exact wants_6b n A c i w h6 hi hl h1
  by_cases h7 : n.k = 7
  · by_cases h1 : i + 1 = n.kids.length
    · exact wants_7a n A c i w h7 hi hl h1
    · by_cases h2 : i + 2 = n.kids.length
      · exact wants_7b n A c i w h7 hi hl h2
      · exact wants_7c n A c i w h7 hi hl h1 h2
  by_cases h13 : n.k = 13
  · exact wants_13 n A c i w h13 hi hl
  by_cases h14 : n.k = 14
  · by_cases h1 : i = 0
    · exact wants_14a n A c i w h14 hi hl h1
    · exact wants_14b n A c i w h14 hi hl h1
  by_cases h16 : n.k = 16
  · by_cases h1 : 0 < i
    · exact wants_16a n A c i w h16 hi hl h1
    · exact wants_16b n A c i w h16 hi hl h1
  by_cases h17 : n.k = 17
  · by_cases h1 : 0 < i
    · exact wants_17a n A c i w h17 hi hl h1
    · exact wants_17b n A c i w h17 hi hl h1
  exact wants_no n A c i w ⟨h1, h2, h3, h5, h8, h12, h4, h6, h7, h13, h14, h16, h17⟩ hi hl
end Go.Proofs.YtgegfbopogcjpaaDoor
