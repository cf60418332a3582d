/- syntax.must, plain: what a node may have, or a panic. -/
import Derived.Test.YtgegfbopogcjpaaDoorSynD
import Derived.WalkLawsBesides
import Derived.Lib.Hide
import Derived.Deep.CutRange
import Derived.IntWalk
namespace Go.Proofs.YtgegfbopogcjpaaDoor
open Go.RowKit
set_option linter.unusedVariables false
set_option linter.unusedSimpArgs false
set_option maxRecDepth 100000
set_option maxHeartbeats 1000000
/-- how the printer gives up -/
def noneE : Ending := .panicked [{ v := .iface 32 (.agg #[]), recovered := false }]
def MuOut (b : Bool) (w : World) (e : Ending) (w' : World) : Prop := (b = true ∧ e = .returned (.tuple #[]) ∨ b = false ∧ e = noneE) ∧ w = w'
theorem must_any (b : Bool) (w : World) : Calls Tryd.prog 8 #[.bool b] w (MuOut b w) := by
  rcases Bool.eq_false_or_eq_true b with h | h
  · subst h
    go_enter Tryd.func8, Tryd.ntmps8
    go_wp2
    go_end0
    exact ⟨.inl ⟨rfl, rfl⟩, rfl⟩
  · subst h
    go_enter Tryd.func8, Tryd.ntmps8
    go_wp2
    exact ⟨rfl, .inr ⟨rfl, rfl⟩, rfl⟩
/-- plain's test -/
def PlOut (b : Bool) (w : World) (e : Ending) (w' : World) : Prop := (b = true ∧ e = .returned (.tuple #[]) ∨ b = false ∧ e = noneE) ∧ Below w.heap.size w w'
theorem plain_any (n : Nd) (A : Option Addr) (c : Nat) (text num : Bool) (least most : Int) (w : World) (hm : ML w) :
    Calls Tryd.prog 9 #[.agg #[.int .i64 n.k, .string n.t, .int .i64 n.num, .slice A n.kids.length c], .bool text, .bool num, .int .i64 least, .int .i64 most] w (PlOut (plainB n text num least most) w) := by
  obtain ⟨b1, hb1⟩ : ∃ b, n.t.toList.isEmpty = b := ⟨_, rfl⟩
  obtain ⟨b2, hb2⟩ : ∃ b, (n.num == 0) = b := ⟨_, rfl⟩
  obtain ⟨b3, hb3⟩ : ∃ b, decide (least ≤ (n.kids.length : Int)) = b := ⟨_, rfl⟩
  obtain ⟨b4, hb4⟩ : ∃ b, decide (most < 0) = b := ⟨_, rfl⟩
  obtain ⟨b5, hb5⟩ : ∃ b, decide ((n.kids.length : Int) ≤ most) = b := ⟨_, rfl⟩
  obtain ⟨b6, hb6⟩ : ∃ b, nameOf n.t = b := ⟨_, rfl⟩
  have HV : Hid (plainB n text num least most = ((text || b1) && (num || b2) && b3 && (b4 || b5) && (!text || b6))) := by show _ = _; unfold plainB; rw [hb1, hb2, hb3, hb4, hb5, hb6]
  generalize plainB n text num least most = V at *
  have HN := Lib.hid hb6
  clear hb6
  have hm2 : ML (w.alloc (.cells #[.int .i64 n.k, .string n.t, .int .i64 n.num, .slice A n.kids.length c] 24)) := hm.keep (by (repeat (first | with_reducible assumption | with_reducible exact Below.refl _ _ | (refine Below.setCell ?_ (by first | omega | (simp; done) | (simp; omega)) _) | (refine Below.drewN_ ?_ _) | (refine Below.drew ?_) | (refine Below.alloc ?_ (by first | omega | (simp; done) | (simp; omega)) _))))
  have HM := Lib.hid hm2
  clear hm hm2
  have hB : Below w.heap.size w (w.alloc (.cells #[.int .i64 n.k, .string n.t, .int .i64 n.num, .slice A n.kids.length c] 24)) := by (repeat (first | with_reducible assumption | with_reducible exact Below.refl _ _ | (refine Below.setCell ?_ (by first | omega | (simp; done) | (simp; omega)) _) | (refine Below.drewN_ ?_ _) | (refine Below.drew ?_) | (refine Below.alloc ?_ (by first | omega | (simp; done) | (simp; omega)) _)))
  have HB := Lib.hid hB
  clear hB
  cases text
  all_goals cases num
  all_goals go_enter Tryd.func9, Tryd.ntmps9
  all_goals go_wp2_with fail
  all_goals
    refine (must_any _ _).mono ?_
    rintro e w1 ⟨(⟨hq, rfl⟩ | ⟨hq, rfl⟩), rfl⟩
  all_goals first
    | (exfalso; simp at hq; done)
    | (unfold noneE
       go_wp2
       exact ⟨rfl, .inr ⟨by rw [HV.out]; simp_all, rfl⟩, HB.out⟩)
    | skip
  all_goals go_wp2_with (go_at_call 15; refine (isName_any _ _ HM.out).mono ?_; rintro e w' ⟨rfl, hw⟩; subst hw; rw [HN.out])
  all_goals first
    | (go_end0
       exact ⟨.inl ⟨by rw [HV.out]; simp_all, rfl⟩, HB.out⟩)
    | (refine (must_any _ _).mono ?_
       rintro e w1 ⟨(⟨hq2, rfl⟩ | ⟨hq2, rfl⟩), rfl⟩
       · go_wp2
         go_end0
         exact ⟨.inl ⟨by rw [HV.out]; simp_all, rfl⟩, HB.out⟩
       · unfold noneE
         go_wp2
         exact ⟨rfl, .inr ⟨by rw [HV.out]; simp_all, rfl⟩, HB.out⟩)
end Go.Proofs.YtgegfbopogcjpaaDoor
