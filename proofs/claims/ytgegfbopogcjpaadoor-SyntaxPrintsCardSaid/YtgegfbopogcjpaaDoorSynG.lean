/- The printer: place, number, a list in parentheses. -/
import Derived.Test.YtgegfbopogcjpaaDoorSynF
import Derived.Test.YtgegfbopogcjpaaDoorSynG0
namespace Go.Proofs.YtgegfbopogcjpaaDoor
open Go.RowKit
set_option linter.unusedVariables false
set_option linter.unusedSimpArgs false
set_option maxRecDepth 100000
set_option maxHeartbeats 1000000
def PlaceRel (calls : Bool) (n : Nd) (w : World) (gk : Nat) (wr : World) : Prop :=
  ∃ (m : Nd) (A : Option Addr) (c : Nat), Hid (baseN calls m = baseN calls n ∧ RepNL w m.kids A ∧ Blk wr w.heap.size 24 #[.int .i64 m.k, .string m.t, .int .i64 m.num, .slice A m.kids.length c] ∧ Below w.heap.size w wr ∧ many m ≤ gk)
theorem place_any (n : Nd) (A : Option Addr) (c : Nat) (calls : Bool) (w : World) (hr : RepNL w n.kids A) :
    Calls Tryd.prog 55 #[.agg #[.int .i64 n.k, .string n.t, .int .i64 n.num, .slice A n.kids.length c], .bool calls] w fun e w' => e = .returned (.bool ((baseN calls n).k == 23)) ∧ Below w.heap.size w w' := by
  obtain ⟨V, HV⟩ : ∃ V, Hid (((baseN calls n).k == 23) = V) := ⟨_, rfl⟩
  rw [HV.out]
  have HR := Lib.hid hr
  clear hr
  go_enter Tryd.func55, Tryd.ntmps55
  go_wp2_with fail
  go_loopg [] (many n) (fun gk wr => PlaceRel calls n w gk wr)
  case atStart => exact ⟨n, A, c, Lib.hid ⟨rfl, HR.out, Blk.new_ _ _ _, by (repeat (first | with_reducible assumption | with_reducible exact Below.refl _ _ | (refine Below.setCell ?_ (by first | omega | (simp; done) | (simp; omega)) _) | (refine Below.drewN_ ?_ _) | (refine Below.drew ?_) | (refine Below.alloc ?_ (by first | omega | (simp; done) | (simp; omega)) _))), Nat.le_refl _⟩⟩
  case round =>
    obtain ⟨m, A1, c1, HM⟩ := hrel
    have q0 := HM.out.2.2.1.cell 0 (.int .i64 m.k) rfl
    have q1 := HM.out.2.2.1.cell 1 (.string m.t) rfl
    have q2 := HM.out.2.2.1.cell 2 (.int .i64 m.num) rfl
    have q3 := HM.out.2.2.1.cell 3 (.slice A1 m.kids.length c1) rfl
    have f0 := HM.out.2.2.1.free 0
    have f1 := HM.out.2.2.1.free 1
    have f2 := HM.out.2.2.1.free 2
    have f3 := HM.out.2.2.1.free 3
    obtain ⟨hd, HD⟩ : ∃ hd, Hid (headK calls m.k = hd) := ⟨_, rfl⟩
    have go_on : ∀ b1 b2, (m.k == 24) = b1 → (m.k == 25) = b2 → (b1 || (calls && b2)) = hd := by
      intro b1 b2 h1 h2
      rw [← HD.out, ← h1, ← h2]
      rfl
    have GO := Lib.hid go_on
    clear go_on
    have HXX := Lib.hid (fun (h : headK calls m.k = true) (h0 : 0 < m.kids.length) => baseN_head h h0)
    rcases b1 : (m.k == 24) with _ | _
    all_goals rcases b2 : (m.k == 25) with _ | _
    all_goals cases calls
    all_goals (have G := Lib.hid (GO.out _ _ b1 b2))
    all_goals (by_cases h0 : m.kids.length = 0)
    all_goals first
      | (have hl : ((m.kids.length : Int) == 0) = true := by simp [h0]
         have H0 := Lib.hid h0
         clear h0)
      | (have hl : ((m.kids.length : Int) == 0) = false := by simp [h0]
         have hpos : 0 < m.kids.length := by omega
         have hpos2 : (0 : Int) < (m.kids.length : Int) := by omega
         obtain ⟨b, o, A', c', rfl, hb, k0, k1, k2, k3, k4, k5, k6⟩ := HM.out.2.1.kid (i := 0) hpos
         have bw := HM.out.2.2.2.1
         have z0 := (bw.cell (p := ⟨b, o + 0 * 4, none⟩) hb).trans k0
         have z1 := (bw.cell (p := ⟨b, o + 0 * 4 + 1, none⟩) hb).trans k1
         have z2 := (bw.cell (p := ⟨b, o + 0 * 4 + 2, none⟩) hb).trans k2
         have z3 := (bw.cell (p := ⟨b, o + 0 * 4 + 3, none⟩) hb).trans k3
         simp only [Nat.zero_mul, Nat.add_zero] at z0 z1 z2 z3
         have K4 := Lib.hid k4
         have HX := Lib.hid (fun h => HXX.out h hpos)
         have HMX := Lib.hid (many_kid (List.getElem_mem hpos))
         clear h0 k0 k1 k2 k3 k4 k5 k6 bw hb
         generalize m.kids[0] = x at *)
    all_goals (rcases b3 : (m.k == 23) with _ | _)
    all_goals go_wp2_with fail
    all_goals first
      | (go_ret
         refine ⟨?_, HM.out.2.2.2.1⟩
         rw [← HV.out, ← HM.out.1, baseN_stop (by first | exact .inr H0.out | exact .inl (HD.out.trans (G.out.symm.trans rfl))), b3]
         first | rfl | (exfalso; simp at b1 b2 b3; omega))
      | (go_roundg (many x)
         case rel => exact ⟨_, _, _, Lib.hid ⟨(HX.out (HD.out.trans (G.out.symm.trans rfl))).symm.trans HM.out.1, K4.out, blk_set4 HM.out.2.2.1 _ _ _ _, by have := HM.out.2.2.2.1; (repeat (first | with_reducible assumption | with_reducible exact Below.refl _ _ | (refine Below.setCell ?_ (by first | omega | (simp; done) | (simp; omega)) _) | (refine Below.drewN_ ?_ _) | (refine Below.drew ?_) | (refine Below.alloc ?_ (by first | omega | (simp; done) | (simp; omega)) _))), Nat.le_refl _⟩⟩
         case measure => exact Nat.lt_of_lt_of_le HMX.out HM.out.2.2.2.2)
end Go.Proofs.YtgegfbopogcjpaaDoor
