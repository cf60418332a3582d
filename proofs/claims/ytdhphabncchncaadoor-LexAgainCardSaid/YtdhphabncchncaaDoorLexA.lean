/- The scanner's small functions; how far a row of bytes goes on (scanner.run, at each of its three askers). -/
import Derived.Test.YtdhphabncchncaaDoorLexM
import Derived.Test.YtdhphabncchncaaDoorShelf
import Derived.Test.YtdhphabncchncaaDoorLib
import Derived.Deep.LoopGhost
import Derived.WalkKit
import Derived.Lib.Hide
import Derived.Deep.QuietTactic
import Derived.BigQuiet
import Derived.IntWalk
namespace Go.Proofs.YtdhphabncchncaaDoor
open Go.RowKit
set_option linter.unusedVariables false
set_option linter.unusedSimpArgs false
set_option maxRecDepth 100000
theorem lexLetter_any (c : Int) (w : World) : Calls Tryd.prog 17 #[.int .u8 c] w fun e w' => e = .returned (.bool (letterI c)) ∧ w' = w := by
  go_enter Tryd.func17, Tryd.ntmps17
  go_wp2
  all_goals go_ret
  all_goals refine ⟨?_, rfl⟩
  all_goals
    have e1 : letterI c = ((decide (97 ≤ c) && decide (c ≤ 122)) || (decide (65 ≤ c) && decide (c ≤ 90))) := rfl
    rw [e1]
    simp_all <;> (try omega)
theorem lexDigit_any (c : Int) (w : World) : Calls Tryd.prog 19 #[.int .u8 c] w fun e w' => e = .returned (.bool (digitI c)) ∧ w' = w := by
  go_enter Tryd.func19, Tryd.ntmps19
  go_wp2
  all_goals go_ret
  all_goals refine ⟨?_, rfl⟩
  all_goals
    have e1 : digitI c = (decide (48 ≤ c) && decide (c ≤ 57)) := rfl
    rw [e1]
    simp_all <;> (try omega)
theorem chr_or (c : Int) : chrI c = ((letterI c || digitI c) || c == 95) := by
  unfold chrI digitI
  cases letterI c <;> cases (c == 95) <;> simp
theorem chr_any (c : Int) (w : World) : Calls Tryd.prog 18 #[.int .u8 c] w fun e w' => e = .returned (.bool (chrI c)) ∧ w' = w := by
  go_enter Tryd.func18, Tryd.ntmps18
  go_wp2_with (first
    | (go_at_call 17; refine (lexLetter_any _ _).mono ?_; rintro e w' ⟨rfl, hw⟩; subst hw)
    | (go_at_call 19; refine (lexDigit_any _ _).mono ?_; rintro e w' ⟨rfl, hw⟩; subst hw))
  all_goals go_ret
  all_goals refine ⟨?_, rfl⟩
  all_goals
    rw [chr_or]
    simp_all
theorem blank_any (c : Int) (w : World) : Calls Tryd.prog 15 #[.int .u8 c] w fun e w' => e = .returned (.bool (blankI c)) ∧ w' = w := by
  go_enter Tryd.func15, Tryd.ntmps15
  go_wp2
  all_goals go_ret
  all_goals refine ⟨?_, rfl⟩
  all_goals
    have e1 : blankI c = (c == 32 || c == 10) := rfl
    rw [e1]
    simp_all
theorem line_any (c : Int) (w : World) : Calls Tryd.prog 16 #[.int .u8 c] w fun e w' => e = .returned (.bool (lineI c)) ∧ w' = w := by
  go_enter Tryd.func16, Tryd.ntmps16
  go_wp2
  all_goals go_ret
  all_goals refine ⟨?_, rfl⟩
  all_goals
    have e1 : lineI c = (c != 10) := rfl
    rw [e1]
    first | rfl | simp_all
/-- a scanner, in its block: the text, where it is, the fault -/
def Scn (w : World) (g : Nat) (s : ByteArray) (k : Nat) (e p : Int) : Prop := Blk w g 33 #[.string s, .int .i64 k, .int .i64 e, .int .i64 p]
/-- block g alone has turned, and no block has come -/
def Only (w w' : World) (g : Nat) : Prop := w.grownBy w' (some g) ∧ w'.heap.size = w.heap.size
theorem Only.refl_ (w : World) (g : Nat) : Only w w g := ⟨World.grownBy.refl w _, rfl⟩
theorem Only.trans_ {a b c : World} {g : Nat} (h : Only a b g) (k : Only b c g) : Only a c g :=
  ⟨⟨k.1.os.trans h.1.os, k.1.tape.trans h.1.tape, k.1.output.trans h.1.output, Nat.le_trans h.1.size k.1.size, fun i hi hn => (k.1.block i (Nat.lt_of_lt_of_le hi h.1.size) hn).trans (h.1.block i hi hn)⟩, k.2.trans h.2⟩
theorem Only.drewN_ {a w : World} {g : Nat} (h : Only a w g) (n : Nat) : Only a (w.drewN n) g := ⟨⟨h.1.os, h.1.tape, h.1.output, h.1.size, h.1.block⟩, h.2⟩
theorem Only.set_ {a w : World} {g : Nat} (h : Only a w g) (o : Nat) (u : Value) : Only a (w.setCell ⟨g, o, none⟩ u) g :=
  ⟨⟨h.1.os, h.1.tape, h.1.output, by simpa [World.setCell] using h.1.size, fun i hi hne => (Below.heap_setCell w ⟨g, o, none⟩ u i (fun e => hne (by rw [e]))).trans (h.1.block i hi hne)⟩, by rw [← h.2]; simp [World.setCell]⟩
def scanLeft (s : ByteArray) (g : Nat) (w : World) : Nat := match w.cell? ⟨g, 1, none⟩ with
  | some (.int _ j) => s.size - j.toNat
  | _ => 0
theorem scanLeft_at {s : ByteArray} {g : Nat} {w : World} {j : Nat} (h : w.cell? ⟨g, 1, none⟩ = some (.int .i64 j)) : scanLeft s g w = s.size - j := by
  unfold scanLeft
  rw [h]
  simp
/-- what run answers: the bytes; the scanner stands behind them -/
def RunOut (w : World) (g : Nat) (s : ByteArray) (k z : Nat) (ce cp : Int) (e : Ending) (w' : World) : Prop := e = .returned (.string (s.extract k z)) ∧ Scn w' g s z ce cp ∧ Only w w' g
theorem scn_set {w : World} {g j : Nat} {s : ByteArray} {e p : Int} (h : Scn w g s j e p) (n : Nat) : Scn ((w.drewN n).setCell ⟨g, 1, none⟩ (.int .i64 ((j : Int) + 1))) g s (j + 1) e p := by
  have := (Blk.drewN h n).set_ 1 (.int .i64 ((j : Int) + 1))
  exact this
theorem run_out {w wr : World} {g k j : Nat} {s : ByteArray} {ce cp : Int} {p : Int → Bool} (H : Hid (k ≤ j ∧ j ≤ s.size ∧ endOf s p j = endOf s p k ∧ Scn wr g s j ce cp ∧ Only w wr g)) (hz : endOf s p j = j) (n m : Nat) :
    RunOut w g s k (endOf s p k) ce cp (.returned (.string (s.extract k j))) ((wr.drewN n).drewN m) := by
  obtain ⟨-, -, h3, h4, h5⟩ := H.out
  rw [hz] at h3
  subst h3
  exact ⟨rfl, (Blk.drewN h4 n).drewN m, (h5.drewN_ n).drewN_ m⟩
theorem run_chr (g : Nat) (s : ByteArray) (k : Nat) (ce cp : Int) (w : World) (hk : k ≤ s.size) (hs : s.size ≤ 4000) (hb : Scn w g s k ce cp) :
    Calls Tryd.prog 14 #[.pointer (some ⟨g, 0, none⟩), .func (.func 18) #[] #[]] w (RunOut w g s k (endOf s chrI k) ce cp) := by
  have c0 := hb.cell 0 (.string s) rfl
  have c1 := hb.cell 1 (.int .i64 k) rfl
  have HB := Lib.hid hb
  clear hb
  have HE : Hid (∃ z, endOf s chrI k = z) := ⟨_, rfl⟩
  go_enter Tryd.func14, Tryd.ntmps14
  go_wp2_with fail
  go_loopw [] (fun wr => ∃ j : Nat, Hid (k ≤ j ∧ j ≤ s.size ∧ endOf s chrI j = endOf s chrI k ∧ Scn wr g s j ce cp ∧ Only w wr g)) (fun wr => scanLeft s g wr)
  case atStart => exact ⟨k, Lib.hid ⟨Nat.le_refl _, hk, rfl, HB.out, Only.refl_ _ _⟩⟩
  case round =>
    clear c0 c1
    obtain ⟨j, HJ⟩ := hrel
    have c0 := HJ.out.2.2.2.1.cell 0 (.string s) rfl
    have c1 := HJ.out.2.2.2.1.cell 1 (.int .i64 j) rfl
    have f1 := HJ.out.2.2.2.1.free 1
    have hj := HJ.out.2.1
    have hj0 : (0 : Int) ≤ (j : Int) := by omega
    have hkj := HJ.out.1
    by_cases hlt : j < s.size
    · have g1 : decide ((j : Int) < (s.size : Int)) = true := by rw [decide_eq_true_eq]; omega
      have g2 : (j : Int) < (s.size : Int) := by omega
      rcases hp : chrI (byteI s j) with _ | _
      · have hp' : chrI ((s[j]'hlt).toNat : Int) = false := by rw [← byteI_at hlt]; exact hp
        have HP := Lib.hid hp
        clear hp
        go_wp2_with fail
        go_quiet ((go_at_call 18; exact Calls.quiet_of_same (chr_any _ _)))
        go_wp2_with fail
        go_quiet (fail)
        go_wp2_with fail
        go_ret
        exact run_out HJ (endOf_stop fun _ => HP.out) _ _
      · have hp' : chrI ((s[j]'hlt).toNat : Int) = true := by rw [← byteI_at hlt]; exact hp
        have HP := Lib.hid hp
        clear hp
        go_wp2_with fail
        go_quiet ((go_at_call 18; exact Calls.quiet_of_same (chr_any _ _)))
        go_wp2_with fail
        go_roundw
        case rel => exact ⟨j + 1, Lib.hid ⟨by omega, by omega, (endOf_go hlt HP.out).symm.trans HJ.out.2.2.1, scn_set HJ.out.2.2.2.1 _, (HJ.out.2.2.2.2.drewN_ _).set_ _ _⟩⟩
        case measure =>
          rw [scanLeft_at c1, scanLeft_at ((scn_set HJ.out.2.2.2.1 _).cell 1 (.int .i64 ((j + 1 : Nat) : Int)) rfl)]
          omega
    · have g1 : decide ((j : Int) < (s.size : Int)) = false := by rw [decide_eq_false_iff_not]; omega
      go_wp2_with fail
      go_quiet (fail)
      go_wp2_with fail
      go_quiet (fail)
      go_wp2_with fail
      go_ret
      exact run_out HJ (endOf_stop fun h => absurd h hlt) _ _
theorem run_blank (g : Nat) (s : ByteArray) (k : Nat) (ce cp : Int) (w : World) (hk : k ≤ s.size) (hs : s.size ≤ 4000) (hb : Scn w g s k ce cp) :
    Calls Tryd.prog 14 #[.pointer (some ⟨g, 0, none⟩), .func (.func 15) #[] #[]] w (RunOut w g s k (endOf s blankI k) ce cp) := by
  have c0 := hb.cell 0 (.string s) rfl
  have c1 := hb.cell 1 (.int .i64 k) rfl
  have HB := Lib.hid hb
  clear hb
  have HE : Hid (∃ z, endOf s blankI k = z) := ⟨_, rfl⟩
  go_enter Tryd.func14, Tryd.ntmps14
  go_wp2_with fail
  go_loopw [] (fun wr => ∃ j : Nat, Hid (k ≤ j ∧ j ≤ s.size ∧ endOf s blankI j = endOf s blankI k ∧ Scn wr g s j ce cp ∧ Only w wr g)) (fun wr => scanLeft s g wr)
  case atStart => exact ⟨k, Lib.hid ⟨Nat.le_refl _, hk, rfl, HB.out, Only.refl_ _ _⟩⟩
  case round =>
    clear c0 c1
    obtain ⟨j, HJ⟩ := hrel
    have c0 := HJ.out.2.2.2.1.cell 0 (.string s) rfl
    have c1 := HJ.out.2.2.2.1.cell 1 (.int .i64 j) rfl
    have f1 := HJ.out.2.2.2.1.free 1
    have hj := HJ.out.2.1
    have hj0 : (0 : Int) ≤ (j : Int) := by omega
    have hkj := HJ.out.1
    by_cases hlt : j < s.size
    · have g1 : decide ((j : Int) < (s.size : Int)) = true := by rw [decide_eq_true_eq]; omega
      have g2 : (j : Int) < (s.size : Int) := by omega
      rcases hp : blankI (byteI s j) with _ | _
      · have hp' : blankI ((s[j]'hlt).toNat : Int) = false := by rw [← byteI_at hlt]; exact hp
        have HP := Lib.hid hp
        clear hp
        go_wp2_with fail
        go_quiet ((go_at_call 15; exact Calls.quiet_of_same (blank_any _ _)))
        go_wp2_with fail
        go_quiet (fail)
        go_wp2_with fail
        go_ret
        exact run_out HJ (endOf_stop fun _ => HP.out) _ _
      · have hp' : blankI ((s[j]'hlt).toNat : Int) = true := by rw [← byteI_at hlt]; exact hp
        have HP := Lib.hid hp
        clear hp
        go_wp2_with fail
        go_quiet ((go_at_call 15; exact Calls.quiet_of_same (blank_any _ _)))
        go_wp2_with fail
        go_roundw
        case rel => exact ⟨j + 1, Lib.hid ⟨by omega, by omega, (endOf_go hlt HP.out).symm.trans HJ.out.2.2.1, scn_set HJ.out.2.2.2.1 _, (HJ.out.2.2.2.2.drewN_ _).set_ _ _⟩⟩
        case measure =>
          rw [scanLeft_at c1, scanLeft_at ((scn_set HJ.out.2.2.2.1 _).cell 1 (.int .i64 ((j + 1 : Nat) : Int)) rfl)]
          omega
    · have g1 : decide ((j : Int) < (s.size : Int)) = false := by rw [decide_eq_false_iff_not]; omega
      go_wp2_with fail
      go_quiet (fail)
      go_wp2_with fail
      go_quiet (fail)
      go_wp2_with fail
      go_ret
      exact run_out HJ (endOf_stop fun h => absurd h hlt) _ _
theorem run_line (g : Nat) (s : ByteArray) (k : Nat) (ce cp : Int) (w : World) (hk : k ≤ s.size) (hs : s.size ≤ 4000) (hb : Scn w g s k ce cp) :
    Calls Tryd.prog 14 #[.pointer (some ⟨g, 0, none⟩), .func (.func 16) #[] #[]] w (RunOut w g s k (endOf s lineI k) ce cp) := by
  have c0 := hb.cell 0 (.string s) rfl
  have c1 := hb.cell 1 (.int .i64 k) rfl
  have HB := Lib.hid hb
  clear hb
  have HE : Hid (∃ z, endOf s lineI k = z) := ⟨_, rfl⟩
  go_enter Tryd.func14, Tryd.ntmps14
  go_wp2_with fail
  go_loopw [] (fun wr => ∃ j : Nat, Hid (k ≤ j ∧ j ≤ s.size ∧ endOf s lineI j = endOf s lineI k ∧ Scn wr g s j ce cp ∧ Only w wr g)) (fun wr => scanLeft s g wr)
  case atStart => exact ⟨k, Lib.hid ⟨Nat.le_refl _, hk, rfl, HB.out, Only.refl_ _ _⟩⟩
  case round =>
    clear c0 c1
    obtain ⟨j, HJ⟩ := hrel
    have c0 := HJ.out.2.2.2.1.cell 0 (.string s) rfl
    have c1 := HJ.out.2.2.2.1.cell 1 (.int .i64 j) rfl
    have f1 := HJ.out.2.2.2.1.free 1
    have hj := HJ.out.2.1
    have hj0 : (0 : Int) ≤ (j : Int) := by omega
    have hkj := HJ.out.1
    by_cases hlt : j < s.size
    · have g1 : decide ((j : Int) < (s.size : Int)) = true := by rw [decide_eq_true_eq]; omega
      have g2 : (j : Int) < (s.size : Int) := by omega
      rcases hp : lineI (byteI s j) with _ | _
      · have hp' : lineI ((s[j]'hlt).toNat : Int) = false := by rw [← byteI_at hlt]; exact hp
        have HP := Lib.hid hp
        clear hp
        go_wp2_with fail
        go_quiet ((go_at_call 16; exact Calls.quiet_of_same (line_any _ _)))
        go_wp2_with fail
        go_quiet (fail)
        go_wp2_with fail
        go_ret
        exact run_out HJ (endOf_stop fun _ => HP.out) _ _
      · have hp' : lineI ((s[j]'hlt).toNat : Int) = true := by rw [← byteI_at hlt]; exact hp
        have HP := Lib.hid hp
        clear hp
        go_wp2_with fail
        go_quiet ((go_at_call 16; exact Calls.quiet_of_same (line_any _ _)))
        go_wp2_with fail
        go_roundw
        case rel => exact ⟨j + 1, Lib.hid ⟨by omega, by omega, (endOf_go hlt HP.out).symm.trans HJ.out.2.2.1, scn_set HJ.out.2.2.2.1 _, (HJ.out.2.2.2.2.drewN_ _).set_ _ _⟩⟩
        case measure =>
          rw [scanLeft_at c1, scanLeft_at ((scn_set HJ.out.2.2.2.1 _).cell 1 (.int .i64 ((j + 1 : Nat) : Int)) rfl)]
          omega
    · have g1 : decide ((j : Int) < (s.size : Int)) = false := by rw [decide_eq_false_iff_not]; omega
      go_wp2_with fail
      go_quiet (fail)
      go_wp2_with fail
      go_quiet (fail)
      go_wp2_with fail
      go_ret
      exact run_out HJ (endOf_stop fun h => absurd h hlt) _ _
end Go.Proofs.YtdhphabncchncaaDoor
