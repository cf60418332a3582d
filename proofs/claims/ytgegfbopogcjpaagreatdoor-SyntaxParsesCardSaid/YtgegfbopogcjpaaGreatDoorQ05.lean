/- The scanner's small functions; how far a row of bytes goes on (scanner.run, at each of its three askers); scanner.blanks: what is passed over; The token of a row that begins with a digit (lex.number); The token of a row that begins with a digit (lex.number). -/
import Derived.Test.YtgegfbopogcjpaaGreatDoorQ01
import Derived.Test.YtgegfbopogcjpaaGreatDoorQ03
import Derived.Deep.LoopGhost
import Derived.WalkKit
import Derived.Lib.Hide
import Derived.Deep.QuietTactic
import Derived.BigQuiet
import Derived.IntWalk
import Derived.ScopeJumps
import Derived.WalkMore
import Derived.Shelf.Strings.SlTrimAscii
import Derived.WalkSpells
import Derived.LaidMore
namespace Go.Proofs.YtgegfbopogcjpaaGreatDoor
open Go.RowKit
set_option linter.unusedVariables false
set_option linter.unusedSimpArgs false
set_option maxRecDepth 100000
theorem lexLetter_any (c : Int) (w : World) : Calls Tryz.prog 64 #[.int .u8 c] w fun e w' => e = .returned (.bool (letterI c)) ∧ w' = w := by
 go_enter Tryz.func64, Tryz.ntmps64
 go_wp2
 all_goals go_ret
 all_goals refine ⟨?_, rfl⟩
 all_goals
  have e1 : letterI c = ((decide (97 ≤ c) && decide (c ≤ 122)) || (decide (65 ≤ c) && decide (c ≤ 90))) := rfl
  rw [e1]
  simp_all <;> (try omega)
theorem lexDigit_any (c : Int) (w : World) : Calls Tryz.prog 66 #[.int .u8 c] w fun e w' => e = .returned (.bool (digitI c)) ∧ w' = w := by
 go_enter Tryz.func66, Tryz.ntmps66
 go_wp2
 all_goals go_ret
 all_goals refine ⟨?_, rfl⟩
 all_goals
  have e1 : digitI c = (decide (48 ≤ c) && decide (c ≤ 57)) := rfl
  rw [e1]
  simp_all <;> (try omega)
theorem chr_or (c : Int) : chrI c = ((letterI c || digitI c) || c == 95) := by
 unfold chrI digitI
 cases letterI c <;> cases (c == 95) <;> simp
theorem chr_any (c : Int) (w : World) : Calls Tryz.prog 65 #[.int .u8 c] w fun e w' => e = .returned (.bool (chrI c)) ∧ w' = w := by
 go_enter Tryz.func65, Tryz.ntmps65
 go_wp2_with (first
  | (go_at_call 64; refine (lexLetter_any _ _).mono ?_; rintro e w' ⟨rfl, hw⟩; subst hw)
  | (go_at_call 66; refine (lexDigit_any _ _).mono ?_; rintro e w' ⟨rfl, hw⟩; subst hw))
 all_goals go_ret
 all_goals refine ⟨?_, rfl⟩
 all_goals
  rw [chr_or]
  simp_all
theorem blank_any (c : Int) (w : World) : Calls Tryz.prog 62 #[.int .u8 c] w fun e w' => e = .returned (.bool (blankI c)) ∧ w' = w := by
 go_enter Tryz.func62, Tryz.ntmps62
 go_wp2
 all_goals go_ret
 all_goals refine ⟨?_, rfl⟩
 all_goals
  have e1 : blankI c = (c == 32 || c == 10) := rfl
  rw [e1]
  simp_all
theorem line_any (c : Int) (w : World) : Calls Tryz.prog 63 #[.int .u8 c] w fun e w' => e = .returned (.bool (lineI c)) ∧ w' = w := by
 go_enter Tryz.func63, Tryz.ntmps63
 go_wp2
 all_goals go_ret
 all_goals refine ⟨?_, rfl⟩
 all_goals
  have e1 : lineI c = (c != 10) := rfl
  rw [e1]
  first | rfl | simp_all
def Scn (w : World) (g : Nat) (s : ByteArray) (k : Nat) (e p : Int) : Prop := Blk w g 63 #[.string s, .int .i64 k, .int .i64 e, .int .i64 p]
def Only (w w' : World) (g : Nat) : Prop := w.grownBy w' (some g) ∧ w'.heap.size = w.heap.size
theorem Only.refl_ (w : World) (g : Nat) : Only w w g := ⟨World.grownBy.refl w _, rfl⟩
theorem Only.trans_ {a b c : World} {g : Nat} (h : Only a b g) (k : Only b c g) : Only a c g :=
 ⟨⟨k.1.os.trans h.1.os, k.1.tape.trans h.1.tape, k.1.output.trans h.1.output, Nat.le_trans h.1.size k.1.size, fun i hi hn => (k.1.block i (Nat.lt_of_lt_of_le hi h.1.size) hn).trans (h.1.block i hi hn)⟩, k.2.trans h.2⟩
theorem Only.drewN_ {a w : World} {g : Nat} (h : Only a w g) (n : Nat) : Only a (w.drewN n) g := ⟨⟨h.1.os, h.1.tape, h.1.output, h.1.size, h.1.block⟩, h.2⟩
theorem Only.set_ {a w : World} {g : Nat} (h : Only a w g) (o : Nat) (u : Value) : Only a (w.setCell ⟨g, o, none⟩ u) g :=
 ⟨⟨h.1.os, h.1.tape, h.1.output, by simpa [World.setCell] using h.1.size, fun i hi hne => (Below.heap_setCell w ⟨g, o, none⟩ u i (fun e => hne (by rw [e]))).trans (h.1.block i hi hne)⟩, by rw [← h.2]; simp [World.setCell]⟩
def scanLeft (s : ByteArray) (g : Nat) (w : World) : Nat := match w.cell? ⟨g, 1, none⟩ with
 | some (.int _ j) => s.size - j.toNat
 | _ => 0
theorem scanLeft_at {s : ByteArray} {g : Nat} {w : World} {j : Nat} (h : w.cell? ⟨g, 1, none⟩ = some (.int .i64 j)) : scanLeft s g w = s.size - j := by
 unfold scanLeft
 rw [h]
 simp
def RunOut (w : World) (g : Nat) (s : ByteArray) (k z : Nat) (ce cp : Int) (e : Ending) (w' : World) : Prop := e = .returned (.string (s.extract k z)) ∧ Scn w' g s z ce cp ∧ Only w w' g
theorem scn_set {w : World} {g j : Nat} {s : ByteArray} {e p : Int} (h : Scn w g s j e p) (n : Nat) : Scn ((w.drewN n).setCell ⟨g, 1, none⟩ (.int .i64 ((j : Int) + 1))) g s (j + 1) e p := by
 have := (Blk.drewN h n).set_ 1 (.int .i64 ((j : Int) + 1))
 exact this
theorem run_out {w wr : World} {g k j : Nat} {s : ByteArray} {ce cp : Int} {p : Int → Bool} (H : Hid (k ≤ j ∧ j ≤ s.size ∧ endOf s p j = endOf s p k ∧ Scn wr g s j ce cp ∧ Only w wr g)) (hz : endOf s p j = j) (n m : Nat) :
 RunOut w g s k (endOf s p k) ce cp (.returned (.string (s.extract k j))) ((wr.drewN n).drewN m) := by
 obtain ⟨-, -, h3, h4, h5⟩ := H.out
 rw [hz] at h3
 subst h3
 exact ⟨rfl, (Blk.drewN h4 n).drewN m, (h5.drewN_ n).drewN_ m⟩
theorem run_chr (g : Nat) (s : ByteArray) (k : Nat) (ce cp : Int) (w : World) (hk : k ≤ s.size) (hs : s.size ≤ 4000) (hb : Scn w g s k ce cp) :
 Calls Tryz.prog 61 #[.pointer (some ⟨g, 0, none⟩), .func (.func 65) #[] #[]] w (RunOut w g s k (endOf s chrI k) ce cp) := by
 have c0 := hb.cell 0 (.string s) rfl
 have c1 := hb.cell 1 (.int .i64 k) rfl
 have HB := Lib.hid hb
 clear hb
 have HE : Hid (∃ z, endOf s chrI k = z) := ⟨_, rfl⟩
 go_enter Tryz.func61, Tryz.ntmps61
 go_wp2_with fail
 go_loopw [] (fun wr => ∃ j : Nat, Hid (k ≤ j ∧ j ≤ s.size ∧ endOf s chrI j = endOf s chrI k ∧ Scn wr g s j ce cp ∧ Only w wr g)) (fun wr => scanLeft s g wr)
 case atStart => exact ⟨k, Lib.hid ⟨Nat.le_refl _, hk, rfl, HB.out, Only.refl_ _ _⟩⟩
 case round =>
  clear c0 c1
  obtain ⟨j, HJ⟩ := hrel
  have c0 := HJ.out.2.2.2.1.cell 0 (.string s) rfl
  have c1 := HJ.out.2.2.2.1.cell 1 (.int .i64 j) rfl
  have f1 := HJ.out.2.2.2.1.free 1
  have hj := HJ.out.2.1
  have hj0 : (0 : Int) ≤ (j : Int) := by omega
  have hkj := HJ.out.1
  by_cases hlt : j < s.size
  ·have g1 : decide ((j : Int) < (s.size : Int)) = true := by rw [decide_eq_true_eq]; omega
   have g2 : (j : Int) < (s.size : Int) := by omega
   rcases hp : chrI (byteI s j) with _ | _
   ·have hp' : chrI ((s[j]'hlt).toNat : Int) = false := by rw [← byteI_at hlt]; exact hp
    have HP := Lib.hid hp
    clear hp
    go_wp2_with fail
    go_quiet ((go_at_call 65; exact Calls.quiet_of_same (chr_any _ _)))
    go_wp2_with fail
    go_quiet (fail)
    go_wp2_with fail
    go_ret
    exact run_out HJ (endOf_stop fun _ => HP.out) _ _
   ·have hp' : chrI ((s[j]'hlt).toNat : Int) = true := by rw [← byteI_at hlt]; exact hp
    have HP := Lib.hid hp
    clear hp
    go_wp2_with fail
    go_quiet ((go_at_call 65; exact Calls.quiet_of_same (chr_any _ _)))
    go_wp2_with fail
    go_roundw
    case rel => exact ⟨j + 1, Lib.hid ⟨by omega, by omega, (endOf_go hlt HP.out).symm.trans HJ.out.2.2.1, scn_set HJ.out.2.2.2.1 _, (HJ.out.2.2.2.2.drewN_ _).set_ _ _⟩⟩
    case measure =>
     rw [scanLeft_at c1, scanLeft_at ((scn_set HJ.out.2.2.2.1 _).cell 1 (.int .i64 ((j + 1 : Nat) : Int)) rfl)]
     omega
  ·have g1 : decide ((j : Int) < (s.size : Int)) = false := by rw [decide_eq_false_iff_not]; omega
   go_wp2_with fail
   go_quiet (fail)
   go_wp2_with fail
   go_quiet (fail)
   go_wp2_with fail
   go_ret
   exact run_out HJ (endOf_stop fun h => absurd h hlt) _ _
theorem run_blank (g : Nat) (s : ByteArray) (k : Nat) (ce cp : Int) (w : World) (hk : k ≤ s.size) (hs : s.size ≤ 4000) (hb : Scn w g s k ce cp) :
 Calls Tryz.prog 61 #[.pointer (some ⟨g, 0, none⟩), .func (.func 62) #[] #[]] w (RunOut w g s k (endOf s blankI k) ce cp) := by
 have c0 := hb.cell 0 (.string s) rfl
 have c1 := hb.cell 1 (.int .i64 k) rfl
 have HB := Lib.hid hb
 clear hb
 have HE : Hid (∃ z, endOf s blankI k = z) := ⟨_, rfl⟩
 go_enter Tryz.func61, Tryz.ntmps61
 go_wp2_with fail
 go_loopw [] (fun wr => ∃ j : Nat, Hid (k ≤ j ∧ j ≤ s.size ∧ endOf s blankI j = endOf s blankI k ∧ Scn wr g s j ce cp ∧ Only w wr g)) (fun wr => scanLeft s g wr)
 case atStart => exact ⟨k, Lib.hid ⟨Nat.le_refl _, hk, rfl, HB.out, Only.refl_ _ _⟩⟩
 case round =>
  clear c0 c1
  obtain ⟨j, HJ⟩ := hrel
  have c0 := HJ.out.2.2.2.1.cell 0 (.string s) rfl
  have c1 := HJ.out.2.2.2.1.cell 1 (.int .i64 j) rfl
  have f1 := HJ.out.2.2.2.1.free 1
  have hj := HJ.out.2.1
  have hj0 : (0 : Int) ≤ (j : Int) := by omega
  have hkj := HJ.out.1
  by_cases hlt : j < s.size
  ·have g1 : decide ((j : Int) < (s.size : Int)) = true := by rw [decide_eq_true_eq]; omega
   have g2 : (j : Int) < (s.size : Int) := by omega
   rcases hp : blankI (byteI s j) with _ | _
   ·have hp' : blankI ((s[j]'hlt).toNat : Int) = false := by rw [← byteI_at hlt]; exact hp
    have HP := Lib.hid hp
    clear hp
    go_wp2_with fail
    go_quiet ((go_at_call 62; exact Calls.quiet_of_same (blank_any _ _)))
    go_wp2_with fail
    go_quiet (fail)
    go_wp2_with fail
    go_ret
    exact run_out HJ (endOf_stop fun _ => HP.out) _ _
   ·have hp' : blankI ((s[j]'hlt).toNat : Int) = true := by rw [← byteI_at hlt]; exact hp
    have HP := Lib.hid hp
    clear hp
    go_wp2_with fail
    go_quiet ((go_at_call 62; exact Calls.quiet_of_same (blank_any _ _)))
    go_wp2_with fail
    go_roundw
    case rel => exact ⟨j + 1, Lib.hid ⟨by omega, by omega, (endOf_go hlt HP.out).symm.trans HJ.out.2.2.1, scn_set HJ.out.2.2.2.1 _, (HJ.out.2.2.2.2.drewN_ _).set_ _ _⟩⟩
    case measure =>
     rw [scanLeft_at c1, scanLeft_at ((scn_set HJ.out.2.2.2.1 _).cell 1 (.int .i64 ((j + 1 : Nat) : Int)) rfl)]
     omega
  ·have g1 : decide ((j : Int) < (s.size : Int)) = false := by rw [decide_eq_false_iff_not]; omega
   go_wp2_with fail
   go_quiet (fail)
   go_wp2_with fail
   go_quiet (fail)
   go_wp2_with fail
   go_ret
   exact run_out HJ (endOf_stop fun h => absurd h hlt) _ _
theorem run_line (g : Nat) (s : ByteArray) (k : Nat) (ce cp : Int) (w : World) (hk : k ≤ s.size) (hs : s.size ≤ 4000) (hb : Scn w g s k ce cp) :
 Calls Tryz.prog 61 #[.pointer (some ⟨g, 0, none⟩), .func (.func 63) #[] #[]] w (RunOut w g s k (endOf s lineI k) ce cp) := by
 have c0 := hb.cell 0 (.string s) rfl
 have c1 := hb.cell 1 (.int .i64 k) rfl
 have HB := Lib.hid hb
 clear hb
 have HE : Hid (∃ z, endOf s lineI k = z) := ⟨_, rfl⟩
 go_enter Tryz.func61, Tryz.ntmps61
 go_wp2_with fail
 go_loopw [] (fun wr => ∃ j : Nat, Hid (k ≤ j ∧ j ≤ s.size ∧ endOf s lineI j = endOf s lineI k ∧ Scn wr g s j ce cp ∧ Only w wr g)) (fun wr => scanLeft s g wr)
 case atStart => exact ⟨k, Lib.hid ⟨Nat.le_refl _, hk, rfl, HB.out, Only.refl_ _ _⟩⟩
 case round =>
  clear c0 c1
  obtain ⟨j, HJ⟩ := hrel
  have c0 := HJ.out.2.2.2.1.cell 0 (.string s) rfl
  have c1 := HJ.out.2.2.2.1.cell 1 (.int .i64 j) rfl
  have f1 := HJ.out.2.2.2.1.free 1
  have hj := HJ.out.2.1
  have hj0 : (0 : Int) ≤ (j : Int) := by omega
  have hkj := HJ.out.1
  by_cases hlt : j < s.size
  ·have g1 : decide ((j : Int) < (s.size : Int)) = true := by rw [decide_eq_true_eq]; omega
   have g2 : (j : Int) < (s.size : Int) := by omega
   rcases hp : lineI (byteI s j) with _ | _
   ·have hp' : lineI ((s[j]'hlt).toNat : Int) = false := by rw [← byteI_at hlt]; exact hp
    have HP := Lib.hid hp
    clear hp
    go_wp2_with fail
    go_quiet ((go_at_call 63; exact Calls.quiet_of_same (line_any _ _)))
    go_wp2_with fail
    go_quiet (fail)
    go_wp2_with fail
    go_ret
    exact run_out HJ (endOf_stop fun _ => HP.out) _ _
   ·have hp' : lineI ((s[j]'hlt).toNat : Int) = true := by rw [← byteI_at hlt]; exact hp
    have HP := Lib.hid hp
    clear hp
    go_wp2_with fail
    go_quiet ((go_at_call 63; exact Calls.quiet_of_same (line_any _ _)))
    go_wp2_with fail
    go_roundw
    case rel => exact ⟨j + 1, Lib.hid ⟨by omega, by omega, (endOf_go hlt HP.out).symm.trans HJ.out.2.2.1, scn_set HJ.out.2.2.2.1 _, (HJ.out.2.2.2.2.drewN_ _).set_ _ _⟩⟩
    case measure =>
     rw [scanLeft_at c1, scanLeft_at ((scn_set HJ.out.2.2.2.1 _).cell 1 (.int .i64 ((j + 1 : Nat) : Int)) rfl)]
     omega
  ·have g1 : decide ((j : Int) < (s.size : Int)) = false := by rw [decide_eq_false_iff_not]; omega
   go_wp2_with fail
   go_quiet (fail)
   go_wp2_with fail
   go_quiet (fail)
   go_wp2_with fail
   go_ret
   exact run_out HJ (endOf_stop fun h => absurd h hlt) _ _
end Go.Proofs.YtgegfbopogcjpaaGreatDoor
namespace Go.Proofs.YtgegfbopogcjpaaGreatDoor
open Go.RowKit
set_option linter.unusedVariables false
set_option linter.unusedSimpArgs false
set_option maxRecDepth 100000
set_option maxHeartbeats 1000000
theorem results_none_ {fn : Func} (h : fn.results = #[]) (tmps : Array Value) (P : Program) (w : World) : (results fn tmps).run P w = .ok (.tuple #[]) w := by simp [results, h]
def BlOut (w : World) (g : Nat) (s : ByteArray) (z : Nat) (ce cp : Int) (e : Ending) (w' : World) : Prop := e = .returned (.tuple #[]) ∧ Scn w' g s z ce cp ∧ Only w w' g
def BlAt (w : World) (g : Nat) (s : ByteArray) (k j : Nat) (ce cp : Int) (w' : World) : Prop := j ≤ s.size ∧ skip s false j = skip s false k ∧ Scn w' g s j ce cp ∧ Only w w' g
def BlJ (w : World) (g : Nat) (s : ByteArray) (k : Nat) (ce cp : Int) (a : Act) (w' : World) : Prop := ∃ (j : Nat) (u2 u3 u4 u5 u6 u7 u8 u9 u10 u11 u12 u13 u14 u15 u16 u17 u18 u19 u20 u21 u22 u23 u24 u25 u26 u27 : Value), BlAt w g s k j ce cp w' ∧ a = { tmps := #[.pointer (some ⟨g, 0, none⟩), undef, u2, u3, u4, u5, u6, u7, u8, u9, u10, u11, u12, u13, u14, u15, u16, u17, u18, u19, u20, u21, u22, u23, u24, u25, u26, u27], defers := [] }
theorem blanks_any (g : Nat) (s : ByteArray) (k : Nat) (ce cp : Int) (w : World) (hk : k ≤ s.size) (hs : s.size ≤ 4000) (hb : Scn w g s k ce cp) :
 Calls Tryz.prog 22 #[.pointer (some ⟨g, 0, none⟩)] w (BlOut w g s (skip s false k) ce cp) := by
 have HB := Lib.hid hb
 clear hb
 go_enter Tryz.func22, Tryz.ntmps22
 go_wp2_with fail
 refine wp_scope_jumps 0 (BlJ w g s k ce cp) (fun _ wr => scanLeft s g wr) rfl ?_ ?_
 ·obtain ⟨j, hjk⟩ : ∃ j, j = k := ⟨k, rfl⟩
  have HJ : Hid (BlAt w g s k j ce cp w) := by subst hjk; exact ⟨hk, rfl, HB.out, Only.refl_ _ _⟩
  clear hjk
  go_wp2_with fail
  go_step3
  go_wp2_with fail
  refine (run_blank g s j ce cp _ HJ.out.1 hs HJ.out.2.2.1).mono ?_
  rintro e w1 ⟨rfl, hs1, ho1⟩
  have hj := HJ.out.1
  have hle : endOf s blankI j ≤ s.size := endOf_le hj
  have hge : j ≤ endOf s blankI j := endOf_ge
  have HS : Hid (skip s false (endOf s blankI j) = skip s false k) := by
   show _ = _
   rw [← skip_blanks]; exact HJ.out.2.1
  have HEND : Hid (endOf s blankI j < s.size → blankI (byteI s (endOf s blankI j)) = false) := fun h => endOf_end h
  have c0 := hs1.cell 0 (.string s) rfl
  have c1 := hs1.cell 1 (.int .i64 (endOf s blankI j : Nat)) rfl
  have HO1 := Lib.hid (HJ.out.2.2.2.trans_ ho1)
  have HS1 := Lib.hid hs1
  have HM : Hid (scanLeft s g w = s.size - j) := scanLeft_at (HJ.out.2.2.1.cell 1 (.int .i64 (j : Nat)) rfl)
  clear hs1 ho1
  generalize endOf s blankI j = j1 at *
  have hj0 : (0 : Int) ≤ (j1 : Int) := by omega
  by_cases hlt : j1 < s.size
  ·have g1 : decide ((j1 : Int) < (s.size : Int)) = true := by rw [decide_eq_true_eq]; omega
   have g2 : (j1 : Int) < (s.size : Int) := by omega
   rcases Bool.eq_false_or_eq_true (byteI s j1 == 35) with hp | hp
   ·have hp' : (((s[j1]'hlt).toNat : Int) == 35) = true := by rw [← byteI_at hlt]; exact hp
    have HP := Lib.hid hp
    clear hp
    go_wp2_with fail
    go_quiet (fail)
    go_wp2_with fail
    refine (run_line g s j1 ce cp _ hle hs (Blk.drewN HS1.out _)).mono ?_
    rintro e w2 ⟨rfl, hs2, ho2⟩
    have hgt : j1 < endOf s lineI j1 := by
     rw [endOf_go hlt (by have h := HP.out; rw [beq_iff_eq] at h; rw [h]; rfl)]
     exact endOf_ge
    have hle2 : endOf s lineI j1 ≤ s.size := endOf_le hle
    have HS2 : Hid (skip s false (endOf s lineI j1) = skip s false k) := by
     show _ = _
     rw [← skip_note hlt (by have h := HP.out; rwa [beq_iff_eq] at h)]; exact HS.out
    have HQ := Lib.hid hs2
    have HO2 := Lib.hid ((HO1.out.drewN_ _).trans_ ho2)
    clear hs2 ho2
    generalize endOf s lineI j1 = j2 at *
    go_wp2_with fail
    go_step3
    exact ⟨rfl, j2, _, _, _, _, _, _, _, _, _, _, _, _, _, _, _, _, _, _, _, _, _, _, _, _, _, _, ⟨hle2, HS2.out, HQ.out, HO2.out⟩, rfl⟩
   ·have hp' : (((s[j1]'hlt).toNat : Int) == 35) = false := by rw [← byteI_at hlt]; exact hp
    have HP := Lib.hid hp
    clear hp
    go_wp2_with fail
    go_quiet (fail)
    go_wp2_with fail
    simp only [Exit.jump]
    refine bodyPost_ret (results_none_ rfl _ _ _) rfl ?_
    have hz : skip s false j1 = j1 := skip_here hlt (HEND.out hlt) (by have h := HP.out; rwa [beq_eq_false_iff_ne] at h)
    have hkz := HS.out
    rw [hz] at hkz
    exact ⟨rfl, by rw [← hkz]; exact Blk.drewN HS1.out _, HO1.out.drewN_ _⟩
  ·have g1 : decide ((j1 : Int) < (s.size : Int)) = false := by rw [decide_eq_false_iff_not]; omega
   go_wp2_with fail
   go_quiet (fail)
   go_wp2_with fail
   simp only [Exit.jump]
   refine bodyPost_ret (results_none_ rfl _ _ _) rfl ?_
   have hz : skip s false j1 = j1 := skip_stop (fun h => absurd h hlt)
   have hkz := HS.out
   rw [hz] at hkz
   exact ⟨rfl, by rw [← hkz]; exact Blk.drewN HS1.out _, HO1.out.drewN_ _⟩
 ·rintro a wr ⟨j, u2, u3, u4, u5, u6, u7, u8, u9, u10, u11, u12, u13, u14, u15, u16, u17, u18, u19, u20, u21, u22, u23, u24, u25, u26, u27, HJ0, rfl⟩
  have HJ := Lib.hid HJ0
  clear HJ0
  go_wp2_with fail
  refine (run_blank g s j ce cp _ HJ.out.1 hs HJ.out.2.2.1).mono ?_
  rintro e w1 ⟨rfl, hs1, ho1⟩
  have hj := HJ.out.1
  have hle : endOf s blankI j ≤ s.size := endOf_le hj
  have hge : j ≤ endOf s blankI j := endOf_ge
  have HS : Hid (skip s false (endOf s blankI j) = skip s false k) := by
   show _ = _
   rw [← skip_blanks]; exact HJ.out.2.1
  have HEND : Hid (endOf s blankI j < s.size → blankI (byteI s (endOf s blankI j)) = false) := fun h => endOf_end h
  have c0 := hs1.cell 0 (.string s) rfl
  have c1 := hs1.cell 1 (.int .i64 (endOf s blankI j : Nat)) rfl
  have HO1 := Lib.hid (HJ.out.2.2.2.trans_ ho1)
  have HS1 := Lib.hid hs1
  have HM : Hid (scanLeft s g wr = s.size - j) := scanLeft_at (HJ.out.2.2.1.cell 1 (.int .i64 (j : Nat)) rfl)
  clear hs1 ho1
  generalize endOf s blankI j = j1 at *
  have hj0 : (0 : Int) ≤ (j1 : Int) := by omega
  by_cases hlt : j1 < s.size
  ·have g1 : decide ((j1 : Int) < (s.size : Int)) = true := by rw [decide_eq_true_eq]; omega
   have g2 : (j1 : Int) < (s.size : Int) := by omega
   rcases Bool.eq_false_or_eq_true (byteI s j1 == 35) with hp | hp
   ·have hp' : (((s[j1]'hlt).toNat : Int) == 35) = true := by rw [← byteI_at hlt]; exact hp
    have HP := Lib.hid hp
    clear hp
    go_wp2_with fail
    go_quiet (fail)
    go_wp2_with fail
    refine (run_line g s j1 ce cp _ hle hs (Blk.drewN HS1.out _)).mono ?_
    rintro e w2 ⟨rfl, hs2, ho2⟩
    have hgt : j1 < endOf s lineI j1 := by
     rw [endOf_go hlt (by have h := HP.out; rw [beq_iff_eq] at h; rw [h]; rfl)]
     exact endOf_ge
    have hle2 : endOf s lineI j1 ≤ s.size := endOf_le hle
    have HS2 : Hid (skip s false (endOf s lineI j1) = skip s false k) := by
     show _ = _
     rw [← skip_note hlt (by have h := HP.out; rwa [beq_iff_eq] at h)]; exact HS.out
    have HQ := Lib.hid hs2
    have HO2 := Lib.hid ((HO1.out.drewN_ _).trans_ ho2)
    clear hs2 ho2
    generalize endOf s lineI j1 = j2 at *
    go_wp2_with fail
    go_step3
    refine ⟨rfl, ⟨j2, _, _, _, _, _, _, _, _, _, _, _, _, _, _, _, _, _, _, _, _, _, _, _, _, _, _, ⟨hle2, HS2.out, HQ.out, HO2.out⟩, rfl⟩, ?_⟩
    have hm := HM.out
    show scanLeft s g w2 < scanLeft s g wr
    rw [hm, scanLeft_at (HQ.out.cell 1 (.int .i64 (j2 : Nat)) rfl)]
    omega
   ·have hp' : (((s[j1]'hlt).toNat : Int) == 35) = false := by rw [← byteI_at hlt]; exact hp
    have HP := Lib.hid hp
    clear hp
    go_wp2_with fail
    go_quiet (fail)
    go_wp2_with fail
    simp only [Exit.jump]
    refine bodyPost_ret (results_none_ rfl _ _ _) rfl ?_
    have hz : skip s false j1 = j1 := skip_here hlt (HEND.out hlt) (by have h := HP.out; rwa [beq_eq_false_iff_ne] at h)
    have hkz := HS.out
    rw [hz] at hkz
    exact ⟨rfl, by rw [← hkz]; exact Blk.drewN HS1.out _, HO1.out.drewN_ _⟩
  ·have g1 : decide ((j1 : Int) < (s.size : Int)) = false := by rw [decide_eq_false_iff_not]; omega
   go_wp2_with fail
   go_quiet (fail)
   go_wp2_with fail
   simp only [Exit.jump]
   refine bodyPost_ret (results_none_ rfl _ _ _) rfl ?_
   have hz : skip s false j1 = j1 := skip_stop (fun h => absurd h hlt)
   have hkz := HS.out
   rw [hz] at hkz
   exact ⟨rfl, by rw [← hkz]; exact Blk.drewN HS1.out _, HO1.out.drewN_ _⟩
end Go.Proofs.YtgegfbopogcjpaaGreatDoor
namespace Go.Proofs.YtgegfbopogcjpaaGreatDoor
open Go.RowKit Go.Shelf
set_option linter.unusedVariables false
set_option linter.unusedSimpArgs false
set_option maxRecDepth 100000
set_option maxHeartbeats 1000000
def ER (w : World) : Prop := ∃ tp p, w.var? Tryz.prog "strconv.ErrRange" = some #[.iface tp p]
theorem ER.keep {w w' : World} (h : ER w) (hb : Below w.heap.size w w') : ER w' := by
 obtain ⟨tp, p, h⟩ := h
 refine ⟨tp, p, ?_⟩
 unfold World.var? at h ⊢
 cases hg : Tryz.prog.globalNamed "strconv.ErrRange" with
 | none => rw [hg] at h; cases h
 | some g =>
  rw [hg] at h
  simp only [Option.bind_some] at h ⊢
  have hlt : g < w.heap.size := by
   rcases Nat.lt_or_ge g w.heap.size with h' | h'
   ·exact h'
   ·rw [Array.getElem?_eq_none h'] at h; cases h
  rw [hb.block g hlt]
  exact h
theorem ER.only {w w' : World} {g : Nat} (h : ER w) (ho : Only w w' g) (hg : ∀ k, Tryz.prog.globalNamed "strconv.ErrRange" = some k → k ≠ g) : ER w' := by
 obtain ⟨tp, p, h⟩ := h
 refine ⟨tp, p, ?_⟩
 unfold World.var? at h ⊢
 cases hk : Tryz.prog.globalNamed "strconv.ErrRange" with
 | none => rw [hk] at h; cases h
 | some k =>
  rw [hk] at h
  simp only [Option.bind_some] at h ⊢
  have hlt : k < w.heap.size := by
   rcases Nat.lt_or_ge k w.heap.size with h' | h'
   ·exact h'
   ·rw [Array.getElem?_eq_none h'] at h; cases h
  rw [ho.1.block k hlt (fun e => hg k hk (by injection e))]
  exact h
def tenB : ByteArray := ⟨#[48, 49, 50, 51, 52, 53, 54, 55, 56, 57]⟩
theorem ten_dig (b : UInt8) : tenB.data.toList.contains b = digU b := by
 rw [Bool.eq_iff_iff, digU_iff, List.contains_iff_mem]
 simp only [tenB, List.mem_cons, List.not_mem_nil, or_false, ← UInt8.toNat_inj]
 simp
 omega
theorem dw_nil {p : UInt8 → Bool} {l : List UInt8} : l.dropWhile p = [] ↔ ∀ b ∈ l, p b = true := by
 induction l with
 | nil => simp
 | cons b l ih =>
  rw [List.dropWhile_cons]
  split
  ·rename_i h; rw [ih]; simp [h]
  ·rename_i h; simp [h]
theorem trim_all {s : ByteArray} (h : allDigits s = true) : Lib.trimS s.data.toList tenB.data.toList = [] := by
 have h' : ∀ b ∈ s.data.toList, digU b = true := by
  unfold allDigits at h; rw [List.all_eq_true] at h; exact h
 have e : Lib.trimRightS s.data.toList tenB.data.toList = [] := by
  unfold Lib.trimRightS
  rw [dw_nil.2]
  ·rfl
  ·intro b hb
   rw [ten_dig]
   exact h' b (List.mem_reverse.1 hb)
 rw [Lib.trimS, e]
 rfl
theorem trim_some {s : ByteArray} (h : allDigits s = false) : ∃ b r, Lib.trimS s.data.toList tenB.data.toList = b :: r := by
 rcases e : Lib.trimS s.data.toList tenB.data.toList with _ | ⟨b, r⟩
 ·exfalso
  have h' : ∃ b ∈ s.data.toList, digU b = false := by
   unfold allDigits at h
   rw [List.all_eq_false] at h
   obtain ⟨b, hb, h1⟩ := h
   refine ⟨b, hb, ?_⟩
   rcases h2 : digU b with _ | _
   ·rfl
   ·exact absurd h2 h1
  obtain ⟨b, hb, hn⟩ := h'
  unfold Lib.trimS Lib.trimLeftS at e
  rw [dw_nil] at e
  have hd : (s.data.toList.reverse.dropWhile (tenB.data.toList.contains ·)) = [] ∨ ∃ c r, s.data.toList.reverse.dropWhile (tenB.data.toList.contains ·) = c :: r := by
   cases s.data.toList.reverse.dropWhile (tenB.data.toList.contains ·) with
   | nil => exact .inl rfl
   | cons c r => exact .inr ⟨c, r, rfl⟩
  rcases hd with hd | ⟨c, r, hd⟩
  ·rw [dw_nil] at hd
   have := hd b (List.mem_reverse.2 hb)
   rw [ten_dig, hn] at this
   cases this
  ·have hc : tenB.data.toList.contains c = false := by
    have := List.head?_dropWhile_not (tenB.data.toList.contains ·) s.data.toList.reverse
    rw [hd] at this
    simpa using this
   have hm := e c (by unfold Lib.trimRightS; rw [hd]; simp)
   rw [hc] at hm
   cases hm
 ·exact ⟨b, r, rfl⟩
theorem trim_any (s : ByteArray) (w : World) (hs : s.size ≤ 4000) :
 Calls Tryz.prog 88 #[.string s, .string tenB] w fun e w' => e = .returned (.string ⟨(Lib.trimS s.data.toList tenB.data.toList).toArray⟩) ∧ Below w.heap.size w w' :=
 Any.strings_Trim_laid sh_lays160 (by kernel_rfl) s tenB w (by omega) (by decide) (ascii_of_all (by decide))
theorem suffix_long (r : ByteArray) (h1 : 1 ≤ r.size) : Lib.hasSuffix r.data.toList [76] = isLong r := by
 have hne : r.data.toList ≠ [] := by
  intro h
  have hz : r.data.toList.length = 0 := by rw [h]; rfl
  have hsz : r.data.toList.length = r.size := Array.length_toList
  omega
 have hb : byteI r (r.size - 1) = ((r.data.toList.getLast hne).toNat : Int) := by
  rw [byteI_at (by omega), List.getLast_eq_getElem]
  have hsz : r.data.toList.length = r.size := Array.length_toList
  have e : ∀ i (h : i < r.data.toList.length) (h' : i < r.size), r.data.toList[i] = r[i] := fun i h h' => by
   rw [Array.getElem_toList]; rfl
  rw [e _ _ (by omega)]
  all_goals first | omega | (congr 2; done) | (congr 2; simp only [hsz]; done)
 unfold isLong
 rw [hb]
 conv => lhs; rw [← List.dropLast_concat_getLast hne]
 generalize r.data.toList.getLast hne = x
 generalize r.data.toList.dropLast = l
 unfold Lib.hasSuffix List.isSuffixOf
 rw [Bool.eq_iff_iff]
 simp [List.isPrefixOf, ← UInt8.toNat_inj]
 omega
end Go.Proofs.YtgegfbopogcjpaaGreatDoor
namespace Go.Proofs.YtgegfbopogcjpaaGreatDoor
open Go.RowKit Go.Shelf
set_option linter.unusedVariables false
set_option linter.unusedSimpArgs false
set_option maxRecDepth 100000
set_option maxHeartbeats 1000000
def tokC (k : Int) (t : ByteArray) (p : Nat) : Array Value := #[.int .i64 k, .string t, .int .i64 p]
def zeroT : Array Value := #[.int .i64 0, .string ⟨#[]⟩, .int .i64 0]
def numC (r : ByteArray) : Array Value := if numE r = 0 then tokC (numK r) (digitsOf r) 0 else zeroT
def NumOut (w : World) (r : ByteArray) (e : Ending) (w' : World) : Prop := e = .returned (.tuple #[.agg (numC r), .int .i64 (numE r)]) ∧ Below w.heap.size w w'
theorem results_tok {fn : Func} (h : fn.results = #[.cell 2 50, .tmp 3]) {w : World} {b : Nat} {a0 a1 a2 x : Value} {tmps : Array Value} (k : Blk w b 50 #[a0, a1, a2]) (h2 : tmps.getD 2 undef = .pointer (some ⟨b, 0, none⟩)) (h3 : tmps.getD 3 undef = x) :
 (results fn tmps).run Tryz.prog w = .ok (.tuple #[.agg #[a0, a1, a2], x]) w := by
 have c0 := k.cell 0 _ rfl
 have c1 := k.cell 1 _ rfl
 have c2 := k.cell 2 _ rfl
 simp at c0 c1 c2
 simp only [Array.getD_eq_getD_getElem?] at h2 h3
 simp [results, h, go_sem, h2, h3, c0, c1, c2]
theorem below_set3 {B : Nat} {u w : World} {b : Nat} (h : Below B u w) (hB : B ≤ b) (b0 b1 b2 : Value) :
 Below B u (((w.setCell ⟨b, 0, none⟩ b0).setCell ⟨b, 1, none⟩ b1).setCell ⟨b, 2, none⟩ b2) :=
 ((h.setCell (p := ⟨b, 0, none⟩) hB _).setCell (p := ⟨b, 1, none⟩) hB _).setCell (p := ⟨b, 2, none⟩) hB _
theorem lblk_set3 {w : World} {b : Nat} {t : TypeId} {a0 a1 a2 : Value} (k : Blk w b t #[a0, a1, a2]) (b0 b1 b2 : Value) :
 Blk (((w.setCell ⟨b, 0, none⟩ b0).setCell ⟨b, 1, none⟩ b1).setCell ⟨b, 2, none⟩ b2) b t #[b0, b1, b2] :=
 ((k.set_ 0 b0).set_ 1 b1).set_ 2 b2
theorem digitsOf_pos {r : ByteArray} (h1 : 1 ≤ r.size) (hd : digitI (byteI r 0) = true) : 1 ≤ (digitsOf r).size ∧ (digitsOf r).size ≤ r.size ∧ byteI (digitsOf r) 0 = byteI r 0 := by
 unfold digitsOf
 rcases hl : isLong r with _ | _
 ·exact ⟨h1, Nat.le_refl _, rfl⟩
 ·have h2 : 2 ≤ r.size := by
   rcases Nat.lt_or_ge 1 r.size with h | h
   ·exact h
   ·exfalso
    have e : r.size - 1 = 0 := by omega
    unfold isLong at hl
    rw [e, beq_iff_eq] at hl
    rw [hl] at hd
    cases hd
  have hs : (r.extract 0 (r.size - 1)).size = r.size - 1 := by simp
  rw [if_pos rfl]
  refine ⟨by omega, by omega, ?_⟩
  rw [byteI_extract (by omega) (by omega), Nat.zero_add]
theorem numE_form {r : ByteArray} (h : allDigits (digitsOf r) = false) : numE r = 2 := by
 unfold numE; rw [if_pos h]
theorem numE_nought {r : ByteArray} (h : allDigits (digitsOf r) = true) (h1 : 1 < (digitsOf r).size) (h2 : byteI (digitsOf r) 0 = 48) : numE r = 2 := by
 unfold numE; rw [if_neg (by rw [h]; simp), if_pos ⟨h1, h2⟩]
theorem numE_range {r : ByteArray} (h : allDigits (digitsOf r) = true) (h1 : ¬(1 < (digitsOf r).size ∧ byteI (digitsOf r) 0 = 48)) (h2 : numMost (isLong r) < decL (digitsOf r).data.toList) : numE r = 6 := by
 unfold numE; rw [if_neg (by rw [h]; simp), if_neg h1, if_pos h2]
theorem numE_ok {r : ByteArray} (h : allDigits (digitsOf r) = true) (h1 : ¬(1 < (digitsOf r).size ∧ byteI (digitsOf r) 0 = 48)) (h2 : ¬ numMost (isLong r) < decL (digitsOf r).data.toList) : numE r = 0 := by
 unfold numE; rw [if_neg (by rw [h]; simp), if_neg h1, if_neg h2]
theorem numC_bad {r : ByteArray} {e : Int} (h : numE r = e) (he : e ≠ 0) : numC r = zeroT := by
 unfold numC; rw [if_neg (by rw [h]; exact he)]
theorem numC_ok {r : ByteArray} (h : numE r = 0) : numC r = tokC (numK r) (digitsOf r) 0 := by
 unfold numC; rw [if_pos h]
theorem bytes_empty {l : List UInt8} (h : l = []) : (⟨l.toArray⟩ : ByteArray) = ⟨#[]⟩ := by subst h; rfl
theorem number_short (r : ByteArray) (w : World) (h1 : 1 ≤ r.size) (h4 : r.size ≤ 4000) (hd : digitI (byteI r 0) = true) (he : ER w) (hl : isLong r = false) : Calls Tryz.prog 67 #[.string r] w (NumOut w r) := by
 have hsuf : Lib.hasSuffix r.data.toList [76] = false := (suffix_long r h1).trans hl
 have HX : Hid (∀ W : World, Calls Tryz.prog 87 #[.string r, .string ⟨#[76]⟩] W fun e w' => e = .returned (.bool false) ∧ w' = W) := fun W => by
  have := sh_strings_HasSuffix r ⟨#[76]⟩ W (by omega)
  rw [hsuf] at this
  exact this
 obtain ⟨hd1, hd2, hd3⟩ := digitsOf_pos h1 hd
 have HDE : Hid (digitsOf r = r) := by show _ = _; unfold digitsOf; rw [hl]; rfl
 have HK : Hid (numK r = 2) := by show _ = _; unfold numK; rw [hl]; rfl
 have HL := Lib.hid hl
 have HD3 := Lib.hid hd3
 clear hsuf hl hd3
 have hr1 : (1 : Int) ≤ (r.size : Int) := by omega
 have kb0 := Blk.new_ w 50 zeroT
 have HER : Hid (ER w) := he
 clear he
 go_enter Tryz.func67, Tryz.ntmps67
 go_wp2_with (go_at_call 87; refine (HX.out _).mono ?_; rintro e w' ⟨rfl, hw⟩; subst hw)
 have HT : Hid (∀ W : World, Calls Tryz.prog 88 #[.string (r), .string tenB] W fun e w' => e = .returned (.string ⟨(Lib.trimS (digitsOf r).data.toList tenB.data.toList).toArray⟩) ∧ Below W.heap.size W w') := fun W => by
  have := trim_any (digitsOf r) W (by omega)
  rw [HDE.out] at this ⊢
  exact this
 refine (HT.out _).mono ?_
 clear HT HX
 rintro e w1 ⟨rfl, hb⟩
 have hb1 : Below w.heap.size w w1 := Below.trans (by (repeat (first | with_reducible assumption | with_reducible exact Below.refl _ _ | (refine Below.setCell ?_ (by first | omega | (simp; done) | (simp; omega)) _) | (refine Below.drewN_ ?_ _) | (refine Below.drew ?_) | (refine Below.alloc ?_ (by first | omega | (simp; done) | (simp; omega)) _)))) (hb.mono (by simp))
 have kb := kb0.below hb
 have kb' : Blk w1 w.heap.size 50 #[.int .i64 0, .string ⟨#[]⟩, .int .i64 0] := kb
 have hlt1 : w.heap.size < w1.heap.size := kb.lt
 have x0 := kb'.cell 0 (.int .i64 0) rfl
 have x1 := kb'.cell 1 (.string ⟨#[]⟩) rfl
 have x2 := kb'.cell 2 (.int .i64 0) rfl
 have f0 := kb'.free 0
 have f1 := kb'.free 1
 have f2 := kb'.free 2
 have HER1 : Hid (ER w1) := HER.out.keep hb1
 have HB1 := Lib.hid hb1
 have KB := Lib.hid kb'
 clear hb kb kb' kb0 hb1 HER
 rcases had : allDigits (digitsOf r) with _ | _
 ·obtain ⟨b, t, hbt⟩ := trim_some had
  rw [hbt]
  have HN : Hid (numE r = 2) := numE_form had
  have g1 : ¬ (⟨(b :: t).toArray⟩ : ByteArray).toList = [] := by
   rw [ByteArray.toList_mk]; intro h; cases h
  clear hbt had
  generalize (⟨(b :: t).toArray⟩ : ByteArray) = T at *
  go_wp2_with fail
  exact bodyPost_ret (results_tok (by kernel_rfl) (lblk_set3 KB.out _ _ _) rfl rfl) rfl ⟨by rw [numC_bad HN.out (by decide), HN.out]; rfl, below_set3 HB1.out (Nat.le_refl _) _ _ _⟩
 ·rw [bytes_empty (trim_all had)]
  have HDS : Hid ((r : ByteArray) = digitsOf r) := HDE.out.symm
  rw [HDS.out]
  generalize hDr : digitsOf r = D at *
  have HDR := Lib.hid hDr
  clear hDr
  by_cases hone : 1 < D.size
  ·have d1 : (1 : Int) < (D.size : Int) := by omega
   have d1b : decide ((1 : Int) < (D.size : Int)) = true := by rw [decide_eq_true_eq]; exact d1
   by_cases h48 : byteI D 0 = 48
   ·have HN : Hid (numE r = 2) := numE_nought (by rw [HDR.out]; exact had) (by rw [HDR.out]; exact hone) (by rw [HDR.out]; exact h48)
    have d2 : (((D[0]'(by omega)).toNat : Int) == 48) = true := by rw [beq_iff_eq, ← byteI_at (by omega)]; exact h48
    clear had h48
    go_wp2_with fail
    exact bodyPost_ret (results_tok (by kernel_rfl) (lblk_set3 KB.out _ _ _) rfl rfl) rfl ⟨by rw [numC_bad HN.out (by decide), HN.out]; rfl, below_set3 HB1.out (Nat.le_refl _) _ _ _⟩
   ·have d2 : (((D[0]'(by omega)).toNat : Int) == 48) = false := by rw [beq_eq_false_iff_ne, ← byteI_at (by omega)]; exact h48
    have hnn : Hid (¬(1 < (digitsOf r).size ∧ byteI (digitsOf r) 0 = 48)) := by
     show ¬ _
     rw [HDR.out]; exact fun h => h48 h.2
    clear h48
    have had' : (digitsOf r).data.toList.all digU = true := by rw [HDR.out]; exact had
    have hne : (digitsOf r).data.toList ≠ [] := by
     intro h
     have hz : (digitsOf r).data.toList.length = (digitsOf r).size := Array.length_toList
     rw [h, HDR.out] at hz
     simp at hz
     omega
    obtain ⟨hp1, hp2⟩ := parse_digits 32 (by decide) _ hne had'
    by_cases hmost : numMost (isLong r) < decL (digitsOf r).data.toList
    ·have HN : Hid (numE r = 6) := numE_range (by rw [HDR.out]; exact had) hnn.out hmost
     have hrg := hp2 (by rw [HL.out] at hmost; exact hmost)
     obtain ⟨tp, p, hvar⟩ := HER1.out
     have HP : Hid (Calls Tryz.prog 74 #[.string D, .int .i64 10, .int .i64 32] w1 fun e w' => (∃ v t N, e = .returned (.tuple #[.int .i64 v, .iface t (.pointer (some ⟨N, 0, none⟩))])) ∧ Below w1.heap.size w1 w') := by
      have := sh_strconv_ParseInt_10_at32_range_var (digitsOf r) (by rw [HDR.out]; omega) hrg tp p w1 hvar
      rw [HDR.out] at this
      exact this.mono fun e w' ⟨N, h, _, _, hbw⟩ => ⟨⟨_, _, N, h⟩, hbw⟩
     clear hp1 hp2 hrg hvar hmost had had' hne
     go_wp2_with fail
     refine HP.out.mono ?_
     clear HP
     rintro e w2 ⟨⟨v, tt, NN, rfl⟩, hb2⟩
     have KB2 := Lib.hid (KB.out.below hb2)
     have HB2 := Lib.hid (below_trans HB1.out (Nat.le_refl _) hb2)
     clear hb2 x0 x1 x2 f0 f1 f2
     have x0 := KB2.out.cell 0 (.int .i64 0) rfl
     have x1 := KB2.out.cell 1 (.string ⟨#[]⟩) rfl
     have x2 := KB2.out.cell 2 (.int .i64 0) rfl
     have f0 := KB2.out.free 0
     have f1 := KB2.out.free 1
     have f2 := KB2.out.free 2
     go_wp2_with fail
     exact bodyPost_ret (results_tok (by kernel_rfl) (lblk_set3 KB2.out _ _ _) rfl rfl) rfl ⟨by rw [numC_bad HN.out (by decide), HN.out]; rfl, below_set3 HB2.out (Nat.le_refl _) _ _ _⟩
    ·have HN : Hid (numE r = 0) := numE_ok (by rw [HDR.out]; exact had) hnn.out hmost
     have hok := hp1 (by rw [HL.out] at hmost; exact Nat.le_of_not_lt hmost)
     have HP : Hid (Calls Tryz.prog 74 #[.string D, .int .i64 10, .int .i64 32] w1 fun e w' => (∃ v : Int, e = .returned (.tuple #[.int .i64 v, .nilIface])) ∧ Below w1.heap.size w1 w') := by
      have := sh_strconv_ParseInt_10_at32_ok (digitsOf r) (by rw [HDR.out]; omega) _ hok w1
      rw [HDR.out] at this
      refine this.mono fun e w' ⟨h, hbw⟩ => ⟨⟨_, h⟩, ?_⟩
      rcases hbw with rfl | ⟨t, rfl⟩
      ·exact Below.refl _ _
      ·exact Lib.bytesWorld_below _ _ _
     clear hp1 hp2 hok hmost had had' hne
     go_wp2_with fail
     refine HP.out.mono ?_
     clear HP
     rintro e w2 ⟨⟨v, rfl⟩, hb2⟩
     have KB2 := Lib.hid (KB.out.below hb2)
     have HB2 := Lib.hid (below_trans HB1.out (Nat.le_refl _) hb2)
     clear hb2 x0 x1 x2 f0 f1 f2
     have x0 := KB2.out.cell 0 (.int .i64 0) rfl
     have x1 := KB2.out.cell 1 (.string ⟨#[]⟩) rfl
     have x2 := KB2.out.cell 2 (.int .i64 0) rfl
     have f0 := KB2.out.free 0
     have f1 := KB2.out.free 1
     have f2 := KB2.out.free 2
     go_wp2_with fail
     exact bodyPost_ret (results_tok (by kernel_rfl) (lblk_set3 KB2.out _ _ _) rfl rfl) rfl ⟨by rw [numC_ok HN.out, HN.out, HK.out, HDR.out]; rfl, below_set3 HB2.out (Nat.le_refl _) _ _ _⟩
  ·have d1 : (D.size : Int) ≤ 1 := by omega
   have d1b : decide ((1 : Int) < (D.size : Int)) = false := by rw [decide_eq_false_iff_not]; omega
   have hnn : Hid (¬(1 < (digitsOf r).size ∧ byteI (digitsOf r) 0 = 48)) := by
    show ¬ _
    rw [HDR.out]; exact fun h => hone h.1
   have had' : (digitsOf r).data.toList.all digU = true := by rw [HDR.out]; exact had
   have hne : (digitsOf r).data.toList ≠ [] := by
    intro h
    have hz : (digitsOf r).data.toList.length = (digitsOf r).size := Array.length_toList
    rw [h, HDR.out] at hz
    simp at hz
    omega
   obtain ⟨hp1, hp2⟩ := parse_digits 32 (by decide) _ hne had'
   by_cases hmost : numMost (isLong r) < decL (digitsOf r).data.toList
   ·have HN : Hid (numE r = 6) := numE_range (by rw [HDR.out]; exact had) hnn.out hmost
    have hrg := hp2 (by rw [HL.out] at hmost; exact hmost)
    obtain ⟨tp, p, hvar⟩ := HER1.out
    have HP : Hid (Calls Tryz.prog 74 #[.string D, .int .i64 10, .int .i64 32] w1 fun e w' => (∃ v t N, e = .returned (.tuple #[.int .i64 v, .iface t (.pointer (some ⟨N, 0, none⟩))])) ∧ Below w1.heap.size w1 w') := by
     have := sh_strconv_ParseInt_10_at32_range_var (digitsOf r) (by rw [HDR.out]; omega) hrg tp p w1 hvar
     rw [HDR.out] at this
     exact this.mono fun e w' ⟨N, h, _, _, hbw⟩ => ⟨⟨_, _, N, h⟩, hbw⟩
    clear hp1 hp2 hrg hvar hmost had had' hne
    go_wp2_with fail
    refine HP.out.mono ?_
    clear HP
    rintro e w2 ⟨⟨v, tt, NN, rfl⟩, hb2⟩
    have KB2 := Lib.hid (KB.out.below hb2)
    have HB2 := Lib.hid (below_trans HB1.out (Nat.le_refl _) hb2)
    clear hb2 x0 x1 x2 f0 f1 f2
    have x0 := KB2.out.cell 0 (.int .i64 0) rfl
    have x1 := KB2.out.cell 1 (.string ⟨#[]⟩) rfl
    have x2 := KB2.out.cell 2 (.int .i64 0) rfl
    have f0 := KB2.out.free 0
    have f1 := KB2.out.free 1
    have f2 := KB2.out.free 2
    go_wp2_with fail
    exact bodyPost_ret (results_tok (by kernel_rfl) (lblk_set3 KB2.out _ _ _) rfl rfl) rfl ⟨by rw [numC_bad HN.out (by decide), HN.out]; rfl, below_set3 HB2.out (Nat.le_refl _) _ _ _⟩
   ·have HN : Hid (numE r = 0) := numE_ok (by rw [HDR.out]; exact had) hnn.out hmost
    have hok := hp1 (by rw [HL.out] at hmost; exact Nat.le_of_not_lt hmost)
    have HP : Hid (Calls Tryz.prog 74 #[.string D, .int .i64 10, .int .i64 32] w1 fun e w' => (∃ v : Int, e = .returned (.tuple #[.int .i64 v, .nilIface])) ∧ Below w1.heap.size w1 w') := by
     have := sh_strconv_ParseInt_10_at32_ok (digitsOf r) (by rw [HDR.out]; omega) _ hok w1
     rw [HDR.out] at this
     refine this.mono fun e w' ⟨h, hbw⟩ => ⟨⟨_, h⟩, ?_⟩
     rcases hbw with rfl | ⟨t, rfl⟩
     ·exact Below.refl _ _
     ·exact Lib.bytesWorld_below _ _ _
    clear hp1 hp2 hok hmost had had' hne
    go_wp2_with fail
    refine HP.out.mono ?_
    clear HP
    rintro e w2 ⟨⟨v, rfl⟩, hb2⟩
    have KB2 := Lib.hid (KB.out.below hb2)
    have HB2 := Lib.hid (below_trans HB1.out (Nat.le_refl _) hb2)
    clear hb2 x0 x1 x2 f0 f1 f2
    have x0 := KB2.out.cell 0 (.int .i64 0) rfl
    have x1 := KB2.out.cell 1 (.string ⟨#[]⟩) rfl
    have x2 := KB2.out.cell 2 (.int .i64 0) rfl
    have f0 := KB2.out.free 0
    have f1 := KB2.out.free 1
    have f2 := KB2.out.free 2
    go_wp2_with fail
    exact bodyPost_ret (results_tok (by kernel_rfl) (lblk_set3 KB2.out _ _ _) rfl rfl) rfl ⟨by rw [numC_ok HN.out, HN.out, HK.out, HDR.out]; rfl, below_set3 HB2.out (Nat.le_refl _) _ _ _⟩
theorem number_long (r : ByteArray) (w : World) (h1 : 1 ≤ r.size) (h4 : r.size ≤ 4000) (hd : digitI (byteI r 0) = true) (he : ER w) (hl : isLong r = true) : Calls Tryz.prog 67 #[.string r] w (NumOut w r) := by
 have hsuf : Lib.hasSuffix r.data.toList [76] = true := (suffix_long r h1).trans hl
 have HX : Hid (∀ W : World, Calls Tryz.prog 87 #[.string r, .string ⟨#[76]⟩] W fun e w' => e = .returned (.bool true) ∧ w' = W) := fun W => by
  have := sh_strings_HasSuffix r ⟨#[76]⟩ W (by omega)
  rw [hsuf] at this
  exact this
 obtain ⟨hd1, hd2, hd3⟩ := digitsOf_pos h1 hd
 have HDE : Hid (digitsOf r = r.extract 0 (r.size - 1)) := by show _ = _; unfold digitsOf; rw [hl]; rfl
 have HK : Hid (numK r = 3) := by show _ = _; unfold numK; rw [hl]; rfl
 have HL := Lib.hid hl
 have HD3 := Lib.hid hd3
 clear hsuf hl hd3
 have hr1 : (1 : Int) ≤ (r.size : Int) := by omega
 have kb0 := Blk.new_ w 50 zeroT
 have HER : Hid (ER w) := he
 clear he
 go_enter Tryz.func67, Tryz.ntmps67
 go_wp2_with (go_at_call 87; refine (HX.out _).mono ?_; rintro e w' ⟨rfl, hw⟩; subst hw)
 go_quiet (fail)
 go_wp2_with fail
 have HT : Hid (∀ W : World, Calls Tryz.prog 88 #[.string (r.extract 0 (r.size - 1)), .string tenB] W fun e w' => e = .returned (.string ⟨(Lib.trimS (digitsOf r).data.toList tenB.data.toList).toArray⟩) ∧ Below W.heap.size W w') := fun W => by
  have := trim_any (digitsOf r) W (by omega)
  rw [HDE.out] at this ⊢
  exact this
 refine (HT.out _).mono ?_
 clear HT HX
 rintro e w1 ⟨rfl, hb⟩
 have hb1 : Below w.heap.size w w1 := Below.trans (by (repeat (first | with_reducible assumption | with_reducible exact Below.refl _ _ | (refine Below.setCell ?_ (by first | omega | (simp; done) | (simp; omega)) _) | (refine Below.drewN_ ?_ _) | (refine Below.drew ?_) | (refine Below.alloc ?_ (by first | omega | (simp; done) | (simp; omega)) _)))) (hb.mono (by simp))
 have kb := (Blk.drewN kb0 _).below hb
 have kb' : Blk w1 w.heap.size 50 #[.int .i64 0, .string ⟨#[]⟩, .int .i64 0] := kb
 have hlt1 : w.heap.size < w1.heap.size := kb.lt
 have x0 := kb'.cell 0 (.int .i64 0) rfl
 have x1 := kb'.cell 1 (.string ⟨#[]⟩) rfl
 have x2 := kb'.cell 2 (.int .i64 0) rfl
 have f0 := kb'.free 0
 have f1 := kb'.free 1
 have f2 := kb'.free 2
 have HER1 : Hid (ER w1) := HER.out.keep hb1
 have HB1 := Lib.hid hb1
 have KB := Lib.hid kb'
 clear hb kb kb' kb0 hb1 HER
 rcases had : allDigits (digitsOf r) with _ | _
 ·obtain ⟨b, t, hbt⟩ := trim_some had
  rw [hbt]
  have HN : Hid (numE r = 2) := numE_form had
  have g1 : ¬ (⟨(b :: t).toArray⟩ : ByteArray).toList = [] := by
   rw [ByteArray.toList_mk]; intro h; cases h
  clear hbt had
  generalize (⟨(b :: t).toArray⟩ : ByteArray) = T at *
  go_wp2_with fail
  exact bodyPost_ret (results_tok (by kernel_rfl) (lblk_set3 KB.out _ _ _) rfl rfl) rfl ⟨by rw [numC_bad HN.out (by decide), HN.out]; rfl, below_set3 HB1.out (Nat.le_refl _) _ _ _⟩
 ·rw [bytes_empty (trim_all had)]
  have HDS : Hid ((r.extract 0 (r.size - 1) : ByteArray) = digitsOf r) := HDE.out.symm
  rw [HDS.out]
  generalize hDr : digitsOf r = D at *
  have HDR := Lib.hid hDr
  clear hDr
  by_cases hone : 1 < D.size
  ·have d1 : (1 : Int) < (D.size : Int) := by omega
   have d1b : decide ((1 : Int) < (D.size : Int)) = true := by rw [decide_eq_true_eq]; exact d1
   by_cases h48 : byteI D 0 = 48
   ·have HN : Hid (numE r = 2) := numE_nought (by rw [HDR.out]; exact had) (by rw [HDR.out]; exact hone) (by rw [HDR.out]; exact h48)
    have d2 : (((D[0]'(by omega)).toNat : Int) == 48) = true := by rw [beq_iff_eq, ← byteI_at (by omega)]; exact h48
    clear had h48
    go_wp2_with fail
    exact bodyPost_ret (results_tok (by kernel_rfl) (lblk_set3 KB.out _ _ _) rfl rfl) rfl ⟨by rw [numC_bad HN.out (by decide), HN.out]; rfl, below_set3 HB1.out (Nat.le_refl _) _ _ _⟩
   ·have d2 : (((D[0]'(by omega)).toNat : Int) == 48) = false := by rw [beq_eq_false_iff_ne, ← byteI_at (by omega)]; exact h48
    have hnn : Hid (¬(1 < (digitsOf r).size ∧ byteI (digitsOf r) 0 = 48)) := by
     show ¬ _
     rw [HDR.out]; exact fun h => h48 h.2
    clear h48
    have had' : (digitsOf r).data.toList.all digU = true := by rw [HDR.out]; exact had
    have hne : (digitsOf r).data.toList ≠ [] := by
     intro h
     have hz : (digitsOf r).data.toList.length = (digitsOf r).size := Array.length_toList
     rw [h, HDR.out] at hz
     simp at hz
     omega
    obtain ⟨hp1, hp2⟩ := parse_digits 64 (by decide) _ hne had'
    by_cases hmost : numMost (isLong r) < decL (digitsOf r).data.toList
    ·have HN : Hid (numE r = 6) := numE_range (by rw [HDR.out]; exact had) hnn.out hmost
     have hrg := hp2 (by rw [HL.out] at hmost; exact hmost)
     obtain ⟨tp, p, hvar⟩ := HER1.out
     have HP : Hid (Calls Tryz.prog 74 #[.string D, .int .i64 10, .int .i64 64] w1 fun e w' => (∃ v t N, e = .returned (.tuple #[.int .i64 v, .iface t (.pointer (some ⟨N, 0, none⟩))])) ∧ Below w1.heap.size w1 w') := by
      have := sh_strconv_ParseInt_10_at64_range_var (digitsOf r) (by rw [HDR.out]; omega) hrg tp p w1 hvar
      rw [HDR.out] at this
      exact this.mono fun e w' ⟨N, h, _, _, hbw⟩ => ⟨⟨_, _, N, h⟩, hbw⟩
     clear hp1 hp2 hrg hvar hmost had had' hne
     go_wp2_with fail
     refine HP.out.mono ?_
     clear HP
     rintro e w2 ⟨⟨v, tt, NN, rfl⟩, hb2⟩
     have KB2 := Lib.hid (KB.out.below hb2)
     have HB2 := Lib.hid (below_trans HB1.out (Nat.le_refl _) hb2)
     clear hb2 x0 x1 x2 f0 f1 f2
     have x0 := KB2.out.cell 0 (.int .i64 0) rfl
     have x1 := KB2.out.cell 1 (.string ⟨#[]⟩) rfl
     have x2 := KB2.out.cell 2 (.int .i64 0) rfl
     have f0 := KB2.out.free 0
     have f1 := KB2.out.free 1
     have f2 := KB2.out.free 2
     go_wp2_with fail
     exact bodyPost_ret (results_tok (by kernel_rfl) (lblk_set3 KB2.out _ _ _) rfl rfl) rfl ⟨by rw [numC_bad HN.out (by decide), HN.out]; rfl, below_set3 HB2.out (Nat.le_refl _) _ _ _⟩
    ·have HN : Hid (numE r = 0) := numE_ok (by rw [HDR.out]; exact had) hnn.out hmost
     have hok := hp1 (by rw [HL.out] at hmost; exact Nat.le_of_not_lt hmost)
     have HP : Hid (Calls Tryz.prog 74 #[.string D, .int .i64 10, .int .i64 64] w1 fun e w' => (∃ v : Int, e = .returned (.tuple #[.int .i64 v, .nilIface])) ∧ Below w1.heap.size w1 w') := by
      have := sh_strconv_ParseInt_10_at64_ok (digitsOf r) (by rw [HDR.out]; omega) _ hok w1
      rw [HDR.out] at this
      refine this.mono fun e w' ⟨h, hbw⟩ => ⟨⟨_, h⟩, ?_⟩
      rcases hbw with rfl | ⟨t, rfl⟩
      ·exact Below.refl _ _
      ·exact Lib.bytesWorld_below _ _ _
     clear hp1 hp2 hok hmost had had' hne
     go_wp2_with fail
     refine HP.out.mono ?_
     clear HP
     rintro e w2 ⟨⟨v, rfl⟩, hb2⟩
     have KB2 := Lib.hid (KB.out.below hb2)
     have HB2 := Lib.hid (below_trans HB1.out (Nat.le_refl _) hb2)
     clear hb2 x0 x1 x2 f0 f1 f2
     have x0 := KB2.out.cell 0 (.int .i64 0) rfl
     have x1 := KB2.out.cell 1 (.string ⟨#[]⟩) rfl
     have x2 := KB2.out.cell 2 (.int .i64 0) rfl
     have f0 := KB2.out.free 0
     have f1 := KB2.out.free 1
     have f2 := KB2.out.free 2
     go_wp2_with fail
     exact bodyPost_ret (results_tok (by kernel_rfl) (lblk_set3 KB2.out _ _ _) rfl rfl) rfl ⟨by rw [numC_ok HN.out, HN.out, HK.out, HDR.out]; rfl, below_set3 HB2.out (Nat.le_refl _) _ _ _⟩
  ·have d1 : (D.size : Int) ≤ 1 := by omega
   have d1b : decide ((1 : Int) < (D.size : Int)) = false := by rw [decide_eq_false_iff_not]; omega
   have hnn : Hid (¬(1 < (digitsOf r).size ∧ byteI (digitsOf r) 0 = 48)) := by
    show ¬ _
    rw [HDR.out]; exact fun h => hone h.1
   have had' : (digitsOf r).data.toList.all digU = true := by rw [HDR.out]; exact had
   have hne : (digitsOf r).data.toList ≠ [] := by
    intro h
    have hz : (digitsOf r).data.toList.length = (digitsOf r).size := Array.length_toList
    rw [h, HDR.out] at hz
    simp at hz
    omega
   obtain ⟨hp1, hp2⟩ := parse_digits 64 (by decide) _ hne had'
   by_cases hmost : numMost (isLong r) < decL (digitsOf r).data.toList
   ·have HN : Hid (numE r = 6) := numE_range (by rw [HDR.out]; exact had) hnn.out hmost
    have hrg := hp2 (by rw [HL.out] at hmost; exact hmost)
    obtain ⟨tp, p, hvar⟩ := HER1.out
    have HP : Hid (Calls Tryz.prog 74 #[.string D, .int .i64 10, .int .i64 64] w1 fun e w' => (∃ v t N, e = .returned (.tuple #[.int .i64 v, .iface t (.pointer (some ⟨N, 0, none⟩))])) ∧ Below w1.heap.size w1 w') := by
     have := sh_strconv_ParseInt_10_at64_range_var (digitsOf r) (by rw [HDR.out]; omega) hrg tp p w1 hvar
     rw [HDR.out] at this
     exact this.mono fun e w' ⟨N, h, _, _, hbw⟩ => ⟨⟨_, _, N, h⟩, hbw⟩
    clear hp1 hp2 hrg hvar hmost had had' hne
    go_wp2_with fail
    refine HP.out.mono ?_
    clear HP
    rintro e w2 ⟨⟨v, tt, NN, rfl⟩, hb2⟩
    have KB2 := Lib.hid (KB.out.below hb2)
    have HB2 := Lib.hid (below_trans HB1.out (Nat.le_refl _) hb2)
    clear hb2 x0 x1 x2 f0 f1 f2
    have x0 := KB2.out.cell 0 (.int .i64 0) rfl
    have x1 := KB2.out.cell 1 (.string ⟨#[]⟩) rfl
    have x2 := KB2.out.cell 2 (.int .i64 0) rfl
    have f0 := KB2.out.free 0
    have f1 := KB2.out.free 1
    have f2 := KB2.out.free 2
    go_wp2_with fail
    exact bodyPost_ret (results_tok (by kernel_rfl) (lblk_set3 KB2.out _ _ _) rfl rfl) rfl ⟨by rw [numC_bad HN.out (by decide), HN.out]; rfl, below_set3 HB2.out (Nat.le_refl _) _ _ _⟩
   ·have HN : Hid (numE r = 0) := numE_ok (by rw [HDR.out]; exact had) hnn.out hmost
    have hok := hp1 (by rw [HL.out] at hmost; exact Nat.le_of_not_lt hmost)
    have HP : Hid (Calls Tryz.prog 74 #[.string D, .int .i64 10, .int .i64 64] w1 fun e w' => (∃ v : Int, e = .returned (.tuple #[.int .i64 v, .nilIface])) ∧ Below w1.heap.size w1 w') := by
     have := sh_strconv_ParseInt_10_at64_ok (digitsOf r) (by rw [HDR.out]; omega) _ hok w1
     rw [HDR.out] at this
     refine this.mono fun e w' ⟨h, hbw⟩ => ⟨⟨_, h⟩, ?_⟩
     rcases hbw with rfl | ⟨t, rfl⟩
     ·exact Below.refl _ _
     ·exact Lib.bytesWorld_below _ _ _
    clear hp1 hp2 hok hmost had had' hne
    go_wp2_with fail
    refine HP.out.mono ?_
    clear HP
    rintro e w2 ⟨⟨v, rfl⟩, hb2⟩
    have KB2 := Lib.hid (KB.out.below hb2)
    have HB2 := Lib.hid (below_trans HB1.out (Nat.le_refl _) hb2)
    clear hb2 x0 x1 x2 f0 f1 f2
    have x0 := KB2.out.cell 0 (.int .i64 0) rfl
    have x1 := KB2.out.cell 1 (.string ⟨#[]⟩) rfl
    have x2 := KB2.out.cell 2 (.int .i64 0) rfl
    have f0 := KB2.out.free 0
    have f1 := KB2.out.free 1
    have f2 := KB2.out.free 2
    go_wp2_with fail
    exact bodyPost_ret (results_tok (by kernel_rfl) (lblk_set3 KB2.out _ _ _) rfl rfl) rfl ⟨by rw [numC_ok HN.out, HN.out, HK.out, HDR.out]; rfl, below_set3 HB2.out (Nat.le_refl _) _ _ _⟩
theorem lnumber_any (r : ByteArray) (w : World) (h1 : 1 ≤ r.size) (h4 : r.size ≤ 4000) (hd : digitI (byteI r 0) = true) (he : ER w) : Calls Tryz.prog 67 #[.string r] w (NumOut w r) := by
 rcases hl : isLong r with _ | _
 ·exact number_short r w h1 h4 hd he hl
 ·exact number_long r w h1 h4 hd he hl
end Go.Proofs.YtgegfbopogcjpaaGreatDoor
