/- scanner.blanks: what is passed over. -/
import Derived.Test.YtdhphabncchncaaDoorLexA
import Derived.ScopeJumps
import Derived.WalkMore
namespace Go.Proofs.YtdhphabncchncaaDoor
open Go.RowKit
set_option linter.unusedVariables false
set_option linter.unusedSimpArgs false
set_option maxRecDepth 100000
set_option maxHeartbeats 1000000
theorem results_none_ {fn : Func} (h : fn.results = #[]) (tmps : Array Value) (P : Program) (w : World) : (results fn tmps).run P w = .ok (.tuple #[]) w := by simp [results, h]
def BlOut (w : World) (g : Nat) (s : ByteArray) (z : Nat) (ce cp : Int) (e : Ending) (w' : World) : Prop := e = .returned (.tuple #[]) ∧ Scn w' g s z ce cp ∧ Only w w' g
/-- at the label: somewhere in the text, still with the same end -/
def BlAt (w : World) (g : Nat) (s : ByteArray) (k j : Nat) (ce cp : Int) (w' : World) : Prop := j ≤ s.size ∧ skip s false j = skip s false k ∧ Scn w' g s j ce cp ∧ Only w w' g
def BlJ (w : World) (g : Nat) (s : ByteArray) (k : Nat) (ce cp : Int) (a : Act) (w' : World) : Prop := ∃ (j : Nat) (u2 u3 u4 u5 u6 u7 u8 u9 u10 u11 u12 u13 u14 u15 u16 u17 u18 u19 u20 u21 u22 u23 u24 u25 u26 u27 : Value), BlAt w g s k j ce cp w' ∧ a = { tmps := #[.pointer (some ⟨g, 0, none⟩), undef, u2, u3, u4, u5, u6, u7, u8, u9, u10, u11, u12, u13, u14, u15, u16, u17, u18, u19, u20, u21, u22, u23, u24, u25, u26, u27], defers := [] }
theorem blanks_any (g : Nat) (s : ByteArray) (k : Nat) (ce cp : Int) (w : World) (hk : k ≤ s.size) (hs : s.size ≤ 4000) (hb : Scn w g s k ce cp) :
    Calls Tryd.prog 7 #[.pointer (some ⟨g, 0, none⟩)] w (BlOut w g s (skip s false k) ce cp) := by
  have HB := Lib.hid hb
  clear hb
  go_enter Tryd.func7, Tryd.ntmps7
  go_wp2_with fail
  refine wp_scope_jumps 0 (BlJ w g s k ce cp) (fun _ wr => scanLeft s g wr) rfl ?_ ?_
  · obtain ⟨j, hjk⟩ : ∃ j, j = k := ⟨k, rfl⟩
    have HJ : Hid (BlAt w g s k j ce cp w) := by subst hjk; exact ⟨hk, rfl, HB.out, Only.refl_ _ _⟩
    clear hjk
    go_wp2_with fail
    go_step3
    go_wp2_with fail
    refine (run_blank g s j ce cp _ HJ.out.1 hs HJ.out.2.2.1).mono ?_
    rintro e w1 ⟨rfl, hs1, ho1⟩
    have hj := HJ.out.1
    have hle : endOf s blankI j ≤ s.size := endOf_le hj
    have hge : j ≤ endOf s blankI j := endOf_ge
    have HS : Hid (skip s false (endOf s blankI j) = skip s false k) := by
      show _ = _
      rw [← skip_blanks]; exact HJ.out.2.1
    have HEND : Hid (endOf s blankI j < s.size → blankI (byteI s (endOf s blankI j)) = false) := fun h => endOf_end h
    have c0 := hs1.cell 0 (.string s) rfl
    have c1 := hs1.cell 1 (.int .i64 (endOf s blankI j : Nat)) rfl
    have HO1 := Lib.hid (HJ.out.2.2.2.trans_ ho1)
    have HS1 := Lib.hid hs1
    have HM : Hid (scanLeft s g w = s.size - j) := scanLeft_at (HJ.out.2.2.1.cell 1 (.int .i64 (j : Nat)) rfl)
    clear hs1 ho1
    generalize endOf s blankI j = j1 at *
    have hj0 : (0 : Int) ≤ (j1 : Int) := by omega
    by_cases hlt : j1 < s.size
    · have g1 : decide ((j1 : Int) < (s.size : Int)) = true := by rw [decide_eq_true_eq]; omega
      have g2 : (j1 : Int) < (s.size : Int) := by omega
      rcases Bool.eq_false_or_eq_true (byteI s j1 == 35) with hp | hp
      · have hp' : (((s[j1]'hlt).toNat : Int) == 35) = true := by rw [← byteI_at hlt]; exact hp
        have HP := Lib.hid hp
        clear hp
        go_wp2_with fail
        go_quiet (fail)
        go_wp2_with fail
        refine (run_line g s j1 ce cp _ hle hs (Blk.drewN HS1.out _)).mono ?_
        rintro e w2 ⟨rfl, hs2, ho2⟩
        have hgt : j1 < endOf s lineI j1 := by
          rw [endOf_go hlt (by have h := HP.out; rw [beq_iff_eq] at h; rw [h]; rfl)]
          exact endOf_ge
        have hle2 : endOf s lineI j1 ≤ s.size := endOf_le hle
        have HS2 : Hid (skip s false (endOf s lineI j1) = skip s false k) := by
          show _ = _
          rw [← skip_note hlt (by have h := HP.out; rwa [beq_iff_eq] at h)]; exact HS.out
        have HQ := Lib.hid hs2
        have HO2 := Lib.hid ((HO1.out.drewN_ _).trans_ ho2)
        clear hs2 ho2
        generalize endOf s lineI j1 = j2 at *
        go_wp2_with fail
        go_step3
        exact ⟨rfl, j2, _, _, _, _, _, _, _, _, _, _, _, _, _, _, _, _, _, _, _, _, _, _, _, _, _, _, ⟨hle2, HS2.out, HQ.out, HO2.out⟩, rfl⟩
      · have hp' : (((s[j1]'hlt).toNat : Int) == 35) = false := by rw [← byteI_at hlt]; exact hp
        have HP := Lib.hid hp
        clear hp
        go_wp2_with fail
        go_quiet (fail)
        go_wp2_with fail
        simp only [Exit.jump]
        refine bodyPost_ret (results_none_ rfl _ _ _) rfl ?_
        have hz : skip s false j1 = j1 := skip_here hlt (HEND.out hlt) (by have h := HP.out; rwa [beq_eq_false_iff_ne] at h)
        have hkz := HS.out
        rw [hz] at hkz
        exact ⟨rfl, by rw [← hkz]; exact Blk.drewN HS1.out _, HO1.out.drewN_ _⟩
    · have g1 : decide ((j1 : Int) < (s.size : Int)) = false := by rw [decide_eq_false_iff_not]; omega
      go_wp2_with fail
      go_quiet (fail)
      go_wp2_with fail
      simp only [Exit.jump]
      refine bodyPost_ret (results_none_ rfl _ _ _) rfl ?_
      have hz : skip s false j1 = j1 := skip_stop (fun h => absurd h hlt)
      have hkz := HS.out
      rw [hz] at hkz
      exact ⟨rfl, by rw [← hkz]; exact Blk.drewN HS1.out _, HO1.out.drewN_ _⟩
  · rintro a wr ⟨j, u2, u3, u4, u5, u6, u7, u8, u9, u10, u11, u12, u13, u14, u15, u16, u17, u18, u19, u20, u21, u22, u23, u24, u25, u26, u27, HJ0, rfl⟩
    have HJ := Lib.hid HJ0
    clear HJ0
    go_wp2_with fail
    refine (run_blank g s j ce cp _ HJ.out.1 hs HJ.out.2.2.1).mono ?_
    rintro e w1 ⟨rfl, hs1, ho1⟩
    have hj := HJ.out.1
    have hle : endOf s blankI j ≤ s.size := endOf_le hj
    have hge : j ≤ endOf s blankI j := endOf_ge
    have HS : Hid (skip s false (endOf s blankI j) = skip s false k) := by
      show _ = _
      rw [← skip_blanks]; exact HJ.out.2.1
    have HEND : Hid (endOf s blankI j < s.size → blankI (byteI s (endOf s blankI j)) = false) := fun h => endOf_end h
    have c0 := hs1.cell 0 (.string s) rfl
    have c1 := hs1.cell 1 (.int .i64 (endOf s blankI j : Nat)) rfl
    have HO1 := Lib.hid (HJ.out.2.2.2.trans_ ho1)
    have HS1 := Lib.hid hs1
    have HM : Hid (scanLeft s g wr = s.size - j) := scanLeft_at (HJ.out.2.2.1.cell 1 (.int .i64 (j : Nat)) rfl)
    clear hs1 ho1
    generalize endOf s blankI j = j1 at *
    have hj0 : (0 : Int) ≤ (j1 : Int) := by omega
    by_cases hlt : j1 < s.size
    · have g1 : decide ((j1 : Int) < (s.size : Int)) = true := by rw [decide_eq_true_eq]; omega
      have g2 : (j1 : Int) < (s.size : Int) := by omega
      rcases Bool.eq_false_or_eq_true (byteI s j1 == 35) with hp | hp
      · have hp' : (((s[j1]'hlt).toNat : Int) == 35) = true := by rw [← byteI_at hlt]; exact hp
        have HP := Lib.hid hp
        clear hp
        go_wp2_with fail
        go_quiet (fail)
        go_wp2_with fail
        refine (run_line g s j1 ce cp _ hle hs (Blk.drewN HS1.out _)).mono ?_
        rintro e w2 ⟨rfl, hs2, ho2⟩
        have hgt : j1 < endOf s lineI j1 := by
          rw [endOf_go hlt (by have h := HP.out; rw [beq_iff_eq] at h; rw [h]; rfl)]
          exact endOf_ge
        have hle2 : endOf s lineI j1 ≤ s.size := endOf_le hle
        have HS2 : Hid (skip s false (endOf s lineI j1) = skip s false k) := by
          show _ = _
          rw [← skip_note hlt (by have h := HP.out; rwa [beq_iff_eq] at h)]; exact HS.out
        have HQ := Lib.hid hs2
        have HO2 := Lib.hid ((HO1.out.drewN_ _).trans_ ho2)
        clear hs2 ho2
        generalize endOf s lineI j1 = j2 at *
        go_wp2_with fail
        go_step3
        refine ⟨rfl, ⟨j2, _, _, _, _, _, _, _, _, _, _, _, _, _, _, _, _, _, _, _, _, _, _, _, _, _, _, ⟨hle2, HS2.out, HQ.out, HO2.out⟩, rfl⟩, ?_⟩
        have hm := HM.out
        show scanLeft s g w2 < scanLeft s g wr
        rw [hm, scanLeft_at (HQ.out.cell 1 (.int .i64 (j2 : Nat)) rfl)]
        omega
      · have hp' : (((s[j1]'hlt).toNat : Int) == 35) = false := by rw [← byteI_at hlt]; exact hp
        have HP := Lib.hid hp
        clear hp
        go_wp2_with fail
        go_quiet (fail)
        go_wp2_with fail
        simp only [Exit.jump]
        refine bodyPost_ret (results_none_ rfl _ _ _) rfl ?_
        have hz : skip s false j1 = j1 := skip_here hlt (HEND.out hlt) (by have h := HP.out; rwa [beq_eq_false_iff_ne] at h)
        have hkz := HS.out
        rw [hz] at hkz
        exact ⟨rfl, by rw [← hkz]; exact Blk.drewN HS1.out _, HO1.out.drewN_ _⟩
    · have g1 : decide ((j1 : Int) < (s.size : Int)) = false := by rw [decide_eq_false_iff_not]; omega
      go_wp2_with fail
      go_quiet (fail)
      go_wp2_with fail
      simp only [Exit.jump]
      refine bodyPost_ret (results_none_ rfl _ _ _) rfl ?_
      have hz : skip s false j1 = j1 := skip_stop (fun h => absurd h hlt)
      have hkz := HS.out
      rw [hz] at hkz
      exact ⟨rfl, by rw [← hkz]; exact Blk.drewN HS1.out _, HO1.out.drewN_ _⟩
end Go.Proofs.YtdhphabncchncaaDoor
