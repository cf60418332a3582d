/- The reference's tables, second part. -/
import Derived.Test.YtgegfbopogcjpaaDoorSynU
import Derived.Test.YtgegfbopogcjpaaDoorSynG0
namespace Go.Proofs.YtgegfbopogcjpaaDoor
open Go.RowKit
set_option linter.unusedVariables false
set_option linter.unusedSimpArgs false
set_option maxRecDepth 100000
set_option maxHeartbeats 1000000
def BindRel (op : Int) (w : World) (b0 : Nat) (n : Nd) (A : Option Addr) (c : Nat) (i : Value) (wr : World) : Prop :=
  ∃ j : Nat, i = .int .i64 j ∧ j ≤ 10 ∧ Hid ((∀ k, k < j → opI k ≠ op) ∧ Below w.heap.size w wr ∧ Blk wr b0 9 signsA ∧ Blk wr w.heap.size 24 #[.int .i64 n.k, .string n.t, .int .i64 n.num, .slice A n.kids.length c])
theorem bindR_any (n : Nd) (A : Option Addr) (c : Nat) (w : World) : Calls Tryd.prog 39 #[.agg #[.int .i64 n.k, .string n.t, .int .i64 n.num, .slice A n.kids.length c]] w fun e w' => e = .returned (.int .i64 (bindN n)) ∧ Below w.heap.size w w' := by
  have hB : Below w.heap.size w (w.alloc (.cells #[.int .i64 n.k, .string n.t, .int .i64 n.num, .slice A n.kids.length c] 24)) := by (repeat (first | with_reducible assumption | with_reducible exact Below.refl _ _ | (refine Below.setCell ?_ (by first | omega | (simp; done) | (simp; omega)) _) | (refine Below.drewN_ ?_ _) | (refine Below.drew ?_) | (refine Below.alloc ?_ (by first | omega | (simp; done) | (simp; omega)) _)))
  have HB := Lib.hid hB
  clear hB
  have h : n.k = 28 ∨ n.k = 29 ∨ (n.k ≠ 32 ∧ n.k ≠ 28 ∧ n.k ≠ 29) ∨ n.k = 32 := by omega
  rcases h with h | h | ⟨h1, h2, h3⟩ | h
  · have e1 : Hid (bindN n = 3) := by show _ = _; unfold bindN bindK; rw [h]; rfl
    have b2 : (n.k == 28) = true := by rw [h]; rfl
    clear h
    go_enter Tryd.func39, Tryd.ntmps39
    go_wp2
    go_ret
    exact ⟨by rw [e1.out]; rfl, HB.out⟩
  · have e1 : Hid (bindN n = 3) := by show _ = _; unfold bindN bindK; rw [h]; rfl
    have b2 : (n.k == 28) = false := by rw [h]; rfl
    have b3 : (n.k == 29) = true := by rw [h]; rfl
    clear h
    go_enter Tryd.func39, Tryd.ntmps39
    go_wp2
    go_ret
    exact ⟨by rw [e1.out]; rfl, HB.out⟩
  · have e1 : Hid (bindN n = 4) := by show _ = _; unfold bindN bindK; simp [h1, h2, h3]
    have b1 : (n.k == 32) = false := by simpa using h1
    have b1' : (n.k != 32) = true := by simpa using h1
    have b2 : (n.k == 28) = false := by simpa using h2
    have b3 : (n.k == 29) = false := by simpa using h3
    clear h1 h2 h3
    go_enter Tryd.func39, Tryd.ntmps39
    go_wp2
    go_ret
    exact ⟨by rw [e1.out]; rfl, HB.out⟩
  · have e1 : Hid (bindN n = sgnB n.num) := by show _ = _; unfold bindN bindK; rw [h]; rfl
    have b1 : (n.k == 32) = true := by rw [h]; rfl
    have b1' : (n.k != 32) = false := by rw [h]; rfl
    have b2 : (n.k == 28) = false := by rw [h]; rfl
    have b3 : (n.k == 29) = false := by rw [h]; rfl
    have K1 := Lib.hid ((Blk.new_ w 24 #[.int .i64 n.k, .string n.t, .int .i64 n.num, .slice A n.kids.length c]).alloc (.cells signsA 9))
    have K2 : Hid (Blk ((w.alloc (.cells #[.int .i64 n.k, .string n.t, .int .i64 n.num, .slice A n.kids.length c] 24)).alloc (.cells signsA 9)) (w.heap.size + 1) 9 signsA) := by
      have := Blk.new_ (w.alloc (.cells #[.int .i64 n.k, .string n.t, .int .i64 n.num, .slice A n.kids.length c] 24)) 9 signsA
      rwa [World.size_alloc] at this
    clear h
    go_enter Tryd.func39, Tryd.ntmps39
    go_wp2_with fail
    go_loopw [4] (fun i wr => BindRel n.num w (w.heap.size + 1) n A c i wr) (fun i _ => 10 - (intOf i).toNat)
    case atStart => exact ⟨0, rfl, by omega, Lib.hid ⟨fun k hk => by omega, by (repeat (first | with_reducible assumption | with_reducible exact Below.refl _ _ | (refine Below.setCell ?_ (by first | omega | (simp; done) | (simp; omega)) _) | (refine Below.drewN_ ?_ _) | (refine Below.drew ?_) | (refine Below.alloc ?_ (by first | omega | (simp; done) | (simp; omega)) _))), K2.out, K1.out⟩⟩
    case round =>
      obtain ⟨j, rfl, hj, HX⟩ := hrel
      clear K1 K2
      by_cases hlt : j < 10
      · have hi : (j : Int) < 10 := by omega
        have z1 := HX.out.2.2.1.cell j (.string (sgI j)) (signsA_at j hlt)
        have HSG := Lib.hid (signR_sg j hlt)
        have HAT := Lib.hid (sgn_at j hlt)
        go_wp2_with fail
        refine (signB_any (sgI j) _).mono ?_
        rintro e w2 ⟨rfl, hb2⟩
        rw [HSG.out]
        have B2 := Lib.hid (below_trans HX.out.2.1 (Nat.le_refl _) hb2)
        have N2 := Lib.hid (HX.out.2.2.2.below hb2)
        have G2 := Lib.hid (HX.out.2.2.1.below hb2)
        have q2 := N2.out.cell 2 (.int .i64 n.num) rfl
        clear hb2 z1
        rcases heq : (opI j == n.num) with _ | _
        · have HN : Hid (opI j ≠ n.num) := by show _ ≠ _; simpa using heq
          go_wp2
          go_roundw
          case rel => exact ⟨j + 1, by go_num, by omega, Lib.hid ⟨fun k hk => by
            by_cases hkj : k = j
            · subst hkj; exact HN.out
            · exact HX.out.1 k (by omega), B2.out, G2.out, N2.out⟩⟩
          case measure => (first | (simp [intOf]; done) | (simp [intOf]; omega))
        · have HE : Hid (sgnB n.num = kI j) := by
            show _ = _
            have : opI j = n.num := by simpa using heq
            rw [← this]
            exact HAT.out.1
          go_wp2
          go_ret
          exact ⟨by rw [e1.out, HE.out]; rfl, B2.out⟩
      · have hi : ¬ (j : Int) < 10 := by omega
        have HS : Hid (sgnB n.num = -1) := by
          show _ = _
          unfold sgnB
          rw [sgn_no (fun k hk => HX.out.1 k (by omega))]
        have B2 := Lib.hid HX.out.2.1
        go_wp2
        go_ret
        exact ⟨by rw [e1.out, HS.out]; rfl, B2.out⟩
def SgRel (op : Int) (w : World) (i : Value) (wr : World) : Prop :=
  ∃ j : Nat, i = .int .i64 j ∧ j ≤ 10 ∧ Hid ((∀ k, k < j → opI k ≠ op) ∧ Below w.heap.size w wr ∧ Blk wr w.heap.size 9 signsA)
theorem signOf_any (op : Int) (w : World) : Calls Tryd.prog 30 #[.int .i64 op] w fun e w' => e = .returned (.string (sgnT op)) ∧ Below w.heap.size w w' := by
  have K1 := Lib.hid (Blk.new_ w 9 signsA)
  go_enter Tryd.func30, Tryd.ntmps30
  go_wp2_with fail
  go_loopw [4] (fun i wr => SgRel op w i wr) (fun i _ => 10 - (intOf i).toNat)
  case atStart => exact ⟨0, rfl, by omega, Lib.hid ⟨fun k hk => by omega, by (repeat (first | with_reducible assumption | with_reducible exact Below.refl _ _ | (refine Below.setCell ?_ (by first | omega | (simp; done) | (simp; omega)) _) | (refine Below.drewN_ ?_ _) | (refine Below.drew ?_) | (refine Below.alloc ?_ (by first | omega | (simp; done) | (simp; omega)) _))), K1.out⟩⟩
  case round =>
    obtain ⟨j, rfl, hj, HX⟩ := hrel
    clear K1
    by_cases hlt : j < 10
    · have hi : (j : Int) < 10 := by omega
      have z1 := HX.out.2.2.cell j (.string (sgI j)) (signsA_at j hlt)
      have HSG := Lib.hid (signR_sg j hlt)
      have HAT := Lib.hid (sgn_at j hlt)
      go_wp2_with fail
      refine (signB_any (sgI j) _).mono ?_
      rintro e w2 ⟨rfl, hb2⟩
      rw [HSG.out]
      have B2 := Lib.hid (below_trans HX.out.2.1 (Nat.le_refl _) hb2)
      have G2 := Lib.hid (HX.out.2.2.below hb2)
      have z2 := G2.out.cell j (.string (sgI j)) (signsA_at j hlt)
      clear hb2 z1
      rcases heq : (opI j == op) with _ | _
      · have HN : Hid (opI j ≠ op) := by show _ ≠ _; simpa using heq
        go_wp2
        go_roundw
        case rel => exact ⟨j + 1, by go_num, by omega, Lib.hid ⟨fun k hk => by
          by_cases hkj : k = j
          · subst hkj; exact HN.out
          · exact HX.out.1 k (by omega), B2.out, G2.out⟩⟩
        case measure => (first | (simp [intOf]; done) | (simp [intOf]; omega))
      · have HE : Hid (sgnT op = sgI j) := by
          show _ = _
          have : opI j = op := by simpa using heq
          rw [← this]
          exact HAT.out.2
        go_wp2
        go_ret
        exact ⟨by rw [HE.out]; rfl, B2.out⟩
    · have hi : ¬ (j : Int) < 10 := by omega
      have HS : Hid (sgnT op = ⟨#[]⟩) := by
        show _ = _
        unfold sgnT
        rw [sgn_no (fun k hk => HX.out.1 k (by omega))]
      have B2 := Lib.hid HX.out.2.1
      go_wp2
      go_ret
      exact ⟨by rw [HS.out]; rfl, B2.out⟩
theorem class_any (k : Int) (w : World) : Calls Tryd.prog 33 #[.int .i64 k] w fun e w' => e = .returned (.int .i64 (cls k)) ∧ w' = w := by
  have h : k = 2 ∨ (4 ≤ k ∧ k ≤ 7) ∨ (9 ≤ k ∧ k ≤ 12) ∨ (14 ≤ k ∧ k ≤ 20) ∨ (21 ≤ k ∧ k ≤ 34) ∨ (k < 2 ∨ k = 3 ∨ k = 8 ∨ k = 13 ∨ 34 < k) := by omega
  obtain ⟨C, HC⟩ : ∃ C, Hid (cls k = C) := ⟨_, rfl⟩
  rw [HC.out]
  rcases h with h | h | h | h | h | h
  · have HV : Hid (C = 1) := by show _ = _; rw [← HC.out]; unfold cls; rw [if_pos (by omega)]
    have a2 : (k == 2) = true := by rw [h]; rfl
    clear h
    go_enter Tryd.func33, Tryd.ntmps33
    go_wp2
    go_ret
    exact ⟨by rw [HV.out]; rfl, rfl⟩
  · have HV : Hid (C = 1) := by show _ = _; rw [← HC.out]; unfold cls; rw [if_pos (by omega)]
    have a2 : (k == 2) = false := by simp; omega
    have l4 : decide ((4 : Int) ≤ k) = true := by rw [decide_eq_true_eq]; omega
    have g7 : decide (k ≤ 7) = true := by rw [decide_eq_true_eq]; omega
    clear h
    go_enter Tryd.func33, Tryd.ntmps33
    go_wp2
    go_ret
    exact ⟨by rw [HV.out]; rfl, rfl⟩
  · have HV : Hid (C = 2) := by show _ = _; rw [← HC.out]; unfold cls; rw [if_neg (by omega)]; rw [if_pos (by omega)]
    have a2 : (k == 2) = false := by simp; omega
    have l4 : decide ((4 : Int) ≤ k) = true := by rw [decide_eq_true_eq]; omega
    have g7 : decide (k ≤ 7) = false := by rw [decide_eq_false_iff_not]; omega
    have l9 : decide ((9 : Int) ≤ k) = true := by rw [decide_eq_true_eq]; omega
    have g12 : decide (k ≤ 12) = true := by rw [decide_eq_true_eq]; omega
    clear h
    go_enter Tryd.func33, Tryd.ntmps33
    go_wp2
    go_ret
    exact ⟨by rw [HV.out]; rfl, rfl⟩
  · have HV : Hid (C = 3) := by show _ = _; rw [← HC.out]; unfold cls; rw [if_neg (by omega)]; rw [if_neg (by omega)]; rw [if_pos (by omega)]
    have a2 : (k == 2) = false := by simp; omega
    have l4 : decide ((4 : Int) ≤ k) = true := by rw [decide_eq_true_eq]; omega
    have g7 : decide (k ≤ 7) = false := by rw [decide_eq_false_iff_not]; omega
    have l9 : decide ((9 : Int) ≤ k) = true := by rw [decide_eq_true_eq]; omega
    have g12 : decide (k ≤ 12) = false := by rw [decide_eq_false_iff_not]; omega
    have l14 : decide ((14 : Int) ≤ k) = true := by rw [decide_eq_true_eq]; omega
    have g20 : decide (k ≤ 20) = true := by rw [decide_eq_true_eq]; omega
    clear h
    go_enter Tryd.func33, Tryd.ntmps33
    go_wp2
    go_ret
    exact ⟨by rw [HV.out]; rfl, rfl⟩
  · have HV : Hid (C = 4) := by show _ = _; rw [← HC.out]; unfold cls; rw [if_neg (by omega)]; rw [if_neg (by omega)]; rw [if_neg (by omega)]; rw [if_pos (by omega)]
    have a2 : (k == 2) = false := by simp; omega
    have l4 : decide ((4 : Int) ≤ k) = true := by rw [decide_eq_true_eq]; omega
    have g7 : decide (k ≤ 7) = false := by rw [decide_eq_false_iff_not]; omega
    have l9 : decide ((9 : Int) ≤ k) = true := by rw [decide_eq_true_eq]; omega
    have g12 : decide (k ≤ 12) = false := by rw [decide_eq_false_iff_not]; omega
    have l14 : decide ((14 : Int) ≤ k) = true := by rw [decide_eq_true_eq]; omega
    have g20 : decide (k ≤ 20) = false := by rw [decide_eq_false_iff_not]; omega
    have l21 : decide ((21 : Int) ≤ k) = true := by rw [decide_eq_true_eq]; omega
    have g34 : decide (k ≤ 34) = true := by rw [decide_eq_true_eq]; omega
    clear h
    go_enter Tryd.func33, Tryd.ntmps33
    go_wp2
    go_ret
    exact ⟨by rw [HV.out]; rfl, rfl⟩
  · have HV : Hid (C = 5) := by show _ = _; rw [← HC.out]; unfold cls; rw [if_neg (by omega)]; rw [if_neg (by omega)]; rw [if_neg (by omega)]; rw [if_neg (by omega)]
    have a2 : (k == 2) = false := by simp; omega
    go_enter Tryd.func33, Tryd.ntmps33
    go_wp2
    all_goals first
      | (exfalso; omega)
      | (go_ret
         exact ⟨by rw [HV.out]; rfl, rfl⟩)
/-- what 'of' answers -/
def OfOut (k : Int) (w : World) (e : Ending) (w' : World) : Prop :=
  (match shp k with
    | some s => e = .returned (.tuple #[.agg #[.bool s.text, .int .i64 s.num, .int .i64 (s.least : Int), .int .i64 s.most], .bool true])
    | none => e = .returned (.tuple #[.agg #[.bool false, .int .i64 0, .int .i64 0, .int .i64 0], .bool false])) ∧ Below w.heap.size w w'
theorem of_1 (w : World) : Calls Tryd.prog 28 #[.int .i64 1] w (OfOut 1 w) := by
  go_enter Tryd.func28, Tryd.ntmps28
  go_wp2
  exact bodyPost_ret (v := .tuple #[.agg #[.bool false, .int .i64 (0), .int .i64 0, .int .i64 (-1)], .bool true]) (by simp [results, Tryd.results28, go_sem]) rfl ⟨rfl, by (repeat (first | with_reducible assumption | with_reducible exact Below.refl _ _ | (refine Below.setCell ?_ (by first | omega | (simp; done) | (simp; omega)) _) | (refine Below.drewN_ ?_ _) | (refine Below.drew ?_) | (refine Below.alloc ?_ (by first | omega | (simp; done) | (simp; omega)) _)))⟩
theorem of_13 (w : World) : Calls Tryd.prog 28 #[.int .i64 13] w (OfOut 13 w) := by
  go_enter Tryd.func28, Tryd.ntmps28
  go_wp2
  exact bodyPost_ret (v := .tuple #[.agg #[.bool false, .int .i64 (0), .int .i64 0, .int .i64 (-1)], .bool true]) (by simp [results, Tryd.results28, go_sem]) rfl ⟨rfl, by (repeat (first | with_reducible assumption | with_reducible exact Below.refl _ _ | (refine Below.setCell ?_ (by first | omega | (simp; done) | (simp; omega)) _) | (refine Below.drewN_ ?_ _) | (refine Below.drew ?_) | (refine Below.alloc ?_ (by first | omega | (simp; done) | (simp; omega)) _)))⟩
theorem of_2 (w : World) : Calls Tryd.prog 28 #[.int .i64 2] w (OfOut 2 w) := by
  go_enter Tryd.func28, Tryd.ntmps28
  go_wp2
  exact bodyPost_ret (v := .tuple #[.agg #[.bool true, .int .i64 (0), .int .i64 1, .int .i64 (-1)], .bool true]) (by simp [results, Tryd.results28, go_sem]) rfl ⟨rfl, by (repeat (first | with_reducible assumption | with_reducible exact Below.refl _ _ | (refine Below.setCell ?_ (by first | omega | (simp; done) | (simp; omega)) _) | (refine Below.drewN_ ?_ _) | (refine Below.drew ?_) | (refine Below.alloc ?_ (by first | omega | (simp; done) | (simp; omega)) _)))⟩
theorem of_3 (w : World) : Calls Tryd.prog 28 #[.int .i64 3] w (OfOut 3 w) := by
  go_enter Tryd.func28, Tryd.ntmps28
  go_wp2
  exact bodyPost_ret (v := .tuple #[.agg #[.bool true, .int .i64 (0), .int .i64 1, .int .i64 (1)], .bool true]) (by simp [results, Tryd.results28, go_sem]) rfl ⟨rfl, by (repeat (first | with_reducible assumption | with_reducible exact Below.refl _ _ | (refine Below.setCell ?_ (by first | omega | (simp; done) | (simp; omega)) _) | (refine Below.drewN_ ?_ _) | (refine Below.drew ?_) | (refine Below.alloc ?_ (by first | omega | (simp; done) | (simp; omega)) _)))⟩
theorem of_5 (w : World) : Calls Tryd.prog 28 #[.int .i64 5] w (OfOut 5 w) := by
  go_enter Tryd.func28, Tryd.ntmps28
  go_wp2
  exact bodyPost_ret (v := .tuple #[.agg #[.bool true, .int .i64 (0), .int .i64 1, .int .i64 (1)], .bool true]) (by simp [results, Tryd.results28, go_sem]) rfl ⟨rfl, by (repeat (first | with_reducible assumption | with_reducible exact Below.refl _ _ | (refine Below.setCell ?_ (by first | omega | (simp; done) | (simp; omega)) _) | (refine Below.drewN_ ?_ _) | (refine Below.drew ?_) | (refine Below.alloc ?_ (by first | omega | (simp; done) | (simp; omega)) _)))⟩
theorem of_8 (w : World) : Calls Tryd.prog 28 #[.int .i64 8] w (OfOut 8 w) := by
  go_enter Tryd.func28, Tryd.ntmps28
  go_wp2
  exact bodyPost_ret (v := .tuple #[.agg #[.bool true, .int .i64 (0), .int .i64 1, .int .i64 (1)], .bool true]) (by simp [results, Tryd.results28, go_sem]) rfl ⟨rfl, by (repeat (first | with_reducible assumption | with_reducible exact Below.refl _ _ | (refine Below.setCell ?_ (by first | omega | (simp; done) | (simp; omega)) _) | (refine Below.drewN_ ?_ _) | (refine Below.drew ?_) | (refine Below.alloc ?_ (by first | omega | (simp; done) | (simp; omega)) _)))⟩
theorem of_24 (w : World) : Calls Tryd.prog 28 #[.int .i64 24] w (OfOut 24 w) := by
  go_enter Tryd.func28, Tryd.ntmps28
  go_wp2
  exact bodyPost_ret (v := .tuple #[.agg #[.bool true, .int .i64 (0), .int .i64 1, .int .i64 (1)], .bool true]) (by simp [results, Tryd.results28, go_sem]) rfl ⟨rfl, by (repeat (first | with_reducible assumption | with_reducible exact Below.refl _ _ | (refine Below.setCell ?_ (by first | omega | (simp; done) | (simp; omega)) _) | (refine Below.drewN_ ?_ _) | (refine Below.drew ?_) | (refine Below.alloc ?_ (by first | omega | (simp; done) | (simp; omega)) _)))⟩
theorem of_4 (w : World) : Calls Tryd.prog 28 #[.int .i64 4] w (OfOut 4 w) := by
  go_enter Tryd.func28, Tryd.ntmps28
  go_wp2
  exact bodyPost_ret (v := .tuple #[.agg #[.bool true, .int .i64 (1), .int .i64 1, .int .i64 (-1)], .bool true]) (by simp [results, Tryd.results28, go_sem]) rfl ⟨rfl, by (repeat (first | with_reducible assumption | with_reducible exact Below.refl _ _ | (refine Below.setCell ?_ (by first | omega | (simp; done) | (simp; omega)) _) | (refine Below.drewN_ ?_ _) | (refine Below.drew ?_) | (refine Below.alloc ?_ (by first | omega | (simp; done) | (simp; omega)) _)))⟩
theorem of_6 (w : World) : Calls Tryd.prog 28 #[.int .i64 6] w (OfOut 6 w) := by
  go_enter Tryd.func28, Tryd.ntmps28
  go_wp2
  exact bodyPost_ret (v := .tuple #[.agg #[.bool true, .int .i64 (1), .int .i64 2, .int .i64 (2)], .bool true]) (by simp [results, Tryd.results28, go_sem]) rfl ⟨rfl, by (repeat (first | with_reducible assumption | with_reducible exact Below.refl _ _ | (refine Below.setCell ?_ (by first | omega | (simp; done) | (simp; omega)) _) | (refine Below.drewN_ ?_ _) | (refine Below.drew ?_) | (refine Below.alloc ?_ (by first | omega | (simp; done) | (simp; omega)) _)))⟩
theorem of_7 (w : World) : Calls Tryd.prog 28 #[.int .i64 7] w (OfOut 7 w) := by
  go_enter Tryd.func28, Tryd.ntmps28
  go_wp2
  exact bodyPost_ret (v := .tuple #[.agg #[.bool true, .int .i64 (3), .int .i64 2, .int .i64 (-1)], .bool true]) (by simp [results, Tryd.results28, go_sem]) rfl ⟨rfl, by (repeat (first | with_reducible assumption | with_reducible exact Below.refl _ _ | (refine Below.setCell ?_ (by first | omega | (simp; done) | (simp; omega)) _) | (refine Below.drewN_ ?_ _) | (refine Below.drew ?_) | (refine Below.alloc ?_ (by first | omega | (simp; done) | (simp; omega)) _)))⟩
theorem of_9 (w : World) : Calls Tryd.prog 28 #[.int .i64 9] w (OfOut 9 w) := by
  go_enter Tryd.func28, Tryd.ntmps28
  go_wp2
  exact bodyPost_ret (v := .tuple #[.agg #[.bool false, .int .i64 (0), .int .i64 0, .int .i64 (0)], .bool true]) (by simp [results, Tryd.results28, go_sem]) rfl ⟨rfl, by (repeat (first | with_reducible assumption | with_reducible exact Below.refl _ _ | (refine Below.setCell ?_ (by first | omega | (simp; done) | (simp; omega)) _) | (refine Below.drewN_ ?_ _) | (refine Below.drew ?_) | (refine Below.alloc ?_ (by first | omega | (simp; done) | (simp; omega)) _)))⟩
theorem of_10 (w : World) : Calls Tryd.prog 28 #[.int .i64 10] w (OfOut 10 w) := by
  go_enter Tryd.func28, Tryd.ntmps28
  go_wp2
  exact bodyPost_ret (v := .tuple #[.agg #[.bool false, .int .i64 (0), .int .i64 0, .int .i64 (0)], .bool true]) (by simp [results, Tryd.results28, go_sem]) rfl ⟨rfl, by (repeat (first | with_reducible assumption | with_reducible exact Below.refl _ _ | (refine Below.setCell ?_ (by first | omega | (simp; done) | (simp; omega)) _) | (refine Below.drewN_ ?_ _) | (refine Below.drew ?_) | (refine Below.alloc ?_ (by first | omega | (simp; done) | (simp; omega)) _)))⟩
theorem of_33 (w : World) : Calls Tryd.prog 28 #[.int .i64 33] w (OfOut 33 w) := by
  go_enter Tryd.func28, Tryd.ntmps28
  go_wp2
  exact bodyPost_ret (v := .tuple #[.agg #[.bool false, .int .i64 (0), .int .i64 0, .int .i64 (0)], .bool true]) (by simp [results, Tryd.results28, go_sem]) rfl ⟨rfl, by (repeat (first | with_reducible assumption | with_reducible exact Below.refl _ _ | (refine Below.setCell ?_ (by first | omega | (simp; done) | (simp; omega)) _) | (refine Below.drewN_ ?_ _) | (refine Below.drew ?_) | (refine Below.alloc ?_ (by first | omega | (simp; done) | (simp; omega)) _)))⟩
theorem of_11 (w : World) : Calls Tryd.prog 28 #[.int .i64 11] w (OfOut 11 w) := by
  go_enter Tryd.func28, Tryd.ntmps28
  go_wp2
  exact bodyPost_ret (v := .tuple #[.agg #[.bool true, .int .i64 (0), .int .i64 0, .int .i64 (0)], .bool true]) (by simp [results, Tryd.results28, go_sem]) rfl ⟨rfl, by (repeat (first | with_reducible assumption | with_reducible exact Below.refl _ _ | (refine Below.setCell ?_ (by first | omega | (simp; done) | (simp; omega)) _) | (refine Below.drewN_ ?_ _) | (refine Below.drew ?_) | (refine Below.alloc ?_ (by first | omega | (simp; done) | (simp; omega)) _)))⟩
theorem of_23 (w : World) : Calls Tryd.prog 28 #[.int .i64 23] w (OfOut 23 w) := by
  go_enter Tryd.func28, Tryd.ntmps28
  go_wp2
  exact bodyPost_ret (v := .tuple #[.agg #[.bool true, .int .i64 (0), .int .i64 0, .int .i64 (0)], .bool true]) (by simp [results, Tryd.results28, go_sem]) rfl ⟨rfl, by (repeat (first | with_reducible assumption | with_reducible exact Below.refl _ _ | (refine Below.setCell ?_ (by first | omega | (simp; done) | (simp; omega)) _) | (refine Below.drewN_ ?_ _) | (refine Below.drew ?_) | (refine Below.alloc ?_ (by first | omega | (simp; done) | (simp; omega)) _)))⟩
theorem of_26 (w : World) : Calls Tryd.prog 28 #[.int .i64 26] w (OfOut 26 w) := by
  go_enter Tryd.func28, Tryd.ntmps28
  go_wp2
  exact bodyPost_ret (v := .tuple #[.agg #[.bool true, .int .i64 (0), .int .i64 0, .int .i64 (0)], .bool true]) (by simp [results, Tryd.results28, go_sem]) rfl ⟨rfl, by (repeat (first | with_reducible assumption | with_reducible exact Below.refl _ _ | (refine Below.setCell ?_ (by first | omega | (simp; done) | (simp; omega)) _) | (refine Below.drewN_ ?_ _) | (refine Below.drew ?_) | (refine Below.alloc ?_ (by first | omega | (simp; done) | (simp; omega)) _)))⟩
theorem of_12 (w : World) : Calls Tryd.prog 28 #[.int .i64 12] w (OfOut 12 w) := by
  go_enter Tryd.func28, Tryd.ntmps28
  go_wp2
  exact bodyPost_ret (v := .tuple #[.agg #[.bool false, .int .i64 (1), .int .i64 1, .int .i64 (-1)], .bool true]) (by simp [results, Tryd.results28, go_sem]) rfl ⟨rfl, by (repeat (first | with_reducible assumption | with_reducible exact Below.refl _ _ | (refine Below.setCell ?_ (by first | omega | (simp; done) | (simp; omega)) _) | (refine Below.drewN_ ?_ _) | (refine Below.drew ?_) | (refine Below.alloc ?_ (by first | omega | (simp; done) | (simp; omega)) _)))⟩
theorem of_14 (w : World) : Calls Tryd.prog 28 #[.int .i64 14] w (OfOut 14 w) := by
  go_enter Tryd.func28, Tryd.ntmps28
  go_wp2
  exact bodyPost_ret (v := .tuple #[.agg #[.bool true, .int .i64 (0), .int .i64 2, .int .i64 (2)], .bool true]) (by simp [results, Tryd.results28, go_sem]) rfl ⟨rfl, by (repeat (first | with_reducible assumption | with_reducible exact Below.refl _ _ | (refine Below.setCell ?_ (by first | omega | (simp; done) | (simp; omega)) _) | (refine Below.drewN_ ?_ _) | (refine Below.drew ?_) | (refine Below.alloc ?_ (by first | omega | (simp; done) | (simp; omega)) _)))⟩
theorem of_15 (w : World) : Calls Tryd.prog 28 #[.int .i64 15] w (OfOut 15 w) := by
  go_enter Tryd.func28, Tryd.ntmps28
  go_wp2
  exact bodyPost_ret (v := .tuple #[.agg #[.bool false, .int .i64 (0), .int .i64 2, .int .i64 (2)], .bool true]) (by simp [results, Tryd.results28, go_sem]) rfl ⟨rfl, by (repeat (first | with_reducible assumption | with_reducible exact Below.refl _ _ | (refine Below.setCell ?_ (by first | omega | (simp; done) | (simp; omega)) _) | (refine Below.drewN_ ?_ _) | (refine Below.drew ?_) | (refine Below.alloc ?_ (by first | omega | (simp; done) | (simp; omega)) _)))⟩
theorem of_17 (w : World) : Calls Tryd.prog 28 #[.int .i64 17] w (OfOut 17 w) := by
  go_enter Tryd.func28, Tryd.ntmps28
  go_wp2
  exact bodyPost_ret (v := .tuple #[.agg #[.bool false, .int .i64 (0), .int .i64 2, .int .i64 (2)], .bool true]) (by simp [results, Tryd.results28, go_sem]) rfl ⟨rfl, by (repeat (first | with_reducible assumption | with_reducible exact Below.refl _ _ | (refine Below.setCell ?_ (by first | omega | (simp; done) | (simp; omega)) _) | (refine Below.drewN_ ?_ _) | (refine Below.drew ?_) | (refine Below.alloc ?_ (by first | omega | (simp; done) | (simp; omega)) _)))⟩
theorem of_16 (w : World) : Calls Tryd.prog 28 #[.int .i64 16] w (OfOut 16 w) := by
  go_enter Tryd.func28, Tryd.ntmps28
  go_wp2
  exact bodyPost_ret (v := .tuple #[.agg #[.bool false, .int .i64 (0), .int .i64 2, .int .i64 (3)], .bool true]) (by simp [results, Tryd.results28, go_sem]) rfl ⟨rfl, by (repeat (first | with_reducible assumption | with_reducible exact Below.refl _ _ | (refine Below.setCell ?_ (by first | omega | (simp; done) | (simp; omega)) _) | (refine Below.drewN_ ?_ _) | (refine Below.drew ?_) | (refine Below.alloc ?_ (by first | omega | (simp; done) | (simp; omega)) _)))⟩
theorem of_18 (w : World) : Calls Tryd.prog 28 #[.int .i64 18] w (OfOut 18 w) := by
  go_enter Tryd.func28, Tryd.ntmps28
  go_wp2
  exact bodyPost_ret (v := .tuple #[.agg #[.bool false, .int .i64 (0), .int .i64 1, .int .i64 (1)], .bool true]) (by simp [results, Tryd.results28, go_sem]) rfl ⟨rfl, by (repeat (first | with_reducible assumption | with_reducible exact Below.refl _ _ | (refine Below.setCell ?_ (by first | omega | (simp; done) | (simp; omega)) _) | (refine Below.drewN_ ?_ _) | (refine Below.drew ?_) | (refine Below.alloc ?_ (by first | omega | (simp; done) | (simp; omega)) _)))⟩
theorem of_19 (w : World) : Calls Tryd.prog 28 #[.int .i64 19] w (OfOut 19 w) := by
  go_enter Tryd.func28, Tryd.ntmps28
  go_wp2
  exact bodyPost_ret (v := .tuple #[.agg #[.bool false, .int .i64 (0), .int .i64 1, .int .i64 (1)], .bool true]) (by simp [results, Tryd.results28, go_sem]) rfl ⟨rfl, by (repeat (first | with_reducible assumption | with_reducible exact Below.refl _ _ | (refine Below.setCell ?_ (by first | omega | (simp; done) | (simp; omega)) _) | (refine Below.drewN_ ?_ _) | (refine Below.drew ?_) | (refine Below.alloc ?_ (by first | omega | (simp; done) | (simp; omega)) _)))⟩
theorem of_20 (w : World) : Calls Tryd.prog 28 #[.int .i64 20] w (OfOut 20 w) := by
  go_enter Tryd.func28, Tryd.ntmps28
  go_wp2
  exact bodyPost_ret (v := .tuple #[.agg #[.bool false, .int .i64 (0), .int .i64 1, .int .i64 (1)], .bool true]) (by simp [results, Tryd.results28, go_sem]) rfl ⟨rfl, by (repeat (first | with_reducible assumption | with_reducible exact Below.refl _ _ | (refine Below.setCell ?_ (by first | omega | (simp; done) | (simp; omega)) _) | (refine Below.drewN_ ?_ _) | (refine Below.drew ?_) | (refine Below.alloc ?_ (by first | omega | (simp; done) | (simp; omega)) _)))⟩
theorem of_28 (w : World) : Calls Tryd.prog 28 #[.int .i64 28] w (OfOut 28 w) := by
  go_enter Tryd.func28, Tryd.ntmps28
  go_wp2
  exact bodyPost_ret (v := .tuple #[.agg #[.bool false, .int .i64 (0), .int .i64 1, .int .i64 (1)], .bool true]) (by simp [results, Tryd.results28, go_sem]) rfl ⟨rfl, by (repeat (first | with_reducible assumption | with_reducible exact Below.refl _ _ | (refine Below.setCell ?_ (by first | omega | (simp; done) | (simp; omega)) _) | (refine Below.drewN_ ?_ _) | (refine Below.drew ?_) | (refine Below.alloc ?_ (by first | omega | (simp; done) | (simp; omega)) _)))⟩
theorem of_29 (w : World) : Calls Tryd.prog 28 #[.int .i64 29] w (OfOut 29 w) := by
  go_enter Tryd.func28, Tryd.ntmps28
  go_wp2
  exact bodyPost_ret (v := .tuple #[.agg #[.bool false, .int .i64 (0), .int .i64 1, .int .i64 (1)], .bool true]) (by simp [results, Tryd.results28, go_sem]) rfl ⟨rfl, by (repeat (first | with_reducible assumption | with_reducible exact Below.refl _ _ | (refine Below.setCell ?_ (by first | omega | (simp; done) | (simp; omega)) _) | (refine Below.drewN_ ?_ _) | (refine Below.drew ?_) | (refine Below.alloc ?_ (by first | omega | (simp; done) | (simp; omega)) _)))⟩
theorem of_30 (w : World) : Calls Tryd.prog 28 #[.int .i64 30] w (OfOut 30 w) := by
  go_enter Tryd.func28, Tryd.ntmps28
  go_wp2
  exact bodyPost_ret (v := .tuple #[.agg #[.bool false, .int .i64 (0), .int .i64 1, .int .i64 (1)], .bool true]) (by simp [results, Tryd.results28, go_sem]) rfl ⟨rfl, by (repeat (first | with_reducible assumption | with_reducible exact Below.refl _ _ | (refine Below.setCell ?_ (by first | omega | (simp; done) | (simp; omega)) _) | (refine Below.drewN_ ?_ _) | (refine Below.drew ?_) | (refine Below.alloc ?_ (by first | omega | (simp; done) | (simp; omega)) _)))⟩
theorem of_31 (w : World) : Calls Tryd.prog 28 #[.int .i64 31] w (OfOut 31 w) := by
  go_enter Tryd.func28, Tryd.ntmps28
  go_wp2
  exact bodyPost_ret (v := .tuple #[.agg #[.bool false, .int .i64 (0), .int .i64 1, .int .i64 (1)], .bool true]) (by simp [results, Tryd.results28, go_sem]) rfl ⟨rfl, by (repeat (first | with_reducible assumption | with_reducible exact Below.refl _ _ | (refine Below.setCell ?_ (by first | omega | (simp; done) | (simp; omega)) _) | (refine Below.drewN_ ?_ _) | (refine Below.drew ?_) | (refine Below.alloc ?_ (by first | omega | (simp; done) | (simp; omega)) _)))⟩
theorem of_34 (w : World) : Calls Tryd.prog 28 #[.int .i64 34] w (OfOut 34 w) := by
  go_enter Tryd.func28, Tryd.ntmps28
  go_wp2
  exact bodyPost_ret (v := .tuple #[.agg #[.bool false, .int .i64 (0), .int .i64 1, .int .i64 (1)], .bool true]) (by simp [results, Tryd.results28, go_sem]) rfl ⟨rfl, by (repeat (first | with_reducible assumption | with_reducible exact Below.refl _ _ | (refine Below.setCell ?_ (by first | omega | (simp; done) | (simp; omega)) _) | (refine Below.drewN_ ?_ _) | (refine Below.drew ?_) | (refine Below.alloc ?_ (by first | omega | (simp; done) | (simp; omega)) _)))⟩
theorem of_21 (w : World) : Calls Tryd.prog 28 #[.int .i64 21] w (OfOut 21 w) := by
  go_enter Tryd.func28, Tryd.ntmps28
  go_wp2
  exact bodyPost_ret (v := .tuple #[.agg #[.bool false, .int .i64 (-1), .int .i64 0, .int .i64 (0)], .bool true]) (by simp [results, Tryd.results28, go_sem]) rfl ⟨rfl, by (repeat (first | with_reducible assumption | with_reducible exact Below.refl _ _ | (refine Below.setCell ?_ (by first | omega | (simp; done) | (simp; omega)) _) | (refine Below.drewN_ ?_ _) | (refine Below.drew ?_) | (refine Below.alloc ?_ (by first | omega | (simp; done) | (simp; omega)) _)))⟩
theorem of_22 (w : World) : Calls Tryd.prog 28 #[.int .i64 22] w (OfOut 22 w) := by
  go_enter Tryd.func28, Tryd.ntmps28
  go_wp2
  exact bodyPost_ret (v := .tuple #[.agg #[.bool false, .int .i64 (-1), .int .i64 0, .int .i64 (0)], .bool true]) (by simp [results, Tryd.results28, go_sem]) rfl ⟨rfl, by (repeat (first | with_reducible assumption | with_reducible exact Below.refl _ _ | (refine Below.setCell ?_ (by first | omega | (simp; done) | (simp; omega)) _) | (refine Below.drewN_ ?_ _) | (refine Below.drew ?_) | (refine Below.alloc ?_ (by first | omega | (simp; done) | (simp; omega)) _)))⟩
theorem of_25 (w : World) : Calls Tryd.prog 28 #[.int .i64 25] w (OfOut 25 w) := by
  go_enter Tryd.func28, Tryd.ntmps28
  go_wp2
  exact bodyPost_ret (v := .tuple #[.agg #[.bool false, .int .i64 (0), .int .i64 1, .int .i64 (-1)], .bool true]) (by simp [results, Tryd.results28, go_sem]) rfl ⟨rfl, by (repeat (first | with_reducible assumption | with_reducible exact Below.refl _ _ | (refine Below.setCell ?_ (by first | omega | (simp; done) | (simp; omega)) _) | (refine Below.drewN_ ?_ _) | (refine Below.drew ?_) | (refine Below.alloc ?_ (by first | omega | (simp; done) | (simp; omega)) _)))⟩
theorem of_27 (w : World) : Calls Tryd.prog 28 #[.int .i64 27] w (OfOut 27 w) := by
  go_enter Tryd.func28, Tryd.ntmps28
  go_wp2
  exact bodyPost_ret (v := .tuple #[.agg #[.bool true, .int .i64 (0), .int .i64 0, .int .i64 (-1)], .bool true]) (by simp [results, Tryd.results28, go_sem]) rfl ⟨rfl, by (repeat (first | with_reducible assumption | with_reducible exact Below.refl _ _ | (refine Below.setCell ?_ (by first | omega | (simp; done) | (simp; omega)) _) | (refine Below.drewN_ ?_ _) | (refine Below.drew ?_) | (refine Below.alloc ?_ (by first | omega | (simp; done) | (simp; omega)) _)))⟩
theorem of_32 (w : World) : Calls Tryd.prog 28 #[.int .i64 32] w (OfOut 32 w) := by
  go_enter Tryd.func28, Tryd.ntmps28
  go_wp2
  exact bodyPost_ret (v := .tuple #[.agg #[.bool false, .int .i64 (12), .int .i64 2, .int .i64 (2)], .bool true]) (by simp [results, Tryd.results28, go_sem]) rfl ⟨rfl, by (repeat (first | with_reducible assumption | with_reducible exact Below.refl _ _ | (refine Below.setCell ?_ (by first | omega | (simp; done) | (simp; omega)) _) | (refine Below.drewN_ ?_ _) | (refine Below.drew ?_) | (refine Below.alloc ?_ (by first | omega | (simp; done) | (simp; omega)) _)))⟩
theorem shp_none {k : Int} (h : k < 1 ∨ 34 < k) : shp k = none := by
  unfold shp
  rw [if_neg (by omega), if_neg (by omega), if_neg (by omega), if_neg (by omega), if_neg (by omega), if_neg (by omega), if_neg (by omega), if_neg (by omega), if_neg (by omega), if_neg (by omega), if_neg (by omega), if_neg (by omega), if_neg (by omega), if_neg (by omega), if_neg (by omega), if_neg (by omega), if_neg (by omega)]
theorem of_no (k : Int) (w : World) (h : k < 1 ∨ 34 < k) : Calls Tryd.prog 28 #[.int .i64 k] w (OfOut k w) := by
  have HN := Lib.hid (shp_none h)
  have b1 : (k == 1) = false := by simp; omega
  have b2 : (k == 2) = false := by simp; omega
  have b3 : (k == 3) = false := by simp; omega
  have b4 : (k == 4) = false := by simp; omega
  have b5 : (k == 5) = false := by simp; omega
  have b6 : (k == 6) = false := by simp; omega
  have b7 : (k == 7) = false := by simp; omega
  have b8 : (k == 8) = false := by simp; omega
  have b9 : (k == 9) = false := by simp; omega
  have b10 : (k == 10) = false := by simp; omega
  have b11 : (k == 11) = false := by simp; omega
  have b12 : (k == 12) = false := by simp; omega
  have b13 : (k == 13) = false := by simp; omega
  have b14 : (k == 14) = false := by simp; omega
  have b15 : (k == 15) = false := by simp; omega
  have b16 : (k == 16) = false := by simp; omega
  have b17 : (k == 17) = false := by simp; omega
  have b18 : (k == 18) = false := by simp; omega
  have b19 : (k == 19) = false := by simp; omega
  have b20 : (k == 20) = false := by simp; omega
  have b21 : (k == 21) = false := by simp; omega
  have b22 : (k == 22) = false := by simp; omega
  have b23 : (k == 23) = false := by simp; omega
  have b24 : (k == 24) = false := by simp; omega
  have b25 : (k == 25) = false := by simp; omega
  have b26 : (k == 26) = false := by simp; omega
  have b27 : (k == 27) = false := by simp; omega
  have b28 : (k == 28) = false := by simp; omega
  have b29 : (k == 29) = false := by simp; omega
  have b30 : (k == 30) = false := by simp; omega
  have b31 : (k == 31) = false := by simp; omega
  have b32 : (k == 32) = false := by simp; omega
  have b33 : (k == 33) = false := by simp; omega
  have b34 : (k == 34) = false := by simp; omega
  clear h
  go_enter Tryd.func28, Tryd.ntmps28
  go_wp2
  exact bodyPost_ret (v := .tuple #[.agg #[.bool false, .int .i64 0, .int .i64 0, .int .i64 0], .bool false]) (by simp [results, Tryd.results28, go_sem]) rfl ⟨by rw [HN.out], by (repeat (first | with_reducible assumption | with_reducible exact Below.refl _ _ | (refine Below.setCell ?_ (by first | omega | (simp; done) | (simp; omega)) _) | (refine Below.drewN_ ?_ _) | (refine Below.drew ?_) | (refine Below.alloc ?_ (by first | omega | (simp; done) | (simp; omega)) _)))⟩
theorem of_any (k : Int) (w : World) : Calls Tryd.prog 28 #[.int .i64 k] w (OfOut k w) := by
  by_cases h1 : k = 1
  · subst h1; exact of_1 w
  by_cases h2 : k = 2
  · subst h2; exact of_2 w
  by_cases h3 : k = 3
  · subst h3; exact of_3 w
  by_cases h4 : k = 4
  · subst h4; exact of_4 w
  by_cases h5 : k = 5
  · subst h5; exact of_5 w
  by_cases h6 : k = 6
  · subst h6; exact of_6 w
  by_cases h7 : k = 7
  · subst h7; exact of_7 w
  by_cases h8 : k = 8
  · subst h8; exact of_8 w
  by_cases h9 : k = 9
  · subst h9; exact of_9 w
  by_cases h10 : k = 10
  · subst h10; exact of_10 w
  by_cases h11 : k = 11
  · subst h11; exact of_11 w
  by_cases h12 : k = 12
  · subst h12; exact of_12 w
  by_cases h13 : k = 13
  · subst h13; exact of_13 w
  by_cases h14 : k = 14
  · subst h14; exact of_14 w
  by_cases h15 : k = 15
  · subst h15; exact of_15 w
  by_cases h16 : k = 16
  · subst h16; exact of_16 w
  by_cases h17 : k = 17
  · subst h17; exact of_17 w
  by_cases h18 : k = 18
  · subst h18; exact of_18 w
  by_cases h19 : k = 19
  · subst h19; exact of_19 w
  by_cases h20 : k = 20
  · subst h20; exact of_20 w
  by_cases h21 : k = 21
  · subst h21; exact of_21 w
  by_cases h22 : k = 22
  · subst h22; exact of_22 w
  by_cases h23 : k = 23
  · subst h23; exact of_23 w
  by_cases h24 : k = 24
  · subst h24; exact of_24 w
  by_cases h25 : k = 25
  · subst h25; exact of_25 w
  by_cases h26 : k = 26
  · subst h26; exact of_26 w
  by_cases h27 : k = 27
  · subst h27; exact of_27 w
  by_cases h28 : k = 28
  · subst h28; exact of_28 w
  by_cases h29 : k = 29
  · subst h29; exact of_29 w
  by_cases h30 : k = 30
  · subst h30; exact of_30 w
  by_cases h31 : k = 31
  · subst h31; exact of_31 w
  by_cases h32 : k = 32
  · subst h32; exact of_32 w
  by_cases h33 : k = 33
  · subst h33; exact of_33 w
  by_cases h34 : k = 34
  · subst h34; exact of_34 w
  exact of_no k w (by omega)
end Go.Proofs.YtgegfbopogcjpaaDoor
