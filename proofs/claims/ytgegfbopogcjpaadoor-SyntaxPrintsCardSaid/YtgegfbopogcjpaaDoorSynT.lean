/- The reference: how many nodes, how deep (ref6.Many, Deep, Fits). -/
import Derived.Test.YtgegfbopogcjpaaDoorSynQ
namespace Go.Proofs.YtgegfbopogcjpaaDoor
open Go.RowKit
set_option linter.unusedVariables false
set_option linter.unusedSimpArgs false
set_option maxRecDepth 100000
set_option maxHeartbeats 1000000
theorem deep_pos (n : Nd) : 1 ≤ deep n := by rw [wdeep_eq]; omega
def ManyRel (n : Nd) (A : Option Addr) (c M : Nat) (w : World) (k i : Value) (wr : World) : Prop :=
  ∃ j : Nat, i = .int .i64 j ∧ k = .int .i64 ((min (1 + manyL (n.kids.take j)) (M + 1) : Nat) : Int) ∧ j ≤ n.kids.length ∧ Hid (Below w.heap.size w wr ∧ Blk wr w.heap.size 24 #[.int .i64 n.k, .string n.t, .int .i64 n.num, .slice A n.kids.length c])
theorem many_all : ∀ (N : Nat) (n : Nd), many n ≤ N → ∀ (cs : List Value) (w : World) (M : Nat), RepN w n cs → M ≤ 700 →
    Calls Tryd.prog 26 #[.agg cs.toArray, .int .i64 (M : Int)] w fun e w' => e = .returned (.int .i64 ((min (many n) (M + 1) : Nat) : Int)) ∧ Below w.heap.size w w'
  | 0, n, h => absurd h (by have := many_pos n; omega)
  | N + 1, n, hN => by
    intro cs w M hr hM
    have IH := Lib.hid (fun m (hm : m ∈ n.kids) => many_all N m (by have := many_kid hm; omega))
    obtain ⟨A, c, rfl, hR, hcap, hlm, hn64, hts⟩ := hr.four
    have HR := Lib.hid hR
    clear hr hR hN
    have hmn := wmany_eq n
    have hl9 : n.kids.length ≤ 9223372036854775807 := by unfold maxLen at hlm; omega
    obtain ⟨V, HV⟩ : ∃ V : Nat, Hid (min (many n) (M + 1) = V) := ⟨_, rfl⟩
    rw [HV.out]
    go_enter Tryd.func26, Tryd.ntmps26
    go_wp2_with fail
    go_loopw [5, 6] (fun k i wr => ManyRel n A c M w k i wr) (fun _ i _ => n.kids.length - (intOf i).toNat)
    case atStart => exact ⟨0, rfl, by simp [manyL], Nat.zero_le _, Lib.hid ⟨by (repeat (first | with_reducible assumption | with_reducible exact Below.refl _ _ | (refine Below.setCell ?_ (by first | omega | (simp; done) | (simp; omega)) _) | (refine Below.drewN_ ?_ _) | (refine Below.drew ?_) | (refine Below.alloc ?_ (by first | omega | (simp; done) | (simp; omega)) _))), Blk.new_ _ _ _⟩⟩
    case round =>
      obtain ⟨j, rfl, rfl, hj, HX⟩ := hrel
      obtain ⟨K, hK⟩ : ∃ K, min (1 + manyL (n.kids.take j)) (M + 1) = K := ⟨_, rfl⟩
      rw [hK]
      have q3 := HX.out.2.cell 3 (.slice A n.kids.length c) rfl
      have hK1 : 1 ≤ K := by omega
      have hKM : K ≤ M + 1 := by omega
      by_cases hlt : j < n.kids.length
      · have hi : (j : Int) < (n.kids.length : Int) := by omega
        have d1 : decide ((j : Int) < (n.kids.length : Int)) = true := by simpa using hi
        have hpart := wmany_part hlt
        by_cases hkm : K ≤ M
        · have d2 : decide ((K : Int) ≤ (M : Int)) = true := by rw [decide_eq_true_eq]; omega
          have d3 : (K : Int) ≤ (M : Int) := by omega
          obtain ⟨b, o, cs, hA, hbl, hc, hrep⟩ := RepNL.at_ n.kids _ HR.out j hlt
          subst hA
          obtain ⟨A', c', rfl, -⟩ := hrep.four
          have bw := HX.out.1
          have z0 := (bw.cell (p := ⟨b, o + j * 4 + 0, none⟩) hbl).trans (hc 0 _ rfl)
          have z1 := (bw.cell (p := ⟨b, o + j * 4 + 1, none⟩) hbl).trans (hc 1 _ rfl)
          have z2 := (bw.cell (p := ⟨b, o + j * 4 + 2, none⟩) hbl).trans (hc 2 _ rfl)
          have z3 := (bw.cell (p := ⟨b, o + j * 4 + 3, none⟩) hbl).trans (hc 3 _ rfl)
          rw [Nat.add_zero] at z0
          have HREP := Lib.hid (RepN.keep bw _ _ hrep)
          have HI := Lib.hid (IH.out _ (List.getElem_mem hlt))
          have HT := Lib.hid (wmany_take hlt)
          have hKe : K = 1 + manyL (n.kids.take j) := by omega
          have HKE := Lib.hid hKe
          have hsub : ((M - K : Nat) : Int) = (M : Int) - (K : Int) := by omega
          have HS := Lib.hid hsub
          clear hc bw hrep hKe hsub hK
          generalize n.kids[j] = x at *
          go_wp2_with fail
          rw [← HS.out]
          refine (HI.out _ _ (M - K) HREP.out (by omega)).mono ?_
          rintro e w2 ⟨rfl, hb2⟩
          have BX := Lib.hid (below_trans HX.out.1 (Nat.le_refl _) hb2)
          have KX := Lib.hid (HX.out.2.below hb2)
          clear hb2
          have hR1 : min (many x) (M - K + 1) ≤ 701 := by omega
          have HR1 : Hid (K + min (many x) (M - K + 1) = min (1 + manyL (n.kids.take (j + 1))) (M + 1)) := by
            show _ = _
            rw [HT.out]
            have := HKE.out
            omega
          generalize min (many x) (M - K + 1) = R at *
          go_wp2
          go_roundw
          case rel => exact ⟨j + 1, by go_num, by rw [← HR1.out]; go_num, by omega, Lib.hid ⟨BX.out, KX.out⟩⟩
          case measure => (first | (simp [intOf]; done) | (simp [intOf]; omega))
        · have d2 : decide ((K : Int) ≤ (M : Int)) = false := by rw [decide_eq_false_iff_not]; omega
          have d3 : ¬ (K : Int) ≤ (M : Int) := by omega
          have hVV : V = K := by rw [← HV.out]; omega
          have HVV := Lib.hid hVV
          clear hVV hK
          go_wp2
          go_ret
          exact ⟨by rw [HVV.out]; rfl, HX.out.1⟩
      · have hi : ¬ (j : Int) < (n.kids.length : Int) := by omega
        have d1 : decide ((j : Int) < (n.kids.length : Int)) = false := by simpa using hi
        have hVV : V = K := by
          have : j = n.kids.length := by omega
          rw [this, List.take_length] at hK
          rw [← HV.out, ← hK]
          omega
        have HVV := Lib.hid hVV
        clear hVV hK
        go_wp2
        go_ret
        exact ⟨by rw [HVV.out]; rfl, HX.out.1⟩
def DeepRel (n : Nd) (A : Option Addr) (c M : Nat) (w : World) (d i : Value) (wr : World) : Prop :=
  ∃ j : Nat, i = .int .i64 j ∧ d = .int .i64 ((min (deepL (n.kids.take j)) M : Nat) : Int) ∧ j ≤ n.kids.length ∧ Hid (Below w.heap.size w wr ∧ Blk wr w.heap.size 24 #[.int .i64 n.k, .string n.t, .int .i64 n.num, .slice A n.kids.length c])
theorem deep_all : ∀ (N : Nat) (n : Nd), many n ≤ N → ∀ (cs : List Value) (w : World) (M : Nat), RepN w n cs → M ≤ 16 →
    Calls Tryd.prog 27 #[.agg cs.toArray, .int .i64 (M : Int)] w fun e w' => e = .returned (.int .i64 ((min (deep n) (M + 1) : Nat) : Int)) ∧ Below w.heap.size w w'
  | 0, n, h => absurd h (by have := many_pos n; omega)
  | N + 1, n, hN => by
    intro cs w M hr hM
    have IH := Lib.hid (fun m (hm : m ∈ n.kids) => deep_all N m (by have := many_kid hm; omega))
    obtain ⟨A, c, rfl, hR, hcap, hlm, hn64, hts⟩ := hr.four
    have HR := Lib.hid hR
    clear hr hR hN
    have hdn := wdeep_eq n
    have hl9 : n.kids.length ≤ 9223372036854775807 := by unfold maxLen at hlm; omega
    obtain ⟨V, HV⟩ : ∃ V : Nat, Hid (min (deep n) (M + 1) = V) := ⟨_, rfl⟩
    rw [HV.out]
    go_enter Tryd.func27, Tryd.ntmps27
    go_wp2_with fail
    go_loopw [5, 6] (fun d i wr => DeepRel n A c M w d i wr) (fun _ i _ => n.kids.length - (intOf i).toNat)
    case atStart => exact ⟨0, rfl, by simp [deepL], Nat.zero_le _, Lib.hid ⟨by (repeat (first | with_reducible assumption | with_reducible exact Below.refl _ _ | (refine Below.setCell ?_ (by first | omega | (simp; done) | (simp; omega)) _) | (refine Below.drewN_ ?_ _) | (refine Below.drew ?_) | (refine Below.alloc ?_ (by first | omega | (simp; done) | (simp; omega)) _))), Blk.new_ _ _ _⟩⟩
    case round =>
      obtain ⟨j, rfl, rfl, hj, HX⟩ := hrel
      obtain ⟨K, hK⟩ : ∃ K, min (deepL (n.kids.take j)) M = K := ⟨_, rfl⟩
      rw [hK]
      have q3 := HX.out.2.cell 3 (.slice A n.kids.length c) rfl
      have hKM : K ≤ M := by omega
      have d2 : decide ((K : Int) ≤ (M : Int)) = true := by rw [decide_eq_true_eq]; omega
      have d3 : (K : Int) ≤ (M : Int) := by omega
      by_cases hlt : j < n.kids.length
      · have hi : (j : Int) < (n.kids.length : Int) := by omega
        have d1 : decide ((j : Int) < (n.kids.length : Int)) = true := by simpa using hi
        have hpart := wdeep_part hlt
        by_cases hm0 : 0 < M
        · have d4 : decide ((0 : Int) < (M : Int)) = true := by rw [decide_eq_true_eq]; omega
          have d5 : (0 : Int) < (M : Int) := by omega
          obtain ⟨b, o, cs, hA, hbl, hc, hrep⟩ := RepNL.at_ n.kids _ HR.out j hlt
          subst hA
          obtain ⟨A', c', rfl, -⟩ := hrep.four
          have bw := HX.out.1
          have z0 := (bw.cell (p := ⟨b, o + j * 4 + 0, none⟩) hbl).trans (hc 0 _ rfl)
          have z1 := (bw.cell (p := ⟨b, o + j * 4 + 1, none⟩) hbl).trans (hc 1 _ rfl)
          have z2 := (bw.cell (p := ⟨b, o + j * 4 + 2, none⟩) hbl).trans (hc 2 _ rfl)
          have z3 := (bw.cell (p := ⟨b, o + j * 4 + 3, none⟩) hbl).trans (hc 3 _ rfl)
          rw [Nat.add_zero] at z0
          have HREP := Lib.hid (RepN.keep bw _ _ hrep)
          have HI := Lib.hid (IH.out _ (List.getElem_mem hlt))
          have HT := Lib.hid (wdeep_take hlt)
          have HKE := Lib.hid hK
          have hsub : ((M - 1 : Nat) : Int) = (M : Int) - 1 := by omega
          have HS := Lib.hid hsub
          clear hc bw hrep hsub hK
          generalize n.kids[j] = x at *
          go_wp2_with fail
          rw [← HS.out]
          refine (HI.out _ _ (M - 1) HREP.out (by omega)).mono ?_
          rintro e w2 ⟨rfl, hb2⟩
          have BX := Lib.hid (below_trans HX.out.1 (Nat.le_refl _) hb2)
          have KX := Lib.hid (HX.out.2.below hb2)
          clear hb2
          have hR1 : min (deep x) (M - 1 + 1) ≤ 16 := by omega
          have HR1 : Hid (max K (min (deep x) (M - 1 + 1)) = min (deepL (n.kids.take (j + 1))) M) := by
            show _ = _
            rw [HT.out]
            have := HKE.out
            omega
          generalize min (deep x) (M - 1 + 1) = R at *
          have hmax : max (K : Int) (R : Int) = ((max K R : Nat) : Int) := by omega
          have HMX := Lib.hid hmax
          clear hmax
          go_wp2
          go_roundw
          case rel => exact ⟨j + 1, by go_num, by rw [← HR1.out, ← HMX.out], by omega, Lib.hid ⟨BX.out, KX.out⟩⟩
          case measure => (first | (simp [intOf]; done) | (simp [intOf]; omega))
        · have d4 : decide ((0 : Int) < (M : Int)) = false := by rw [decide_eq_false_iff_not]; omega
          have d5 : ¬ (0 : Int) < (M : Int) := by omega
          have hVV : V = K + 1 := by rw [← HV.out]; have := deep_pos n; omega
          have HVV := Lib.hid hVV
          clear hVV hK
          go_wp2
          go_ret
          exact ⟨by rw [HVV.out]; simp, HX.out.1⟩
      · have hi : ¬ (j : Int) < (n.kids.length : Int) := by omega
        have d1 : decide ((j : Int) < (n.kids.length : Int)) = false := by simpa using hi
        have hVV : V = K + 1 := by
          have : j = n.kids.length := by omega
          rw [this, List.take_length] at hK
          rw [← HV.out, ← hK]
          omega
        have HVV := Lib.hid hVV
        clear hVV hK
        go_wp2
        go_ret
        exact ⟨by rw [HVV.out]; simp, HX.out.1⟩
theorem fits_any (n : Nd) (cs : List Value) (w : World) (hr : RepN w n cs) : Calls Tryd.prog 12 #[.agg cs.toArray] w fun e w' => e = .returned (.bool (fitsN n)) ∧ Below w.heap.size w w' := by
  have H1 := Lib.hid (fun (W : World) (h : RepN W n cs) => many_all _ n (Nat.le_refl _) cs W 700 h (by omega))
  have H2 := Lib.hid (fun (W : World) (h : RepN W n cs) => deep_all _ n (Nat.le_refl _) cs W 16 h (by omega))
  have HR := Lib.hid hr
  obtain ⟨A, c, rfl, -⟩ := hr.four
  obtain ⟨V, HV⟩ : ∃ V, Hid (fitsN n = V) := ⟨_, rfl⟩
  rw [HV.out]
  have B0 : Hid (Below w.heap.size w (w.alloc (.cells #[.int .i64 n.k, .string n.t, .int .i64 n.num, .slice A n.kids.length c] 24))) := by show Below _ _ _; (repeat (first | with_reducible assumption | with_reducible exact Below.refl _ _ | (refine Below.setCell ?_ (by first | omega | (simp; done) | (simp; omega)) _) | (refine Below.drewN_ ?_ _) | (refine Below.drew ?_) | (refine Below.alloc ?_ (by first | omega | (simp; done) | (simp; omega)) _)))
  have K0 := Lib.hid (Blk.new_ w 24 #[.int .i64 n.k, .string n.t, .int .i64 n.num, .slice A n.kids.length c])
  clear hr
  go_enter Tryd.func12, Tryd.ntmps12
  go_wp2_with fail
  refine (H1.out _ (RepN.keep B0.out _ _ HR.out)).mono ?_
  rintro e w1 ⟨rfl, hb1⟩
  have B1 := Lib.hid (below_trans B0.out (Nat.le_refl _) hb1)
  have K1 := Lib.hid (K0.out.below hb1)
  clear hb1
  have q0 := K1.out.cell 0 (.int .i64 n.k) rfl
  have q1 := K1.out.cell 1 (.string n.t) rfl
  have q2 := K1.out.cell 2 (.int .i64 n.num) rfl
  have q3 := K1.out.cell 3 (.slice A n.kids.length c) rfl
  by_cases h7 : many n ≤ 700
  · have hmin : min (many n) (700 + 1) = many n := by omega
    rw [hmin]
    have d1 : decide ((700 : Int) < (many n : Int)) = false := by rw [decide_eq_false_iff_not]; omega
    have d2 : ¬ (700 : Int) < (many n : Int) := by omega
    have HM := Lib.hid hmin
    clear hmin
    go_wp2_with fail
    refine (H2.out _ (RepN.keep B1.out _ _ HR.out)).mono ?_
    rintro e w2 ⟨rfl, hb2⟩
    have B2 := Lib.hid (below_trans B1.out (Nat.le_refl _) hb2)
    clear hb2
    have hVV : V = decide (((min (deep n) (16 + 1) : Nat) : Int) ≤ 16) := by
      rw [← HV.out]
      unfold fitsN
      rw [decide_eq_true h7, Bool.true_and, decide_eq_decide]
      omega
    have HVV := Lib.hid hVV
    clear hVV
    generalize min (deep n) (16 + 1) = R at *
    go_wp2
    go_ret
    exact ⟨by rw [HVV.out]; rfl, B2.out⟩
  · have hmin : min (many n) (700 + 1) = 701 := by omega
    rw [hmin]
    have hVV : V = false := by
      rw [← HV.out]
      unfold fitsN
      rw [decide_eq_false h7, Bool.false_and]
    have HVV := Lib.hid hVV
    clear hVV hmin
    go_wp2
    go_ret
    exact ⟨by rw [HVV.out]; rfl, B1.out⟩
end Go.Proofs.YtgegfbopogcjpaaDoor
