/- ref6.Print. -/
import Derived.Test.YtgegfbopogcjpaaDoorShwN
namespace Go.Proofs.YtgegfbopogcjpaaDoor
open Go.RowKit
set_option linter.unusedVariables false
set_option linter.unusedSimpArgs false
set_option maxRecDepth 100000
set_option maxHeartbeats 1000000
/-- what ref6.Print answers -/
def PrintR (n : Nd) (w : World) (e : Ending) (w' : World) : Prop := e = .returned (.tuple #[.string (printT n), .int .i64 (printE n)]) ∧ Below w.heap.size w w'
theorem printR_any (n : Nd) (cs : List Value) (w : World) (hr : RepN w n cs) : Calls Tryd.prog 5 #[.agg cs.toArray] w (PrintR n w) := by
  have HR := Lib.hid hr
  have FT := Lib.hid (fun (W : World) (h : RepN W n cs) => fits_any n cs W h)
  have IS := Lib.hid (fun (W : World) (h : RepN W n cs) => is_any n false cs W h)
  have SH := Lib.hid (fun (W : World) (h1 : isN n false = true) (h2 : many n ≤ 700) (h : RepN W n cs) => show_any h1 h2 cs W h)
  have HPT : Hid (printT n = if fitsN n = true ∧ n.k = 1 ∧ isN n false = true ∧ (joinW (shw n)).length ≤ 4000 then ⟨(joinW (shw n)).toArray⟩ else ⟨#[]⟩) := rfl
  have HPE : Hid (printE n = if fitsN n = false then 1 else if ¬ (n.k = 1 ∧ isN n false = true) then 2 else if 4000 < (joinW (shw n)).length then 1 else 0) := rfl
  have HMN : Hid (fitsN n = true → many n ≤ 700) := by show _ → _; intro h; unfold fitsN at h; simp only [Bool.and_eq_true, decide_eq_true_eq] at h; exact h.1
  have HLONG : Hid (isN n false = true → many n ≤ 700 → (sB (shw n)).size ≤ 200000) := fun h1 h2 => text_le h1 h2
  have HSZ : Hid ((sB (shw n)).size = (joinW (shw n)).length) := sB_size _
  have HSB : Hid ((⟨(joinW (shw n)).toArray⟩ : ByteArray) = sB (shw n)) := rfl
  obtain ⟨A, c, rfl, -⟩ := hr.four
  have hb0 : Below w.heap.size w (w.alloc (.cells #[.int .i64 n.k, .string n.t, .int .i64 n.num, .slice A n.kids.length c] 24)) := by (repeat (first | with_reducible assumption | with_reducible exact Below.refl _ _ | (refine Below.setCell ?_ (by first | omega | (simp; done) | (simp; omega)) _) | (refine Below.drewN_ ?_ _) | (refine Below.drew ?_) | (refine Below.alloc ?_ (by first | omega | (simp; done) | (simp; omega)) _)))
  have HB0 := Lib.hid hb0
  have HK := Lib.hid (Blk.new_ w 24 #[.int .i64 n.k, .string n.t, .int .i64 n.num, .slice A n.kids.length c])
  have HREP := Lib.hid (RepN.keep hb0 _ _ hr)
  clear hr hb0
  unfold PrintR
  obtain ⟨PT, HT⟩ : ∃ T, Hid (printT n = T) := ⟨_, rfl⟩
  obtain ⟨PE, HE⟩ : ∃ T, Hid (printE n = T) := ⟨_, rfl⟩
  rw [HT.out] at HPT ⊢
  rw [HE.out] at HPE ⊢
  clear HT HE
  rcases bf : fitsN n with _ | _
  · rw [bf] at FT HPT HPE
    have h1 : PT = ⟨#[]⟩ := by rw [HPT.out]; simp
    have h2 : PE = 1 := by rw [HPE.out]; simp
    have H1 := Lib.hid h1
    have H2 := Lib.hid h2
    clear h1 h2 HPT HPE IS SH
    go_enter Tryd.func5, Tryd.ntmps5
    go_wp2_with fail
    refine (FT.out _ HREP.out).mono ?_
    rintro e w1 ⟨rfl, hb1⟩
    have B1 := Lib.hid (below_trans HB0.out (Nat.le_refl _) hb1)
    clear hb1
    go_wp2_with fail
    exact bodyPost_ret (v := .tuple #[.string PT, .int .i64 PE]) (by simp [results, Tryd.results5, go_sem, H1.out, H2.out]) rfl ⟨rfl, B1.out⟩
  · have MN := Lib.hid (HMN.out bf)
    rw [bf] at FT HPT HPE
    clear HMN
    rcases b1 : (n.k == 1) with _ | _
    rotate_left
    · have HK1 : Hid (n.k = 1) := by show _ = _; simpa using b1
      rw [HK1.out] at FT IS SH HB0 HK HREP ⊢
      clear b1
      rcases bi : isN n false with _ | _
      · have h1 : PT = ⟨#[]⟩ := by rw [HPT.out, bi]; simp
        have h2 : PE = 2 := by rw [HPE.out, bi]; simp
        have H1 := Lib.hid h1
        have H2 := Lib.hid h2
        have HIS : Hid (∀ (W : World), RepN W n [.int .i64 1, .string n.t, .int .i64 n.num, .slice A n.kids.length c] → Calls Tryd.prog 13 #[.agg #[.int .i64 1, .string n.t, .int .i64 n.num, .slice A n.kids.length c], .bool false] W fun e w' => e = .returned (.bool false) ∧ Below W.heap.size W w') := by
          intro W hW
          refine (IS.out W hW).mono ?_
          rintro e w' he
          unfold IsOut at he
          rw [bi] at he
          exact he
        clear h1 h2 HPT HPE IS SH
        go_enter Tryd.func5, Tryd.ntmps5
        go_wp2_with fail
        refine (FT.out _ HREP.out).mono ?_
        rintro e w1 ⟨rfl, hb1⟩
        have B1 := Lib.hid (below_trans HB0.out (Nat.le_refl _) hb1)
        have K1 := HK.out.below hb1
        have HREP1 := Lib.hid (RepN.keep hb1 _ _ HREP.out)
        have q0 := K1.cell 0 _ rfl
        have q1 := K1.cell 1 _ rfl
        have q2 := K1.cell 2 _ rfl
        have q3 := K1.cell 3 _ rfl
        clear hb1
        go_wp2_with fail
        refine (HIS.out _ HREP1.out).mono ?_
        rintro e w2 ⟨rfl, hb2⟩
        have B2 := Lib.hid (below_trans B1.out (Nat.le_refl _) hb2)
        clear hb2 q0 q1 q2 q3
        go_wp2_with fail
        exact bodyPost_ret (v := .tuple #[.string PT, .int .i64 PE]) (by simp [results, Tryd.results5, go_sem, H1.out, H2.out]) rfl ⟨rfl, B2.out⟩
      · have HIS : Hid (∀ (W : World), RepN W n [.int .i64 1, .string n.t, .int .i64 n.num, .slice A n.kids.length c] → Calls Tryd.prog 13 #[.agg #[.int .i64 1, .string n.t, .int .i64 n.num, .slice A n.kids.length c], .bool false] W fun e w' => e = .returned (.bool true) ∧ Below W.heap.size W w') := by
          intro W hW
          refine (IS.out W hW).mono ?_
          rintro e w' he
          unfold IsOut at he
          rw [bi] at he
          exact he
        have SH2 := Lib.hid (fun W h => SH.out W bi MN.out h)
        have hlong := HLONG.out bi MN.out
        rw [bi, HK1.out] at HPT HPE
        rw [HSB.out, ← HSZ.out] at HPT
        rw [← HSZ.out] at HPE
        clear HLONG IS SH HSB HSZ
        generalize sB (shw n) = X at *
        by_cases hx : X.size ≤ 4000
        · have h1 : PT = X := by rw [HPT.out, if_pos ⟨rfl, rfl, rfl, hx⟩]
          have h2 : PE = 0 := by rw [HPE.out, if_neg (by simp), if_neg (by simp), if_neg (by omega)]
          have H1 := Lib.hid h1
          have H2 := Lib.hid h2
          have dx : decide ((4000 : Int) < (X.size : Int)) = false := by rw [decide_eq_false_iff_not]; omega
          have dx2 : ¬ ((4000 : Int) < (X.size : Int)) := by omega
          clear h1 h2 HPT HPE
          go_enter Tryd.func5, Tryd.ntmps5
          go_wp2_with fail
          refine (FT.out _ HREP.out).mono ?_
          rintro e w1 ⟨rfl, hb1⟩
          have B1 := Lib.hid (below_trans HB0.out (Nat.le_refl _) hb1)
          have K1 := Lib.hid (HK.out.below hb1)
          have HREP1 := Lib.hid (RepN.keep hb1 _ _ HREP.out)
          have q0 := K1.out.cell 0 _ rfl
          have q1 := K1.out.cell 1 _ rfl
          have q2 := K1.out.cell 2 _ rfl
          have q3 := K1.out.cell 3 _ rfl
          clear hb1
          go_wp2_with fail
          refine (HIS.out _ HREP1.out).mono ?_
          rintro e w2 ⟨rfl, hb2⟩
          have B2 := Lib.hid (below_trans B1.out (Nat.le_refl _) hb2)
          have K2 := K1.out.below hb2
          have HREP2 := Lib.hid (RepN.keep hb2 _ _ HREP1.out)
          clear hb2 q0 q1 q2 q3
          have q0 := K2.cell 0 _ rfl
          have q1 := K2.cell 1 _ rfl
          have q2 := K2.cell 2 _ rfl
          have q3 := K2.cell 3 _ rfl
          clear K2
          go_wp2_with fail
          refine (SH2.out _ HREP2.out).mono ?_
          rintro e w3 ⟨rfl, hb3⟩
          have B3 := Lib.hid (below_trans B2.out (Nat.le_refl _) hb3)
          clear hb3 q0 q1 q2 q3
          go_wp2_with fail
          exact bodyPost_ret (v := .tuple #[.string PT, .int .i64 PE]) (by simp [results, Tryd.results5, go_sem, H1.out, H2.out]) rfl ⟨rfl, B3.out⟩
        · have h1 : PT = ⟨#[]⟩ := by rw [HPT.out, if_neg (fun h => hx h.2.2.2)]
          have h2 : PE = 1 := by rw [HPE.out, if_neg (by simp), if_neg (by simp), if_pos (by omega)]
          have H1 := Lib.hid h1
          have H2 := Lib.hid h2
          have dx : decide ((4000 : Int) < (X.size : Int)) = true := by rw [decide_eq_true_eq]; omega
          have dx2 : (4000 : Int) < (X.size : Int) := by omega
          clear h1 h2 HPT HPE
          go_enter Tryd.func5, Tryd.ntmps5
          go_wp2_with fail
          refine (FT.out _ HREP.out).mono ?_
          rintro e w1 ⟨rfl, hb1⟩
          have B1 := Lib.hid (below_trans HB0.out (Nat.le_refl _) hb1)
          have K1 := Lib.hid (HK.out.below hb1)
          have HREP1 := Lib.hid (RepN.keep hb1 _ _ HREP.out)
          have q0 := K1.out.cell 0 _ rfl
          have q1 := K1.out.cell 1 _ rfl
          have q2 := K1.out.cell 2 _ rfl
          have q3 := K1.out.cell 3 _ rfl
          clear hb1
          go_wp2_with fail
          refine (HIS.out _ HREP1.out).mono ?_
          rintro e w2 ⟨rfl, hb2⟩
          have B2 := Lib.hid (below_trans B1.out (Nat.le_refl _) hb2)
          have K2 := K1.out.below hb2
          have HREP2 := Lib.hid (RepN.keep hb2 _ _ HREP1.out)
          clear hb2 q0 q1 q2 q3
          have q0 := K2.cell 0 _ rfl
          have q1 := K2.cell 1 _ rfl
          have q2 := K2.cell 2 _ rfl
          have q3 := K2.cell 3 _ rfl
          clear K2
          go_wp2_with fail
          refine (SH2.out _ HREP2.out).mono ?_
          rintro e w3 ⟨rfl, hb3⟩
          have B3 := Lib.hid (below_trans B2.out (Nat.le_refl _) hb3)
          clear hb3 q0 q1 q2 q3
          go_wp2_with fail
          exact bodyPost_ret (v := .tuple #[.string PT, .int .i64 PE]) (by simp [results, Tryd.results5, go_sem, H1.out, H2.out]) rfl ⟨rfl, B3.out⟩
    · have hk1 : n.k ≠ 1 := by simpa using b1
      have h1 : PT = ⟨#[]⟩ := by rw [HPT.out, if_neg (fun h => hk1 h.2.1)]
      have h2 : PE = 2 := by rw [HPE.out, if_neg (by simp), if_pos (fun h => hk1 h.1)]
      clear b1
      have H1 := Lib.hid h1
      have H2 := Lib.hid h2
      clear h1 h2 HPT HPE IS SH
      go_enter Tryd.func5, Tryd.ntmps5
      go_wp2_with fail
      refine (FT.out _ HREP.out).mono ?_
      rintro e w1 ⟨rfl, hb1⟩
      have B1 := Lib.hid (below_trans HB0.out (Nat.le_refl _) hb1)
      have K1 := HK.out.below hb1
      have q0 := K1.cell 0 (.int .i64 n.k) rfl
      clear hb1 K1
      go_wp2_with fail
      exact bodyPost_ret (v := .tuple #[.string PT, .int .i64 PE]) (by simp [results, Tryd.results5, go_sem, H1.out, H2.out]) rfl ⟨rfl, B1.out⟩
end Go.Proofs.YtgegfbopogcjpaaDoor
