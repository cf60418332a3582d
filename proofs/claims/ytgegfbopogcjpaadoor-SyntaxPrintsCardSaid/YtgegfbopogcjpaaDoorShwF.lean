/- Show of negations. -/
import Derived.Test.YtgegfbopogcjpaaDoorShwE
namespace Go.Proofs.YtgegfbopogcjpaaDoor
open Go.RowKit
set_option linter.unusedVariables false
set_option linter.unusedSimpArgs false
set_option maxRecDepth 100000
set_option maxHeartbeats 1000000
theorem at_size {least b : Int} {ws : List ByteArray} (h : ws ≠ []) (hs : (sB ws).size ≤ 200000) : (sB (atW least b ws)).size ≤ 200100 := by
  by_cases hb : b < least
  · rw [← sB_at hb h]
    simp only [ByteArray.size_append]
    show 2 + (sB ws).size + 2 ≤ _
    omega
  · unfold atW
    rw [if_neg hb]
    omega
theorem kid_at {n : Nd} {f : Bool} {w : World} {A : Option Addr} (h : isN n f = true) (hm : many n ≤ 700) (IH : ∀ m ∈ n.kids, ShwOk m) (hR : RepNL w n.kids A) {i : Nat} {x : Nd} (hi : n.kids[i]? = some x) (least : Int) :
    ∃ b o A' c', A = some ⟨b, o, none⟩ ∧ b < w.heap.size ∧ (w.cell? ⟨b, o + i * 4, none⟩ = some (.int .i64 x.k) ∧ w.cell? ⟨b, o + i * 4 + 1, none⟩ = some (.string x.t) ∧ w.cell? ⟨b, o + i * 4 + 2, none⟩ = some (.int .i64 x.num) ∧ w.cell? ⟨b, o + i * 4 + 3, none⟩ = some (.slice A' x.kids.length c')) ∧
    Hid (∀ W, Below w.heap.size w W → Calls Tryd.prog 38 #[.agg #[.int .i64 x.k, .string x.t, .int .i64 x.num, .slice A' x.kids.length c'], .int .i64 least] W fun e w' => e = .returned (.string (sB (atW least (bindN x) (shw x)))) ∧ Below W.heap.size W w') ∧ (sB (atW least (bindN x) (shw x))).size ≤ 200100 ∧ shw x ≠ [] := by
  obtain ⟨hlt, rfl⟩ := List.getElem?_eq_some_iff.1 hi
  obtain ⟨b, o, cs, hA, hbl, hc, hrep⟩ := RepNL.at_ n.kids _ hR i hlt
  obtain ⟨A', c', rfl, -⟩ := hrep.four
  have hsz := kid_size h hm hlt
  have hne := kid_ne h hlt
  exact ⟨b, o, A', c', hA, hbl, ⟨hc 0 _ rfl, hc 1 _ rfl, hc 2 _ rfl, hc 3 _ rfl⟩, fun W hb => at_any _ least _ W (RepN.keep hb _ _ hrep) (IH _ (List.getElem_mem hlt)) hne (by rw [← sB_size]; exact hsz), at_size hne hsz, hne⟩
theorem show_28 (n : Nd) (f : Bool) (h : isN n f = true) (hm : many n ≤ 700) (hk : n.k = 28) (IH : ∀ m ∈ n.kids, ShwOk m) : ShwOk n := by
  intro cs w hr
  obtain ⟨A, c, rfl, hR, hcap, hlm, hn64, hts⟩ := hr.four
  have hsh : shp n.k = some ⟨false, 0, 1, 1⟩ := by rw [hk]; rfl
  obtain ⟨hl, hl2⟩ := kids_at h hsh
  simp only at hl hl2
  obtain ⟨x, hkids⟩ := one_kid (n := n) (by omega)
  obtain ⟨b0, o0, A0, c0, hA0, hbl0, p0, HI0, hs0, hne0⟩ := kid_at h hm IH hR (i := 0) (x := x) (by rw [hkids]; rfl) 3
  simp only [Nat.zero_mul, Nat.add_zero] at p0
  subst hA0
  have HV := Lib.hid (txt_28 hk hkids hne0)
  obtain ⟨T, HT⟩ : ∃ T, Hid (sB (shw n) = T) := ⟨_, rfl⟩
  have hln : n.kids.length = 1 := by rw [hkids]; rfl
  have hb0 : Below w.heap.size w (w.alloc (.cells #[.int .i64 28, .string n.t, .int .i64 n.num, .slice (some ⟨b0, o0, none⟩) 1 c] 24)) := by (repeat (first | with_reducible assumption | with_reducible exact Below.refl _ _ | (refine Below.setCell ?_ (by first | omega | (simp; done) | (simp; omega)) _) | (refine Below.drewN_ ?_ _) | (refine Below.drew ?_) | (refine Below.alloc ?_ (by first | omega | (simp; done) | (simp; omega)) _)))
  have HB0 := Lib.hid hb0
  obtain ⟨p00, p01, p02, p03⟩ := p0
  rw [HT.out] at HV ⊢
  rw [hln, hk]
  clear h hm IH hR hkids hne0 hk hsh hl hl2 hr hb0 hln hcap hlm hts HT
  generalize sB (atW 3 (bindN x) (shw x)) = X at *
  go_enter Tryd.func14, Tryd.ntmps14
  go_wp2_with fail
  refine (HI0.out _ HB0.out).mono ?_
  rintro e w1 ⟨rfl, hb1⟩
  have B1 := Lib.hid (below_trans HB0.out (Nat.le_refl _) hb1)
  clear hb1
  go_wp2
  go_ret
  exact ⟨by rw [← HV.out]; rfl, B1.out⟩
theorem show_29 (n : Nd) (f : Bool) (h : isN n f = true) (hm : many n ≤ 700) (hk : n.k = 29) (IH : ∀ m ∈ n.kids, ShwOk m) : ShwOk n := by
  intro cs w hr
  obtain ⟨A, c, rfl, hR, hcap, hlm, hn64, hts⟩ := hr.four
  have hsh : shp n.k = some ⟨false, 0, 1, 1⟩ := by rw [hk]; rfl
  obtain ⟨hl, hl2⟩ := kids_at h hsh
  simp only at hl hl2
  obtain ⟨x, hkids⟩ := one_kid (n := n) (by omega)
  obtain ⟨b0, o0, A0, c0, hA0, hbl0, p0, HI0, hs0, hne0⟩ := kid_at h hm IH hR (i := 0) (x := x) (by rw [hkids]; rfl) 3
  simp only [Nat.zero_mul, Nat.add_zero] at p0
  subst hA0
  have HV := Lib.hid (txt_29 hk hkids hne0)
  obtain ⟨T, HT⟩ : ∃ T, Hid (sB (shw n) = T) := ⟨_, rfl⟩
  have hln : n.kids.length = 1 := by rw [hkids]; rfl
  have hb0 : Below w.heap.size w (w.alloc (.cells #[.int .i64 29, .string n.t, .int .i64 n.num, .slice (some ⟨b0, o0, none⟩) 1 c] 24)) := by (repeat (first | with_reducible assumption | with_reducible exact Below.refl _ _ | (refine Below.setCell ?_ (by first | omega | (simp; done) | (simp; omega)) _) | (refine Below.drewN_ ?_ _) | (refine Below.drew ?_) | (refine Below.alloc ?_ (by first | omega | (simp; done) | (simp; omega)) _)))
  have HB0 := Lib.hid hb0
  obtain ⟨p00, p01, p02, p03⟩ := p0
  rw [HT.out] at HV ⊢
  rw [hln, hk]
  clear h hm IH hR hkids hne0 hk hsh hl hl2 hr hb0 hln hcap hlm hts HT
  generalize sB (atW 3 (bindN x) (shw x)) = X at *
  go_enter Tryd.func14, Tryd.ntmps14
  go_wp2_with fail
  refine (HI0.out _ HB0.out).mono ?_
  rintro e w1 ⟨rfl, hb1⟩
  have B1 := Lib.hid (below_trans HB0.out (Nat.le_refl _) hb1)
  clear hb1
  go_wp2
  go_ret
  exact ⟨by rw [← HV.out]; rfl, B1.out⟩
theorem show_21 (n : Nd) (f : Bool) (h : isN n f = true) (hm : many n ≤ 700) (hk : n.k = 21) (IH : ∀ m ∈ n.kids, ShwOk m) : ShwOk n := by
  intro cs w hr
  obtain ⟨A, c, rfl, hR, hcap, hlm, hn64, hts⟩ := hr.four
  have hsh : shp n.k = some ⟨false, -1, 0, 0⟩ := by rw [hk]; rfl
  obtain ⟨hl, hl2⟩ := kids_at h hsh
  simp only at hl hl2
  have ha : n.num.natAbs ≤ 9223372036854775807 := by
    obtain ⟨s', -, -, h1, -⟩ := isN_parts h
    exact numB_abs h1
  have hV := txt_num (n := n) (by rw [hk]; simp)
  rw [hk] at hV
  obtain ⟨T, HT⟩ : ∃ T, Hid (sB (shw n) = T) := ⟨_, rfl⟩
  have hln : n.kids.length = 0 := by omega
  rw [HT.out] at hV ⊢
  rw [hln, hk]
  by_cases hneg : n.num < 0
  · obtain ⟨N, hN, hN2⟩ : ∃ N : Nat, n.num = -(N : Int) ∧ n.num.natAbs = N := ⟨n.num.natAbs, by omega, rfl⟩
    rw [if_pos hneg, hN2] at hV
    rw [hN2] at ha
    have hp : 0 < N := by omega
    rw [hN]
    have hb0 : Below w.heap.size w (w.alloc (.cells #[.int .i64 21, .string n.t, .int .i64 (-(N : Int)), .slice A 0 c] 24)) := by (repeat (first | with_reducible assumption | with_reducible exact Below.refl _ _ | (refine Below.setCell ?_ (by first | omega | (simp; done) | (simp; omega)) _) | (refine Below.drewN_ ?_ _) | (refine Below.drew ?_) | (refine Below.alloc ?_ (by first | omega | (simp; done) | (simp; omega)) _)))
    have HK := Lib.hid (Blk.new_ w 24 #[.int .i64 21, .string n.t, .int .i64 (-(N : Int)), .slice A 0 c])
    have HB0 := Lib.hid hb0
    have HV := Lib.hid hV
    have d1 : decide (-(N : Int) < 0) = true := by rw [decide_eq_true_eq]; omega
    have d2 : -(N : Int) < 0 := by omega
    have LG := Lib.hid (fun w => long_any N w ha)
    have hs := dB_size ha
    clear h hm IH hR hk hsh hl hl2 hr hb0 hln hcap hlm hts HT hV hN hN2 hneg hn64
    go_enter Tryd.func14, Tryd.ntmps14
    go_wp2_with fail
    refine (LG.out _).mono ?_
    rintro e w1 ⟨rfl, hb1⟩
    have B1 := Lib.hid (below_trans HB0.out (Nat.le_refl _) hb1)
    have q0 := (HK.out.below hb1).cell 0 _ rfl
    clear hb1
    have HD : Hid ((⟨(digsN N).toArray⟩ : ByteArray) = dB N) := rfl
    rw [HD.out] at HV
    clear HD
    generalize dB N = D at *
    go_wp2
    go_ret
    exact ⟨by rw [← HV.out]; first | rfl | (simp; done) | (simp; apply Go.WideShapes.bytes_inj; simp), B1.out⟩
  · obtain ⟨N, hN, hN2⟩ : ∃ N : Nat, n.num = (N : Int) ∧ n.num.natAbs = N := ⟨n.num.natAbs, by omega, rfl⟩
    rw [if_neg hneg, hN2] at hV
    rw [hN2] at ha
    rw [hN]
    have hb0 : Below w.heap.size w (w.alloc (.cells #[.int .i64 21, .string n.t, .int .i64 (N : Int), .slice A 0 c] 24)) := by (repeat (first | with_reducible assumption | with_reducible exact Below.refl _ _ | (refine Below.setCell ?_ (by first | omega | (simp; done) | (simp; omega)) _) | (refine Below.drewN_ ?_ _) | (refine Below.drew ?_) | (refine Below.alloc ?_ (by first | omega | (simp; done) | (simp; omega)) _)))
    have HK := Lib.hid (Blk.new_ w 24 #[.int .i64 21, .string n.t, .int .i64 (N : Int), .slice A 0 c])
    have HB0 := Lib.hid hb0
    have HV := Lib.hid hV
    have d1 : decide ((N : Int) < 0) = false := by rw [decide_eq_false_iff_not]; omega
    have d2 : ¬ (N : Int) < 0 := by omega
    have LG := Lib.hid (fun w => long_any N w ha)
    have hs := dB_size ha
    clear h hm IH hR hk hsh hl hl2 hr hb0 hln hcap hlm hts HT hV hN hN2 hneg hn64
    go_enter Tryd.func14, Tryd.ntmps14
    go_wp2_with fail
    refine (LG.out _).mono ?_
    rintro e w1 ⟨rfl, hb1⟩
    have B1 := Lib.hid (below_trans HB0.out (Nat.le_refl _) hb1)
    have q0 := (HK.out.below hb1).cell 0 _ rfl
    clear hb1
    have HD : Hid ((⟨(digsN N).toArray⟩ : ByteArray) = dB N) := rfl
    rw [HD.out] at HV
    clear HD
    generalize dB N = D at *
    go_wp2
    go_ret
    exact ⟨by rw [← HV.out]; first | rfl | (simp; done) | (simp; apply Go.WideShapes.bytes_inj; simp), B1.out⟩
theorem show_22 (n : Nd) (f : Bool) (h : isN n f = true) (hm : many n ≤ 700) (hk : n.k = 22) (IH : ∀ m ∈ n.kids, ShwOk m) : ShwOk n := by
  intro cs w hr
  obtain ⟨A, c, rfl, hR, hcap, hlm, hn64, hts⟩ := hr.four
  have hsh : shp n.k = some ⟨false, -1, 0, 0⟩ := by rw [hk]; rfl
  obtain ⟨hl, hl2⟩ := kids_at h hsh
  simp only at hl hl2
  have ha : n.num.natAbs ≤ 9223372036854775807 := by
    obtain ⟨s', -, -, h1, -⟩ := isN_parts h
    exact numB_abs h1
  have hV := txt_num (n := n) (by rw [hk]; simp)
  rw [hk] at hV
  obtain ⟨T, HT⟩ : ∃ T, Hid (sB (shw n) = T) := ⟨_, rfl⟩
  have hln : n.kids.length = 0 := by omega
  rw [HT.out] at hV ⊢
  rw [hln, hk]
  by_cases hneg : n.num < 0
  · obtain ⟨N, hN, hN2⟩ : ∃ N : Nat, n.num = -(N : Int) ∧ n.num.natAbs = N := ⟨n.num.natAbs, by omega, rfl⟩
    rw [if_pos hneg, hN2] at hV
    rw [hN2] at ha
    have hp : 0 < N := by omega
    rw [hN]
    have hb0 : Below w.heap.size w (w.alloc (.cells #[.int .i64 22, .string n.t, .int .i64 (-(N : Int)), .slice A 0 c] 24)) := by (repeat (first | with_reducible assumption | with_reducible exact Below.refl _ _ | (refine Below.setCell ?_ (by first | omega | (simp; done) | (simp; omega)) _) | (refine Below.drewN_ ?_ _) | (refine Below.drew ?_) | (refine Below.alloc ?_ (by first | omega | (simp; done) | (simp; omega)) _)))
    have HK := Lib.hid (Blk.new_ w 24 #[.int .i64 22, .string n.t, .int .i64 (-(N : Int)), .slice A 0 c])
    have HB0 := Lib.hid hb0
    have HV := Lib.hid hV
    have d1 : decide (-(N : Int) < 0) = true := by rw [decide_eq_true_eq]; omega
    have d2 : -(N : Int) < 0 := by omega
    have LG := Lib.hid (fun w => long_any N w ha)
    have hs := dB_size ha
    clear h hm IH hR hk hsh hl hl2 hr hb0 hln hcap hlm hts HT hV hN hN2 hneg hn64
    go_enter Tryd.func14, Tryd.ntmps14
    go_wp2_with fail
    refine (LG.out _).mono ?_
    rintro e w1 ⟨rfl, hb1⟩
    have B1 := Lib.hid (below_trans HB0.out (Nat.le_refl _) hb1)
    have q0 := (HK.out.below hb1).cell 0 _ rfl
    clear hb1
    have HD : Hid ((⟨(digsN N).toArray⟩ : ByteArray) = dB N) := rfl
    rw [HD.out] at HV
    clear HD
    generalize dB N = D at *
    go_wp2
    go_ret
    exact ⟨by rw [← HV.out]; first | rfl | (simp; done) | (simp; apply Go.WideShapes.bytes_inj; simp), B1.out⟩
  · obtain ⟨N, hN, hN2⟩ : ∃ N : Nat, n.num = (N : Int) ∧ n.num.natAbs = N := ⟨n.num.natAbs, by omega, rfl⟩
    rw [if_neg hneg, hN2] at hV
    rw [hN2] at ha
    rw [hN]
    have hb0 : Below w.heap.size w (w.alloc (.cells #[.int .i64 22, .string n.t, .int .i64 (N : Int), .slice A 0 c] 24)) := by (repeat (first | with_reducible assumption | with_reducible exact Below.refl _ _ | (refine Below.setCell ?_ (by first | omega | (simp; done) | (simp; omega)) _) | (refine Below.drewN_ ?_ _) | (refine Below.drew ?_) | (refine Below.alloc ?_ (by first | omega | (simp; done) | (simp; omega)) _)))
    have HK := Lib.hid (Blk.new_ w 24 #[.int .i64 22, .string n.t, .int .i64 (N : Int), .slice A 0 c])
    have HB0 := Lib.hid hb0
    have HV := Lib.hid hV
    have d1 : decide ((N : Int) < 0) = false := by rw [decide_eq_false_iff_not]; omega
    have d2 : ¬ (N : Int) < 0 := by omega
    have LG := Lib.hid (fun w => long_any N w ha)
    have hs := dB_size ha
    clear h hm IH hR hk hsh hl hl2 hr hb0 hln hcap hlm hts HT hV hN hN2 hneg hn64
    go_enter Tryd.func14, Tryd.ntmps14
    go_wp2_with fail
    refine (LG.out _).mono ?_
    rintro e w1 ⟨rfl, hb1⟩
    have B1 := Lib.hid (below_trans HB0.out (Nat.le_refl _) hb1)
    have q0 := (HK.out.below hb1).cell 0 _ rfl
    clear hb1
    have HD : Hid ((⟨(digsN N).toArray⟩ : ByteArray) = dB N) := rfl
    rw [HD.out] at HV
    clear HD
    generalize dB N = D at *
    go_wp2
    go_ret
    exact ⟨by rw [← HV.out]; first | rfl | (simp; done) | (simp; apply Go.WideShapes.bytes_inj; simp), B1.out⟩
end Go.Proofs.YtgegfbopogcjpaaDoor
