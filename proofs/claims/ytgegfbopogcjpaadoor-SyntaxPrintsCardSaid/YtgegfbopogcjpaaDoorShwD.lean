/- Show, kind by kind. -/
import Derived.Test.YtgegfbopogcjpaaDoorShwC
import Derived.Test.YtgegfbopogcjpaaDoorShwT
import Derived.Test.YtgegfbopogcjpaaDoorSynY
import Derived.Deep.RegionHeld3
namespace Go.Proofs.YtgegfbopogcjpaaDoor
open Go.RowKit
set_option linter.unusedVariables false
set_option linter.unusedSimpArgs false
set_option maxRecDepth 100000
set_option maxHeartbeats 1000000
theorem keep4 {w w' : World} {b o : Nat} {a0 a1 a2 a3 : Value} (hb : Below w.heap.size w w') (hl : b < w.heap.size)
    (h : w.cell? ⟨b, o, none⟩ = some a0 ∧ w.cell? ⟨b, o + 1, none⟩ = some a1 ∧ w.cell? ⟨b, o + 2, none⟩ = some a2 ∧ w.cell? ⟨b, o + 3, none⟩ = some a3) :
    w'.cell? ⟨b, o, none⟩ = some a0 ∧ w'.cell? ⟨b, o + 1, none⟩ = some a1 ∧ w'.cell? ⟨b, o + 2, none⟩ = some a2 ∧ w'.cell? ⟨b, o + 3, none⟩ = some a3 :=
  ⟨(keep_cell hb hl).trans h.1, (keep_cell hb hl).trans h.2.1, (keep_cell hb hl).trans h.2.2.1, (keep_cell hb hl).trans h.2.2.2⟩
theorem keepS {w0 w w' : World} {m n o : Nat} {a0 a1 a2 a3 b0 b1 b2 b3 : Value} (hm : m < w0.heap.size) (hn : n < w0.heap.size)
    (h : Below w0.heap.size w0 w ∧ (w.cell? ⟨m, 0, none⟩ = some a0 ∧ w.cell? ⟨m, 1, none⟩ = some a1 ∧ w.cell? ⟨m, 2, none⟩ = some a2 ∧ w.cell? ⟨m, 3, none⟩ = some a3) ∧ w.cell? ⟨n, o, none⟩ = some b0 ∧ w.cell? ⟨n, o + 1, none⟩ = some b1 ∧ w.cell? ⟨n, o + 2, none⟩ = some b2 ∧ w.cell? ⟨n, o + 3, none⟩ = some b3)
    (hb : Below w.heap.size w w') : Below w0.heap.size w0 w' ∧ (w'.cell? ⟨m, 0, none⟩ = some a0 ∧ w'.cell? ⟨m, 1, none⟩ = some a1 ∧ w'.cell? ⟨m, 2, none⟩ = some a2 ∧ w'.cell? ⟨m, 3, none⟩ = some a3) ∧ w'.cell? ⟨n, o, none⟩ = some b0 ∧ w'.cell? ⟨n, o + 1, none⟩ = some b1 ∧ w'.cell? ⟨n, o + 2, none⟩ = some b2 ∧ w'.cell? ⟨n, o + 3, none⟩ = some b3 := by
  obtain ⟨h0, h1, h2⟩ := h
  have hs := h0.size
  have e := keep4 (o := 0) hb (show m < w.heap.size by omega) (by simpa using h1)
  exact ⟨h0.trans (hb.mono hs), by simpa using e, keep4 hb (by omega) h2⟩
/-- what a kid's text is, whatever has been made since -/
theorem shw_kid {m : Nd} {cs : List Value} {w0 : World} (hs : ShwOk m) (hr : RepN w0 m cs) : ∀ W, Below w0.heap.size w0 W → Calls Tryd.prog 14 #[.agg cs.toArray] W fun e w' => e = .returned (.string (sB (shw m))) ∧ Below W.heap.size W w' :=
  fun W hb => hs cs W (RepN.keep hb _ _ hr)
theorem sB_size (l : List ByteArray) : (sB l).size = (joinW l).length := by rw [← sB_data]; simp
/-- the kids of a node that is one -/
theorem kid_size {n : Nd} {f : Bool} (h : isN n f = true) (hm : many n ≤ 700) {i : Nat} (hi : i < n.kids.length) : (sB (shw n.kids[i])).size ≤ 200000 := by
  obtain ⟨s, hs, -, -, hl⟩ := isN_parts h
  obtain ⟨f', hf'⟩ := isNL_mem _ _ hl _ (List.getElem_mem hi)
  rw [sB_size]
  exact shw_long hf' (by have := many_kid (List.getElem_mem hi); omega)
theorem kids_at {n : Nd} {f : Bool} {s : Shp} (h : isN n f = true) (hs : shp n.k = some s) : s.least ≤ n.kids.length ∧ (s.most < 0 ∨ (n.kids.length : Int) ≤ s.most) := by
  rw [isN_eq, hs] at h
  simp only [Bool.and_eq_true, Bool.or_eq_true, decide_eq_true_eq] at h
  exact ⟨h.1.1.1.1.1.1.1.1, h.1.1.1.1.1.1.1.2⟩
theorem kid_ne {n : Nd} {f : Bool} (h : isN n f = true) {i : Nat} (hi : i < n.kids.length) : shw n.kids[i] ≠ [] := by
  obtain ⟨s, hs, -, -, hl⟩ := isN_parts h
  refine shw_ne (fun h1 => ?_)
  have := (isNL_iff n.k n.kids.length n.kids 0).1 hl i hi
  unfold kidT kidB at this
  rw [h1] at this
  simp only [Bool.and_eq_true, Bool.or_eq_true, decide_eq_true_eq, beq_iff_eq] at this
  rw [Nat.zero_add] at this
  revert this
  unfold wantC
  repeat' split
  all_goals simp [cls]
theorem one_kid {n : Nd} (h : n.kids.length = 1) : ∃ x, n.kids = [x] := List.length_eq_one_iff.1 h
/-- a kid's cells, what Show makes of it -/
theorem kid_here {n : Nd} {f : Bool} {w : World} {A : Option Addr} (h : isN n f = true) (hm : many n ≤ 700) (IH : ∀ m ∈ n.kids, ShwOk m) (hR : RepNL w n.kids A) {i : Nat} {x : Nd} (hi : n.kids[i]? = some x) :
    ∃ b o A' c', A = some ⟨b, o, none⟩ ∧ b < w.heap.size ∧ (w.cell? ⟨b, o + i * 4, none⟩ = some (.int .i64 x.k) ∧ w.cell? ⟨b, o + i * 4 + 1, none⟩ = some (.string x.t) ∧ w.cell? ⟨b, o + i * 4 + 2, none⟩ = some (.int .i64 x.num) ∧ w.cell? ⟨b, o + i * 4 + 3, none⟩ = some (.slice A' x.kids.length c')) ∧
    Hid (∀ W, Below w.heap.size w W → Calls Tryd.prog 14 #[.agg #[.int .i64 x.k, .string x.t, .int .i64 x.num, .slice A' x.kids.length c']] W fun e w' => e = .returned (.string (sB (shw x))) ∧ Below W.heap.size W w') ∧ (sB (shw x)).size ≤ 200000 ∧ shw x ≠ [] := by
  obtain ⟨hlt, rfl⟩ := List.getElem?_eq_some_iff.1 hi
  obtain ⟨b, o, cs, hA, hbl, hc, hrep⟩ := RepNL.at_ n.kids _ hR i hlt
  obtain ⟨A', c', rfl, -⟩ := hrep.four
  exact ⟨b, o, A', c', hA, hbl, ⟨hc 0 _ rfl, hc 1 _ rfl, hc 2 _ rfl, hc 3 _ rfl⟩, shw_kid (IH _ (List.getElem_mem hlt)) hrep, kid_size h hm hlt, kid_ne h hlt⟩
theorem name_short {n : Nd} {f : Bool} (h : isN n f = true) {s : Shp} (hs : shp n.k = some s) (ht : s.text = true) : n.t.size ≤ 20 := by
  obtain ⟨s', hs', h1, -⟩ := isN_parts h
  rw [hs] at hs'
  injection hs' with e
  subst e
  have := (name_false (h1 ht)).2.1
  omega
theorem show_18 (n : Nd) (f : Bool) (h : isN n f = true) (hm : many n ≤ 700) (hk : n.k = 18) (IH : ∀ m ∈ n.kids, ShwOk m) : ShwOk n := by
  intro cs w hr
  obtain ⟨A, c, rfl, hR, hcap, hlm, hn64, hts⟩ := hr.four
  have hsh : shp n.k = some ⟨false, 0, 1, 1⟩ := by rw [hk]; rfl
  obtain ⟨hl, hl2⟩ := kids_at h hsh
  simp only at hl hl2
  obtain ⟨x, hkids⟩ := one_kid (n := n) (by omega)
  obtain ⟨b0, o0, A0, c0, hA0, hbl0, p0, HI0, hs0, hne0⟩ := kid_here h hm IH hR (i := 0) (x := x) (by rw [hkids]; rfl)
  simp only [Nat.zero_mul, Nat.add_zero] at p0
  subst hA0
  have HV := Lib.hid (txt_18 hk hkids hne0)
  obtain ⟨T, HT⟩ : ∃ T, Hid (sB (shw n) = T) := ⟨_, rfl⟩
  have hln : n.kids.length = 1 := by rw [hkids]; rfl
  have hb0 : Below w.heap.size w (w.alloc (.cells #[.int .i64 18, .string n.t, .int .i64 n.num, .slice (some ⟨b0, o0, none⟩) 1 c] 24)) := by (repeat (first | with_reducible assumption | with_reducible exact Below.refl _ _ | (refine Below.setCell ?_ (by first | omega | (simp; done) | (simp; omega)) _) | (refine Below.drewN_ ?_ _) | (refine Below.drew ?_) | (refine Below.alloc ?_ (by first | omega | (simp; done) | (simp; omega)) _)))
  have HB0 := Lib.hid hb0
  obtain ⟨p00, p01, p02, p03⟩ := p0
  rw [HT.out] at HV ⊢
  rw [hln, hk]
  clear h hm IH hR hkids hne0 hk hsh hl hl2 hr hb0 hln hcap hlm hts HT
  generalize sB (shw x) = X at *
  go_enter Tryd.func14, Tryd.ntmps14
  go_wp2_with fail
  refine (HI0.out _ HB0.out).mono ?_
  rintro e w1 ⟨rfl, hb1⟩
  have B1 := Lib.hid (below_trans HB0.out (Nat.le_refl _) hb1)
  clear hb1
  go_wp2
  go_ret
  exact ⟨by rw [← HV.out]; rfl, B1.out⟩
theorem show_19 (n : Nd) (f : Bool) (h : isN n f = true) (hm : many n ≤ 700) (hk : n.k = 19) (IH : ∀ m ∈ n.kids, ShwOk m) : ShwOk n := by
  intro cs w hr
  obtain ⟨A, c, rfl, hR, hcap, hlm, hn64, hts⟩ := hr.four
  have hsh : shp n.k = some ⟨false, 0, 1, 1⟩ := by rw [hk]; rfl
  obtain ⟨hl, hl2⟩ := kids_at h hsh
  simp only at hl hl2
  obtain ⟨x, hkids⟩ := one_kid (n := n) (by omega)
  obtain ⟨b0, o0, A0, c0, hA0, hbl0, p0, HI0, hs0, hne0⟩ := kid_here h hm IH hR (i := 0) (x := x) (by rw [hkids]; rfl)
  simp only [Nat.zero_mul, Nat.add_zero] at p0
  subst hA0
  have HV := Lib.hid (txt_19 hk hkids hne0)
  obtain ⟨T, HT⟩ : ∃ T, Hid (sB (shw n) = T) := ⟨_, rfl⟩
  have hln : n.kids.length = 1 := by rw [hkids]; rfl
  have hb0 : Below w.heap.size w (w.alloc (.cells #[.int .i64 19, .string n.t, .int .i64 n.num, .slice (some ⟨b0, o0, none⟩) 1 c] 24)) := by (repeat (first | with_reducible assumption | with_reducible exact Below.refl _ _ | (refine Below.setCell ?_ (by first | omega | (simp; done) | (simp; omega)) _) | (refine Below.drewN_ ?_ _) | (refine Below.drew ?_) | (refine Below.alloc ?_ (by first | omega | (simp; done) | (simp; omega)) _)))
  have HB0 := Lib.hid hb0
  obtain ⟨p00, p01, p02, p03⟩ := p0
  rw [HT.out] at HV ⊢
  rw [hln, hk]
  clear h hm IH hR hkids hne0 hk hsh hl hl2 hr hb0 hln hcap hlm hts HT
  generalize sB (shw x) = X at *
  go_enter Tryd.func14, Tryd.ntmps14
  go_wp2_with fail
  refine (HI0.out _ HB0.out).mono ?_
  rintro e w1 ⟨rfl, hb1⟩
  have B1 := Lib.hid (below_trans HB0.out (Nat.le_refl _) hb1)
  clear hb1
  go_wp2
  go_ret
  exact ⟨by rw [← HV.out]; rfl, B1.out⟩
theorem show_20 (n : Nd) (f : Bool) (h : isN n f = true) (hm : many n ≤ 700) (hk : n.k = 20) (IH : ∀ m ∈ n.kids, ShwOk m) : ShwOk n := by
  intro cs w hr
  obtain ⟨A, c, rfl, hR, hcap, hlm, hn64, hts⟩ := hr.four
  have hsh : shp n.k = some ⟨false, 0, 1, 1⟩ := by rw [hk]; rfl
  obtain ⟨hl, hl2⟩ := kids_at h hsh
  simp only at hl hl2
  obtain ⟨x, hkids⟩ := one_kid (n := n) (by omega)
  obtain ⟨b0, o0, A0, c0, hA0, hbl0, p0, HI0, hs0, hne0⟩ := kid_here h hm IH hR (i := 0) (x := x) (by rw [hkids]; rfl)
  simp only [Nat.zero_mul, Nat.add_zero] at p0
  subst hA0
  have HV := Lib.hid (txt_20 hk hkids hne0)
  obtain ⟨T, HT⟩ : ∃ T, Hid (sB (shw n) = T) := ⟨_, rfl⟩
  have hln : n.kids.length = 1 := by rw [hkids]; rfl
  have hb0 : Below w.heap.size w (w.alloc (.cells #[.int .i64 20, .string n.t, .int .i64 n.num, .slice (some ⟨b0, o0, none⟩) 1 c] 24)) := by (repeat (first | with_reducible assumption | with_reducible exact Below.refl _ _ | (refine Below.setCell ?_ (by first | omega | (simp; done) | (simp; omega)) _) | (refine Below.drewN_ ?_ _) | (refine Below.drew ?_) | (refine Below.alloc ?_ (by first | omega | (simp; done) | (simp; omega)) _)))
  have HB0 := Lib.hid hb0
  obtain ⟨p00, p01, p02, p03⟩ := p0
  rw [HT.out] at HV ⊢
  rw [hln, hk]
  clear h hm IH hR hkids hne0 hk hsh hl hl2 hr hb0 hln hcap hlm hts HT
  generalize sB (shw x) = X at *
  go_enter Tryd.func14, Tryd.ntmps14
  go_wp2_with fail
  refine (HI0.out _ HB0.out).mono ?_
  rintro e w1 ⟨rfl, hb1⟩
  have B1 := Lib.hid (below_trans HB0.out (Nat.le_refl _) hb1)
  clear hb1
  go_wp2
  go_ret
  exact ⟨by rw [← HV.out]; rfl, B1.out⟩
theorem show_30 (n : Nd) (f : Bool) (h : isN n f = true) (hm : many n ≤ 700) (hk : n.k = 30) (IH : ∀ m ∈ n.kids, ShwOk m) : ShwOk n := by
  intro cs w hr
  obtain ⟨A, c, rfl, hR, hcap, hlm, hn64, hts⟩ := hr.four
  have hsh : shp n.k = some ⟨false, 0, 1, 1⟩ := by rw [hk]; rfl
  obtain ⟨hl, hl2⟩ := kids_at h hsh
  simp only at hl hl2
  obtain ⟨x, hkids⟩ := one_kid (n := n) (by omega)
  obtain ⟨b0, o0, A0, c0, hA0, hbl0, p0, HI0, hs0, hne0⟩ := kid_here h hm IH hR (i := 0) (x := x) (by rw [hkids]; rfl)
  simp only [Nat.zero_mul, Nat.add_zero] at p0
  subst hA0
  have HV := Lib.hid (txt_30 hk hkids hne0)
  obtain ⟨T, HT⟩ : ∃ T, Hid (sB (shw n) = T) := ⟨_, rfl⟩
  have hln : n.kids.length = 1 := by rw [hkids]; rfl
  have hb0 : Below w.heap.size w (w.alloc (.cells #[.int .i64 30, .string n.t, .int .i64 n.num, .slice (some ⟨b0, o0, none⟩) 1 c] 24)) := by (repeat (first | with_reducible assumption | with_reducible exact Below.refl _ _ | (refine Below.setCell ?_ (by first | omega | (simp; done) | (simp; omega)) _) | (refine Below.drewN_ ?_ _) | (refine Below.drew ?_) | (refine Below.alloc ?_ (by first | omega | (simp; done) | (simp; omega)) _)))
  have HB0 := Lib.hid hb0
  obtain ⟨p00, p01, p02, p03⟩ := p0
  rw [HT.out] at HV ⊢
  rw [hln, hk]
  clear h hm IH hR hkids hne0 hk hsh hl hl2 hr hb0 hln hcap hlm hts HT
  generalize sB (shw x) = X at *
  go_enter Tryd.func14, Tryd.ntmps14
  go_wp2_with fail
  refine (HI0.out _ HB0.out).mono ?_
  rintro e w1 ⟨rfl, hb1⟩
  have B1 := Lib.hid (below_trans HB0.out (Nat.le_refl _) hb1)
  clear hb1
  go_wp2
  go_ret
  exact ⟨by rw [← HV.out]; rfl, B1.out⟩
theorem show_31 (n : Nd) (f : Bool) (h : isN n f = true) (hm : many n ≤ 700) (hk : n.k = 31) (IH : ∀ m ∈ n.kids, ShwOk m) : ShwOk n := by
  intro cs w hr
  obtain ⟨A, c, rfl, hR, hcap, hlm, hn64, hts⟩ := hr.four
  have hsh : shp n.k = some ⟨false, 0, 1, 1⟩ := by rw [hk]; rfl
  obtain ⟨hl, hl2⟩ := kids_at h hsh
  simp only at hl hl2
  obtain ⟨x, hkids⟩ := one_kid (n := n) (by omega)
  obtain ⟨b0, o0, A0, c0, hA0, hbl0, p0, HI0, hs0, hne0⟩ := kid_here h hm IH hR (i := 0) (x := x) (by rw [hkids]; rfl)
  simp only [Nat.zero_mul, Nat.add_zero] at p0
  subst hA0
  have HV := Lib.hid (txt_31 hk hkids hne0)
  obtain ⟨T, HT⟩ : ∃ T, Hid (sB (shw n) = T) := ⟨_, rfl⟩
  have hln : n.kids.length = 1 := by rw [hkids]; rfl
  have hb0 : Below w.heap.size w (w.alloc (.cells #[.int .i64 31, .string n.t, .int .i64 n.num, .slice (some ⟨b0, o0, none⟩) 1 c] 24)) := by (repeat (first | with_reducible assumption | with_reducible exact Below.refl _ _ | (refine Below.setCell ?_ (by first | omega | (simp; done) | (simp; omega)) _) | (refine Below.drewN_ ?_ _) | (refine Below.drew ?_) | (refine Below.alloc ?_ (by first | omega | (simp; done) | (simp; omega)) _)))
  have HB0 := Lib.hid hb0
  obtain ⟨p00, p01, p02, p03⟩ := p0
  rw [HT.out] at HV ⊢
  rw [hln, hk]
  clear h hm IH hR hkids hne0 hk hsh hl hl2 hr hb0 hln hcap hlm hts HT
  generalize sB (shw x) = X at *
  go_enter Tryd.func14, Tryd.ntmps14
  go_wp2_with fail
  refine (HI0.out _ HB0.out).mono ?_
  rintro e w1 ⟨rfl, hb1⟩
  have B1 := Lib.hid (below_trans HB0.out (Nat.le_refl _) hb1)
  clear hb1
  go_wp2
  go_ret
  exact ⟨by rw [← HV.out]; rfl, B1.out⟩
theorem show_34 (n : Nd) (f : Bool) (h : isN n f = true) (hm : many n ≤ 700) (hk : n.k = 34) (IH : ∀ m ∈ n.kids, ShwOk m) : ShwOk n := by
  intro cs w hr
  obtain ⟨A, c, rfl, hR, hcap, hlm, hn64, hts⟩ := hr.four
  have hsh : shp n.k = some ⟨false, 0, 1, 1⟩ := by rw [hk]; rfl
  obtain ⟨hl, hl2⟩ := kids_at h hsh
  simp only at hl hl2
  obtain ⟨x, hkids⟩ := one_kid (n := n) (by omega)
  obtain ⟨b0, o0, A0, c0, hA0, hbl0, p0, HI0, hs0, hne0⟩ := kid_here h hm IH hR (i := 0) (x := x) (by rw [hkids]; rfl)
  simp only [Nat.zero_mul, Nat.add_zero] at p0
  subst hA0
  have HV := Lib.hid (txt_34 hk hkids hne0)
  obtain ⟨T, HT⟩ : ∃ T, Hid (sB (shw n) = T) := ⟨_, rfl⟩
  have hln : n.kids.length = 1 := by rw [hkids]; rfl
  have hb0 : Below w.heap.size w (w.alloc (.cells #[.int .i64 34, .string n.t, .int .i64 n.num, .slice (some ⟨b0, o0, none⟩) 1 c] 24)) := by (repeat (first | with_reducible assumption | with_reducible exact Below.refl _ _ | (refine Below.setCell ?_ (by first | omega | (simp; done) | (simp; omega)) _) | (refine Below.drewN_ ?_ _) | (refine Below.drew ?_) | (refine Below.alloc ?_ (by first | omega | (simp; done) | (simp; omega)) _)))
  have HB0 := Lib.hid hb0
  obtain ⟨p00, p01, p02, p03⟩ := p0
  rw [HT.out] at HV ⊢
  rw [hln, hk]
  clear h hm IH hR hkids hne0 hk hsh hl hl2 hr hb0 hln hcap hlm hts HT
  generalize sB (shw x) = X at *
  go_enter Tryd.func14, Tryd.ntmps14
  go_wp2_with fail
  refine (HI0.out _ HB0.out).mono ?_
  rintro e w1 ⟨rfl, hb1⟩
  have B1 := Lib.hid (below_trans HB0.out (Nat.le_refl _) hb1)
  clear hb1
  go_wp2
  go_ret
  exact ⟨by rw [← HV.out]; rfl, B1.out⟩
end Go.Proofs.YtgegfbopogcjpaaDoor
