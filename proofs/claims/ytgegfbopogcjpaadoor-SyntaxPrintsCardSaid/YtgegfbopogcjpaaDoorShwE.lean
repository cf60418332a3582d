/- Show of leaves, of what is drawn. -/
import Derived.Test.YtgegfbopogcjpaaDoorShwD
import Derived.Deep.RegionHeld3
namespace Go.Proofs.YtgegfbopogcjpaaDoor
open Go.RowKit
set_option linter.unusedVariables false
set_option linter.unusedSimpArgs false
set_option maxRecDepth 100000
set_option maxHeartbeats 1000000
theorem no_kids {n : Nd} (h : n.kids.length = 0) : n.kids = [] := List.eq_nil_of_length_eq_zero h
theorem show_9 (n : Nd) (f : Bool) (h : isN n f = true) (hm : many n ≤ 700) (hk : n.k = 9) (IH : ∀ m ∈ n.kids, ShwOk m) : ShwOk n := by
  intro cs w hr
  obtain ⟨A, c, rfl, hR, hcap, hlm, hn64, hts⟩ := hr.four
  have hsh : shp n.k = some ⟨false, 0, 0, 0⟩ := by rw [hk]; rfl
  obtain ⟨hl, hl2⟩ := kids_at h hsh
  simp only at hl hl2
  have HV := Lib.hid (txt_9 hk (no_kids (by omega)))
  obtain ⟨T, HT⟩ : ∃ T, Hid (sB (shw n) = T) := ⟨_, rfl⟩
  have hln : n.kids.length = 0 := by omega
  have hb0 : Below w.heap.size w (w.alloc (.cells #[.int .i64 9, .string n.t, .int .i64 n.num, .slice A 0 c] 24)) := by (repeat (first | with_reducible assumption | with_reducible exact Below.refl _ _ | (refine Below.setCell ?_ (by first | omega | (simp; done) | (simp; omega)) _) | (refine Below.drewN_ ?_ _) | (refine Below.drew ?_) | (refine Below.alloc ?_ (by first | omega | (simp; done) | (simp; omega)) _)))
  have HB0 := Lib.hid hb0
  rw [HT.out] at HV ⊢
  rw [hln, hk]
  clear h hm IH hR hk hsh hl hl2 hr hb0 hln hcap hlm hts HT
  go_enter Tryd.func14, Tryd.ntmps14
  go_wp2
  go_ret
  exact ⟨by rw [← HV.out]; rfl, HB0.out⟩
theorem show_10 (n : Nd) (f : Bool) (h : isN n f = true) (hm : many n ≤ 700) (hk : n.k = 10) (IH : ∀ m ∈ n.kids, ShwOk m) : ShwOk n := by
  intro cs w hr
  obtain ⟨A, c, rfl, hR, hcap, hlm, hn64, hts⟩ := hr.four
  have hsh : shp n.k = some ⟨false, 0, 0, 0⟩ := by rw [hk]; rfl
  obtain ⟨hl, hl2⟩ := kids_at h hsh
  simp only at hl hl2
  have HV := Lib.hid (txt_10 hk (no_kids (by omega)))
  obtain ⟨T, HT⟩ : ∃ T, Hid (sB (shw n) = T) := ⟨_, rfl⟩
  have hln : n.kids.length = 0 := by omega
  have hb0 : Below w.heap.size w (w.alloc (.cells #[.int .i64 10, .string n.t, .int .i64 n.num, .slice A 0 c] 24)) := by (repeat (first | with_reducible assumption | with_reducible exact Below.refl _ _ | (refine Below.setCell ?_ (by first | omega | (simp; done) | (simp; omega)) _) | (refine Below.drewN_ ?_ _) | (refine Below.drew ?_) | (refine Below.alloc ?_ (by first | omega | (simp; done) | (simp; omega)) _)))
  have HB0 := Lib.hid hb0
  rw [HT.out] at HV ⊢
  rw [hln, hk]
  clear h hm IH hR hk hsh hl hl2 hr hb0 hln hcap hlm hts HT
  go_enter Tryd.func14, Tryd.ntmps14
  go_wp2
  go_ret
  exact ⟨by rw [← HV.out]; rfl, HB0.out⟩
theorem show_33 (n : Nd) (f : Bool) (h : isN n f = true) (hm : many n ≤ 700) (hk : n.k = 33) (IH : ∀ m ∈ n.kids, ShwOk m) : ShwOk n := by
  intro cs w hr
  obtain ⟨A, c, rfl, hR, hcap, hlm, hn64, hts⟩ := hr.four
  have hsh : shp n.k = some ⟨false, 0, 0, 0⟩ := by rw [hk]; rfl
  obtain ⟨hl, hl2⟩ := kids_at h hsh
  simp only at hl hl2
  have HV := Lib.hid (txt_33 hk (no_kids (by omega)))
  obtain ⟨T, HT⟩ : ∃ T, Hid (sB (shw n) = T) := ⟨_, rfl⟩
  have hln : n.kids.length = 0 := by omega
  have hb0 : Below w.heap.size w (w.alloc (.cells #[.int .i64 33, .string n.t, .int .i64 n.num, .slice A 0 c] 24)) := by (repeat (first | with_reducible assumption | with_reducible exact Below.refl _ _ | (refine Below.setCell ?_ (by first | omega | (simp; done) | (simp; omega)) _) | (refine Below.drewN_ ?_ _) | (refine Below.drew ?_) | (refine Below.alloc ?_ (by first | omega | (simp; done) | (simp; omega)) _)))
  have HB0 := Lib.hid hb0
  rw [HT.out] at HV ⊢
  rw [hln, hk]
  clear h hm IH hR hk hsh hl hl2 hr hb0 hln hcap hlm hts HT
  go_enter Tryd.func14, Tryd.ntmps14
  go_wp2
  go_ret
  exact ⟨by rw [← HV.out]; rfl, HB0.out⟩
theorem show_26 (n : Nd) (f : Bool) (h : isN n f = true) (hm : many n ≤ 700) (hk : n.k = 26) (IH : ∀ m ∈ n.kids, ShwOk m) : ShwOk n := by
  intro cs w hr
  obtain ⟨A, c, rfl, hR, hcap, hlm, hn64, hts⟩ := hr.four
  have hsh : shp n.k = some ⟨true, 0, 0, 0⟩ := by rw [hk]; rfl
  obtain ⟨hl, hl2⟩ := kids_at h hsh
  simp only at hl hl2
  have HV := Lib.hid (txt_26 hk (no_kids (by omega)))
  obtain ⟨T, HT⟩ : ∃ T, Hid (sB (shw n) = T) := ⟨_, rfl⟩
  have hts2 : n.t.size ≤ 20 := name_short h hsh rfl
  have hln : n.kids.length = 0 := by omega
  have hb0 : Below w.heap.size w (w.alloc (.cells #[.int .i64 26, .string n.t, .int .i64 n.num, .slice A 0 c] 24)) := by (repeat (first | with_reducible assumption | with_reducible exact Below.refl _ _ | (refine Below.setCell ?_ (by first | omega | (simp; done) | (simp; omega)) _) | (refine Below.drewN_ ?_ _) | (refine Below.drew ?_) | (refine Below.alloc ?_ (by first | omega | (simp; done) | (simp; omega)) _)))
  have HB0 := Lib.hid hb0
  rw [HT.out] at HV ⊢
  rw [hln, hk]
  clear h hm IH hR hk hsh hl hl2 hr hb0 hln hcap hlm hts HT
  go_enter Tryd.func14, Tryd.ntmps14
  go_wp2
  go_ret
  exact ⟨by rw [← HV.out]; rfl, HB0.out⟩
theorem show_11 (n : Nd) (f : Bool) (h : isN n f = true) (hm : many n ≤ 700) (hk : n.k = 11) (IH : ∀ m ∈ n.kids, ShwOk m) : ShwOk n := by
  intro cs w hr
  obtain ⟨A, c, rfl, hR, hcap, hlm, hn64, hts⟩ := hr.four
  have hsh : shp n.k = some ⟨true, 0, 0, 0⟩ := by rw [hk]; rfl
  obtain ⟨hl, hl2⟩ := kids_at h hsh
  simp only at hl hl2
  have HV := Lib.hid (txt_11 (.inl hk))
  obtain ⟨T, HT⟩ : ∃ T, Hid (sB (shw n) = T) := ⟨_, rfl⟩
  have hts2 : n.t.size ≤ 20 := name_short h hsh rfl
  have hln : n.kids.length = 0 := by omega
  have hb0 : Below w.heap.size w (w.alloc (.cells #[.int .i64 11, .string n.t, .int .i64 n.num, .slice A 0 c] 24)) := by (repeat (first | with_reducible assumption | with_reducible exact Below.refl _ _ | (refine Below.setCell ?_ (by first | omega | (simp; done) | (simp; omega)) _) | (refine Below.drewN_ ?_ _) | (refine Below.drew ?_) | (refine Below.alloc ?_ (by first | omega | (simp; done) | (simp; omega)) _)))
  have HB0 := Lib.hid hb0
  rw [HT.out] at HV ⊢
  rw [hln, hk]
  clear h hm IH hR hk hsh hl hl2 hr hb0 hln hcap hlm hts HT
  go_enter Tryd.func14, Tryd.ntmps14
  go_wp2
  go_ret
  exact ⟨by rw [← HV.out]; rfl, HB0.out⟩
theorem show_23 (n : Nd) (f : Bool) (h : isN n f = true) (hm : many n ≤ 700) (hk : n.k = 23) (IH : ∀ m ∈ n.kids, ShwOk m) : ShwOk n := by
  intro cs w hr
  obtain ⟨A, c, rfl, hR, hcap, hlm, hn64, hts⟩ := hr.four
  have hsh : shp n.k = some ⟨true, 0, 0, 0⟩ := by rw [hk]; rfl
  obtain ⟨hl, hl2⟩ := kids_at h hsh
  simp only at hl hl2
  have HV := Lib.hid (txt_11 (.inr hk))
  obtain ⟨T, HT⟩ : ∃ T, Hid (sB (shw n) = T) := ⟨_, rfl⟩
  have hts2 : n.t.size ≤ 20 := name_short h hsh rfl
  have hln : n.kids.length = 0 := by omega
  have hb0 : Below w.heap.size w (w.alloc (.cells #[.int .i64 23, .string n.t, .int .i64 n.num, .slice A 0 c] 24)) := by (repeat (first | with_reducible assumption | with_reducible exact Below.refl _ _ | (refine Below.setCell ?_ (by first | omega | (simp; done) | (simp; omega)) _) | (refine Below.drewN_ ?_ _) | (refine Below.drew ?_) | (refine Below.alloc ?_ (by first | omega | (simp; done) | (simp; omega)) _)))
  have HB0 := Lib.hid hb0
  rw [HT.out] at HV ⊢
  rw [hln, hk]
  clear h hm IH hR hk hsh hl hl2 hr hb0 hln hcap hlm hts HT
  go_enter Tryd.func14, Tryd.ntmps14
  go_wp2
  go_ret
  exact ⟨by rw [← HV.out]; rfl, HB0.out⟩
theorem show_3 (n : Nd) (f : Bool) (h : isN n f = true) (hm : many n ≤ 700) (hk : n.k = 3) (IH : ∀ m ∈ n.kids, ShwOk m) : ShwOk n := by
  intro cs w hr
  obtain ⟨A, c, rfl, hR, hcap, hlm, hn64, hts⟩ := hr.four
  have hsh : shp n.k = some ⟨true, 0, 1, 1⟩ := by rw [hk]; rfl
  obtain ⟨hl, hl2⟩ := kids_at h hsh
  simp only at hl hl2
  obtain ⟨x, hkids⟩ := one_kid (n := n) (by omega)
  obtain ⟨b0, o0, A0, c0, hA0, hbl0, p0, HI0, hs0, hne0⟩ := kid_here h hm IH hR (i := 0) (x := x) (by rw [hkids]; rfl)
  simp only [Nat.zero_mul, Nat.add_zero] at p0
  subst hA0
  have HV := Lib.hid (txt_3 hk hkids hne0)
  obtain ⟨T, HT⟩ : ∃ T, Hid (sB (shw n) = T) := ⟨_, rfl⟩
  have hln : n.kids.length = 1 := by rw [hkids]; rfl
  have hb0 : Below w.heap.size w (w.alloc (.cells #[.int .i64 3, .string n.t, .int .i64 n.num, .slice (some ⟨b0, o0, none⟩) 1 c] 24)) := by (repeat (first | with_reducible assumption | with_reducible exact Below.refl _ _ | (refine Below.setCell ?_ (by first | omega | (simp; done) | (simp; omega)) _) | (refine Below.drewN_ ?_ _) | (refine Below.drew ?_) | (refine Below.alloc ?_ (by first | omega | (simp; done) | (simp; omega)) _)))
  have HB0 := Lib.hid hb0
  have hts2 := name_short h hsh rfl
  rw [HT.out] at HV ⊢
  rw [hln, hk]
  clear h hm IH hR hkids hne0 hk hsh hl hl2 hr hb0 hln hcap hlm hts HT
  generalize sB (shw x) = X at *
  have kq := Blk.new_ w 24 #[.int .i64 3, .string n.t, .int .i64 n.num, .slice (some ⟨b0, o0, none⟩) 1 c]
  have q : ((w.alloc (.cells #[.int .i64 3, .string n.t, .int .i64 n.num, .slice (some ⟨b0, o0, none⟩) 1 c] 24)).cell? ⟨w.heap.size, 0, none⟩ = some (.int .i64 3) ∧ (w.alloc (.cells #[.int .i64 3, .string n.t, .int .i64 n.num, .slice (some ⟨b0, o0, none⟩) 1 c] 24)).cell? ⟨w.heap.size, 1, none⟩ = some (.string n.t) ∧ (w.alloc (.cells #[.int .i64 3, .string n.t, .int .i64 n.num, .slice (some ⟨b0, o0, none⟩) 1 c] 24)).cell? ⟨w.heap.size, 2, none⟩ = some (.int .i64 n.num) ∧ (w.alloc (.cells #[.int .i64 3, .string n.t, .int .i64 n.num, .slice (some ⟨b0, o0, none⟩) 1 c] 24)).cell? ⟨w.heap.size, 3, none⟩ = some (.slice (some ⟨b0, o0, none⟩) 1 c)) := ⟨kq.cell 0 _ rfl, kq.cell 1 _ rfl, kq.cell 2 _ rfl, kq.cell 3 _ rfl⟩
  have hc := keep4 HB0.out hbl0 p0
  have hm1 : w.heap.size < (w.alloc (.cells #[.int .i64 3, .string n.t, .int .i64 n.num, .slice (some ⟨b0, o0, none⟩) 1 c] 24)).heap.size := kq.lt
  have hn1 : b0 < (w.alloc (.cells #[.int .i64 3, .string n.t, .int .i64 n.num, .slice (some ⟨b0, o0, none⟩) 1 c] 24)).heap.size := Nat.lt_trans hbl0 kq.lt
  have HQ := Lib.hid q
  have HC := Lib.hid hc
  have HM1 := Lib.hid hm1
  have HN1 := Lib.hid hn1
  clear q hc hm1 hn1 kq p0 hbl0
  go_enter Tryd.func14, Tryd.ntmps14
  go_wp2_with fail
  generalize (w.alloc (.cells #[.int .i64 3, .string n.t, .int .i64 n.num, .slice (some ⟨b0, o0, none⟩) 1 c] 24)) = w1 at *
  have HI1 : Hid (∀ W, Below w1.heap.size w1 W → Calls Tryd.prog 14 #[.agg #[.int .i64 x.k, .string x.t, .int .i64 x.num, .slice A0 x.kids.length c0]] W fun e w' => e = .returned (.string X) ∧ Below W.heap.size W w') := fun W hW => HI0.out W (below_trans HB0.out (Nat.le_refl _) hW)
  have e1 : ∀ w, (Op.stringOp .add (X) (⟨#[32]⟩ : ByteArray)).run Tryd.prog w = .ok (.string (X ++ (⟨#[32]⟩ : ByteArray))) w := fun w => run_string_add_sum w _ _ (by (try simp only [ByteArray.size_append]); have : (⟨#[32]⟩ : ByteArray).size = 1 := rfl; have : (⟨#[32, 59]⟩ : ByteArray).size = 2 := rfl; omega)
  have e2 : ∀ w, (Op.stringOp .add (X ++ (⟨#[32]⟩ : ByteArray)) n.t).run Tryd.prog w = .ok (.string (X ++ (⟨#[32]⟩ : ByteArray) ++ n.t)) w := fun w => run_string_add_sum w _ _ (by (try simp only [ByteArray.size_append]); have : (⟨#[32]⟩ : ByteArray).size = 1 := rfl; have : (⟨#[32, 59]⟩ : ByteArray).size = 2 := rfl; omega)
  have e3 : ∀ w, (Op.stringOp .add (X ++ (⟨#[32]⟩ : ByteArray) ++ n.t) (⟨#[32, 59]⟩ : ByteArray)).run Tryd.prog w = .ok (.string (X ++ (⟨#[32]⟩ : ByteArray) ++ n.t ++ (⟨#[32, 59]⟩ : ByteArray))) w := fun w => run_string_add_sum w _ _ (by (try simp only [ByteArray.size_append]); have : (⟨#[32]⟩ : ByteArray).size = 1 := rfl; have : (⟨#[32, 59]⟩ : ByteArray).size = 2 := rfl; omega)
  have q := HQ.out
  have hc := HC.out
  have hm1 := HM1.out
  have hn1 := HN1.out
  go_region_held3 (fun W => Below w1.heap.size w1 W ∧ (W.cell? ⟨w.heap.size, 0, none⟩ = some (.int .i64 3) ∧ W.cell? ⟨w.heap.size, 1, none⟩ = some (.string n.t) ∧ W.cell? ⟨w.heap.size, 2, none⟩ = some (.int .i64 n.num) ∧ W.cell? ⟨w.heap.size, 3, none⟩ = some (.slice (some ⟨b0, o0, none⟩) 1 c)) ∧ W.cell? ⟨b0, o0, none⟩ = some (.int .i64 x.k) ∧ W.cell? ⟨b0, o0 + 1, none⟩ = some (.string x.t) ∧ W.cell? ⟨b0, o0 + 2, none⟩ = some (.int .i64 x.num) ∧ W.cell? ⟨b0, o0 + 3, none⟩ = some (.slice A0 x.kids.length c0)) (first | exact ⟨(Below.refl _ _).drew, q, hc⟩ | exact keepS hm1 hn1 (by assumption) hbq | exact ⟨Below.drew (And.left (by assumption)), And.right (by assumption)⟩ | go_keep) (first | (go_at_call 14; ((with_reducible refine (HI1.out _ (And.left (by assumption))).mono ?_); rintro e w' ⟨rfl, hbq⟩)))
  all_goals
    rename_i hh
    have B1 := Lib.hid (below_trans HB0.out (Nat.le_refl _) hh.1)
    go_wp2
    go_ret
    exact ⟨by rw [← HV.out]; rfl, B1.out⟩
theorem show_8 (n : Nd) (f : Bool) (h : isN n f = true) (hm : many n ≤ 700) (hk : n.k = 8) (IH : ∀ m ∈ n.kids, ShwOk m) : ShwOk n := by
  intro cs w hr
  obtain ⟨A, c, rfl, hR, hcap, hlm, hn64, hts⟩ := hr.four
  have hsh : shp n.k = some ⟨true, 0, 1, 1⟩ := by rw [hk]; rfl
  obtain ⟨hl, hl2⟩ := kids_at h hsh
  simp only at hl hl2
  obtain ⟨x, hkids⟩ := one_kid (n := n) (by omega)
  obtain ⟨b0, o0, A0, c0, hA0, hbl0, p0, HI0, hs0, hne0⟩ := kid_here h hm IH hR (i := 0) (x := x) (by rw [hkids]; rfl)
  simp only [Nat.zero_mul, Nat.add_zero] at p0
  subst hA0
  have HV := Lib.hid (txt_8 hk hkids hne0)
  obtain ⟨T, HT⟩ : ∃ T, Hid (sB (shw n) = T) := ⟨_, rfl⟩
  have hln : n.kids.length = 1 := by rw [hkids]; rfl
  have hb0 : Below w.heap.size w (w.alloc (.cells #[.int .i64 8, .string n.t, .int .i64 n.num, .slice (some ⟨b0, o0, none⟩) 1 c] 24)) := by (repeat (first | with_reducible assumption | with_reducible exact Below.refl _ _ | (refine Below.setCell ?_ (by first | omega | (simp; done) | (simp; omega)) _) | (refine Below.drewN_ ?_ _) | (refine Below.drew ?_) | (refine Below.alloc ?_ (by first | omega | (simp; done) | (simp; omega)) _)))
  have HB0 := Lib.hid hb0
  have hts2 := name_short h hsh rfl
  rw [HT.out] at HV ⊢
  rw [hln, hk]
  clear h hm IH hR hkids hne0 hk hsh hl hl2 hr hb0 hln hcap hlm hts HT
  generalize sB (shw x) = X at *
  have kq := Blk.new_ w 24 #[.int .i64 8, .string n.t, .int .i64 n.num, .slice (some ⟨b0, o0, none⟩) 1 c]
  have q : ((w.alloc (.cells #[.int .i64 8, .string n.t, .int .i64 n.num, .slice (some ⟨b0, o0, none⟩) 1 c] 24)).cell? ⟨w.heap.size, 0, none⟩ = some (.int .i64 8) ∧ (w.alloc (.cells #[.int .i64 8, .string n.t, .int .i64 n.num, .slice (some ⟨b0, o0, none⟩) 1 c] 24)).cell? ⟨w.heap.size, 1, none⟩ = some (.string n.t) ∧ (w.alloc (.cells #[.int .i64 8, .string n.t, .int .i64 n.num, .slice (some ⟨b0, o0, none⟩) 1 c] 24)).cell? ⟨w.heap.size, 2, none⟩ = some (.int .i64 n.num) ∧ (w.alloc (.cells #[.int .i64 8, .string n.t, .int .i64 n.num, .slice (some ⟨b0, o0, none⟩) 1 c] 24)).cell? ⟨w.heap.size, 3, none⟩ = some (.slice (some ⟨b0, o0, none⟩) 1 c)) := ⟨kq.cell 0 _ rfl, kq.cell 1 _ rfl, kq.cell 2 _ rfl, kq.cell 3 _ rfl⟩
  have hc := keep4 HB0.out hbl0 p0
  have hm1 : w.heap.size < (w.alloc (.cells #[.int .i64 8, .string n.t, .int .i64 n.num, .slice (some ⟨b0, o0, none⟩) 1 c] 24)).heap.size := kq.lt
  have hn1 : b0 < (w.alloc (.cells #[.int .i64 8, .string n.t, .int .i64 n.num, .slice (some ⟨b0, o0, none⟩) 1 c] 24)).heap.size := Nat.lt_trans hbl0 kq.lt
  have HQ := Lib.hid q
  have HC := Lib.hid hc
  have HM1 := Lib.hid hm1
  have HN1 := Lib.hid hn1
  clear q hc hm1 hn1 kq p0 hbl0
  go_enter Tryd.func14, Tryd.ntmps14
  go_wp2_with fail
  generalize (w.alloc (.cells #[.int .i64 8, .string n.t, .int .i64 n.num, .slice (some ⟨b0, o0, none⟩) 1 c] 24)) = w1 at *
  have HI1 : Hid (∀ W, Below w1.heap.size w1 W → Calls Tryd.prog 14 #[.agg #[.int .i64 x.k, .string x.t, .int .i64 x.num, .slice A0 x.kids.length c0]] W fun e w' => e = .returned (.string X) ∧ Below W.heap.size W w') := fun W hW => HI0.out W (below_trans HB0.out (Nat.le_refl _) hW)
  have e1 : ∀ w, (Op.stringOp .add (X) (⟨#[32]⟩ : ByteArray)).run Tryd.prog w = .ok (.string (X ++ (⟨#[32]⟩ : ByteArray))) w := fun w => run_string_add_sum w _ _ (by (try simp only [ByteArray.size_append]); have : (⟨#[32]⟩ : ByteArray).size = 1 := rfl; omega)
  have e2 : ∀ w, (Op.stringOp .add (X ++ (⟨#[32]⟩ : ByteArray)) n.t).run Tryd.prog w = .ok (.string (X ++ (⟨#[32]⟩ : ByteArray) ++ n.t)) w := fun w => run_string_add_sum w _ _ (by (try simp only [ByteArray.size_append]); have : (⟨#[32]⟩ : ByteArray).size = 1 := rfl; omega)
  have q := HQ.out
  have hc := HC.out
  have hm1 := HM1.out
  have hn1 := HN1.out
  go_region_held3 (fun W => Below w1.heap.size w1 W ∧ (W.cell? ⟨w.heap.size, 0, none⟩ = some (.int .i64 8) ∧ W.cell? ⟨w.heap.size, 1, none⟩ = some (.string n.t) ∧ W.cell? ⟨w.heap.size, 2, none⟩ = some (.int .i64 n.num) ∧ W.cell? ⟨w.heap.size, 3, none⟩ = some (.slice (some ⟨b0, o0, none⟩) 1 c)) ∧ W.cell? ⟨b0, o0, none⟩ = some (.int .i64 x.k) ∧ W.cell? ⟨b0, o0 + 1, none⟩ = some (.string x.t) ∧ W.cell? ⟨b0, o0 + 2, none⟩ = some (.int .i64 x.num) ∧ W.cell? ⟨b0, o0 + 3, none⟩ = some (.slice A0 x.kids.length c0)) (first | exact ⟨(Below.refl _ _).drew, q, hc⟩ | exact keepS hm1 hn1 (by assumption) hbq | exact ⟨Below.drew (And.left (by assumption)), And.right (by assumption)⟩ | go_keep) (first | (go_at_call 14; ((with_reducible refine (HI1.out _ (And.left (by assumption))).mono ?_); rintro e w' ⟨rfl, hbq⟩)))
  all_goals
    rename_i hh
    have B1 := Lib.hid (below_trans HB0.out (Nat.le_refl _) hh.1)
    go_wp2
    go_ret
    exact ⟨by rw [← HV.out]; rfl, B1.out⟩
theorem show_5 (n : Nd) (f : Bool) (h : isN n f = true) (hm : many n ≤ 700) (hk : n.k = 5) (IH : ∀ m ∈ n.kids, ShwOk m) : ShwOk n := by
  intro cs w hr
  obtain ⟨A, c, rfl, hR, hcap, hlm, hn64, hts⟩ := hr.four
  have hsh : shp n.k = some ⟨true, 0, 1, 1⟩ := by rw [hk]; rfl
  obtain ⟨hl, hl2⟩ := kids_at h hsh
  simp only at hl hl2
  obtain ⟨x, hkids⟩ := one_kid (n := n) (by omega)
  obtain ⟨b0, o0, A0, c0, hA0, hbl0, p0, HI0, hs0, hne0⟩ := kid_here h hm IH hR (i := 0) (x := x) (by rw [hkids]; rfl)
  simp only [Nat.zero_mul, Nat.add_zero] at p0
  subst hA0
  have HV := Lib.hid (txt_5 hk hkids hne0)
  obtain ⟨T, HT⟩ : ∃ T, Hid (sB (shw n) = T) := ⟨_, rfl⟩
  have hln : n.kids.length = 1 := by rw [hkids]; rfl
  have hb0 : Below w.heap.size w (w.alloc (.cells #[.int .i64 5, .string n.t, .int .i64 n.num, .slice (some ⟨b0, o0, none⟩) 1 c] 24)) := by (repeat (first | with_reducible assumption | with_reducible exact Below.refl _ _ | (refine Below.setCell ?_ (by first | omega | (simp; done) | (simp; omega)) _) | (refine Below.drewN_ ?_ _) | (refine Below.drew ?_) | (refine Below.alloc ?_ (by first | omega | (simp; done) | (simp; omega)) _)))
  have HB0 := Lib.hid hb0
  have hts2 := name_short h hsh rfl
  rw [HT.out] at HV ⊢
  rw [hln, hk]
  clear h hm IH hR hkids hne0 hk hsh hl hl2 hr hb0 hln hcap hlm hts HT
  generalize sB (shw x) = X at *
  have kq := Blk.new_ w 24 #[.int .i64 5, .string n.t, .int .i64 n.num, .slice (some ⟨b0, o0, none⟩) 1 c]
  have q : ((w.alloc (.cells #[.int .i64 5, .string n.t, .int .i64 n.num, .slice (some ⟨b0, o0, none⟩) 1 c] 24)).cell? ⟨w.heap.size, 0, none⟩ = some (.int .i64 5) ∧ (w.alloc (.cells #[.int .i64 5, .string n.t, .int .i64 n.num, .slice (some ⟨b0, o0, none⟩) 1 c] 24)).cell? ⟨w.heap.size, 1, none⟩ = some (.string n.t) ∧ (w.alloc (.cells #[.int .i64 5, .string n.t, .int .i64 n.num, .slice (some ⟨b0, o0, none⟩) 1 c] 24)).cell? ⟨w.heap.size, 2, none⟩ = some (.int .i64 n.num) ∧ (w.alloc (.cells #[.int .i64 5, .string n.t, .int .i64 n.num, .slice (some ⟨b0, o0, none⟩) 1 c] 24)).cell? ⟨w.heap.size, 3, none⟩ = some (.slice (some ⟨b0, o0, none⟩) 1 c)) := ⟨kq.cell 0 _ rfl, kq.cell 1 _ rfl, kq.cell 2 _ rfl, kq.cell 3 _ rfl⟩
  have hc := keep4 HB0.out hbl0 p0
  have hm1 : w.heap.size < (w.alloc (.cells #[.int .i64 5, .string n.t, .int .i64 n.num, .slice (some ⟨b0, o0, none⟩) 1 c] 24)).heap.size := kq.lt
  have hn1 : b0 < (w.alloc (.cells #[.int .i64 5, .string n.t, .int .i64 n.num, .slice (some ⟨b0, o0, none⟩) 1 c] 24)).heap.size := Nat.lt_trans hbl0 kq.lt
  have HQ := Lib.hid q
  have HC := Lib.hid hc
  have HM1 := Lib.hid hm1
  have HN1 := Lib.hid hn1
  clear q hc hm1 hn1 kq p0 hbl0
  go_enter Tryd.func14, Tryd.ntmps14
  go_wp2_with fail
  generalize (w.alloc (.cells #[.int .i64 5, .string n.t, .int .i64 n.num, .slice (some ⟨b0, o0, none⟩) 1 c] 24)) = w1 at *
  have HI1 : Hid (∀ W, Below w1.heap.size w1 W → Calls Tryd.prog 14 #[.agg #[.int .i64 x.k, .string x.t, .int .i64 x.num, .slice A0 x.kids.length c0]] W fun e w' => e = .returned (.string X) ∧ Below W.heap.size W w') := fun W hW => HI0.out W (below_trans HB0.out (Nat.le_refl _) hW)
  have e1 : ∀ w, (Op.stringOp .add ((⟨#[101, 120, 116, 101, 114, 110, 32]⟩ : ByteArray)) X).run Tryd.prog w = .ok (.string ((⟨#[101, 120, 116, 101, 114, 110, 32]⟩ : ByteArray) ++ X)) w := fun w => run_string_add_sum w _ _ (by (try simp only [ByteArray.size_append]); have : (⟨#[101, 120, 116, 101, 114, 110, 32]⟩ : ByteArray).size = 7 := rfl; have : (⟨#[32]⟩ : ByteArray).size = 1 := rfl; have : (⟨#[32, 59]⟩ : ByteArray).size = 2 := rfl; omega)
  have e2 : ∀ w, (Op.stringOp .add ((⟨#[101, 120, 116, 101, 114, 110, 32]⟩ : ByteArray) ++ X) (⟨#[32]⟩ : ByteArray)).run Tryd.prog w = .ok (.string ((⟨#[101, 120, 116, 101, 114, 110, 32]⟩ : ByteArray) ++ X ++ (⟨#[32]⟩ : ByteArray))) w := fun w => run_string_add_sum w _ _ (by (try simp only [ByteArray.size_append]); have : (⟨#[101, 120, 116, 101, 114, 110, 32]⟩ : ByteArray).size = 7 := rfl; have : (⟨#[32]⟩ : ByteArray).size = 1 := rfl; have : (⟨#[32, 59]⟩ : ByteArray).size = 2 := rfl; omega)
  have e3 : ∀ w, (Op.stringOp .add ((⟨#[101, 120, 116, 101, 114, 110, 32]⟩ : ByteArray) ++ X ++ (⟨#[32]⟩ : ByteArray)) n.t).run Tryd.prog w = .ok (.string ((⟨#[101, 120, 116, 101, 114, 110, 32]⟩ : ByteArray) ++ X ++ (⟨#[32]⟩ : ByteArray) ++ n.t)) w := fun w => run_string_add_sum w _ _ (by (try simp only [ByteArray.size_append]); have : (⟨#[101, 120, 116, 101, 114, 110, 32]⟩ : ByteArray).size = 7 := rfl; have : (⟨#[32]⟩ : ByteArray).size = 1 := rfl; have : (⟨#[32, 59]⟩ : ByteArray).size = 2 := rfl; omega)
  have e4 : ∀ w, (Op.stringOp .add ((⟨#[101, 120, 116, 101, 114, 110, 32]⟩ : ByteArray) ++ X ++ (⟨#[32]⟩ : ByteArray) ++ n.t) (⟨#[32, 59]⟩ : ByteArray)).run Tryd.prog w = .ok (.string ((⟨#[101, 120, 116, 101, 114, 110, 32]⟩ : ByteArray) ++ X ++ (⟨#[32]⟩ : ByteArray) ++ n.t ++ (⟨#[32, 59]⟩ : ByteArray))) w := fun w => run_string_add_sum w _ _ (by (try simp only [ByteArray.size_append]); have : (⟨#[101, 120, 116, 101, 114, 110, 32]⟩ : ByteArray).size = 7 := rfl; have : (⟨#[32]⟩ : ByteArray).size = 1 := rfl; have : (⟨#[32, 59]⟩ : ByteArray).size = 2 := rfl; omega)
  have q := HQ.out
  have hc := HC.out
  have hm1 := HM1.out
  have hn1 := HN1.out
  go_region_held3 (fun W => Below w1.heap.size w1 W ∧ (W.cell? ⟨w.heap.size, 0, none⟩ = some (.int .i64 5) ∧ W.cell? ⟨w.heap.size, 1, none⟩ = some (.string n.t) ∧ W.cell? ⟨w.heap.size, 2, none⟩ = some (.int .i64 n.num) ∧ W.cell? ⟨w.heap.size, 3, none⟩ = some (.slice (some ⟨b0, o0, none⟩) 1 c)) ∧ W.cell? ⟨b0, o0, none⟩ = some (.int .i64 x.k) ∧ W.cell? ⟨b0, o0 + 1, none⟩ = some (.string x.t) ∧ W.cell? ⟨b0, o0 + 2, none⟩ = some (.int .i64 x.num) ∧ W.cell? ⟨b0, o0 + 3, none⟩ = some (.slice A0 x.kids.length c0)) (first | exact ⟨(Below.refl _ _).drew, q, hc⟩ | exact keepS hm1 hn1 (by assumption) hbq | exact ⟨Below.drew (And.left (by assumption)), And.right (by assumption)⟩ | go_keep) (first | (go_at_call 14; ((with_reducible refine (HI1.out _ (And.left (by assumption))).mono ?_); rintro e w' ⟨rfl, hbq⟩)))
  all_goals
    rename_i hh
    have B1 := Lib.hid (below_trans HB0.out (Nat.le_refl _) hh.1)
    go_wp2
    go_ret
    exact ⟨by rw [← HV.out]; rfl, B1.out⟩
end Go.Proofs.YtgegfbopogcjpaaDoor
