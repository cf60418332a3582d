/- Show of ifs, of loops, of operations. -/
import Derived.Test.YtgegfbopogcjpaaDoorShwL
namespace Go.Proofs.YtgegfbopogcjpaaDoor
open Go.RowKit
set_option linter.unusedVariables false
set_option linter.unusedSimpArgs false
set_option maxRecDepth 100000
set_option maxHeartbeats 1000000
theorem bind_vals (op : Int) : sgnB op = -1 ∨ sgnB op = 0 ∨ sgnB op = 1 ∨ sgnB op = 2 := by
  rcases hs : sgn op with _ | x
  · left; unfold sgnB; rw [hs]
  · unfold sgnB
    rw [hs]
    unfold sgn at hs
    repeat' split at hs
    all_goals simp at hs
    all_goals (subst hs; simp)
theorem show_16_2 (n : Nd) (f : Bool) (h : isN n f = true) (hm : many n ≤ 700) (hk : n.k = 16) (hl0 : n.kids.length = 2) (IH : ∀ m ∈ n.kids, ShwOk m) : ShwOk n := by
  intro cs w hr
  obtain ⟨A, c, rfl, hR, hcap, hlm, hn64, hts⟩ := hr.four
  have hsh : shp n.k = some ⟨false, 0, 2, 3⟩ := by rw [hk]; rfl
  obtain ⟨hl, hl2⟩ := kids_at h hsh
  simp only at hl hl2
  obtain ⟨x, y, hkids⟩ := two_kids (n := n) (by omega)
  obtain ⟨b0, o0, A0, c0, hA0, hbl0, p0, HI0, hs0, hne0⟩ := kid_here h hm IH hR (i := 0) (x := x) (by rw [hkids]; rfl)
  simp only [Nat.zero_mul, Nat.add_zero] at p0
  obtain ⟨b1, o1, A1, c1, hA1, hbl1, p1, HI1, hs1, hne1⟩ := kid_here h hm IH hR (i := 1) (x := y) (by rw [hkids]; rfl)
  simp only [Nat.one_mul] at p1
  subst hA0
  injection hA1 with hA1
  injection hA1 with e1 e2
  subst e1 e2
  have hV := txt_if2 (.inl hk) hkids hne0 hne1
  have hV2 : (⟨#[105, 102, 32, 40, 32]⟩ : ByteArray) ++ sB (shw x) ++ (⟨#[32, 41, 32]⟩ : ByteArray) ++ sB (shw y) = sB (shw n) := by rwa [if_neg (by omega)] at hV
  clear hV
  have HV := Lib.hid hV2
  have hts2 : n.t.size ≤ 20 := by rw [text_none h hsh rfl]; omega
  obtain ⟨T, HT⟩ : ∃ T, Hid (sB (shw n) = T) := ⟨_, rfl⟩
  have hln : n.kids.length = 2 := by rw [hkids]; rfl
  have hb0 : Below w.heap.size w (w.alloc (.cells #[.int .i64 16, .string n.t, .int .i64 n.num, .slice (some ⟨b0, o0, none⟩) 2 c] 24)) := by (repeat (first | with_reducible assumption | with_reducible exact Below.refl _ _ | (refine Below.setCell ?_ (by first | omega | (simp; done) | (simp; omega)) _) | (refine Below.drewN_ ?_ _) | (refine Below.drew ?_) | (refine Below.alloc ?_ (by first | omega | (simp; done) | (simp; omega)) _)))
  have HB0 := Lib.hid hb0
  rw [HT.out] at HV ⊢
  rw [hln, hk]
  clear hV2
  clear hl0
  clear h hm IH hR hkids hne0 hne1 hk hsh hl hl2 hr hb0 hln hcap hlm hts HT
  generalize sB (shw x) = X at *
  generalize sB (shw y) = Y at *
  have kq := Blk.new_ w 24 #[.int .i64 16, .string n.t, .int .i64 n.num, .slice (some ⟨b0, o0, none⟩) 2 c]
  have q : ((w.alloc (.cells #[.int .i64 16, .string n.t, .int .i64 n.num, .slice (some ⟨b0, o0, none⟩) 2 c] 24)).cell? ⟨w.heap.size, 0, none⟩ = some (.int .i64 16) ∧ (w.alloc (.cells #[.int .i64 16, .string n.t, .int .i64 n.num, .slice (some ⟨b0, o0, none⟩) 2 c] 24)).cell? ⟨w.heap.size, 1, none⟩ = some (.string n.t) ∧ (w.alloc (.cells #[.int .i64 16, .string n.t, .int .i64 n.num, .slice (some ⟨b0, o0, none⟩) 2 c] 24)).cell? ⟨w.heap.size, 2, none⟩ = some (.int .i64 n.num) ∧ (w.alloc (.cells #[.int .i64 16, .string n.t, .int .i64 n.num, .slice (some ⟨b0, o0, none⟩) 2 c] 24)).cell? ⟨w.heap.size, 3, none⟩ = some (.slice (some ⟨b0, o0, none⟩) 2 c)) := ⟨kq.cell 0 _ rfl, kq.cell 1 _ rfl, kq.cell 2 _ rfl, kq.cell 3 _ rfl⟩
  have HQ := Lib.hid q
  have HC := Lib.hid (keep4 HB0.out hbl0 p0)
  have HD := Lib.hid (keep4 HB0.out hbl0 p1)
  have HM1 := Lib.hid kq.lt
  have HN1 := Lib.hid (Nat.lt_trans hbl0 kq.lt)
  clear q kq p0 p1 hbl0 hbl1
  go_enter Tryd.func14, Tryd.ntmps14
  go_wp2_with fail
  generalize (w.alloc (.cells #[.int .i64 16, .string n.t, .int .i64 n.num, .slice (some ⟨b0, o0, none⟩) 2 c] 24)) = w1 at *
  have HI2 : Hid (∀ W, Below w1.heap.size w1 W → Calls Tryd.prog 14 #[.agg #[.int .i64 x.k, .string x.t, .int .i64 x.num, .slice A0 x.kids.length c0]] W fun e w' => e = .returned (.string X) ∧ Below W.heap.size W w') := fun W hW => HI0.out W (below_trans HB0.out (Nat.le_refl _) hW)
  have HI3 : Hid (∀ W, Below w1.heap.size w1 W → Calls Tryd.prog 14 #[.agg #[.int .i64 y.k, .string y.t, .int .i64 y.num, .slice A1 y.kids.length c1]] W fun e w' => e = .returned (.string Y) ∧ Below W.heap.size W w') := fun W hW => HI1.out W (below_trans HB0.out (Nat.le_refl _) hW)
  have e1 : ∀ w, (Op.stringOp .add ((⟨#[105, 102, 32, 40, 32]⟩ : ByteArray)) X).run Tryd.prog w = .ok (.string ((⟨#[105, 102, 32, 40, 32]⟩ : ByteArray) ++ X)) w := fun w => run_string_add_sum w _ _ (by (try simp only [ByteArray.size_append]); have : (⟨#[105, 102, 32, 40, 32]⟩ : ByteArray).size = 5 := rfl; have : (⟨#[32, 41, 32]⟩ : ByteArray).size = 3 := rfl; omega)
  have e2 : ∀ w, (Op.stringOp .add ((⟨#[105, 102, 32, 40, 32]⟩ : ByteArray) ++ X) (⟨#[32, 41, 32]⟩ : ByteArray)).run Tryd.prog w = .ok (.string ((⟨#[105, 102, 32, 40, 32]⟩ : ByteArray) ++ X ++ (⟨#[32, 41, 32]⟩ : ByteArray))) w := fun w => run_string_add_sum w _ _ (by (try simp only [ByteArray.size_append]); have : (⟨#[105, 102, 32, 40, 32]⟩ : ByteArray).size = 5 := rfl; have : (⟨#[32, 41, 32]⟩ : ByteArray).size = 3 := rfl; omega)
  have e3 : ∀ w, (Op.stringOp .add ((⟨#[105, 102, 32, 40, 32]⟩ : ByteArray) ++ X ++ (⟨#[32, 41, 32]⟩ : ByteArray)) Y).run Tryd.prog w = .ok (.string ((⟨#[105, 102, 32, 40, 32]⟩ : ByteArray) ++ X ++ (⟨#[32, 41, 32]⟩ : ByteArray) ++ Y)) w := fun w => run_string_add_sum w _ _ (by (try simp only [ByteArray.size_append]); have : (⟨#[105, 102, 32, 40, 32]⟩ : ByteArray).size = 5 := rfl; have : (⟨#[32, 41, 32]⟩ : ByteArray).size = 3 := rfl; omega)
  have q := HQ.out
  have hc := HC.out
  have hd := HD.out
  have hm1 := HM1.out
  have hn1 := HN1.out
  go_region_held3 (fun W => Below w1.heap.size w1 W ∧ (W.cell? ⟨w.heap.size, 0, none⟩ = some (.int .i64 16) ∧ W.cell? ⟨w.heap.size, 1, none⟩ = some (.string n.t) ∧ W.cell? ⟨w.heap.size, 2, none⟩ = some (.int .i64 n.num) ∧ W.cell? ⟨w.heap.size, 3, none⟩ = some (.slice (some ⟨b0, o0, none⟩) 2 c)) ∧ (W.cell? ⟨b0, o0, none⟩ = some (.int .i64 x.k) ∧ W.cell? ⟨b0, o0 + 1, none⟩ = some (.string x.t) ∧ W.cell? ⟨b0, o0 + 2, none⟩ = some (.int .i64 x.num) ∧ W.cell? ⟨b0, o0 + 3, none⟩ = some (.slice A0 x.kids.length c0)) ∧ W.cell? ⟨b0, o0 + 4, none⟩ = some (.int .i64 y.k) ∧ W.cell? ⟨b0, o0 + 4 + 1, none⟩ = some (.string y.t) ∧ W.cell? ⟨b0, o0 + 4 + 2, none⟩ = some (.int .i64 y.num) ∧ W.cell? ⟨b0, o0 + 4 + 3, none⟩ = some (.slice A1 y.kids.length c1)) (first | exact ⟨(Below.refl _ _).drew, q, hc, hd⟩ | exact keepS2 hm1 hn1 hn1 (by assumption) hbq | exact ⟨Below.drew (And.left (by assumption)), And.right (by assumption)⟩ | go_keep) (first | (go_at_call 14; ((with_reducible refine (HI2.out _ (And.left (by assumption))).mono ?_); rintro e w' ⟨rfl, hbq⟩)) | (go_at_call 14; ((with_reducible refine (HI3.out _ (And.left (by assumption))).mono ?_); rintro e w' ⟨rfl, hbq⟩)))
  all_goals
    rename_i hh
    have B1 := Lib.hid (below_trans HB0.out (Nat.le_refl _) hh.1)
    go_wp2
    go_ret
    exact ⟨by rw [← HV.out]; rfl, B1.out⟩
theorem show_17 (n : Nd) (f : Bool) (h : isN n f = true) (hm : many n ≤ 700) (hk : n.k = 17) (IH : ∀ m ∈ n.kids, ShwOk m) : ShwOk n := by
  intro cs w hr
  obtain ⟨A, c, rfl, hR, hcap, hlm, hn64, hts⟩ := hr.four
  have hsh : shp n.k = some ⟨false, 0, 2, 2⟩ := by rw [hk]; rfl
  obtain ⟨hl, hl2⟩ := kids_at h hsh
  simp only at hl hl2
  obtain ⟨x, y, hkids⟩ := two_kids (n := n) (by omega)
  obtain ⟨b0, o0, A0, c0, hA0, hbl0, p0, HI0, hs0, hne0⟩ := kid_here h hm IH hR (i := 0) (x := x) (by rw [hkids]; rfl)
  simp only [Nat.zero_mul, Nat.add_zero] at p0
  obtain ⟨b1, o1, A1, c1, hA1, hbl1, p1, HI1, hs1, hne1⟩ := kid_here h hm IH hR (i := 1) (x := y) (by rw [hkids]; rfl)
  simp only [Nat.one_mul] at p1
  subst hA0
  injection hA1 with hA1
  injection hA1 with e1 e2
  subst e1 e2
  have hV := txt_if2 (.inr hk) hkids hne0 hne1
  have hV2 : (⟨#[119, 104, 105, 108, 101, 32, 40, 32]⟩ : ByteArray) ++ sB (shw x) ++ (⟨#[32, 41, 32]⟩ : ByteArray) ++ sB (shw y) = sB (shw n) := by rwa [if_pos hk] at hV
  clear hV
  have HV := Lib.hid hV2
  have hts2 : n.t.size ≤ 20 := by rw [text_none h hsh rfl]; omega
  obtain ⟨T, HT⟩ : ∃ T, Hid (sB (shw n) = T) := ⟨_, rfl⟩
  have hln : n.kids.length = 2 := by rw [hkids]; rfl
  have hb0 : Below w.heap.size w (w.alloc (.cells #[.int .i64 17, .string n.t, .int .i64 n.num, .slice (some ⟨b0, o0, none⟩) 2 c] 24)) := by (repeat (first | with_reducible assumption | with_reducible exact Below.refl _ _ | (refine Below.setCell ?_ (by first | omega | (simp; done) | (simp; omega)) _) | (refine Below.drewN_ ?_ _) | (refine Below.drew ?_) | (refine Below.alloc ?_ (by first | omega | (simp; done) | (simp; omega)) _)))
  have HB0 := Lib.hid hb0
  rw [HT.out] at HV ⊢
  rw [hln, hk]
  clear hV2
  clear h hm IH hR hkids hne0 hne1 hk hsh hl hl2 hr hb0 hln hcap hlm hts HT
  generalize sB (shw x) = X at *
  generalize sB (shw y) = Y at *
  have kq := Blk.new_ w 24 #[.int .i64 17, .string n.t, .int .i64 n.num, .slice (some ⟨b0, o0, none⟩) 2 c]
  have q : ((w.alloc (.cells #[.int .i64 17, .string n.t, .int .i64 n.num, .slice (some ⟨b0, o0, none⟩) 2 c] 24)).cell? ⟨w.heap.size, 0, none⟩ = some (.int .i64 17) ∧ (w.alloc (.cells #[.int .i64 17, .string n.t, .int .i64 n.num, .slice (some ⟨b0, o0, none⟩) 2 c] 24)).cell? ⟨w.heap.size, 1, none⟩ = some (.string n.t) ∧ (w.alloc (.cells #[.int .i64 17, .string n.t, .int .i64 n.num, .slice (some ⟨b0, o0, none⟩) 2 c] 24)).cell? ⟨w.heap.size, 2, none⟩ = some (.int .i64 n.num) ∧ (w.alloc (.cells #[.int .i64 17, .string n.t, .int .i64 n.num, .slice (some ⟨b0, o0, none⟩) 2 c] 24)).cell? ⟨w.heap.size, 3, none⟩ = some (.slice (some ⟨b0, o0, none⟩) 2 c)) := ⟨kq.cell 0 _ rfl, kq.cell 1 _ rfl, kq.cell 2 _ rfl, kq.cell 3 _ rfl⟩
  have HQ := Lib.hid q
  have HC := Lib.hid (keep4 HB0.out hbl0 p0)
  have HD := Lib.hid (keep4 HB0.out hbl0 p1)
  have HM1 := Lib.hid kq.lt
  have HN1 := Lib.hid (Nat.lt_trans hbl0 kq.lt)
  clear q kq p0 p1 hbl0 hbl1
  go_enter Tryd.func14, Tryd.ntmps14
  go_wp2_with fail
  generalize (w.alloc (.cells #[.int .i64 17, .string n.t, .int .i64 n.num, .slice (some ⟨b0, o0, none⟩) 2 c] 24)) = w1 at *
  have HI2 : Hid (∀ W, Below w1.heap.size w1 W → Calls Tryd.prog 14 #[.agg #[.int .i64 x.k, .string x.t, .int .i64 x.num, .slice A0 x.kids.length c0]] W fun e w' => e = .returned (.string X) ∧ Below W.heap.size W w') := fun W hW => HI0.out W (below_trans HB0.out (Nat.le_refl _) hW)
  have HI3 : Hid (∀ W, Below w1.heap.size w1 W → Calls Tryd.prog 14 #[.agg #[.int .i64 y.k, .string y.t, .int .i64 y.num, .slice A1 y.kids.length c1]] W fun e w' => e = .returned (.string Y) ∧ Below W.heap.size W w') := fun W hW => HI1.out W (below_trans HB0.out (Nat.le_refl _) hW)
  have e1 : ∀ w, (Op.stringOp .add ((⟨#[119, 104, 105, 108, 101, 32, 40, 32]⟩ : ByteArray)) X).run Tryd.prog w = .ok (.string ((⟨#[119, 104, 105, 108, 101, 32, 40, 32]⟩ : ByteArray) ++ X)) w := fun w => run_string_add_sum w _ _ (by (try simp only [ByteArray.size_append]); have : (⟨#[119, 104, 105, 108, 101, 32, 40, 32]⟩ : ByteArray).size = 8 := rfl; have : (⟨#[32, 41, 32]⟩ : ByteArray).size = 3 := rfl; omega)
  have e2 : ∀ w, (Op.stringOp .add ((⟨#[119, 104, 105, 108, 101, 32, 40, 32]⟩ : ByteArray) ++ X) (⟨#[32, 41, 32]⟩ : ByteArray)).run Tryd.prog w = .ok (.string ((⟨#[119, 104, 105, 108, 101, 32, 40, 32]⟩ : ByteArray) ++ X ++ (⟨#[32, 41, 32]⟩ : ByteArray))) w := fun w => run_string_add_sum w _ _ (by (try simp only [ByteArray.size_append]); have : (⟨#[119, 104, 105, 108, 101, 32, 40, 32]⟩ : ByteArray).size = 8 := rfl; have : (⟨#[32, 41, 32]⟩ : ByteArray).size = 3 := rfl; omega)
  have e3 : ∀ w, (Op.stringOp .add ((⟨#[119, 104, 105, 108, 101, 32, 40, 32]⟩ : ByteArray) ++ X ++ (⟨#[32, 41, 32]⟩ : ByteArray)) Y).run Tryd.prog w = .ok (.string ((⟨#[119, 104, 105, 108, 101, 32, 40, 32]⟩ : ByteArray) ++ X ++ (⟨#[32, 41, 32]⟩ : ByteArray) ++ Y)) w := fun w => run_string_add_sum w _ _ (by (try simp only [ByteArray.size_append]); have : (⟨#[119, 104, 105, 108, 101, 32, 40, 32]⟩ : ByteArray).size = 8 := rfl; have : (⟨#[32, 41, 32]⟩ : ByteArray).size = 3 := rfl; omega)
  have q := HQ.out
  have hc := HC.out
  have hd := HD.out
  have hm1 := HM1.out
  have hn1 := HN1.out
  go_region_held3 (fun W => Below w1.heap.size w1 W ∧ (W.cell? ⟨w.heap.size, 0, none⟩ = some (.int .i64 17) ∧ W.cell? ⟨w.heap.size, 1, none⟩ = some (.string n.t) ∧ W.cell? ⟨w.heap.size, 2, none⟩ = some (.int .i64 n.num) ∧ W.cell? ⟨w.heap.size, 3, none⟩ = some (.slice (some ⟨b0, o0, none⟩) 2 c)) ∧ (W.cell? ⟨b0, o0, none⟩ = some (.int .i64 x.k) ∧ W.cell? ⟨b0, o0 + 1, none⟩ = some (.string x.t) ∧ W.cell? ⟨b0, o0 + 2, none⟩ = some (.int .i64 x.num) ∧ W.cell? ⟨b0, o0 + 3, none⟩ = some (.slice A0 x.kids.length c0)) ∧ W.cell? ⟨b0, o0 + 4, none⟩ = some (.int .i64 y.k) ∧ W.cell? ⟨b0, o0 + 4 + 1, none⟩ = some (.string y.t) ∧ W.cell? ⟨b0, o0 + 4 + 2, none⟩ = some (.int .i64 y.num) ∧ W.cell? ⟨b0, o0 + 4 + 3, none⟩ = some (.slice A1 y.kids.length c1)) (first | exact ⟨(Below.refl _ _).drew, q, hc, hd⟩ | exact keepS2 hm1 hn1 hn1 (by assumption) hbq | exact ⟨Below.drew (And.left (by assumption)), And.right (by assumption)⟩ | go_keep) (first | (go_at_call 14; ((with_reducible refine (HI2.out _ (And.left (by assumption))).mono ?_); rintro e w' ⟨rfl, hbq⟩)) | (go_at_call 14; ((with_reducible refine (HI3.out _ (And.left (by assumption))).mono ?_); rintro e w' ⟨rfl, hbq⟩)))
  all_goals
    rename_i hh
    have B1 := Lib.hid (below_trans HB0.out (Nat.le_refl _) hh.1)
    go_wp2
    go_ret
    exact ⟨by rw [← HV.out]; rfl, B1.out⟩
theorem three_kids {n : Nd} (h : n.kids.length = 3) : ∃ x y z, n.kids = [x, y, z] := by
  rcases hk : n.kids with _ | ⟨x, _ | ⟨y, _ | ⟨z, _ | ⟨u, l⟩⟩⟩⟩ <;> rw [hk] at h <;> simp at h
  exact ⟨x, y, z, rfl⟩
theorem show_16_3 (n : Nd) (f : Bool) (h : isN n f = true) (hm : many n ≤ 700) (hk : n.k = 16) (hl0 : n.kids.length = 3) (IH : ∀ m ∈ n.kids, ShwOk m) : ShwOk n := by
  intro cs w hr
  obtain ⟨A, c, rfl, hR, hcap, hlm, hn64, hts⟩ := hr.four
  have hsh : shp n.k = some ⟨false, 0, 2, 3⟩ := by rw [hk]; rfl
  obtain ⟨hl, hl2⟩ := kids_at h hsh
  simp only at hl hl2
  obtain ⟨x, y, z, hkids⟩ := three_kids (n := n) hl0
  obtain ⟨b0, o0, A0, c0, hA0, hbl0, p0, HI0, hs0, hne0⟩ := kid_here h hm IH hR (i := 0) (x := x) (by rw [hkids]; rfl)
  simp only [Nat.zero_mul, Nat.add_zero] at p0
  obtain ⟨b1, o1, A1, c1, hA1, hbl1, p1, HI1, hs1, hne1⟩ := kid_here h hm IH hR (i := 1) (x := y) (by rw [hkids]; rfl)
  simp only [Nat.one_mul] at p1
  obtain ⟨b2, o2, A2, c2, hA2, hbl2, p2, HI2, hs2, hne2⟩ := kid_here h hm IH hR (i := 2) (x := z) (by rw [hkids]; rfl)
  simp only [Nat.reduceMul] at p2
  subst hA0
  injection hA1 with hA1
  injection hA1 with e1 e2
  subst e1 e2
  injection hA2 with hA2
  injection hA2 with e1 e2
  subst e1 e2
  have hV2 : (⟨#[105, 102, 32, 40, 32]⟩ : ByteArray) ++ sB (shw x) ++ (⟨#[32, 41, 32]⟩ : ByteArray) ++ sB (shw y) ++ (⟨#[32, 101, 108, 115, 101, 32]⟩ : ByteArray) ++ sB (shw z) = sB (shw n) := by
    have hV := txt_if3 hk hkids hne0 hne1 hne2
    rw [← hV, ← ByteArray.append_assoc]
  have HV := Lib.hid hV2
  have hts2 : n.t.size ≤ 20 := by rw [text_none h hsh rfl]; omega
  obtain ⟨T, HT⟩ : ∃ T, Hid (sB (shw n) = T) := ⟨_, rfl⟩
  have hln : n.kids.length = 3 := by rw [hkids]; rfl
  have hb0 : Below w.heap.size w (w.alloc (.cells #[.int .i64 16, .string n.t, .int .i64 n.num, .slice (some ⟨b0, o0, none⟩) 3 c] 24)) := by (repeat (first | with_reducible assumption | with_reducible exact Below.refl _ _ | (refine Below.setCell ?_ (by first | omega | (simp; done) | (simp; omega)) _) | (refine Below.drewN_ ?_ _) | (refine Below.drew ?_) | (refine Below.alloc ?_ (by first | omega | (simp; done) | (simp; omega)) _)))
  have HB0 := Lib.hid hb0
  rw [HT.out] at HV ⊢
  rw [hln, hk]
  clear hV2 hl0
  clear h hm IH hR hkids hne0 hne1 hne2 hk hsh hl hl2 hr hb0 hln hcap hlm hts HT
  generalize sB (shw x) = X at *
  generalize sB (shw y) = Y at *
  generalize sB (shw z) = Z at *
  have kq := Blk.new_ w 24 #[.int .i64 16, .string n.t, .int .i64 n.num, .slice (some ⟨b0, o0, none⟩) 3 c]
  have q : ((w.alloc (.cells #[.int .i64 16, .string n.t, .int .i64 n.num, .slice (some ⟨b0, o0, none⟩) 3 c] 24)).cell? ⟨w.heap.size, 0, none⟩ = some (.int .i64 16) ∧ (w.alloc (.cells #[.int .i64 16, .string n.t, .int .i64 n.num, .slice (some ⟨b0, o0, none⟩) 3 c] 24)).cell? ⟨w.heap.size, 1, none⟩ = some (.string n.t) ∧ (w.alloc (.cells #[.int .i64 16, .string n.t, .int .i64 n.num, .slice (some ⟨b0, o0, none⟩) 3 c] 24)).cell? ⟨w.heap.size, 2, none⟩ = some (.int .i64 n.num) ∧ (w.alloc (.cells #[.int .i64 16, .string n.t, .int .i64 n.num, .slice (some ⟨b0, o0, none⟩) 3 c] 24)).cell? ⟨w.heap.size, 3, none⟩ = some (.slice (some ⟨b0, o0, none⟩) 3 c)) := ⟨kq.cell 0 _ rfl, kq.cell 1 _ rfl, kq.cell 2 _ rfl, kq.cell 3 _ rfl⟩
  have HQ := Lib.hid q
  have HC := Lib.hid (keep4 HB0.out hbl0 p0)
  have HD := Lib.hid (keep4 HB0.out hbl0 p1)
  have HE := Lib.hid (keep4 HB0.out hbl0 p2)
  have HM1 := Lib.hid kq.lt
  have HN1 := Lib.hid (Nat.lt_trans hbl0 kq.lt)
  clear q kq p0 p1 p2 hbl0 hbl1 hbl2
  go_enter Tryd.func14, Tryd.ntmps14
  go_wp2_with fail
  generalize (w.alloc (.cells #[.int .i64 16, .string n.t, .int .i64 n.num, .slice (some ⟨b0, o0, none⟩) 3 c] 24)) = w1 at *
  have HK2 : Hid (∀ W, Below w1.heap.size w1 W → Calls Tryd.prog 14 #[.agg #[.int .i64 x.k, .string x.t, .int .i64 x.num, .slice A0 x.kids.length c0]] W fun e w' => e = .returned (.string X) ∧ Below W.heap.size W w') := fun W hW => HI0.out W (below_trans HB0.out (Nat.le_refl _) hW)
  have HK3 : Hid (∀ W, Below w1.heap.size w1 W → Calls Tryd.prog 14 #[.agg #[.int .i64 y.k, .string y.t, .int .i64 y.num, .slice A1 y.kids.length c1]] W fun e w' => e = .returned (.string Y) ∧ Below W.heap.size W w') := fun W hW => HI1.out W (below_trans HB0.out (Nat.le_refl _) hW)
  have e1 : ∀ w, (Op.stringOp .add ((⟨#[105, 102, 32, 40, 32]⟩ : ByteArray)) X).run Tryd.prog w = .ok (.string ((⟨#[105, 102, 32, 40, 32]⟩ : ByteArray) ++ X)) w := fun w => run_string_add_sum w _ _ (by (try simp only [ByteArray.size_append]); have : (⟨#[105, 102, 32, 40, 32]⟩ : ByteArray).size = 5 := rfl; have : (⟨#[32, 41, 32]⟩ : ByteArray).size = 3 := rfl; omega)
  have e2 : ∀ w, (Op.stringOp .add ((⟨#[105, 102, 32, 40, 32]⟩ : ByteArray) ++ X) (⟨#[32, 41, 32]⟩ : ByteArray)).run Tryd.prog w = .ok (.string ((⟨#[105, 102, 32, 40, 32]⟩ : ByteArray) ++ X ++ (⟨#[32, 41, 32]⟩ : ByteArray))) w := fun w => run_string_add_sum w _ _ (by (try simp only [ByteArray.size_append]); have : (⟨#[105, 102, 32, 40, 32]⟩ : ByteArray).size = 5 := rfl; have : (⟨#[32, 41, 32]⟩ : ByteArray).size = 3 := rfl; omega)
  have e3 : ∀ w, (Op.stringOp .add ((⟨#[105, 102, 32, 40, 32]⟩ : ByteArray) ++ X ++ (⟨#[32, 41, 32]⟩ : ByteArray)) Y).run Tryd.prog w = .ok (.string ((⟨#[105, 102, 32, 40, 32]⟩ : ByteArray) ++ X ++ (⟨#[32, 41, 32]⟩ : ByteArray) ++ Y)) w := fun w => run_string_add_sum w _ _ (by (try simp only [ByteArray.size_append]); have : (⟨#[105, 102, 32, 40, 32]⟩ : ByteArray).size = 5 := rfl; have : (⟨#[32, 41, 32]⟩ : ByteArray).size = 3 := rfl; omega)
  have q := HQ.out
  have hc := HC.out
  have hd := HD.out
  have hm1 := HM1.out
  have hn1 := HN1.out
  go_region_held3 (fun W => Below w1.heap.size w1 W ∧ (W.cell? ⟨w.heap.size, 0, none⟩ = some (.int .i64 16) ∧ W.cell? ⟨w.heap.size, 1, none⟩ = some (.string n.t) ∧ W.cell? ⟨w.heap.size, 2, none⟩ = some (.int .i64 n.num) ∧ W.cell? ⟨w.heap.size, 3, none⟩ = some (.slice (some ⟨b0, o0, none⟩) 3 c)) ∧ (W.cell? ⟨b0, o0, none⟩ = some (.int .i64 x.k) ∧ W.cell? ⟨b0, o0 + 1, none⟩ = some (.string x.t) ∧ W.cell? ⟨b0, o0 + 2, none⟩ = some (.int .i64 x.num) ∧ W.cell? ⟨b0, o0 + 3, none⟩ = some (.slice A0 x.kids.length c0)) ∧ W.cell? ⟨b0, o0 + 4, none⟩ = some (.int .i64 y.k) ∧ W.cell? ⟨b0, o0 + 4 + 1, none⟩ = some (.string y.t) ∧ W.cell? ⟨b0, o0 + 4 + 2, none⟩ = some (.int .i64 y.num) ∧ W.cell? ⟨b0, o0 + 4 + 3, none⟩ = some (.slice A1 y.kids.length c1)) (first | exact ⟨(Below.refl _ _).drew, q, hc, hd⟩ | exact keepS2 hm1 hn1 hn1 (by assumption) hbq | exact ⟨Below.drew (And.left (by assumption)), And.right (by assumption)⟩ | go_keep) (first | (go_at_call 14; ((with_reducible refine (HK2.out _ (And.left (by assumption))).mono ?_); rintro e w' ⟨rfl, hbq⟩)) | (go_at_call 14; ((with_reducible refine (HK3.out _ (And.left (by assumption))).mono ?_); rintro e w' ⟨rfl, hbq⟩)))
  all_goals
    rename_i hh
    have B1 := Lib.hid (below_trans HB0.out (Nat.le_refl _) hh.1)
    have r1 := hh.2.1.1
    have r2 := hh.2.1.2.1
    have r3 := hh.2.1.2.2.1
    have r4 := hh.2.1.2.2.2
    obtain ⟨s1, s2, s3, s4⟩ := keep4 hh.1 hn1 HE.out
    have hsP : ((⟨#[105, 102, 32, 40, 32]⟩ : ByteArray) ++ X ++ (⟨#[32, 41, 32]⟩ : ByteArray) ++ Y).size ≤ 400010 := by
      simp only [ByteArray.size_append]
      have : (⟨#[105, 102, 32, 40, 32]⟩ : ByteArray).size = 5 := rfl
      have : (⟨#[32, 41, 32]⟩ : ByteArray).size = 3 := rfl
      omega
    generalize (⟨#[105, 102, 32, 40, 32]⟩ : ByteArray) ++ X ++ (⟨#[32, 41, 32]⟩ : ByteArray) ++ Y = P at *
    clear q hc hd hh hbq
    go_wp2_with fail
    refine (HI2.out _ B1.out).mono ?_
    rintro e wz ⟨rfl, hbz⟩
    have BZ := Lib.hid (below_trans B1.out (Nat.le_refl _) hbz)
    clear hbz r1 r2 r3 r4 s1 s2 s3 s4
    go_wp2
    go_ret
    exact ⟨by rw [← HV.out]; rfl, BZ.out⟩
theorem show_32_n (n : Nd) (f : Bool) (h : isN n f = true) (hm : many n ≤ 700) (hk : n.k = 32) (hb : sgnB n.num = -1) (IH : ∀ m ∈ n.kids, ShwOk m) : ShwOk n := by
  intro cs w hr
  obtain ⟨A, c, rfl, hR, hcap, hlm, hn64, hts⟩ := hr.four
  have hsh : shp n.k = some ⟨false, 12, 2, 2⟩ := by rw [hk]; rfl
  obtain ⟨hl, hl2⟩ := kids_at h hsh
  simp only at hl hl2
  obtain ⟨x, y, hkids⟩ := two_kids (n := n) (by omega)
  obtain ⟨b0, o0, A0, c0, hA0, hbl0, p0, HI0, hs0, hne0⟩ := kid_at h hm IH hR (i := 0) (x := x) (by rw [hkids]; rfl) 1
  simp only [Nat.zero_mul, Nat.add_zero] at p0
  obtain ⟨b1, o1, A1, c1, hA1, hbl1, p1, HI1, hs1, hne1⟩ := kid_at h hm IH hR (i := 1) (x := y) (by rw [hkids]; rfl) 0
  simp only [Nat.one_mul] at p1
  subst hA0
  injection hA1 with hA1
  injection hA1 with e1 e2
  subst e1 e2
  have hV := txt_32 hk hkids hne0 hne1
  rw [hb] at hV
  have hV2 : sB (atW 1 (bindN x) (shw x)) ++ (⟨#[32]⟩ : ByteArray) ++ sgnT n.num ++ (⟨#[32]⟩ : ByteArray) ++ sB (atW 0 (bindN y) (shw y)) = sB (shw n) := hV
  clear hV
  have HV := Lib.hid hV2
  have hG := sgnT_short n.num
  have hbn : bindN n = -1 := by unfold bindN bindK; rw [hk]; simp [hb]
  obtain ⟨T, HT⟩ : ∃ T, Hid (sB (shw n) = T) := ⟨_, rfl⟩
  have hln : n.kids.length = 2 := by rw [hkids]; rfl
  have BD := Lib.hid (fun W => bindR_any n (some ⟨b0, o0, none⟩) c W)
  have SG := Lib.hid (fun W => signOf_any n.num W)
  rw [hk, hln, hbn] at BD
  rw [HT.out] at HV ⊢
  rw [hln, hk]
  clear h hm IH hR hkids hne0 hne1 hk hsh hl hl2 hr hln hcap hlm hts HT hb hbn hV2
  generalize sB (atW 1 (bindN x) (shw x)) = X at *
  generalize sB (atW 0 (bindN y) (shw y)) = Y at *
  generalize sgnT n.num = G at *
  have wb : IntKind.i64.wrap 0 = 0 := IntWalk.i64_in _ (by omega)
  have kq := Blk.new_ w 24 #[.int .i64 32, .string n.t, .int .i64 n.num, .slice (some ⟨b0, o0, none⟩) (2) c]
  have hb0 : Below w.heap.size w (w.alloc (.cells #[.int .i64 32, .string n.t, .int .i64 n.num, .slice (some ⟨b0, o0, none⟩) (2) c] 24)) := by (repeat (first | with_reducible assumption | with_reducible exact Below.refl _ _ | (refine Below.setCell ?_ (by first | omega | (simp; done) | (simp; omega)) _) | (refine Below.drewN_ ?_ _) | (refine Below.drew ?_) | (refine Below.alloc ?_ (by first | omega | (simp; done) | (simp; omega)) _)))
  have HB0 := Lib.hid hb0
  have HQ := Lib.hid (And.intro (kq.cell 0 _ rfl) (And.intro (kq.cell 1 _ rfl) (And.intro (kq.cell 2 _ rfl) (kq.cell 3 _ rfl))))
  have HM1 := Lib.hid kq.lt
  have HC0 := Lib.hid (keep4 hb0 hbl0 p0)
  have HC1 := Lib.hid (keep4 hb0 hbl0 p1)
  have HN1 := Lib.hid (Nat.lt_trans hbl0 kq.lt)
  clear kq hb0 p0 p1 hbl0 hbl1
  go_enter Tryd.func14, Tryd.ntmps14
  go_wp2_with fail
  refine (BD.out _).mono ?_
  rintro e w9 ⟨rfl, hb9⟩
  have HB9 := Lib.hid (below_trans HB0.out (Nat.le_refl _) hb9)
  have hm1 := Nat.lt_of_lt_of_le HM1.out hb9.size
  have hn1 := Nat.lt_of_lt_of_le HN1.out hb9.size
  have q := And.intro ((keep_cell hb9 HM1.out).trans HQ.out.1) (And.intro ((keep_cell hb9 HM1.out).trans HQ.out.2.1) (And.intro ((keep_cell hb9 HM1.out).trans HQ.out.2.2.1) ((keep_cell hb9 HM1.out).trans HQ.out.2.2.2)))
  have hc0 := keep4 hb9 HN1.out HC0.out
  have hc1 := keep4 hb9 HN1.out HC1.out
  have q00 := q.1
  clear hb9 HM1 HN1 HQ HC0 HC1
  have HQ := Lib.hid q
  have HC0 := Lib.hid hc0
  have HC1 := Lib.hid hc1
  have HM1 := Lib.hid hm1
  have HN1 := Lib.hid hn1
  clear q hc0 hc1 hm1 hn1
  go_wp2_with fail
  have HI2 : Hid (∀ W, Below w9.heap.size w9 W → Calls Tryd.prog 38 #[.agg #[.int .i64 x.k, .string x.t, .int .i64 x.num, .slice A0 x.kids.length c0], .int .i64 (max (-1) 1)] W fun e w' => e = .returned (.string X) ∧ Below W.heap.size W w') := fun W hW => HI0.out W (below_trans HB9.out (Nat.le_refl _) hW)
  have HI3 : Hid (∀ W, Below w9.heap.size w9 W → Calls Tryd.prog 38 #[.agg #[.int .i64 y.k, .string y.t, .int .i64 y.num, .slice A1 y.kids.length c1], .int .i64 0] W fun e w' => e = .returned (.string Y) ∧ Below W.heap.size W w') := fun W hW => HI1.out W (below_trans HB9.out (Nat.le_refl _) hW)
  have SG2 : Hid (∀ W, Below w9.heap.size w9 W → Calls Tryd.prog 30 #[.int .i64 n.num] W fun e w' => e = .returned (.string G) ∧ Below W.heap.size W w') := fun W _ => SG.out W
  have e1 : ∀ w, (Op.stringOp .add (X) (⟨#[32]⟩ : ByteArray)).run Tryd.prog w = .ok (.string (X ++ (⟨#[32]⟩ : ByteArray))) w := fun w => run_string_add_sum w _ _ (by (try simp only [ByteArray.size_append]); have : (⟨#[32]⟩ : ByteArray).size = 1 := rfl; have : (⟨#[32]⟩ : ByteArray).size = 1 := rfl; omega)
  have e2 : ∀ w, (Op.stringOp .add (X ++ (⟨#[32]⟩ : ByteArray)) G).run Tryd.prog w = .ok (.string (X ++ (⟨#[32]⟩ : ByteArray) ++ G)) w := fun w => run_string_add_sum w _ _ (by (try simp only [ByteArray.size_append]); have : (⟨#[32]⟩ : ByteArray).size = 1 := rfl; have : (⟨#[32]⟩ : ByteArray).size = 1 := rfl; omega)
  have e3 : ∀ w, (Op.stringOp .add (X ++ (⟨#[32]⟩ : ByteArray) ++ G) (⟨#[32]⟩ : ByteArray)).run Tryd.prog w = .ok (.string (X ++ (⟨#[32]⟩ : ByteArray) ++ G ++ (⟨#[32]⟩ : ByteArray))) w := fun w => run_string_add_sum w _ _ (by (try simp only [ByteArray.size_append]); have : (⟨#[32]⟩ : ByteArray).size = 1 := rfl; have : (⟨#[32]⟩ : ByteArray).size = 1 := rfl; omega)
  have e4 : ∀ w, (Op.stringOp .add (X ++ (⟨#[32]⟩ : ByteArray) ++ G ++ (⟨#[32]⟩ : ByteArray)) Y).run Tryd.prog w = .ok (.string (X ++ (⟨#[32]⟩ : ByteArray) ++ G ++ (⟨#[32]⟩ : ByteArray) ++ Y)) w := fun w => run_string_add_sum w _ _ (by (try simp only [ByteArray.size_append]); have : (⟨#[32]⟩ : ByteArray).size = 1 := rfl; have : (⟨#[32]⟩ : ByteArray).size = 1 := rfl; omega)
  have q := HQ.out
  have hc0 := HC0.out
  have hc1 := HC1.out
  have hm1 := HM1.out
  have hn1 := HN1.out
  go_region_held3 (fun W => Below w9.heap.size w9 W ∧ (W.cell? ⟨w.heap.size, 0, none⟩ = some (.int .i64 32) ∧ W.cell? ⟨w.heap.size, 1, none⟩ = some (.string n.t) ∧ W.cell? ⟨w.heap.size, 2, none⟩ = some (.int .i64 n.num) ∧ W.cell? ⟨w.heap.size, 3, none⟩ = some (.slice (some ⟨b0, o0, none⟩) (2) c)) ∧ (W.cell? ⟨b0, o0, none⟩ = some (.int .i64 x.k) ∧ W.cell? ⟨b0, o0 + 1, none⟩ = some (.string x.t) ∧ W.cell? ⟨b0, o0 + 2, none⟩ = some (.int .i64 x.num) ∧ W.cell? ⟨b0, o0 + 3, none⟩ = some (.slice A0 x.kids.length c0)) ∧ W.cell? ⟨b0, o0 + 4, none⟩ = some (.int .i64 y.k) ∧ W.cell? ⟨b0, o0 + 4 + 1, none⟩ = some (.string y.t) ∧ W.cell? ⟨b0, o0 + 4 + 2, none⟩ = some (.int .i64 y.num) ∧ W.cell? ⟨b0, o0 + 4 + 3, none⟩ = some (.slice A1 y.kids.length c1)) (first | exact ⟨(Below.refl _ _).drew, q, hc0, hc1⟩ | exact keepS2 hm1 hn1 hn1 (by assumption) hbq | exact ⟨Below.drew (And.left (by assumption)), And.right (by assumption)⟩ | go_keep) (first | (go_at_call 38; ((with_reducible refine (HI2.out _ (And.left (by assumption))).mono ?_); rintro e w' ⟨rfl, hbq⟩)) | (go_at_call 38; ((with_reducible refine (HI3.out _ (And.left (by assumption))).mono ?_); rintro e w' ⟨rfl, hbq⟩)) | (go_at_call 30; ((with_reducible refine (SG2.out _ (And.left (by assumption))).mono ?_); rintro e w' ⟨rfl, hbq⟩)))
  all_goals
    rename_i hh
    have B1 := Lib.hid (below_trans HB9.out (Nat.le_refl _) hh.1)
    go_wp2
    go_ret
    exact ⟨by rw [← HV.out]; rfl, B1.out⟩
theorem show_32_0 (n : Nd) (f : Bool) (h : isN n f = true) (hm : many n ≤ 700) (hk : n.k = 32) (hb : sgnB n.num = 0) (IH : ∀ m ∈ n.kids, ShwOk m) : ShwOk n := by
  intro cs w hr
  obtain ⟨A, c, rfl, hR, hcap, hlm, hn64, hts⟩ := hr.four
  have hsh : shp n.k = some ⟨false, 12, 2, 2⟩ := by rw [hk]; rfl
  obtain ⟨hl, hl2⟩ := kids_at h hsh
  simp only at hl hl2
  obtain ⟨x, y, hkids⟩ := two_kids (n := n) (by omega)
  obtain ⟨b0, o0, A0, c0, hA0, hbl0, p0, HI0, hs0, hne0⟩ := kid_at h hm IH hR (i := 0) (x := x) (by rw [hkids]; rfl) 1
  simp only [Nat.zero_mul, Nat.add_zero] at p0
  obtain ⟨b1, o1, A1, c1, hA1, hbl1, p1, HI1, hs1, hne1⟩ := kid_at h hm IH hR (i := 1) (x := y) (by rw [hkids]; rfl) 1
  simp only [Nat.one_mul] at p1
  subst hA0
  injection hA1 with hA1
  injection hA1 with e1 e2
  subst e1 e2
  have hV := txt_32 hk hkids hne0 hne1
  rw [hb] at hV
  have hV2 : sB (atW 1 (bindN x) (shw x)) ++ (⟨#[32]⟩ : ByteArray) ++ sgnT n.num ++ (⟨#[32]⟩ : ByteArray) ++ sB (atW 1 (bindN y) (shw y)) = sB (shw n) := hV
  clear hV
  have HV := Lib.hid hV2
  have hG := sgnT_short n.num
  have hbn : bindN n = 0 := by unfold bindN bindK; rw [hk]; simp [hb]
  obtain ⟨T, HT⟩ : ∃ T, Hid (sB (shw n) = T) := ⟨_, rfl⟩
  have hln : n.kids.length = 2 := by rw [hkids]; rfl
  have BD := Lib.hid (fun W => bindR_any n (some ⟨b0, o0, none⟩) c W)
  have SG := Lib.hid (fun W => signOf_any n.num W)
  rw [hk, hln, hbn] at BD
  rw [HT.out] at HV ⊢
  rw [hln, hk]
  clear h hm IH hR hkids hne0 hne1 hk hsh hl hl2 hr hln hcap hlm hts HT hb hbn hV2
  generalize sB (atW 1 (bindN x) (shw x)) = X at *
  generalize sB (atW 1 (bindN y) (shw y)) = Y at *
  generalize sgnT n.num = G at *
  have wb : IntKind.i64.wrap 1 = 1 := IntWalk.i64_in _ (by omega)
  have kq := Blk.new_ w 24 #[.int .i64 32, .string n.t, .int .i64 n.num, .slice (some ⟨b0, o0, none⟩) (2) c]
  have hb0 : Below w.heap.size w (w.alloc (.cells #[.int .i64 32, .string n.t, .int .i64 n.num, .slice (some ⟨b0, o0, none⟩) (2) c] 24)) := by (repeat (first | with_reducible assumption | with_reducible exact Below.refl _ _ | (refine Below.setCell ?_ (by first | omega | (simp; done) | (simp; omega)) _) | (refine Below.drewN_ ?_ _) | (refine Below.drew ?_) | (refine Below.alloc ?_ (by first | omega | (simp; done) | (simp; omega)) _)))
  have HB0 := Lib.hid hb0
  have HQ := Lib.hid (And.intro (kq.cell 0 _ rfl) (And.intro (kq.cell 1 _ rfl) (And.intro (kq.cell 2 _ rfl) (kq.cell 3 _ rfl))))
  have HM1 := Lib.hid kq.lt
  have HC0 := Lib.hid (keep4 hb0 hbl0 p0)
  have HC1 := Lib.hid (keep4 hb0 hbl0 p1)
  have HN1 := Lib.hid (Nat.lt_trans hbl0 kq.lt)
  clear kq hb0 p0 p1 hbl0 hbl1
  go_enter Tryd.func14, Tryd.ntmps14
  go_wp2_with fail
  refine (BD.out _).mono ?_
  rintro e w9 ⟨rfl, hb9⟩
  have HB9 := Lib.hid (below_trans HB0.out (Nat.le_refl _) hb9)
  have hm1 := Nat.lt_of_lt_of_le HM1.out hb9.size
  have hn1 := Nat.lt_of_lt_of_le HN1.out hb9.size
  have q := And.intro ((keep_cell hb9 HM1.out).trans HQ.out.1) (And.intro ((keep_cell hb9 HM1.out).trans HQ.out.2.1) (And.intro ((keep_cell hb9 HM1.out).trans HQ.out.2.2.1) ((keep_cell hb9 HM1.out).trans HQ.out.2.2.2)))
  have hc0 := keep4 hb9 HN1.out HC0.out
  have hc1 := keep4 hb9 HN1.out HC1.out
  have q00 := q.1
  clear hb9 HM1 HN1 HQ HC0 HC1
  have HQ := Lib.hid q
  have HC0 := Lib.hid hc0
  have HC1 := Lib.hid hc1
  have HM1 := Lib.hid hm1
  have HN1 := Lib.hid hn1
  clear q hc0 hc1 hm1 hn1
  go_wp2_with fail
  have HI2 : Hid (∀ W, Below w9.heap.size w9 W → Calls Tryd.prog 38 #[.agg #[.int .i64 x.k, .string x.t, .int .i64 x.num, .slice A0 x.kids.length c0], .int .i64 (max 0 1)] W fun e w' => e = .returned (.string X) ∧ Below W.heap.size W w') := fun W hW => HI0.out W (below_trans HB9.out (Nat.le_refl _) hW)
  have HI3 : Hid (∀ W, Below w9.heap.size w9 W → Calls Tryd.prog 38 #[.agg #[.int .i64 y.k, .string y.t, .int .i64 y.num, .slice A1 y.kids.length c1], .int .i64 1] W fun e w' => e = .returned (.string Y) ∧ Below W.heap.size W w') := fun W hW => HI1.out W (below_trans HB9.out (Nat.le_refl _) hW)
  have SG2 : Hid (∀ W, Below w9.heap.size w9 W → Calls Tryd.prog 30 #[.int .i64 n.num] W fun e w' => e = .returned (.string G) ∧ Below W.heap.size W w') := fun W _ => SG.out W
  have e1 : ∀ w, (Op.stringOp .add (X) (⟨#[32]⟩ : ByteArray)).run Tryd.prog w = .ok (.string (X ++ (⟨#[32]⟩ : ByteArray))) w := fun w => run_string_add_sum w _ _ (by (try simp only [ByteArray.size_append]); have : (⟨#[32]⟩ : ByteArray).size = 1 := rfl; have : (⟨#[32]⟩ : ByteArray).size = 1 := rfl; omega)
  have e2 : ∀ w, (Op.stringOp .add (X ++ (⟨#[32]⟩ : ByteArray)) G).run Tryd.prog w = .ok (.string (X ++ (⟨#[32]⟩ : ByteArray) ++ G)) w := fun w => run_string_add_sum w _ _ (by (try simp only [ByteArray.size_append]); have : (⟨#[32]⟩ : ByteArray).size = 1 := rfl; have : (⟨#[32]⟩ : ByteArray).size = 1 := rfl; omega)
  have e3 : ∀ w, (Op.stringOp .add (X ++ (⟨#[32]⟩ : ByteArray) ++ G) (⟨#[32]⟩ : ByteArray)).run Tryd.prog w = .ok (.string (X ++ (⟨#[32]⟩ : ByteArray) ++ G ++ (⟨#[32]⟩ : ByteArray))) w := fun w => run_string_add_sum w _ _ (by (try simp only [ByteArray.size_append]); have : (⟨#[32]⟩ : ByteArray).size = 1 := rfl; have : (⟨#[32]⟩ : ByteArray).size = 1 := rfl; omega)
  have e4 : ∀ w, (Op.stringOp .add (X ++ (⟨#[32]⟩ : ByteArray) ++ G ++ (⟨#[32]⟩ : ByteArray)) Y).run Tryd.prog w = .ok (.string (X ++ (⟨#[32]⟩ : ByteArray) ++ G ++ (⟨#[32]⟩ : ByteArray) ++ Y)) w := fun w => run_string_add_sum w _ _ (by (try simp only [ByteArray.size_append]); have : (⟨#[32]⟩ : ByteArray).size = 1 := rfl; have : (⟨#[32]⟩ : ByteArray).size = 1 := rfl; omega)
  have q := HQ.out
  have hc0 := HC0.out
  have hc1 := HC1.out
  have hm1 := HM1.out
  have hn1 := HN1.out
  go_region_held3 (fun W => Below w9.heap.size w9 W ∧ (W.cell? ⟨w.heap.size, 0, none⟩ = some (.int .i64 32) ∧ W.cell? ⟨w.heap.size, 1, none⟩ = some (.string n.t) ∧ W.cell? ⟨w.heap.size, 2, none⟩ = some (.int .i64 n.num) ∧ W.cell? ⟨w.heap.size, 3, none⟩ = some (.slice (some ⟨b0, o0, none⟩) (2) c)) ∧ (W.cell? ⟨b0, o0, none⟩ = some (.int .i64 x.k) ∧ W.cell? ⟨b0, o0 + 1, none⟩ = some (.string x.t) ∧ W.cell? ⟨b0, o0 + 2, none⟩ = some (.int .i64 x.num) ∧ W.cell? ⟨b0, o0 + 3, none⟩ = some (.slice A0 x.kids.length c0)) ∧ W.cell? ⟨b0, o0 + 4, none⟩ = some (.int .i64 y.k) ∧ W.cell? ⟨b0, o0 + 4 + 1, none⟩ = some (.string y.t) ∧ W.cell? ⟨b0, o0 + 4 + 2, none⟩ = some (.int .i64 y.num) ∧ W.cell? ⟨b0, o0 + 4 + 3, none⟩ = some (.slice A1 y.kids.length c1)) (first | exact ⟨(Below.refl _ _).drew, q, hc0, hc1⟩ | exact keepS2 hm1 hn1 hn1 (by assumption) hbq | exact ⟨Below.drew (And.left (by assumption)), And.right (by assumption)⟩ | go_keep) (first | (go_at_call 38; ((with_reducible refine (HI2.out _ (And.left (by assumption))).mono ?_); rintro e w' ⟨rfl, hbq⟩)) | (go_at_call 38; ((with_reducible refine (HI3.out _ (And.left (by assumption))).mono ?_); rintro e w' ⟨rfl, hbq⟩)) | (go_at_call 30; ((with_reducible refine (SG2.out _ (And.left (by assumption))).mono ?_); rintro e w' ⟨rfl, hbq⟩)))
  all_goals
    rename_i hh
    have B1 := Lib.hid (below_trans HB9.out (Nat.le_refl _) hh.1)
    go_wp2
    go_ret
    exact ⟨by rw [← HV.out]; rfl, B1.out⟩
theorem show_32_1 (n : Nd) (f : Bool) (h : isN n f = true) (hm : many n ≤ 700) (hk : n.k = 32) (hb : sgnB n.num = 1) (IH : ∀ m ∈ n.kids, ShwOk m) : ShwOk n := by
  intro cs w hr
  obtain ⟨A, c, rfl, hR, hcap, hlm, hn64, hts⟩ := hr.four
  have hsh : shp n.k = some ⟨false, 12, 2, 2⟩ := by rw [hk]; rfl
  obtain ⟨hl, hl2⟩ := kids_at h hsh
  simp only at hl hl2
  obtain ⟨x, y, hkids⟩ := two_kids (n := n) (by omega)
  obtain ⟨b0, o0, A0, c0, hA0, hbl0, p0, HI0, hs0, hne0⟩ := kid_at h hm IH hR (i := 0) (x := x) (by rw [hkids]; rfl) 1
  simp only [Nat.zero_mul, Nat.add_zero] at p0
  obtain ⟨b1, o1, A1, c1, hA1, hbl1, p1, HI1, hs1, hne1⟩ := kid_at h hm IH hR (i := 1) (x := y) (by rw [hkids]; rfl) 2
  simp only [Nat.one_mul] at p1
  subst hA0
  injection hA1 with hA1
  injection hA1 with e1 e2
  subst e1 e2
  have hV := txt_32 hk hkids hne0 hne1
  rw [hb] at hV
  have hV2 : sB (atW 1 (bindN x) (shw x)) ++ (⟨#[32]⟩ : ByteArray) ++ sgnT n.num ++ (⟨#[32]⟩ : ByteArray) ++ sB (atW 2 (bindN y) (shw y)) = sB (shw n) := hV
  clear hV
  have HV := Lib.hid hV2
  have hG := sgnT_short n.num
  have hbn : bindN n = 1 := by unfold bindN bindK; rw [hk]; simp [hb]
  obtain ⟨T, HT⟩ : ∃ T, Hid (sB (shw n) = T) := ⟨_, rfl⟩
  have hln : n.kids.length = 2 := by rw [hkids]; rfl
  have BD := Lib.hid (fun W => bindR_any n (some ⟨b0, o0, none⟩) c W)
  have SG := Lib.hid (fun W => signOf_any n.num W)
  rw [hk, hln, hbn] at BD
  rw [HT.out] at HV ⊢
  rw [hln, hk]
  clear h hm IH hR hkids hne0 hne1 hk hsh hl hl2 hr hln hcap hlm hts HT hb hbn hV2
  generalize sB (atW 1 (bindN x) (shw x)) = X at *
  generalize sB (atW 2 (bindN y) (shw y)) = Y at *
  generalize sgnT n.num = G at *
  have wb : IntKind.i64.wrap 2 = 2 := IntWalk.i64_in _ (by omega)
  have kq := Blk.new_ w 24 #[.int .i64 32, .string n.t, .int .i64 n.num, .slice (some ⟨b0, o0, none⟩) (2) c]
  have hb0 : Below w.heap.size w (w.alloc (.cells #[.int .i64 32, .string n.t, .int .i64 n.num, .slice (some ⟨b0, o0, none⟩) (2) c] 24)) := by (repeat (first | with_reducible assumption | with_reducible exact Below.refl _ _ | (refine Below.setCell ?_ (by first | omega | (simp; done) | (simp; omega)) _) | (refine Below.drewN_ ?_ _) | (refine Below.drew ?_) | (refine Below.alloc ?_ (by first | omega | (simp; done) | (simp; omega)) _)))
  have HB0 := Lib.hid hb0
  have HQ := Lib.hid (And.intro (kq.cell 0 _ rfl) (And.intro (kq.cell 1 _ rfl) (And.intro (kq.cell 2 _ rfl) (kq.cell 3 _ rfl))))
  have HM1 := Lib.hid kq.lt
  have HC0 := Lib.hid (keep4 hb0 hbl0 p0)
  have HC1 := Lib.hid (keep4 hb0 hbl0 p1)
  have HN1 := Lib.hid (Nat.lt_trans hbl0 kq.lt)
  clear kq hb0 p0 p1 hbl0 hbl1
  go_enter Tryd.func14, Tryd.ntmps14
  go_wp2_with fail
  refine (BD.out _).mono ?_
  rintro e w9 ⟨rfl, hb9⟩
  have HB9 := Lib.hid (below_trans HB0.out (Nat.le_refl _) hb9)
  have hm1 := Nat.lt_of_lt_of_le HM1.out hb9.size
  have hn1 := Nat.lt_of_lt_of_le HN1.out hb9.size
  have q := And.intro ((keep_cell hb9 HM1.out).trans HQ.out.1) (And.intro ((keep_cell hb9 HM1.out).trans HQ.out.2.1) (And.intro ((keep_cell hb9 HM1.out).trans HQ.out.2.2.1) ((keep_cell hb9 HM1.out).trans HQ.out.2.2.2)))
  have hc0 := keep4 hb9 HN1.out HC0.out
  have hc1 := keep4 hb9 HN1.out HC1.out
  have q00 := q.1
  clear hb9 HM1 HN1 HQ HC0 HC1
  have HQ := Lib.hid q
  have HC0 := Lib.hid hc0
  have HC1 := Lib.hid hc1
  have HM1 := Lib.hid hm1
  have HN1 := Lib.hid hn1
  clear q hc0 hc1 hm1 hn1
  go_wp2_with fail
  have HI2 : Hid (∀ W, Below w9.heap.size w9 W → Calls Tryd.prog 38 #[.agg #[.int .i64 x.k, .string x.t, .int .i64 x.num, .slice A0 x.kids.length c0], .int .i64 1] W fun e w' => e = .returned (.string X) ∧ Below W.heap.size W w') := fun W hW => HI0.out W (below_trans HB9.out (Nat.le_refl _) hW)
  have HI3 : Hid (∀ W, Below w9.heap.size w9 W → Calls Tryd.prog 38 #[.agg #[.int .i64 y.k, .string y.t, .int .i64 y.num, .slice A1 y.kids.length c1], .int .i64 2] W fun e w' => e = .returned (.string Y) ∧ Below W.heap.size W w') := fun W hW => HI1.out W (below_trans HB9.out (Nat.le_refl _) hW)
  have SG2 : Hid (∀ W, Below w9.heap.size w9 W → Calls Tryd.prog 30 #[.int .i64 n.num] W fun e w' => e = .returned (.string G) ∧ Below W.heap.size W w') := fun W _ => SG.out W
  have e1 : ∀ w, (Op.stringOp .add (X) (⟨#[32]⟩ : ByteArray)).run Tryd.prog w = .ok (.string (X ++ (⟨#[32]⟩ : ByteArray))) w := fun w => run_string_add_sum w _ _ (by (try simp only [ByteArray.size_append]); have : (⟨#[32]⟩ : ByteArray).size = 1 := rfl; have : (⟨#[32]⟩ : ByteArray).size = 1 := rfl; omega)
  have e2 : ∀ w, (Op.stringOp .add (X ++ (⟨#[32]⟩ : ByteArray)) G).run Tryd.prog w = .ok (.string (X ++ (⟨#[32]⟩ : ByteArray) ++ G)) w := fun w => run_string_add_sum w _ _ (by (try simp only [ByteArray.size_append]); have : (⟨#[32]⟩ : ByteArray).size = 1 := rfl; have : (⟨#[32]⟩ : ByteArray).size = 1 := rfl; omega)
  have e3 : ∀ w, (Op.stringOp .add (X ++ (⟨#[32]⟩ : ByteArray) ++ G) (⟨#[32]⟩ : ByteArray)).run Tryd.prog w = .ok (.string (X ++ (⟨#[32]⟩ : ByteArray) ++ G ++ (⟨#[32]⟩ : ByteArray))) w := fun w => run_string_add_sum w _ _ (by (try simp only [ByteArray.size_append]); have : (⟨#[32]⟩ : ByteArray).size = 1 := rfl; have : (⟨#[32]⟩ : ByteArray).size = 1 := rfl; omega)
  have e4 : ∀ w, (Op.stringOp .add (X ++ (⟨#[32]⟩ : ByteArray) ++ G ++ (⟨#[32]⟩ : ByteArray)) Y).run Tryd.prog w = .ok (.string (X ++ (⟨#[32]⟩ : ByteArray) ++ G ++ (⟨#[32]⟩ : ByteArray) ++ Y)) w := fun w => run_string_add_sum w _ _ (by (try simp only [ByteArray.size_append]); have : (⟨#[32]⟩ : ByteArray).size = 1 := rfl; have : (⟨#[32]⟩ : ByteArray).size = 1 := rfl; omega)
  have q := HQ.out
  have hc0 := HC0.out
  have hc1 := HC1.out
  have hm1 := HM1.out
  have hn1 := HN1.out
  go_region_held3 (fun W => Below w9.heap.size w9 W ∧ (W.cell? ⟨w.heap.size, 0, none⟩ = some (.int .i64 32) ∧ W.cell? ⟨w.heap.size, 1, none⟩ = some (.string n.t) ∧ W.cell? ⟨w.heap.size, 2, none⟩ = some (.int .i64 n.num) ∧ W.cell? ⟨w.heap.size, 3, none⟩ = some (.slice (some ⟨b0, o0, none⟩) (2) c)) ∧ (W.cell? ⟨b0, o0, none⟩ = some (.int .i64 x.k) ∧ W.cell? ⟨b0, o0 + 1, none⟩ = some (.string x.t) ∧ W.cell? ⟨b0, o0 + 2, none⟩ = some (.int .i64 x.num) ∧ W.cell? ⟨b0, o0 + 3, none⟩ = some (.slice A0 x.kids.length c0)) ∧ W.cell? ⟨b0, o0 + 4, none⟩ = some (.int .i64 y.k) ∧ W.cell? ⟨b0, o0 + 4 + 1, none⟩ = some (.string y.t) ∧ W.cell? ⟨b0, o0 + 4 + 2, none⟩ = some (.int .i64 y.num) ∧ W.cell? ⟨b0, o0 + 4 + 3, none⟩ = some (.slice A1 y.kids.length c1)) (first | exact ⟨(Below.refl _ _).drew, q, hc0, hc1⟩ | exact keepS2 hm1 hn1 hn1 (by assumption) hbq | exact ⟨Below.drew (And.left (by assumption)), And.right (by assumption)⟩ | go_keep) (first | (go_at_call 38; ((with_reducible refine (HI2.out _ (And.left (by assumption))).mono ?_); rintro e w' ⟨rfl, hbq⟩)) | (go_at_call 38; ((with_reducible refine (HI3.out _ (And.left (by assumption))).mono ?_); rintro e w' ⟨rfl, hbq⟩)) | (go_at_call 30; ((with_reducible refine (SG2.out _ (And.left (by assumption))).mono ?_); rintro e w' ⟨rfl, hbq⟩)))
  all_goals
    rename_i hh
    have B1 := Lib.hid (below_trans HB9.out (Nat.le_refl _) hh.1)
    go_wp2
    go_ret
    exact ⟨by rw [← HV.out]; rfl, B1.out⟩
theorem show_32_2 (n : Nd) (f : Bool) (h : isN n f = true) (hm : many n ≤ 700) (hk : n.k = 32) (hb : sgnB n.num = 2) (IH : ∀ m ∈ n.kids, ShwOk m) : ShwOk n := by
  intro cs w hr
  obtain ⟨A, c, rfl, hR, hcap, hlm, hn64, hts⟩ := hr.four
  have hsh : shp n.k = some ⟨false, 12, 2, 2⟩ := by rw [hk]; rfl
  obtain ⟨hl, hl2⟩ := kids_at h hsh
  simp only at hl hl2
  obtain ⟨x, y, hkids⟩ := two_kids (n := n) (by omega)
  obtain ⟨b0, o0, A0, c0, hA0, hbl0, p0, HI0, hs0, hne0⟩ := kid_at h hm IH hR (i := 0) (x := x) (by rw [hkids]; rfl) 2
  simp only [Nat.zero_mul, Nat.add_zero] at p0
  obtain ⟨b1, o1, A1, c1, hA1, hbl1, p1, HI1, hs1, hne1⟩ := kid_at h hm IH hR (i := 1) (x := y) (by rw [hkids]; rfl) 3
  simp only [Nat.one_mul] at p1
  subst hA0
  injection hA1 with hA1
  injection hA1 with e1 e2
  subst e1 e2
  have hV := txt_32 hk hkids hne0 hne1
  rw [hb] at hV
  have hV2 : sB (atW 2 (bindN x) (shw x)) ++ (⟨#[32]⟩ : ByteArray) ++ sgnT n.num ++ (⟨#[32]⟩ : ByteArray) ++ sB (atW 3 (bindN y) (shw y)) = sB (shw n) := hV
  clear hV
  have HV := Lib.hid hV2
  have hG := sgnT_short n.num
  have hbn : bindN n = 2 := by unfold bindN bindK; rw [hk]; simp [hb]
  obtain ⟨T, HT⟩ : ∃ T, Hid (sB (shw n) = T) := ⟨_, rfl⟩
  have hln : n.kids.length = 2 := by rw [hkids]; rfl
  have BD := Lib.hid (fun W => bindR_any n (some ⟨b0, o0, none⟩) c W)
  have SG := Lib.hid (fun W => signOf_any n.num W)
  rw [hk, hln, hbn] at BD
  rw [HT.out] at HV ⊢
  rw [hln, hk]
  clear h hm IH hR hkids hne0 hne1 hk hsh hl hl2 hr hln hcap hlm hts HT hb hbn hV2
  generalize sB (atW 2 (bindN x) (shw x)) = X at *
  generalize sB (atW 3 (bindN y) (shw y)) = Y at *
  generalize sgnT n.num = G at *
  have wb : IntKind.i64.wrap 3 = 3 := IntWalk.i64_in _ (by omega)
  have kq := Blk.new_ w 24 #[.int .i64 32, .string n.t, .int .i64 n.num, .slice (some ⟨b0, o0, none⟩) (2) c]
  have hb0 : Below w.heap.size w (w.alloc (.cells #[.int .i64 32, .string n.t, .int .i64 n.num, .slice (some ⟨b0, o0, none⟩) (2) c] 24)) := by (repeat (first | with_reducible assumption | with_reducible exact Below.refl _ _ | (refine Below.setCell ?_ (by first | omega | (simp; done) | (simp; omega)) _) | (refine Below.drewN_ ?_ _) | (refine Below.drew ?_) | (refine Below.alloc ?_ (by first | omega | (simp; done) | (simp; omega)) _)))
  have HB0 := Lib.hid hb0
  have HQ := Lib.hid (And.intro (kq.cell 0 _ rfl) (And.intro (kq.cell 1 _ rfl) (And.intro (kq.cell 2 _ rfl) (kq.cell 3 _ rfl))))
  have HM1 := Lib.hid kq.lt
  have HC0 := Lib.hid (keep4 hb0 hbl0 p0)
  have HC1 := Lib.hid (keep4 hb0 hbl0 p1)
  have HN1 := Lib.hid (Nat.lt_trans hbl0 kq.lt)
  clear kq hb0 p0 p1 hbl0 hbl1
  go_enter Tryd.func14, Tryd.ntmps14
  go_wp2_with fail
  refine (BD.out _).mono ?_
  rintro e w9 ⟨rfl, hb9⟩
  have HB9 := Lib.hid (below_trans HB0.out (Nat.le_refl _) hb9)
  have hm1 := Nat.lt_of_lt_of_le HM1.out hb9.size
  have hn1 := Nat.lt_of_lt_of_le HN1.out hb9.size
  have q := And.intro ((keep_cell hb9 HM1.out).trans HQ.out.1) (And.intro ((keep_cell hb9 HM1.out).trans HQ.out.2.1) (And.intro ((keep_cell hb9 HM1.out).trans HQ.out.2.2.1) ((keep_cell hb9 HM1.out).trans HQ.out.2.2.2)))
  have hc0 := keep4 hb9 HN1.out HC0.out
  have hc1 := keep4 hb9 HN1.out HC1.out
  have q00 := q.1
  clear hb9 HM1 HN1 HQ HC0 HC1
  have HQ := Lib.hid q
  have HC0 := Lib.hid hc0
  have HC1 := Lib.hid hc1
  have HM1 := Lib.hid hm1
  have HN1 := Lib.hid hn1
  clear q hc0 hc1 hm1 hn1
  go_wp2_with fail
  have HI2 : Hid (∀ W, Below w9.heap.size w9 W → Calls Tryd.prog 38 #[.agg #[.int .i64 x.k, .string x.t, .int .i64 x.num, .slice A0 x.kids.length c0], .int .i64 (max 2 1)] W fun e w' => e = .returned (.string X) ∧ Below W.heap.size W w') := fun W hW => HI0.out W (below_trans HB9.out (Nat.le_refl _) hW)
  have HI3 : Hid (∀ W, Below w9.heap.size w9 W → Calls Tryd.prog 38 #[.agg #[.int .i64 y.k, .string y.t, .int .i64 y.num, .slice A1 y.kids.length c1], .int .i64 3] W fun e w' => e = .returned (.string Y) ∧ Below W.heap.size W w') := fun W hW => HI1.out W (below_trans HB9.out (Nat.le_refl _) hW)
  have SG2 : Hid (∀ W, Below w9.heap.size w9 W → Calls Tryd.prog 30 #[.int .i64 n.num] W fun e w' => e = .returned (.string G) ∧ Below W.heap.size W w') := fun W _ => SG.out W
  have e1 : ∀ w, (Op.stringOp .add (X) (⟨#[32]⟩ : ByteArray)).run Tryd.prog w = .ok (.string (X ++ (⟨#[32]⟩ : ByteArray))) w := fun w => run_string_add_sum w _ _ (by (try simp only [ByteArray.size_append]); have : (⟨#[32]⟩ : ByteArray).size = 1 := rfl; have : (⟨#[32]⟩ : ByteArray).size = 1 := rfl; omega)
  have e2 : ∀ w, (Op.stringOp .add (X ++ (⟨#[32]⟩ : ByteArray)) G).run Tryd.prog w = .ok (.string (X ++ (⟨#[32]⟩ : ByteArray) ++ G)) w := fun w => run_string_add_sum w _ _ (by (try simp only [ByteArray.size_append]); have : (⟨#[32]⟩ : ByteArray).size = 1 := rfl; have : (⟨#[32]⟩ : ByteArray).size = 1 := rfl; omega)
  have e3 : ∀ w, (Op.stringOp .add (X ++ (⟨#[32]⟩ : ByteArray) ++ G) (⟨#[32]⟩ : ByteArray)).run Tryd.prog w = .ok (.string (X ++ (⟨#[32]⟩ : ByteArray) ++ G ++ (⟨#[32]⟩ : ByteArray))) w := fun w => run_string_add_sum w _ _ (by (try simp only [ByteArray.size_append]); have : (⟨#[32]⟩ : ByteArray).size = 1 := rfl; have : (⟨#[32]⟩ : ByteArray).size = 1 := rfl; omega)
  have e4 : ∀ w, (Op.stringOp .add (X ++ (⟨#[32]⟩ : ByteArray) ++ G ++ (⟨#[32]⟩ : ByteArray)) Y).run Tryd.prog w = .ok (.string (X ++ (⟨#[32]⟩ : ByteArray) ++ G ++ (⟨#[32]⟩ : ByteArray) ++ Y)) w := fun w => run_string_add_sum w _ _ (by (try simp only [ByteArray.size_append]); have : (⟨#[32]⟩ : ByteArray).size = 1 := rfl; have : (⟨#[32]⟩ : ByteArray).size = 1 := rfl; omega)
  have q := HQ.out
  have hc0 := HC0.out
  have hc1 := HC1.out
  have hm1 := HM1.out
  have hn1 := HN1.out
  go_region_held3 (fun W => Below w9.heap.size w9 W ∧ (W.cell? ⟨w.heap.size, 0, none⟩ = some (.int .i64 32) ∧ W.cell? ⟨w.heap.size, 1, none⟩ = some (.string n.t) ∧ W.cell? ⟨w.heap.size, 2, none⟩ = some (.int .i64 n.num) ∧ W.cell? ⟨w.heap.size, 3, none⟩ = some (.slice (some ⟨b0, o0, none⟩) (2) c)) ∧ (W.cell? ⟨b0, o0, none⟩ = some (.int .i64 x.k) ∧ W.cell? ⟨b0, o0 + 1, none⟩ = some (.string x.t) ∧ W.cell? ⟨b0, o0 + 2, none⟩ = some (.int .i64 x.num) ∧ W.cell? ⟨b0, o0 + 3, none⟩ = some (.slice A0 x.kids.length c0)) ∧ W.cell? ⟨b0, o0 + 4, none⟩ = some (.int .i64 y.k) ∧ W.cell? ⟨b0, o0 + 4 + 1, none⟩ = some (.string y.t) ∧ W.cell? ⟨b0, o0 + 4 + 2, none⟩ = some (.int .i64 y.num) ∧ W.cell? ⟨b0, o0 + 4 + 3, none⟩ = some (.slice A1 y.kids.length c1)) (first | exact ⟨(Below.refl _ _).drew, q, hc0, hc1⟩ | exact keepS2 hm1 hn1 hn1 (by assumption) hbq | exact ⟨Below.drew (And.left (by assumption)), And.right (by assumption)⟩ | go_keep) (first | (go_at_call 38; ((with_reducible refine (HI2.out _ (And.left (by assumption))).mono ?_); rintro e w' ⟨rfl, hbq⟩)) | (go_at_call 38; ((with_reducible refine (HI3.out _ (And.left (by assumption))).mono ?_); rintro e w' ⟨rfl, hbq⟩)) | (go_at_call 30; ((with_reducible refine (SG2.out _ (And.left (by assumption))).mono ?_); rintro e w' ⟨rfl, hbq⟩)))
  all_goals
    rename_i hh
    have B1 := Lib.hid (below_trans HB9.out (Nat.le_refl _) hh.1)
    go_wp2
    go_ret
    exact ⟨by rw [← HV.out]; rfl, B1.out⟩
theorem show_32 (n : Nd) (f : Bool) (h : isN n f = true) (hm : many n ≤ 700) (hk : n.k = 32) (IH : ∀ m ∈ n.kids, ShwOk m) : ShwOk n := by
  rcases bind_vals n.num with hv | hv | hv | hv
  · exact show_32_n n f h hm hk hv IH
  · exact show_32_0 n f h hm hk hv IH
  · exact show_32_1 n f h hm hk hv IH
  · exact show_32_2 n f h hm hk hv IH
end Go.Proofs.YtgegfbopogcjpaaDoor
