/- Show of functions. -/
import Derived.Test.YtgegfbopogcjpaaDoorShwK
namespace Go.Proofs.YtgegfbopogcjpaaDoor
open Go.RowKit
set_option linter.unusedVariables false
set_option linter.unusedSimpArgs false
set_option maxRecDepth 100000
set_option maxHeartbeats 1000000
theorem show_7_0 (n : Nd) (f : Bool) (h : isN n f = true) (hm : many n ≤ 700) (hk : n.k = 7) (hnum : n.num = 0) (IH : ∀ m ∈ n.kids, ShwOk m) : ShwOk n := by
  intro cs w hr
  obtain ⟨A, c, rfl, hR, hcap, hlm, hn64, hts⟩ := hr.four
  have hsh : shp n.k = some ⟨true, 3, 2, -1⟩ := by rw [hk]; rfl
  obtain ⟨hl, hl2⟩ := kids_at h hsh
  simp only at hl hl2
  obtain ⟨l, x, y, hkids⟩ := split_last2 (l := n.kids) (by omega)
  obtain ⟨b0, o0, A0, c0, hA0, hbl0, p0, HI0, hs0, hne0⟩ := kid_here h hm IH hR (i := l.length) (x := x) (by rw [hkids]; simp)
  obtain ⟨b1, o1, A1, c1, hA1, hbl1, p1, HI1, hs1, hne1⟩ := kid_here h hm IH hR (i := l.length + 1) (x := y) (by rw [hkids]; simp)
  subst hA0
  injection hA1 with hA1
  injection hA1 with e1 e2
  subst e1 e2
  have hV := txt_7 hk hkids hne0 hne1
  rw [hnum] at hV
  rw [show statB 0 = (⟨#[]⟩ : ByteArray) from rfl] at hV
  have hV2 : (⟨#[]⟩ : ByteArray) ++ sB (shw x) ++ (⟨#[32]⟩ : ByteArray) ++ n.t ++ (⟨#[32]⟩ : ByteArray) ++ sB (rowW (l.map shw) false) ++ (⟨#[32]⟩ : ByteArray) ++ sB (shw y) = sB (shw n) := hV
  clear hV
  have hfew := kids_few hm
  have hR2 := RepNL.front hR hkids
  have hln : n.kids.length = l.length + 2 := by rw [hkids]; simp
  have hts2 : n.t.size ≤ 20 := name_short h hsh rfl
  have hRs : (sB (rowW (l.map shw) false)).size ≤ 200000 := by
    have h1 := text_le h hm
    rw [← hV2] at h1
    simp only [ByteArray.size_append] at h1
    omega
  have RW := row_here (c := c) hR2 (by omega) (fun m hm' => IH m (by rw [hkids]; simp [hm'])) (fun m hm' => kids_ne h m (by rw [hkids]; simp [hm'])) hRs
  have HV := Lib.hid hV2
  obtain ⟨T, HT⟩ : ∃ T, Hid (sB (shw n) = T) := ⟨_, rfl⟩
  have hll : l.length ≤ 700 := by omega
  rw [hln] at hcap
  rw [HT.out] at HV ⊢
  rw [hln, hk, hnum]
  clear h hm IH hR hR2 hkids hne0 hne1 hk hsh hl hl2 hr hln hlm hts HT hV2 hfew hnum hn64
  generalize sB (shw x) = X at *
  generalize sB (shw y) = Z at *
  generalize sB (rowW (l.map shw) false) = Y at *
  generalize l.length = k at *
  have kq := Blk.new_ w 24 #[.int .i64 7, .string n.t, .int .i64 0, .slice (some ⟨b0, o0, none⟩) (k + 2) c]
  have hb0 : Below w.heap.size w (w.alloc (.cells #[.int .i64 7, .string n.t, .int .i64 0, .slice (some ⟨b0, o0, none⟩) (k + 2) c] 24)) := by (repeat (first | with_reducible assumption | with_reducible exact Below.refl _ _ | (refine Below.setCell ?_ (by first | omega | (simp; done) | (simp; omega)) _) | (refine Below.drewN_ ?_ _) | (refine Below.drew ?_) | (refine Below.alloc ?_ (by first | omega | (simp; done) | (simp; omega)) _)))
  have HB0 := Lib.hid hb0
  have HQ := Lib.hid (And.intro (kq.cell 0 _ rfl) (And.intro (kq.cell 1 _ rfl) (And.intro (kq.cell 2 _ rfl) (kq.cell 3 _ rfl))))
  have HM1 := Lib.hid kq.lt
  have HC0 := Lib.hid (keep4 hb0 hbl0 p0)
  have HC1 := Lib.hid (keep4 hb0 hbl0 p1)
  have HN1 := Lib.hid (Nat.lt_trans hbl0 kq.lt)
  clear kq hb0 p0 hbl0 p1 hbl1
  have i1 : (0 : Int) ≤ (k : Int) := by omega
  have i2 : (k : Int) < (k : Int) + 2 := by omega
  have i3 : (k : Int) ≤ (c : Int) := by omega
  have i4 : (0 : Int) ≤ (k : Int) + 1 := by omega
  have i5 : (k : Int) + 1 < (k : Int) + 2 := by omega
  have i6 : (k : Int) + 2 - 1 = (k : Int) + 1 := by omega
  have i7 : IntKind.i64.wrap ((k : Int) + 1) = (k : Int) + 1 := IntWalk.i64_in _ (by omega)
  have i8 : ((k : Int) + 1).toNat = k + 1 := by omega
  have i9 : IntKind.i64.wrap (k : Int) = (k : Int) := IntWalk.i64_in _ (by omega)
  have i10 : IntKind.i64.wrap ((k : Int) + 1 - 1) = (k : Int) := by rw [Int.add_sub_cancel]; exact IntWalk.i64_in _ (by omega)
  go_enter Tryd.func14, Tryd.ntmps14
  go_wp2_with fail
  generalize (w.alloc (.cells #[.int .i64 7, .string n.t, .int .i64 0, .slice (some ⟨b0, o0, none⟩) (k + 2) c] 24)) = w1 at *
  have HI2 : Hid (∀ W, Below w1.heap.size w1 W → Calls Tryd.prog 14 #[.agg #[.int .i64 x.k, .string x.t, .int .i64 x.num, .slice A0 x.kids.length c0]] W fun e w' => e = .returned (.string X) ∧ Below W.heap.size W w') := fun W hW => HI0.out W (below_trans HB0.out (Nat.le_refl _) hW)
  have HI3 : Hid (∀ W, Below w1.heap.size w1 W → Calls Tryd.prog 14 #[.agg #[.int .i64 y.k, .string y.t, .int .i64 y.num, .slice A1 y.kids.length c1]] W fun e w' => e = .returned (.string Z) ∧ Below W.heap.size W w') := fun W hW => HI1.out W (below_trans HB0.out (Nat.le_refl _) hW)
  have RW2 : Hid (∀ W, Below w1.heap.size w1 W → Calls Tryd.prog 36 #[.slice (some ⟨b0, o0, none⟩) k c, .bool false] W fun e w' => e = .returned (.string Y) ∧ Below W.heap.size W w') := fun W hW => RW.out W (below_trans HB0.out (Nat.le_refl _) hW)
  have e1 : ∀ w, (Op.stringOp .add ((⟨#[]⟩ : ByteArray)) X).run Tryd.prog w = .ok (.string ((⟨#[]⟩ : ByteArray) ++ X)) w := fun w => run_string_add_sum w _ _ (by (try simp only [ByteArray.size_append]); have : (⟨#[]⟩ : ByteArray).size = 0 := rfl; have : (⟨#[32]⟩ : ByteArray).size = 1 := rfl; have : (⟨#[32]⟩ : ByteArray).size = 1 := rfl; have : (⟨#[32]⟩ : ByteArray).size = 1 := rfl; omega)
  have e2 : ∀ w, (Op.stringOp .add ((⟨#[]⟩ : ByteArray) ++ X) (⟨#[32]⟩ : ByteArray)).run Tryd.prog w = .ok (.string ((⟨#[]⟩ : ByteArray) ++ X ++ (⟨#[32]⟩ : ByteArray))) w := fun w => run_string_add_sum w _ _ (by (try simp only [ByteArray.size_append]); have : (⟨#[]⟩ : ByteArray).size = 0 := rfl; have : (⟨#[32]⟩ : ByteArray).size = 1 := rfl; have : (⟨#[32]⟩ : ByteArray).size = 1 := rfl; have : (⟨#[32]⟩ : ByteArray).size = 1 := rfl; omega)
  have e3 : ∀ w, (Op.stringOp .add ((⟨#[]⟩ : ByteArray) ++ X ++ (⟨#[32]⟩ : ByteArray)) n.t).run Tryd.prog w = .ok (.string ((⟨#[]⟩ : ByteArray) ++ X ++ (⟨#[32]⟩ : ByteArray) ++ n.t)) w := fun w => run_string_add_sum w _ _ (by (try simp only [ByteArray.size_append]); have : (⟨#[]⟩ : ByteArray).size = 0 := rfl; have : (⟨#[32]⟩ : ByteArray).size = 1 := rfl; have : (⟨#[32]⟩ : ByteArray).size = 1 := rfl; have : (⟨#[32]⟩ : ByteArray).size = 1 := rfl; omega)
  have e4 : ∀ w, (Op.stringOp .add ((⟨#[]⟩ : ByteArray) ++ X ++ (⟨#[32]⟩ : ByteArray) ++ n.t) (⟨#[32]⟩ : ByteArray)).run Tryd.prog w = .ok (.string ((⟨#[]⟩ : ByteArray) ++ X ++ (⟨#[32]⟩ : ByteArray) ++ n.t ++ (⟨#[32]⟩ : ByteArray))) w := fun w => run_string_add_sum w _ _ (by (try simp only [ByteArray.size_append]); have : (⟨#[]⟩ : ByteArray).size = 0 := rfl; have : (⟨#[32]⟩ : ByteArray).size = 1 := rfl; have : (⟨#[32]⟩ : ByteArray).size = 1 := rfl; have : (⟨#[32]⟩ : ByteArray).size = 1 := rfl; omega)
  have e5 : ∀ w, (Op.stringOp .add ((⟨#[]⟩ : ByteArray) ++ X ++ (⟨#[32]⟩ : ByteArray) ++ n.t ++ (⟨#[32]⟩ : ByteArray)) Y).run Tryd.prog w = .ok (.string ((⟨#[]⟩ : ByteArray) ++ X ++ (⟨#[32]⟩ : ByteArray) ++ n.t ++ (⟨#[32]⟩ : ByteArray) ++ Y)) w := fun w => run_string_add_sum w _ _ (by (try simp only [ByteArray.size_append]); have : (⟨#[]⟩ : ByteArray).size = 0 := rfl; have : (⟨#[32]⟩ : ByteArray).size = 1 := rfl; have : (⟨#[32]⟩ : ByteArray).size = 1 := rfl; have : (⟨#[32]⟩ : ByteArray).size = 1 := rfl; omega)
  have e6 : ∀ w, (Op.stringOp .add ((⟨#[]⟩ : ByteArray) ++ X ++ (⟨#[32]⟩ : ByteArray) ++ n.t ++ (⟨#[32]⟩ : ByteArray) ++ Y) (⟨#[32]⟩ : ByteArray)).run Tryd.prog w = .ok (.string ((⟨#[]⟩ : ByteArray) ++ X ++ (⟨#[32]⟩ : ByteArray) ++ n.t ++ (⟨#[32]⟩ : ByteArray) ++ Y ++ (⟨#[32]⟩ : ByteArray))) w := fun w => run_string_add_sum w _ _ (by (try simp only [ByteArray.size_append]); have : (⟨#[]⟩ : ByteArray).size = 0 := rfl; have : (⟨#[32]⟩ : ByteArray).size = 1 := rfl; have : (⟨#[32]⟩ : ByteArray).size = 1 := rfl; have : (⟨#[32]⟩ : ByteArray).size = 1 := rfl; omega)
  have e7 : ∀ w, (Op.stringOp .add ((⟨#[]⟩ : ByteArray) ++ X ++ (⟨#[32]⟩ : ByteArray) ++ n.t ++ (⟨#[32]⟩ : ByteArray) ++ Y ++ (⟨#[32]⟩ : ByteArray)) Z).run Tryd.prog w = .ok (.string ((⟨#[]⟩ : ByteArray) ++ X ++ (⟨#[32]⟩ : ByteArray) ++ n.t ++ (⟨#[32]⟩ : ByteArray) ++ Y ++ (⟨#[32]⟩ : ByteArray) ++ Z)) w := fun w => run_string_add_sum w _ _ (by (try simp only [ByteArray.size_append]); have : (⟨#[]⟩ : ByteArray).size = 0 := rfl; have : (⟨#[32]⟩ : ByteArray).size = 1 := rfl; have : (⟨#[32]⟩ : ByteArray).size = 1 := rfl; have : (⟨#[32]⟩ : ByteArray).size = 1 := rfl; omega)
  have q := HQ.out
  have hc0 := HC0.out
  have hc1 := HC1.out
  have hm1 := HM1.out
  have hn1 := HN1.out
  go_region_held3 (fun W => Below w1.heap.size w1 W ∧ (W.cell? ⟨w.heap.size, 0, none⟩ = some (.int .i64 7) ∧ W.cell? ⟨w.heap.size, 1, none⟩ = some (.string n.t) ∧ W.cell? ⟨w.heap.size, 2, none⟩ = some (.int .i64 0) ∧ W.cell? ⟨w.heap.size, 3, none⟩ = some (.slice (some ⟨b0, o0, none⟩) (k + 2) c)) ∧ (W.cell? ⟨b0, o0 + k * 4, none⟩ = some (.int .i64 x.k) ∧ W.cell? ⟨b0, o0 + k * 4 + 1, none⟩ = some (.string x.t) ∧ W.cell? ⟨b0, o0 + k * 4 + 2, none⟩ = some (.int .i64 x.num) ∧ W.cell? ⟨b0, o0 + k * 4 + 3, none⟩ = some (.slice A0 x.kids.length c0)) ∧ W.cell? ⟨b0, o0 + (k + 1) * 4, none⟩ = some (.int .i64 y.k) ∧ W.cell? ⟨b0, o0 + (k + 1) * 4 + 1, none⟩ = some (.string y.t) ∧ W.cell? ⟨b0, o0 + (k + 1) * 4 + 2, none⟩ = some (.int .i64 y.num) ∧ W.cell? ⟨b0, o0 + (k + 1) * 4 + 3, none⟩ = some (.slice A1 y.kids.length c1)) (first | exact ⟨(Below.refl _ _).drew, q, hc0, hc1⟩ | exact keepS2 hm1 hn1 hn1 (by assumption) hbq | exact ⟨Below.drew (And.left (by assumption)), And.right (by assumption)⟩ | go_keep) (first | (go_at_call 14; ((with_reducible refine (HI2.out _ (And.left (by assumption))).mono ?_); rintro e w' ⟨rfl, hbq⟩)) | (go_at_call 14; ((with_reducible refine (HI3.out _ (And.left (by assumption))).mono ?_); rintro e w' ⟨rfl, hbq⟩)) | (go_at_call 36; ((with_reducible refine (RW2.out _ (And.left (by assumption))).mono ?_); rintro e w' ⟨rfl, hbq⟩)))
  all_goals
    rename_i hh
    have B1 := Lib.hid (below_trans HB0.out (Nat.le_refl _) hh.1)
    go_wp2
    go_ret
    exact ⟨by rw [← HV.out]; rfl, B1.out⟩
theorem show_7_1 (n : Nd) (f : Bool) (h : isN n f = true) (hm : many n ≤ 700) (hk : n.k = 7) (hnum : n.num = 1) (IH : ∀ m ∈ n.kids, ShwOk m) : ShwOk n := by
  intro cs w hr
  obtain ⟨A, c, rfl, hR, hcap, hlm, hn64, hts⟩ := hr.four
  have hsh : shp n.k = some ⟨true, 3, 2, -1⟩ := by rw [hk]; rfl
  obtain ⟨hl, hl2⟩ := kids_at h hsh
  simp only at hl hl2
  obtain ⟨l, x, y, hkids⟩ := split_last2 (l := n.kids) (by omega)
  obtain ⟨b0, o0, A0, c0, hA0, hbl0, p0, HI0, hs0, hne0⟩ := kid_here h hm IH hR (i := l.length) (x := x) (by rw [hkids]; simp)
  obtain ⟨b1, o1, A1, c1, hA1, hbl1, p1, HI1, hs1, hne1⟩ := kid_here h hm IH hR (i := l.length + 1) (x := y) (by rw [hkids]; simp)
  subst hA0
  injection hA1 with hA1
  injection hA1 with e1 e2
  subst e1 e2
  have hV := txt_7 hk hkids hne0 hne1
  rw [hnum] at hV
  rw [show statB 1 = (⟨#[115, 116, 97, 116, 105, 99, 32]⟩ : ByteArray) from rfl] at hV
  have hV2 : (⟨#[115, 116, 97, 116, 105, 99, 32]⟩ : ByteArray) ++ sB (shw x) ++ (⟨#[32]⟩ : ByteArray) ++ n.t ++ (⟨#[32]⟩ : ByteArray) ++ sB (rowW (l.map shw) false) ++ (⟨#[32]⟩ : ByteArray) ++ sB (shw y) = sB (shw n) := hV
  clear hV
  have hfew := kids_few hm
  have hR2 := RepNL.front hR hkids
  have hln : n.kids.length = l.length + 2 := by rw [hkids]; simp
  have hts2 : n.t.size ≤ 20 := name_short h hsh rfl
  have hRs : (sB (rowW (l.map shw) false)).size ≤ 200000 := by
    have h1 := text_le h hm
    rw [← hV2] at h1
    simp only [ByteArray.size_append] at h1
    omega
  have RW := row_here (c := c) hR2 (by omega) (fun m hm' => IH m (by rw [hkids]; simp [hm'])) (fun m hm' => kids_ne h m (by rw [hkids]; simp [hm'])) hRs
  have HV := Lib.hid hV2
  obtain ⟨T, HT⟩ : ∃ T, Hid (sB (shw n) = T) := ⟨_, rfl⟩
  have hll : l.length ≤ 700 := by omega
  rw [hln] at hcap
  rw [HT.out] at HV ⊢
  rw [hln, hk, hnum]
  clear h hm IH hR hR2 hkids hne0 hne1 hk hsh hl hl2 hr hln hlm hts HT hV2 hfew hnum hn64
  generalize sB (shw x) = X at *
  generalize sB (shw y) = Z at *
  generalize sB (rowW (l.map shw) false) = Y at *
  generalize l.length = k at *
  have kq := Blk.new_ w 24 #[.int .i64 7, .string n.t, .int .i64 1, .slice (some ⟨b0, o0, none⟩) (k + 2) c]
  have hb0 : Below w.heap.size w (w.alloc (.cells #[.int .i64 7, .string n.t, .int .i64 1, .slice (some ⟨b0, o0, none⟩) (k + 2) c] 24)) := by (repeat (first | with_reducible assumption | with_reducible exact Below.refl _ _ | (refine Below.setCell ?_ (by first | omega | (simp; done) | (simp; omega)) _) | (refine Below.drewN_ ?_ _) | (refine Below.drew ?_) | (refine Below.alloc ?_ (by first | omega | (simp; done) | (simp; omega)) _)))
  have HB0 := Lib.hid hb0
  have HQ := Lib.hid (And.intro (kq.cell 0 _ rfl) (And.intro (kq.cell 1 _ rfl) (And.intro (kq.cell 2 _ rfl) (kq.cell 3 _ rfl))))
  have HM1 := Lib.hid kq.lt
  have HC0 := Lib.hid (keep4 hb0 hbl0 p0)
  have HC1 := Lib.hid (keep4 hb0 hbl0 p1)
  have HN1 := Lib.hid (Nat.lt_trans hbl0 kq.lt)
  clear kq hb0 p0 hbl0 p1 hbl1
  have i1 : (0 : Int) ≤ (k : Int) := by omega
  have i2 : (k : Int) < (k : Int) + 2 := by omega
  have i3 : (k : Int) ≤ (c : Int) := by omega
  have i4 : (0 : Int) ≤ (k : Int) + 1 := by omega
  have i5 : (k : Int) + 1 < (k : Int) + 2 := by omega
  have i6 : (k : Int) + 2 - 1 = (k : Int) + 1 := by omega
  have i7 : IntKind.i64.wrap ((k : Int) + 1) = (k : Int) + 1 := IntWalk.i64_in _ (by omega)
  have i8 : ((k : Int) + 1).toNat = k + 1 := by omega
  have i9 : IntKind.i64.wrap (k : Int) = (k : Int) := IntWalk.i64_in _ (by omega)
  have i10 : IntKind.i64.wrap ((k : Int) + 1 - 1) = (k : Int) := by rw [Int.add_sub_cancel]; exact IntWalk.i64_in _ (by omega)
  go_enter Tryd.func14, Tryd.ntmps14
  go_wp2_with fail
  generalize (w.alloc (.cells #[.int .i64 7, .string n.t, .int .i64 1, .slice (some ⟨b0, o0, none⟩) (k + 2) c] 24)) = w1 at *
  have HI2 : Hid (∀ W, Below w1.heap.size w1 W → Calls Tryd.prog 14 #[.agg #[.int .i64 x.k, .string x.t, .int .i64 x.num, .slice A0 x.kids.length c0]] W fun e w' => e = .returned (.string X) ∧ Below W.heap.size W w') := fun W hW => HI0.out W (below_trans HB0.out (Nat.le_refl _) hW)
  have HI3 : Hid (∀ W, Below w1.heap.size w1 W → Calls Tryd.prog 14 #[.agg #[.int .i64 y.k, .string y.t, .int .i64 y.num, .slice A1 y.kids.length c1]] W fun e w' => e = .returned (.string Z) ∧ Below W.heap.size W w') := fun W hW => HI1.out W (below_trans HB0.out (Nat.le_refl _) hW)
  have RW2 : Hid (∀ W, Below w1.heap.size w1 W → Calls Tryd.prog 36 #[.slice (some ⟨b0, o0, none⟩) k c, .bool false] W fun e w' => e = .returned (.string Y) ∧ Below W.heap.size W w') := fun W hW => RW.out W (below_trans HB0.out (Nat.le_refl _) hW)
  have e1 : ∀ w, (Op.stringOp .add ((⟨#[115, 116, 97, 116, 105, 99, 32]⟩ : ByteArray)) X).run Tryd.prog w = .ok (.string ((⟨#[115, 116, 97, 116, 105, 99, 32]⟩ : ByteArray) ++ X)) w := fun w => run_string_add_sum w _ _ (by (try simp only [ByteArray.size_append]); have : (⟨#[115, 116, 97, 116, 105, 99, 32]⟩ : ByteArray).size = 7 := rfl; have : (⟨#[32]⟩ : ByteArray).size = 1 := rfl; have : (⟨#[32]⟩ : ByteArray).size = 1 := rfl; have : (⟨#[32]⟩ : ByteArray).size = 1 := rfl; omega)
  have e2 : ∀ w, (Op.stringOp .add ((⟨#[115, 116, 97, 116, 105, 99, 32]⟩ : ByteArray) ++ X) (⟨#[32]⟩ : ByteArray)).run Tryd.prog w = .ok (.string ((⟨#[115, 116, 97, 116, 105, 99, 32]⟩ : ByteArray) ++ X ++ (⟨#[32]⟩ : ByteArray))) w := fun w => run_string_add_sum w _ _ (by (try simp only [ByteArray.size_append]); have : (⟨#[115, 116, 97, 116, 105, 99, 32]⟩ : ByteArray).size = 7 := rfl; have : (⟨#[32]⟩ : ByteArray).size = 1 := rfl; have : (⟨#[32]⟩ : ByteArray).size = 1 := rfl; have : (⟨#[32]⟩ : ByteArray).size = 1 := rfl; omega)
  have e3 : ∀ w, (Op.stringOp .add ((⟨#[115, 116, 97, 116, 105, 99, 32]⟩ : ByteArray) ++ X ++ (⟨#[32]⟩ : ByteArray)) n.t).run Tryd.prog w = .ok (.string ((⟨#[115, 116, 97, 116, 105, 99, 32]⟩ : ByteArray) ++ X ++ (⟨#[32]⟩ : ByteArray) ++ n.t)) w := fun w => run_string_add_sum w _ _ (by (try simp only [ByteArray.size_append]); have : (⟨#[115, 116, 97, 116, 105, 99, 32]⟩ : ByteArray).size = 7 := rfl; have : (⟨#[32]⟩ : ByteArray).size = 1 := rfl; have : (⟨#[32]⟩ : ByteArray).size = 1 := rfl; have : (⟨#[32]⟩ : ByteArray).size = 1 := rfl; omega)
  have e4 : ∀ w, (Op.stringOp .add ((⟨#[115, 116, 97, 116, 105, 99, 32]⟩ : ByteArray) ++ X ++ (⟨#[32]⟩ : ByteArray) ++ n.t) (⟨#[32]⟩ : ByteArray)).run Tryd.prog w = .ok (.string ((⟨#[115, 116, 97, 116, 105, 99, 32]⟩ : ByteArray) ++ X ++ (⟨#[32]⟩ : ByteArray) ++ n.t ++ (⟨#[32]⟩ : ByteArray))) w := fun w => run_string_add_sum w _ _ (by (try simp only [ByteArray.size_append]); have : (⟨#[115, 116, 97, 116, 105, 99, 32]⟩ : ByteArray).size = 7 := rfl; have : (⟨#[32]⟩ : ByteArray).size = 1 := rfl; have : (⟨#[32]⟩ : ByteArray).size = 1 := rfl; have : (⟨#[32]⟩ : ByteArray).size = 1 := rfl; omega)
  have e5 : ∀ w, (Op.stringOp .add ((⟨#[115, 116, 97, 116, 105, 99, 32]⟩ : ByteArray) ++ X ++ (⟨#[32]⟩ : ByteArray) ++ n.t ++ (⟨#[32]⟩ : ByteArray)) Y).run Tryd.prog w = .ok (.string ((⟨#[115, 116, 97, 116, 105, 99, 32]⟩ : ByteArray) ++ X ++ (⟨#[32]⟩ : ByteArray) ++ n.t ++ (⟨#[32]⟩ : ByteArray) ++ Y)) w := fun w => run_string_add_sum w _ _ (by (try simp only [ByteArray.size_append]); have : (⟨#[115, 116, 97, 116, 105, 99, 32]⟩ : ByteArray).size = 7 := rfl; have : (⟨#[32]⟩ : ByteArray).size = 1 := rfl; have : (⟨#[32]⟩ : ByteArray).size = 1 := rfl; have : (⟨#[32]⟩ : ByteArray).size = 1 := rfl; omega)
  have e6 : ∀ w, (Op.stringOp .add ((⟨#[115, 116, 97, 116, 105, 99, 32]⟩ : ByteArray) ++ X ++ (⟨#[32]⟩ : ByteArray) ++ n.t ++ (⟨#[32]⟩ : ByteArray) ++ Y) (⟨#[32]⟩ : ByteArray)).run Tryd.prog w = .ok (.string ((⟨#[115, 116, 97, 116, 105, 99, 32]⟩ : ByteArray) ++ X ++ (⟨#[32]⟩ : ByteArray) ++ n.t ++ (⟨#[32]⟩ : ByteArray) ++ Y ++ (⟨#[32]⟩ : ByteArray))) w := fun w => run_string_add_sum w _ _ (by (try simp only [ByteArray.size_append]); have : (⟨#[115, 116, 97, 116, 105, 99, 32]⟩ : ByteArray).size = 7 := rfl; have : (⟨#[32]⟩ : ByteArray).size = 1 := rfl; have : (⟨#[32]⟩ : ByteArray).size = 1 := rfl; have : (⟨#[32]⟩ : ByteArray).size = 1 := rfl; omega)
  have e7 : ∀ w, (Op.stringOp .add ((⟨#[115, 116, 97, 116, 105, 99, 32]⟩ : ByteArray) ++ X ++ (⟨#[32]⟩ : ByteArray) ++ n.t ++ (⟨#[32]⟩ : ByteArray) ++ Y ++ (⟨#[32]⟩ : ByteArray)) Z).run Tryd.prog w = .ok (.string ((⟨#[115, 116, 97, 116, 105, 99, 32]⟩ : ByteArray) ++ X ++ (⟨#[32]⟩ : ByteArray) ++ n.t ++ (⟨#[32]⟩ : ByteArray) ++ Y ++ (⟨#[32]⟩ : ByteArray) ++ Z)) w := fun w => run_string_add_sum w _ _ (by (try simp only [ByteArray.size_append]); have : (⟨#[115, 116, 97, 116, 105, 99, 32]⟩ : ByteArray).size = 7 := rfl; have : (⟨#[32]⟩ : ByteArray).size = 1 := rfl; have : (⟨#[32]⟩ : ByteArray).size = 1 := rfl; have : (⟨#[32]⟩ : ByteArray).size = 1 := rfl; omega)
  have q := HQ.out
  have hc0 := HC0.out
  have hc1 := HC1.out
  have hm1 := HM1.out
  have hn1 := HN1.out
  go_region_held3 (fun W => Below w1.heap.size w1 W ∧ (W.cell? ⟨w.heap.size, 0, none⟩ = some (.int .i64 7) ∧ W.cell? ⟨w.heap.size, 1, none⟩ = some (.string n.t) ∧ W.cell? ⟨w.heap.size, 2, none⟩ = some (.int .i64 1) ∧ W.cell? ⟨w.heap.size, 3, none⟩ = some (.slice (some ⟨b0, o0, none⟩) (k + 2) c)) ∧ (W.cell? ⟨b0, o0 + k * 4, none⟩ = some (.int .i64 x.k) ∧ W.cell? ⟨b0, o0 + k * 4 + 1, none⟩ = some (.string x.t) ∧ W.cell? ⟨b0, o0 + k * 4 + 2, none⟩ = some (.int .i64 x.num) ∧ W.cell? ⟨b0, o0 + k * 4 + 3, none⟩ = some (.slice A0 x.kids.length c0)) ∧ W.cell? ⟨b0, o0 + (k + 1) * 4, none⟩ = some (.int .i64 y.k) ∧ W.cell? ⟨b0, o0 + (k + 1) * 4 + 1, none⟩ = some (.string y.t) ∧ W.cell? ⟨b0, o0 + (k + 1) * 4 + 2, none⟩ = some (.int .i64 y.num) ∧ W.cell? ⟨b0, o0 + (k + 1) * 4 + 3, none⟩ = some (.slice A1 y.kids.length c1)) (first | exact ⟨(Below.refl _ _).drew, q, hc0, hc1⟩ | exact keepS2 hm1 hn1 hn1 (by assumption) hbq | exact ⟨Below.drew (And.left (by assumption)), And.right (by assumption)⟩ | go_keep) (first | (go_at_call 14; ((with_reducible refine (HI2.out _ (And.left (by assumption))).mono ?_); rintro e w' ⟨rfl, hbq⟩)) | (go_at_call 14; ((with_reducible refine (HI3.out _ (And.left (by assumption))).mono ?_); rintro e w' ⟨rfl, hbq⟩)) | (go_at_call 36; ((with_reducible refine (RW2.out _ (And.left (by assumption))).mono ?_); rintro e w' ⟨rfl, hbq⟩)))
  all_goals
    rename_i hh
    have B1 := Lib.hid (below_trans HB0.out (Nat.le_refl _) hh.1)
    go_wp2
    go_ret
    exact ⟨by rw [← HV.out]; rfl, B1.out⟩
theorem show_7_2 (n : Nd) (f : Bool) (h : isN n f = true) (hm : many n ≤ 700) (hk : n.k = 7) (hnum : n.num = 2) (IH : ∀ m ∈ n.kids, ShwOk m) : ShwOk n := by
  intro cs w hr
  obtain ⟨A, c, rfl, hR, hcap, hlm, hn64, hts⟩ := hr.four
  have hsh : shp n.k = some ⟨true, 3, 2, -1⟩ := by rw [hk]; rfl
  obtain ⟨hl, hl2⟩ := kids_at h hsh
  simp only at hl hl2
  obtain ⟨l, x, y, hkids⟩ := split_last2 (l := n.kids) (by omega)
  obtain ⟨b0, o0, A0, c0, hA0, hbl0, p0, HI0, hs0, hne0⟩ := kid_here h hm IH hR (i := l.length) (x := x) (by rw [hkids]; simp)
  obtain ⟨b1, o1, A1, c1, hA1, hbl1, p1, HI1, hs1, hne1⟩ := kid_here h hm IH hR (i := l.length + 1) (x := y) (by rw [hkids]; simp)
  subst hA0
  injection hA1 with hA1
  injection hA1 with e1 e2
  subst e1 e2
  have hV := txt_7 hk hkids hne0 hne1
  rw [hnum] at hV
  rw [show statB 2 = (⟨#[]⟩ : ByteArray) from rfl] at hV
  have hV2 : (⟨#[]⟩ : ByteArray) ++ sB (shw x) ++ (⟨#[32]⟩ : ByteArray) ++ n.t ++ (⟨#[32]⟩ : ByteArray) ++ sB (rowW (l.map shw) true) ++ (⟨#[32]⟩ : ByteArray) ++ sB (shw y) = sB (shw n) := hV
  clear hV
  have hfew := kids_few hm
  have hR2 := RepNL.front hR hkids
  have hln : n.kids.length = l.length + 2 := by rw [hkids]; simp
  have hts2 : n.t.size ≤ 20 := name_short h hsh rfl
  have hRs : (sB (rowW (l.map shw) true)).size ≤ 200000 := by
    have h1 := text_le h hm
    rw [← hV2] at h1
    simp only [ByteArray.size_append] at h1
    omega
  have RW := row_here (c := c) hR2 (by omega) (fun m hm' => IH m (by rw [hkids]; simp [hm'])) (fun m hm' => kids_ne h m (by rw [hkids]; simp [hm'])) hRs
  have HV := Lib.hid hV2
  obtain ⟨T, HT⟩ : ∃ T, Hid (sB (shw n) = T) := ⟨_, rfl⟩
  have hll : l.length ≤ 700 := by omega
  rw [hln] at hcap
  rw [HT.out] at HV ⊢
  rw [hln, hk, hnum]
  clear h hm IH hR hR2 hkids hne0 hne1 hk hsh hl hl2 hr hln hlm hts HT hV2 hfew hnum hn64
  generalize sB (shw x) = X at *
  generalize sB (shw y) = Z at *
  generalize sB (rowW (l.map shw) true) = Y at *
  generalize l.length = k at *
  have kq := Blk.new_ w 24 #[.int .i64 7, .string n.t, .int .i64 2, .slice (some ⟨b0, o0, none⟩) (k + 2) c]
  have hb0 : Below w.heap.size w (w.alloc (.cells #[.int .i64 7, .string n.t, .int .i64 2, .slice (some ⟨b0, o0, none⟩) (k + 2) c] 24)) := by (repeat (first | with_reducible assumption | with_reducible exact Below.refl _ _ | (refine Below.setCell ?_ (by first | omega | (simp; done) | (simp; omega)) _) | (refine Below.drewN_ ?_ _) | (refine Below.drew ?_) | (refine Below.alloc ?_ (by first | omega | (simp; done) | (simp; omega)) _)))
  have HB0 := Lib.hid hb0
  have HQ := Lib.hid (And.intro (kq.cell 0 _ rfl) (And.intro (kq.cell 1 _ rfl) (And.intro (kq.cell 2 _ rfl) (kq.cell 3 _ rfl))))
  have HM1 := Lib.hid kq.lt
  have HC0 := Lib.hid (keep4 hb0 hbl0 p0)
  have HC1 := Lib.hid (keep4 hb0 hbl0 p1)
  have HN1 := Lib.hid (Nat.lt_trans hbl0 kq.lt)
  clear kq hb0 p0 hbl0 p1 hbl1
  have i1 : (0 : Int) ≤ (k : Int) := by omega
  have i2 : (k : Int) < (k : Int) + 2 := by omega
  have i3 : (k : Int) ≤ (c : Int) := by omega
  have i4 : (0 : Int) ≤ (k : Int) + 1 := by omega
  have i5 : (k : Int) + 1 < (k : Int) + 2 := by omega
  have i6 : (k : Int) + 2 - 1 = (k : Int) + 1 := by omega
  have i7 : IntKind.i64.wrap ((k : Int) + 1) = (k : Int) + 1 := IntWalk.i64_in _ (by omega)
  have i8 : ((k : Int) + 1).toNat = k + 1 := by omega
  have i9 : IntKind.i64.wrap (k : Int) = (k : Int) := IntWalk.i64_in _ (by omega)
  have i10 : IntKind.i64.wrap ((k : Int) + 1 - 1) = (k : Int) := by rw [Int.add_sub_cancel]; exact IntWalk.i64_in _ (by omega)
  go_enter Tryd.func14, Tryd.ntmps14
  go_wp2_with fail
  generalize (w.alloc (.cells #[.int .i64 7, .string n.t, .int .i64 2, .slice (some ⟨b0, o0, none⟩) (k + 2) c] 24)) = w1 at *
  have HI2 : Hid (∀ W, Below w1.heap.size w1 W → Calls Tryd.prog 14 #[.agg #[.int .i64 x.k, .string x.t, .int .i64 x.num, .slice A0 x.kids.length c0]] W fun e w' => e = .returned (.string X) ∧ Below W.heap.size W w') := fun W hW => HI0.out W (below_trans HB0.out (Nat.le_refl _) hW)
  have HI3 : Hid (∀ W, Below w1.heap.size w1 W → Calls Tryd.prog 14 #[.agg #[.int .i64 y.k, .string y.t, .int .i64 y.num, .slice A1 y.kids.length c1]] W fun e w' => e = .returned (.string Z) ∧ Below W.heap.size W w') := fun W hW => HI1.out W (below_trans HB0.out (Nat.le_refl _) hW)
  have RW2 : Hid (∀ W, Below w1.heap.size w1 W → Calls Tryd.prog 36 #[.slice (some ⟨b0, o0, none⟩) k c, .bool true] W fun e w' => e = .returned (.string Y) ∧ Below W.heap.size W w') := fun W hW => RW.out W (below_trans HB0.out (Nat.le_refl _) hW)
  have e1 : ∀ w, (Op.stringOp .add ((⟨#[]⟩ : ByteArray)) X).run Tryd.prog w = .ok (.string ((⟨#[]⟩ : ByteArray) ++ X)) w := fun w => run_string_add_sum w _ _ (by (try simp only [ByteArray.size_append]); have : (⟨#[]⟩ : ByteArray).size = 0 := rfl; have : (⟨#[32]⟩ : ByteArray).size = 1 := rfl; have : (⟨#[32]⟩ : ByteArray).size = 1 := rfl; have : (⟨#[32]⟩ : ByteArray).size = 1 := rfl; omega)
  have e2 : ∀ w, (Op.stringOp .add ((⟨#[]⟩ : ByteArray) ++ X) (⟨#[32]⟩ : ByteArray)).run Tryd.prog w = .ok (.string ((⟨#[]⟩ : ByteArray) ++ X ++ (⟨#[32]⟩ : ByteArray))) w := fun w => run_string_add_sum w _ _ (by (try simp only [ByteArray.size_append]); have : (⟨#[]⟩ : ByteArray).size = 0 := rfl; have : (⟨#[32]⟩ : ByteArray).size = 1 := rfl; have : (⟨#[32]⟩ : ByteArray).size = 1 := rfl; have : (⟨#[32]⟩ : ByteArray).size = 1 := rfl; omega)
  have e3 : ∀ w, (Op.stringOp .add ((⟨#[]⟩ : ByteArray) ++ X ++ (⟨#[32]⟩ : ByteArray)) n.t).run Tryd.prog w = .ok (.string ((⟨#[]⟩ : ByteArray) ++ X ++ (⟨#[32]⟩ : ByteArray) ++ n.t)) w := fun w => run_string_add_sum w _ _ (by (try simp only [ByteArray.size_append]); have : (⟨#[]⟩ : ByteArray).size = 0 := rfl; have : (⟨#[32]⟩ : ByteArray).size = 1 := rfl; have : (⟨#[32]⟩ : ByteArray).size = 1 := rfl; have : (⟨#[32]⟩ : ByteArray).size = 1 := rfl; omega)
  have e4 : ∀ w, (Op.stringOp .add ((⟨#[]⟩ : ByteArray) ++ X ++ (⟨#[32]⟩ : ByteArray) ++ n.t) (⟨#[32]⟩ : ByteArray)).run Tryd.prog w = .ok (.string ((⟨#[]⟩ : ByteArray) ++ X ++ (⟨#[32]⟩ : ByteArray) ++ n.t ++ (⟨#[32]⟩ : ByteArray))) w := fun w => run_string_add_sum w _ _ (by (try simp only [ByteArray.size_append]); have : (⟨#[]⟩ : ByteArray).size = 0 := rfl; have : (⟨#[32]⟩ : ByteArray).size = 1 := rfl; have : (⟨#[32]⟩ : ByteArray).size = 1 := rfl; have : (⟨#[32]⟩ : ByteArray).size = 1 := rfl; omega)
  have e5 : ∀ w, (Op.stringOp .add ((⟨#[]⟩ : ByteArray) ++ X ++ (⟨#[32]⟩ : ByteArray) ++ n.t ++ (⟨#[32]⟩ : ByteArray)) Y).run Tryd.prog w = .ok (.string ((⟨#[]⟩ : ByteArray) ++ X ++ (⟨#[32]⟩ : ByteArray) ++ n.t ++ (⟨#[32]⟩ : ByteArray) ++ Y)) w := fun w => run_string_add_sum w _ _ (by (try simp only [ByteArray.size_append]); have : (⟨#[]⟩ : ByteArray).size = 0 := rfl; have : (⟨#[32]⟩ : ByteArray).size = 1 := rfl; have : (⟨#[32]⟩ : ByteArray).size = 1 := rfl; have : (⟨#[32]⟩ : ByteArray).size = 1 := rfl; omega)
  have e6 : ∀ w, (Op.stringOp .add ((⟨#[]⟩ : ByteArray) ++ X ++ (⟨#[32]⟩ : ByteArray) ++ n.t ++ (⟨#[32]⟩ : ByteArray) ++ Y) (⟨#[32]⟩ : ByteArray)).run Tryd.prog w = .ok (.string ((⟨#[]⟩ : ByteArray) ++ X ++ (⟨#[32]⟩ : ByteArray) ++ n.t ++ (⟨#[32]⟩ : ByteArray) ++ Y ++ (⟨#[32]⟩ : ByteArray))) w := fun w => run_string_add_sum w _ _ (by (try simp only [ByteArray.size_append]); have : (⟨#[]⟩ : ByteArray).size = 0 := rfl; have : (⟨#[32]⟩ : ByteArray).size = 1 := rfl; have : (⟨#[32]⟩ : ByteArray).size = 1 := rfl; have : (⟨#[32]⟩ : ByteArray).size = 1 := rfl; omega)
  have e7 : ∀ w, (Op.stringOp .add ((⟨#[]⟩ : ByteArray) ++ X ++ (⟨#[32]⟩ : ByteArray) ++ n.t ++ (⟨#[32]⟩ : ByteArray) ++ Y ++ (⟨#[32]⟩ : ByteArray)) Z).run Tryd.prog w = .ok (.string ((⟨#[]⟩ : ByteArray) ++ X ++ (⟨#[32]⟩ : ByteArray) ++ n.t ++ (⟨#[32]⟩ : ByteArray) ++ Y ++ (⟨#[32]⟩ : ByteArray) ++ Z)) w := fun w => run_string_add_sum w _ _ (by (try simp only [ByteArray.size_append]); have : (⟨#[]⟩ : ByteArray).size = 0 := rfl; have : (⟨#[32]⟩ : ByteArray).size = 1 := rfl; have : (⟨#[32]⟩ : ByteArray).size = 1 := rfl; have : (⟨#[32]⟩ : ByteArray).size = 1 := rfl; omega)
  have q := HQ.out
  have hc0 := HC0.out
  have hc1 := HC1.out
  have hm1 := HM1.out
  have hn1 := HN1.out
  go_region_held3 (fun W => Below w1.heap.size w1 W ∧ (W.cell? ⟨w.heap.size, 0, none⟩ = some (.int .i64 7) ∧ W.cell? ⟨w.heap.size, 1, none⟩ = some (.string n.t) ∧ W.cell? ⟨w.heap.size, 2, none⟩ = some (.int .i64 2) ∧ W.cell? ⟨w.heap.size, 3, none⟩ = some (.slice (some ⟨b0, o0, none⟩) (k + 2) c)) ∧ (W.cell? ⟨b0, o0 + k * 4, none⟩ = some (.int .i64 x.k) ∧ W.cell? ⟨b0, o0 + k * 4 + 1, none⟩ = some (.string x.t) ∧ W.cell? ⟨b0, o0 + k * 4 + 2, none⟩ = some (.int .i64 x.num) ∧ W.cell? ⟨b0, o0 + k * 4 + 3, none⟩ = some (.slice A0 x.kids.length c0)) ∧ W.cell? ⟨b0, o0 + (k + 1) * 4, none⟩ = some (.int .i64 y.k) ∧ W.cell? ⟨b0, o0 + (k + 1) * 4 + 1, none⟩ = some (.string y.t) ∧ W.cell? ⟨b0, o0 + (k + 1) * 4 + 2, none⟩ = some (.int .i64 y.num) ∧ W.cell? ⟨b0, o0 + (k + 1) * 4 + 3, none⟩ = some (.slice A1 y.kids.length c1)) (first | exact ⟨(Below.refl _ _).drew, q, hc0, hc1⟩ | exact keepS2 hm1 hn1 hn1 (by assumption) hbq | exact ⟨Below.drew (And.left (by assumption)), And.right (by assumption)⟩ | go_keep) (first | (go_at_call 14; ((with_reducible refine (HI2.out _ (And.left (by assumption))).mono ?_); rintro e w' ⟨rfl, hbq⟩)) | (go_at_call 14; ((with_reducible refine (HI3.out _ (And.left (by assumption))).mono ?_); rintro e w' ⟨rfl, hbq⟩)) | (go_at_call 36; ((with_reducible refine (RW2.out _ (And.left (by assumption))).mono ?_); rintro e w' ⟨rfl, hbq⟩)))
  all_goals
    rename_i hh
    have B1 := Lib.hid (below_trans HB0.out (Nat.le_refl _) hh.1)
    go_wp2
    go_ret
    exact ⟨by rw [← HV.out]; rfl, B1.out⟩
theorem show_7_3 (n : Nd) (f : Bool) (h : isN n f = true) (hm : many n ≤ 700) (hk : n.k = 7) (hnum : n.num = 3) (IH : ∀ m ∈ n.kids, ShwOk m) : ShwOk n := by
  intro cs w hr
  obtain ⟨A, c, rfl, hR, hcap, hlm, hn64, hts⟩ := hr.four
  have hsh : shp n.k = some ⟨true, 3, 2, -1⟩ := by rw [hk]; rfl
  obtain ⟨hl, hl2⟩ := kids_at h hsh
  simp only at hl hl2
  obtain ⟨l, x, y, hkids⟩ := split_last2 (l := n.kids) (by omega)
  obtain ⟨b0, o0, A0, c0, hA0, hbl0, p0, HI0, hs0, hne0⟩ := kid_here h hm IH hR (i := l.length) (x := x) (by rw [hkids]; simp)
  obtain ⟨b1, o1, A1, c1, hA1, hbl1, p1, HI1, hs1, hne1⟩ := kid_here h hm IH hR (i := l.length + 1) (x := y) (by rw [hkids]; simp)
  subst hA0
  injection hA1 with hA1
  injection hA1 with e1 e2
  subst e1 e2
  have hV := txt_7 hk hkids hne0 hne1
  rw [hnum] at hV
  rw [show statB 3 = (⟨#[115, 116, 97, 116, 105, 99, 32]⟩ : ByteArray) from rfl] at hV
  have hV2 : (⟨#[115, 116, 97, 116, 105, 99, 32]⟩ : ByteArray) ++ sB (shw x) ++ (⟨#[32]⟩ : ByteArray) ++ n.t ++ (⟨#[32]⟩ : ByteArray) ++ sB (rowW (l.map shw) true) ++ (⟨#[32]⟩ : ByteArray) ++ sB (shw y) = sB (shw n) := hV
  clear hV
  have hfew := kids_few hm
  have hR2 := RepNL.front hR hkids
  have hln : n.kids.length = l.length + 2 := by rw [hkids]; simp
  have hts2 : n.t.size ≤ 20 := name_short h hsh rfl
  have hRs : (sB (rowW (l.map shw) true)).size ≤ 200000 := by
    have h1 := text_le h hm
    rw [← hV2] at h1
    simp only [ByteArray.size_append] at h1
    omega
  have RW := row_here (c := c) hR2 (by omega) (fun m hm' => IH m (by rw [hkids]; simp [hm'])) (fun m hm' => kids_ne h m (by rw [hkids]; simp [hm'])) hRs
  have HV := Lib.hid hV2
  obtain ⟨T, HT⟩ : ∃ T, Hid (sB (shw n) = T) := ⟨_, rfl⟩
  have hll : l.length ≤ 700 := by omega
  rw [hln] at hcap
  rw [HT.out] at HV ⊢
  rw [hln, hk, hnum]
  clear h hm IH hR hR2 hkids hne0 hne1 hk hsh hl hl2 hr hln hlm hts HT hV2 hfew hnum hn64
  generalize sB (shw x) = X at *
  generalize sB (shw y) = Z at *
  generalize sB (rowW (l.map shw) true) = Y at *
  generalize l.length = k at *
  have kq := Blk.new_ w 24 #[.int .i64 7, .string n.t, .int .i64 3, .slice (some ⟨b0, o0, none⟩) (k + 2) c]
  have hb0 : Below w.heap.size w (w.alloc (.cells #[.int .i64 7, .string n.t, .int .i64 3, .slice (some ⟨b0, o0, none⟩) (k + 2) c] 24)) := by (repeat (first | with_reducible assumption | with_reducible exact Below.refl _ _ | (refine Below.setCell ?_ (by first | omega | (simp; done) | (simp; omega)) _) | (refine Below.drewN_ ?_ _) | (refine Below.drew ?_) | (refine Below.alloc ?_ (by first | omega | (simp; done) | (simp; omega)) _)))
  have HB0 := Lib.hid hb0
  have HQ := Lib.hid (And.intro (kq.cell 0 _ rfl) (And.intro (kq.cell 1 _ rfl) (And.intro (kq.cell 2 _ rfl) (kq.cell 3 _ rfl))))
  have HM1 := Lib.hid kq.lt
  have HC0 := Lib.hid (keep4 hb0 hbl0 p0)
  have HC1 := Lib.hid (keep4 hb0 hbl0 p1)
  have HN1 := Lib.hid (Nat.lt_trans hbl0 kq.lt)
  clear kq hb0 p0 hbl0 p1 hbl1
  have i1 : (0 : Int) ≤ (k : Int) := by omega
  have i2 : (k : Int) < (k : Int) + 2 := by omega
  have i3 : (k : Int) ≤ (c : Int) := by omega
  have i4 : (0 : Int) ≤ (k : Int) + 1 := by omega
  have i5 : (k : Int) + 1 < (k : Int) + 2 := by omega
  have i6 : (k : Int) + 2 - 1 = (k : Int) + 1 := by omega
  have i7 : IntKind.i64.wrap ((k : Int) + 1) = (k : Int) + 1 := IntWalk.i64_in _ (by omega)
  have i8 : ((k : Int) + 1).toNat = k + 1 := by omega
  have i9 : IntKind.i64.wrap (k : Int) = (k : Int) := IntWalk.i64_in _ (by omega)
  have i10 : IntKind.i64.wrap ((k : Int) + 1 - 1) = (k : Int) := by rw [Int.add_sub_cancel]; exact IntWalk.i64_in _ (by omega)
  go_enter Tryd.func14, Tryd.ntmps14
  go_wp2_with fail
  generalize (w.alloc (.cells #[.int .i64 7, .string n.t, .int .i64 3, .slice (some ⟨b0, o0, none⟩) (k + 2) c] 24)) = w1 at *
  have HI2 : Hid (∀ W, Below w1.heap.size w1 W → Calls Tryd.prog 14 #[.agg #[.int .i64 x.k, .string x.t, .int .i64 x.num, .slice A0 x.kids.length c0]] W fun e w' => e = .returned (.string X) ∧ Below W.heap.size W w') := fun W hW => HI0.out W (below_trans HB0.out (Nat.le_refl _) hW)
  have HI3 : Hid (∀ W, Below w1.heap.size w1 W → Calls Tryd.prog 14 #[.agg #[.int .i64 y.k, .string y.t, .int .i64 y.num, .slice A1 y.kids.length c1]] W fun e w' => e = .returned (.string Z) ∧ Below W.heap.size W w') := fun W hW => HI1.out W (below_trans HB0.out (Nat.le_refl _) hW)
  have RW2 : Hid (∀ W, Below w1.heap.size w1 W → Calls Tryd.prog 36 #[.slice (some ⟨b0, o0, none⟩) k c, .bool true] W fun e w' => e = .returned (.string Y) ∧ Below W.heap.size W w') := fun W hW => RW.out W (below_trans HB0.out (Nat.le_refl _) hW)
  have e1 : ∀ w, (Op.stringOp .add ((⟨#[115, 116, 97, 116, 105, 99, 32]⟩ : ByteArray)) X).run Tryd.prog w = .ok (.string ((⟨#[115, 116, 97, 116, 105, 99, 32]⟩ : ByteArray) ++ X)) w := fun w => run_string_add_sum w _ _ (by (try simp only [ByteArray.size_append]); have : (⟨#[115, 116, 97, 116, 105, 99, 32]⟩ : ByteArray).size = 7 := rfl; have : (⟨#[32]⟩ : ByteArray).size = 1 := rfl; have : (⟨#[32]⟩ : ByteArray).size = 1 := rfl; have : (⟨#[32]⟩ : ByteArray).size = 1 := rfl; omega)
  have e2 : ∀ w, (Op.stringOp .add ((⟨#[115, 116, 97, 116, 105, 99, 32]⟩ : ByteArray) ++ X) (⟨#[32]⟩ : ByteArray)).run Tryd.prog w = .ok (.string ((⟨#[115, 116, 97, 116, 105, 99, 32]⟩ : ByteArray) ++ X ++ (⟨#[32]⟩ : ByteArray))) w := fun w => run_string_add_sum w _ _ (by (try simp only [ByteArray.size_append]); have : (⟨#[115, 116, 97, 116, 105, 99, 32]⟩ : ByteArray).size = 7 := rfl; have : (⟨#[32]⟩ : ByteArray).size = 1 := rfl; have : (⟨#[32]⟩ : ByteArray).size = 1 := rfl; have : (⟨#[32]⟩ : ByteArray).size = 1 := rfl; omega)
  have e3 : ∀ w, (Op.stringOp .add ((⟨#[115, 116, 97, 116, 105, 99, 32]⟩ : ByteArray) ++ X ++ (⟨#[32]⟩ : ByteArray)) n.t).run Tryd.prog w = .ok (.string ((⟨#[115, 116, 97, 116, 105, 99, 32]⟩ : ByteArray) ++ X ++ (⟨#[32]⟩ : ByteArray) ++ n.t)) w := fun w => run_string_add_sum w _ _ (by (try simp only [ByteArray.size_append]); have : (⟨#[115, 116, 97, 116, 105, 99, 32]⟩ : ByteArray).size = 7 := rfl; have : (⟨#[32]⟩ : ByteArray).size = 1 := rfl; have : (⟨#[32]⟩ : ByteArray).size = 1 := rfl; have : (⟨#[32]⟩ : ByteArray).size = 1 := rfl; omega)
  have e4 : ∀ w, (Op.stringOp .add ((⟨#[115, 116, 97, 116, 105, 99, 32]⟩ : ByteArray) ++ X ++ (⟨#[32]⟩ : ByteArray) ++ n.t) (⟨#[32]⟩ : ByteArray)).run Tryd.prog w = .ok (.string ((⟨#[115, 116, 97, 116, 105, 99, 32]⟩ : ByteArray) ++ X ++ (⟨#[32]⟩ : ByteArray) ++ n.t ++ (⟨#[32]⟩ : ByteArray))) w := fun w => run_string_add_sum w _ _ (by (try simp only [ByteArray.size_append]); have : (⟨#[115, 116, 97, 116, 105, 99, 32]⟩ : ByteArray).size = 7 := rfl; have : (⟨#[32]⟩ : ByteArray).size = 1 := rfl; have : (⟨#[32]⟩ : ByteArray).size = 1 := rfl; have : (⟨#[32]⟩ : ByteArray).size = 1 := rfl; omega)
  have e5 : ∀ w, (Op.stringOp .add ((⟨#[115, 116, 97, 116, 105, 99, 32]⟩ : ByteArray) ++ X ++ (⟨#[32]⟩ : ByteArray) ++ n.t ++ (⟨#[32]⟩ : ByteArray)) Y).run Tryd.prog w = .ok (.string ((⟨#[115, 116, 97, 116, 105, 99, 32]⟩ : ByteArray) ++ X ++ (⟨#[32]⟩ : ByteArray) ++ n.t ++ (⟨#[32]⟩ : ByteArray) ++ Y)) w := fun w => run_string_add_sum w _ _ (by (try simp only [ByteArray.size_append]); have : (⟨#[115, 116, 97, 116, 105, 99, 32]⟩ : ByteArray).size = 7 := rfl; have : (⟨#[32]⟩ : ByteArray).size = 1 := rfl; have : (⟨#[32]⟩ : ByteArray).size = 1 := rfl; have : (⟨#[32]⟩ : ByteArray).size = 1 := rfl; omega)
  have e6 : ∀ w, (Op.stringOp .add ((⟨#[115, 116, 97, 116, 105, 99, 32]⟩ : ByteArray) ++ X ++ (⟨#[32]⟩ : ByteArray) ++ n.t ++ (⟨#[32]⟩ : ByteArray) ++ Y) (⟨#[32]⟩ : ByteArray)).run Tryd.prog w = .ok (.string ((⟨#[115, 116, 97, 116, 105, 99, 32]⟩ : ByteArray) ++ X ++ (⟨#[32]⟩ : ByteArray) ++ n.t ++ (⟨#[32]⟩ : ByteArray) ++ Y ++ (⟨#[32]⟩ : ByteArray))) w := fun w => run_string_add_sum w _ _ (by (try simp only [ByteArray.size_append]); have : (⟨#[115, 116, 97, 116, 105, 99, 32]⟩ : ByteArray).size = 7 := rfl; have : (⟨#[32]⟩ : ByteArray).size = 1 := rfl; have : (⟨#[32]⟩ : ByteArray).size = 1 := rfl; have : (⟨#[32]⟩ : ByteArray).size = 1 := rfl; omega)
  have e7 : ∀ w, (Op.stringOp .add ((⟨#[115, 116, 97, 116, 105, 99, 32]⟩ : ByteArray) ++ X ++ (⟨#[32]⟩ : ByteArray) ++ n.t ++ (⟨#[32]⟩ : ByteArray) ++ Y ++ (⟨#[32]⟩ : ByteArray)) Z).run Tryd.prog w = .ok (.string ((⟨#[115, 116, 97, 116, 105, 99, 32]⟩ : ByteArray) ++ X ++ (⟨#[32]⟩ : ByteArray) ++ n.t ++ (⟨#[32]⟩ : ByteArray) ++ Y ++ (⟨#[32]⟩ : ByteArray) ++ Z)) w := fun w => run_string_add_sum w _ _ (by (try simp only [ByteArray.size_append]); have : (⟨#[115, 116, 97, 116, 105, 99, 32]⟩ : ByteArray).size = 7 := rfl; have : (⟨#[32]⟩ : ByteArray).size = 1 := rfl; have : (⟨#[32]⟩ : ByteArray).size = 1 := rfl; have : (⟨#[32]⟩ : ByteArray).size = 1 := rfl; omega)
  have q := HQ.out
  have hc0 := HC0.out
  have hc1 := HC1.out
  have hm1 := HM1.out
  have hn1 := HN1.out
  go_region_held3 (fun W => Below w1.heap.size w1 W ∧ (W.cell? ⟨w.heap.size, 0, none⟩ = some (.int .i64 7) ∧ W.cell? ⟨w.heap.size, 1, none⟩ = some (.string n.t) ∧ W.cell? ⟨w.heap.size, 2, none⟩ = some (.int .i64 3) ∧ W.cell? ⟨w.heap.size, 3, none⟩ = some (.slice (some ⟨b0, o0, none⟩) (k + 2) c)) ∧ (W.cell? ⟨b0, o0 + k * 4, none⟩ = some (.int .i64 x.k) ∧ W.cell? ⟨b0, o0 + k * 4 + 1, none⟩ = some (.string x.t) ∧ W.cell? ⟨b0, o0 + k * 4 + 2, none⟩ = some (.int .i64 x.num) ∧ W.cell? ⟨b0, o0 + k * 4 + 3, none⟩ = some (.slice A0 x.kids.length c0)) ∧ W.cell? ⟨b0, o0 + (k + 1) * 4, none⟩ = some (.int .i64 y.k) ∧ W.cell? ⟨b0, o0 + (k + 1) * 4 + 1, none⟩ = some (.string y.t) ∧ W.cell? ⟨b0, o0 + (k + 1) * 4 + 2, none⟩ = some (.int .i64 y.num) ∧ W.cell? ⟨b0, o0 + (k + 1) * 4 + 3, none⟩ = some (.slice A1 y.kids.length c1)) (first | exact ⟨(Below.refl _ _).drew, q, hc0, hc1⟩ | exact keepS2 hm1 hn1 hn1 (by assumption) hbq | exact ⟨Below.drew (And.left (by assumption)), And.right (by assumption)⟩ | go_keep) (first | (go_at_call 14; ((with_reducible refine (HI2.out _ (And.left (by assumption))).mono ?_); rintro e w' ⟨rfl, hbq⟩)) | (go_at_call 14; ((with_reducible refine (HI3.out _ (And.left (by assumption))).mono ?_); rintro e w' ⟨rfl, hbq⟩)) | (go_at_call 36; ((with_reducible refine (RW2.out _ (And.left (by assumption))).mono ?_); rintro e w' ⟨rfl, hbq⟩)))
  all_goals
    rename_i hh
    have B1 := Lib.hid (below_trans HB0.out (Nat.le_refl _) hh.1)
    go_wp2
    go_ret
    exact ⟨by rw [← HV.out]; rfl, B1.out⟩
end Go.Proofs.YtgegfbopogcjpaaDoor
