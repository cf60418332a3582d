/- Show of globals. -/
import Derived.Test.YtgegfbopogcjpaaDoorShwG
namespace Go.Proofs.YtgegfbopogcjpaaDoor
open Go.RowKit
set_option linter.unusedVariables false
set_option linter.unusedSimpArgs false
set_option maxRecDepth 100000
set_option maxHeartbeats 1000000
theorem show_6_0 (n : Nd) (f : Bool) (h : isN n f = true) (hm : many n ≤ 700) (hk : n.k = 6) (hnum : n.num = 0) (IH : ∀ m ∈ n.kids, ShwOk m) : ShwOk n := by
  intro cs w hr
  obtain ⟨A, c, rfl, hR, hcap, hlm, hn64, hts⟩ := hr.four
  have hsh : shp n.k = some ⟨true, 1, 2, 2⟩ := by rw [hk]; rfl
  obtain ⟨hl, hl2⟩ := kids_at h hsh
  simp only at hl hl2
  obtain ⟨x, y, hkids⟩ := two_kids (n := n) (by omega)
  obtain ⟨b0, o0, A0, c0, hA0, hbl0, p0, HI0, hs0, hne0⟩ := kid_here h hm IH hR (i := 0) (x := x) (by rw [hkids]; rfl)
  simp only [Nat.zero_mul, Nat.add_zero] at p0
  obtain ⟨b1, o1, A1, c1, hA1, hbl1, p1, HI1, hs1, hne1⟩ := kid_here h hm IH hR (i := 1) (x := y) (by rw [hkids]; rfl)
  simp only [Nat.one_mul] at p1
  subst hA0
  injection hA1 with hA1
  injection hA1 with e1 e2
  subst e1 e2
  have HV := Lib.hid (txt_6 hk hkids hne0 hne1)
  rw [hnum, show statB 0 = (⟨#[]⟩ : ByteArray) from rfl] at HV
  have hts2 : n.t.size ≤ 20 := name_short h hsh rfl
  obtain ⟨T, HT⟩ : ∃ T, Hid (sB (shw n) = T) := ⟨_, rfl⟩
  have hln : n.kids.length = 2 := by rw [hkids]; rfl
  have hb0 : Below w.heap.size w (w.alloc (.cells #[.int .i64 6, .string n.t, .int .i64 0, .slice (some ⟨b0, o0, none⟩) 2 c] 24)) := by (repeat (first | with_reducible assumption | with_reducible exact Below.refl _ _ | (refine Below.setCell ?_ (by first | omega | (simp; done) | (simp; omega)) _) | (refine Below.drewN_ ?_ _) | (refine Below.drew ?_) | (refine Below.alloc ?_ (by first | omega | (simp; done) | (simp; omega)) _)))
  have HB0 := Lib.hid hb0
  rw [HT.out] at HV ⊢
  rw [hln, hk, hnum]
  clear h hm IH hR hkids hne0 hne1 hk hsh hl hl2 hr hb0 hln hcap hlm hnum hn64 hts HT
  generalize sB (shw x) = X at *
  generalize sB (shw y) = Y at *
  have kq := Blk.new_ w 24 #[.int .i64 6, .string n.t, .int .i64 0, .slice (some ⟨b0, o0, none⟩) 2 c]
  have q : ((w.alloc (.cells #[.int .i64 6, .string n.t, .int .i64 0, .slice (some ⟨b0, o0, none⟩) 2 c] 24)).cell? ⟨w.heap.size, 0, none⟩ = some (.int .i64 6) ∧ (w.alloc (.cells #[.int .i64 6, .string n.t, .int .i64 0, .slice (some ⟨b0, o0, none⟩) 2 c] 24)).cell? ⟨w.heap.size, 1, none⟩ = some (.string n.t) ∧ (w.alloc (.cells #[.int .i64 6, .string n.t, .int .i64 0, .slice (some ⟨b0, o0, none⟩) 2 c] 24)).cell? ⟨w.heap.size, 2, none⟩ = some (.int .i64 0) ∧ (w.alloc (.cells #[.int .i64 6, .string n.t, .int .i64 0, .slice (some ⟨b0, o0, none⟩) 2 c] 24)).cell? ⟨w.heap.size, 3, none⟩ = some (.slice (some ⟨b0, o0, none⟩) 2 c)) := ⟨kq.cell 0 _ rfl, kq.cell 1 _ rfl, kq.cell 2 _ rfl, kq.cell 3 _ rfl⟩
  have HQ := Lib.hid q
  have HC := Lib.hid (keep4 HB0.out hbl0 p0)
  have HD := Lib.hid (keep4 HB0.out hbl0 p1)
  have HM1 := Lib.hid kq.lt
  have HN1 := Lib.hid (Nat.lt_trans hbl0 kq.lt)
  clear q kq p0 p1 hbl0 hbl1
  go_enter Tryd.func14, Tryd.ntmps14
  go_wp2_with fail
  generalize (w.alloc (.cells #[.int .i64 6, .string n.t, .int .i64 0, .slice (some ⟨b0, o0, none⟩) 2 c] 24)) = w1 at *
  have HI2 : Hid (∀ W, Below w1.heap.size w1 W → Calls Tryd.prog 14 #[.agg #[.int .i64 x.k, .string x.t, .int .i64 x.num, .slice A0 x.kids.length c0]] W fun e w' => e = .returned (.string X) ∧ Below W.heap.size W w') := fun W hW => HI0.out W (below_trans HB0.out (Nat.le_refl _) hW)
  have HI3 : Hid (∀ W, Below w1.heap.size w1 W → Calls Tryd.prog 14 #[.agg #[.int .i64 y.k, .string y.t, .int .i64 y.num, .slice A1 y.kids.length c1]] W fun e w' => e = .returned (.string Y) ∧ Below W.heap.size W w') := fun W hW => HI1.out W (below_trans HB0.out (Nat.le_refl _) hW)
  have e1 : ∀ w, (Op.stringOp .add ((⟨#[]⟩ : ByteArray)) X).run Tryd.prog w = .ok (.string ((⟨#[]⟩ : ByteArray) ++ X)) w := fun w => run_string_add_sum w _ _ (by (try simp only [ByteArray.size_append]); have : (⟨#[]⟩ : ByteArray).size = 0 := rfl; have : (⟨#[32]⟩ : ByteArray).size = 1 := rfl; have : (⟨#[32, 61, 32]⟩ : ByteArray).size = 3 := rfl; have : (⟨#[32, 59]⟩ : ByteArray).size = 2 := rfl; omega)
  have e2 : ∀ w, (Op.stringOp .add ((⟨#[]⟩ : ByteArray) ++ X) (⟨#[32]⟩ : ByteArray)).run Tryd.prog w = .ok (.string ((⟨#[]⟩ : ByteArray) ++ X ++ (⟨#[32]⟩ : ByteArray))) w := fun w => run_string_add_sum w _ _ (by (try simp only [ByteArray.size_append]); have : (⟨#[]⟩ : ByteArray).size = 0 := rfl; have : (⟨#[32]⟩ : ByteArray).size = 1 := rfl; have : (⟨#[32, 61, 32]⟩ : ByteArray).size = 3 := rfl; have : (⟨#[32, 59]⟩ : ByteArray).size = 2 := rfl; omega)
  have e3 : ∀ w, (Op.stringOp .add ((⟨#[]⟩ : ByteArray) ++ X ++ (⟨#[32]⟩ : ByteArray)) n.t).run Tryd.prog w = .ok (.string ((⟨#[]⟩ : ByteArray) ++ X ++ (⟨#[32]⟩ : ByteArray) ++ n.t)) w := fun w => run_string_add_sum w _ _ (by (try simp only [ByteArray.size_append]); have : (⟨#[]⟩ : ByteArray).size = 0 := rfl; have : (⟨#[32]⟩ : ByteArray).size = 1 := rfl; have : (⟨#[32, 61, 32]⟩ : ByteArray).size = 3 := rfl; have : (⟨#[32, 59]⟩ : ByteArray).size = 2 := rfl; omega)
  have e4 : ∀ w, (Op.stringOp .add ((⟨#[]⟩ : ByteArray) ++ X ++ (⟨#[32]⟩ : ByteArray) ++ n.t) (⟨#[32, 61, 32]⟩ : ByteArray)).run Tryd.prog w = .ok (.string ((⟨#[]⟩ : ByteArray) ++ X ++ (⟨#[32]⟩ : ByteArray) ++ n.t ++ (⟨#[32, 61, 32]⟩ : ByteArray))) w := fun w => run_string_add_sum w _ _ (by (try simp only [ByteArray.size_append]); have : (⟨#[]⟩ : ByteArray).size = 0 := rfl; have : (⟨#[32]⟩ : ByteArray).size = 1 := rfl; have : (⟨#[32, 61, 32]⟩ : ByteArray).size = 3 := rfl; have : (⟨#[32, 59]⟩ : ByteArray).size = 2 := rfl; omega)
  have e5 : ∀ w, (Op.stringOp .add ((⟨#[]⟩ : ByteArray) ++ X ++ (⟨#[32]⟩ : ByteArray) ++ n.t ++ (⟨#[32, 61, 32]⟩ : ByteArray)) Y).run Tryd.prog w = .ok (.string ((⟨#[]⟩ : ByteArray) ++ X ++ (⟨#[32]⟩ : ByteArray) ++ n.t ++ (⟨#[32, 61, 32]⟩ : ByteArray) ++ Y)) w := fun w => run_string_add_sum w _ _ (by (try simp only [ByteArray.size_append]); have : (⟨#[]⟩ : ByteArray).size = 0 := rfl; have : (⟨#[32]⟩ : ByteArray).size = 1 := rfl; have : (⟨#[32, 61, 32]⟩ : ByteArray).size = 3 := rfl; have : (⟨#[32, 59]⟩ : ByteArray).size = 2 := rfl; omega)
  have e6 : ∀ w, (Op.stringOp .add ((⟨#[]⟩ : ByteArray) ++ X ++ (⟨#[32]⟩ : ByteArray) ++ n.t ++ (⟨#[32, 61, 32]⟩ : ByteArray) ++ Y) (⟨#[32, 59]⟩ : ByteArray)).run Tryd.prog w = .ok (.string ((⟨#[]⟩ : ByteArray) ++ X ++ (⟨#[32]⟩ : ByteArray) ++ n.t ++ (⟨#[32, 61, 32]⟩ : ByteArray) ++ Y ++ (⟨#[32, 59]⟩ : ByteArray))) w := fun w => run_string_add_sum w _ _ (by (try simp only [ByteArray.size_append]); have : (⟨#[]⟩ : ByteArray).size = 0 := rfl; have : (⟨#[32]⟩ : ByteArray).size = 1 := rfl; have : (⟨#[32, 61, 32]⟩ : ByteArray).size = 3 := rfl; have : (⟨#[32, 59]⟩ : ByteArray).size = 2 := rfl; omega)
  have q := HQ.out
  have hc := HC.out
  have hd := HD.out
  have hm1 := HM1.out
  have hn1 := HN1.out
  go_region_held3 (fun W => Below w1.heap.size w1 W ∧ (W.cell? ⟨w.heap.size, 0, none⟩ = some (.int .i64 6) ∧ W.cell? ⟨w.heap.size, 1, none⟩ = some (.string n.t) ∧ W.cell? ⟨w.heap.size, 2, none⟩ = some (.int .i64 0) ∧ W.cell? ⟨w.heap.size, 3, none⟩ = some (.slice (some ⟨b0, o0, none⟩) 2 c)) ∧ (W.cell? ⟨b0, o0, none⟩ = some (.int .i64 x.k) ∧ W.cell? ⟨b0, o0 + 1, none⟩ = some (.string x.t) ∧ W.cell? ⟨b0, o0 + 2, none⟩ = some (.int .i64 x.num) ∧ W.cell? ⟨b0, o0 + 3, none⟩ = some (.slice A0 x.kids.length c0)) ∧ W.cell? ⟨b0, o0 + 4, none⟩ = some (.int .i64 y.k) ∧ W.cell? ⟨b0, o0 + 4 + 1, none⟩ = some (.string y.t) ∧ W.cell? ⟨b0, o0 + 4 + 2, none⟩ = some (.int .i64 y.num) ∧ W.cell? ⟨b0, o0 + 4 + 3, none⟩ = some (.slice A1 y.kids.length c1)) (first | exact ⟨(Below.refl _ _).drew, q, hc, hd⟩ | exact keepS2 hm1 hn1 hn1 (by assumption) hbq | exact ⟨Below.drew (And.left (by assumption)), And.right (by assumption)⟩ | go_keep) (first | (go_at_call 14; ((with_reducible refine (HI2.out _ (And.left (by assumption))).mono ?_); rintro e w' ⟨rfl, hbq⟩)) | (go_at_call 14; ((with_reducible refine (HI3.out _ (And.left (by assumption))).mono ?_); rintro e w' ⟨rfl, hbq⟩)))
  all_goals
    rename_i hh
    have B1 := Lib.hid (below_trans HB0.out (Nat.le_refl _) hh.1)
    go_wp2
    go_ret
    exact ⟨by rw [← HV.out]; rfl, B1.out⟩
theorem show_6_1 (n : Nd) (f : Bool) (h : isN n f = true) (hm : many n ≤ 700) (hk : n.k = 6) (hnum : n.num = 1) (IH : ∀ m ∈ n.kids, ShwOk m) : ShwOk n := by
  intro cs w hr
  obtain ⟨A, c, rfl, hR, hcap, hlm, hn64, hts⟩ := hr.four
  have hsh : shp n.k = some ⟨true, 1, 2, 2⟩ := by rw [hk]; rfl
  obtain ⟨hl, hl2⟩ := kids_at h hsh
  simp only at hl hl2
  obtain ⟨x, y, hkids⟩ := two_kids (n := n) (by omega)
  obtain ⟨b0, o0, A0, c0, hA0, hbl0, p0, HI0, hs0, hne0⟩ := kid_here h hm IH hR (i := 0) (x := x) (by rw [hkids]; rfl)
  simp only [Nat.zero_mul, Nat.add_zero] at p0
  obtain ⟨b1, o1, A1, c1, hA1, hbl1, p1, HI1, hs1, hne1⟩ := kid_here h hm IH hR (i := 1) (x := y) (by rw [hkids]; rfl)
  simp only [Nat.one_mul] at p1
  subst hA0
  injection hA1 with hA1
  injection hA1 with e1 e2
  subst e1 e2
  have HV := Lib.hid (txt_6 hk hkids hne0 hne1)
  rw [hnum, show statB 1 = (⟨#[115, 116, 97, 116, 105, 99, 32]⟩ : ByteArray) from rfl] at HV
  have hts2 : n.t.size ≤ 20 := name_short h hsh rfl
  obtain ⟨T, HT⟩ : ∃ T, Hid (sB (shw n) = T) := ⟨_, rfl⟩
  have hln : n.kids.length = 2 := by rw [hkids]; rfl
  have hb0 : Below w.heap.size w (w.alloc (.cells #[.int .i64 6, .string n.t, .int .i64 1, .slice (some ⟨b0, o0, none⟩) 2 c] 24)) := by (repeat (first | with_reducible assumption | with_reducible exact Below.refl _ _ | (refine Below.setCell ?_ (by first | omega | (simp; done) | (simp; omega)) _) | (refine Below.drewN_ ?_ _) | (refine Below.drew ?_) | (refine Below.alloc ?_ (by first | omega | (simp; done) | (simp; omega)) _)))
  have HB0 := Lib.hid hb0
  rw [HT.out] at HV ⊢
  rw [hln, hk, hnum]
  clear h hm IH hR hkids hne0 hne1 hk hsh hl hl2 hr hb0 hln hcap hlm hnum hn64 hts HT
  generalize sB (shw x) = X at *
  generalize sB (shw y) = Y at *
  have kq := Blk.new_ w 24 #[.int .i64 6, .string n.t, .int .i64 1, .slice (some ⟨b0, o0, none⟩) 2 c]
  have q : ((w.alloc (.cells #[.int .i64 6, .string n.t, .int .i64 1, .slice (some ⟨b0, o0, none⟩) 2 c] 24)).cell? ⟨w.heap.size, 0, none⟩ = some (.int .i64 6) ∧ (w.alloc (.cells #[.int .i64 6, .string n.t, .int .i64 1, .slice (some ⟨b0, o0, none⟩) 2 c] 24)).cell? ⟨w.heap.size, 1, none⟩ = some (.string n.t) ∧ (w.alloc (.cells #[.int .i64 6, .string n.t, .int .i64 1, .slice (some ⟨b0, o0, none⟩) 2 c] 24)).cell? ⟨w.heap.size, 2, none⟩ = some (.int .i64 1) ∧ (w.alloc (.cells #[.int .i64 6, .string n.t, .int .i64 1, .slice (some ⟨b0, o0, none⟩) 2 c] 24)).cell? ⟨w.heap.size, 3, none⟩ = some (.slice (some ⟨b0, o0, none⟩) 2 c)) := ⟨kq.cell 0 _ rfl, kq.cell 1 _ rfl, kq.cell 2 _ rfl, kq.cell 3 _ rfl⟩
  have HQ := Lib.hid q
  have HC := Lib.hid (keep4 HB0.out hbl0 p0)
  have HD := Lib.hid (keep4 HB0.out hbl0 p1)
  have HM1 := Lib.hid kq.lt
  have HN1 := Lib.hid (Nat.lt_trans hbl0 kq.lt)
  clear q kq p0 p1 hbl0 hbl1
  go_enter Tryd.func14, Tryd.ntmps14
  go_wp2_with fail
  generalize (w.alloc (.cells #[.int .i64 6, .string n.t, .int .i64 1, .slice (some ⟨b0, o0, none⟩) 2 c] 24)) = w1 at *
  have HI2 : Hid (∀ W, Below w1.heap.size w1 W → Calls Tryd.prog 14 #[.agg #[.int .i64 x.k, .string x.t, .int .i64 x.num, .slice A0 x.kids.length c0]] W fun e w' => e = .returned (.string X) ∧ Below W.heap.size W w') := fun W hW => HI0.out W (below_trans HB0.out (Nat.le_refl _) hW)
  have HI3 : Hid (∀ W, Below w1.heap.size w1 W → Calls Tryd.prog 14 #[.agg #[.int .i64 y.k, .string y.t, .int .i64 y.num, .slice A1 y.kids.length c1]] W fun e w' => e = .returned (.string Y) ∧ Below W.heap.size W w') := fun W hW => HI1.out W (below_trans HB0.out (Nat.le_refl _) hW)
  have e1 : ∀ w, (Op.stringOp .add ((⟨#[115, 116, 97, 116, 105, 99, 32]⟩ : ByteArray)) X).run Tryd.prog w = .ok (.string ((⟨#[115, 116, 97, 116, 105, 99, 32]⟩ : ByteArray) ++ X)) w := fun w => run_string_add_sum w _ _ (by (try simp only [ByteArray.size_append]); have : (⟨#[115, 116, 97, 116, 105, 99, 32]⟩ : ByteArray).size = 7 := rfl; have : (⟨#[32]⟩ : ByteArray).size = 1 := rfl; have : (⟨#[32, 61, 32]⟩ : ByteArray).size = 3 := rfl; have : (⟨#[32, 59]⟩ : ByteArray).size = 2 := rfl; omega)
  have e2 : ∀ w, (Op.stringOp .add ((⟨#[115, 116, 97, 116, 105, 99, 32]⟩ : ByteArray) ++ X) (⟨#[32]⟩ : ByteArray)).run Tryd.prog w = .ok (.string ((⟨#[115, 116, 97, 116, 105, 99, 32]⟩ : ByteArray) ++ X ++ (⟨#[32]⟩ : ByteArray))) w := fun w => run_string_add_sum w _ _ (by (try simp only [ByteArray.size_append]); have : (⟨#[115, 116, 97, 116, 105, 99, 32]⟩ : ByteArray).size = 7 := rfl; have : (⟨#[32]⟩ : ByteArray).size = 1 := rfl; have : (⟨#[32, 61, 32]⟩ : ByteArray).size = 3 := rfl; have : (⟨#[32, 59]⟩ : ByteArray).size = 2 := rfl; omega)
  have e3 : ∀ w, (Op.stringOp .add ((⟨#[115, 116, 97, 116, 105, 99, 32]⟩ : ByteArray) ++ X ++ (⟨#[32]⟩ : ByteArray)) n.t).run Tryd.prog w = .ok (.string ((⟨#[115, 116, 97, 116, 105, 99, 32]⟩ : ByteArray) ++ X ++ (⟨#[32]⟩ : ByteArray) ++ n.t)) w := fun w => run_string_add_sum w _ _ (by (try simp only [ByteArray.size_append]); have : (⟨#[115, 116, 97, 116, 105, 99, 32]⟩ : ByteArray).size = 7 := rfl; have : (⟨#[32]⟩ : ByteArray).size = 1 := rfl; have : (⟨#[32, 61, 32]⟩ : ByteArray).size = 3 := rfl; have : (⟨#[32, 59]⟩ : ByteArray).size = 2 := rfl; omega)
  have e4 : ∀ w, (Op.stringOp .add ((⟨#[115, 116, 97, 116, 105, 99, 32]⟩ : ByteArray) ++ X ++ (⟨#[32]⟩ : ByteArray) ++ n.t) (⟨#[32, 61, 32]⟩ : ByteArray)).run Tryd.prog w = .ok (.string ((⟨#[115, 116, 97, 116, 105, 99, 32]⟩ : ByteArray) ++ X ++ (⟨#[32]⟩ : ByteArray) ++ n.t ++ (⟨#[32, 61, 32]⟩ : ByteArray))) w := fun w => run_string_add_sum w _ _ (by (try simp only [ByteArray.size_append]); have : (⟨#[115, 116, 97, 116, 105, 99, 32]⟩ : ByteArray).size = 7 := rfl; have : (⟨#[32]⟩ : ByteArray).size = 1 := rfl; have : (⟨#[32, 61, 32]⟩ : ByteArray).size = 3 := rfl; have : (⟨#[32, 59]⟩ : ByteArray).size = 2 := rfl; omega)
  have e5 : ∀ w, (Op.stringOp .add ((⟨#[115, 116, 97, 116, 105, 99, 32]⟩ : ByteArray) ++ X ++ (⟨#[32]⟩ : ByteArray) ++ n.t ++ (⟨#[32, 61, 32]⟩ : ByteArray)) Y).run Tryd.prog w = .ok (.string ((⟨#[115, 116, 97, 116, 105, 99, 32]⟩ : ByteArray) ++ X ++ (⟨#[32]⟩ : ByteArray) ++ n.t ++ (⟨#[32, 61, 32]⟩ : ByteArray) ++ Y)) w := fun w => run_string_add_sum w _ _ (by (try simp only [ByteArray.size_append]); have : (⟨#[115, 116, 97, 116, 105, 99, 32]⟩ : ByteArray).size = 7 := rfl; have : (⟨#[32]⟩ : ByteArray).size = 1 := rfl; have : (⟨#[32, 61, 32]⟩ : ByteArray).size = 3 := rfl; have : (⟨#[32, 59]⟩ : ByteArray).size = 2 := rfl; omega)
  have e6 : ∀ w, (Op.stringOp .add ((⟨#[115, 116, 97, 116, 105, 99, 32]⟩ : ByteArray) ++ X ++ (⟨#[32]⟩ : ByteArray) ++ n.t ++ (⟨#[32, 61, 32]⟩ : ByteArray) ++ Y) (⟨#[32, 59]⟩ : ByteArray)).run Tryd.prog w = .ok (.string ((⟨#[115, 116, 97, 116, 105, 99, 32]⟩ : ByteArray) ++ X ++ (⟨#[32]⟩ : ByteArray) ++ n.t ++ (⟨#[32, 61, 32]⟩ : ByteArray) ++ Y ++ (⟨#[32, 59]⟩ : ByteArray))) w := fun w => run_string_add_sum w _ _ (by (try simp only [ByteArray.size_append]); have : (⟨#[115, 116, 97, 116, 105, 99, 32]⟩ : ByteArray).size = 7 := rfl; have : (⟨#[32]⟩ : ByteArray).size = 1 := rfl; have : (⟨#[32, 61, 32]⟩ : ByteArray).size = 3 := rfl; have : (⟨#[32, 59]⟩ : ByteArray).size = 2 := rfl; omega)
  have q := HQ.out
  have hc := HC.out
  have hd := HD.out
  have hm1 := HM1.out
  have hn1 := HN1.out
  go_region_held3 (fun W => Below w1.heap.size w1 W ∧ (W.cell? ⟨w.heap.size, 0, none⟩ = some (.int .i64 6) ∧ W.cell? ⟨w.heap.size, 1, none⟩ = some (.string n.t) ∧ W.cell? ⟨w.heap.size, 2, none⟩ = some (.int .i64 1) ∧ W.cell? ⟨w.heap.size, 3, none⟩ = some (.slice (some ⟨b0, o0, none⟩) 2 c)) ∧ (W.cell? ⟨b0, o0, none⟩ = some (.int .i64 x.k) ∧ W.cell? ⟨b0, o0 + 1, none⟩ = some (.string x.t) ∧ W.cell? ⟨b0, o0 + 2, none⟩ = some (.int .i64 x.num) ∧ W.cell? ⟨b0, o0 + 3, none⟩ = some (.slice A0 x.kids.length c0)) ∧ W.cell? ⟨b0, o0 + 4, none⟩ = some (.int .i64 y.k) ∧ W.cell? ⟨b0, o0 + 4 + 1, none⟩ = some (.string y.t) ∧ W.cell? ⟨b0, o0 + 4 + 2, none⟩ = some (.int .i64 y.num) ∧ W.cell? ⟨b0, o0 + 4 + 3, none⟩ = some (.slice A1 y.kids.length c1)) (first | exact ⟨(Below.refl _ _).drew, q, hc, hd⟩ | exact keepS2 hm1 hn1 hn1 (by assumption) hbq | exact ⟨Below.drew (And.left (by assumption)), And.right (by assumption)⟩ | go_keep) (first | (go_at_call 14; ((with_reducible refine (HI2.out _ (And.left (by assumption))).mono ?_); rintro e w' ⟨rfl, hbq⟩)) | (go_at_call 14; ((with_reducible refine (HI3.out _ (And.left (by assumption))).mono ?_); rintro e w' ⟨rfl, hbq⟩)))
  all_goals
    rename_i hh
    have B1 := Lib.hid (below_trans HB0.out (Nat.le_refl _) hh.1)
    go_wp2
    go_ret
    exact ⟨by rw [← HV.out]; rfl, B1.out⟩
theorem num_in {n : Nd} (h : isN n false = true) {s : Shp} (hs : shp n.k = some s) : 0 ≤ n.num ∧ (s.num < 0 ∨ n.num ≤ s.num) := by
  obtain ⟨s', hs', -, h1, -⟩ := isN_parts h
  rw [hs] at hs'
  injection hs' with e
  subst e
  unfold numB at h1
  simp only [Bool.and_eq_true, Bool.or_eq_true, decide_eq_true_eq, Bool.false_eq_true, false_and, if_false] at h1
  exact ⟨h1.1.1.1, h1.1.2⟩
end Go.Proofs.YtgegfbopogcjpaaDoor
