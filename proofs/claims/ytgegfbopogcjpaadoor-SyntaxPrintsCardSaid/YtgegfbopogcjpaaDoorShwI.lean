/- Show of dots and calls. -/
import Derived.Test.YtgegfbopogcjpaaDoorShwH
namespace Go.Proofs.YtgegfbopogcjpaaDoor
open Go.RowKit
set_option linter.unusedVariables false
set_option linter.unusedSimpArgs false
set_option maxRecDepth 100000
set_option maxHeartbeats 1000000
/-- a row of kids -/
theorem row_here {w : World} {l : List Nd} {A : Option Addr} {d : Bool} {c : Nat} (hR : RepNL w l A) (hn : l.length ≤ 90000) (IH : ∀ m ∈ l, ShwOk m) (hne : ∀ m ∈ l, shw m ≠ []) (hL : (sB (rowW (l.map shw) d)).size ≤ 200000) :
    Hid (∀ W, Below w.heap.size w W → Calls Tryd.prog 36 #[.slice A l.length c, .bool d] W fun e w' => e = .returned (.string (sB (rowW (l.map shw) d))) ∧ Below W.heap.size W w') :=
  fun W hb => row_any l d A c W (RepNL.keep hb _ _ hR) hn IH hne (by rw [← sB_size]; exact hL)
theorem text_le {n : Nd} {f : Bool} (h : isN n f = true) (hm : many n ≤ 700) : (sB (shw n)).size ≤ 200000 := by
  rw [sB_size]
  exact shw_long h hm
theorem kids_few {n : Nd} (hm : many n ≤ 700) : n.kids.length ≤ 700 := by
  have := wmany_eq n
  have := manyL_len n.kids
  omega
theorem kids_ne {n : Nd} {f : Bool} (h : isN n f = true) : ∀ m ∈ n.kids, shw m ≠ [] := by
  intro m hm
  obtain ⟨i, hi, rfl⟩ := List.getElem_of_mem hm
  exact kid_ne h hi
theorem show_24 (n : Nd) (f : Bool) (h : isN n f = true) (hm : many n ≤ 700) (hk : n.k = 24) (IH : ∀ m ∈ n.kids, ShwOk m) : ShwOk n := by
  intro cs w hr
  obtain ⟨A, c, rfl, hR, hcap, hlm, hn64, hts⟩ := hr.four
  have hsh : shp n.k = some ⟨true, 0, 1, 1⟩ := by rw [hk]; rfl
  obtain ⟨hl, hl2⟩ := kids_at h hsh
  simp only at hl hl2
  obtain ⟨x, hkids⟩ := one_kid (n := n) (by omega)
  obtain ⟨b0, o0, A0, c0, hA0, hbl0, p0, HI0, hs0, hne0⟩ := kid_at h hm IH hR (i := 0) (x := x) (by rw [hkids]; rfl) 4
  simp only [Nat.zero_mul, Nat.add_zero] at p0
  subst hA0
  have HV := Lib.hid (txt_24 hk hkids hne0)
  have hts2 : n.t.size ≤ 20 := name_short h hsh rfl
  obtain ⟨T, HT⟩ : ∃ T, Hid (sB (shw n) = T) := ⟨_, rfl⟩
  have hln : n.kids.length = 1 := by rw [hkids]; rfl
  rw [HT.out] at HV ⊢
  rw [hln, hk]
  clear h hm IH hR hkids hne0 hk hsh hl hl2 hr hln hcap hlm hts HT
  generalize sB (atW 4 (bindN x) (shw x)) = X at *
  have kq := Blk.new_ w 24 #[.int .i64 24, .string n.t, .int .i64 n.num, .slice (some ⟨b0, o0, none⟩) (1) c]
  have hb0 : Below w.heap.size w (w.alloc (.cells #[.int .i64 24, .string n.t, .int .i64 n.num, .slice (some ⟨b0, o0, none⟩) (1) c] 24)) := by (repeat (first | with_reducible assumption | with_reducible exact Below.refl _ _ | (refine Below.setCell ?_ (by first | omega | (simp; done) | (simp; omega)) _) | (refine Below.drewN_ ?_ _) | (refine Below.drew ?_) | (refine Below.alloc ?_ (by first | omega | (simp; done) | (simp; omega)) _)))
  have HB0 := Lib.hid hb0
  have HQ := Lib.hid (And.intro (kq.cell 0 _ rfl) (And.intro (kq.cell 1 _ rfl) (And.intro (kq.cell 2 _ rfl) (kq.cell 3 _ rfl))))
  have HM1 := Lib.hid kq.lt
  have HC0 := Lib.hid (keep4 hb0 hbl0 p0)
  have HN1 := Lib.hid (Nat.lt_trans hbl0 kq.lt)
  clear kq hb0 p0 hbl0
  go_enter Tryd.func14, Tryd.ntmps14
  go_wp2_with fail
  generalize (w.alloc (.cells #[.int .i64 24, .string n.t, .int .i64 n.num, .slice (some ⟨b0, o0, none⟩) (1) c] 24)) = w1 at *
  have HI2 : Hid (∀ W, Below w1.heap.size w1 W → Calls Tryd.prog 38 #[.agg #[.int .i64 x.k, .string x.t, .int .i64 x.num, .slice A0 x.kids.length c0], .int .i64 4] W fun e w' => e = .returned (.string X) ∧ Below W.heap.size W w') := fun W hW => HI0.out W (below_trans HB0.out (Nat.le_refl _) hW)
  have e1 : ∀ w, (Op.stringOp .add (X) (⟨#[32, 46, 32]⟩ : ByteArray)).run Tryd.prog w = .ok (.string (X ++ (⟨#[32, 46, 32]⟩ : ByteArray))) w := fun w => run_string_add_sum w _ _ (by (try simp only [ByteArray.size_append]); have : (⟨#[32, 46, 32]⟩ : ByteArray).size = 3 := rfl; omega)
  have e2 : ∀ w, (Op.stringOp .add (X ++ (⟨#[32, 46, 32]⟩ : ByteArray)) n.t).run Tryd.prog w = .ok (.string (X ++ (⟨#[32, 46, 32]⟩ : ByteArray) ++ n.t)) w := fun w => run_string_add_sum w _ _ (by (try simp only [ByteArray.size_append]); have : (⟨#[32, 46, 32]⟩ : ByteArray).size = 3 := rfl; omega)
  have q := HQ.out
  have hc0 := HC0.out
  have hm1 := HM1.out
  have hn1 := HN1.out
  go_region_held3 (fun W => Below w1.heap.size w1 W ∧ (W.cell? ⟨w.heap.size, 0, none⟩ = some (.int .i64 24) ∧ W.cell? ⟨w.heap.size, 1, none⟩ = some (.string n.t) ∧ W.cell? ⟨w.heap.size, 2, none⟩ = some (.int .i64 n.num) ∧ W.cell? ⟨w.heap.size, 3, none⟩ = some (.slice (some ⟨b0, o0, none⟩) (1) c)) ∧ W.cell? ⟨b0, o0, none⟩ = some (.int .i64 x.k) ∧ W.cell? ⟨b0, o0 + 1, none⟩ = some (.string x.t) ∧ W.cell? ⟨b0, o0 + 2, none⟩ = some (.int .i64 x.num) ∧ W.cell? ⟨b0, o0 + 3, none⟩ = some (.slice A0 x.kids.length c0)) (first | exact ⟨(Below.refl _ _).drew, q, hc0⟩ | exact keepS hm1 hn1 (by assumption) hbq | exact ⟨Below.drew (And.left (by assumption)), And.right (by assumption)⟩ | go_keep) (first | (go_at_call 38; ((with_reducible refine (HI2.out _ (And.left (by assumption))).mono ?_); rintro e w' ⟨rfl, hbq⟩)))
  all_goals
    rename_i hh
    have B1 := Lib.hid (below_trans HB0.out (Nat.le_refl _) hh.1)
    go_wp2
    go_ret
    exact ⟨by rw [← HV.out]; rfl, B1.out⟩
theorem show_25 (n : Nd) (f : Bool) (h : isN n f = true) (hm : many n ≤ 700) (hk : n.k = 25) (IH : ∀ m ∈ n.kids, ShwOk m) : ShwOk n := by
  intro cs w hr
  obtain ⟨A, c, rfl, hR, hcap, hlm, hn64, hts⟩ := hr.four
  have hsh : shp n.k = some ⟨false, 0, 1, -1⟩ := by rw [hk]; rfl
  obtain ⟨hl, hl2⟩ := kids_at h hsh
  simp only at hl hl2
  obtain ⟨x, l, hkids⟩ : ∃ x l, n.kids = x :: l := by
    rcases hh : n.kids with _ | ⟨x, l⟩
    · rw [hh] at hl; simp at hl
    · exact ⟨x, l, rfl⟩
  obtain ⟨b0, o0, A0, c0, hA0, hbl0, p0, HI0, hs0, hne0⟩ := kid_at h hm IH hR (i := 0) (x := x) (by rw [hkids]; rfl) 4
  simp only [Nat.zero_mul, Nat.add_zero] at p0
  subst hA0
  have hV := txt_25 hk hkids hne0
  have hfew := kids_few hm
  have hR2 : RepNL w l (some ⟨b0, o0 + 4, none⟩) := by
    have hr2 := hR
    rw [hkids] at hr2
    unfold RepNL at hr2
    obtain ⟨b, o, cs, e, -, -, -, h2⟩ := hr2
    injection e with e
    injection e with e1 e2
    subst e1 e2
    exact h2
  have hln : n.kids.length = l.length + 1 := by rw [hkids]; rfl
  have hRs : (sB (rowW (l.map shw) false)).size ≤ 200000 := by
    have h1 := text_le h hm
    rw [← hV] at h1
    simp only [ByteArray.size_append] at h1
    omega
  have RW := row_here (c := c - 1) hR2 (by omega) (fun m hm' => IH m (by rw [hkids]; simp [hm'])) (fun m hm' => kids_ne h m (by rw [hkids]; simp [hm'])) hRs
  have RW0 : Hid (l.length + 1 ≤ 1 → ∀ W, Below w.heap.size w W → Calls Tryd.prog 36 #[.slice (some ⟨b0, o0, none⟩) 0 0, .bool false] W fun e w' => e = .returned (.string (sB (rowW (l.map shw) false))) ∧ Below W.heap.size W w') := by
    intro h0
    have hl0 : l = [] := List.eq_nil_of_length_eq_zero (by omega)
    subst hl0
    exact (row_here (c := 0) (A := some ⟨b0, o0, none⟩) (w := w) (l := []) (by unfold RepNL; trivial) (by simp) (by simp) (by simp) hRs).out
  have HV := Lib.hid hV
  obtain ⟨T, HT⟩ : ∃ T, Hid (sB (shw n) = T) := ⟨_, rfl⟩
  have hll : l.length ≤ 700 := by omega
  rw [hln] at hcap
  rw [HT.out] at HV ⊢
  rw [hln, hk]
  clear h hm IH hR hR2 hkids hne0 hk hsh hl hl2 hr hln hlm hts HT hV hfew
  generalize sB (atW 4 (bindN x) (shw x)) = X at *
  generalize sB (rowW (l.map shw) false) = Y at *
  generalize l.length = k at *
  by_cases hc1 : c = 1
  · subst hc1
    have kq := Blk.new_ w 24 #[.int .i64 25, .string n.t, .int .i64 n.num, .slice (some ⟨b0, o0, none⟩) (k + 1) 1]
    have hb0 : Below w.heap.size w (w.alloc (.cells #[.int .i64 25, .string n.t, .int .i64 n.num, .slice (some ⟨b0, o0, none⟩) (k + 1) 1] 24)) := by (repeat (first | with_reducible assumption | with_reducible exact Below.refl _ _ | (refine Below.setCell ?_ (by first | omega | (simp; done) | (simp; omega)) _) | (refine Below.drewN_ ?_ _) | (refine Below.drew ?_) | (refine Below.alloc ?_ (by first | omega | (simp; done) | (simp; omega)) _)))
    have HB0 := Lib.hid hb0
    have HQ := Lib.hid (And.intro (kq.cell 0 _ rfl) (And.intro (kq.cell 1 _ rfl) (And.intro (kq.cell 2 _ rfl) (kq.cell 3 _ rfl))))
    have HM1 := Lib.hid kq.lt
    have HC0 := Lib.hid (keep4 hb0 hbl0 p0)
    have HN1 := Lib.hid (Nat.lt_trans hbl0 kq.lt)
    clear kq hb0 p0 hbl0
    have i1 : (0 : Int) < (k : Int) + 1 := by omega
    have i2 : (1 : Int) ≤ (k : Int) + 1 := by omega
    have i3 : (k : Int) + 1 ≤ ((1 : Nat) : Int) := by omega
    go_enter Tryd.func14, Tryd.ntmps14
    go_wp2_with fail
    generalize (w.alloc (.cells #[.int .i64 25, .string n.t, .int .i64 n.num, .slice (some ⟨b0, o0, none⟩) (k + 1) 1] 24)) = w1 at *
    have HI2 : Hid (∀ W, Below w1.heap.size w1 W → Calls Tryd.prog 38 #[.agg #[.int .i64 x.k, .string x.t, .int .i64 x.num, .slice A0 x.kids.length c0], .int .i64 4] W fun e w' => e = .returned (.string X) ∧ Below W.heap.size W w') := fun W hW => HI0.out W (below_trans HB0.out (Nat.le_refl _) hW)
    have RW2 : Hid (∀ W, Below w1.heap.size w1 W → Calls Tryd.prog 36 #[.slice (some ⟨b0, o0, none⟩) 0 0, .bool false] W fun e w' => e = .returned (.string Y) ∧ Below W.heap.size W w') := fun W hW => RW0.out hcap W (below_trans HB0.out (Nat.le_refl _) hW)
    have e1 : ∀ w, (Op.stringOp .add (X) (⟨#[32]⟩ : ByteArray)).run Tryd.prog w = .ok (.string (X ++ (⟨#[32]⟩ : ByteArray))) w := fun w => run_string_add_sum w _ _ (by (try simp only [ByteArray.size_append]); have : (⟨#[32]⟩ : ByteArray).size = 1 := rfl; omega)
    have e2 : ∀ w, (Op.stringOp .add (X ++ (⟨#[32]⟩ : ByteArray)) Y).run Tryd.prog w = .ok (.string (X ++ (⟨#[32]⟩ : ByteArray) ++ Y)) w := fun w => run_string_add_sum w _ _ (by (try simp only [ByteArray.size_append]); have : (⟨#[32]⟩ : ByteArray).size = 1 := rfl; omega)
    have q := HQ.out
    have hc0 := HC0.out
    have hm1 := HM1.out
    have hn1 := HN1.out
    go_region_held3 (fun W => Below w1.heap.size w1 W ∧ (W.cell? ⟨w.heap.size, 0, none⟩ = some (.int .i64 25) ∧ W.cell? ⟨w.heap.size, 1, none⟩ = some (.string n.t) ∧ W.cell? ⟨w.heap.size, 2, none⟩ = some (.int .i64 n.num) ∧ W.cell? ⟨w.heap.size, 3, none⟩ = some (.slice (some ⟨b0, o0, none⟩) (k + 1) 1)) ∧ W.cell? ⟨b0, o0, none⟩ = some (.int .i64 x.k) ∧ W.cell? ⟨b0, o0 + 1, none⟩ = some (.string x.t) ∧ W.cell? ⟨b0, o0 + 2, none⟩ = some (.int .i64 x.num) ∧ W.cell? ⟨b0, o0 + 3, none⟩ = some (.slice A0 x.kids.length c0)) (first | exact ⟨(Below.refl _ _).drew, q, hc0⟩ | exact keepS hm1 hn1 (by assumption) hbq | exact ⟨Below.drew (And.left (by assumption)), And.right (by assumption)⟩ | go_keep) (first | (go_at_call 38; ((with_reducible refine (HI2.out _ (And.left (by assumption))).mono ?_); rintro e w' ⟨rfl, hbq⟩)) | (go_at_call 36; ((with_reducible refine (RW2.out _ (And.left (by assumption))).mono ?_); rintro e w' ⟨rfl, hbq⟩)))
    all_goals
      rename_i hh
      have B1 := Lib.hid (below_trans HB0.out (Nat.le_refl _) hh.1)
      go_wp2
      go_ret
      exact ⟨by rw [← HV.out]; rfl, B1.out⟩
  · skip
    have kq := Blk.new_ w 24 #[.int .i64 25, .string n.t, .int .i64 n.num, .slice (some ⟨b0, o0, none⟩) (k + 1) c]
    have hb0 : Below w.heap.size w (w.alloc (.cells #[.int .i64 25, .string n.t, .int .i64 n.num, .slice (some ⟨b0, o0, none⟩) (k + 1) c] 24)) := by (repeat (first | with_reducible assumption | with_reducible exact Below.refl _ _ | (refine Below.setCell ?_ (by first | omega | (simp; done) | (simp; omega)) _) | (refine Below.drewN_ ?_ _) | (refine Below.drew ?_) | (refine Below.alloc ?_ (by first | omega | (simp; done) | (simp; omega)) _)))
    have HB0 := Lib.hid hb0
    have HQ := Lib.hid (And.intro (kq.cell 0 _ rfl) (And.intro (kq.cell 1 _ rfl) (And.intro (kq.cell 2 _ rfl) (kq.cell 3 _ rfl))))
    have HM1 := Lib.hid kq.lt
    have HC0 := Lib.hid (keep4 hb0 hbl0 p0)
    have HN1 := Lib.hid (Nat.lt_trans hbl0 kq.lt)
    clear kq hb0 p0 hbl0
    have i1 : (0 : Int) < (k : Int) + 1 := by omega
    have i2 : (1 : Int) ≤ (k : Int) + 1 := by omega
    have i3 : (k : Int) + 1 ≤ (c : Int) := by omega
    go_enter Tryd.func14, Tryd.ntmps14
    go_wp2_with fail
    generalize (w.alloc (.cells #[.int .i64 25, .string n.t, .int .i64 n.num, .slice (some ⟨b0, o0, none⟩) (k + 1) c] 24)) = w1 at *
    have HI2 : Hid (∀ W, Below w1.heap.size w1 W → Calls Tryd.prog 38 #[.agg #[.int .i64 x.k, .string x.t, .int .i64 x.num, .slice A0 x.kids.length c0], .int .i64 4] W fun e w' => e = .returned (.string X) ∧ Below W.heap.size W w') := fun W hW => HI0.out W (below_trans HB0.out (Nat.le_refl _) hW)
    have RW2 : Hid (∀ W, Below w1.heap.size w1 W → Calls Tryd.prog 36 #[.slice (some ⟨b0, o0 + 4, none⟩) k (c - 1), .bool false] W fun e w' => e = .returned (.string Y) ∧ Below W.heap.size W w') := fun W hW => RW.out W (below_trans HB0.out (Nat.le_refl _) hW)
    have e1 : ∀ w, (Op.stringOp .add (X) (⟨#[32]⟩ : ByteArray)).run Tryd.prog w = .ok (.string (X ++ (⟨#[32]⟩ : ByteArray))) w := fun w => run_string_add_sum w _ _ (by (try simp only [ByteArray.size_append]); have : (⟨#[32]⟩ : ByteArray).size = 1 := rfl; omega)
    have e2 : ∀ w, (Op.stringOp .add (X ++ (⟨#[32]⟩ : ByteArray)) Y).run Tryd.prog w = .ok (.string (X ++ (⟨#[32]⟩ : ByteArray) ++ Y)) w := fun w => run_string_add_sum w _ _ (by (try simp only [ByteArray.size_append]); have : (⟨#[32]⟩ : ByteArray).size = 1 := rfl; omega)
    have q := HQ.out
    have hc0 := HC0.out
    have hm1 := HM1.out
    have hn1 := HN1.out
    go_region_held3 (fun W => Below w1.heap.size w1 W ∧ (W.cell? ⟨w.heap.size, 0, none⟩ = some (.int .i64 25) ∧ W.cell? ⟨w.heap.size, 1, none⟩ = some (.string n.t) ∧ W.cell? ⟨w.heap.size, 2, none⟩ = some (.int .i64 n.num) ∧ W.cell? ⟨w.heap.size, 3, none⟩ = some (.slice (some ⟨b0, o0, none⟩) (k + 1) c)) ∧ W.cell? ⟨b0, o0, none⟩ = some (.int .i64 x.k) ∧ W.cell? ⟨b0, o0 + 1, none⟩ = some (.string x.t) ∧ W.cell? ⟨b0, o0 + 2, none⟩ = some (.int .i64 x.num) ∧ W.cell? ⟨b0, o0 + 3, none⟩ = some (.slice A0 x.kids.length c0)) (first | exact ⟨(Below.refl _ _).drew, q, hc0⟩ | exact keepS hm1 hn1 (by assumption) hbq | exact ⟨Below.drew (And.left (by assumption)), And.right (by assumption)⟩ | go_keep) (first | (go_at_call 38; ((with_reducible refine (HI2.out _ (And.left (by assumption))).mono ?_); rintro e w' ⟨rfl, hbq⟩)) | (go_at_call 36; ((with_reducible refine (RW2.out _ (And.left (by assumption))).mono ?_); rintro e w' ⟨rfl, hbq⟩)))
    all_goals
      rename_i hh
      have B1 := Lib.hid (below_trans HB0.out (Nat.le_refl _) hh.1)
      go_wp2
      go_ret
      exact ⟨by rw [← HV.out]; rfl, B1.out⟩
end Go.Proofs.YtgegfbopogcjpaaDoor
