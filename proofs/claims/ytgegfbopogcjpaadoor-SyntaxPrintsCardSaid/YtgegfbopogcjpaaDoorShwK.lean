/- Show of rows. -/
import Derived.Test.YtgegfbopogcjpaaDoorShwJ
namespace Go.Proofs.YtgegfbopogcjpaaDoor
open Go.RowKit
set_option linter.unusedVariables false
set_option linter.unusedSimpArgs false
set_option maxRecDepth 100000
set_option maxHeartbeats 1000000
theorem split_last {α : Type} {l : List α} (h : 1 ≤ l.length) : ∃ a x, l = a ++ [x] := by
  have hne : l ≠ [] := by intro e; rw [e] at h; simp at h
  exact ⟨l.dropLast, l.getLast hne, (List.dropLast_concat_getLast hne).symm⟩
theorem split_last2 {α : Type} {l : List α} (h : 2 ≤ l.length) : ∃ a x y, l = a ++ [x, y] := by
  obtain ⟨b, y, rfl⟩ := split_last (l := l) (by omega)
  obtain ⟨a, x, rfl⟩ := split_last (l := b) (by simp at h; omega)
  exact ⟨a, x, y, by simp⟩
theorem RepNL.front {w : World} {ns l r : List Nd} {A : Option Addr} (h : RepNL w ns A) (e : ns = l ++ r) : RepNL w l A := by
  have := RepNL.take ns A l.length h
  rw [e, List.take_left] at this
  exact this
theorem show_4_0 (n : Nd) (f : Bool) (h : isN n f = true) (hm : many n ≤ 700) (hk : n.k = 4) (hnum : n.num = 0) (IH : ∀ m ∈ n.kids, ShwOk m) : ShwOk n := by
  intro cs w hr
  obtain ⟨A, c, rfl, hR, hcap, hlm, hn64, hts⟩ := hr.four
  have hsh : shp n.k = some ⟨true, 1, 1, -1⟩ := by rw [hk]; rfl
  obtain ⟨hl, hl2⟩ := kids_at h hsh
  simp only at hl hl2
  obtain ⟨l, x, hkids⟩ := split_last (l := n.kids) (by omega)
  obtain ⟨b0, o0, A0, c0, hA0, hbl0, p0, HI0, hs0, hne0⟩ := kid_here h hm IH hR (i := l.length) (x := x) (by rw [hkids]; simp)
  subst hA0
  have hV := txt_4 hk hkids hne0
  rw [hnum] at hV
  have hV2 : (⟨#[101, 120, 116, 101, 114, 110, 32]⟩ : ByteArray) ++ sB (shw x) ++ (⟨#[32]⟩ : ByteArray) ++ n.t ++ (⟨#[32]⟩ : ByteArray) ++ sB (rowW (l.map shw) false) ++ (⟨#[32, 59]⟩ : ByteArray) = sB (shw n) := hV
  clear hV
  have hfew := kids_few hm
  have hR2 := RepNL.front hR hkids
  have hln : n.kids.length = l.length + 1 := by rw [hkids]; simp
  have hts2 : n.t.size ≤ 20 := name_short h hsh rfl
  have hRs : (sB (rowW (l.map shw) false)).size ≤ 200000 := by
    have h1 := text_le h hm
    rw [← hV2] at h1
    simp only [ByteArray.size_append] at h1
    omega
  have RW := row_here (c := c) hR2 (by omega) (fun m hm' => IH m (by rw [hkids]; simp [hm'])) (fun m hm' => kids_ne h m (by rw [hkids]; simp [hm'])) hRs
  have HV := Lib.hid hV2
  obtain ⟨T, HT⟩ : ∃ T, Hid (sB (shw n) = T) := ⟨_, rfl⟩
  have hll : l.length ≤ 700 := by omega
  rw [hln] at hcap
  rw [HT.out] at HV ⊢
  rw [hln, hk, hnum]
  clear h hm IH hR hR2 hkids hne0 hk hsh hl hl2 hr hln hlm hts HT hV2 hfew hnum hn64
  generalize sB (shw x) = X at *
  skip
  generalize sB (rowW (l.map shw) false) = Y at *
  generalize l.length = k at *
  have kq := Blk.new_ w 24 #[.int .i64 4, .string n.t, .int .i64 0, .slice (some ⟨b0, o0, none⟩) (k + 1) c]
  have hb0 : Below w.heap.size w (w.alloc (.cells #[.int .i64 4, .string n.t, .int .i64 0, .slice (some ⟨b0, o0, none⟩) (k + 1) c] 24)) := by (repeat (first | with_reducible assumption | with_reducible exact Below.refl _ _ | (refine Below.setCell ?_ (by first | omega | (simp; done) | (simp; omega)) _) | (refine Below.drewN_ ?_ _) | (refine Below.drew ?_) | (refine Below.alloc ?_ (by first | omega | (simp; done) | (simp; omega)) _)))
  have HB0 := Lib.hid hb0
  have HQ := Lib.hid (And.intro (kq.cell 0 _ rfl) (And.intro (kq.cell 1 _ rfl) (And.intro (kq.cell 2 _ rfl) (kq.cell 3 _ rfl))))
  have HM1 := Lib.hid kq.lt
  have HC0 := Lib.hid (keep4 hb0 hbl0 p0)
  skip
  have HN1 := Lib.hid (Nat.lt_trans hbl0 kq.lt)
  clear kq hb0 p0 hbl0
  have i1 : (0 : Int) ≤ (k : Int) := by omega
  have i2 : (k : Int) < (k : Int) + 1 := by omega
  have i3 : (k : Int) ≤ (c : Int) := by omega
  have i4 : IntKind.i64.wrap ((k : Int) + 1 - 1) = (k : Int) := by rw [Int.add_sub_cancel]; exact IntWalk.i64_in _ (by omega)
  go_enter Tryd.func14, Tryd.ntmps14
  go_wp2_with fail
  generalize (w.alloc (.cells #[.int .i64 4, .string n.t, .int .i64 0, .slice (some ⟨b0, o0, none⟩) (k + 1) c] 24)) = w1 at *
  have HI2 : Hid (∀ W, Below w1.heap.size w1 W → Calls Tryd.prog 14 #[.agg #[.int .i64 x.k, .string x.t, .int .i64 x.num, .slice A0 x.kids.length c0]] W fun e w' => e = .returned (.string X) ∧ Below W.heap.size W w') := fun W hW => HI0.out W (below_trans HB0.out (Nat.le_refl _) hW)
  have RW2 : Hid (∀ W, Below w1.heap.size w1 W → Calls Tryd.prog 36 #[.slice (some ⟨b0, o0, none⟩) k c, .bool false] W fun e w' => e = .returned (.string Y) ∧ Below W.heap.size W w') := fun W hW => RW.out W (below_trans HB0.out (Nat.le_refl _) hW)
  have e1 : ∀ w, (Op.stringOp .add ((⟨#[101, 120, 116, 101, 114, 110, 32]⟩ : ByteArray)) X).run Tryd.prog w = .ok (.string ((⟨#[101, 120, 116, 101, 114, 110, 32]⟩ : ByteArray) ++ X)) w := fun w => run_string_add_sum w _ _ (by (try simp only [ByteArray.size_append]); have : (⟨#[101, 120, 116, 101, 114, 110, 32]⟩ : ByteArray).size = 7 := rfl; have : (⟨#[32]⟩ : ByteArray).size = 1 := rfl; have : (⟨#[32]⟩ : ByteArray).size = 1 := rfl; have : (⟨#[32, 59]⟩ : ByteArray).size = 2 := rfl; omega)
  have e2 : ∀ w, (Op.stringOp .add ((⟨#[101, 120, 116, 101, 114, 110, 32]⟩ : ByteArray) ++ X) (⟨#[32]⟩ : ByteArray)).run Tryd.prog w = .ok (.string ((⟨#[101, 120, 116, 101, 114, 110, 32]⟩ : ByteArray) ++ X ++ (⟨#[32]⟩ : ByteArray))) w := fun w => run_string_add_sum w _ _ (by (try simp only [ByteArray.size_append]); have : (⟨#[101, 120, 116, 101, 114, 110, 32]⟩ : ByteArray).size = 7 := rfl; have : (⟨#[32]⟩ : ByteArray).size = 1 := rfl; have : (⟨#[32]⟩ : ByteArray).size = 1 := rfl; have : (⟨#[32, 59]⟩ : ByteArray).size = 2 := rfl; omega)
  have e3 : ∀ w, (Op.stringOp .add ((⟨#[101, 120, 116, 101, 114, 110, 32]⟩ : ByteArray) ++ X ++ (⟨#[32]⟩ : ByteArray)) n.t).run Tryd.prog w = .ok (.string ((⟨#[101, 120, 116, 101, 114, 110, 32]⟩ : ByteArray) ++ X ++ (⟨#[32]⟩ : ByteArray) ++ n.t)) w := fun w => run_string_add_sum w _ _ (by (try simp only [ByteArray.size_append]); have : (⟨#[101, 120, 116, 101, 114, 110, 32]⟩ : ByteArray).size = 7 := rfl; have : (⟨#[32]⟩ : ByteArray).size = 1 := rfl; have : (⟨#[32]⟩ : ByteArray).size = 1 := rfl; have : (⟨#[32, 59]⟩ : ByteArray).size = 2 := rfl; omega)
  have e4 : ∀ w, (Op.stringOp .add ((⟨#[101, 120, 116, 101, 114, 110, 32]⟩ : ByteArray) ++ X ++ (⟨#[32]⟩ : ByteArray) ++ n.t) (⟨#[32]⟩ : ByteArray)).run Tryd.prog w = .ok (.string ((⟨#[101, 120, 116, 101, 114, 110, 32]⟩ : ByteArray) ++ X ++ (⟨#[32]⟩ : ByteArray) ++ n.t ++ (⟨#[32]⟩ : ByteArray))) w := fun w => run_string_add_sum w _ _ (by (try simp only [ByteArray.size_append]); have : (⟨#[101, 120, 116, 101, 114, 110, 32]⟩ : ByteArray).size = 7 := rfl; have : (⟨#[32]⟩ : ByteArray).size = 1 := rfl; have : (⟨#[32]⟩ : ByteArray).size = 1 := rfl; have : (⟨#[32, 59]⟩ : ByteArray).size = 2 := rfl; omega)
  have e5 : ∀ w, (Op.stringOp .add ((⟨#[101, 120, 116, 101, 114, 110, 32]⟩ : ByteArray) ++ X ++ (⟨#[32]⟩ : ByteArray) ++ n.t ++ (⟨#[32]⟩ : ByteArray)) Y).run Tryd.prog w = .ok (.string ((⟨#[101, 120, 116, 101, 114, 110, 32]⟩ : ByteArray) ++ X ++ (⟨#[32]⟩ : ByteArray) ++ n.t ++ (⟨#[32]⟩ : ByteArray) ++ Y)) w := fun w => run_string_add_sum w _ _ (by (try simp only [ByteArray.size_append]); have : (⟨#[101, 120, 116, 101, 114, 110, 32]⟩ : ByteArray).size = 7 := rfl; have : (⟨#[32]⟩ : ByteArray).size = 1 := rfl; have : (⟨#[32]⟩ : ByteArray).size = 1 := rfl; have : (⟨#[32, 59]⟩ : ByteArray).size = 2 := rfl; omega)
  have e6 : ∀ w, (Op.stringOp .add ((⟨#[101, 120, 116, 101, 114, 110, 32]⟩ : ByteArray) ++ X ++ (⟨#[32]⟩ : ByteArray) ++ n.t ++ (⟨#[32]⟩ : ByteArray) ++ Y) (⟨#[32, 59]⟩ : ByteArray)).run Tryd.prog w = .ok (.string ((⟨#[101, 120, 116, 101, 114, 110, 32]⟩ : ByteArray) ++ X ++ (⟨#[32]⟩ : ByteArray) ++ n.t ++ (⟨#[32]⟩ : ByteArray) ++ Y ++ (⟨#[32, 59]⟩ : ByteArray))) w := fun w => run_string_add_sum w _ _ (by (try simp only [ByteArray.size_append]); have : (⟨#[101, 120, 116, 101, 114, 110, 32]⟩ : ByteArray).size = 7 := rfl; have : (⟨#[32]⟩ : ByteArray).size = 1 := rfl; have : (⟨#[32]⟩ : ByteArray).size = 1 := rfl; have : (⟨#[32, 59]⟩ : ByteArray).size = 2 := rfl; omega)
  have q := HQ.out
  have hc0 := HC0.out
  skip
  have hm1 := HM1.out
  have hn1 := HN1.out
  go_region_held3 (fun W => Below w1.heap.size w1 W ∧ (W.cell? ⟨w.heap.size, 0, none⟩ = some (.int .i64 4) ∧ W.cell? ⟨w.heap.size, 1, none⟩ = some (.string n.t) ∧ W.cell? ⟨w.heap.size, 2, none⟩ = some (.int .i64 0) ∧ W.cell? ⟨w.heap.size, 3, none⟩ = some (.slice (some ⟨b0, o0, none⟩) (k + 1) c)) ∧ W.cell? ⟨b0, o0 + k * 4, none⟩ = some (.int .i64 x.k) ∧ W.cell? ⟨b0, o0 + k * 4 + 1, none⟩ = some (.string x.t) ∧ W.cell? ⟨b0, o0 + k * 4 + 2, none⟩ = some (.int .i64 x.num) ∧ W.cell? ⟨b0, o0 + k * 4 + 3, none⟩ = some (.slice A0 x.kids.length c0)) (first | exact ⟨(Below.refl _ _).drew, q, hc0⟩ | exact keepS hm1 hn1 (by assumption) hbq | exact ⟨Below.drew (And.left (by assumption)), And.right (by assumption)⟩ | go_keep) (first | (go_at_call 14; ((with_reducible refine (HI2.out _ (And.left (by assumption))).mono ?_); rintro e w' ⟨rfl, hbq⟩)) | (go_at_call 36; ((with_reducible refine (RW2.out _ (And.left (by assumption))).mono ?_); rintro e w' ⟨rfl, hbq⟩)))
  all_goals
    rename_i hh
    have B1 := Lib.hid (below_trans HB0.out (Nat.le_refl _) hh.1)
    go_wp2
    go_ret
    exact ⟨by rw [← HV.out]; rfl, B1.out⟩
theorem show_4_1 (n : Nd) (f : Bool) (h : isN n f = true) (hm : many n ≤ 700) (hk : n.k = 4) (hnum : n.num = 1) (IH : ∀ m ∈ n.kids, ShwOk m) : ShwOk n := by
  intro cs w hr
  obtain ⟨A, c, rfl, hR, hcap, hlm, hn64, hts⟩ := hr.four
  have hsh : shp n.k = some ⟨true, 1, 1, -1⟩ := by rw [hk]; rfl
  obtain ⟨hl, hl2⟩ := kids_at h hsh
  simp only at hl hl2
  obtain ⟨l, x, hkids⟩ := split_last (l := n.kids) (by omega)
  obtain ⟨b0, o0, A0, c0, hA0, hbl0, p0, HI0, hs0, hne0⟩ := kid_here h hm IH hR (i := l.length) (x := x) (by rw [hkids]; simp)
  subst hA0
  have hV := txt_4 hk hkids hne0
  rw [hnum] at hV
  have hV2 : (⟨#[101, 120, 116, 101, 114, 110, 32]⟩ : ByteArray) ++ sB (shw x) ++ (⟨#[32]⟩ : ByteArray) ++ n.t ++ (⟨#[32]⟩ : ByteArray) ++ sB (rowW (l.map shw) true) ++ (⟨#[32, 59]⟩ : ByteArray) = sB (shw n) := hV
  clear hV
  have hfew := kids_few hm
  have hR2 := RepNL.front hR hkids
  have hln : n.kids.length = l.length + 1 := by rw [hkids]; simp
  have hts2 : n.t.size ≤ 20 := name_short h hsh rfl
  have hRs : (sB (rowW (l.map shw) true)).size ≤ 200000 := by
    have h1 := text_le h hm
    rw [← hV2] at h1
    simp only [ByteArray.size_append] at h1
    omega
  have RW := row_here (c := c) hR2 (by omega) (fun m hm' => IH m (by rw [hkids]; simp [hm'])) (fun m hm' => kids_ne h m (by rw [hkids]; simp [hm'])) hRs
  have HV := Lib.hid hV2
  obtain ⟨T, HT⟩ : ∃ T, Hid (sB (shw n) = T) := ⟨_, rfl⟩
  have hll : l.length ≤ 700 := by omega
  rw [hln] at hcap
  rw [HT.out] at HV ⊢
  rw [hln, hk, hnum]
  clear h hm IH hR hR2 hkids hne0 hk hsh hl hl2 hr hln hlm hts HT hV2 hfew hnum hn64
  generalize sB (shw x) = X at *
  skip
  generalize sB (rowW (l.map shw) true) = Y at *
  generalize l.length = k at *
  have kq := Blk.new_ w 24 #[.int .i64 4, .string n.t, .int .i64 1, .slice (some ⟨b0, o0, none⟩) (k + 1) c]
  have hb0 : Below w.heap.size w (w.alloc (.cells #[.int .i64 4, .string n.t, .int .i64 1, .slice (some ⟨b0, o0, none⟩) (k + 1) c] 24)) := by (repeat (first | with_reducible assumption | with_reducible exact Below.refl _ _ | (refine Below.setCell ?_ (by first | omega | (simp; done) | (simp; omega)) _) | (refine Below.drewN_ ?_ _) | (refine Below.drew ?_) | (refine Below.alloc ?_ (by first | omega | (simp; done) | (simp; omega)) _)))
  have HB0 := Lib.hid hb0
  have HQ := Lib.hid (And.intro (kq.cell 0 _ rfl) (And.intro (kq.cell 1 _ rfl) (And.intro (kq.cell 2 _ rfl) (kq.cell 3 _ rfl))))
  have HM1 := Lib.hid kq.lt
  have HC0 := Lib.hid (keep4 hb0 hbl0 p0)
  skip
  have HN1 := Lib.hid (Nat.lt_trans hbl0 kq.lt)
  clear kq hb0 p0 hbl0
  have i1 : (0 : Int) ≤ (k : Int) := by omega
  have i2 : (k : Int) < (k : Int) + 1 := by omega
  have i3 : (k : Int) ≤ (c : Int) := by omega
  have i4 : IntKind.i64.wrap ((k : Int) + 1 - 1) = (k : Int) := by rw [Int.add_sub_cancel]; exact IntWalk.i64_in _ (by omega)
  go_enter Tryd.func14, Tryd.ntmps14
  go_wp2_with fail
  generalize (w.alloc (.cells #[.int .i64 4, .string n.t, .int .i64 1, .slice (some ⟨b0, o0, none⟩) (k + 1) c] 24)) = w1 at *
  have HI2 : Hid (∀ W, Below w1.heap.size w1 W → Calls Tryd.prog 14 #[.agg #[.int .i64 x.k, .string x.t, .int .i64 x.num, .slice A0 x.kids.length c0]] W fun e w' => e = .returned (.string X) ∧ Below W.heap.size W w') := fun W hW => HI0.out W (below_trans HB0.out (Nat.le_refl _) hW)
  have RW2 : Hid (∀ W, Below w1.heap.size w1 W → Calls Tryd.prog 36 #[.slice (some ⟨b0, o0, none⟩) k c, .bool true] W fun e w' => e = .returned (.string Y) ∧ Below W.heap.size W w') := fun W hW => RW.out W (below_trans HB0.out (Nat.le_refl _) hW)
  have e1 : ∀ w, (Op.stringOp .add ((⟨#[101, 120, 116, 101, 114, 110, 32]⟩ : ByteArray)) X).run Tryd.prog w = .ok (.string ((⟨#[101, 120, 116, 101, 114, 110, 32]⟩ : ByteArray) ++ X)) w := fun w => run_string_add_sum w _ _ (by (try simp only [ByteArray.size_append]); have : (⟨#[101, 120, 116, 101, 114, 110, 32]⟩ : ByteArray).size = 7 := rfl; have : (⟨#[32]⟩ : ByteArray).size = 1 := rfl; have : (⟨#[32]⟩ : ByteArray).size = 1 := rfl; have : (⟨#[32, 59]⟩ : ByteArray).size = 2 := rfl; omega)
  have e2 : ∀ w, (Op.stringOp .add ((⟨#[101, 120, 116, 101, 114, 110, 32]⟩ : ByteArray) ++ X) (⟨#[32]⟩ : ByteArray)).run Tryd.prog w = .ok (.string ((⟨#[101, 120, 116, 101, 114, 110, 32]⟩ : ByteArray) ++ X ++ (⟨#[32]⟩ : ByteArray))) w := fun w => run_string_add_sum w _ _ (by (try simp only [ByteArray.size_append]); have : (⟨#[101, 120, 116, 101, 114, 110, 32]⟩ : ByteArray).size = 7 := rfl; have : (⟨#[32]⟩ : ByteArray).size = 1 := rfl; have : (⟨#[32]⟩ : ByteArray).size = 1 := rfl; have : (⟨#[32, 59]⟩ : ByteArray).size = 2 := rfl; omega)
  have e3 : ∀ w, (Op.stringOp .add ((⟨#[101, 120, 116, 101, 114, 110, 32]⟩ : ByteArray) ++ X ++ (⟨#[32]⟩ : ByteArray)) n.t).run Tryd.prog w = .ok (.string ((⟨#[101, 120, 116, 101, 114, 110, 32]⟩ : ByteArray) ++ X ++ (⟨#[32]⟩ : ByteArray) ++ n.t)) w := fun w => run_string_add_sum w _ _ (by (try simp only [ByteArray.size_append]); have : (⟨#[101, 120, 116, 101, 114, 110, 32]⟩ : ByteArray).size = 7 := rfl; have : (⟨#[32]⟩ : ByteArray).size = 1 := rfl; have : (⟨#[32]⟩ : ByteArray).size = 1 := rfl; have : (⟨#[32, 59]⟩ : ByteArray).size = 2 := rfl; omega)
  have e4 : ∀ w, (Op.stringOp .add ((⟨#[101, 120, 116, 101, 114, 110, 32]⟩ : ByteArray) ++ X ++ (⟨#[32]⟩ : ByteArray) ++ n.t) (⟨#[32]⟩ : ByteArray)).run Tryd.prog w = .ok (.string ((⟨#[101, 120, 116, 101, 114, 110, 32]⟩ : ByteArray) ++ X ++ (⟨#[32]⟩ : ByteArray) ++ n.t ++ (⟨#[32]⟩ : ByteArray))) w := fun w => run_string_add_sum w _ _ (by (try simp only [ByteArray.size_append]); have : (⟨#[101, 120, 116, 101, 114, 110, 32]⟩ : ByteArray).size = 7 := rfl; have : (⟨#[32]⟩ : ByteArray).size = 1 := rfl; have : (⟨#[32]⟩ : ByteArray).size = 1 := rfl; have : (⟨#[32, 59]⟩ : ByteArray).size = 2 := rfl; omega)
  have e5 : ∀ w, (Op.stringOp .add ((⟨#[101, 120, 116, 101, 114, 110, 32]⟩ : ByteArray) ++ X ++ (⟨#[32]⟩ : ByteArray) ++ n.t ++ (⟨#[32]⟩ : ByteArray)) Y).run Tryd.prog w = .ok (.string ((⟨#[101, 120, 116, 101, 114, 110, 32]⟩ : ByteArray) ++ X ++ (⟨#[32]⟩ : ByteArray) ++ n.t ++ (⟨#[32]⟩ : ByteArray) ++ Y)) w := fun w => run_string_add_sum w _ _ (by (try simp only [ByteArray.size_append]); have : (⟨#[101, 120, 116, 101, 114, 110, 32]⟩ : ByteArray).size = 7 := rfl; have : (⟨#[32]⟩ : ByteArray).size = 1 := rfl; have : (⟨#[32]⟩ : ByteArray).size = 1 := rfl; have : (⟨#[32, 59]⟩ : ByteArray).size = 2 := rfl; omega)
  have e6 : ∀ w, (Op.stringOp .add ((⟨#[101, 120, 116, 101, 114, 110, 32]⟩ : ByteArray) ++ X ++ (⟨#[32]⟩ : ByteArray) ++ n.t ++ (⟨#[32]⟩ : ByteArray) ++ Y) (⟨#[32, 59]⟩ : ByteArray)).run Tryd.prog w = .ok (.string ((⟨#[101, 120, 116, 101, 114, 110, 32]⟩ : ByteArray) ++ X ++ (⟨#[32]⟩ : ByteArray) ++ n.t ++ (⟨#[32]⟩ : ByteArray) ++ Y ++ (⟨#[32, 59]⟩ : ByteArray))) w := fun w => run_string_add_sum w _ _ (by (try simp only [ByteArray.size_append]); have : (⟨#[101, 120, 116, 101, 114, 110, 32]⟩ : ByteArray).size = 7 := rfl; have : (⟨#[32]⟩ : ByteArray).size = 1 := rfl; have : (⟨#[32]⟩ : ByteArray).size = 1 := rfl; have : (⟨#[32, 59]⟩ : ByteArray).size = 2 := rfl; omega)
  have q := HQ.out
  have hc0 := HC0.out
  skip
  have hm1 := HM1.out
  have hn1 := HN1.out
  go_region_held3 (fun W => Below w1.heap.size w1 W ∧ (W.cell? ⟨w.heap.size, 0, none⟩ = some (.int .i64 4) ∧ W.cell? ⟨w.heap.size, 1, none⟩ = some (.string n.t) ∧ W.cell? ⟨w.heap.size, 2, none⟩ = some (.int .i64 1) ∧ W.cell? ⟨w.heap.size, 3, none⟩ = some (.slice (some ⟨b0, o0, none⟩) (k + 1) c)) ∧ W.cell? ⟨b0, o0 + k * 4, none⟩ = some (.int .i64 x.k) ∧ W.cell? ⟨b0, o0 + k * 4 + 1, none⟩ = some (.string x.t) ∧ W.cell? ⟨b0, o0 + k * 4 + 2, none⟩ = some (.int .i64 x.num) ∧ W.cell? ⟨b0, o0 + k * 4 + 3, none⟩ = some (.slice A0 x.kids.length c0)) (first | exact ⟨(Below.refl _ _).drew, q, hc0⟩ | exact keepS hm1 hn1 (by assumption) hbq | exact ⟨Below.drew (And.left (by assumption)), And.right (by assumption)⟩ | go_keep) (first | (go_at_call 14; ((with_reducible refine (HI2.out _ (And.left (by assumption))).mono ?_); rintro e w' ⟨rfl, hbq⟩)) | (go_at_call 36; ((with_reducible refine (RW2.out _ (And.left (by assumption))).mono ?_); rintro e w' ⟨rfl, hbq⟩)))
  all_goals
    rename_i hh
    have B1 := Lib.hid (below_trans HB0.out (Nat.le_refl _) hh.1)
    go_wp2
    go_ret
    exact ⟨by rw [← HV.out]; rfl, B1.out⟩
theorem show_12_0 (n : Nd) (f : Bool) (h : isN n f = true) (hm : many n ≤ 700) (hk : n.k = 12) (hnum : n.num = 0) (IH : ∀ m ∈ n.kids, ShwOk m) : ShwOk n := by
  intro cs w hr
  obtain ⟨A, c, rfl, hR, hcap, hlm, hn64, hts⟩ := hr.four
  have hsh : shp n.k = some ⟨false, 1, 1, -1⟩ := by rw [hk]; rfl
  obtain ⟨hl, hl2⟩ := kids_at h hsh
  simp only at hl hl2
  obtain ⟨l, x, hkids⟩ := split_last (l := n.kids) (by omega)
  obtain ⟨b0, o0, A0, c0, hA0, hbl0, p0, HI0, hs0, hne0⟩ := kid_here h hm IH hR (i := l.length) (x := x) (by rw [hkids]; simp)
  subst hA0
  have hV := txt_12 hk hkids hne0
  rw [hnum] at hV
  have hV2 : (⟨#[102, 110, 32]⟩ : ByteArray) ++ sB (rowW (l.map shw) false) ++ (⟨#[32]⟩ : ByteArray) ++ sB (shw x) = sB (shw n) := hV
  clear hV
  have hfew := kids_few hm
  have hR2 := RepNL.front hR hkids
  have hln : n.kids.length = l.length + 1 := by rw [hkids]; simp
  have hts2 : n.t.size ≤ 20 := by rw [text_none h hsh rfl]; omega
  have hRs : (sB (rowW (l.map shw) false)).size ≤ 200000 := by
    have h1 := text_le h hm
    rw [← hV2] at h1
    simp only [ByteArray.size_append] at h1
    omega
  have RW := row_here (c := c) hR2 (by omega) (fun m hm' => IH m (by rw [hkids]; simp [hm'])) (fun m hm' => kids_ne h m (by rw [hkids]; simp [hm'])) hRs
  have HV := Lib.hid hV2
  obtain ⟨T, HT⟩ : ∃ T, Hid (sB (shw n) = T) := ⟨_, rfl⟩
  have hll : l.length ≤ 700 := by omega
  rw [hln] at hcap
  rw [HT.out] at HV ⊢
  rw [hln, hk, hnum]
  clear h hm IH hR hR2 hkids hne0 hk hsh hl hl2 hr hln hlm hts HT hV2 hfew hnum hn64
  generalize sB (shw x) = X at *
  skip
  generalize sB (rowW (l.map shw) false) = Y at *
  generalize l.length = k at *
  have kq := Blk.new_ w 24 #[.int .i64 12, .string n.t, .int .i64 0, .slice (some ⟨b0, o0, none⟩) (k + 1) c]
  have hb0 : Below w.heap.size w (w.alloc (.cells #[.int .i64 12, .string n.t, .int .i64 0, .slice (some ⟨b0, o0, none⟩) (k + 1) c] 24)) := by (repeat (first | with_reducible assumption | with_reducible exact Below.refl _ _ | (refine Below.setCell ?_ (by first | omega | (simp; done) | (simp; omega)) _) | (refine Below.drewN_ ?_ _) | (refine Below.drew ?_) | (refine Below.alloc ?_ (by first | omega | (simp; done) | (simp; omega)) _)))
  have HB0 := Lib.hid hb0
  have HQ := Lib.hid (And.intro (kq.cell 0 _ rfl) (And.intro (kq.cell 1 _ rfl) (And.intro (kq.cell 2 _ rfl) (kq.cell 3 _ rfl))))
  have HM1 := Lib.hid kq.lt
  have HC0 := Lib.hid (keep4 hb0 hbl0 p0)
  skip
  have HN1 := Lib.hid (Nat.lt_trans hbl0 kq.lt)
  clear kq hb0 p0 hbl0
  have i1 : (0 : Int) ≤ (k : Int) := by omega
  have i2 : (k : Int) < (k : Int) + 1 := by omega
  have i3 : (k : Int) ≤ (c : Int) := by omega
  have i4 : IntKind.i64.wrap ((k : Int) + 1 - 1) = (k : Int) := by rw [Int.add_sub_cancel]; exact IntWalk.i64_in _ (by omega)
  go_enter Tryd.func14, Tryd.ntmps14
  go_wp2_with fail
  generalize (w.alloc (.cells #[.int .i64 12, .string n.t, .int .i64 0, .slice (some ⟨b0, o0, none⟩) (k + 1) c] 24)) = w1 at *
  have HI2 : Hid (∀ W, Below w1.heap.size w1 W → Calls Tryd.prog 14 #[.agg #[.int .i64 x.k, .string x.t, .int .i64 x.num, .slice A0 x.kids.length c0]] W fun e w' => e = .returned (.string X) ∧ Below W.heap.size W w') := fun W hW => HI0.out W (below_trans HB0.out (Nat.le_refl _) hW)
  have RW2 : Hid (∀ W, Below w1.heap.size w1 W → Calls Tryd.prog 36 #[.slice (some ⟨b0, o0, none⟩) k c, .bool false] W fun e w' => e = .returned (.string Y) ∧ Below W.heap.size W w') := fun W hW => RW.out W (below_trans HB0.out (Nat.le_refl _) hW)
  have e1 : ∀ w, (Op.stringOp .add ((⟨#[102, 110, 32]⟩ : ByteArray)) Y).run Tryd.prog w = .ok (.string ((⟨#[102, 110, 32]⟩ : ByteArray) ++ Y)) w := fun w => run_string_add_sum w _ _ (by (try simp only [ByteArray.size_append]); have : (⟨#[102, 110, 32]⟩ : ByteArray).size = 3 := rfl; have : (⟨#[32]⟩ : ByteArray).size = 1 := rfl; omega)
  have e2 : ∀ w, (Op.stringOp .add ((⟨#[102, 110, 32]⟩ : ByteArray) ++ Y) (⟨#[32]⟩ : ByteArray)).run Tryd.prog w = .ok (.string ((⟨#[102, 110, 32]⟩ : ByteArray) ++ Y ++ (⟨#[32]⟩ : ByteArray))) w := fun w => run_string_add_sum w _ _ (by (try simp only [ByteArray.size_append]); have : (⟨#[102, 110, 32]⟩ : ByteArray).size = 3 := rfl; have : (⟨#[32]⟩ : ByteArray).size = 1 := rfl; omega)
  have e3 : ∀ w, (Op.stringOp .add ((⟨#[102, 110, 32]⟩ : ByteArray) ++ Y ++ (⟨#[32]⟩ : ByteArray)) X).run Tryd.prog w = .ok (.string ((⟨#[102, 110, 32]⟩ : ByteArray) ++ Y ++ (⟨#[32]⟩ : ByteArray) ++ X)) w := fun w => run_string_add_sum w _ _ (by (try simp only [ByteArray.size_append]); have : (⟨#[102, 110, 32]⟩ : ByteArray).size = 3 := rfl; have : (⟨#[32]⟩ : ByteArray).size = 1 := rfl; omega)
  have q := HQ.out
  have hc0 := HC0.out
  skip
  have hm1 := HM1.out
  have hn1 := HN1.out
  go_region_held3 (fun W => Below w1.heap.size w1 W ∧ (W.cell? ⟨w.heap.size, 0, none⟩ = some (.int .i64 12) ∧ W.cell? ⟨w.heap.size, 1, none⟩ = some (.string n.t) ∧ W.cell? ⟨w.heap.size, 2, none⟩ = some (.int .i64 0) ∧ W.cell? ⟨w.heap.size, 3, none⟩ = some (.slice (some ⟨b0, o0, none⟩) (k + 1) c)) ∧ W.cell? ⟨b0, o0 + k * 4, none⟩ = some (.int .i64 x.k) ∧ W.cell? ⟨b0, o0 + k * 4 + 1, none⟩ = some (.string x.t) ∧ W.cell? ⟨b0, o0 + k * 4 + 2, none⟩ = some (.int .i64 x.num) ∧ W.cell? ⟨b0, o0 + k * 4 + 3, none⟩ = some (.slice A0 x.kids.length c0)) (first | exact ⟨(Below.refl _ _).drew, q, hc0⟩ | exact keepS hm1 hn1 (by assumption) hbq | exact ⟨Below.drew (And.left (by assumption)), And.right (by assumption)⟩ | go_keep) (first | (go_at_call 14; ((with_reducible refine (HI2.out _ (And.left (by assumption))).mono ?_); rintro e w' ⟨rfl, hbq⟩)) | (go_at_call 36; ((with_reducible refine (RW2.out _ (And.left (by assumption))).mono ?_); rintro e w' ⟨rfl, hbq⟩)))
  all_goals
    rename_i hh
    have B1 := Lib.hid (below_trans HB0.out (Nat.le_refl _) hh.1)
    go_wp2
    go_ret
    exact ⟨by rw [← HV.out]; rfl, B1.out⟩
theorem show_12_1 (n : Nd) (f : Bool) (h : isN n f = true) (hm : many n ≤ 700) (hk : n.k = 12) (hnum : n.num = 1) (IH : ∀ m ∈ n.kids, ShwOk m) : ShwOk n := by
  intro cs w hr
  obtain ⟨A, c, rfl, hR, hcap, hlm, hn64, hts⟩ := hr.four
  have hsh : shp n.k = some ⟨false, 1, 1, -1⟩ := by rw [hk]; rfl
  obtain ⟨hl, hl2⟩ := kids_at h hsh
  simp only at hl hl2
  obtain ⟨l, x, hkids⟩ := split_last (l := n.kids) (by omega)
  obtain ⟨b0, o0, A0, c0, hA0, hbl0, p0, HI0, hs0, hne0⟩ := kid_here h hm IH hR (i := l.length) (x := x) (by rw [hkids]; simp)
  subst hA0
  have hV := txt_12 hk hkids hne0
  rw [hnum] at hV
  have hV2 : (⟨#[102, 110, 32]⟩ : ByteArray) ++ sB (rowW (l.map shw) true) ++ (⟨#[32]⟩ : ByteArray) ++ sB (shw x) = sB (shw n) := hV
  clear hV
  have hfew := kids_few hm
  have hR2 := RepNL.front hR hkids
  have hln : n.kids.length = l.length + 1 := by rw [hkids]; simp
  have hts2 : n.t.size ≤ 20 := by rw [text_none h hsh rfl]; omega
  have hRs : (sB (rowW (l.map shw) true)).size ≤ 200000 := by
    have h1 := text_le h hm
    rw [← hV2] at h1
    simp only [ByteArray.size_append] at h1
    omega
  have RW := row_here (c := c) hR2 (by omega) (fun m hm' => IH m (by rw [hkids]; simp [hm'])) (fun m hm' => kids_ne h m (by rw [hkids]; simp [hm'])) hRs
  have HV := Lib.hid hV2
  obtain ⟨T, HT⟩ : ∃ T, Hid (sB (shw n) = T) := ⟨_, rfl⟩
  have hll : l.length ≤ 700 := by omega
  rw [hln] at hcap
  rw [HT.out] at HV ⊢
  rw [hln, hk, hnum]
  clear h hm IH hR hR2 hkids hne0 hk hsh hl hl2 hr hln hlm hts HT hV2 hfew hnum hn64
  generalize sB (shw x) = X at *
  skip
  generalize sB (rowW (l.map shw) true) = Y at *
  generalize l.length = k at *
  have kq := Blk.new_ w 24 #[.int .i64 12, .string n.t, .int .i64 1, .slice (some ⟨b0, o0, none⟩) (k + 1) c]
  have hb0 : Below w.heap.size w (w.alloc (.cells #[.int .i64 12, .string n.t, .int .i64 1, .slice (some ⟨b0, o0, none⟩) (k + 1) c] 24)) := by (repeat (first | with_reducible assumption | with_reducible exact Below.refl _ _ | (refine Below.setCell ?_ (by first | omega | (simp; done) | (simp; omega)) _) | (refine Below.drewN_ ?_ _) | (refine Below.drew ?_) | (refine Below.alloc ?_ (by first | omega | (simp; done) | (simp; omega)) _)))
  have HB0 := Lib.hid hb0
  have HQ := Lib.hid (And.intro (kq.cell 0 _ rfl) (And.intro (kq.cell 1 _ rfl) (And.intro (kq.cell 2 _ rfl) (kq.cell 3 _ rfl))))
  have HM1 := Lib.hid kq.lt
  have HC0 := Lib.hid (keep4 hb0 hbl0 p0)
  skip
  have HN1 := Lib.hid (Nat.lt_trans hbl0 kq.lt)
  clear kq hb0 p0 hbl0
  have i1 : (0 : Int) ≤ (k : Int) := by omega
  have i2 : (k : Int) < (k : Int) + 1 := by omega
  have i3 : (k : Int) ≤ (c : Int) := by omega
  have i4 : IntKind.i64.wrap ((k : Int) + 1 - 1) = (k : Int) := by rw [Int.add_sub_cancel]; exact IntWalk.i64_in _ (by omega)
  go_enter Tryd.func14, Tryd.ntmps14
  go_wp2_with fail
  generalize (w.alloc (.cells #[.int .i64 12, .string n.t, .int .i64 1, .slice (some ⟨b0, o0, none⟩) (k + 1) c] 24)) = w1 at *
  have HI2 : Hid (∀ W, Below w1.heap.size w1 W → Calls Tryd.prog 14 #[.agg #[.int .i64 x.k, .string x.t, .int .i64 x.num, .slice A0 x.kids.length c0]] W fun e w' => e = .returned (.string X) ∧ Below W.heap.size W w') := fun W hW => HI0.out W (below_trans HB0.out (Nat.le_refl _) hW)
  have RW2 : Hid (∀ W, Below w1.heap.size w1 W → Calls Tryd.prog 36 #[.slice (some ⟨b0, o0, none⟩) k c, .bool true] W fun e w' => e = .returned (.string Y) ∧ Below W.heap.size W w') := fun W hW => RW.out W (below_trans HB0.out (Nat.le_refl _) hW)
  have e1 : ∀ w, (Op.stringOp .add ((⟨#[102, 110, 32]⟩ : ByteArray)) Y).run Tryd.prog w = .ok (.string ((⟨#[102, 110, 32]⟩ : ByteArray) ++ Y)) w := fun w => run_string_add_sum w _ _ (by (try simp only [ByteArray.size_append]); have : (⟨#[102, 110, 32]⟩ : ByteArray).size = 3 := rfl; have : (⟨#[32]⟩ : ByteArray).size = 1 := rfl; omega)
  have e2 : ∀ w, (Op.stringOp .add ((⟨#[102, 110, 32]⟩ : ByteArray) ++ Y) (⟨#[32]⟩ : ByteArray)).run Tryd.prog w = .ok (.string ((⟨#[102, 110, 32]⟩ : ByteArray) ++ Y ++ (⟨#[32]⟩ : ByteArray))) w := fun w => run_string_add_sum w _ _ (by (try simp only [ByteArray.size_append]); have : (⟨#[102, 110, 32]⟩ : ByteArray).size = 3 := rfl; have : (⟨#[32]⟩ : ByteArray).size = 1 := rfl; omega)
  have e3 : ∀ w, (Op.stringOp .add ((⟨#[102, 110, 32]⟩ : ByteArray) ++ Y ++ (⟨#[32]⟩ : ByteArray)) X).run Tryd.prog w = .ok (.string ((⟨#[102, 110, 32]⟩ : ByteArray) ++ Y ++ (⟨#[32]⟩ : ByteArray) ++ X)) w := fun w => run_string_add_sum w _ _ (by (try simp only [ByteArray.size_append]); have : (⟨#[102, 110, 32]⟩ : ByteArray).size = 3 := rfl; have : (⟨#[32]⟩ : ByteArray).size = 1 := rfl; omega)
  have q := HQ.out
  have hc0 := HC0.out
  skip
  have hm1 := HM1.out
  have hn1 := HN1.out
  go_region_held3 (fun W => Below w1.heap.size w1 W ∧ (W.cell? ⟨w.heap.size, 0, none⟩ = some (.int .i64 12) ∧ W.cell? ⟨w.heap.size, 1, none⟩ = some (.string n.t) ∧ W.cell? ⟨w.heap.size, 2, none⟩ = some (.int .i64 1) ∧ W.cell? ⟨w.heap.size, 3, none⟩ = some (.slice (some ⟨b0, o0, none⟩) (k + 1) c)) ∧ W.cell? ⟨b0, o0 + k * 4, none⟩ = some (.int .i64 x.k) ∧ W.cell? ⟨b0, o0 + k * 4 + 1, none⟩ = some (.string x.t) ∧ W.cell? ⟨b0, o0 + k * 4 + 2, none⟩ = some (.int .i64 x.num) ∧ W.cell? ⟨b0, o0 + k * 4 + 3, none⟩ = some (.slice A0 x.kids.length c0)) (first | exact ⟨(Below.refl _ _).drew, q, hc0⟩ | exact keepS hm1 hn1 (by assumption) hbq | exact ⟨Below.drew (And.left (by assumption)), And.right (by assumption)⟩ | go_keep) (first | (go_at_call 14; ((with_reducible refine (HI2.out _ (And.left (by assumption))).mono ?_); rintro e w' ⟨rfl, hbq⟩)) | (go_at_call 36; ((with_reducible refine (RW2.out _ (And.left (by assumption))).mono ?_); rintro e w' ⟨rfl, hbq⟩)))
  all_goals
    rename_i hh
    have B1 := Lib.hid (below_trans HB0.out (Nat.le_refl _) hh.1)
    go_wp2
    go_ret
    exact ⟨by rw [← HV.out]; rfl, B1.out⟩
end Go.Proofs.YtgegfbopogcjpaaDoor
