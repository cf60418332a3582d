/- Show of what is joined. -/
import Derived.Test.YtgegfbopogcjpaaDoorShwI
namespace Go.Proofs.YtgegfbopogcjpaaDoor
open Go.RowKit
set_option linter.unusedVariables false
set_option linter.unusedSimpArgs false
set_option maxRecDepth 100000
set_option maxHeartbeats 1000000
def ShT (n : Nat) (ts : List ByteArray) (w : World) (e : Ending) (w' : World) : Prop := ∃ A c, e = .returned (.slice A n c) ∧ StrL w' ts A ∧ Below w.heap.size w w'
/-- the kids' texts -/
theorem texts_here {w : World} {l : List Nd} {A : Option Addr} {c : Nat} (hR : RepNL w l A) (hn : l.length ≤ 700) (IH : ∀ m ∈ l, ShwOk m) :
    Hid (∀ W, Below w.heap.size w W → Calls Tryd.prog 35 #[.slice A l.length c] W (ShT l.length ((l.map shw).map sB) W)) := by
  intro W hb
  refine (shown_any l A c W (RepNL.keep hb _ _ hR) (by omega) IH).mono ?_
  rintro e w' ⟨A1, c1, rfl, ho, hb1⟩
  have hTX : txs l = ((l.map shw).map sB).map .string := by unfold txs; simp
  rw [hTX] at ho
  exact ⟨A1, c1, rfl, (own_strL ho).2, hb1⟩
theorem join_here {l : List Nd} {sep : ByteArray} (hs : sep.size ≤ 3) (hn : l.length ≤ 700) (hl : (jB sep.data.toList l).size ≤ 200000) :
    Hid (∀ W A c, StrL W ((l.map shw).map sB) A → Calls Tryd.prog 34 #[.slice A l.length c, .string sep] W fun e w' => e = .returned (.string (jB sep.data.toList l)) ∧ w' = W) := by
  intro W A c h
  have hlen : ((l.map shw).map sB).length = l.length := by simp
  have hl2 : (jn sep.data.toList ((l.map shw).map sB)).length ≤ 200000 := by
    have : (jB sep.data.toList l).size = (jn sep.data.toList ((l.map shw).map sB)).length := by unfold jB; show Array.size _ = _; simp
    omega
  have := joined_any _ sep A c W h hs hl2 (by omega)
  rw [hlen] at this
  exact this
theorem keepB {w0 w w' : World} {m : Nat} {a0 a1 a2 a3 : Value} (hm : m < w0.heap.size)
    (h : Below w0.heap.size w0 w ∧ w.cell? ⟨m, 0, none⟩ = some a0 ∧ w.cell? ⟨m, 1, none⟩ = some a1 ∧ w.cell? ⟨m, 2, none⟩ = some a2 ∧ w.cell? ⟨m, 3, none⟩ = some a3)
    (hb : Below w.heap.size w w') : Below w0.heap.size w0 w' ∧ w'.cell? ⟨m, 0, none⟩ = some a0 ∧ w'.cell? ⟨m, 1, none⟩ = some a1 ∧ w'.cell? ⟨m, 2, none⟩ = some a2 ∧ w'.cell? ⟨m, 3, none⟩ = some a3 := by
  obtain ⟨h0, h1⟩ := h
  have hs := h0.size
  have e := keep4 (o := 0) hb (show m < w.heap.size by omega) (by simpa using h1)
  exact ⟨h0.trans (hb.mono hs), by simpa using e⟩
theorem show_1 (n : Nd) (f : Bool) (h : isN n f = true) (hm : many n ≤ 700) (hk : n.k = 1)  (IH : ∀ m ∈ n.kids, ShwOk m) : ShwOk n := by
  intro cs w hr
  obtain ⟨A, c, rfl, hR, hcap, hlm, hn64, hts⟩ := hr.four
  have hsh : shp n.k = some ⟨false, 0, 0, -1⟩ := by rw [hk]; rfl
  obtain ⟨hl, hl2⟩ := kids_at h hsh
  simp only at hl hl2
  have hV := txt_1 hk (kids_ne h)
  have hfew := kids_few hm
  have hj : (jB [32] n.kids).size ≤ 200000 := by
    have h1 := text_le h hm
    rw [← hV] at h1
    try simp only [ByteArray.size_append] at h1
    omega
  have hts2 : n.t.size ≤ 20 := by rw [text_none h hsh rfl]; omega
  have SH := texts_here (c := c) hR hfew IH
  have JN := join_here (l := n.kids) (sep := (⟨#[32]⟩ : ByteArray)) (by decide) hfew hj
  have JN2 : Hid (∀ W A c, StrL W ((n.kids.map shw).map sB) A → Calls Tryd.prog 34 #[.slice A n.kids.length c, .string (⟨#[32]⟩ : ByteArray)] W fun e w' => e = .returned (.string (jB [32] n.kids)) ∧ w' = W) := JN
  clear JN
  skip
  obtain ⟨T, HT⟩ : ∃ T, Hid (sB (shw n) = T) := ⟨_, rfl⟩
  rw [HT.out] at hV ⊢
  have HV := Lib.hid hV
  rw [hk]
  generalize (n.kids.map shw).map sB = TS at *
  generalize jB [32] n.kids = J at *
  skip
  clear h hm IH hR hk hsh hl hl2 hr hcap hlm hts HT hV
  generalize n.kids.length = k at *
  have hb0 : Below w.heap.size w (w.alloc (.cells #[.int .i64 1, .string n.t, .int .i64 n.num, .slice A k c] 24)) := by (repeat (first | with_reducible assumption | with_reducible exact Below.refl _ _ | (refine Below.setCell ?_ (by first | omega | (simp; done) | (simp; omega)) _) | (refine Below.drewN_ ?_ _) | (refine Below.drew ?_) | (refine Below.alloc ?_ (by first | omega | (simp; done) | (simp; omega)) _)))
  have HB0 := Lib.hid hb0
  clear hb0
  go_enter Tryd.func14, Tryd.ntmps14
  go_wp2_with fail
  refine (SH.out _ HB0.out).mono ?_
  rintro e w1 ⟨A1, c1, rfl, hst, hb1⟩
  have B1 := Lib.hid (below_trans HB0.out (Nat.le_refl _) hb1)
  have HS := Lib.hid hst
  clear hb1 hst
  go_wp2_with fail
  refine (JN2.out _ _ _ HS.out).mono ?_
  rintro e w2 ⟨rfl, rfl⟩
  go_wp2
  go_ret
  exact ⟨by rw [← HV.out]; rfl, B1.out⟩
theorem show_2 (n : Nd) (f : Bool) (h : isN n f = true) (hm : many n ≤ 700) (hk : n.k = 2)  (IH : ∀ m ∈ n.kids, ShwOk m) : ShwOk n := by
  intro cs w hr
  obtain ⟨A, c, rfl, hR, hcap, hlm, hn64, hts⟩ := hr.four
  have hsh : shp n.k = some ⟨true, 0, 1, -1⟩ := by rw [hk]; rfl
  obtain ⟨hl, hl2⟩ := kids_at h hsh
  simp only at hl hl2
  have hV := txt_2 hk (kids_ne h) (fun e => by rw [e] at hl; simp at hl)
  have hfew := kids_few hm
  have hj : (jB [32] n.kids).size ≤ 200000 := by
    have h1 := text_le h hm
    rw [← hV] at h1
    try simp only [ByteArray.size_append] at h1
    omega
  have hts2 : n.t.size ≤ 20 := name_short h hsh rfl
  have SH := texts_here (c := c) hR hfew IH
  have JN := join_here (l := n.kids) (sep := (⟨#[32]⟩ : ByteArray)) (by decide) hfew hj
  have JN2 : Hid (∀ W A c, StrL W ((n.kids.map shw).map sB) A → Calls Tryd.prog 34 #[.slice A n.kids.length c, .string (⟨#[32]⟩ : ByteArray)] W fun e w' => e = .returned (.string (jB [32] n.kids)) ∧ w' = W) := JN
  clear JN
  have hpos : 0 < n.kids.length := by omega
  obtain ⟨T, HT⟩ : ∃ T, Hid (sB (shw n) = T) := ⟨_, rfl⟩
  rw [HT.out] at hV ⊢
  have HV := Lib.hid hV
  rw [hk]
  generalize (n.kids.map shw).map sB = TS at *
  generalize jB [32] n.kids = J at *
  skip
  clear h hm IH hR hk hsh hl hl2 hr hcap hlm hts HT hV
  generalize n.kids.length = k at *
  have kq := Blk.new_ w 24 #[.int .i64 2, .string n.t, .int .i64 n.num, .slice A k c]
  have hb0 : Below w.heap.size w (w.alloc (.cells #[.int .i64 2, .string n.t, .int .i64 n.num, .slice A k c] 24)) := by (repeat (first | with_reducible assumption | with_reducible exact Below.refl _ _ | (refine Below.setCell ?_ (by first | omega | (simp; done) | (simp; omega)) _) | (refine Below.drewN_ ?_ _) | (refine Below.drew ?_) | (refine Below.alloc ?_ (by first | omega | (simp; done) | (simp; omega)) _)))
  have HB0 := Lib.hid hb0
  have HQ := Lib.hid (And.intro (kq.cell 0 _ rfl) (And.intro (kq.cell 1 _ rfl) (And.intro (kq.cell 2 _ rfl) (kq.cell 3 _ rfl))))
  have HM1 := Lib.hid kq.lt
  clear kq hb0
  clear hpos
  go_enter Tryd.func14, Tryd.ntmps14
  go_wp2_with fail
  generalize (w.alloc (.cells #[.int .i64 2, .string n.t, .int .i64 n.num, .slice A k c] 24)) = w1 at *
  have SH2 : Hid (∀ W, Below w1.heap.size w1 W → Calls Tryd.prog 35 #[.slice A k c] W (ShT k TS W)) := fun W hW => SH.out W (below_trans HB0.out (Nat.le_refl _) hW)
  have e1 : ∀ w, (Op.stringOp .add ((⟨#[115, 116, 114, 117, 99, 116, 32]⟩ : ByteArray)) n.t).run Tryd.prog w = .ok (.string ((⟨#[115, 116, 114, 117, 99, 116, 32]⟩ : ByteArray) ++ n.t)) w := fun w => run_string_add_sum w _ _ (by (try simp only [ByteArray.size_append]); have : (⟨#[115, 116, 114, 117, 99, 116, 32]⟩ : ByteArray).size = 7 := rfl; have : (⟨#[32, 123, 32]⟩ : ByteArray).size = 3 := rfl; have : (⟨#[32, 125]⟩ : ByteArray).size = 2 := rfl; omega)
  have e2 : ∀ w, (Op.stringOp .add ((⟨#[115, 116, 114, 117, 99, 116, 32]⟩ : ByteArray) ++ n.t) (⟨#[32, 123, 32]⟩ : ByteArray)).run Tryd.prog w = .ok (.string ((⟨#[115, 116, 114, 117, 99, 116, 32]⟩ : ByteArray) ++ n.t ++ (⟨#[32, 123, 32]⟩ : ByteArray))) w := fun w => run_string_add_sum w _ _ (by (try simp only [ByteArray.size_append]); have : (⟨#[115, 116, 114, 117, 99, 116, 32]⟩ : ByteArray).size = 7 := rfl; have : (⟨#[32, 123, 32]⟩ : ByteArray).size = 3 := rfl; have : (⟨#[32, 125]⟩ : ByteArray).size = 2 := rfl; omega)
  have e3 : ∀ w, (Op.stringOp .add ((⟨#[115, 116, 114, 117, 99, 116, 32]⟩ : ByteArray) ++ n.t ++ (⟨#[32, 123, 32]⟩ : ByteArray)) J).run Tryd.prog w = .ok (.string ((⟨#[115, 116, 114, 117, 99, 116, 32]⟩ : ByteArray) ++ n.t ++ (⟨#[32, 123, 32]⟩ : ByteArray) ++ J)) w := fun w => run_string_add_sum w _ _ (by (try simp only [ByteArray.size_append]); have : (⟨#[115, 116, 114, 117, 99, 116, 32]⟩ : ByteArray).size = 7 := rfl; have : (⟨#[32, 123, 32]⟩ : ByteArray).size = 3 := rfl; have : (⟨#[32, 125]⟩ : ByteArray).size = 2 := rfl; omega)
  have e4 : ∀ w, (Op.stringOp .add ((⟨#[115, 116, 114, 117, 99, 116, 32]⟩ : ByteArray) ++ n.t ++ (⟨#[32, 123, 32]⟩ : ByteArray) ++ J) (⟨#[32, 125]⟩ : ByteArray)).run Tryd.prog w = .ok (.string ((⟨#[115, 116, 114, 117, 99, 116, 32]⟩ : ByteArray) ++ n.t ++ (⟨#[32, 123, 32]⟩ : ByteArray) ++ J ++ (⟨#[32, 125]⟩ : ByteArray))) w := fun w => run_string_add_sum w _ _ (by (try simp only [ByteArray.size_append]); have : (⟨#[115, 116, 114, 117, 99, 116, 32]⟩ : ByteArray).size = 7 := rfl; have : (⟨#[32, 123, 32]⟩ : ByteArray).size = 3 := rfl; have : (⟨#[32, 125]⟩ : ByteArray).size = 2 := rfl; omega)
  have q := HQ.out
  go_region_held3 (fun W => Below w1.heap.size w1 W ∧ W.cell? ⟨w.heap.size, 0, none⟩ = some (.int .i64 2) ∧ W.cell? ⟨w.heap.size, 1, none⟩ = some (.string n.t) ∧ W.cell? ⟨w.heap.size, 2, none⟩ = some (.int .i64 n.num) ∧ W.cell? ⟨w.heap.size, 3, none⟩ = some (.slice A k c)) (first | exact ⟨(Below.refl _ _).drew, q⟩ | exact keepB HM1.out (by assumption) hbq | exact ⟨Below.drew (And.left (by assumption)), And.right (by assumption)⟩ | assumption | go_keep) (first | (go_at_call 35; ((with_reducible refine (SH2.out _ (And.left (by assumption))).mono ?_); rintro e w' ⟨A1, c1, rfl, hst, hbq⟩)) | (go_at_call 34; ((with_reducible refine (JN2.out _ _ _ hst).mono ?_); rintro e w' ⟨rfl, rfl⟩)))
  all_goals
    rename_i hh
    have B1 := Lib.hid (below_trans HB0.out (Nat.le_refl _) hh.1)
    go_wp2
    go_ret
    exact ⟨by rw [← HV.out]; rfl, B1.out⟩
theorem show_13_1 (n : Nd) (f : Bool) (h : isN n f = true) (hm : many n ≤ 700) (hk : n.k = 13) (h0 : n.kids ≠ []) (IH : ∀ m ∈ n.kids, ShwOk m) : ShwOk n := by
  intro cs w hr
  obtain ⟨A, c, rfl, hR, hcap, hlm, hn64, hts⟩ := hr.four
  have hsh : shp n.k = some ⟨false, 0, 0, -1⟩ := by rw [hk]; rfl
  obtain ⟨hl, hl2⟩ := kids_at h hsh
  simp only at hl hl2
  have hV := txt_13 hk (kids_ne h) h0
  have hfew := kids_few hm
  have hj : (jB [32] n.kids).size ≤ 200000 := by
    have h1 := text_le h hm
    rw [← hV] at h1
    try simp only [ByteArray.size_append] at h1
    omega
  have hts2 : n.t.size ≤ 20 := by rw [text_none h hsh rfl]; omega
  have SH := texts_here (c := c) hR hfew IH
  have JN := join_here (l := n.kids) (sep := (⟨#[32]⟩ : ByteArray)) (by decide) hfew hj
  have JN2 : Hid (∀ W A c, StrL W ((n.kids.map shw).map sB) A → Calls Tryd.prog 34 #[.slice A n.kids.length c, .string (⟨#[32]⟩ : ByteArray)] W fun e w' => e = .returned (.string (jB [32] n.kids)) ∧ w' = W) := JN
  clear JN
  have hpos : 0 < n.kids.length := List.length_pos_iff.2 h0
  obtain ⟨T, HT⟩ : ∃ T, Hid (sB (shw n) = T) := ⟨_, rfl⟩
  rw [HT.out] at hV ⊢
  have HV := Lib.hid hV
  rw [hk]
  generalize (n.kids.map shw).map sB = TS at *
  generalize jB [32] n.kids = J at *
  clear h0
  clear h hm IH hR hk hsh hl hl2 hr hcap hlm hts HT hV
  generalize n.kids.length = k at *
  have d0 : decide ((k : Int) - 1 < 0) = false := by rw [decide_eq_false_iff_not]; omega
  have d1 : ¬ ((k : Int) - 1 < 0) := by omega
  have hb0 : Below w.heap.size w (w.alloc (.cells #[.int .i64 13, .string n.t, .int .i64 n.num, .slice A k c] 24)) := by (repeat (first | with_reducible assumption | with_reducible exact Below.refl _ _ | (refine Below.setCell ?_ (by first | omega | (simp; done) | (simp; omega)) _) | (refine Below.drewN_ ?_ _) | (refine Below.drew ?_) | (refine Below.alloc ?_ (by first | omega | (simp; done) | (simp; omega)) _)))
  have HB0 := Lib.hid hb0
  clear hb0
  go_enter Tryd.func14, Tryd.ntmps14
  go_wp2_with fail
  refine (SH.out _ HB0.out).mono ?_
  rintro e w1 ⟨A1, c1, rfl, hst, hb1⟩
  have B1 := Lib.hid (below_trans HB0.out (Nat.le_refl _) hb1)
  have HS := Lib.hid hst
  clear hb1 hst
  go_wp2_with fail
  refine (JN2.out _ _ _ HS.out).mono ?_
  rintro e w2 ⟨rfl, rfl⟩
  go_wp2
  go_ret
  exact ⟨by rw [← HV.out]; rfl, B1.out⟩
theorem show_13_0 (n : Nd) (f : Bool) (h : isN n f = true) (hm : many n ≤ 700) (hk : n.k = 13) (h0 : n.kids = []) (IH : ∀ m ∈ n.kids, ShwOk m) : ShwOk n := by
  intro cs w hr
  obtain ⟨A, c, rfl, hR, hcap, hlm, hn64, hts⟩ := hr.four
  have hsh : shp n.k = some ⟨false, 0, 0, -1⟩ := by rw [hk]; rfl
  obtain ⟨hl, hl2⟩ := kids_at h hsh
  simp only at hl hl2
  have HV := Lib.hid (txt_13_no hk h0)
  obtain ⟨T, HT⟩ : ∃ T, Hid (sB (shw n) = T) := ⟨_, rfl⟩
  have hln : n.kids.length = 0 := by rw [h0]; rfl
  have hb0 : Below w.heap.size w (w.alloc (.cells #[.int .i64 13, .string n.t, .int .i64 n.num, .slice A 0 c] 24)) := by (repeat (first | with_reducible assumption | with_reducible exact Below.refl _ _ | (refine Below.setCell ?_ (by first | omega | (simp; done) | (simp; omega)) _) | (refine Below.drewN_ ?_ _) | (refine Below.drew ?_) | (refine Below.alloc ?_ (by first | omega | (simp; done) | (simp; omega)) _)))
  have HB0 := Lib.hid hb0
  rw [HT.out] at HV ⊢
  rw [hln, hk]
  clear h0
  clear h hm IH hR hk hsh hl hl2 hr hb0 hln hcap hlm hts HT
  go_enter Tryd.func14, Tryd.ntmps14
  go_wp2
  go_ret
  exact ⟨by rw [← HV.out]; rfl, HB0.out⟩
theorem show_27_1 (n : Nd) (f : Bool) (h : isN n f = true) (hm : many n ≤ 700) (hk : n.k = 27) (h0 : n.kids ≠ []) (IH : ∀ m ∈ n.kids, ShwOk m) : ShwOk n := by
  intro cs w hr
  obtain ⟨A, c, rfl, hR, hcap, hlm, hn64, hts⟩ := hr.four
  have hsh : shp n.k = some ⟨true, 0, 0, -1⟩ := by rw [hk]; rfl
  obtain ⟨hl, hl2⟩ := kids_at h hsh
  simp only at hl hl2
  have hV := txt_27 hk (kids_ne h) h0
  have hfew := kids_few hm
  have hj : (jB [32, 44, 32] n.kids).size ≤ 200000 := by
    have h1 := text_le h hm
    rw [← hV] at h1
    try simp only [ByteArray.size_append] at h1
    omega
  have hts2 : n.t.size ≤ 20 := name_short h hsh rfl
  have SH := texts_here (c := c) hR hfew IH
  have JN := join_here (l := n.kids) (sep := (⟨#[32, 44, 32]⟩ : ByteArray)) (by decide) hfew hj
  have JN2 : Hid (∀ W A c, StrL W ((n.kids.map shw).map sB) A → Calls Tryd.prog 34 #[.slice A n.kids.length c, .string (⟨#[32, 44, 32]⟩ : ByteArray)] W fun e w' => e = .returned (.string (jB [32, 44, 32] n.kids)) ∧ w' = W) := JN
  clear JN
  have hpos : 0 < n.kids.length := List.length_pos_iff.2 h0
  obtain ⟨T, HT⟩ : ∃ T, Hid (sB (shw n) = T) := ⟨_, rfl⟩
  rw [HT.out] at hV ⊢
  have HV := Lib.hid hV
  rw [hk]
  generalize (n.kids.map shw).map sB = TS at *
  generalize jB [32, 44, 32] n.kids = J at *
  clear h0
  clear h hm IH hR hk hsh hl hl2 hr hcap hlm hts HT hV
  generalize n.kids.length = k at *
  have kq := Blk.new_ w 24 #[.int .i64 27, .string n.t, .int .i64 n.num, .slice A k c]
  have hb0 : Below w.heap.size w (w.alloc (.cells #[.int .i64 27, .string n.t, .int .i64 n.num, .slice A k c] 24)) := by (repeat (first | with_reducible assumption | with_reducible exact Below.refl _ _ | (refine Below.setCell ?_ (by first | omega | (simp; done) | (simp; omega)) _) | (refine Below.drewN_ ?_ _) | (refine Below.drew ?_) | (refine Below.alloc ?_ (by first | omega | (simp; done) | (simp; omega)) _)))
  have HB0 := Lib.hid hb0
  have HQ := Lib.hid (And.intro (kq.cell 0 _ rfl) (And.intro (kq.cell 1 _ rfl) (And.intro (kq.cell 2 _ rfl) (kq.cell 3 _ rfl))))
  have HM1 := Lib.hid kq.lt
  clear kq hb0
  have d0 : decide ((k : Int) - 1 < 0) = false := by rw [decide_eq_false_iff_not]; omega
  have d1 : ¬ ((k : Int) - 1 < 0) := by omega
  go_enter Tryd.func14, Tryd.ntmps14
  go_wp2_with fail
  generalize (w.alloc (.cells #[.int .i64 27, .string n.t, .int .i64 n.num, .slice A k c] 24)) = w1 at *
  have SH2 : Hid (∀ W, Below w1.heap.size w1 W → Calls Tryd.prog 35 #[.slice A k c] W (ShT k TS W)) := fun W hW => SH.out W (below_trans HB0.out (Nat.le_refl _) hW)
  have e1 : ∀ w, (Op.stringOp .add (n.t) (⟨#[32, 123, 32]⟩ : ByteArray)).run Tryd.prog w = .ok (.string (n.t ++ (⟨#[32, 123, 32]⟩ : ByteArray))) w := fun w => run_string_add_sum w _ _ (by (try simp only [ByteArray.size_append]); have : (⟨#[32, 123, 32]⟩ : ByteArray).size = 3 := rfl; have : (⟨#[32, 125]⟩ : ByteArray).size = 2 := rfl; omega)
  have e2 : ∀ w, (Op.stringOp .add (n.t ++ (⟨#[32, 123, 32]⟩ : ByteArray)) J).run Tryd.prog w = .ok (.string (n.t ++ (⟨#[32, 123, 32]⟩ : ByteArray) ++ J)) w := fun w => run_string_add_sum w _ _ (by (try simp only [ByteArray.size_append]); have : (⟨#[32, 123, 32]⟩ : ByteArray).size = 3 := rfl; have : (⟨#[32, 125]⟩ : ByteArray).size = 2 := rfl; omega)
  have e3 : ∀ w, (Op.stringOp .add (n.t ++ (⟨#[32, 123, 32]⟩ : ByteArray) ++ J) (⟨#[32, 125]⟩ : ByteArray)).run Tryd.prog w = .ok (.string (n.t ++ (⟨#[32, 123, 32]⟩ : ByteArray) ++ J ++ (⟨#[32, 125]⟩ : ByteArray))) w := fun w => run_string_add_sum w _ _ (by (try simp only [ByteArray.size_append]); have : (⟨#[32, 123, 32]⟩ : ByteArray).size = 3 := rfl; have : (⟨#[32, 125]⟩ : ByteArray).size = 2 := rfl; omega)
  have q := HQ.out
  go_region_held3 (fun W => Below w1.heap.size w1 W ∧ W.cell? ⟨w.heap.size, 0, none⟩ = some (.int .i64 27) ∧ W.cell? ⟨w.heap.size, 1, none⟩ = some (.string n.t) ∧ W.cell? ⟨w.heap.size, 2, none⟩ = some (.int .i64 n.num) ∧ W.cell? ⟨w.heap.size, 3, none⟩ = some (.slice A k c)) (first | exact ⟨(Below.refl _ _).drew, q⟩ | exact keepB HM1.out (by assumption) hbq | exact ⟨Below.drew (And.left (by assumption)), And.right (by assumption)⟩ | assumption | go_keep) (first | (go_at_call 35; ((with_reducible refine (SH2.out _ (And.left (by assumption))).mono ?_); rintro e w' ⟨A1, c1, rfl, hst, hbq⟩)) | (go_at_call 34; ((with_reducible refine (JN2.out _ _ _ hst).mono ?_); rintro e w' ⟨rfl, rfl⟩)))
  all_goals
    rename_i hh
    have B1 := Lib.hid (below_trans HB0.out (Nat.le_refl _) hh.1)
    go_wp2
    go_ret
    exact ⟨by rw [← HV.out]; rfl, B1.out⟩
theorem show_27_0 (n : Nd) (f : Bool) (h : isN n f = true) (hm : many n ≤ 700) (hk : n.k = 27) (h0 : n.kids = []) (IH : ∀ m ∈ n.kids, ShwOk m) : ShwOk n := by
  intro cs w hr
  obtain ⟨A, c, rfl, hR, hcap, hlm, hn64, hts⟩ := hr.four
  have hsh : shp n.k = some ⟨true, 0, 0, -1⟩ := by rw [hk]; rfl
  obtain ⟨hl, hl2⟩ := kids_at h hsh
  simp only at hl hl2
  have HV := Lib.hid (txt_27_no hk h0)
  obtain ⟨T, HT⟩ : ∃ T, Hid (sB (shw n) = T) := ⟨_, rfl⟩
  have hts2 : n.t.size ≤ 20 := name_short h hsh rfl
  have hln : n.kids.length = 0 := by rw [h0]; rfl
  have hb0 : Below w.heap.size w (w.alloc (.cells #[.int .i64 27, .string n.t, .int .i64 n.num, .slice A 0 c] 24)) := by (repeat (first | with_reducible assumption | with_reducible exact Below.refl _ _ | (refine Below.setCell ?_ (by first | omega | (simp; done) | (simp; omega)) _) | (refine Below.drewN_ ?_ _) | (refine Below.drew ?_) | (refine Below.alloc ?_ (by first | omega | (simp; done) | (simp; omega)) _)))
  have HB0 := Lib.hid hb0
  rw [HT.out] at HV ⊢
  rw [hln, hk]
  clear h0
  clear h hm IH hR hk hsh hl hl2 hr hb0 hln hcap hlm hts HT
  go_enter Tryd.func14, Tryd.ntmps14
  go_wp2
  go_ret
  exact ⟨by rw [← HV.out]; rfl, HB0.out⟩
end Go.Proofs.YtgegfbopogcjpaaDoor
