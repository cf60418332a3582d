/- The printer: a list in parentheses. -/
import Derived.Test.YtgegfbopogcjpaaDoorSynH
namespace Go.Proofs.YtgegfbopogcjpaaDoor
open Go.RowKit
set_option linter.unusedVariables false
set_option linter.unusedSimpArgs false
set_option maxRecDepth 100000
set_option maxHeartbeats 1000000
theorem commas_snoc : ∀ (l : List (List ByteArray)) (x : List ByteArray), commas (l ++ [x]) = if l = [] then x else commas l ++ ⟨#[44]⟩ :: x
  | [], x => by simp [commas]
  | [a], x => by simp [commas]
  | a :: b :: l, x => by
    have := commas_snoc (b :: l) x
    rw [if_neg (by simp)] at this
    rw [if_neg (by simp)]
    simp only [List.cons_append, commas] at this ⊢
    rw [this]
    simp
theorem manyL_append (l r : List Nd) : manyL (l ++ r) = manyL l + manyL r := by
  induction l with
  | nil => simp [manyL]
  | cons a l ih => rw [List.cons_append, manyL, manyL, ih]; omega
theorem manyL_take {l : List Nd} {k : Nat} (h : k < l.length) : manyL (l.take (k + 1)) = manyL (l.take k) + many l[k] := by
  rw [List.take_succ_eq_append_getElem h, manyL_append]
  simp [manyL]
theorem manyL_take_le (l : List Nd) (k : Nat) : manyL (l.take k) ≤ manyL l := by
  have := manyL_append (l.take k) (l.drop k)
  rw [List.take_append_drop] at this
  omega
theorem NOut.yes2 {w0 w w' : World} {p m : Nat} {ws new ws' : List ByteArray} {ok : Bool} (hs : St w0 p ws' w') (hk : PK p w w') (h1 : ok = true) (h2 : ws' = ws ++ new) (h3 : ws'.length ≤ ws.length + m) : NOut w0 p ws ok new m w (.returned (.tuple #[])) w' :=
  ⟨ws', hs, hk, h3, .inl ⟨h1, rfl, h2⟩⟩
/-- a function that prints one part -/
def LOk (f : FuncId) (okf : Nd → Bool) (shf : Nd → List ByteArray) (w0 : World) (p : Nat) (m : Nd) : Prop :=
  ∀ (cs : List Value) (w : World) (ws : List ByteArray), RepN w0 m cs → St w0 p ws w → ws.length + 10 * many m ≤ 90000 → Calls Tryd.prog f #[.pointer (some ⟨p, 0, none⟩), .agg cs.toArray] w (NOut w0 p ws (okf m) (shf m) (10 * many m - 3) w)
def ListRel (okf : Nd → Bool) (shf : Nd → List ByteArray) (w0 w : World) (p : Nat) (ws : List ByteArray) (l : List Nd) (i : Value) (wr : World) : Prop :=
  ∃ (k : Nat) (ws1 : List ByteArray), i = .int .i64 k ∧ k ≤ l.length ∧ Hid (St w0 p ws1 wr ∧ PK p w wr ∧ ws1 = ws ++ (⟨#[40]⟩ :: commas ((l.take k).map shf)) ∧ (l.take k).all okf = true ∧ ws1.length ≤ ws.length + 1 + 10 * manyL (l.take k))
theorem all_take {l : List Nd} {okf : Nd → Bool} {k : Nat} (h : k < l.length) (h1 : (l.take k).all okf = true) : (l.take (k + 1)).all okf = okf l[k] := by
  rw [List.take_succ_eq_append_getElem h, List.all_append, h1]
  simp
theorem all_false {l : List Nd} {okf : Nd → Bool} {k : Nat} (h : k < l.length) (h1 : okf l[k] = false) : l.all okf = false := by
  rw [List.all_eq_false]
  exact ⟨l[k], List.getElem_mem h, by simp [h1]⟩
theorem cf_of {f : FuncId} {fn : Func} (hf : Tryd.prog.funcs[f]? = some fn) (hn : (fn.name == "runtime.NumGoroutine") = false) (hb : fn.body.isNone = false) : ∀ (args : Array Value) (w : World), (callFunc f args).run Tryd.prog w = .ok (.enter f args) w := by
  intro args w
  have hn' : ¬ fn.name = "runtime.NumGoroutine" := by simpa using hn
  have hb' : ¬ fn.body = Option.none := by intro h; rw [h] at hb; cases hb
  unfold callFunc
  simp [go_sem, hf, hn', hb']
theorem list_any (f : FuncId) (okf : Nd → Bool) (shf : Nd → List ByteArray) (w0 w : World) (p : Nat) (ws : List ByteArray) (l : List Nd) (A : Option Addr) (c : Nat) (dots : Bool) (hA : RepNL w0 l A) (h : St w0 p ws w)
    (hb : ws.length + 10 * manyL l + 10 ≤ 90000) (hcf : ∀ (args : Array Value) (w : World), (callFunc f args).run Tryd.prog w = .ok (.enter f args) w) (hf : ∀ m ∈ l, LOk f okf shf w0 p m) :
    Calls Tryd.prog 18 #[.pointer (some ⟨p, 0, none⟩), .slice A l.length c, .bool dots, .func (.func f) #[.pointer (some ⟨p, 0, none⟩)] #[]] w (NOut w0 p ws (l.all okf) (rowW (l.map shf) dots) (10 * manyL l + 4) w) := by
  have H := Lib.hid h
  clear h
  have hll := manyL_len l
  obtain ⟨ok, HK⟩ : ∃ b, Hid (l.all okf = b) := ⟨_, rfl⟩
  rw [HK.out]
  obtain ⟨nw, HW⟩ : ∃ b, Hid (rowW (l.map shf) dots = b) := ⟨_, rfl⟩
  rw [HW.out]
  have HF := Lib.hid hf
  have HA := Lib.hid hA
  clear hf hA
  go_enter Tryd.func18, Tryd.ntmps18
  go_wp2_with fail
  refine (psay1 _ H.out (by omega)).mono ?_
  rintro e w1 ⟨rfl, h1, p1⟩
  have H1 := Lib.hid h1
  have P1 := Lib.hid p1
  clear h1 p1
  go_wp2_with fail
  go_loopw [15] (fun i wr => ListRel okf shf w0 w p ws l i wr) (fun i _ => l.length - (intOf i).toNat)
  case atStart => exact ⟨0, _, rfl, Nat.zero_le _, Lib.hid ⟨H1.out, P1.out, by simp [commas], by simp, by simp⟩⟩
  case round =>
    obtain ⟨k, ws1, rfl, hk, HR⟩ := hrel
    clear H1 P1
    have hle := HR.out.2.2.2.2
    have hmt := manyL_take_le l k
    by_cases hlt : k < l.length
    · have hi : (k : Int) < (l.length : Int) := by omega
      obtain ⟨b, o, cs, rfl, hbl, hc, hrep⟩ := RepNL.at_ l _ HA.out k hlt
      obtain ⟨A', c', rfl, -⟩ := hrep.four
      have bw := HR.out.1.1
      have c0 := (bw.cell (p := ⟨b, o + k * 4 + 0, none⟩) hbl).trans (hc 0 _ rfl)
      have c1 := (bw.cell (p := ⟨b, o + k * 4 + 1, none⟩) hbl).trans (hc 1 _ rfl)
      have c2 := (bw.cell (p := ⟨b, o + k * 4 + 2, none⟩) hbl).trans (hc 2 _ rfl)
      have c3 := (bw.cell (p := ⟨b, o + k * 4 + 3, none⟩) hbl).trans (hc 3 _ rfl)
      rw [Nat.add_zero] at c0
      clear hc bw
      have HL := Lib.hid (HF.out _ (List.getElem_mem hlt))
      have HT := Lib.hid (manyL_take hlt)
      have HAT := Lib.hid (all_take (okf := okf) hlt HR.out.2.2.2.1)
      have HAF := Lib.hid (all_false (okf := okf) hlt)
      have HTS : Hid ((l.take (k + 1)).map shf = (l.take k).map shf ++ [shf l[k]]) := by show _ = _; rw [List.take_succ_eq_append_getElem hlt, List.map_append]; rfl
      have HREP := Lib.hid hrep
      have hmm : manyL (l.take k) + many l[k] ≤ manyL l := by rw [← HT.out]; exact manyL_take_le _ _
      have hpos := many_pos l[k]
      clear hrep
      generalize l[k] = x at *
      have hlw := HR.out.1.2.lt
      by_cases h0 : k = 0
      · have d0 : decide ((0 : Int) < (k : Int)) = false := by rw [decide_eq_false_iff_not]; omega
        have d1 : ¬ (0 : Int) < (k : Int) := by omega
        have H0 := Lib.hid h0
        clear h0
        go_wp2_with fail
        refine (HL.out _ _ _ HREP.out (HR.out.1.alloc _) (by omega)).mono ?_
        rintro e w2 ⟨ws2, h2, p2, l2, (⟨o2, rfl, e2⟩ | ⟨o2, rfl⟩)⟩
        · have H2 := Lib.hid h2
          have P2 := Lib.hid ((HR.out.2.1.trans_ (PK.alloc_ _ _ hlw)).trans_ p2)
          have E2 := Lib.hid e2
          have O2 := Lib.hid o2
          clear h2 p2 e2 o2
          go_wp2
          go_roundw
          case rel =>
            refine ⟨k + 1, ws2, by go_num, by omega, Lib.hid ⟨H2.out, P2.out, ?_, HAT.out.trans O2.out, by rw [HT.out]; omega⟩⟩
            rw [E2.out, HR.out.2.2.1, HTS.out, commas_snoc, if_pos (by rw [H0.out]; rfl), H0.out]
            simp [commas]
          case measure => (first | (simp [intOf]; done) | (simp [intOf]; omega))
        · have H2 := Lib.hid h2
          have P2 := Lib.hid ((HR.out.2.1.trans_ (PK.alloc_ _ _ hlw)).trans_ p2)
          have O2 := Lib.hid o2
          clear h2 p2 o2
          unfold noneE
          go_wp2
          exact ⟨rfl, NOut.no H2.out P2.out (HK.out.symm.trans (HAF.out O2.out)) (by omega)⟩
      · have d0 : decide ((0 : Int) < (k : Int)) = true := by rw [decide_eq_true_eq]; omega
        have d1 : (0 : Int) < (k : Int) := by omega
        have d2 : 0 < k := by omega
        have HB1 : Hid (St w0 p ws1 (wr.alloc (.cells #[.int .i64 x.k, .string x.t, .int .i64 x.num, .slice A' x.kids.length c'] 24)) ∧ PK p w (wr.alloc (.cells #[.int .i64 x.k, .string x.t, .int .i64 x.num, .slice A' x.kids.length c'] 24))) := ⟨HR.out.1.alloc _, HR.out.2.1.trans_ (PK.alloc_ _ _ hlw)⟩
        have KB := Lib.hid (Blk.new_ wr 24 #[.int .i64 x.k, .string x.t, .int .i64 x.num, .slice A' x.kids.length c'])
        go_wp2_with fail
        refine (psay1 _ HB1.out.1 (by omega)).mono ?_
        rintro e w3 ⟨rfl, h3, p3⟩
        have H3 := Lib.hid h3
        have P3 := Lib.hid (HB1.out.2.trans_ p3)
        have K3 := p3.blk HB1.out.1.2 KB.out (by decide) (by decide)
        clear h3 p3
        have q0 := K3.cell 0 (.int .i64 x.k) rfl
        have q1 := K3.cell 1 (.string x.t) rfl
        have q2 := K3.cell 2 (.int .i64 x.num) rfl
        have q3 := K3.cell 3 (.slice A' x.kids.length c') rfl
        have hl3 : (ws1 ++ [(⟨#[44]⟩ : ByteArray)]).length = ws1.length + 1 := by simp
        have HL3 := Lib.hid hl3
        clear hl3 K3
        go_wp2_with fail
        refine (HL.out _ _ _ HREP.out H3.out (by rw [HL3.out]; omega)).mono ?_
        rintro e w2 ⟨ws2, h2, p2, l2, (⟨o2, rfl, e2⟩ | ⟨o2, rfl⟩)⟩
        · have H2 := Lib.hid h2
          have P2 := Lib.hid (P3.out.trans_ p2)
          have E2 := Lib.hid e2
          have O2 := Lib.hid o2
          rw [HL3.out] at l2
          clear h2 p2 e2 o2
          go_wp2
          go_roundw
          case rel =>
            refine ⟨k + 1, ws2, by go_num, by omega, Lib.hid ⟨H2.out, P2.out, ?_, HAT.out.trans O2.out, by rw [HT.out]; omega⟩⟩
            rw [E2.out, HR.out.2.2.1, HTS.out, commas_snoc, if_neg (by
              intro he
              have : ((l.take k).map shf).length = 0 := by rw [he]; rfl
              rw [List.length_map, List.length_take] at this
              omega)]
            simp
          case measure => (first | (simp [intOf]; done) | (simp [intOf]; omega))
        · have H2 := Lib.hid h2
          have P2 := Lib.hid (P3.out.trans_ p2)
          have O2 := Lib.hid o2
          rw [HL3.out] at l2
          clear h2 p2 o2
          unfold noneE
          go_wp2
          exact ⟨rfl, NOut.no H2.out P2.out (HK.out.symm.trans (HAF.out O2.out)) (by omega)⟩
    · have hi : ¬ (k : Int) < (l.length : Int) := by omega
      have ek : k = l.length := by omega
      have HT1 : Hid (ws1 = ws ++ (⟨#[40]⟩ :: commas (l.map shf)) ∧ l.all okf = true) := by
        have h1 := HR.out.2.2.1
        have h2 := HR.out.2.2.2.1
        rw [ek, List.take_length] at h1 h2
        exact ⟨h1, h2⟩
      have HOK : Hid (ok = true) := HK.out.symm.trans HT1.out.2
      have hle2 : ws1.length ≤ ws.length + 1 + 10 * manyL l := by omega
      clear ek
      cases dots
      · have HNW : Hid (ws1 ++ [⟨#[41]⟩] = ws ++ nw) := by
          show _ = _
          rw [← HW.out, HT1.out.1]
          simp [rowW]
        go_wp2_with fail
        refine (psay1 _ HR.out.1 (by omega)).mono ?_
        rintro e w3 ⟨rfl, h3, p3⟩
        have H3 := Lib.hid h3
        have P3 := Lib.hid (HR.out.2.1.trans_ p3)
        clear h3 p3
        go_wp2
        go_end0
        exact NOut.yes2 H3.out P3.out HOK.out HNW.out (by simp; omega)
      · by_cases h0 : l.length = 0
        · have d0 : decide ((0 : Int) < (l.length : Int)) = false := by rw [decide_eq_false_iff_not]; omega
          have d1 : ¬ (0 : Int) < (l.length : Int) := by omega
          have HNW : Hid (ws1 ++ [⟨#[46, 46, 46]⟩] ++ [⟨#[41]⟩] = ws ++ nw) := by
            show _ = _
            rw [← HW.out, HT1.out.1, List.eq_nil_of_length_eq_zero h0]
            simp [rowW, commas]
          have H0 := Lib.hid h0
          clear h0
          go_wp2_with fail
          refine (psay1 _ HR.out.1 (by omega)).mono ?_
          rintro e w3 ⟨rfl, h3, p3⟩
          have H3 := Lib.hid h3
          have P3 := Lib.hid (HR.out.2.1.trans_ p3)
          clear h3 p3
          go_wp2_with fail
          refine (psay1 _ H3.out (by simp; omega)).mono ?_
          rintro e w4 ⟨rfl, h4, p4⟩
          have H4 := Lib.hid h4
          have P4 := Lib.hid (P3.out.trans_ p4)
          clear h4 p4
          go_wp2
          go_end0
          exact NOut.yes2 H4.out P4.out HOK.out HNW.out (by simp; omega)
        · have d0 : decide ((0 : Int) < (l.length : Int)) = true := by rw [decide_eq_true_eq]; omega
          have d1 : (0 : Int) < (l.length : Int) := by omega
          have HNW : Hid (ws1 ++ [⟨#[44]⟩] ++ [⟨#[46, 46, 46]⟩] ++ [⟨#[41]⟩] = ws ++ nw) := by
            show _ = _
            rw [← HW.out, HT1.out.1]
            unfold rowW
            rw [if_pos rfl, commas_snoc, if_neg (by
              intro he
              have : (l.map shf).length = 0 := by rw [he]; rfl
              rw [List.length_map] at this
              exact h0 this)]
            simp
          have H0 := Lib.hid h0
          clear h0
          go_wp2_with fail
          refine (psay1 _ HR.out.1 (by omega)).mono ?_
          rintro e w3 ⟨rfl, h3, p3⟩
          have H3 := Lib.hid h3
          have P3 := Lib.hid (HR.out.2.1.trans_ p3)
          clear h3 p3
          go_wp2_with fail
          refine (psay1 _ H3.out (by simp; omega)).mono ?_
          rintro e w4 ⟨rfl, h4, p4⟩
          have H4 := Lib.hid h4
          have P4 := Lib.hid (P3.out.trans_ p4)
          clear h4 p4
          go_wp2_with fail
          refine (psay1 _ H4.out (by simp; omega)).mono ?_
          rintro e w5 ⟨rfl, h5, p5⟩
          have H5 := Lib.hid h5
          have P5 := Lib.hid (P4.out.trans_ p5)
          clear h5 p5
          go_wp2
          go_end0
          exact NOut.yes2 H5.out P5.out HOK.out HNW.out (by simp; omega)
end Go.Proofs.YtgegfbopogcjpaaDoor
