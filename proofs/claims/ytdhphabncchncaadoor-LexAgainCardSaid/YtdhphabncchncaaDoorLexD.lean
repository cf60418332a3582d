/- The token of a row that begins with a digit (lex.number). -/
import Derived.Test.YtdhphabncchncaaDoorLexC
import Derived.LaidMore
namespace Go.Proofs.YtdhphabncchncaaDoor
open Go.RowKit Go.Shelf
set_option linter.unusedVariables false
set_option linter.unusedSimpArgs false
set_option maxRecDepth 100000
set_option maxHeartbeats 1000000
/-- a token's cells -/
def tokC (k : Int) (t : ByteArray) (p : Nat) : Array Value := #[.int .i64 k, .string t, .int .i64 p]
def zeroT : Array Value := #[.int .i64 0, .string ⟨#[]⟩, .int .i64 0]
def numC (r : ByteArray) : Array Value := if numE r = 0 then tokC (numK r) (digitsOf r) 0 else zeroT
def NumOut (w : World) (r : ByteArray) (e : Ending) (w' : World) : Prop := e = .returned (.tuple #[.agg (numC r), .int .i64 (numE r)]) ∧ Below w.heap.size w w'
theorem results_tok {fn : Func} (h : fn.results = #[.cell 2 29, .tmp 3]) {w : World} {b : Nat} {a0 a1 a2 x : Value} {tmps : Array Value} (k : Blk w b 29 #[a0, a1, a2]) (h2 : tmps.getD 2 undef = .pointer (some ⟨b, 0, none⟩)) (h3 : tmps.getD 3 undef = x) :
    (results fn tmps).run Tryd.prog w = .ok (.tuple #[.agg #[a0, a1, a2], x]) w := by
  have c0 := k.cell 0 _ rfl
  have c1 := k.cell 1 _ rfl
  have c2 := k.cell 2 _ rfl
  simp at c0 c1 c2
  simp only [Array.getD_eq_getD_getElem?] at h2 h3
  simp [results, h, go_sem, h2, h3, c0, c1, c2]
theorem below_set3 {B : Nat} {u w : World} {b : Nat} (h : Below B u w) (hB : B ≤ b) (b0 b1 b2 : Value) :
    Below B u (((w.setCell ⟨b, 0, none⟩ b0).setCell ⟨b, 1, none⟩ b1).setCell ⟨b, 2, none⟩ b2) :=
  ((h.setCell (p := ⟨b, 0, none⟩) hB _).setCell (p := ⟨b, 1, none⟩) hB _).setCell (p := ⟨b, 2, none⟩) hB _
theorem blk_set3 {w : World} {b : Nat} {t : TypeId} {a0 a1 a2 : Value} (k : Blk w b t #[a0, a1, a2]) (b0 b1 b2 : Value) :
    Blk (((w.setCell ⟨b, 0, none⟩ b0).setCell ⟨b, 1, none⟩ b1).setCell ⟨b, 2, none⟩ b2) b t #[b0, b1, b2] :=
  ((k.set_ 0 b0).set_ 1 b1).set_ 2 b2
theorem digitsOf_pos {r : ByteArray} (h1 : 1 ≤ r.size) (hd : digitI (byteI r 0) = true) : 1 ≤ (digitsOf r).size ∧ (digitsOf r).size ≤ r.size ∧ byteI (digitsOf r) 0 = byteI r 0 := by
  unfold digitsOf
  rcases hl : isLong r with _ | _
  · exact ⟨h1, Nat.le_refl _, rfl⟩
  · have h2 : 2 ≤ r.size := by
      rcases Nat.lt_or_ge 1 r.size with h | h
      · exact h
      · exfalso
        have e : r.size - 1 = 0 := by omega
        unfold isLong at hl
        rw [e, beq_iff_eq] at hl
        rw [hl] at hd
        cases hd
    have hs : (r.extract 0 (r.size - 1)).size = r.size - 1 := by simp
    rw [if_pos rfl]
    refine ⟨by omega, by omega, ?_⟩
    rw [byteI_extract (by omega) (by omega), Nat.zero_add]
theorem numE_form {r : ByteArray} (h : allDigits (digitsOf r) = false) : numE r = 2 := by
  unfold numE; rw [if_pos h]
theorem numE_nought {r : ByteArray} (h : allDigits (digitsOf r) = true) (h1 : 1 < (digitsOf r).size) (h2 : byteI (digitsOf r) 0 = 48) : numE r = 2 := by
  unfold numE; rw [if_neg (by rw [h]; simp), if_pos ⟨h1, h2⟩]
theorem numE_range {r : ByteArray} (h : allDigits (digitsOf r) = true) (h1 : ¬(1 < (digitsOf r).size ∧ byteI (digitsOf r) 0 = 48)) (h2 : numMost (isLong r) < decL (digitsOf r).data.toList) : numE r = 6 := by
  unfold numE; rw [if_neg (by rw [h]; simp), if_neg h1, if_pos h2]
theorem numE_ok {r : ByteArray} (h : allDigits (digitsOf r) = true) (h1 : ¬(1 < (digitsOf r).size ∧ byteI (digitsOf r) 0 = 48)) (h2 : ¬ numMost (isLong r) < decL (digitsOf r).data.toList) : numE r = 0 := by
  unfold numE; rw [if_neg (by rw [h]; simp), if_neg h1, if_neg h2]
theorem numC_bad {r : ByteArray} {e : Int} (h : numE r = e) (he : e ≠ 0) : numC r = zeroT := by
  unfold numC; rw [if_neg (by rw [h]; exact he)]
theorem numC_ok {r : ByteArray} (h : numE r = 0) : numC r = tokC (numK r) (digitsOf r) 0 := by
  unfold numC; rw [if_pos h]
theorem bytes_empty {l : List UInt8} (h : l = []) : (⟨l.toArray⟩ : ByteArray) = ⟨#[]⟩ := by subst h; rfl

theorem number_short (r : ByteArray) (w : World) (h1 : 1 ≤ r.size) (h4 : r.size ≤ 4000) (hd : digitI (byteI r 0) = true) (he : ER w) (hl : isLong r = false) : Calls Tryd.prog 20 #[.string r] w (NumOut w r) := by
  have hsuf : Lib.hasSuffix r.data.toList [76] = false := (suffix_long r h1).trans hl
  have HX : Hid (∀ W : World, Calls Tryd.prog 25 #[.string r, .string ⟨#[76]⟩] W fun e w' => e = .returned (.bool false) ∧ w' = W) := fun W => by
    have := sh_strings_HasSuffix r ⟨#[76]⟩ W (by omega)
    rw [hsuf] at this
    exact this
  obtain ⟨hd1, hd2, hd3⟩ := digitsOf_pos h1 hd
  have HDE : Hid (digitsOf r = r) := by show _ = _; unfold digitsOf; rw [hl]; rfl
  have HK : Hid (numK r = 2) := by show _ = _; unfold numK; rw [hl]; rfl
  have HL := Lib.hid hl
  have HD3 := Lib.hid hd3
  clear hsuf hl hd3
  have hr1 : (1 : Int) ≤ (r.size : Int) := by omega
  have kb0 := Blk.new_ w 29 zeroT
  have HER : Hid (ER w) := he
  clear he
  go_enter Tryd.func20, Tryd.ntmps20
  go_wp2_with (go_at_call 25; refine (HX.out _).mono ?_; rintro e w' ⟨rfl, hw⟩; subst hw)
  
  have HT : Hid (∀ W : World, Calls Tryd.prog 26 #[.string (r), .string tenB] W fun e w' => e = .returned (.string ⟨(Lib.trimS (digitsOf r).data.toList tenB.data.toList).toArray⟩) ∧ Below W.heap.size W w') := fun W => by
    have := trim_any (digitsOf r) W (by omega)
    rw [HDE.out] at this ⊢
    exact this
  refine (HT.out _).mono ?_
  clear HT HX
  rintro e w1 ⟨rfl, hb⟩
  have hb1 : Below w.heap.size w w1 := Below.trans (by (repeat (first | with_reducible assumption | with_reducible exact Below.refl _ _ | (refine Below.setCell ?_ (by first | omega | (simp; done) | (simp; omega)) _) | (refine Below.drewN_ ?_ _) | (refine Below.drew ?_) | (refine Below.alloc ?_ (by first | omega | (simp; done) | (simp; omega)) _)))) (hb.mono (by simp))
  have kb := kb0.below hb
  have kb' : Blk w1 w.heap.size 29 #[.int .i64 0, .string ⟨#[]⟩, .int .i64 0] := kb
  have hlt1 : w.heap.size < w1.heap.size := kb.lt
  have x0 := kb'.cell 0 (.int .i64 0) rfl
  have x1 := kb'.cell 1 (.string ⟨#[]⟩) rfl
  have x2 := kb'.cell 2 (.int .i64 0) rfl
  have f0 := kb'.free 0
  have f1 := kb'.free 1
  have f2 := kb'.free 2
  have HER1 : Hid (ER w1) := HER.out.keep hb1
  have HB1 := Lib.hid hb1
  have KB := Lib.hid kb'
  clear hb kb kb' kb0 hb1 HER
  rcases had : allDigits (digitsOf r) with _ | _
  · obtain ⟨b, t, hbt⟩ := trim_some had
    rw [hbt]
    have HN : Hid (numE r = 2) := numE_form had
    have g1 : ¬ (⟨(b :: t).toArray⟩ : ByteArray).toList = [] := by
      rw [ByteArray.toList_mk]; intro h; cases h
    clear hbt had
    generalize (⟨(b :: t).toArray⟩ : ByteArray) = T at *
    go_wp2_with fail
    exact bodyPost_ret (results_tok (by kernel_rfl) (blk_set3 KB.out _ _ _) rfl rfl) rfl ⟨by rw [numC_bad HN.out (by decide), HN.out]; rfl, below_set3 HB1.out (Nat.le_refl _) _ _ _⟩
  · rw [bytes_empty (trim_all had)]
    have HDS : Hid ((r : ByteArray) = digitsOf r) := HDE.out.symm
    rw [HDS.out]
    generalize hDr : digitsOf r = D at *
    have HDR := Lib.hid hDr
    clear hDr
    by_cases hone : 1 < D.size
    · have d1 : (1 : Int) < (D.size : Int) := by omega
      have d1b : decide ((1 : Int) < (D.size : Int)) = true := by rw [decide_eq_true_eq]; exact d1
      by_cases h48 : byteI D 0 = 48
      · have HN : Hid (numE r = 2) := numE_nought (by rw [HDR.out]; exact had) (by rw [HDR.out]; exact hone) (by rw [HDR.out]; exact h48)
        have d2 : (((D[0]'(by omega)).toNat : Int) == 48) = true := by rw [beq_iff_eq, ← byteI_at (by omega)]; exact h48
        clear had h48
        go_wp2_with fail
        exact bodyPost_ret (results_tok (by kernel_rfl) (blk_set3 KB.out _ _ _) rfl rfl) rfl ⟨by rw [numC_bad HN.out (by decide), HN.out]; rfl, below_set3 HB1.out (Nat.le_refl _) _ _ _⟩
      · have d2 : (((D[0]'(by omega)).toNat : Int) == 48) = false := by rw [beq_eq_false_iff_ne, ← byteI_at (by omega)]; exact h48
        have hnn : Hid (¬(1 < (digitsOf r).size ∧ byteI (digitsOf r) 0 = 48)) := by
          show ¬ _
          rw [HDR.out]; exact fun h => h48 h.2
        clear h48
        have had' : (digitsOf r).data.toList.all digU = true := by rw [HDR.out]; exact had
        have hne : (digitsOf r).data.toList ≠ [] := by
          intro h
          have hz : (digitsOf r).data.toList.length = (digitsOf r).size := Array.length_toList
          rw [h, HDR.out] at hz
          simp at hz
          omega
        obtain ⟨hp1, hp2⟩ := parse_digits 32 (by decide) _ hne had'
        by_cases hmost : numMost (isLong r) < decL (digitsOf r).data.toList
        · have HN : Hid (numE r = 6) := numE_range (by rw [HDR.out]; exact had) hnn.out hmost
          have hrg := hp2 (by rw [HL.out] at hmost; exact hmost)
          obtain ⟨tp, p, hvar⟩ := HER1.out
          have HP : Hid (Calls Tryd.prog 27 #[.string D, .int .i64 10, .int .i64 32] w1 fun e w' => (∃ v t N, e = .returned (.tuple #[.int .i64 v, .iface t (.pointer (some ⟨N, 0, none⟩))])) ∧ Below w1.heap.size w1 w') := by
            have := sh_strconv_ParseInt_10_at32_range_var (digitsOf r) (by rw [HDR.out]; omega) hrg tp p w1 hvar
            rw [HDR.out] at this
            exact this.mono fun e w' ⟨N, h, _, _, hbw⟩ => ⟨⟨_, _, N, h⟩, hbw⟩
          clear hp1 hp2 hrg hvar hmost had had' hne
          go_wp2_with fail
          refine HP.out.mono ?_
          clear HP
          rintro e w2 ⟨⟨v, tt, NN, rfl⟩, hb2⟩
          have KB2 := Lib.hid (KB.out.below hb2)
          have HB2 := Lib.hid (below_trans HB1.out (Nat.le_refl _) hb2)
          clear hb2 x0 x1 x2 f0 f1 f2
          have x0 := KB2.out.cell 0 (.int .i64 0) rfl
          have x1 := KB2.out.cell 1 (.string ⟨#[]⟩) rfl
          have x2 := KB2.out.cell 2 (.int .i64 0) rfl
          have f0 := KB2.out.free 0
          have f1 := KB2.out.free 1
          have f2 := KB2.out.free 2
          go_wp2_with fail
          exact bodyPost_ret (results_tok (by kernel_rfl) (blk_set3 KB2.out _ _ _) rfl rfl) rfl ⟨by rw [numC_bad HN.out (by decide), HN.out]; rfl, below_set3 HB2.out (Nat.le_refl _) _ _ _⟩
        · have HN : Hid (numE r = 0) := numE_ok (by rw [HDR.out]; exact had) hnn.out hmost
          have hok := hp1 (by rw [HL.out] at hmost; exact Nat.le_of_not_lt hmost)
          have HP : Hid (Calls Tryd.prog 27 #[.string D, .int .i64 10, .int .i64 32] w1 fun e w' => (∃ v : Int, e = .returned (.tuple #[.int .i64 v, .nilIface])) ∧ Below w1.heap.size w1 w') := by
            have := sh_strconv_ParseInt_10_at32_ok (digitsOf r) (by rw [HDR.out]; omega) _ hok w1
            rw [HDR.out] at this
            refine this.mono fun e w' ⟨h, hbw⟩ => ⟨⟨_, h⟩, ?_⟩
            rcases hbw with rfl | ⟨t, rfl⟩
            · exact Below.refl _ _
            · exact Lib.bytesWorld_below _ _ _
          clear hp1 hp2 hok hmost had had' hne
          go_wp2_with fail
          refine HP.out.mono ?_
          clear HP
          rintro e w2 ⟨⟨v, rfl⟩, hb2⟩
          have KB2 := Lib.hid (KB.out.below hb2)
          have HB2 := Lib.hid (below_trans HB1.out (Nat.le_refl _) hb2)
          clear hb2 x0 x1 x2 f0 f1 f2
          have x0 := KB2.out.cell 0 (.int .i64 0) rfl
          have x1 := KB2.out.cell 1 (.string ⟨#[]⟩) rfl
          have x2 := KB2.out.cell 2 (.int .i64 0) rfl
          have f0 := KB2.out.free 0
          have f1 := KB2.out.free 1
          have f2 := KB2.out.free 2
          go_wp2_with fail
          exact bodyPost_ret (results_tok (by kernel_rfl) (blk_set3 KB2.out _ _ _) rfl rfl) rfl ⟨by rw [numC_ok HN.out, HN.out, HK.out, HDR.out]; rfl, below_set3 HB2.out (Nat.le_refl _) _ _ _⟩
    · have d1 : (D.size : Int) ≤ 1 := by omega
      have d1b : decide ((1 : Int) < (D.size : Int)) = false := by rw [decide_eq_false_iff_not]; omega
      have hnn : Hid (¬(1 < (digitsOf r).size ∧ byteI (digitsOf r) 0 = 48)) := by
        show ¬ _
        rw [HDR.out]; exact fun h => hone h.1
      have had' : (digitsOf r).data.toList.all digU = true := by rw [HDR.out]; exact had
      have hne : (digitsOf r).data.toList ≠ [] := by
        intro h
        have hz : (digitsOf r).data.toList.length = (digitsOf r).size := Array.length_toList
        rw [h, HDR.out] at hz
        simp at hz
        omega
      obtain ⟨hp1, hp2⟩ := parse_digits 32 (by decide) _ hne had'
      by_cases hmost : numMost (isLong r) < decL (digitsOf r).data.toList
      · have HN : Hid (numE r = 6) := numE_range (by rw [HDR.out]; exact had) hnn.out hmost
        have hrg := hp2 (by rw [HL.out] at hmost; exact hmost)
        obtain ⟨tp, p, hvar⟩ := HER1.out
        have HP : Hid (Calls Tryd.prog 27 #[.string D, .int .i64 10, .int .i64 32] w1 fun e w' => (∃ v t N, e = .returned (.tuple #[.int .i64 v, .iface t (.pointer (some ⟨N, 0, none⟩))])) ∧ Below w1.heap.size w1 w') := by
          have := sh_strconv_ParseInt_10_at32_range_var (digitsOf r) (by rw [HDR.out]; omega) hrg tp p w1 hvar
          rw [HDR.out] at this
          exact this.mono fun e w' ⟨N, h, _, _, hbw⟩ => ⟨⟨_, _, N, h⟩, hbw⟩
        clear hp1 hp2 hrg hvar hmost had had' hne
        go_wp2_with fail
        refine HP.out.mono ?_
        clear HP
        rintro e w2 ⟨⟨v, tt, NN, rfl⟩, hb2⟩
        have KB2 := Lib.hid (KB.out.below hb2)
        have HB2 := Lib.hid (below_trans HB1.out (Nat.le_refl _) hb2)
        clear hb2 x0 x1 x2 f0 f1 f2
        have x0 := KB2.out.cell 0 (.int .i64 0) rfl
        have x1 := KB2.out.cell 1 (.string ⟨#[]⟩) rfl
        have x2 := KB2.out.cell 2 (.int .i64 0) rfl
        have f0 := KB2.out.free 0
        have f1 := KB2.out.free 1
        have f2 := KB2.out.free 2
        go_wp2_with fail
        exact bodyPost_ret (results_tok (by kernel_rfl) (blk_set3 KB2.out _ _ _) rfl rfl) rfl ⟨by rw [numC_bad HN.out (by decide), HN.out]; rfl, below_set3 HB2.out (Nat.le_refl _) _ _ _⟩
      · have HN : Hid (numE r = 0) := numE_ok (by rw [HDR.out]; exact had) hnn.out hmost
        have hok := hp1 (by rw [HL.out] at hmost; exact Nat.le_of_not_lt hmost)
        have HP : Hid (Calls Tryd.prog 27 #[.string D, .int .i64 10, .int .i64 32] w1 fun e w' => (∃ v : Int, e = .returned (.tuple #[.int .i64 v, .nilIface])) ∧ Below w1.heap.size w1 w') := by
          have := sh_strconv_ParseInt_10_at32_ok (digitsOf r) (by rw [HDR.out]; omega) _ hok w1
          rw [HDR.out] at this
          refine this.mono fun e w' ⟨h, hbw⟩ => ⟨⟨_, h⟩, ?_⟩
          rcases hbw with rfl | ⟨t, rfl⟩
          · exact Below.refl _ _
          · exact Lib.bytesWorld_below _ _ _
        clear hp1 hp2 hok hmost had had' hne
        go_wp2_with fail
        refine HP.out.mono ?_
        clear HP
        rintro e w2 ⟨⟨v, rfl⟩, hb2⟩
        have KB2 := Lib.hid (KB.out.below hb2)
        have HB2 := Lib.hid (below_trans HB1.out (Nat.le_refl _) hb2)
        clear hb2 x0 x1 x2 f0 f1 f2
        have x0 := KB2.out.cell 0 (.int .i64 0) rfl
        have x1 := KB2.out.cell 1 (.string ⟨#[]⟩) rfl
        have x2 := KB2.out.cell 2 (.int .i64 0) rfl
        have f0 := KB2.out.free 0
        have f1 := KB2.out.free 1
        have f2 := KB2.out.free 2
        go_wp2_with fail
        exact bodyPost_ret (results_tok (by kernel_rfl) (blk_set3 KB2.out _ _ _) rfl rfl) rfl ⟨by rw [numC_ok HN.out, HN.out, HK.out, HDR.out]; rfl, below_set3 HB2.out (Nat.le_refl _) _ _ _⟩

theorem number_long (r : ByteArray) (w : World) (h1 : 1 ≤ r.size) (h4 : r.size ≤ 4000) (hd : digitI (byteI r 0) = true) (he : ER w) (hl : isLong r = true) : Calls Tryd.prog 20 #[.string r] w (NumOut w r) := by
  have hsuf : Lib.hasSuffix r.data.toList [76] = true := (suffix_long r h1).trans hl
  have HX : Hid (∀ W : World, Calls Tryd.prog 25 #[.string r, .string ⟨#[76]⟩] W fun e w' => e = .returned (.bool true) ∧ w' = W) := fun W => by
    have := sh_strings_HasSuffix r ⟨#[76]⟩ W (by omega)
    rw [hsuf] at this
    exact this
  obtain ⟨hd1, hd2, hd3⟩ := digitsOf_pos h1 hd
  have HDE : Hid (digitsOf r = r.extract 0 (r.size - 1)) := by show _ = _; unfold digitsOf; rw [hl]; rfl
  have HK : Hid (numK r = 3) := by show _ = _; unfold numK; rw [hl]; rfl
  have HL := Lib.hid hl
  have HD3 := Lib.hid hd3
  clear hsuf hl hd3
  have hr1 : (1 : Int) ≤ (r.size : Int) := by omega
  have kb0 := Blk.new_ w 29 zeroT
  have HER : Hid (ER w) := he
  clear he
  go_enter Tryd.func20, Tryd.ntmps20
  go_wp2_with (go_at_call 25; refine (HX.out _).mono ?_; rintro e w' ⟨rfl, hw⟩; subst hw)
  go_quiet (fail)
  go_wp2_with fail
  have HT : Hid (∀ W : World, Calls Tryd.prog 26 #[.string (r.extract 0 (r.size - 1)), .string tenB] W fun e w' => e = .returned (.string ⟨(Lib.trimS (digitsOf r).data.toList tenB.data.toList).toArray⟩) ∧ Below W.heap.size W w') := fun W => by
    have := trim_any (digitsOf r) W (by omega)
    rw [HDE.out] at this ⊢
    exact this
  refine (HT.out _).mono ?_
  clear HT HX
  rintro e w1 ⟨rfl, hb⟩
  have hb1 : Below w.heap.size w w1 := Below.trans (by (repeat (first | with_reducible assumption | with_reducible exact Below.refl _ _ | (refine Below.setCell ?_ (by first | omega | (simp; done) | (simp; omega)) _) | (refine Below.drewN_ ?_ _) | (refine Below.drew ?_) | (refine Below.alloc ?_ (by first | omega | (simp; done) | (simp; omega)) _)))) (hb.mono (by simp))
  have kb := (Blk.drewN kb0 _).below hb
  have kb' : Blk w1 w.heap.size 29 #[.int .i64 0, .string ⟨#[]⟩, .int .i64 0] := kb
  have hlt1 : w.heap.size < w1.heap.size := kb.lt
  have x0 := kb'.cell 0 (.int .i64 0) rfl
  have x1 := kb'.cell 1 (.string ⟨#[]⟩) rfl
  have x2 := kb'.cell 2 (.int .i64 0) rfl
  have f0 := kb'.free 0
  have f1 := kb'.free 1
  have f2 := kb'.free 2
  have HER1 : Hid (ER w1) := HER.out.keep hb1
  have HB1 := Lib.hid hb1
  have KB := Lib.hid kb'
  clear hb kb kb' kb0 hb1 HER
  rcases had : allDigits (digitsOf r) with _ | _
  · obtain ⟨b, t, hbt⟩ := trim_some had
    rw [hbt]
    have HN : Hid (numE r = 2) := numE_form had
    have g1 : ¬ (⟨(b :: t).toArray⟩ : ByteArray).toList = [] := by
      rw [ByteArray.toList_mk]; intro h; cases h
    clear hbt had
    generalize (⟨(b :: t).toArray⟩ : ByteArray) = T at *
    go_wp2_with fail
    exact bodyPost_ret (results_tok (by kernel_rfl) (blk_set3 KB.out _ _ _) rfl rfl) rfl ⟨by rw [numC_bad HN.out (by decide), HN.out]; rfl, below_set3 HB1.out (Nat.le_refl _) _ _ _⟩
  · rw [bytes_empty (trim_all had)]
    have HDS : Hid ((r.extract 0 (r.size - 1) : ByteArray) = digitsOf r) := HDE.out.symm
    rw [HDS.out]
    generalize hDr : digitsOf r = D at *
    have HDR := Lib.hid hDr
    clear hDr
    by_cases hone : 1 < D.size
    · have d1 : (1 : Int) < (D.size : Int) := by omega
      have d1b : decide ((1 : Int) < (D.size : Int)) = true := by rw [decide_eq_true_eq]; exact d1
      by_cases h48 : byteI D 0 = 48
      · have HN : Hid (numE r = 2) := numE_nought (by rw [HDR.out]; exact had) (by rw [HDR.out]; exact hone) (by rw [HDR.out]; exact h48)
        have d2 : (((D[0]'(by omega)).toNat : Int) == 48) = true := by rw [beq_iff_eq, ← byteI_at (by omega)]; exact h48
        clear had h48
        go_wp2_with fail
        exact bodyPost_ret (results_tok (by kernel_rfl) (blk_set3 KB.out _ _ _) rfl rfl) rfl ⟨by rw [numC_bad HN.out (by decide), HN.out]; rfl, below_set3 HB1.out (Nat.le_refl _) _ _ _⟩
      · have d2 : (((D[0]'(by omega)).toNat : Int) == 48) = false := by rw [beq_eq_false_iff_ne, ← byteI_at (by omega)]; exact h48
        have hnn : Hid (¬(1 < (digitsOf r).size ∧ byteI (digitsOf r) 0 = 48)) := by
          show ¬ _
          rw [HDR.out]; exact fun h => h48 h.2
        clear h48
        have had' : (digitsOf r).data.toList.all digU = true := by rw [HDR.out]; exact had
        have hne : (digitsOf r).data.toList ≠ [] := by
          intro h
          have hz : (digitsOf r).data.toList.length = (digitsOf r).size := Array.length_toList
          rw [h, HDR.out] at hz
          simp at hz
          omega
        obtain ⟨hp1, hp2⟩ := parse_digits 64 (by decide) _ hne had'
        by_cases hmost : numMost (isLong r) < decL (digitsOf r).data.toList
        · have HN : Hid (numE r = 6) := numE_range (by rw [HDR.out]; exact had) hnn.out hmost
          have hrg := hp2 (by rw [HL.out] at hmost; exact hmost)
          obtain ⟨tp, p, hvar⟩ := HER1.out
          have HP : Hid (Calls Tryd.prog 27 #[.string D, .int .i64 10, .int .i64 64] w1 fun e w' => (∃ v t N, e = .returned (.tuple #[.int .i64 v, .iface t (.pointer (some ⟨N, 0, none⟩))])) ∧ Below w1.heap.size w1 w') := by
            have := sh_strconv_ParseInt_10_at64_range_var (digitsOf r) (by rw [HDR.out]; omega) hrg tp p w1 hvar
            rw [HDR.out] at this
            exact this.mono fun e w' ⟨N, h, _, _, hbw⟩ => ⟨⟨_, _, N, h⟩, hbw⟩
          clear hp1 hp2 hrg hvar hmost had had' hne
          go_wp2_with fail
          refine HP.out.mono ?_
          clear HP
          rintro e w2 ⟨⟨v, tt, NN, rfl⟩, hb2⟩
          have KB2 := Lib.hid (KB.out.below hb2)
          have HB2 := Lib.hid (below_trans HB1.out (Nat.le_refl _) hb2)
          clear hb2 x0 x1 x2 f0 f1 f2
          have x0 := KB2.out.cell 0 (.int .i64 0) rfl
          have x1 := KB2.out.cell 1 (.string ⟨#[]⟩) rfl
          have x2 := KB2.out.cell 2 (.int .i64 0) rfl
          have f0 := KB2.out.free 0
          have f1 := KB2.out.free 1
          have f2 := KB2.out.free 2
          go_wp2_with fail
          exact bodyPost_ret (results_tok (by kernel_rfl) (blk_set3 KB2.out _ _ _) rfl rfl) rfl ⟨by rw [numC_bad HN.out (by decide), HN.out]; rfl, below_set3 HB2.out (Nat.le_refl _) _ _ _⟩
        · have HN : Hid (numE r = 0) := numE_ok (by rw [HDR.out]; exact had) hnn.out hmost
          have hok := hp1 (by rw [HL.out] at hmost; exact Nat.le_of_not_lt hmost)
          have HP : Hid (Calls Tryd.prog 27 #[.string D, .int .i64 10, .int .i64 64] w1 fun e w' => (∃ v : Int, e = .returned (.tuple #[.int .i64 v, .nilIface])) ∧ Below w1.heap.size w1 w') := by
            have := sh_strconv_ParseInt_10_at64_ok (digitsOf r) (by rw [HDR.out]; omega) _ hok w1
            rw [HDR.out] at this
            refine this.mono fun e w' ⟨h, hbw⟩ => ⟨⟨_, h⟩, ?_⟩
            rcases hbw with rfl | ⟨t, rfl⟩
            · exact Below.refl _ _
            · exact Lib.bytesWorld_below _ _ _
          clear hp1 hp2 hok hmost had had' hne
          go_wp2_with fail
          refine HP.out.mono ?_
          clear HP
          rintro e w2 ⟨⟨v, rfl⟩, hb2⟩
          have KB2 := Lib.hid (KB.out.below hb2)
          have HB2 := Lib.hid (below_trans HB1.out (Nat.le_refl _) hb2)
          clear hb2 x0 x1 x2 f0 f1 f2
          have x0 := KB2.out.cell 0 (.int .i64 0) rfl
          have x1 := KB2.out.cell 1 (.string ⟨#[]⟩) rfl
          have x2 := KB2.out.cell 2 (.int .i64 0) rfl
          have f0 := KB2.out.free 0
          have f1 := KB2.out.free 1
          have f2 := KB2.out.free 2
          go_wp2_with fail
          exact bodyPost_ret (results_tok (by kernel_rfl) (blk_set3 KB2.out _ _ _) rfl rfl) rfl ⟨by rw [numC_ok HN.out, HN.out, HK.out, HDR.out]; rfl, below_set3 HB2.out (Nat.le_refl _) _ _ _⟩
    · have d1 : (D.size : Int) ≤ 1 := by omega
      have d1b : decide ((1 : Int) < (D.size : Int)) = false := by rw [decide_eq_false_iff_not]; omega
      have hnn : Hid (¬(1 < (digitsOf r).size ∧ byteI (digitsOf r) 0 = 48)) := by
        show ¬ _
        rw [HDR.out]; exact fun h => hone h.1
      have had' : (digitsOf r).data.toList.all digU = true := by rw [HDR.out]; exact had
      have hne : (digitsOf r).data.toList ≠ [] := by
        intro h
        have hz : (digitsOf r).data.toList.length = (digitsOf r).size := Array.length_toList
        rw [h, HDR.out] at hz
        simp at hz
        omega
      obtain ⟨hp1, hp2⟩ := parse_digits 64 (by decide) _ hne had'
      by_cases hmost : numMost (isLong r) < decL (digitsOf r).data.toList
      · have HN : Hid (numE r = 6) := numE_range (by rw [HDR.out]; exact had) hnn.out hmost
        have hrg := hp2 (by rw [HL.out] at hmost; exact hmost)
        obtain ⟨tp, p, hvar⟩ := HER1.out
        have HP : Hid (Calls Tryd.prog 27 #[.string D, .int .i64 10, .int .i64 64] w1 fun e w' => (∃ v t N, e = .returned (.tuple #[.int .i64 v, .iface t (.pointer (some ⟨N, 0, none⟩))])) ∧ Below w1.heap.size w1 w') := by
          have := sh_strconv_ParseInt_10_at64_range_var (digitsOf r) (by rw [HDR.out]; omega) hrg tp p w1 hvar
          rw [HDR.out] at this
          exact this.mono fun e w' ⟨N, h, _, _, hbw⟩ => ⟨⟨_, _, N, h⟩, hbw⟩
        clear hp1 hp2 hrg hvar hmost had had' hne
        go_wp2_with fail
        refine HP.out.mono ?_
        clear HP
        rintro e w2 ⟨⟨v, tt, NN, rfl⟩, hb2⟩
        have KB2 := Lib.hid (KB.out.below hb2)
        have HB2 := Lib.hid (below_trans HB1.out (Nat.le_refl _) hb2)
        clear hb2 x0 x1 x2 f0 f1 f2
        have x0 := KB2.out.cell 0 (.int .i64 0) rfl
        have x1 := KB2.out.cell 1 (.string ⟨#[]⟩) rfl
        have x2 := KB2.out.cell 2 (.int .i64 0) rfl
        have f0 := KB2.out.free 0
        have f1 := KB2.out.free 1
        have f2 := KB2.out.free 2
        go_wp2_with fail
        exact bodyPost_ret (results_tok (by kernel_rfl) (blk_set3 KB2.out _ _ _) rfl rfl) rfl ⟨by rw [numC_bad HN.out (by decide), HN.out]; rfl, below_set3 HB2.out (Nat.le_refl _) _ _ _⟩
      · have HN : Hid (numE r = 0) := numE_ok (by rw [HDR.out]; exact had) hnn.out hmost
        have hok := hp1 (by rw [HL.out] at hmost; exact Nat.le_of_not_lt hmost)
        have HP : Hid (Calls Tryd.prog 27 #[.string D, .int .i64 10, .int .i64 64] w1 fun e w' => (∃ v : Int, e = .returned (.tuple #[.int .i64 v, .nilIface])) ∧ Below w1.heap.size w1 w') := by
          have := sh_strconv_ParseInt_10_at64_ok (digitsOf r) (by rw [HDR.out]; omega) _ hok w1
          rw [HDR.out] at this
          refine this.mono fun e w' ⟨h, hbw⟩ => ⟨⟨_, h⟩, ?_⟩
          rcases hbw with rfl | ⟨t, rfl⟩
          · exact Below.refl _ _
          · exact Lib.bytesWorld_below _ _ _
        clear hp1 hp2 hok hmost had had' hne
        go_wp2_with fail
        refine HP.out.mono ?_
        clear HP
        rintro e w2 ⟨⟨v, rfl⟩, hb2⟩
        have KB2 := Lib.hid (KB.out.below hb2)
        have HB2 := Lib.hid (below_trans HB1.out (Nat.le_refl _) hb2)
        clear hb2 x0 x1 x2 f0 f1 f2
        have x0 := KB2.out.cell 0 (.int .i64 0) rfl
        have x1 := KB2.out.cell 1 (.string ⟨#[]⟩) rfl
        have x2 := KB2.out.cell 2 (.int .i64 0) rfl
        have f0 := KB2.out.free 0
        have f1 := KB2.out.free 1
        have f2 := KB2.out.free 2
        go_wp2_with fail
        exact bodyPost_ret (results_tok (by kernel_rfl) (blk_set3 KB2.out _ _ _) rfl rfl) rfl ⟨by rw [numC_ok HN.out, HN.out, HK.out, HDR.out]; rfl, below_set3 HB2.out (Nat.le_refl _) _ _ _⟩

theorem number_any (r : ByteArray) (w : World) (h1 : 1 ≤ r.size) (h4 : r.size ≤ 4000) (hd : digitI (byteI r 0) = true) (he : ER w) : Calls Tryd.prog 20 #[.string r] w (NumOut w r) := by
  rcases hl : isLong r with _ | _
  · exact number_short r w h1 h4 hd he hl
  · exact number_long r w h1 h4 hd he hl
end Go.Proofs.YtdhphabncchncaaDoor
