/- The printer: number, a list in parentheses. -/
import Derived.Test.YtgegfbopogcjpaaDoorSynG
import Derived.Shelf.Strconv.Itoa4
namespace Go.Proofs.YtgegfbopogcjpaaDoor
open Go.RowKit
set_option linter.unusedVariables false
set_option linter.unusedSimpArgs false
set_option maxRecDepth 100000
set_option maxHeartbeats 1000000
theorem PK.grow_ {p : Nat} {B : Nat} {ws : List ByteArray} {w : World} (h : Pr B p ws w) (k : Nat) (os : Array Obj) : PK p w (Go.Sort.grow (w.drewN k) os) ∧ Pr B p ws (Go.Sort.grow (w.drewN k) os) ∧ Below w.heap.size w (Go.Sort.grow (w.drewN k) os) := by
  have hb : Below w.heap.size w (Go.Sort.grow (w.drewN k) os) := ⟨rfl, rfl, rfl, by simp [Go.Sort.grow], fun i hi => by simp [Go.Sort.grow, Array.getElem?_append_left hi]⟩
  exact ⟨PK.of_below h hb, by
    obtain ⟨h1, v, hk, ho⟩ := h
    exact ⟨h1, v, hk.below hb, own_below ho hb⟩, hb⟩
/-- a number's test, in the printer's order -/
def numOk (n : Nd) (free : Bool) : Bool := plainB n false true 0 0 && (!decide (n.num < 0) || (free && decide (-9223372036854775808 < n.num))) && (n.k == 22 || (n.k == 21 && decide ((n.num.natAbs : Int) ≤ 2147483647)))
theorem num_ok (n : Nd) (free : Bool) (h : I64 n.num) : ((n.k == 21 || n.k == 22) && isN n free) = numOk n free := by
  obtain ⟨h1, h2⟩ := h
  by_cases hk : n.k = 21 ∨ n.k = 22
  · have hs : shp n.k = some ⟨false, -1, 0, 0⟩ := by rcases hk with h | h <;> rw [h] <;> rfl
    rw [isN_eq, hs]
    dsimp only
    have e32 : (n.k == 32) = false := by rcases hk with h | h <;> rw [h] <;> rfl
    have e15 : (n.k == 15) = false := by rcases hk with h | h <;> rw [h] <;> rfl
    have e20 : (n.k == 20) = false := by rcases hk with h | h <;> rw [h] <;> rfl
    rw [text_size, e32, e15, e20]
    by_cases hl : n.kids.length = 0
    · have hkn : n.kids = [] := List.eq_nil_of_length_eq_zero hl
      unfold numOk plainB
      rw [hkn]
      have hb : numB n.k n.num (-1) free = ((!decide (n.num < 0) || (free && decide (-9223372036854775808 < n.num))) && (n.k == 22 || (n.k == 21 && decide ((n.num.natAbs : Int) ≤ 2147483647)))) := by
        unfold numB
        by_cases hn : n.num < 0
        · cases free
          · have : ¬ 0 ≤ n.num := by omega
            simp [hn, this]
          · simp only [if_pos (And.intro rfl hn)]
            have a1 : 0 ≤ -n.num := by omega
            rw [show ((n.num.natAbs : Nat) : Int) = -n.num by omega]
            by_cases hm : -9223372036854775808 < n.num
            · have a2 : -n.num ≤ 9223372036854775807 := by omega
              rcases hk with h | h <;> simp [h, hn, hm, a1, a2] <;> omega
            · have a2 : ¬ -n.num ≤ 9223372036854775807 := by omega
              simp [hn, hm, a2]
        · have a0 : ¬ (free = true ∧ n.num < 0) := fun h => hn h.2
          simp only [if_neg a0]
          have a1 : 0 ≤ n.num := by omega
          rw [show ((n.num.natAbs : Nat) : Int) = n.num by omega]
          rcases hk with h | h <;> simp [h, hn, a1, h2]
      rw [hb]
      rcases hk with h | h <;> simp [h, isNL, Bool.and_assoc]
    · have h1 : ¬ (n.kids.length : Int) ≤ 0 := by omega
      have h1' : ¬ ((n.kids.length : Int) ≤ (0 : Int)) := h1
      unfold numOk plainB
      simp [h1, hl]
  · have h1 : (n.k == 21) = false := by simp; omega
    have h2 : (n.k == 22) = false := by simp; omega
    unfold numOk
    simp [h1, h2]
theorem neg_wrap {k : Int} (h1 : -9223372036854775808 < k) (h2 : k < 0) : IntKind.i64.wrap (-k) = -k := IntWalk.i64_in _ (by omega)
/-- a number's digits -/
def digB (k : Int) : ByteArray := ⟨(Lib.decDigits k.toNat).toArray⟩
theorem fmt_any (k : Int) (h0 : 0 ≤ k) (h1 : k ≤ 9223372036854775807) (w : World) (hE : Env w) :
    Calls Tryd.prog 42 #[.int .i64 k, .int .i64 10] w fun e w' => e = .returned (.string (digB k)) ∧ Below w.heap.size w w' := by
  refine (sh_strconv_FormatInt_10 k (by omega) h1 w hE.tab).mono ?_
  rintro e w' ⟨rfl, a, os, rfl⟩
  refine ⟨?_, ⟨rfl, rfl, rfl, by simp [Go.Sort.grow], fun i hi => by simp [Go.Sort.grow, Array.getElem?_append_left hi]⟩⟩
  unfold digB Lib.itoa
  rw [if_neg (by omega)]
theorem nd_le : ∀ (m u : Nat), u < 10 ^ (m + 1) → Lib.nDigits u ≤ m + 1
  | 0, u, h => by rw [Lib.nDigits_small (by simpa using h)]; omega
  | m + 1, u, h => by
    by_cases hs : u < 10
    · rw [Lib.nDigits_small hs]; omega
    · rw [Lib.nDigits_big hs]
      have := nd_le m (u / 10) (by rw [Nat.pow_succ] at h; omega)
      omega
theorem dec_len (u : Nat) (h : u ≤ 9223372036854775808) : (Lib.decDigits u).length ≤ 19 := by
  rw [Lib.decDigits_length]
  exact nd_le 18 u (by omega)
theorem digB_size (k : Int) (h : k ≤ 9223372036854775807) : (digB k).size ≤ 19 := by
  have := dec_len k.toNat (by omega)
  show (Lib.decDigits k.toNat).toArray.size ≤ 19
  simpa using this
theorem digB_num (n : Int) (h : n < 0) : digB (-n) = ⟨(Lib.decDigits n.natAbs).toArray⟩ := by
  unfold digB
  rw [show (-n).toNat = n.natAbs by omega]
theorem digB_pos (n : Int) (h : ¬ n < 0) : digB n = ⟨(Lib.decDigits n.natAbs).toArray⟩ := by
  unfold digB
  rw [show n.toNat = n.natAbs by omega]
theorem long_mark (l : List UInt8) : (⟨l.toArray⟩ : ByteArray) ++ ⟨#[76]⟩ = ⟨(l ++ [76]).toArray⟩ := by
  apply ByteArray.ext
  simp
theorem number_any (w0 w : World) (p : Nat) (ws : List ByteArray) (n : Nd) (A : Option Addr) (c : Nat) (free : Bool) (hE : Env w0) (h : St w0 p ws w) (hn : I64 n.num) (hb : ws.length + 2 ≤ 100000) :
    Calls Tryd.prog 21 #[.pointer (some ⟨p, 0, none⟩), .agg #[.int .i64 n.k, .string n.t, .int .i64 n.num, .slice A n.kids.length c], .bool free] w (NOut w0 p ws (numOk n free) (numT n.k n.num) 2 w) := by
  have H := Lib.hid h
  have hlt := h.2.lt
  clear h
  obtain ⟨ok, HK⟩ : ∃ b, Hid (numOk n free = b) := ⟨_, rfl⟩
  rw [HK.out]
  obtain ⟨nw, HW⟩ : ∃ b, Hid (numT n.k n.num = b) := ⟨_, rfl⟩
  rw [HW.out]
  have H1 := Lib.hid (H.out.alloc (.cells #[.int .i64 n.k, .string n.t, .int .i64 n.num, .slice A n.kids.length c] 24))
  have P1 := Lib.hid (PK.alloc_ (p := p) w (.cells #[.int .i64 n.k, .string n.t, .int .i64 n.num, .slice A n.kids.length c] 24) hlt)
  have K1 := Lib.hid (Blk.new_ w 24 #[.int .i64 n.k, .string n.t, .int .i64 n.num, .slice A n.kids.length c])
  obtain ⟨pb, HPB⟩ : ∃ b, Hid (plainB n false true 0 0 = b) := ⟨_, rfl⟩
  go_enter Tryd.func21, Tryd.ntmps21
  go_wp2_with fail
  refine (plain_any n _ _ _ _ _ _ _ (H1.out.env hE).ml).mono ?_
  rintro e w1 ⟨(⟨hq, rfl⟩ | ⟨hq, rfl⟩), hb1⟩
  rotate_left
  · have H2 := Lib.hid (H1.out.below hb1)
    have P2 := Lib.hid (P1.out.trans_ (PK.of_below H1.out.2 hb1))
    have HQ := Lib.hid hq
    clear hq hb1
    unfold noneE
    go_wp2
    exact ⟨rfl, NOut.no H2.out P2.out (by rw [← HK.out]; unfold numOk; rw [HQ.out]; rfl) (by omega)⟩
  · have H2 := Lib.hid (H1.out.below hb1)
    have P2 := Lib.hid (P1.out.trans_ (PK.of_below H1.out.2 hb1))
    have K2 := Lib.hid (K1.out.below hb1)
    have HQ := Lib.hid hq
    have q0 := K2.out.cell 0 (.int .i64 n.k) rfl
    have q2 := K2.out.cell 2 (.int .i64 n.num) rfl
    clear hq hb1 H1 P1 K1
    have hnd : Hid (numT n.k n.num = (if n.num < 0 then [⟨#[45]⟩] else []) ++ [⟨(Lib.decDigits n.num.natAbs ++ if n.k = 22 then [76] else []).toArray⟩]) := rfl
    by_cases hneg : n.num < 0
    · have d0 : decide (n.num < 0) = true := by simpa using hneg
      rcases hf : (free && decide (-9223372036854775808 < n.num)) with _ | _
      · have HF : Hid (ok = false) := by show _ = _; rw [← HK.out]; unfold numOk; rw [d0, hf]; simp
        have hf2 : free = false ∨ (free = true ∧ ¬ -9223372036854775808 < n.num) := by cases free <;> simp_all
        rcases hf2 with rfl | ⟨rfl, hmin⟩
        · go_wp2_with fail
          refine (must_no _).mono ?_
          rintro e w' ⟨rfl, rfl⟩
          go_wp2
          exact ⟨rfl, NOut.no H2.out P2.out HF.out (by omega)⟩
        · have d1 : decide (-9223372036854775808 < n.num) = false := by simpa using hmin
          go_wp2_with fail
          refine (must_no _).mono ?_
          rintro e w' ⟨rfl, rfl⟩
          go_wp2
          exact ⟨rfl, NOut.no H2.out P2.out HF.out (by omega)⟩
      · have hf2 : free = true ∧ -9223372036854775808 < n.num := by simpa using hf
        obtain ⟨rfl, hmin⟩ := hf2
        have d1 : decide (-9223372036854775808 < n.num) = true := by simpa using hmin
        have HO : Hid (ok = (n.k == 22 || (n.k == 21 && decide ((n.num.natAbs : Int) ≤ 2147483647)))) := by show _ = _; rw [← HK.out]; unfold numOk; rw [HQ.out, d0, d1]; simp
        have HNW : Hid (nw = [⟨#[45]⟩] ++ [⟨(Lib.decDigits n.num.natAbs ++ if n.k = 22 then [76] else []).toArray⟩]) := by show _ = _; rw [← HW.out, hnd.out, if_pos hneg]
        clear hf
        go_wp2_with fail
        refine (must_yes _).mono ?_
        rintro e w' ⟨rfl, rfl⟩
        go_wp2_with fail
        refine (psay1 _ H2.out (by omega)).mono ?_
        rintro e w3 ⟨rfl, h3, p3⟩
        have H3 := Lib.hid h3
        have P3 := Lib.hid (P2.out.trans_ p3)
        have K3 := Lib.hid (p3.blk H2.out.2 K2.out (by decide) (by decide))
        have w1' := neg_wrap hmin hneg
        have a0 : 0 ≤ -n.num := by omega
        have a1 : -n.num ≤ 9223372036854775807 := by omega
        clear h3 p3 q0 q2 H2 P2 K2
        go_wp2_with fail
        refine (fmt_any _ a0 a1 _ (H3.out.env hE)).mono ?_
        rintro e w4 ⟨rfl, hb4⟩
        have H4 := Lib.hid (H3.out.below hb4)
        have P4 := Lib.hid (P3.out.trans_ (PK.of_below H3.out.2 hb4))
        have K4 := Lib.hid (K3.out.below hb4)
        have q0 := K4.out.cell 0 (.int .i64 n.k) rfl
        have HD := Lib.hid (digB_num n.num hneg)
        have hds := digB_size (-n.num) a1
        generalize digB (-n.num) = D at *
        have B1 : Hid (decide (-n.num ≤ 2147483647) = decide ((n.num.natAbs : Int) ≤ 2147483647)) := by show _ = _; rw [show ((n.num.natAbs : Nat) : Int) = -n.num by omega]
        clear hb4 H3 P3 K3
        rcases k22 : (n.k == 22) with _ | _
        · rcases k21 : (n.k == 21 && decide ((n.num.natAbs : Int) ≤ 2147483647)) with _ | _
          · have HF : Hid (ok = false) := by show _ = _; rw [HO.out, k22, k21]; rfl
            rw [Bool.and_eq_false_iff] at k21
            rcases k21 with k21 | k21
            · go_wp2_with fail
              refine (must_no _).mono ?_
              rintro e w' ⟨rfl, rfl⟩
              go_wp2
              exact ⟨rfl, NOut.no H4.out P4.out HF.out (by simp)⟩
            · rw [← B1.out] at k21
              rcases k20 : (n.k == 21) with _ | _
              all_goals go_wp2_with fail
              all_goals refine (must_no _).mono ?_
              all_goals rintro e w' ⟨rfl, rfl⟩
              all_goals go_wp2
              all_goals exact ⟨rfl, NOut.no H4.out P4.out HF.out (by simp)⟩
          · have HF : Hid (ok = true) := by show _ = _; rw [HO.out, k22, k21]; rfl
            rw [Bool.and_eq_true] at k21
            obtain ⟨k21, k20⟩ := k21
            rw [← B1.out] at k20
            have HX : Hid (Lib.decDigits n.num.natAbs ++ (if n.k = 22 then [76] else []) = Lib.decDigits n.num.natAbs) := by show _ = _; rw [if_neg (by simpa using k22)]; simp
            go_wp2_with fail
            refine (must_yes _).mono ?_
            rintro e w' ⟨rfl, rfl⟩
            go_wp2_with fail
            refine (psay1 _ H4.out (by simp; omega)).mono ?_
            rintro e w5 ⟨rfl, h5, p5⟩
            have H5 := Lib.hid h5
            have P5 := Lib.hid (P4.out.trans_ p5)
            clear h5 p5
            go_wp2
            go_end0
            exact NOut.yes H5.out P5.out HF.out (by rw [HNW.out, HX.out, ← HD.out]; simp) (by rw [HNW.out]; simp)
        · have HF : Hid (ok = true) := by show _ = _; rw [HO.out, k22]; rfl
          have HX : Hid (Lib.decDigits n.num.natAbs ++ (if n.k = 22 then [76] else []) = Lib.decDigits n.num.natAbs ++ [76]) := by show _ = _; rw [if_pos (by simpa using k22)]
          go_wp2_with fail
          refine (psay1 _ H4.out (by simp; omega)).mono ?_
          rintro e w5 ⟨rfl, h5, p5⟩
          have H5 := Lib.hid h5
          have P5 := Lib.hid (P4.out.trans_ p5)
          clear h5 p5
          go_wp2
          go_end0
          exact NOut.yes H5.out P5.out HF.out (by rw [HNW.out, HX.out, ← long_mark, ← HD.out]; simp) (by rw [HNW.out]; simp)
    · have d0 : decide (n.num < 0) = false := by simpa using hneg
      have HO : Hid (ok = (n.k == 22 || (n.k == 21 && decide ((n.num.natAbs : Int) ≤ 2147483647)))) := by show _ = _; rw [← HK.out]; unfold numOk; rw [HQ.out, d0]; simp
      have HNW : Hid (nw = [] ++ [⟨(Lib.decDigits n.num.natAbs ++ if n.k = 22 then [76] else []).toArray⟩]) := by show _ = _; rw [← HW.out, hnd.out, if_neg hneg]
      have a0 : 0 ≤ n.num := by omega
      have a1 : n.num ≤ 9223372036854775807 := hn.2
      go_wp2_with fail
      refine (fmt_any _ a0 a1 _ (H2.out.env hE)).mono ?_
      rintro e w4 ⟨rfl, hb4⟩
      have H4 := Lib.hid (H2.out.below hb4)
      have P4 := Lib.hid (P2.out.trans_ (PK.of_below H2.out.2 hb4))
      have K4 := Lib.hid (K2.out.below hb4)
      clear q0 q2
      have q0 := K4.out.cell 0 (.int .i64 n.k) rfl
      have HD := Lib.hid (digB_pos n.num (by omega))
      have hds := digB_size n.num a1
      generalize digB n.num = D at *
      have B1 : Hid (decide (n.num ≤ 2147483647) = decide ((n.num.natAbs : Int) ≤ 2147483647)) := by show _ = _; rw [show ((n.num.natAbs : Nat) : Int) = n.num by omega]
      clear hb4 H2 P2 K2
      rcases k22 : (n.k == 22) with _ | _
      · rcases k21 : (n.k == 21 && decide ((n.num.natAbs : Int) ≤ 2147483647)) with _ | _
        · have HF : Hid (ok = false) := by show _ = _; rw [HO.out, k22, k21]; rfl
          rw [Bool.and_eq_false_iff] at k21
          rcases k21 with k21 | k21
          · go_wp2_with fail
            refine (must_no _).mono ?_
            rintro e w' ⟨rfl, rfl⟩
            go_wp2
            exact ⟨rfl, NOut.no H4.out P4.out HF.out (by simp)⟩
          · rw [← B1.out] at k21
            rcases k20 : (n.k == 21) with _ | _
            all_goals go_wp2_with fail
            all_goals refine (must_no _).mono ?_
            all_goals rintro e w' ⟨rfl, rfl⟩
            all_goals go_wp2
            all_goals exact ⟨rfl, NOut.no H4.out P4.out HF.out (by simp)⟩
        · have HF : Hid (ok = true) := by show _ = _; rw [HO.out, k22, k21]; rfl
          rw [Bool.and_eq_true] at k21
          obtain ⟨k21, k20⟩ := k21
          rw [← B1.out] at k20
          have HX : Hid (Lib.decDigits n.num.natAbs ++ (if n.k = 22 then [76] else []) = Lib.decDigits n.num.natAbs) := by show _ = _; rw [if_neg (by simpa using k22)]; simp
          go_wp2_with fail
          refine (must_yes _).mono ?_
          rintro e w' ⟨rfl, rfl⟩
          go_wp2_with fail
          refine (psay1 _ H4.out (by simp; omega)).mono ?_
          rintro e w5 ⟨rfl, h5, p5⟩
          have H5 := Lib.hid h5
          have P5 := Lib.hid (P4.out.trans_ p5)
          clear h5 p5
          go_wp2
          go_end0
          exact NOut.yes H5.out P5.out HF.out (by rw [HNW.out, HX.out, ← HD.out]; simp) (by rw [HNW.out]; simp)
      · have HF : Hid (ok = true) := by show _ = _; rw [HO.out, k22]; rfl
        have HX : Hid (Lib.decDigits n.num.natAbs ++ (if n.k = 22 then [76] else []) = Lib.decDigits n.num.natAbs ++ [76]) := by show _ = _; rw [if_pos (by simpa using k22)]
        go_wp2_with fail
        refine (psay1 _ H4.out (by simp; omega)).mono ?_
        rintro e w5 ⟨rfl, h5, p5⟩
        have H5 := Lib.hid h5
        have P5 := Lib.hid (P4.out.trans_ p5)
        clear h5 p5
        go_wp2
        go_end0
        exact NOut.yes H5.out P5.out HF.out (by rw [HNW.out, HX.out, ← long_mark, ← HD.out]; simp) (by rw [HNW.out]; simp)
end Go.Proofs.YtgegfbopogcjpaaDoor
