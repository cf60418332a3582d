/- The reference's small functions: bytes, the greater of two rows of digits, a row that begins with a digit. -/
import Derived.Test.YtdhphabncchncaaDoorLexD
import Derived.WalkLawsBesides
import Derived.Deep.CutRange
namespace Go.Proofs.YtdhphabncchncaaDoor
open Go.RowKit Go.Shelf
set_option linter.unusedVariables false
set_option linter.unusedSimpArgs false
set_option maxRecDepth 100000
set_option maxHeartbeats 1000000
theorem refLetter_any (c : Int) (w : World) : Calls Tryd.prog 11 #[.int .u8 c] w fun e w' => e = .returned (.bool (letterI c)) ∧ w' = w := by
  go_enter Tryd.func11, Tryd.ntmps11
  go_wp2
  all_goals go_ret
  all_goals refine ⟨?_, rfl⟩
  all_goals
    have e1 : letterI c = ((decide (97 ≤ c) && decide (c ≤ 122)) || (decide (65 ≤ c) && decide (c ≤ 90))) := rfl
    rw [e1]
    simp_all <;> (try omega)
theorem refDigit_any (c : Int) (w : World) : Calls Tryd.prog 12 #[.int .u8 c] w fun e w' => e = .returned (.bool (digitI c)) ∧ w' = w := by
  go_enter Tryd.func12, Tryd.ntmps12
  go_wp2
  all_goals go_ret
  all_goals refine ⟨?_, rfl⟩
  all_goals
    have e1 : digitI c = (decide (48 ≤ c) && decide (c ≤ 57)) := rfl
    rw [e1]
    simp_all <;> (try omega)
theorem inside_any (c : Int) (w : World) : Calls Tryd.prog 9 #[.int .u8 c] w fun e w' => e = .returned (.bool (chrI c)) ∧ w' = w := by
  go_enter Tryd.func9, Tryd.ntmps9
  go_wp2_with (first
    | (go_at_call 11; refine (refLetter_any _ _).mono ?_; rintro e w' ⟨rfl, hw⟩; subst hw)
    | (go_at_call 12; refine (refDigit_any _ _).mono ?_; rintro e w' ⟨rfl, hw⟩; subst hw))
  all_goals go_ret
  all_goals refine ⟨?_, rfl⟩
  all_goals
    rw [chr_or]
    simp_all
theorem above_any (a b : ByteArray) (w : World) : Calls Tryd.prog 24 #[.string a, .string b] w fun e w' => e = .returned (.bool (aboveB a.data.toList b.data.toList)) ∧ w' = w := by
  have la : a.data.toList.length = a.size := Array.length_toList
  have lb : b.data.toList.length = b.size := Array.length_toList
  have HV : Hid (aboveB a.data.toList b.data.toList = (decide (b.size < a.size) || (decide (a.size = b.size) && !(Op.bytesLess a.toList b.toList || a.toList == b.toList)))) := by
    show _ = _
    unfold aboveB
    rw [la, lb, ByteArray.toList_eq, ByteArray.toList_eq]
  clear la lb
  generalize aboveB a.data.toList b.data.toList = V at *
  rcases Nat.lt_trichotomy b.size a.size with h | h | h
  · have hf : Hid (V = true) := by show _ = _; rw [HV.out, decide_eq_true h]; rfl
    have d1 : decide (b.size < a.size) = true := decide_eq_true h
    clear HV h
    go_enter Tryd.func24, Tryd.ntmps24
    go_wp2
    go_ret
    exact ⟨by rw [hf.out]; rfl, rfl⟩
  · have hf : Hid (V = !(Op.bytesLess a.toList b.toList || a.toList == b.toList)) := by show _ = _; rw [HV.out, decide_eq_false (by omega), decide_eq_true h.symm]; rfl
    have d1 : decide (b.size < a.size) = false := decide_eq_false (by omega)
    have d2 : (a.size == b.size) = true := by rw [beq_iff_eq]; exact h.symm
    have d3 : ((a.size : Int) == (b.size : Int)) = true := by rw [beq_iff_eq]; omega
    clear HV h
    go_enter Tryd.func24, Tryd.ntmps24
    go_wp2
    all_goals go_ret
    all_goals exact ⟨by rw [hf.out]; first | rfl | simp_all, rfl⟩
  · have hf : Hid (V = false) := by show _ = _; rw [HV.out, decide_eq_false (by omega), decide_eq_false (p := a.size = b.size) (by omega)]; rfl
    have d1 : decide (b.size < a.size) = false := decide_eq_false (by omega)
    have d2 : (a.size == b.size) = false := by rw [beq_eq_false_iff_ne]; omega
    have d3 : ((a.size : Int) == (b.size : Int)) = false := by rw [beq_eq_false_iff_ne]; omega
    clear HV h
    go_enter Tryd.func24, Tryd.ntmps24
    go_wp2
    go_ret
    exact ⟨by rw [hf.out]; rfl, rfl⟩

theorem allDigits_iff {d : ByteArray} : allDigits d = true ↔ ∀ k, k < d.size → digitI (byteI d k) = true := by
  unfold allDigits
  rw [List.all_eq_true]
  constructor
  · intro h k hk
    rw [byteI_at hk]
    refine h _ ?_
    have : d.data.toList[k]? = some (d[k]'hk) := by
      rw [List.getElem?_eq_getElem (by rw [Array.length_toList]; exact hk), Array.getElem_toList]; rfl
    exact List.mem_of_getElem? this
  · intro h b hb
    obtain ⟨k, hk, rfl⟩ := List.mem_iff_getElem.1 hb
    have hk' : k < d.size := by rw [Array.length_toList] at hk; exact hk
    have := h k hk'
    rw [byteI_at hk'] at this
    rw [Array.getElem_toList]
    exact this
theorem mostT_eq (long : Bool) : (⟨(mostText long).toArray⟩ : ByteArray) = if long = true then ⟨#[57, 50, 50, 51, 51, 55, 50, 48, 51, 54, 56, 53, 52, 55, 55, 53, 56, 48, 55]⟩ else ⟨#[50, 49, 52, 55, 52, 56, 51, 54, 52, 55]⟩ := by cases long <;> rfl
theorem head_48 {d : ByteArray} (h : 1 < d.size → byteI d 0 ≠ 48) : 1 < d.data.toList.length → d.data.toList.head? ≠ some 48 := by
  intro h1 he
  rw [Array.length_toList] at h1
  refine h h1 ?_
  rw [byteI_at (show 0 < d.size from Nat.lt_trans Nat.zero_lt_one h1)]
  rw [List.head?_eq_getElem?, List.getElem?_eq_getElem (by rw [Array.length_toList]; exact Nat.lt_trans Nat.zero_lt_one h1), Array.getElem_toList] at he
  injection he with he
  have : d[0]'(Nat.lt_trans Nat.zero_lt_one h1) = 48 := he
  rw [this]
  rfl
def DgI (D : ByteArray) (wo : World) (i : Value) (wr : World) : Prop := ∃ k : Nat, i = .int .i64 k ∧ Hid (k ≤ D.size ∧ ∀ j, j < k → digitI (byteI D j) = true) ∧ wr = wo

theorem row_short (r : ByteArray) (w : World) (h1 : 1 ≤ r.size) (h4 : r.size ≤ 4000) (hd : digitI (byteI r 0) = true) (hl : isLong r = false) : Calls Tryd.prog 13 #[.string r] w (NumOut w r) := by
  obtain ⟨hd1, hd2, hd3⟩ := digitsOf_pos h1 hd
  have HDE : Hid (digitsOf r = r) := by show _ = _; unfold digitsOf; rw [hl]; rfl
  have HK : Hid (numK r = 2) := by show _ = _; unfold numK; rw [hl]; rfl
  have HL := Lib.hid hl
  have hlb : (((r[r.size - 1]'(by omega)).toNat : Int) == 76) = false := by
    have := hl
    unfold isLong at this
    rw [byteI_at (by omega)] at this
    exact this
  have hr0 : (0 : Int) ≤ (r.size : Int) - 1 := by omega
  have hr1 : (r.size : Int) - 1 < (r.size : Int) := by omega
  have hrn : ((r.size : Int) - 1).toNat = r.size - 1 := by omega
  have HD3 := Lib.hid hd3
  clear hl hd3 hd
  go_enter Tryd.func13, Tryd.ntmps13
  go_upto_region 6 with (fail)
  have kz : Hid (Blk ((w.alloc (.cells #[.int .i64 0, .string ⟨#[]⟩, .int .i64 0] 29)).alloc (.cells #[.int .i64 2, .string (r), .int .i64 0] 29)) w.heap.size 29 #[.int .i64 0, .string ⟨#[]⟩, .int .i64 0]) := ((Blk.new_ w 29 _).alloc _)
  have kt : Hid (Blk ((w.alloc (.cells #[.int .i64 0, .string ⟨#[]⟩, .int .i64 0] 29)).alloc (.cells #[.int .i64 2, .string (r), .int .i64 0] 29)) (w.heap.size + 1) 29 #[.int .i64 2, .string (r), .int .i64 0]) := by
    have := Blk.new_ (w.alloc (.cells #[.int .i64 0, .string ⟨#[]⟩, .int .i64 0] 29)) 29 #[.int .i64 2, .string (r), .int .i64 0]
    rw [show (w.alloc (.cells #[.int .i64 0, .string ⟨#[]⟩, .int .i64 0] 29)).heap.size = w.heap.size + 1 by simp] at this
    exact this
  have hb : Hid (Below w.heap.size w ((w.alloc (.cells #[.int .i64 0, .string ⟨#[]⟩, .int .i64 0] 29)).alloc (.cells #[.int .i64 2, .string (r), .int .i64 0] 29))) := by show Below _ _ _; (repeat (first | with_reducible assumption | with_reducible exact Below.refl _ _ | (refine Below.setCell ?_ (by first | omega | (simp; done) | (simp; omega)) _) | (refine Below.drewN_ ?_ _) | (refine Below.drew ?_) | (refine Below.alloc ?_ (by first | omega | (simp; done) | (simp; omega)) _)))
  generalize ((w.alloc (.cells #[.int .i64 0, .string ⟨#[]⟩, .int .i64 0] 29)).alloc (.cells #[.int .i64 2, .string (r), .int .i64 0] 29)) = w1 at *
  obtain ⟨D, hD⟩ : ∃ D : ByteArray, D = r := ⟨_, rfl⟩
  have HDR : Hid (digitsOf r = D) := by show _ = _; rw [hD]; exact HDE.out
  rw [← hD] at kt
  have kt' : Blk w1 (w.heap.size + 1) 29 #[.int .i64 2, .string D, .int .i64 0] := kt.out
  have hds : D.size ≤ 4000 ∧ 1 ≤ D.size := by rw [← HDR.out]; omega
  have HAB : Hid (∀ W : World, Calls Tryd.prog 24 #[.string D, .string ⟨#[50, 49, 52, 55, 52, 56, 51, 54, 52, 55]⟩] W fun e w' => e = .returned (.bool (aboveB D.data.toList (mostText false))) ∧ w' = W) := fun W => above_any D ⟨#[50, 49, 52, 55, 52, 56, 51, 54, 52, 55]⟩ W
  clear hD HDE hd1 hd2 HD3
  have x0 := kt'.cell 0 (.int .i64 2) rfl
  have x1 := kt'.cell 1 (.string D) rfl
  have x2 := kt'.cell 2 (.int .i64 0) rfl
  have y0 := kz.out.cell 0 (.int .i64 0) rfl
  have y1 := kz.out.cell 1 (.string ⟨#[]⟩) rfl
  have y2 := kz.out.cell 2 (.int .i64 0) rfl
  have z0 := kz.out.free 0
  have z1 := kz.out.free 1
  have z2 := kz.out.free 2
  clear kt kt'
  obtain ⟨hds1, hds2⟩ := hds
  go_wp2_with fail
  go_loopw [6] (fun i wr => DgI D w1 i wr) (fun i _ => D.size - (intOf i).toNat)
  case atStart => exact ⟨0, rfl, Lib.hid ⟨Nat.zero_le _, fun j h => absurd h (Nat.not_lt_zero j)⟩, rfl⟩
  case round =>
    obtain ⟨k, rfl, HK1, rfl⟩ := hrel
    have hk := HK1.out.1
    by_cases hlt : k < D.size
    · have g1 : (k : Int) < (D.size : Int) := by omega
      have g0 : (0 : Int) ≤ (k : Int) := by omega
      rcases hp : digitI (byteI D k) with _ | _
      · have hp' : digitI ((D[k]'hlt).toNat : Int) = false := by rw [← byteI_at hlt]; exact hp
        have HN : Hid (numE r = 2) := numE_form (by
          rw [HDR.out]
          rcases ha : allDigits D with _ | _
          · rfl
          · have := allDigits_iff.1 ha k hlt
            rw [hp] at this
            cases this)
        clear hp
        go_wp2_with (go_at_call 12; refine (refDigit_any _ _).mono ?_; rintro e w' ⟨rfl, hw⟩; subst hw)
        exact bodyPost_ret (results_tok (by kernel_rfl) (blk_set3 kz.out _ _ _) rfl rfl) rfl ⟨by rw [numC_bad HN.out (by decide), HN.out]; rfl, below_set3 hb.out (Nat.le_refl _) _ _ _⟩
      · have hp' : digitI ((D[k]'hlt).toNat : Int) = true := by rw [← byteI_at hlt]; exact hp
        have HP := Lib.hid hp
        clear hp
        go_wp2_with (go_at_call 12; refine (refDigit_any _ _).mono ?_; rintro e w' ⟨rfl, hw⟩; subst hw)
        go_roundw
        case rel => exact ⟨k + 1, by go_num, Lib.hid ⟨hlt, fun j hj => by
          rcases Nat.lt_or_ge j k with h | h
          · exact HK1.out.2 j h
          · rw [show j = k by omega]; exact HP.out⟩, by first | trivial | rfl⟩
        case measure => simp [intOf]; omega
    · have g1 : ¬ (k : Int) < (D.size : Int) := by omega
      have had : Hid (allDigits D = true) := allDigits_iff.2 fun j hj => HK1.out.2 j (by omega)
      by_cases hn : 1 < D.size ∧ byteI D 0 = 48
      · have d1 : (1 : Int) < (D.size : Int) := by omega
        have d0 : 0 < D.size := hds2
        have d2 : (((D[0]'(hds2)).toNat : Int) == 48) = true := by rw [beq_iff_eq, ← byteI_at (by omega)]; exact hn.2
        have HN : Hid (numE r = 2) := numE_nought (by rw [HDR.out]; exact had.out) (by rw [HDR.out]; exact hn.1) (by rw [HDR.out]; exact hn.2)
        clear hn
        go_wp2_with fail
        exact bodyPost_ret (results_tok (by kernel_rfl) (blk_set3 kz.out _ _ _) rfl rfl) rfl ⟨by rw [numC_bad HN.out (by decide), HN.out]; rfl, below_set3 hb.out (Nat.le_refl _) _ _ _⟩
      · have hov : aboveB D.data.toList (mostText false) = decide (numMost false < decL D.data.toList) := above_most false D.data.toList had.out (head_48 (fun h e => hn ⟨h, e⟩))
        have HNN : Hid (¬(1 < (digitsOf r).size ∧ byteI (digitsOf r) 0 = 48)) := by show ¬ _; rw [HDR.out]; exact hn
        have HE : Hid ((decide (numMost false < decL D.data.toList) = true → numE r = 6) ∧ (decide (numMost false < decL D.data.toList) = false → numE r = 0)) := by
          constructor
          · intro h
            exact numE_range (by rw [HDR.out]; exact had.out) HNN.out (by rw [HL.out, HDR.out]; simpa using h)
          · intro h
            exact numE_ok (by rw [HDR.out]; exact had.out) HNN.out (by rw [HL.out, HDR.out]; simpa using h)
        rw [hov] at HAB
        have hN1 : (1 < D.size ∧ byteI D 0 ≠ 48) ∨ D.size ≤ 1 := by omega
        clear hov hn
        generalize decide (numMost false < decL D.data.toList) = ov at *
        rcases hN1 with ⟨d1', d2'⟩ | d1'
        · have d1 : (1 : Int) < (D.size : Int) := by omega
          have d0 : 0 < D.size := hds2
          have d2 : (((D[0]'(hds2)).toNat : Int) == 48) = false := by rw [beq_eq_false_iff_ne, ← byteI_at (by omega)]; exact d2'
          clear d1' d2'
          rcases ov with _ | _
          · have HN : Hid (numE r = 0) := HE.out.2 rfl
            clear HE
            go_wp2_with (go_at_call 24; refine (HAB.out _).mono ?_; rintro e w' ⟨rfl, hw⟩; subst hw)
            exact bodyPost_ret (results_tok (by kernel_rfl) (blk_set3 kz.out _ _ _) rfl rfl) rfl ⟨by rw [numC_ok HN.out, HN.out, HK.out, HDR.out]; rfl, below_set3 hb.out (Nat.le_refl _) _ _ _⟩
          · have HN : Hid (numE r = 6) := HE.out.1 rfl
            clear HE
            go_wp2_with (go_at_call 24; refine (HAB.out _).mono ?_; rintro e w' ⟨rfl, hw⟩; subst hw)
            exact bodyPost_ret (results_tok (by kernel_rfl) (blk_set3 kz.out _ _ _) rfl rfl) rfl ⟨by rw [numC_bad HN.out (by decide), HN.out]; rfl, below_set3 hb.out (Nat.le_refl _) _ _ _⟩
        · have d1 : ¬ (1 : Int) < (D.size : Int) := by omega
          clear d1'
          rcases ov with _ | _
          · have HN : Hid (numE r = 0) := HE.out.2 rfl
            clear HE
            go_wp2_with (go_at_call 24; refine (HAB.out _).mono ?_; rintro e w' ⟨rfl, hw⟩; subst hw)
            exact bodyPost_ret (results_tok (by kernel_rfl) (blk_set3 kz.out _ _ _) rfl rfl) rfl ⟨by rw [numC_ok HN.out, HN.out, HK.out, HDR.out]; rfl, below_set3 hb.out (Nat.le_refl _) _ _ _⟩
          · have HN : Hid (numE r = 6) := HE.out.1 rfl
            clear HE
            go_wp2_with (go_at_call 24; refine (HAB.out _).mono ?_; rintro e w' ⟨rfl, hw⟩; subst hw)
            exact bodyPost_ret (results_tok (by kernel_rfl) (blk_set3 kz.out _ _ _) rfl rfl) rfl ⟨by rw [numC_bad HN.out (by decide), HN.out]; rfl, below_set3 hb.out (Nat.le_refl _) _ _ _⟩

theorem row_long (r : ByteArray) (w : World) (h1 : 1 ≤ r.size) (h4 : r.size ≤ 4000) (hd : digitI (byteI r 0) = true) (hl : isLong r = true) : Calls Tryd.prog 13 #[.string r] w (NumOut w r) := by
  obtain ⟨hd1, hd2, hd3⟩ := digitsOf_pos h1 hd
  have HDE : Hid (digitsOf r = r.extract 0 (r.size - 1)) := by show _ = _; unfold digitsOf; rw [hl]; rfl
  have HK : Hid (numK r = 3) := by show _ = _; unfold numK; rw [hl]; rfl
  have HL := Lib.hid hl
  have hlb : (((r[r.size - 1]'(by omega)).toNat : Int) == 76) = true := by
    have := hl
    unfold isLong at this
    rw [byteI_at (by omega)] at this
    exact this
  have hr0 : (0 : Int) ≤ (r.size : Int) - 1 := by omega
  have hr1 : (r.size : Int) - 1 < (r.size : Int) := by omega
  have hrn : ((r.size : Int) - 1).toNat = r.size - 1 := by omega
  have HD3 := Lib.hid hd3
  clear hl hd3 hd
  go_enter Tryd.func13, Tryd.ntmps13
  go_upto_region 6 with (fail)
  have kz : Hid (Blk ((w.alloc (.cells #[.int .i64 0, .string ⟨#[]⟩, .int .i64 0] 29)).alloc (.cells #[.int .i64 3, .string (r.extract 0 (r.size - 1)), .int .i64 0] 29)) w.heap.size 29 #[.int .i64 0, .string ⟨#[]⟩, .int .i64 0]) := ((Blk.new_ w 29 _).alloc _)
  have kt : Hid (Blk ((w.alloc (.cells #[.int .i64 0, .string ⟨#[]⟩, .int .i64 0] 29)).alloc (.cells #[.int .i64 3, .string (r.extract 0 (r.size - 1)), .int .i64 0] 29)) (w.heap.size + 1) 29 #[.int .i64 3, .string (r.extract 0 (r.size - 1)), .int .i64 0]) := by
    have := Blk.new_ (w.alloc (.cells #[.int .i64 0, .string ⟨#[]⟩, .int .i64 0] 29)) 29 #[.int .i64 3, .string (r.extract 0 (r.size - 1)), .int .i64 0]
    rw [show (w.alloc (.cells #[.int .i64 0, .string ⟨#[]⟩, .int .i64 0] 29)).heap.size = w.heap.size + 1 by simp] at this
    exact this
  have hb : Hid (Below w.heap.size w ((w.alloc (.cells #[.int .i64 0, .string ⟨#[]⟩, .int .i64 0] 29)).alloc (.cells #[.int .i64 3, .string (r.extract 0 (r.size - 1)), .int .i64 0] 29))) := by show Below _ _ _; (repeat (first | with_reducible assumption | with_reducible exact Below.refl _ _ | (refine Below.setCell ?_ (by first | omega | (simp; done) | (simp; omega)) _) | (refine Below.drewN_ ?_ _) | (refine Below.drew ?_) | (refine Below.alloc ?_ (by first | omega | (simp; done) | (simp; omega)) _)))
  generalize ((w.alloc (.cells #[.int .i64 0, .string ⟨#[]⟩, .int .i64 0] 29)).alloc (.cells #[.int .i64 3, .string (r.extract 0 (r.size - 1)), .int .i64 0] 29)) = w1 at *
  obtain ⟨D, hD⟩ : ∃ D : ByteArray, D = r.extract 0 (r.size - 1) := ⟨_, rfl⟩
  have HDR : Hid (digitsOf r = D) := by show _ = _; rw [hD]; exact HDE.out
  rw [← hD] at kt
  have kt' : Blk w1 (w.heap.size + 1) 29 #[.int .i64 3, .string D, .int .i64 0] := kt.out
  have hds : D.size ≤ 4000 ∧ 1 ≤ D.size := by rw [← HDR.out]; omega
  have HAB : Hid (∀ W : World, Calls Tryd.prog 24 #[.string D, .string ⟨#[57, 50, 50, 51, 51, 55, 50, 48, 51, 54, 56, 53, 52, 55, 55, 53, 56, 48, 55]⟩] W fun e w' => e = .returned (.bool (aboveB D.data.toList (mostText true))) ∧ w' = W) := fun W => above_any D ⟨#[57, 50, 50, 51, 51, 55, 50, 48, 51, 54, 56, 53, 52, 55, 55, 53, 56, 48, 55]⟩ W
  clear hD HDE hd1 hd2 HD3
  have x0 := kt'.cell 0 (.int .i64 3) rfl
  have x1 := kt'.cell 1 (.string D) rfl
  have x2 := kt'.cell 2 (.int .i64 0) rfl
  have y0 := kz.out.cell 0 (.int .i64 0) rfl
  have y1 := kz.out.cell 1 (.string ⟨#[]⟩) rfl
  have y2 := kz.out.cell 2 (.int .i64 0) rfl
  have z0 := kz.out.free 0
  have z1 := kz.out.free 1
  have z2 := kz.out.free 2
  clear kt kt'
  obtain ⟨hds1, hds2⟩ := hds
  go_wp2_with fail
  go_loopw [6] (fun i wr => DgI D w1 i wr) (fun i _ => D.size - (intOf i).toNat)
  case atStart => exact ⟨0, rfl, Lib.hid ⟨Nat.zero_le _, fun j h => absurd h (Nat.not_lt_zero j)⟩, rfl⟩
  case round =>
    obtain ⟨k, rfl, HK1, rfl⟩ := hrel
    have hk := HK1.out.1
    by_cases hlt : k < D.size
    · have g1 : (k : Int) < (D.size : Int) := by omega
      have g0 : (0 : Int) ≤ (k : Int) := by omega
      rcases hp : digitI (byteI D k) with _ | _
      · have hp' : digitI ((D[k]'hlt).toNat : Int) = false := by rw [← byteI_at hlt]; exact hp
        have HN : Hid (numE r = 2) := numE_form (by
          rw [HDR.out]
          rcases ha : allDigits D with _ | _
          · rfl
          · have := allDigits_iff.1 ha k hlt
            rw [hp] at this
            cases this)
        clear hp
        go_wp2_with (go_at_call 12; refine (refDigit_any _ _).mono ?_; rintro e w' ⟨rfl, hw⟩; subst hw)
        exact bodyPost_ret (results_tok (by kernel_rfl) (blk_set3 kz.out _ _ _) rfl rfl) rfl ⟨by rw [numC_bad HN.out (by decide), HN.out]; rfl, below_set3 hb.out (Nat.le_refl _) _ _ _⟩
      · have hp' : digitI ((D[k]'hlt).toNat : Int) = true := by rw [← byteI_at hlt]; exact hp
        have HP := Lib.hid hp
        clear hp
        go_wp2_with (go_at_call 12; refine (refDigit_any _ _).mono ?_; rintro e w' ⟨rfl, hw⟩; subst hw)
        go_roundw
        case rel => exact ⟨k + 1, by go_num, Lib.hid ⟨hlt, fun j hj => by
          rcases Nat.lt_or_ge j k with h | h
          · exact HK1.out.2 j h
          · rw [show j = k by omega]; exact HP.out⟩, by first | trivial | rfl⟩
        case measure => simp [intOf]; omega
    · have g1 : ¬ (k : Int) < (D.size : Int) := by omega
      have had : Hid (allDigits D = true) := allDigits_iff.2 fun j hj => HK1.out.2 j (by omega)
      by_cases hn : 1 < D.size ∧ byteI D 0 = 48
      · have d1 : (1 : Int) < (D.size : Int) := by omega
        have d0 : 0 < D.size := hds2
        have d2 : (((D[0]'(hds2)).toNat : Int) == 48) = true := by rw [beq_iff_eq, ← byteI_at (by omega)]; exact hn.2
        have HN : Hid (numE r = 2) := numE_nought (by rw [HDR.out]; exact had.out) (by rw [HDR.out]; exact hn.1) (by rw [HDR.out]; exact hn.2)
        clear hn
        go_wp2_with fail
        exact bodyPost_ret (results_tok (by kernel_rfl) (blk_set3 kz.out _ _ _) rfl rfl) rfl ⟨by rw [numC_bad HN.out (by decide), HN.out]; rfl, below_set3 hb.out (Nat.le_refl _) _ _ _⟩
      · have hov : aboveB D.data.toList (mostText true) = decide (numMost true < decL D.data.toList) := above_most true D.data.toList had.out (head_48 (fun h e => hn ⟨h, e⟩))
        have HNN : Hid (¬(1 < (digitsOf r).size ∧ byteI (digitsOf r) 0 = 48)) := by show ¬ _; rw [HDR.out]; exact hn
        have HE : Hid ((decide (numMost true < decL D.data.toList) = true → numE r = 6) ∧ (decide (numMost true < decL D.data.toList) = false → numE r = 0)) := by
          constructor
          · intro h
            exact numE_range (by rw [HDR.out]; exact had.out) HNN.out (by rw [HL.out, HDR.out]; simpa using h)
          · intro h
            exact numE_ok (by rw [HDR.out]; exact had.out) HNN.out (by rw [HL.out, HDR.out]; simpa using h)
        rw [hov] at HAB
        have hN1 : (1 < D.size ∧ byteI D 0 ≠ 48) ∨ D.size ≤ 1 := by omega
        clear hov hn
        generalize decide (numMost true < decL D.data.toList) = ov at *
        rcases hN1 with ⟨d1', d2'⟩ | d1'
        · have d1 : (1 : Int) < (D.size : Int) := by omega
          have d0 : 0 < D.size := hds2
          have d2 : (((D[0]'(hds2)).toNat : Int) == 48) = false := by rw [beq_eq_false_iff_ne, ← byteI_at (by omega)]; exact d2'
          clear d1' d2'
          rcases ov with _ | _
          · have HN : Hid (numE r = 0) := HE.out.2 rfl
            clear HE
            go_wp2_with (go_at_call 24; refine (HAB.out _).mono ?_; rintro e w' ⟨rfl, hw⟩; subst hw)
            exact bodyPost_ret (results_tok (by kernel_rfl) (blk_set3 kz.out _ _ _) rfl rfl) rfl ⟨by rw [numC_ok HN.out, HN.out, HK.out, HDR.out]; rfl, below_set3 hb.out (Nat.le_refl _) _ _ _⟩
          · have HN : Hid (numE r = 6) := HE.out.1 rfl
            clear HE
            go_wp2_with (go_at_call 24; refine (HAB.out _).mono ?_; rintro e w' ⟨rfl, hw⟩; subst hw)
            exact bodyPost_ret (results_tok (by kernel_rfl) (blk_set3 kz.out _ _ _) rfl rfl) rfl ⟨by rw [numC_bad HN.out (by decide), HN.out]; rfl, below_set3 hb.out (Nat.le_refl _) _ _ _⟩
        · have d1 : ¬ (1 : Int) < (D.size : Int) := by omega
          clear d1'
          rcases ov with _ | _
          · have HN : Hid (numE r = 0) := HE.out.2 rfl
            clear HE
            go_wp2_with (go_at_call 24; refine (HAB.out _).mono ?_; rintro e w' ⟨rfl, hw⟩; subst hw)
            exact bodyPost_ret (results_tok (by kernel_rfl) (blk_set3 kz.out _ _ _) rfl rfl) rfl ⟨by rw [numC_ok HN.out, HN.out, HK.out, HDR.out]; rfl, below_set3 hb.out (Nat.le_refl _) _ _ _⟩
          · have HN : Hid (numE r = 6) := HE.out.1 rfl
            clear HE
            go_wp2_with (go_at_call 24; refine (HAB.out _).mono ?_; rintro e w' ⟨rfl, hw⟩; subst hw)
            exact bodyPost_ret (results_tok (by kernel_rfl) (blk_set3 kz.out _ _ _) rfl rfl) rfl ⟨by rw [numC_bad HN.out (by decide), HN.out]; rfl, below_set3 hb.out (Nat.le_refl _) _ _ _⟩

theorem row_any (r : ByteArray) (w : World) (h1 : 1 ≤ r.size) (h4 : r.size ≤ 4000) (hd : digitI (byteI r 0) = true) : Calls Tryd.prog 13 #[.string r] w (NumOut w r) := by
  rcases hl : isLong r with _ | _
  · exact row_short r w h1 h4 hd hl
  · exact row_long r w h1 h4 hd hl
end Go.Proofs.YtdhphabncchncaaDoor
