/- The reference's sign: the longest sign that a text begins with. -/
import Derived.Test.YtdhphabncchncaaDoorLexE
import Derived.Test.YtdhphabncchncaaDoorLexG
import Derived.Deep.QuietTactic
namespace Go.Proofs.YtdhphabncchncaaDoor
open Go.RowKit Go.Shelf
set_option linter.unusedVariables false
set_option linter.unusedSimpArgs false
set_option maxRecDepth 100000
set_option maxHeartbeats 1000000
def signsL : List ByteArray := [⟨#[46, 46, 46]⟩, ⟨#[61, 61]⟩, ⟨#[123]⟩, ⟨#[125]⟩, ⟨#[40]⟩, ⟨#[41]⟩, ⟨#[59]⟩, ⟨#[44]⟩, ⟨#[46]⟩, ⟨#[61]⟩, ⟨#[60]⟩, ⟨#[43]⟩, ⟨#[45]⟩, ⟨#[42]⟩, ⟨#[47]⟩, ⟨#[37]⟩, ⟨#[38]⟩, ⟨#[124]⟩, ⟨#[94]⟩, ⟨#[33]⟩]
def begins (t p : ByteArray) : Bool := decide (p.size ≤ t.size) && ((t.extract 0 p.size).toList == p.toList)
def findSign : List ByteArray → ByteArray → ByteArray
  | [], _ => ⟨#[]⟩
  | p :: r, t => if begins t p = true then p else findSign r t
theorem begins_eq (t p : ByteArray) : begins t p = Lib.hasPrefix t.data.toList p.data.toList := Lib.hasPrefix_raw t p
theorem find_ones (bs : List UInt8) (t : ByteArray) (h : 0 < t.size) : findSign (bs.map fun b => (⟨#[b]⟩ : ByteArray)) t = if bs.contains (t[0]'h) = true then ⟨#[t[0]'h]⟩ else ⟨#[]⟩ := by
  induction bs with
  | nil => rfl
  | cons b bs ih =>
    rw [List.map_cons, findSign, ih, begins_eq]
    have ht : ∃ r, t.data.toList = t[0]'h :: r := by
      have hl : 0 < t.data.toList.length := by rw [Array.length_toList]; exact h
      obtain ⟨x, r, e⟩ := List.exists_cons_of_ne_nil (List.ne_nil_of_length_pos hl)
      refine ⟨r, ?_⟩
      have : t.data.toList[0]'hl = x := by simp [e]
      rw [e, ← this, Array.getElem_toList]
      rfl
    obtain ⟨r, ht⟩ := ht
    rw [ht]
    have hp : Lib.hasPrefix (t[0]'h :: r) (⟨#[b]⟩ : ByteArray).data.toList = (b == t[0]'h) := by
      simp [Lib.hasPrefix, List.isPrefixOf]
    rw [hp, List.contains_cons]
    by_cases hb : b = t[0]'h
    · rw [hb]; simp
    · have h1 : (b == t[0]'h) = false := by simpa using hb
      have h2 : (t[0]'h == b) = false := by simpa using fun e => hb e.symm
      rw [h1, h2]
      simp
theorem find_at (s : ByteArray) (j : Nat) (hj : j < s.size) : findSign signsL (s.extract j s.size) = s.extract j (j + signLen s j) := by
  have h0 : 0 < (s.extract j s.size).size := by rw [ByteArray.size_extract]; omega
  have hone := find_ones oneSigns (s.extract j s.size) h0
  have hb : (s.extract j s.size)[0]'h0 = s[j]'hj := by rw [ByteArray.getElem_extract]; rfl
  rw [hb] at hone
  have hL : signsL = ⟨#[46, 46, 46]⟩ :: ⟨#[61, 61]⟩ :: oneSigns.map fun b => (⟨#[b]⟩ : ByteArray) := rfl
  rw [hL, findSign, findSign, begins_eq, begins_eq, hone]
  rw [show Lib.hasPrefix (s.extract j s.size).data.toList (⟨#[46, 46, 46]⟩ : ByteArray).data.toList = dots s j from dots_prefix s j, show Lib.hasPrefix (s.extract j s.size).data.toList (⟨#[61, 61]⟩ : ByteArray).data.toList = eqs s j from eqs_prefix s j]
  have hc : oneSigns.contains (s[j]'hj) = signI (byteI s j) := by
    rw [byteI_at hj]
    unfold signI
    rw [Bool.eq_iff_iff, List.contains_iff_mem, List.any_eq_true]
    constructor
    · intro h; exact ⟨_, h, by simp⟩
    · rintro ⟨b, hb, e⟩
      rw [beq_iff_eq] at e
      have : s[j]'hj = b := UInt8.toNat_inj.1 (by omega)
      rw [this]; exact hb
  rw [hc, signLen_eq]
  rcases hd : dots s j with _ | _
  · rcases he : eqs s j with _ | _
    · rcases hs : signI (byteI s j) with _ | _
      · simp only [Bool.false_eq_true, if_false, Nat.add_zero]
        refine (ByteArray.ext_getElem (by rw [ByteArray.size_extract]; show 0 = _; omega) fun i hi hi' => ?_)
        exact absurd hi (Nat.not_lt_zero i)
      · simp only [Bool.false_eq_true, if_false, if_true]
        exact (extract_one hj).symm
    · simp only [Bool.false_eq_true, if_false, if_true]
      exact (eqs_size he).2.symm
  · simp only [if_true]
    exact (dots_size hd).2.symm
def SgOut (w : World) (e : Ending) (w' : World) : Prop := ∃ b, e = .returned (.slice (some ⟨b, 0, none⟩) 20 20) ∧ Row w' (some ⟨b, 0, none⟩) (signsL.map Value.string) ∧ Below w.heap.size w w'
theorem signs_any (w : World) : Calls Tryd.prog 23 #[] w (SgOut w) := by
  go_enter Tryd.func23, Tryd.ntmps23
  go_wp2_with fail
  go_ret
  refine ⟨w.heap.size, rfl, Row.of_blk (t := 9) (n := 20) (heap_new rfl) rfl, by (repeat (first | with_reducible assumption | with_reducible exact Below.refl _ _ | (refine Below.setCell ?_ (by first | omega | (simp; done) | (simp; omega)) _) | (refine Below.drewN_ ?_ _) | (refine Below.drew ?_) | (refine Below.alloc ?_ (by first | omega | (simp; done) | (simp; omega)) _)))⟩
def SnI (t : ByteArray) (w1 : World) (i : Value) (wr : World) : Prop := ∃ k : Nat, i = .int .i64 k ∧ Hid (k ≤ 20 ∧ findSign (signsL.drop k) t = findSign signsL t) ∧ Hid (Below w1.heap.size w1 wr)
theorem sign_any (t : ByteArray) (w : World) (ht : t.size ≤ 4000) : Calls Tryd.prog 10 #[.string t] w fun e w' => e = .returned (.string (findSign signsL t)) ∧ Below w.heap.size w w' := by
  go_enter Tryd.func10, Tryd.ntmps10
  go_wp2_with fail
  refine (signs_any _).mono ?_
  rintro e w1 ⟨b, rfl, hrow, hb⟩
  obtain ⟨b', o', hA, hlt, hc⟩ := hrow.at_ (by simp [signsL])
  obtain ⟨rfl, rfl⟩ : b = b' ∧ 0 = o' := by injection hA with hA; injection hA with h1 h2; exact ⟨h1, h2⟩
  have HB := Lib.hid hb
  have HC := Lib.hid hc
  clear hb hc hrow hA
  go_wp2_with fail
  go_loopw [4] (fun i wr => SnI t w1 i wr) (fun i _ => 20 - (intOf i).toNat)
  case atStart => exact ⟨0, rfl, Lib.hid ⟨Nat.zero_le _, rfl⟩, Lib.hid (Below.refl _ _)⟩
  case round =>
    obtain ⟨k, rfl, HK, HBR⟩ := hrel
    have hk0 : (0 : Int) ≤ (k : Int) := by omega
    have hk := HK.out.1
    by_cases hk20 : k < 20
    · have g1 : (k : Int) < 20 := by omega
      have hlen : k < signsL.length := hk20
      have HD : Hid (findSign (signsL.drop k) t = if begins t (signsL[k]'hlen) = true then signsL[k]'hlen else findSign (signsL.drop (k + 1)) t) := by
        show _ = _
        rw [List.drop_eq_getElem_cons hlen, findSign]
      have hcell : wr.cell? ⟨b, k, none⟩ = some (.string (signsL[k]'hlen)) := by
        rw [keep_cell HBR.out hlt]
        have := HC.out k (.string (signsL[k]'hlen)) (by rw [List.getElem?_map, List.getElem?_eq_getElem hlen]; rfl)
        rwa [Nat.zero_add] at this
      have hpl : (signsL[k]'hlen).size ≤ 3 := by
        have : ∀ p ∈ signsL, p.size ≤ 3 := by decide
        exact this _ (List.getElem_mem hlen)
      generalize signsL[k]'hlen = p at *
      by_cases hsz : p.size ≤ t.size
      · have d1 : decide ((p.size : Int) ≤ (t.size : Int)) = true := by rw [decide_eq_true_eq]; omega
        have d1n : decide (p.size ≤ t.size) = true := decide_eq_true hsz
        rcases hq : ((t.extract 0 p.size).toList == p.toList) with _ | _
        · have HF : Hid (findSign (signsL.drop (k + 1)) t = findSign signsL t) := by
            show _ = _
            rw [← HK.out.2, HD.out]
            unfold begins
            rw [hq, d1n]
            rfl
          go_wp2_with fail
          go_quiet (fail)
          go_wp2_with fail
          refine ⟨⟨k + 1, by go_num, Lib.hid ⟨by omega, HF.out⟩, Lib.hid (Below.drewN_ HBR.out _)⟩, by simp [intOf]; omega⟩
        · have HF : Hid (findSign signsL t = p) := by
            show _ = _
            rw [← HK.out.2, HD.out]
            unfold begins
            rw [hq, d1n]
            rfl
          have hcell' : (wr.drewN 0).cell? ⟨b, k, none⟩ = some (.string p) := hcell
          go_wp2_with fail
          go_quiet (fail)
          go_wp2_with fail
          go_ret
          exact ⟨by rw [HF.out]; rfl, Below.drewN_ (below_trans HB.out (Nat.le_refl _) HBR.out) _⟩
      · have d1 : decide ((p.size : Int) ≤ (t.size : Int)) = false := by rw [decide_eq_false_iff_not]; omega
        have d1n : decide (p.size ≤ t.size) = false := decide_eq_false hsz
        have HF : Hid (findSign (signsL.drop (k + 1)) t = findSign signsL t) := by
          show _ = _
          rw [← HK.out.2, HD.out]
          unfold begins
          rw [d1n]
          rfl
        go_wp2_with fail
        go_quiet (fail)
        go_wp2_with fail
        refine ⟨⟨k + 1, by go_num, Lib.hid ⟨by omega, HF.out⟩, Lib.hid (Below.drewN_ HBR.out _)⟩, by simp [intOf]; omega⟩
    · have g1 : ¬ (k : Int) < 20 := by omega
      have HF : Hid (findSign signsL t = ⟨#[]⟩) := by
        show _ = _
        rw [← HK.out.2, List.drop_eq_nil_of_le (by show 20 ≤ k; omega)]
        rfl
      go_wp2_with fail
      go_ret
      exact ⟨by rw [HF.out]; rfl, below_trans HB.out (Nat.le_refl _) HBR.out⟩
end Go.Proofs.YtdhphabncchncaaDoor
