/- The law LexTells, walked. -/
import Derived.Test.YtdhphabncchncaaDoorLexJ
namespace Go.Proofs.YtdhphabncchncaaDoor
open Go.RowKit Go.Shelf
set_option linter.unusedVariables false
set_option linter.unusedSimpArgs false
set_option maxRecDepth 100000
set_option maxHeartbeats 1000000
theorem sign_le {s : ByteArray} {j : Nat} (hj : j < s.size) : j + signLen s j ≤ s.size := by
  have h1 := signText_size hj
  rw [ByteArray.size_extract] at h1
  omega
theorem tokAt_le {s : ByteArray} {j : Nat} (hj : j < s.size) : (tokAt s j).z ≤ s.size := by
  unfold tokAt
  by_cases h1 : letterI (byteI s j) = true
  · rw [if_pos h1]; exact endOf_le (by omega)
  · rw [if_neg h1]
    by_cases h2 : digitI (byteI s j) = true
    · rw [if_pos h2]; exact endOf_le (by omega)
    · rw [if_neg h2]; exact sign_le hj
theorem lexN_len (s : ByteArray) (n : Nat) : ∀ note k acc, k ≤ s.size → (lexN s n note k acc).l.length ≤ acc.length + (s.size - k) := by
  induction n with
  | zero => intro note k acc hk; simp [lexN]
  | succ n ih =>
    intro note k acc hk
    rw [lexN]
    split
    · rename_i hlt
      split
      · rename_i he
        have hge := skip_ge (s := s) (note := note) (k := k)
        have hgt := tokAt_gt hlt he
        have hle := tokAt_le hlt
        have := ih false (tokAt s (skip s note k)).z (acc ++ [⟨(tokAt s (skip s note k)).k, (tokAt s (skip s note k)).t, skip s note k⟩]) hle
        rw [List.length_append, List.length_singleton] at this
        omega
      · simp
    · simp
theorem lexOf_len (s : ByteArray) : (lexOf s).l.length ≤ 4000 ∧ (lexOf s).l.length ≤ s.size := by
  unfold lexOf
  split
  · simp
  · have := lexN_len s (s.size - 0 + 1) false 0 [] (Nat.zero_le _)
    unfold lexA
    simp only [List.length_nil, Nat.sub_zero, Nat.zero_add] at this ⊢
    omega
theorem ne_toks (a c : Int) (b : ByteArray) (w : World) : (binOp .neq 29 (.agg #[.int .i64 a, .string b, .int .i64 c]) (.agg #[.int .i64 a, .string b, .int .i64 c])).run Tryd.prog w = .ok (.bool false) w := by
  rw [run_neq_struct]
  simp [go_sem, Tryd.underlying29, Op.eqFields, Program.fieldsOf]
theorem ne_faults (a c : Int) (w : World) : (binOp .neq 25 (.agg #[.int .i64 a, .int .i64 c]) (.agg #[.int .i64 a, .int .i64 c])).run Tryd.prog w = .ok (.bool false) w := by
  rw [run_neq_struct]
  simp [go_sem, Tryd.underlying25, Op.eqFields, Program.fieldsOf]
theorem toks_at {w : World} {A : Option Addr} {l : List Tok} (h : Row w A (l.flatMap tkC)) {k : Nat} (hk : k < l.length) :
    ∃ b o, A = some ⟨b, o, none⟩ ∧ b < w.heap.size ∧ w.cell? ⟨b, o + k * 3, none⟩ = some (.int .i64 l[k].k) ∧ w.cell? ⟨b, o + k * 3 + 1, none⟩ = some (.string l[k].s) ∧ w.cell? ⟨b, o + k * 3 + 2, none⟩ = some (.int .i64 (l[k].p : Int)) := by
  have hf : ∀ j, j < 3 → (l.flatMap tkC)[k * 3 + j]? = (tkC l[k])[j]? := fun j hj => by
    rw [flat_at tkC 3 (fun _ => rfl) l k j hj, List.getElem?_eq_getElem hk]
    rfl
  obtain ⟨b, o, hA, hlt, hc⟩ := h.at_ (fun e => by have := hf 0 (by omega); rw [e] at this; simp [tkC] at this)
  refine ⟨b, o, hA, hlt, ?_, ?_, ?_⟩
  · exact hc (k * 3) _ (hf 0 (by omega))
  · have := hc (k * 3 + 1) _ (hf 1 (by omega)); rwa [← Nat.add_assoc] at this
  · have := hc (k * 3 + 2) _ (hf 2 (by omega)); rwa [← Nat.add_assoc] at this
def TkRel (l : List Tok) (w : World) (i : Value) (wr : World) : Prop := ∃ k : Nat, k ≤ l.length ∧ i = .int .i64 k ∧ ∃ n, wr = w.drewN n
theorem lexTells_any (s : ByteArray) (w : World) (he : ER w) : Calls Tryd.prog 3 #[.string s] w fun e w' => e = .returned (.bool true) ∧ Below w.heap.size w w' := by
  have hlen := (lexOf_len s).1
  have HE := Lib.hid he
  clear he
  go_enter Tryd.func3, Tryd.ntmps3
  go_wp2_with fail
  refine (scan_any s w HE.out).mono ?_
  rintro e w1 ⟨A, c, rfl, hr1, hb1⟩
  have HR1 := Lib.hid hr1
  have HB1 := Lib.hid hb1
  have hlt1 := hb1.size
  clear hr1 hb1
  go_wp2_with fail
  refine (refScan_any s _).mono ?_
  rintro e w2 ⟨A', c', rfl, hr2, hb2⟩
  have kf1 := Blk.new_ w1 25 #[.int .i64 (lexOf s).e, .int .i64 ((lexOf s).p : Int)]
  have hw1 : Below w1.heap.size w1 (w1.alloc (.cells #[.int .i64 (lexOf s).e, .int .i64 ((lexOf s).p : Int)] 25)) := by (repeat (first | with_reducible assumption | with_reducible exact Below.refl _ _ | (refine Below.setCell ?_ (by first | omega | (simp; done) | (simp; omega)) _) | (refine Below.drewN_ ?_ _) | (refine Below.drew ?_) | (refine Below.alloc ?_ (by first | omega | (simp; done) | (simp; omega)) _)))
  have hb12 : Below w1.heap.size w1 w2 := hw1.trans (hb2.mono (by simp))
  have HR1' := Lib.hid (HR1.out.keep hb12)
  have HR2 := Lib.hid hr2
  have kf2 := kf1.below hb2
  have HB2 : Hid (Below w.heap.size w w2) := below_trans HB1.out (Nat.le_refl _) hb12
  clear hr2 hb2 kf1 hw1 hb12 HR1
  generalize (lexOf s).l = l at *
  generalize (lexOf s).e = E at *
  generalize ((lexOf s).p : Int) = P at *
  have q0 := kf2.cell 0 (.int .i64 E) rfl
  have q1 := kf2.cell 1 (.int .i64 P) rfl
  have hql := kf2.lt
  have hnf := ne_faults E P
  clear kf2
  have HW : Hid (∃ W, Row W A (l.flatMap tkC) ∧ Row W A' (l.flatMap tkC) ∧ Below w.heap.size w W ∧ W = w2.alloc (.cells #[.int .i64 E, .int .i64 P] 25)) := by
    have hw2 : Below w2.heap.size w2 (w2.alloc (.cells #[.int .i64 E, .int .i64 P] 25)) := by (repeat (first | with_reducible assumption | with_reducible exact Below.refl _ _ | (refine Below.setCell ?_ (by first | omega | (simp; done) | (simp; omega)) _) | (refine Below.drewN_ ?_ _) | (refine Below.drew ?_) | (refine Below.alloc ?_ (by first | omega | (simp; done) | (simp; omega)) _)))
    exact ⟨_, HR1'.out.keep hw2, HR2.out.keep hw2, below_trans HB2.out (Nat.le_refl _) hw2, rfl⟩
  go_wp2_with fail
  obtain ⟨W, h1, h2, h3, h4⟩ := HW.out
  rw [← h4]
  have H1 := Lib.hid h1
  have H2 := Lib.hid h2
  have H3 := Lib.hid h3
  clear h1 h2 h3 h4 q0 q1 hql HW HR1' HR2 HB2 HB1 hlt1
  go_loopw [7] (fun i wr => TkRel l W i wr) (fun i _ => l.length - (intOf i).toNat)
  case atStart => exact ⟨0, Nat.zero_le _, rfl, 0, rfl⟩
  case round =>
    obtain ⟨k, hk, rfl, nd, rfl⟩ := hrel
    by_cases hlt : k < l.length
    · obtain ⟨b, o, rfl, hbl, c0, c1, c2⟩ := toks_at H1.out hlt
      obtain ⟨b', o', rfl, hbl', d0, d1, d2⟩ := toks_at H2.out hlt
      have hi : (k : Int) < (l.length : Int) := by omega
      have hi0 : (0 : Int) ≤ (k : Int) := by omega
      have hk6 : (k : Int) < 4000 := by omega
      generalize l[k] = x at *
      have t := ne_toks x.k (x.p : Int) x.s
      go_wp2_with fail
      go_quiet (fail)
      go_wp2
      go_roundw
      case rel => exact ⟨k + 1, by omega, by go_num, _, rfl⟩
      case measure => (first | (simp [intOf]; done) | (simp [intOf]; omega))
    · have hi : ¬ (k : Int) < (l.length : Int) := by omega
      go_wp2
      go_ret
      exact ⟨rfl, Below.drewN_ H3.out _⟩
end Go.Proofs.YtdhphabncchncaaDoor
