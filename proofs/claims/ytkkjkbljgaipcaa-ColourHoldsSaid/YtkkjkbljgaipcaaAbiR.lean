/- The document's words on places: regFrom, placeFrom, free, up. -/
import Derived.Test.YtkkjkbljgaipcaaAbiB
namespace Go.Proofs.Ytkkjkbljgaipcaa
open Go.RowKit
set_option linter.unusedVariables false
set_option linter.unusedSimpArgs false
set_option maxRecDepth 100000
set_option maxHeartbeats 2000000
theorem lcs_at {w : World} {A : Option Addr} {l : List Pl} (h : Row w A (lcs l)) {k : Nat} (hk : k < l.length) :
    ∃ b o, A = some ⟨b, o, none⟩ ∧ b < w.heap.size ∧ w.cell? ⟨b, o + k * 2, none⟩ = some (.bool l[k].s) ∧ w.cell? ⟨b, o + k * 2 + 1, none⟩ = some (.int .i64 (l[k].n : Int)) := by
  have hf := flat_at Pl.cells 2 (fun _ => rfl) l k
  have hx : l[k]? = some l[k] := List.getElem?_eq_getElem hk
  rw [hx] at hf
  obtain ⟨b, o, hA, hlt, hc⟩ := h.at_ (by
    intro e
    have := flat_len Pl.cells 2 (fun _ => rfl) l
    unfold lcs at e
    rw [e] at this
    simp at this
    omega)
  exact ⟨b, o, hA, hlt, by have := hc (k * 2) (.bool l[k].s) (by have := hf 0 (by omega); simpa [lcs, Pl.cells] using this); exact this, by have := hc (k * 2 + 1) (.int .i64 (l[k].n : Int)) (by have := hf 1 (by omega); simpa [lcs, Pl.cells] using this); rw [← Nat.add_assoc] at this; exact this⟩
def regN (l : List Pl) : Nat := l.foldl (fun r x => if r ≤ x.n then x.n + 1 else r) 0
def plcN (l : List Pl) : Nat := l.foldl (fun n x => if x.s && decide (n ≤ x.n) then x.n + 1 else n) 0
def stk (l : List Pl) : Bool := l.any (·.s)
def regF (l : List Pl) : Nat := if stk l then 4 else regN l
theorem regN_snoc (l : List Pl) (x : Pl) : regN (l ++ [x]) = if regN l ≤ x.n then x.n + 1 else regN l := by unfold regN; rw [List.foldl_append]; rfl
theorem plcN_snoc (l : List Pl) (x : Pl) : plcN (l ++ [x]) = if x.s && decide (plcN l ≤ x.n) then x.n + 1 else plcN l := by unfold plcN; rw [List.foldl_append]; rfl
theorem regN_take {l : List Pl} {k : Nat} (h : k < l.length) : regN (l.take (k + 1)) = if regN (l.take k) ≤ l[k].n then l[k].n + 1 else regN (l.take k) := by rw [List.take_succ_eq_append_getElem h, regN_snoc]
theorem plcN_take {l : List Pl} {k : Nat} (h : k < l.length) : plcN (l.take (k + 1)) = if l[k].s && decide (plcN (l.take k) ≤ l[k].n) then l[k].n + 1 else plcN (l.take k) := by rw [List.take_succ_eq_append_getElem h, plcN_snoc]
def RfRel (l : List Pl) (r i : Value) : Prop := ∃ k : Nat, k ≤ l.length ∧ i = .int .i64 k ∧ r = .int .i64 (regN (l.take k) : Int) ∧ ∀ j (h : j < l.length), j < k → l[j].s = false
def PfRel (l : List Pl) (r i : Value) : Prop := ∃ k : Nat, k ≤ l.length ∧ i = .int .i64 k ∧ r = .int .i64 (plcN (l.take k) : Int)
theorem regFrom_any (A : Option Addr) (c : Nat) (l : List Pl) (w : World) (hr : Row w A (lcs l)) (hl : l.length ≤ 1000) (hn : ∀ x ∈ l, x.n ≤ 2000) :
    Calls Try.prog 74 #[.slice A l.length c] w fun e w' => e = .returned (.int .i64 (regF l : Int)) ∧ w' = w := by
  go_enter Try.func74, Try.ntmps74
  go_wp2
  go_loop [3, 4] (fun r i => RfRel l r i) (fun _ i => l.length - (intOf i).toNat)
  case atStart => exact ⟨0, Nat.zero_le _, rfl, rfl, fun j _ h => absurd h (by omega)⟩
  case round =>
    obtain ⟨k, hk, rfl, rfl, hg⟩ := hrel
    by_cases hlt : k < l.length
    · obtain ⟨b, o, rfl, hbl, c0, c1⟩ := lcs_at hr hlt
      have hi : (k : Int) < (l.length : Int) := by omega
      have hk1 : (k : Int) < 1000 := by omega
      have HT := Lib.hid (regN_take hlt)
      have hx := hn _ (List.getElem_mem hlt)
      have HG := Lib.hid hg
      have HST : Hid (l[k].s = true → regF l = 4) := fun h => by unfold regF stk; rw [if_pos (List.any_eq_true.2 ⟨_, List.getElem_mem hlt, h⟩)]
      have HGG : Hid (l[k].s = false → ∀ j (h : j < l.length), j < k + 1 → l[j].s = false) := fun h0 j h hj => by
        rcases Nat.lt_or_ge j k with h1 | h1
        · exact HG.out j h h1
        · obtain rfl : j = k := by omega
          exact h0
      clear hg HG
      generalize l[k] = x at *
      rcases hs : x.s with _ | _
      · have hgg := Lib.hid (HGG.out hs)
        rw [hs] at c0
        clear hs HGG HST
        by_cases hle : regN (l.take k) ≤ x.n
        · have hle' : (regN (l.take k) : Int) ≤ (x.n : Int) := by omega
          have hf := HT.out
          rw [if_pos hle] at hf
          have HF := Lib.hid hf
          clear hf HT hle
          have hx' : (x.n : Int) ≤ 2000 := by omega
          go_wp2
          go_round
          case rel => exact ⟨k + 1, by omega, by go_num, by rw [HF.out]; go_num, hgg.out⟩
          case measure => (first | (simp [intOf]; done) | (simp [intOf]; omega))
        · have hle' : ¬ (regN (l.take k) : Int) ≤ (x.n : Int) := by omega
          have hf := HT.out
          rw [if_neg hle] at hf
          have HF := Lib.hid hf
          clear hf HT hle
          go_wp2
          go_round
          case rel => exact ⟨k + 1, by omega, by go_num, by rw [HF.out], hgg.out⟩
          case measure => (first | (simp [intOf]; done) | (simp [intOf]; omega))
      · have hf := Lib.hid (HST.out hs)
        rw [hs] at c0
        clear hs HGG HST HT
        go_wp2
        go_ret
        exact ⟨by rw [hf.out]; rfl, rfl⟩
    · have hi : ¬ (k : Int) < (l.length : Int) := by omega
      obtain rfl : k = l.length := by omega
      have hf : Hid (regF l = regN l) := by
        show _ = _
        have h : stk l = false := by
          unfold stk
          rw [List.any_eq_false]
          intro x hx
          obtain ⟨j, hj, rfl⟩ := List.getElem_of_mem hx
          rw [hg j hj hj]; decide
        unfold regF
        rw [h]; rfl
      clear hg
      go_wp2
      go_ret
      exact ⟨by rw [hf.out]; rfl, rfl⟩
theorem placeFrom_any (A : Option Addr) (c : Nat) (l : List Pl) (w : World) (hr : Row w A (lcs l)) (hl : l.length ≤ 1000) (hn : ∀ x ∈ l, x.n ≤ 2000) :
    Calls Try.prog 58 #[.slice A l.length c] w fun e w' => e = .returned (.int .i64 (plcN l : Int)) ∧ w' = w := by
  go_enter Try.func58, Try.ntmps58
  go_wp2
  go_loop [3, 4] (fun r i => PfRel l r i) (fun _ i => l.length - (intOf i).toNat)
  case atStart => exact ⟨0, Nat.zero_le _, rfl, rfl⟩
  case round =>
    obtain ⟨k, hk, rfl, rfl⟩ := hrel
    by_cases hlt : k < l.length
    · obtain ⟨b, o, rfl, hbl, c0, c1⟩ := lcs_at hr hlt
      have hi : (k : Int) < (l.length : Int) := by omega
      have hk1 : (k : Int) < 1000 := by omega
      have HT := Lib.hid (plcN_take hlt)
      have hx := hn _ (List.getElem_mem hlt)
      generalize l[k] = x at *
      have hx' : (x.n : Int) ≤ 2000 := by omega
      rcases hs : x.s with _ | _
      · have hf := HT.out
        rw [hs] at hf c0
        simp only [Bool.false_and, Bool.false_eq_true, if_false] at hf
        have HF := Lib.hid hf
        clear hf HT hs
        go_wp2
        go_round
        case rel => exact ⟨k + 1, by omega, by go_num, by rw [HF.out]⟩
        case measure => (first | (simp [intOf]; done) | (simp [intOf]; omega))
      · by_cases hle : plcN (l.take k) ≤ x.n
        · have hle' : (plcN (l.take k) : Int) ≤ (x.n : Int) := by omega
          have hf := HT.out
          rw [hs] at hf c0
          simp only [Bool.true_and, decide_eq_true_eq, if_pos hle] at hf
          have HF := Lib.hid hf
          clear hf HT hle hs
          go_wp2
          go_round
          case rel => exact ⟨k + 1, by omega, by go_num, by rw [HF.out]; go_num⟩
          case measure => (first | (simp [intOf]; done) | (simp [intOf]; omega))
        · have hle' : ¬ (plcN (l.take k) : Int) ≤ (x.n : Int) := by omega
          have hf := HT.out
          rw [hs] at hf c0
          simp only [Bool.true_and, decide_eq_true_eq, if_neg hle] at hf
          have HF := Lib.hid hf
          clear hf HT hle hs
          go_wp2
          go_round
          case rel => exact ⟨k + 1, by omega, by go_num, by rw [HF.out]⟩
          case measure => (first | (simp [intOf]; done) | (simp [intOf]; omega))
    · have hi : ¬ (k : Int) < (l.length : Int) := by omega
      obtain rfl : k = l.length := by omega
      have hf : Hid (plcN (l.take l.length) = plcN l) := by show _ = _; rw [List.take_length]
      go_wp2
      go_ret
      exact ⟨by rw [← hf.out]; rfl, rfl⟩
/-- at a register behind all that are taken: it is free -/
theorem free_any (A : Option Addr) (c : Nat) (l : List Pl) (r : Nat) (w : World) (hr : Row w A (lcs l)) (hl : l.length ≤ 1000) (hs : ∀ x ∈ l, x.s = false ∧ x.n < r) (h4 : r < 4) :
    Calls Try.prog 75 #[.slice A l.length c, .int .i64 (r : Int)] w fun e w' => e = .returned (.bool true) ∧ w' = w := by
  have h4' : (r : Int) < 4 := by omega
  go_enter Try.func75, Try.ntmps75
  go_wp2
  go_loop [5] (fun i => ∃ k : Nat, k ≤ l.length ∧ i = .int .i64 k) (fun i => l.length - (intOf i).toNat)
  case atStart => exact ⟨0, Nat.zero_le _, rfl⟩
  case round =>
    obtain ⟨k, hk, rfl⟩ := hrel
    by_cases hlt : k < l.length
    · obtain ⟨b, o, rfl, hbl, c0, c1⟩ := lcs_at hr hlt
      have hi : (k : Int) < (l.length : Int) := by omega
      have hk1 : (k : Int) < 1000 := by omega
      obtain ⟨hx, hy⟩ := hs _ (List.getElem_mem hlt)
      rw [hx] at c0
      clear hx
      generalize l[k] = x at *
      have hne : ((x.n : Int) == (r : Int)) = false := by simp; omega
      go_wp2
      go_round
      case rel => exact ⟨k + 1, by omega, by go_num⟩
      case measure => (first | (simp [intOf]; done) | (simp [intOf]; omega))
    · have hi : ¬ (k : Int) < (l.length : Int) := by omega
      go_wp2
      go_ret
      exact ⟨rfl, rfl⟩
theorem ret_num {k : IntKind} {a b : Int} (h : a = b) : Ending.returned (.int k a) = .returned (.int k b) := by rw [h]
theorem up_any (n : Nat) (w : World) (hn : n ≤ 5000) : Calls Try.prog 59 #[.int .i64 (n : Int)] w fun e w' => e = .returned (.int .i64 ((n + n % 2 : Nat) : Int)) ∧ w = w' := by
  have h0 : (0 : Int) ≤ (n : Int) := by omega
  have h1 : (n : Int) ≤ 5000 := by omega
  go_enter Try.func59, Try.ntmps59
  go_wp2
  go_ret
  exact ⟨ret_num (by omega), rfl⟩
end Go.Proofs.Ytkkjkbljgaipcaa
