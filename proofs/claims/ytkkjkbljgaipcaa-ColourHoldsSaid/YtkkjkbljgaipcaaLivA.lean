/- The walks of live.Leads, slices.Contains (at ints) and live.Sets' closure; rows of rows of one's own. -/
import Derived.Test.YtkkjkbljgaipcaaLivS
import Derived.Test.YtkkjkbljgaipcaaOrdW
import Derived.Maps.AppendAt
import Derived.Deep.LoopGhost
import Derived.Laws.OwnMore
namespace Go.Proofs.Ytkkjkbljgaipcaa
open Go.RowKit
set_option linter.unusedVariables false
set_option linter.unusedSimpArgs false
set_option maxRecDepth 100000
set_option maxHeartbeats 4000000
theorem wf_of {b : Bo} (h : bodyB b = true) : WfC b.code b.regs := by
  have hb := h
  rw [body_eq] at hb
  simp only [Bool.and_eq_true] at hb
  obtain ⟨⟨-, hall⟩, hlast⟩ := hb
  rw [List.all_eq_true] at hall
  have H : ∀ i (hi : i < b.code.length), orderB b.ty b.regs b.code.length b.code[i] = true := fun i hi => hall _ (List.getElem_mem hi)
  have HW : ∀ i (hi : i < b.code.length), withinB b.code[i].d b.regs = true ∧ withinB b.code[i].s b.regs = true := fun i hi => by
    have := H i hi
    unfold orderB at this
    simp only [Bool.and_eq_true] at this
    exact ⟨this.1.1.1.1.2, this.1.1.1.2⟩
  have HN : ∀ i (hi : i < b.code.length), numB (rowOf b.ty b.code.length b.code[i].op).1 b.code[i].n = true := fun i hi => by
    have := H i hi
    unfold orderB at this
    simp only [Bool.and_eq_true] at this
    exact this.1.1.2
  refine ⟨fun i hi x hx => ?_, fun i hi x hx => ?_, fun i hi x hx => ?_⟩
  · have hn := HN i hi
    have hl : b.code[i].op ≠ 9 → b.code[i].op ≠ 12 → i + 1 < b.code.length := fun h9 h12 => by
      rcases Nat.lt_or_ge (i + 1) b.code.length with h | h
      · exact h
      · exfalso
        have e : b.code.getLast? = some b.code[i] := by
          rw [List.getLast?_eq_getElem?, List.getElem?_eq_getElem (by omega)]
          congr 1
          congr 1
          omega
        rw [e] at hlast
        simp [h9, h12] at hlast
    generalize b.code[i] = o at *
    unfold leadsL at hx
    by_cases h12 : o.op = 12
    · rw [if_pos h12] at hx; cases hx
    · rw [if_neg h12] at hx
      by_cases h9 : o.op = 9
      · rw [if_pos h9, List.mem_singleton] at hx
        subst hx
        rw [h9] at hn
        simp [rowOf, numB] at hn
        omega
      · have hl := hl h9 h12
        rw [if_neg h9] at hx
        by_cases h10 : o.op = 10
        · rw [if_pos h10] at hx
          rw [h10] at hn
          simp [rowOf, numB] at hn
          simp at hx
          omega
        · rw [if_neg h10, List.mem_singleton] at hx
          omega
  · obtain ⟨j, hj, rfl⟩ := List.getElem_of_mem hx
    exact within_all (HW i hi).2 j hj
  · obtain ⟨j, hj, rfl⟩ := List.getElem_of_mem hx
    exact within_all (HW i hi).1 j hj
/-! leads -/
/-- a row of numbers at the head of a block that lies behind B -/
def NewRow (w : World) (B : Nat) (A : Option Addr) (l : List Int) : Prop := l = [] ∨ ∃ g, A = some ⟨g, 0, none⟩ ∧ B ≤ g ∧ g < w.heap.size ∧ Blk w g 3 (l.map i64).toArray
theorem NewRow.row {w : World} {B : Nat} {A : Option Addr} {l : List Int} (h : NewRow w B A l) : Row w A (l.map i64) := by
  rcases h with rfl | ⟨g, rfl, -, h1, h2⟩
  · exact .inl rfl
  · exact .inr ⟨g, 0, rfl, h1, fun j v hv => by rw [Nat.zero_add]; exact h2.cell j v (by simpa using hv)⟩
def LdOut (l : List Int) (w : World) (e : Ending) (w' : World) : Prop := ∃ A c, e = .returned (.slice A l.length c) ∧ NewRow w' w.heap.size A l ∧ Below w.heap.size w w'
theorem leads_any (A : Option Addr) (c : Nat) (code : List Or) (i : Nat) (w : World) (hO : RepOL w A code) (hi : i < code.length) (hlen : code.length ≤ 6000) :
    Calls Try.prog 37 #[.slice A code.length c, .int .i64 (i : Int)] w (LdOut (leadsL code[i] i) w) := by
  obtain ⟨bb, oo, Ad, cd, As, c', An', cn', Ap', cp', rfl, hbl, hrep, hcs⟩ := hO.ten hi
  obtain ⟨c0, c1, c2, c3, c4, c5, c6, c7, c8, c9⟩ := hcs w (Below.refl _ _)
  have hi0 : (0 : Int) ≤ (i : Int) := by omega
  have hi1 : (i : Int) < (code.length : Int) := by omega
  have hi6 : (i : Int) < 6000 := by omega
  have HL : Hid (leadsL code[i] i = if code[i].op = 12 then [] else if code[i].op = 9 then [code[i].n] else if code[i].op = 10 then [(i : Int) + 1, code[i].n] else [(i : Int) + 1]) := rfl
  clear hrep hcs hO
  generalize leadsL code[i] i = ld at *
  generalize code[i] = o at *
  generalize o.op = x at *
  by_cases h12 : x = 12
  · subst h12
    have hf : Hid (ld = []) := HL.out
    go_enter Try.func37, Try.ntmps37
    go_wp2
    go_ret
    exact ⟨none, 0, by rw [hf.out]; rfl, .inl hf.out, by (repeat (first | with_reducible assumption | with_reducible exact Below.refl _ _ | (refine Below.setCell ?_ (by first | omega | (simp; done) | (simp; omega)) _) | (refine Below.drewN_ ?_ _) | (refine Below.drew ?_) | (refine Below.alloc ?_ (by first | omega | (simp; done) | (simp; omega)) _)))⟩
  by_cases h9 : x = 9
  · subst h9
    have hf : Hid (ld = [o.n]) := HL.out
    go_enter Try.func37, Try.ntmps37
    go_wp2
    go_ret
    refine ⟨some ⟨w.heap.size + 1, 0, none⟩, 1, by rw [hf.out]; rfl, .inr ⟨_, rfl, by simp, by simp, by rw [hf.out]; exact Blk.nxt1 _ _ _ _⟩, by (repeat (first | with_reducible assumption | with_reducible exact Below.refl _ _ | (refine Below.setCell ?_ (by first | omega | (simp; done) | (simp; omega)) _) | (refine Below.drewN_ ?_ _) | (refine Below.drew ?_) | (refine Below.alloc ?_ (by first | omega | (simp; done) | (simp; omega)) _)))⟩
  by_cases h10 : x = 10
  · subst h10
    have hf : Hid (ld = [(i : Int) + 1, o.n]) := HL.out
    go_enter Try.func37, Try.ntmps37
    go_wp2
    go_ret
    refine ⟨some ⟨w.heap.size + 1, 0, none⟩, 2, by rw [hf.out]; rfl, .inr ⟨_, rfl, by simp, by simp, by rw [hf.out]; exact Blk.nxt1 _ _ _ _⟩, by (repeat (first | with_reducible assumption | with_reducible exact Below.refl _ _ | (refine Below.setCell ?_ (by first | omega | (simp; done) | (simp; omega)) _) | (refine Below.drewN_ ?_ _) | (refine Below.drew ?_) | (refine Below.alloc ?_ (by first | omega | (simp; done) | (simp; omega)) _)))⟩
  · have e12 : (x == 12) = false := by simpa using h12
    have e9 : (x == 9) = false := by simpa using h9
    have e10 : (x == 10) = false := by simpa using h10
    have hf : Hid (ld = [(i : Int) + 1]) := by show _ = _; rw [HL.out, if_neg h12, if_neg h9, if_neg h10]
    clear h12 h9 h10
    go_enter Try.func37, Try.ntmps37
    go_wp2
    go_ret
    refine ⟨some ⟨w.heap.size + 1, 0, none⟩, 1, by rw [hf.out]; rfl, .inr ⟨_, rfl, by simp, by simp, by rw [hf.out]; exact Blk.nxt1 _ _ _ _⟩, by (repeat (first | with_reducible assumption | with_reducible exact Below.refl _ _ | (refine Below.setCell ?_ (by first | omega | (simp; done) | (simp; omega)) _) | (refine Below.drewN_ ?_ _) | (refine Below.drew ?_) | (refine Below.alloc ?_ (by first | omega | (simp; done) | (simp; omega)) _)))⟩
/-! slices.Contains at ints -/
def IdxIOut (l : List Int) (x : Int) (w : World) (e : Ending) (w' : World) : Prop := ∃ n : Int, e = .returned (.int .i64 n) ∧ decide (0 ≤ n) = l.contains x ∧ w = w'
def IdxIRel (l : List Int) (x : Int) (i : Value) : Prop := ∃ k : Nat, k ≤ l.length ∧ i = .int .i64 k ∧ ∀ j (h : j < l.length), j < k → l[j] ≠ x
theorem idxI_any (A : Option Addr) (c : Nat) (l : List Int) (x : Int) (w : World) (hr : Row w A (l.map i64)) (hn : l.length ≤ maxLen) :
    Calls Try.prog 69 #[.slice A l.length c, .int .i64 x] w (IdxIOut l x w) := by
  unfold maxLen at hn
  go_enter Try.func69, Try.ntmps69
  go_wp2
  go_loop [8] (fun i => IdxIRel l x i) (fun i => l.length - (intOf i).toNat)
  case atStart => exact ⟨0, Nat.zero_le _, rfl, fun j _ h => absurd h (by omega)⟩
  case round =>
    obtain ⟨k, hk, rfl, hg⟩ := hrel
    by_cases hlt : k < l.length
    · obtain ⟨b, o, rfl, hbl, c0⟩ := hr.i64 hlt
      have hi0 : (0 : Int) ≤ (k : Int) := by omega
      have hi : (k : Int) < (l.length : Int) := by omega
      by_cases hx : l[k] = x
      · have hf : Hid (l.contains x = true) := by
          show _ = _
          rw [List.contains_iff_mem]
          exact hx ▸ List.getElem_mem hlt
        rw [hx] at c0
        clear hg hx
        have e : (x == x) = true := by simp
        go_wp2
        go_ret
        exact ⟨_, rfl, by rw [hf.out]; simp, rfl⟩
      · have hgg : Hid (∀ j (h : j < l.length), j < k + 1 → l[j] ≠ x) := fun j h hj => by
          rcases Nat.lt_or_ge j k with h1 | h1
          · exact hg j h h1
          · obtain rfl : j = k := by omega
            exact hx
        have e : (x == l[k]) = false := by simpa using Ne.symm hx
        clear hg hx
        generalize l[k] = y at *
        go_wp2
        go_round
        case rel => exact ⟨k + 1, by omega, by go_num, hgg.out⟩
        case measure => (first | (simp [intOf]; done) | (simp [intOf]; omega))
    · have hi : ¬ (k : Int) < (l.length : Int) := by omega
      have hf : Hid (l.contains x = false) := by
        show _ = _
        rcases h : l.contains x with _ | _
        · rfl
        · rw [List.contains_iff_mem] at h
          obtain ⟨j, hj, hx⟩ := List.getElem_of_mem h
          exact absurd hx (hg j hj (by omega))
      clear hg
      go_wp2
      go_ret
      exact ⟨_, rfl, by rw [hf.out]; rfl, rfl⟩
theorem containsI_any (A : Option Addr) (c : Nat) (l : List Int) (x : Int) (w : World) (hr : Row w A (l.map i64)) (hn : l.length ≤ maxLen) :
    Calls Try.prog 38 #[.slice A l.length c, .int .i64 x] w fun e w' => e = .returned (.bool (l.contains x)) ∧ w' = w := by
  have HC := Lib.hid (idxI_any A c l x w hr hn)
  clear hr hn
  go_enter Try.func38, Try.ntmps38
  go_wp2_with fail
  ((with_reducible refine (HC.out).mono ?_); rintro e w2 ⟨n, rfl, hd, rfl⟩)
  have HD := Lib.hid hd
  clear hd
  go_wp2
  go_ret
  exact ⟨by rw [← HD.out]; rfl, rfl⟩
end Go.Proofs.Ytkkjkbljgaipcaa
