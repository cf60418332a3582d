/- The walks of ref13.Has, ref13.Leads. -/
import Derived.Test.YtkkjkbljgaipcaaLivE
namespace Go.Proofs.Ytkkjkbljgaipcaa
open Go.RowKit
set_option linter.unusedVariables false
set_option linter.unusedSimpArgs false
set_option maxRecDepth 100000
set_option maxHeartbeats 8000000
theorem hasR_any (A : Option Addr) (c : Nat) (l : List Int) (x : Int) (w : World) (hr : Row w A (l.map i64)) (hn : l.length ≤ maxLen) :
    Calls Try.prog 23 #[.slice A l.length c, .int .i64 x] w fun e w' => e = .returned (.bool (l.contains x)) ∧ w' = w := by
  unfold maxLen at hn
  obtain ⟨E, hE⟩ : ∃ E, l.contains x = E := ⟨_, rfl⟩
  rw [hE]
  have HE := Lib.hid hE
  clear hE
  go_enter Try.func23, Try.ntmps23
  go_wp2
  go_loop [5] (fun i => IdxIRel l x i) (fun i => l.length - (intOf i).toNat)
  case atStart => exact ⟨0, Nat.zero_le _, rfl, fun j _ h => absurd h (by omega)⟩
  case round =>
    obtain ⟨k, hk, rfl, hg⟩ := hrel
    by_cases hlt : k < l.length
    · obtain ⟨b, o, rfl, hbl, c0⟩ := hr.i64 hlt
      have hi0 : (0 : Int) ≤ (k : Int) := by omega
      have hi : (k : Int) < (l.length : Int) := by omega
      by_cases hx : l[k] = x
      · have hf : Hid (E = true) := by
          show _ = _
          rw [← HE.out, List.contains_iff_mem]
          exact hx ▸ List.getElem_mem hlt
        have e : (l[k] == x) = true := by simpa using hx
        clear hg hx
        generalize l[k] = y at *
        go_wp2
        go_ret
        exact ⟨by rw [hf.out]; rfl, rfl⟩
      · have hgg : Hid (∀ j (h : j < l.length), j < k + 1 → l[j] ≠ x) := fun j h hj => by
          rcases Nat.lt_or_ge j k with h1 | h1
          · exact hg j h h1
          · obtain rfl : j = k := by omega
            exact hx
        have e : (l[k] == x) = false := by simpa using hx
        clear hg hx
        generalize l[k] = y at *
        go_wp2
        go_round
        case rel => exact ⟨k + 1, by omega, by go_num, hgg.out⟩
        case measure => (first | (simp [intOf]; done) | (simp [intOf]; omega))
    · have hi : ¬ (k : Int) < (l.length : Int) := by omega
      have hf : Hid (E = false) := by
        show _ = _
        rw [← HE.out]
        rcases h : l.contains x with _ | _
        · rfl
        · rw [List.contains_iff_mem] at h
          obtain ⟨j, hj, hx⟩ := List.getElem_of_mem h
          exact absurd hx (hg j hj (by omega))
      clear hg
      go_wp2
      go_ret
      exact ⟨by rw [hf.out]; rfl, rfl⟩
/-- the document's word on where an order leads -/
def leadsR (o : Or) (i : Nat) : List Int := if o.op = 12 then [] else if o.op = 9 then [o.n] else if o.op = 10 ∧ o.n ≠ (i : Int) + 1 then [(i : Int) + 1, o.n] else [(i : Int) + 1]
theorem leadsR_mem (o : Or) (i : Nat) (x : Int) : x ∈ leadsR o i ↔ x ∈ leadsL o i := by
  unfold leadsR leadsL
  split
  · exact Iff.rfl
  · split
    · exact Iff.rfl
    · by_cases h10 : o.op = 10
      · rw [if_pos h10]
        by_cases hn : o.n = (i : Int) + 1
        · rw [if_neg (by simp [hn])]
          simp [hn]
        · rw [if_pos ⟨h10, hn⟩]
      · rw [if_neg h10, if_neg (by simp [h10])]
theorem leadsR_len (o : Or) (i : Nat) : (leadsR o i).length ≤ 2 := by
  unfold leadsR
  split
  · simp
  · split
    · simp
    · split <;> simp
theorem leadsR_any (b : Bo) (cs : List Value) (i : Nat) (w : World) (hr : RepB w b cs) (hi : i < b.code.length) (hlen : b.code.length ≤ 6000) :
    Calls Try.prog 47 #[.agg cs.toArray, .int .i64 (i : Int)] w (LdOut (leadsR b.code[i] i) w) := by
  obtain ⟨An, cn, Ap, cp, A, c, rfl, -, -, hO, -⟩ := hr.nine
  obtain ⟨bb, oo, Ad, cd, As, c', An', cn', Ap', cp', rfl, hbl, hrep, hcs⟩ := hO.ten hi
  have B0 : Below w.heap.size w (w.alloc (.cells #[.string b.nm, .bool b.static, .int .i64 b.ty.k, .string b.ty.nm, .slice An b.ty.ns.length cn, .slice Ap b.ty.ps.length cp, .bool b.ty.many, .int .i64 b.regs, .slice (some ⟨bb, oo, none⟩) b.code.length c] 28)) := by (repeat (first | with_reducible assumption | with_reducible exact Below.refl _ _ | (refine Below.setCell ?_ (by first | omega | (simp; done) | (simp; omega)) _) | (refine Below.drewN_ ?_ _) | (refine Below.drew ?_) | (refine Below.alloc ?_ (by first | omega | (simp; done) | (simp; omega)) _)))
  obtain ⟨c0, c1, c2, c3, c4, c5, c6, c7, c8, c9⟩ := hcs _ B0
  have hi0 : (0 : Int) ≤ (i : Int) := by omega
  have hi1 : (i : Int) < (b.code.length : Int) := by omega
  have hi6 : (i : Int) < 6000 := by omega
  have HL : Hid (leadsR b.code[i] i = if b.code[i].op = 12 then [] else if b.code[i].op = 9 then [b.code[i].n] else if b.code[i].op = 10 ∧ b.code[i].n ≠ (i : Int) + 1 then [(i : Int) + 1, b.code[i].n] else [(i : Int) + 1]) := rfl
  clear hrep hcs hO hr B0
  generalize leadsR b.code[i] i = ld at *
  generalize b.code[i] = o at *
  generalize o.op = x at *
  have n2 : ∀ (o1 o2 : Obj) (l : List Value), Blk (((w.alloc o1).alloc o2).alloc (.cells l.toArray 3)) (w.heap.size + 1 + 1) 3 l.toArray := fun o1 o2 l => by
    have := Blk.new_ ((w.alloc o1).alloc o2) 3 l.toArray
    simpa using this
  have N2 := Lib.hid n2
  clear n2
  by_cases h12 : x = 12
  · subst h12
    have hf : Hid (ld = []) := HL.out
    go_enter Try.func47, Try.ntmps47
    go_wp2
    go_ret
    exact ⟨none, 0, by rw [hf.out]; rfl, .inl hf.out, by (repeat (first | with_reducible assumption | with_reducible exact Below.refl _ _ | (refine Below.setCell ?_ (by first | omega | (simp; done) | (simp; omega)) _) | (refine Below.drewN_ ?_ _) | (refine Below.drew ?_) | (refine Below.alloc ?_ (by first | omega | (simp; done) | (simp; omega)) _)))⟩
  by_cases h9 : x = 9
  · subst h9
    have hf : Hid (ld = [o.n]) := HL.out
    go_enter Try.func47, Try.ntmps47
    go_wp2
    go_ret
    exact ⟨some ⟨w.heap.size + 1 + 1, 0, none⟩, 1, by rw [hf.out]; rfl, .inr ⟨_, rfl, by omega, by simp, by rw [hf.out]; exact N2.out _ _ [i64 o.n]⟩, by (repeat (first | with_reducible assumption | with_reducible exact Below.refl _ _ | (refine Below.setCell ?_ (by first | omega | (simp; done) | (simp; omega)) _) | (refine Below.drewN_ ?_ _) | (refine Below.drew ?_) | (refine Below.alloc ?_ (by first | omega | (simp; done) | (simp; omega)) _)))⟩
  by_cases h10 : x = 10
  · subst h10
    by_cases hn : o.n = (i : Int) + 1
    · have hf : Hid (ld = [(i : Int) + 1]) := by show _ = _; rw [HL.out]; simp [hn]
      have g : (o.n != (i : Int) + 1) = false := by simp [hn]
      clear hn
      go_enter Try.func47, Try.ntmps47
      go_wp2
      go_ret
      exact ⟨some ⟨w.heap.size + 1 + 1, 0, none⟩, 1, by rw [hf.out]; rfl, .inr ⟨_, rfl, by omega, by simp, by rw [hf.out]; exact N2.out _ _ [i64 ((i : Int) + 1)]⟩, by (repeat (first | with_reducible assumption | with_reducible exact Below.refl _ _ | (refine Below.setCell ?_ (by first | omega | (simp; done) | (simp; omega)) _) | (refine Below.drewN_ ?_ _) | (refine Below.drew ?_) | (refine Below.alloc ?_ (by first | omega | (simp; done) | (simp; omega)) _)))⟩
    · have hf : Hid (ld = [(i : Int) + 1, o.n]) := by show _ = _; rw [HL.out]; simp [hn]
      have g : (o.n != (i : Int) + 1) = true := by simp [hn]
      clear hn
      go_enter Try.func47, Try.ntmps47
      go_wp2
      go_ret
      exact ⟨some ⟨w.heap.size + 1 + 1, 0, none⟩, 2, by rw [hf.out]; rfl, .inr ⟨_, rfl, by omega, by simp, by rw [hf.out]; exact N2.out _ _ [i64 ((i : Int) + 1), i64 o.n]⟩, by (repeat (first | with_reducible assumption | with_reducible exact Below.refl _ _ | (refine Below.setCell ?_ (by first | omega | (simp; done) | (simp; omega)) _) | (refine Below.drewN_ ?_ _) | (refine Below.drew ?_) | (refine Below.alloc ?_ (by first | omega | (simp; done) | (simp; omega)) _)))⟩
  · have e12 : (x == 12) = false := by simpa using h12
    have e9 : (x == 9) = false := by simpa using h9
    have e10 : (x == 10) = false := by simpa using h10
    have hf : Hid (ld = [(i : Int) + 1]) := by show _ = _; rw [HL.out, if_neg h12, if_neg h9, if_neg (by simp [h10])]
    clear h12 h9 h10
    go_enter Try.func47, Try.ntmps47
    go_wp2
    go_ret
    exact ⟨some ⟨w.heap.size + 1 + 1, 0, none⟩, 1, by rw [hf.out]; rfl, .inr ⟨_, rfl, by omega, by simp, by rw [hf.out]; exact N2.out _ _ [i64 ((i : Int) + 1)]⟩, by (repeat (first | with_reducible assumption | with_reducible exact Below.refl _ _ | (refine Below.setCell ?_ (by first | omega | (simp; done) | (simp; omega)) _) | (refine Below.drewN_ ?_ _) | (refine Below.drew ?_) | (refine Below.alloc ?_ (by first | omega | (simp; done) | (simp; omega)) _)))⟩
end Go.Proofs.Ytkkjkbljgaipcaa
