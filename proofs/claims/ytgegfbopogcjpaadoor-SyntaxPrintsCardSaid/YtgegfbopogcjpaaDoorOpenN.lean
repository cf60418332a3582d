/- An argument that is a node, opened: it lies in memory as a tree. -/
import Derived.Test.YtgegfbopogcjpaaDoorOpen
import Derived.Test.YtgegfbopogcjpaaDoorSynA
namespace Go.Proofs.YtgegfbopogcjpaaDoor
open Go.ChangeShapes Go.WideShapes Go.ChangeAt Go.RowKit
set_option linter.unusedVariables false
set_option linter.unusedSimpArgs false
set_option maxRecDepth 100000
section
variable {H : Type} {enc : TypeId × Value → H} {P : Program} {w : World}
theorem slice_readN {t e : TypeId} {fuel : Nat} {cs : List Value} {x : DataW H × List MemPlace} (ht : P.underlying t = some (.slice e)) (h : DataW.trod enc P w 0 (fun _ => true) true fuel t cs = some x) :
    cs = [.slice none 0 0] ∨ ∃ (a : Addr) (len cap n : Nat), fuel = n + 1 ∧ cs = [.slice (some a) len cap] ∧ len ≤ cap ∧ cap ≤ maxLen ∧
      ∀ i, i < len → ∃ cs' y, w.cells? 0 (a.add (i * P.cellsOf e)) (P.cellsOf e) = some cs' ∧ DataW.trod enc P w 0 (fun _ => true) true n e cs' = some y := by
  rcases DataW.trod_slice ht h with ⟨h0, -⟩ | ⟨a, len, cap, elems, rest, n, hf, rfl, -, -, hl, hm, hlen, hel, -, -⟩
  · exact .inl h0
  · refine .inr ⟨a, len, cap, n, hf, rfl, hl, hm, fun i hi => ?_⟩
    have := hel i hi
    rw [List.getElem?_eq_getElem (by omega), Option.bind_eq_some_iff] at this
    obtain ⟨cs', h1, h2⟩ := this
    exact ⟨cs', _, h1, h2⟩
end
theorem repNL_of {w : World} {b : Nat} (hb : b < w.heap.size) : ∀ (ts : List Nd) (o : Nat), (∀ i (h : i < ts.length), ∃ cs, (∀ j v, cs[j]? = some v → w.cell? ⟨b, o + i * 4 + j, none⟩ = some v) ∧ RepN w ts[i] cs) → RepNL w ts (some ⟨b, o, none⟩)
  | [], _, _ => by unfold RepNL; trivial
  | t :: ts, o, h => by
    unfold RepNL
    obtain ⟨cs, h1, h2⟩ := h 0 (by simp)
    refine ⟨b, o, cs, rfl, hb, by simpa using h1, h2, repNL_of hb ts (o + 4) fun i hi => ?_⟩
    obtain ⟨cs', h3, h4⟩ := h (i + 1) (by simpa using hi)
    refine ⟨cs', fun j v hj => ?_, by simpa using h4⟩
    rw [show o + 4 + i * 4 + j = o + (i + 1) * 4 + j by omega]
    exact h3 j v hj
theorem i64_wf {n : Int} (h : (Lit.int .i64 n).wf = true) : I64 n := by
  have a1 : IntKind.i64.min = -9223372036854775808 := rfl
  have a2 : IntKind.i64.max = 9223372036854775807 := rfl
  simp only [Lit.wf, Bool.and_eq_true, decide_eq_true_eq] at h
  unfold I64
  omega
theorem read_node {H : Type} {enc : TypeId × Value → H} {w : World} : ∀ (n : Nat) (cs : List Value) (y : DataW H × List MemPlace), DataW.trod enc Tryd.prog w 0 (fun _ => true) true n 24 cs = some y → ∃ T : Nd, RepN w T cs := by
  intro n
  induction n using Nat.strongRecOn with
  | ind n IH =>
    intro cs y h
    obtain ⟨xs, m, rfl, -, hl, hlen, hf⟩ := DataW.trod_struct Tryd.underlying24 h
    have hl5 : cs.length = 4 := hl
    match cs, hl5 with
    | [v0, v1, v2, v3], _ =>
      have c3 : Tryd.prog.cellsOf 3 = 1 := by kernel_rfl
      have c2 : Tryd.prog.cellsOf 2 = 1 := by kernel_rfl
      have c9 : Tryd.prog.cellsOf 9 = 1 := by kernel_rfl
      have cs2 : Tryd.prog.cellsOf 22 = 1 := by kernel_rfl
      have ct : Tryd.prog.cellsOf 24 = 4 := by kernel_rfl
      have hx5 : xs.length = 4 := hlen
      match xs, hx5 with
      | [x0, x1, x2, x3], _ =>
        have f0 := hf 0 _ rfl
        have f1 := hf 1 _ rfl
        have f2 := hf 2 _ rfl
        have f3 := hf 3 _ rfl
        simp [c3, c2, c9, cs2] at f0 f1 f2 f3
        obtain ⟨k, hk, -, -⟩ := DataW.trod_int Tryd.underlying3 f0
        obtain ⟨nm, hnm, -, hnl⟩ := DataW.trod_string Tryd.underlying9 f1
        obtain ⟨num, hnum, -, hnw⟩ := DataW.trod_int Tryd.underlying2 f2
        have hwn := i64_wf hnw
        simp at hk hnm hnum
        rcases slice_readN Tryd.underlying22 f3 with h3 | ⟨a, len, cap, n', rfl, h3, hle, hcap, hx⟩
        · simp at h3
          subst hk hnm hnum h3
          exact ⟨.mk k nm num [], RepN.of (n := .mk k nm num []) (by show RepNL w [] none; unfold RepNL; trivial) (Nat.zero_le _) (Nat.zero_le _) hwn hnl⟩
        · simp at h3
          subst hk hnm hnum h3
          rw [ct] at hx
          obtain ⟨X, hX⟩ := Go.Deep.choose_lt (α := Nd) (n := len) (p := fun i T => ∃ cs', w.cells? 0 (a.add (i * 4)) 4 = some cs' ∧ RepN w T cs') (fun i hi => by
            obtain ⟨cs', y', h1, h2⟩ := hx i hi
            obtain ⟨T, hT⟩ := IH n' (by omega) cs' y' h2
            exact ⟨T, cs', h1, hT⟩)
          have hlenX : ((List.range len).map X).length = len := by simp
          have hR : RepNL w ((List.range len).map X) (some a) := by
            rcases Nat.eq_zero_or_pos len with hz | hz
            · subst hz
              show RepNL w [] (some a)
              unfold RepNL
              trivial
            · obtain ⟨cs0, h0, hr0⟩ := hX 0 hz
              obtain ⟨_, hl0, hat⟩ := World.cells?_some h0
              have hc0 := hat 0 (by omega)
              rw [List.getElem?_eq_getElem (by omega)] at hc0
              obtain ⟨b, o, sp⟩ := a
              have hsp : sp = none := by simpa [Addr.add] using World.cell?_spot hc0
              subst hsp
              refine repNL_of (by have := World.block_lt_of_cell? w _ hc0; simpa [add_plain] using this) _ _ fun i hi => ?_
              obtain ⟨cs', h1, h2⟩ := hX i (by simpa using hi)
              obtain ⟨_, hl1, hat1⟩ := World.cells?_some h1
              refine ⟨cs', fun j v hj => ?_, by simpa using h2⟩
              have hj5 : j < 4 := by rw [← hl1]; exact (List.getElem?_eq_some_iff.1 hj).1
              have := hat1 j hj5
              rw [add_plain, add_plain] at this
              rw [this, hj]
          have := RepN.of (n := .mk k nm num ((List.range len).map X)) (c := cap) hR (by show ((List.range len).map X).length ≤ cap; rw [hlenX]; exact hle) (by show ((List.range len).map X).length ≤ maxLen; rw [hlenX]; omega) hwn hnl
          simp only [Nd.kids, hlenX, Nd.k, Nd.t, Nd.num] at this
          exact ⟨_, this⟩
end Go.Proofs.YtgegfbopogcjpaaDoor
