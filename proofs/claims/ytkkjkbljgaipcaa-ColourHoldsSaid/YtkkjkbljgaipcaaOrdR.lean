/- An argument that is a body, opened. -/
import Derived.Test.YtkkjkbljgaipcaaOpenT
import Derived.Test.YtkkjkbljgaipcaaOrdA
namespace Go.Proofs.Ytkkjkbljgaipcaa
open Go.ChangeShapes Go.WideShapes Go.ChangeAt Go.RowKit
set_option linter.unusedVariables false
set_option linter.unusedSimpArgs false
set_option maxRecDepth 100000
instance : Inhabited Or := ⟨⟨0, [], [], 0, ByteArray.empty, default⟩⟩
theorem flat_i64 (l : List Int) : l.flatMap (fun n => [Value.int .i64 n]) = l.map i64 := by
  induction l with
  | nil => rfl
  | cons a l ih => rw [List.flatMap_cons, ih]; rfl
theorem read_ints {H : Type} {enc : TypeId × Value → H} {w : World} (n : Nat) (cs : List Value) (y : DataW H × List MemPlace) (h : DataW.trod enc Try.prog w 0 (fun _ => true) true n 35 cs = some y) :
    ∃ (A : Option Addr) (l : List Int) (c : Nat), cs = [.slice A l.length c] ∧ Row w A (l.map i64) ∧ l.length ≤ maxLen ∧ l.length ≤ c := by
  have c3 : Try.prog.cellsOf 3 = 1 := by kernel_rfl
  obtain ⟨A, l, c, h1, h2, h3, h4⟩ := trod_row (fun n : Int => [Value.int .i64 n]) (s := 1) (fun _ => rfl) Try.underlying35 c3 (by decide) (fun n' cs' y' h' => by
    obtain ⟨s, hs, -⟩ := DataW.trod_int Try.underlying3 h'
    exact ⟨s, hs⟩) h
  exact ⟨A, l, c, h1, by rw [← flat_i64]; exact h2, h3, h4⟩
theorem read_order {H : Type} {enc : TypeId × Value → H} {w : World} (n : Nat) (cs : List Value) (y : DataW H × List MemPlace) (h : DataW.trod enc Try.prog w 0 (fun _ => true) true n 60 cs = some y) : ∃ o : Or, RepO w o cs := by
  obtain ⟨xs, m, rfl, -, hl, hlen, hf⟩ := DataW.trod_struct Try.underlying60 h
  have hl5 : cs.length = 10 := hl
  match cs, hl5 with
  | [v0, v1, v2, v3, v4, v5, v6, v7, v8, v9], _ =>
    have c3 : Try.prog.cellsOf 3 = 1 := by kernel_rfl
    have c9 : Try.prog.cellsOf 9 = 1 := by kernel_rfl
    have cs2 : Try.prog.cellsOf 35 = 1 := by kernel_rfl
    have ct : Try.prog.cellsOf 25 = 5 := by kernel_rfl
    have hx5 : xs.length = 6 := hlen
    match xs, hx5 with
    | [x0, x1, x2, x3, x4, x5], _ =>
      have f0 := hf 0 _ rfl
      have f1 := hf 1 _ rfl
      have f2 := hf 2 _ rfl
      have f3 := hf 3 _ rfl
      have f4 := hf 4 _ rfl
      have f5 := hf 5 _ rfl
      simp [c3, c9, cs2, ct] at f0 f1 f2 f3 f4 f5
      obtain ⟨k, hk, -, -⟩ := DataW.trod_int Try.underlying3 f0
      obtain ⟨Ad, d, cd, hd, hrd, hdl, hdc⟩ := read_ints _ _ _ f1
      obtain ⟨As, s, cs', hs, hrs, hsl, hsc⟩ := read_ints _ _ _ f2
      obtain ⟨n', hn, -, -⟩ := DataW.trod_int Try.underlying3 f3
      obtain ⟨nm, hnm, -, hnl⟩ := DataW.trod_string Try.underlying9 f4
      obtain ⟨T, hT, hTp, hTn, -⟩ := read_type _ _ _ f5
      simp at hk hd hs hn hnm
      subst hk hd hs hn hnm
      exact ⟨⟨k, d, s, n', nm, T⟩, Ad, cd, As, cs', _, rfl, hrd, hrs, hT, hdl, hsl, hdc, hsc, hTn, hTp⟩
theorem read_orders {H : Type} {enc : TypeId × Value → H} {w : World} (n : Nat) (cs : List Value) (y : DataW H × List MemPlace) (h : DataW.trod enc Try.prog w 0 (fun _ => true) true n 26 cs = some y) :
    ∃ (A : Option Addr) (l : List Or) (c : Nat), cs = [.slice A l.length c] ∧ RepOL w A l ∧ l.length ≤ maxLen := by
  have ct : Try.prog.cellsOf 60 = 10 := by kernel_rfl
  rcases slice_read Try.underlying26 h with rfl | ⟨a', len', cap', n', -, rfl, hle, hcap, hx⟩
  · exact ⟨none, [], 0, rfl, fun i hi => by simp at hi, Nat.zero_le _⟩
  · rw [ct] at hx
    obtain ⟨X, hX⟩ := Go.Deep.choose_lt (α := Or) (n := len') (p := fun i o => ∃ cs', w.cells? 0 (a'.add (i * 10)) 10 = some cs' ∧ RepO w o cs') (fun i hi => by
      obtain ⟨cs', y', h1, h2⟩ := hx i hi
      obtain ⟨o, ho⟩ := read_order n' cs' y' h2
      exact ⟨o, cs', h1, ho⟩)
    refine ⟨some a', (List.range len').map X, cap', by simp, fun i hi => ?_, by simp; omega⟩
    have hi' : i < len' := by simpa using hi
    obtain ⟨cs', h1, h2⟩ := hX i hi'
    obtain ⟨_, hl1, hat1⟩ := World.cells?_some h1
    have hc0 := hat1 0 (by omega)
    rw [List.getElem?_eq_getElem (by omega)] at hc0
    obtain ⟨b, o, sp⟩ := a'
    have hsp : sp = none := by
      have h0 := World.cell?_spot hc0
      unfold Addr.add at h0
      simp only [if_true] at h0
      split at h0
      · exact h0
      · rename_i hz; obtain ⟨cs0, g1, -⟩ := hX 0 (by omega); obtain ⟨_, gl, gat⟩ := World.cells?_some g1; have g0 := gat 0 (by omega); rw [List.getElem?_eq_getElem (by omega)] at g0; simpa [Addr.add] using World.cell?_spot g0
    subst hsp
    refine ⟨b, o, cs', rfl, by have h0 := World.block_lt_of_cell? w _ hc0; rw [add_plain, add_plain] at h0; exact h0, fun j v hj => ?_, by simpa using h2⟩
    have hj5 : j < 10 := by rw [← hl1]; exact (List.getElem?_eq_some_iff.1 hj).1
    have := hat1 j hj5
    rw [add_plain, add_plain] at this
    rw [this, hj]
theorem read_body {H : Type} {enc : TypeId × Value → H} {w : World} (n : Nat) (cs : List Value) (y : DataW H × List MemPlace) (h : DataW.trod enc Try.prog w 0 (fun _ => true) true n 28 cs = some y) : ∃ b : Bo, RepB w b cs := by
  obtain ⟨xs, m, rfl, -, hl, hlen, hf⟩ := DataW.trod_struct Try.underlying28 h
  have hl5 : cs.length = 9 := hl
  match cs, hl5 with
  | [v0, v1, v2, v3, v4, v5, v6, v7, v8], _ =>
    have c3 : Try.prog.cellsOf 3 = 1 := by kernel_rfl
    have c4 : Try.prog.cellsOf 4 = 1 := by kernel_rfl
    have c9 : Try.prog.cellsOf 9 = 1 := by kernel_rfl
    have cs2 : Try.prog.cellsOf 26 = 1 := by kernel_rfl
    have ct : Try.prog.cellsOf 25 = 5 := by kernel_rfl
    have hx5 : xs.length = 5 := hlen
    match xs, hx5 with
    | [x0, x1, x2, x3, x4], _ =>
      have f0 := hf 0 _ rfl
      have f1 := hf 1 _ rfl
      have f2 := hf 2 _ rfl
      have f3 := hf 3 _ rfl
      have f4 := hf 4 _ rfl
      simp [c3, c4, c9, cs2, ct] at f0 f1 f2 f3 f4
      obtain ⟨nm, hnm, -, hnl⟩ := DataW.trod_string Try.underlying9 f0
      obtain ⟨st, hst, -⟩ := DataW.trod_bool Try.underlying4 f1
      obtain ⟨T, hT, -⟩ := read_type _ _ _ f2
      obtain ⟨rg, hrg, -, -⟩ := DataW.trod_int Try.underlying3 f3
      obtain ⟨A, l, c, hA, hOL, hll⟩ := read_orders _ _ _ f4
      simp at hnm hst hrg hA
      subst hnm hst hrg hA
      exact ⟨⟨nm, st, T, rg, l⟩, _, A, c, rfl, hT, hOL, hll⟩
end Go.Proofs.Ytkkjkbljgaipcaa
