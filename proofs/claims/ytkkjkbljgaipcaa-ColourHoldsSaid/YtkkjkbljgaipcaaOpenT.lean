/- An argument that is a type, opened: it lies in memory as a tree. -/
import Derived.Test.YtkkjkbljgaipcaaOpen
import Derived.Test.YtkkjkbljgaipcaaTypB
namespace Go.Proofs.Ytkkjkbljgaipcaa
open Go.ChangeShapes Go.WideShapes Go.ChangeAt Go.RowKit
set_option linter.unusedVariables false
set_option linter.unusedSimpArgs false
set_option maxRecDepth 100000
section
variable {H : Type} {enc : TypeId × Value → H} {P : Program} {w : World}
theorem slice_read {t e : TypeId} {fuel : Nat} {cs : List Value} {x : DataW H × List MemPlace} (ht : P.underlying t = some (.slice e)) (h : DataW.trod enc P w 0 (fun _ => true) true fuel t cs = some x) :
    cs = [.slice none 0 0] ∨ ∃ (a : Addr) (len cap n : Nat), fuel = n + 1 ∧ cs = [.slice (some a) len cap] ∧ len ≤ cap ∧ cap ≤ maxLen ∧
      ∀ i, i < len → ∃ cs' y, w.cells? 0 (a.add (i * P.cellsOf e)) (P.cellsOf e) = some cs' ∧ DataW.trod enc P w 0 (fun _ => true) true n e cs' = some y := by
  rcases DataW.trod_slice ht h with ⟨h0, -⟩ | ⟨a, len, cap, elems, rest, n, hf, rfl, -, -, hl, hm, hlen, hel, -, -⟩
  · exact .inl h0
  · refine .inr ⟨a, len, cap, n, hf, rfl, hl, hm, fun i hi => ?_⟩
    have := hel i hi
    rw [List.getElem?_eq_getElem (by omega), Option.bind_eq_some_iff] at this
    obtain ⟨cs', h1, h2⟩ := this
    exact ⟨cs', _, h1, h2⟩
/-- a row of things, each of s cells, opened -/
theorem trod_row {α : Type} [Inhabited α] (f : α → List Value) {s : Nat} (hs : ∀ x, (f x).length = s) {t e : TypeId} {fuel : Nat} {cs : List Value} {x : DataW H × List MemPlace}
    (ht : P.underlying t = some (.slice e)) (hc : P.cellsOf e = s) (hpos : 0 < s)
    (hread : ∀ n cs' y, DataW.trod enc P w 0 (fun _ => true) true n e cs' = some y → ∃ x, cs' = f x)
    (h : DataW.trod enc P w 0 (fun _ => true) true fuel t cs = some x) :
    ∃ (A : Option Addr) (l : List α) (c : Nat), cs = [.slice A l.length c] ∧ Row w A (l.flatMap f) ∧ l.length ≤ maxLen ∧ l.length ≤ c := by
  rcases slice_read ht h with rfl | ⟨a', len, cap, n, -, rfl, hl, hm, hx⟩
  · exact ⟨none, [], 0, rfl, .inl rfl, Nat.zero_le _, Nat.zero_le _⟩
  · obtain ⟨X, hX⟩ := Go.Deep.choose_lt (α := α) (n := len) (p := fun i x => ∀ j v, (f x)[j]? = some v → w.cell? (a'.add (i * s + j)) = some v) (fun i hi => by
      obtain ⟨cs', y, h1, h2⟩ := hx i hi
      obtain ⟨x, rfl⟩ := hread _ _ _ h2
      rw [hc] at h1
      obtain ⟨_, hlen, hat⟩ := World.cells?_some h1
      refine ⟨x, fun j v hj => ?_⟩
      have hjl : j < s := by rw [← hs x]; exact (List.getElem?_eq_some_iff.1 hj).1
      rw [← Go.Deep.add_add, hat j hjl, hj])
    refine ⟨some a', (List.range len).map X, cap, by simp, ?_, by simp; omega, by simp; omega⟩
    rcases Nat.eq_zero_or_pos len with hz | hz
    · subst hz
      exact .inl rfl
    · have hall : ∀ k v, (((List.range len).map X).flatMap f)[k]? = some v → w.cell? (a'.add k) = some v := fun k v hk => by
        have hkm : k / s * s + k % s = k := by rw [Nat.mul_comm]; exact Nat.div_add_mod k s
        rw [← hkm] at hk ⊢
        rw [flat_at f s hs _ _ _ (Nat.mod_lt _ hpos)] at hk
        rw [List.getElem?_map] at hk
        by_cases hi : k / s < len
        · rw [List.getElem?_range hi] at hk
          exact hX _ hi _ _ (by simpa using hk)
        · rw [List.getElem?_eq_none (by simpa using hi)] at hk
          simp at hk
      obtain ⟨v0, hv0⟩ : ∃ v0, (((List.range len).map X).flatMap f)[0]? = some v0 := by
        have h0 := flat_at f s hs ((List.range len).map X) 0 0 hpos
        rw [List.getElem?_map, List.getElem?_range hz] at h0
        simp at h0
        have hl0 : (f (X 0)) ≠ [] := fun h => by have := hs (X 0); rw [h] at this; simp at this; omega
        obtain ⟨y, ys, e⟩ := List.exists_cons_of_ne_nil hl0
        refine ⟨y, ?_⟩
        have := h0
        rw [e] at this
        simpa using this
      have hc0 := hall 0 v0 hv0
      obtain ⟨b, o, sp⟩ := a'
      have hsp : sp = none := by simpa [Addr.add] using World.cell?_spot hc0
      subst hsp
      refine .inr ⟨b, o, rfl, World.block_lt_of_cell? w _ hc0, fun j v hj => ?_⟩
      have := hall j v hj
      rwa [add_plain] at this
end
theorem flat_one (l : List ByteArray) : l.flatMap (fun s => [Value.string s]) = l.map .string := by
  induction l with
  | nil => rfl
  | cons a l ih => rw [List.flatMap_cons, ih]; rfl
theorem repL_of {w : World} {b : Nat} (hb : b < w.heap.size) : ∀ (ts : List Ty) (o : Nat), (∀ i (h : i < ts.length), ∃ cs, (∀ j v, cs[j]? = some v → w.cell? ⟨b, o + i * 5 + j, none⟩ = some v) ∧ Rep w ts[i] cs) → RepL w ts (some ⟨b, o, none⟩)
  | [], _, _ => by unfold RepL; trivial
  | t :: ts, o, h => by
    unfold RepL
    obtain ⟨cs, h1, h2⟩ := h 0 (by simp)
    refine ⟨b, o, cs, rfl, hb, by simpa using h1, h2, repL_of hb ts (o + 5) fun i hi => ?_⟩
    obtain ⟨cs', h3, h4⟩ := h (i + 1) (by simpa using hi)
    refine ⟨cs', fun j v hj => ?_, by simpa using h4⟩
    rw [show o + 5 + i * 5 + j = o + (i + 1) * 5 + j by omega]
    exact h3 j v hj
instance : Inhabited Ty := ⟨.mk 0 ByteArray.empty [] [] false⟩
instance : Inhabited ByteArray := ⟨ByteArray.empty⟩
theorem read_type {H : Type} {enc : TypeId × Value → H} {w : World} : ∀ (n : Nat) (cs : List Value) (y : DataW H × List MemPlace), DataW.trod enc Try.prog w 0 (fun _ => true) true n 25 cs = some y → ∃ T : Ty, Rep w T cs ∧ T.ps.length ≤ maxLen ∧ T.ns.length ≤ maxLen ∧ T.nm.size ≤ maxLen := by
  intro n
  induction n using Nat.strongRecOn with
  | ind n IH =>
    intro cs y h
    obtain ⟨xs, m, rfl, -, hl, hlen, hf⟩ := DataW.trod_struct Try.underlying25 h
    have hl5 : cs.length = 5 := hl
    match cs, hl5 with
    | [v0, v1, v2, v3, v4], _ =>
      have c3 : Try.prog.cellsOf 3 = 1 := by kernel_rfl
      have c4 : Try.prog.cellsOf 4 = 1 := by kernel_rfl
      have c9 : Try.prog.cellsOf 9 = 1 := by kernel_rfl
      have cs1 : Try.prog.cellsOf 22 = 1 := by kernel_rfl
      have cs2 : Try.prog.cellsOf 23 = 1 := by kernel_rfl
      have ct : Try.prog.cellsOf 25 = 5 := by kernel_rfl
      have hx5 : xs.length = 5 := hlen
      match xs, hx5 with
      | [x0, x1, x2, x3, x4], _ =>
        have f0 := hf 0 _ rfl
        have f1 := hf 1 _ rfl
        have f2 := hf 2 _ rfl
        have f3 := hf 3 _ rfl
        have f4 := hf 4 _ rfl
        simp [c3, c4, c9, cs1, cs2] at f0 f1 f2 f3 f4
        obtain ⟨k, hk, -, -⟩ := DataW.trod_int Try.underlying3 f0
        obtain ⟨nm, hnm, -, hnl⟩ := DataW.trod_string Try.underlying9 f1
        obtain ⟨An, ns, cn, hns, hrow, hnsl, hncap⟩ := trod_row (fun s : ByteArray => [Value.string s]) (s := 1) (fun _ => rfl) Try.underlying22 c9 (by decide) (fun n' cs' y' h' => by
          obtain ⟨s, hs, -⟩ := DataW.trod_string Try.underlying9 h'
          exact ⟨s, hs⟩) f2
        obtain ⟨mb, hmb, -⟩ := DataW.trod_bool Try.underlying4 f4
        simp at hk hnm hns hmb
        have hrow' : Row w An (ns.map .string) := by
          rw [← flat_one]; exact hrow
        rcases slice_read Try.underlying23 f3 with h3 | ⟨a, len, cap, n', rfl, h3, hle, hcap, hx⟩
        · simp at h3
          subst hk hnm hns hmb h3
          exact ⟨.mk k nm ns [] mb, Rep.of (T := .mk k nm ns [] mb) hrow' (by show RepL w [] none; unfold RepL; trivial) (Nat.zero_le _) hncap, Nat.zero_le _, hnsl, hnl⟩
        · simp at h3
          subst hk hnm hns hmb h3
          rw [ct] at hx
          obtain ⟨X, hX⟩ := Go.Deep.choose_lt (α := Ty) (n := len) (p := fun i T => ∃ cs', w.cells? 0 (a.add (i * 5)) 5 = some cs' ∧ Rep w T cs') (fun i hi => by
            obtain ⟨cs', y', h1, h2⟩ := hx i hi
            obtain ⟨T, hT, -⟩ := IH n' (by omega) cs' y' h2
            exact ⟨T, cs', h1, hT⟩)
          have hlenX : ((List.range len).map X).length = len := by simp
          have hR : RepL w ((List.range len).map X) (some a) := by
            rcases Nat.eq_zero_or_pos len with hz | hz
            · subst hz
              show RepL w [] (some a)
              unfold RepL
              trivial
            · obtain ⟨cs0, h0, hr0⟩ := hX 0 hz
              obtain ⟨_, hl0, hat⟩ := World.cells?_some h0
              have hc0 := hat 0 (by omega)
              rw [List.getElem?_eq_getElem (by omega)] at hc0
              obtain ⟨b, o, sp⟩ := a
              have hsp : sp = none := by simpa [Addr.add] using World.cell?_spot hc0
              subst hsp
              refine repL_of (by have := World.block_lt_of_cell? w _ hc0; simpa [add_plain] using this) _ _ fun i hi => ?_
              obtain ⟨cs', h1, h2⟩ := hX i (by simpa using hi)
              obtain ⟨_, hl1, hat1⟩ := World.cells?_some h1
              refine ⟨cs', fun j v hj => ?_, by simpa using h2⟩
              have hj5 : j < 5 := by rw [← hl1]; exact (List.getElem?_eq_some_iff.1 hj).1
              have := hat1 j hj5
              rw [add_plain, add_plain] at this
              rw [this, hj]
          have := Rep.of (T := .mk k nm ns ((List.range len).map X) mb) (cn := cn) (cp := cap) hrow' hR (by show ((List.range len).map X).length ≤ cap; rw [hlenX]; exact hle) hncap
          simp only [Ty.ps, hlenX, Ty.k, Ty.nm, Ty.ns, Ty.many] at this
          exact ⟨.mk k nm ns ((List.range len).map X) mb, this, by show ((List.range len).map X).length ≤ maxLen; rw [hlenX]; omega, hnsl, hnl⟩
/-- an argument that is a row of types, opened -/
theorem open_types {H : Type} {enc : TypeId × Value → H} {w : World} {r : Reach} {b0 : Nat} {v : Value} {d : DataW H} {p : List MemPlace}
    (hok : Value.okWide Try.prog w r b0 23 v) (h : DataW.Trod enc Try.prog w 0 (fun _ => true) true 23 v d p) :
    ∃ (A : Option Addr) (ts : List Ty) (c : Nat), v = .slice A ts.length c ∧ RepL w ts A ∧ ts.length ≤ maxLen ∧ ts.length ≤ c := by
  obtain ⟨a, len, cap, rfl⟩ := okWide_slice Try.underlying23 hok
  obtain ⟨fuel, hf⟩ := h
  have ct : Try.prog.cellsOf 25 = 5 := by kernel_rfl
  rcases slice_read Try.underlying23 hf with h3 | ⟨a', len', cap', n', -, h3, hle, hcap, hx⟩
  · simp [Value.cells] at h3
    obtain ⟨rfl, rfl, rfl⟩ := h3
    exact ⟨none, [], 0, rfl, by unfold RepL; trivial, Nat.zero_le _, Nat.zero_le _⟩
  · simp [Value.cells] at h3
    obtain ⟨rfl, rfl, rfl⟩ := h3
    rw [ct] at hx
    obtain ⟨X, hX⟩ := Go.Deep.choose_lt (α := Ty) (n := len) (p := fun i T => ∃ cs', w.cells? 0 (a'.add (i * 5)) 5 = some cs' ∧ Rep w T cs') (fun i hi => by
      obtain ⟨cs', y', h1, h2⟩ := hx i hi
      obtain ⟨T, hT, -⟩ := read_type n' cs' y' h2
      exact ⟨T, cs', h1, hT⟩)
    have hlenX : ((List.range len).map X).length = len := by simp
    refine ⟨some a', (List.range len).map X, cap, by rw [hlenX], ?_, by rw [hlenX]; omega, by rw [hlenX]; exact hle⟩
    rcases Nat.eq_zero_or_pos len with hz | hz
    · subst hz
      show RepL w [] (some a')
      unfold RepL
      trivial
    · obtain ⟨cs0, h0, hr0⟩ := hX 0 hz
      obtain ⟨_, hl0, hat⟩ := World.cells?_some h0
      have hc0 := hat 0 (by omega)
      rw [List.getElem?_eq_getElem (by omega)] at hc0
      obtain ⟨b, o, sp⟩ := a'
      have hsp : sp = none := by simpa [Addr.add] using World.cell?_spot hc0
      subst hsp
      refine repL_of (by have := World.block_lt_of_cell? w _ hc0; simpa [add_plain] using this) _ _ fun i hi => ?_
      obtain ⟨cs', h1, h2⟩ := hX i (by simpa using hi)
      obtain ⟨_, hl1, hat1⟩ := World.cells?_some h1
      refine ⟨cs', fun j v hj => ?_, by simpa using h2⟩
      have hj5 : j < 5 := by rw [← hl1]; exact (List.getElem?_eq_some_iff.1 hj).1
      have := hat1 j hj5
      rw [add_plain, add_plain] at this
      rw [this, hj]
end Go.Proofs.Ytkkjkbljgaipcaa
