/- colour: sets, places, the graph. -/
import Derived.Test.YtkkjkbljgaipcaaLivS
import Derived.WideKeyEntry
import Derived.Test.YtkkjkbljgaipcaaLivB
import Derived.BigRegion
import Derived.WalkKit
import Derived.DeepKeys5
import Derived.Test.YtkkjkbljgaipcaaLaid
import Derived.Test.YtkkjkbljgaipcaaLivG
import Derived.Test.YtkkjkbljgaipcaaLivD
/- The apart-graph's edges: an entry made and written in two sets, in whatever order. -/
namespace Go.Proofs.Ytkkjkbljgaipcaa
open Go.RowKit
open Go.Maps (Keyed has)
open Go.WideElems (Fit)
open Go.ChangeMaps (setBlock heap_setBlock_same heap_setBlock_other)
set_option linter.unusedVariables false
set_option linter.unusedSimpArgs false
set_option maxRecDepth 100000
section
variable {H : Type} {P : Program} {w : World} {t k e : TypeId} {R : Value → Option (DataW H × List MemPlace)} {b : Nat} {es : Array MapEntry} {clock : Nat}
/-- 'm[x] = v' in two steps: the entry is made, then written; what lies beside it may turn between them -/
theorem fit_entry (K : Keyed P k) (ht : P.underlying t = some (.map k e)) {z : Value} (hz : ∀ u : World, (zeroValue e).run P u = .ok z u) (hb : w.heap[b]? = some (.map es clock)) (F : Fit P k R es clock)
    {key : Value} {kl : Lit} (hkey : keyOf P k key = some kl) (val : Value) :
    ∃ (v : Value) (st : Nat) (es1 : Array MapEntry) (clock1 : Nat) (es2 : Array MapEntry) (clock2 : Nat),
      (∀ u : World, u.heap[b]? = some (.map es clock) → (Instr.mapEntry t (.map (some b)) key).run P u = .ok (.tuple #[v, goInt st]) (setBlock u b (.map es1 clock1))) ∧
      (∀ u : World, u.heap[b]? = some (.map es1 clock1) → (Instr.entryStore t (.map (some b)) (goInt st) val).run P u = .ok () (setBlock u b (.map es2 clock2))) ∧
      (Instr.mapUpdate t (.map (some b)) key val).run P w = .ok () (setBlock w b (.map es2 clock2)) := by
  obtain ⟨s1, s2, _⟩ := F.stamped
  have hkeys : ∀ x ∈ es.toList, ∃ l, keyOf P k x.key = some l := fun x hx => by
    obtain ⟨y, hy⟩ := F.reads x hx
    exact ⟨_, WideElems.rd_key hy⟩
  rcases K.find w hkey es.toList hkeys with ⟨h1, h2⟩ | ⟨j, e0, h1, h2, h3⟩
  · have h1' : ∀ u : World, (Instr.findKey k key es.toList).run P u = .ok none u := fun u => by
      rcases K.find u hkey es.toList hkeys with ⟨h, _⟩ | ⟨j, e0, h, h4, h5⟩
      · exact h
      · exact absurd h5 (h2 e0 (List.mem_of_getElem? h4))
    refine ⟨z, clock, es.push ⟨key, z, clock⟩, clock + 1, es.push ⟨key, val, clock⟩, clock + 1, fun u hu => ?_, fun u hu => ?_, ?_⟩
    · simp [Instr.mapEntry, run_underlying ht, MapKept.run_getObj_map hu, K.check u false hkey, h1', hz, MapKept.run_setObj_map _ hu, Result.andThen, setBlock]
    · have hidx : (es.push ⟨key, z, clock⟩).findIdx? (fun x => ((x.born : Nat) : Int) == ((clock : Nat) : Int)) = some es.size := by
        rw [WideElems.findIdx_arr]
        refine WideElems.findIdx_born (l := (es.push ⟨key, z, clock⟩).toList) (j := es.size) (e0 := ⟨key, z, clock⟩) ?_ (by simp)
        simp only [Array.toList_push, List.map_append, List.map_cons, List.map_nil]
        refine List.nodup_append.2 ⟨s2, by simp, fun a ha c hc e1 => ?_⟩
        simp only [List.mem_singleton] at hc
        obtain ⟨x, hx, rfl⟩ := List.mem_map.1 ha
        have := s1 x hx
        omega
      have hmod : (es.push ⟨key, z, clock⟩).modify es.size (fun x => { x with val := val }) = es.push ⟨key, val, clock⟩ := by
        apply Array.ext'
        rw [Array.toList_modify, Array.toList_push, Array.toList_push, ← Array.length_toList, WideElems.modify_last]
      simp [Instr.entryStore, MapKept.run_getObj_map hu, asInt, asIntOf, goInt, hidx, hmod, MapKept.run_setObj_map _ hu, Result.andThen, setBlock]
    · simp [Instr.mapUpdate, run_underlying ht, MapKept.run_getObj_map hb, K.check w false hkey, h1, MapKept.run_setObj_map _ hb, Result.andThen, setBlock]
  · have hj : es[j]? = some e0 := by simpa using h2
    have h1' : ∀ u : World, (Instr.findKey k key es.toList).run P u = .ok (some (j, e0.val)) u := fun u => by
      rcases K.find u hkey es.toList hkeys with ⟨_, h⟩ | ⟨j', e', h, h4, h5⟩
      · exact absurd h3 (h e0 (List.mem_of_getElem? h2))
      · have hnd := F.stamped.2.2
        have hjj : j' = j := by
          have g1 : (es.toList.map (·.key))[j']? = some key := by rw [List.getElem?_map, h4, ← h5]; rfl
          have g2 : (es.toList.map (·.key))[j]? = some key := by rw [List.getElem?_map, h2, ← h3]; rfl
          have hl : j' < (es.toList.map (·.key)).length := (List.getElem?_eq_some_iff.1 g1).1
          exact (List.getElem?_inj hl hnd).1 (by rw [g1, g2])
        subst hjj
        rw [h4] at h2
        obtain rfl := Option.some.inj h2
        exact h
    have hsame : es.modify j (fun x => { x with key := key }) = es := by
      apply Array.ext'
      rw [Array.toList_modify, ChangeMaps.modify_eq_set _ _ _ _ h2]
      have : ({ e0 with key := key } : MapEntry) = e0 := by rw [← h3]
      rw [this]
      exact WideElems.set_self _ _ _ h2
    refine ⟨e0.val, e0.born, es, clock, es.modify j (fun x => { x with key := key, val := val }), clock, fun u hu => ?_, fun u hu => ?_, ?_⟩
    · simp [Instr.mapEntry, run_underlying ht, MapKept.run_getObj_map hu, K.check u false hkey, h1', hj, h3, K.stays u hkey, hsame, MapKept.run_setObj_map _ hu, Result.andThen, setBlock]
    · have hidx : es.findIdx? (fun x => ((x.born : Nat) : Int) == ((e0.born : Nat) : Int)) = some j := by
        rw [WideElems.findIdx_arr]
        exact WideElems.findIdx_born s2 h2
      have hmod : es.modify j (fun x => { x with val := val }) = es.modify j (fun x => { x with key := key, val := val }) := by
        apply Array.ext'
        rw [Array.toList_modify, Array.toList_modify, ChangeMaps.modify_eq_set _ _ _ _ h2, ChangeMaps.modify_eq_set _ _ _ _ h2, ← h3]
      simp [Instr.entryStore, MapKept.run_getObj_map hu, asInt, asIntOf, goInt, hidx, hmod, MapKept.run_setObj_map _ hu, Result.andThen, setBlock]
    · simp [Instr.mapUpdate, run_underlying ht, MapKept.run_getObj_map hb, K.check w false hkey, h1, hj, h3, K.stays w hkey, MapKept.run_setObj_map _ hb, Result.andThen, setBlock]
end
/-- the same, at a set of numbers -/
theorem SetAt.entry {w : World} {b m : Nat} {S : Int → Bool} (h : SetAt w b m S) (x : Int) (hx : (Lit.int .i64 x).wf = true) (hm : m < maxLen) :
    ∃ (v : Value) (st : Int) (o0 o1 o2 : Obj), w.heap[b]? = some o0 ∧
      (∀ u : World, u.heap[b]? = some o0 → (Instr.mapEntry 46 (.map (some b)) (.int .i64 x)).run Try.prog u = .ok (.tuple #[v, .int .i64 st]) (setBlock u b o1)) ∧
      (∀ u : World, u.heap[b]? = some o1 → (Instr.entryStore 46 (.map (some b)) (.int .i64 st) (.bool true)).run Try.prog u = .ok () (setBlock u b o2)) ∧
      (∀ u : World, u.heap[b]? = some o2 → SetAt u b (m + 1) (fun y => (y == x) || S y)) := by
  obtain ⟨w', hr, hs, hg⟩ := h.put x hx hm
  obtain ⟨n, D, h1, h2, h3⟩ := h
  obtain ⟨es, clock, hb, F, -, -⟩ := h2
  obtain ⟨v, st, es1, clock1, es2, clock2, e1, e2, e3⟩ := fit_entry int_keyed Try.underlying46 (z := .bool false) (fun u => by kernel_rfl) hb F (key_int hx) (.bool true)
  refine ⟨v, st, _, _, _, hb, e1, e2, fun u hu => ?_⟩
  rw [e3] at hr
  injection hr with _ hr
  subst hr
  obtain ⟨n', D', g1, g2, g3⟩ := hs
  refine ⟨n', D', g1, ?_, g3⟩
  obtain ⟨es', clock', q1, q2⟩ := g2
  rw [heap_setBlock_same hb] at q1
  exact ⟨es', clock', hu.trans q1, q2⟩
/-- a set of numbers below regs has at most regs of them -/
theorem SetAt.tight {w : World} {b m : Nat} {S : Int → Bool} (h : SetAt w b m S) (regs : Nat) (hS : ∀ x, S x = true → 0 ≤ x ∧ x < regs) : SetAt w b regs S := by
  obtain ⟨n, D, h1, h2, h3⟩ := h
  obtain ⟨es, clock, hb, F, hs, rfl⟩ := h2
  have hle : es.size ≤ regs := by
    have hk : ∀ x ∈ es.toList, ∃ q : Int, x.key = .int .i64 q ∧ 0 ≤ q ∧ q < regs := fun x hx => by
      obtain ⟨y, hy⟩ := F.reads x hx
      obtain ⟨q, e1, e2, hw⟩ := Maps.keyOf_int_inv Try.underlying3 (WideElems.rd_key hy)
      have hr : WideElems.rg Try.prog 3 plB x = y := by unfold WideElems.rg; rw [hy]; rfl
      have hh : has (DataW.map ((es.toList.map (WideElems.rg Try.prog 3 plB)).foldr DataW.insert [])) (.int .i64 q) = true :=
        List.any_eq_true.2 ⟨y, mem_sorted.2 (List.mem_map.2 ⟨x, hx, hr⟩), by rw [e2]; exact WideAt.sameKey_self (keyLit_int hw)⟩
      rw [(h3 q hw).1] at hh
      exact ⟨q, e1, hS q hh⟩
    have := List.Nodup.length_le_of_subset (l₂ := (List.range regs).map fun r : Nat => Value.int .i64 r) F.stamped.2.2 (fun v hv => by
      obtain ⟨x, hx, rfl⟩ := List.mem_map.1 hv
      obtain ⟨q, e1, h0, h1⟩ := hk x hx
      exact List.mem_map.2 ⟨q.toNat, List.mem_range.2 (by omega), by rw [e1]; congr 1; omega⟩)
    simpa using this
  exact ⟨es.size, _, hle, ⟨es, clock, hb, F, Nat.le_refl _, rfl⟩, h3⟩
/-- two sets, an entry each: whatever comes first -/
theorem two_entries {w : World} {b1 b2 m : Nat} {S1 S2 : Int → Bool} (h1 : SetAt w b1 m S1) (h2 : SetAt w b2 m S2) (hne : b1 ≠ b2) {x1 x2 : Int} (hx1 : (Lit.int .i64 x1).wf = true) (hx2 : (Lit.int .i64 x2).wf = true) (hm : m < maxLen) :
    ∃ (W : Nat → Nat → World) (v1 v2 : Value) (s1 s2 : Int), w = W 0 0 ∧
      (∀ j, (Instr.mapEntry 46 (.map (some b1)) (.int .i64 x1)).run Try.prog (W 0 j) = .ok (.tuple #[v1, .int .i64 s1]) (W 1 j)) ∧
      (∀ j, (Instr.entryStore 46 (.map (some b1)) (.int .i64 s1) (.bool true)).run Try.prog (W 1 j) = .ok () (W 2 j)) ∧
      (∀ i, (Instr.mapEntry 46 (.map (some b2)) (.int .i64 x2)).run Try.prog (W i 0) = .ok (.tuple #[v2, .int .i64 s2]) (W i 1)) ∧
      (∀ i, (Instr.entryStore 46 (.map (some b2)) (.int .i64 s2) (.bool true)).run Try.prog (W i 1) = .ok () (W i 2)) ∧
      (∀ i j c, c ≠ b1 → c ≠ b2 → (W i j).heap[c]? = w.heap[c]?) ∧
      (∀ i j, (W i j).heap.size = w.heap.size ∧ (W i j).os = w.os ∧ (W i j).tape = w.tape ∧ (W i j).output = w.output) ∧
      SetAt (W 2 2) b1 (m + 1) (fun y => (y == x1) || S1 y) ∧ SetAt (W 2 2) b2 (m + 1) (fun y => (y == x2) || S2 y) := by
  have l1 := h1.lt
  have l2 := h2.lt
  obtain ⟨v1, s1, a0, a1, a2, ha, e1, e2, e3⟩ := h1.entry x1 hx1 hm
  obtain ⟨v2, s2, c0, c1, c2, hc, f1, f2, f3⟩ := h2.entry x2 hx2 hm
  let A : Nat → Obj := fun i => match i with | 0 => a0 | 1 => a1 | _ => a2
  let C : Nat → Obj := fun i => match i with | 0 => c0 | 1 => c1 | _ => c2
  let W : Nat → Nat → World := fun i j => setBlock (setBlock w b1 (A i)) b2 (C j)
  have g1 : ∀ i j, (W i j).heap[b1]? = some (A i) := fun i j => by
    simp only [W, setBlock, Array.getElem?_setIfInBounds, Array.size_setIfInBounds]
    simp [hne.symm, l1]
  have g2 : ∀ i j, (W i j).heap[b2]? = some (C j) := fun i j => by
    simp only [W, setBlock, Array.getElem?_setIfInBounds, Array.size_setIfInBounds]
    simp [l2]
  have t1 : ∀ i i' j, setBlock (W i j) b1 (A i') = W i' j := fun i i' j => by
    simp only [W, setBlock]
    congr 1
    rw [Array.setIfInBounds_comm _ _ hne.symm, Array.setIfInBounds_setIfInBounds]
  have t2 : ∀ i j j', setBlock (W i j) b2 (C j') = W i j' := fun i j j' => by
    simp only [W, setBlock]
    congr 1
    rw [Array.setIfInBounds_setIfInBounds]
  refine ⟨W, v1, v2, s1, s2, ?_, fun j => ?_, fun j => ?_, fun i => ?_, fun i => ?_, fun i j c hc1 hc2 => ?_, fun i j => ?_, e3 _ (g1 2 2), f3 _ (g2 2 2)⟩
  · have q1 : w.heap.setIfInBounds b1 a0 = w.heap := by
      apply Array.ext_getElem?
      intro i
      rw [Array.getElem?_setIfInBounds]
      split
      · next e => subst e; exact ha.symm
      · rfl
    have q2 : w.heap.setIfInBounds b2 c0 = w.heap := by
      apply Array.ext_getElem?
      intro i
      rw [Array.getElem?_setIfInBounds]
      split
      · next e => subst e; exact hc.symm
      · rfl
    show w = { w with heap := (w.heap.setIfInBounds b1 a0).setIfInBounds b2 c0 }
    rw [q1, q2]
  · rw [e1 _ (g1 0 j)]; exact congrArg _ (t1 0 1 j)
  · rw [e2 _ (g1 1 j)]; exact congrArg _ (t1 1 2 j)
  · rw [f1 _ (g2 i 0)]; exact congrArg _ (t2 i 0 1)
  · rw [f2 _ (g2 i 1)]; exact congrArg _ (t2 i 1 2)
  · simp only [W, setBlock, Array.getElem?_setIfInBounds]
    simp [hc1.symm, hc2.symm]
  · simp only [W, setBlock]
    simp
/-! what may turn: the blocks of al, and what is new -/
def Only (al : List Nat) (w w' : World) : Prop := w'.os = w.os ∧ w'.tape = w.tape ∧ w'.output = w.output ∧ w.heap.size ≤ w'.heap.size ∧ ∀ c, c < w.heap.size → c ∉ al → w'.heap[c]? = w.heap[c]?
theorem Only.refl (al : List Nat) (w : World) : Only al w w := ⟨rfl, rfl, rfl, Nat.le_refl _, fun _ _ _ => rfl⟩
theorem Only.trans {al : List Nat} {a b c : World} (h : Only al a b) (k : Only al b c) : Only al a c :=
  ⟨k.1.trans h.1, k.2.1.trans h.2.1, k.2.2.1.trans h.2.2.1, Nat.le_trans h.2.2.2.1 k.2.2.2.1, fun x hx hn => (k.2.2.2.2 x (Nat.lt_of_lt_of_le hx h.2.2.2.1) hn).trans (h.2.2.2.2 x hx hn)⟩
theorem Only.wide {al al' : List Nat} {a b : World} (h : Only al a b) (hs : ∀ c ∈ al, c < a.heap.size → c ∈ al') : Only al' a b :=
  ⟨h.1, h.2.1, h.2.2.1, h.2.2.2.1, fun c hc hn => h.2.2.2.2 c hc (fun hm => hn (hs c hm hc))⟩
theorem Only.below {a b : World} (h : Below a.heap.size a b) (al : List Nat) : Only al a b := ⟨h.os, h.tape, h.output, h.size, fun c hc _ => h.block c hc⟩
theorem Only.grown {a b : World} {row : Option Nat} (h : a.grownBy b row) (al : List Nat) (hal : ∀ c, row = some c → c ∈ al) : Only al a b :=
  ⟨h.os, h.tape, h.output, h.size, fun c hc hn => h.block c hc (fun e => hn (hal c e.symm))⟩
theorem Only.blk {al : List Nat} {a b : World} {x : Nat} {t : TypeId} {cs : Array Value} (h : Only al a b) (hb : Blk a x t cs) (hx : x ∉ al) : Blk b x t cs := by
  have := h.2.2.2.2 x hb.lt hx
  unfold Blk at hb ⊢
  rw [this, hb]
theorem Only.set {al : List Nat} {a b : World} {x m : Nat} {S : Int → Bool} (h : Only al a b) (hs : SetAt a x m S) (hx : x ∉ al) : SetAt b x m S := by
  have := h.2.2.2.2 x hs.lt hx
  obtain ⟨n, D, h1, ⟨es, clock, hb, r⟩, h3⟩ := hs
  exact ⟨n, D, h1, ⟨es, clock, this.trans hb, r⟩, h3⟩
theorem Only.range {al : List Nat} {a b : World} {x r m : Nat} {S L : Int → Bool} {cnt : Nat} (h : Only al a b) (hs : RangeAt a x r m S L cnt) (hx : x ∉ al) (hr : r ∉ al) : RangeAt b x r m S L cnt := by
  have e1 := h.2.2.2.2 x hs.set.lt hx
  have e2 := h.2.2.2.2 r hs.lt hr
  obtain ⟨n, D, left, h1, ⟨es, c, s, q, c0, hb, F, hs', hD, hi, rest⟩, h3⟩ := hs
  exact ⟨n, D, left, h1, ⟨es, c, s, q, c0, e1.trans hb, F, hs', hD, e2.trans hi, rest⟩, h3⟩
theorem Only.belowB {al : List Nat} {a b : World} {base : Nat} (h : Only al a b) (hal : ∀ c ∈ al, base ≤ c) (hz : base ≤ a.heap.size) : Below base a b :=
  ⟨h.1, h.2.1, h.2.2.1, h.2.2.2.1, fun c hc => h.2.2.2.2 c (by omega) (fun hm => by have := hal c hm; omega)⟩
/-! the graph -/
def addE (G : Nat → Int → Bool) (a b : Nat) : Nat → Int → Bool := fun i x => (decide (a ≠ b) && ((decide (i = a) && (x == (b : Int))) || (decide (i = b) && (x == (a : Int))))) || G i x
theorem addE_up {G : Nat → Int → Bool} {a b i : Nat} {x : Int} (h : G i x = true) : addE G a b i x = true := by unfold addE; rw [h]; simp
theorem addE_at (G : Nat → Int → Bool) {a b : Nat} (h : a ≠ b) : addE G a b a b = true ∧ addE G a b b a = true := by unfold addE; simp [h]
theorem addE_same (G : Nat → Int → Bool) (a : Nat) : addE G a a = G := by funext i x; unfold addE; simp
theorem addE_reg {G : Nat → Int → Bool} {a b regs : Nat} (ha : a < regs) (hb : b < regs) (h : ∀ i x, G i x = true → 0 ≤ x ∧ x < regs) (i : Nat) (x : Int) (hx : addE G a b i x = true) : 0 ≤ x ∧ x < regs := by
  unfold addE at hx
  simp only [Bool.or_eq_true, Bool.and_eq_true, decide_eq_true_eq, beq_iff_eq] at hx
  rcases hx with ⟨_, ⟨_, rfl⟩ | ⟨_, rfl⟩⟩ | hx
  · omega
  · omega
  · exact h i x hx
theorem addE_left (G : Nat → Int → Bool) {a b : Nat} (h : a ≠ b) : addE G a b a = fun y => (y == (b : Int)) || G a y := by funext y; unfold addE; simp [h]
theorem addE_right (G : Nat → Int → Bool) {a b : Nat} (h : a ≠ b) : addE G a b b = fun y => (y == (a : Int)) || G b y := by funext y; unfold addE; simp [h, h.symm]
theorem addE_other (G : Nat → Int → Bool) {a b i : Nat} (h1 : i ≠ a) (h2 : i ≠ b) : addE G a b i = G i := by funext y; unfold addE; simp [h1, h2]
/-- who lies apart from whom: a set for each register -/
def EdgesAt (w : World) (base regs : Nat) (ms : List Nat) (G : Nat → Int → Bool) : Prop := ms.Nodup ∧ (∀ i x, G i x = true → 0 ≤ x ∧ x < regs) ∧ ∀ i (h : i < ms.length), base ≤ ms[i] ∧ SetAt w ms[i] regs (G i)
/-- the graph's own two rows -/
def RowsOf (w : World) (base g X lb regs : Nat) (ms : List Nat) : Prop := base ≤ lb ∧ ms.length = regs ∧ Blk w g 50 #[.slice (some ⟨X, 0, none⟩) regs regs, .slice (some ⟨lb, 0, none⟩) regs regs] ∧ Blk w X 46 (ms.map fun m => Value.map (some m)).toArray
end Go.Proofs.Ytkkjkbljgaipcaa
/- colour's split: two registers lie apart. -/
namespace Go.Proofs.Ytkkjkbljgaipcaa
open Go.RowKit
set_option linter.unusedVariables false
set_option linter.unusedSimpArgs false
set_option maxRecDepth 100000
set_option maxHeartbeats 4000000
theorem SetAt.drew {w : World} {b m : Nat} {S : Int → Bool} (h : SetAt w b m S) : SetAt w.drew b m S := h
def SplitOut (base regs : Nat) (ms : List Nat) (G : Nat → Int → Bool) (a b : Nat) (w : World) (e : Ending) (w' : World) : Prop :=
  e = .returned (.tuple #[]) ∧ EdgesAt w' base regs ms (addE G a b) ∧ Only ms w w'
theorem split_any (base g X lb regs : Nat) (ms : List Nat) (G : Nat → Int → Bool) (a b : Nat) (w : World) (ha : a < regs) (hb : b < regs) (hregs : regs ≤ 8000) (hR : RowsOf w base g X lb regs ms) (hE : EdgesAt w base regs ms G) :
    Calls Try.prog 36 #[.pointer (some ⟨g, 0, none⟩), .int .i64 (a : Int), .int .i64 (b : Int)] w (SplitOut base regs ms G a b w) := by
  by_cases hab : a = b
  · subst hab
    rw [show SplitOut base regs ms G a a w = fun e w' => e = .returned (.tuple #[]) ∧ EdgesAt w' base regs ms (addE G a a) ∧ Only ms w w' from rfl, addE_same]
    have HE := Lib.hid hE
    clear hE hR
    go_enter Try.func36, Try.ntmps36
    go_wp2
    go_end0
    exact ⟨rfl, HE.out, Only.refl _ _⟩
  · obtain ⟨hlb, hml, h1, h2⟩ := hR
    obtain ⟨hnd, hrange, hs⟩ := hE
    have ha' : a < ms.length := by omega
    have hb' : b < ms.length := by omega
    have hne : ms[a] ≠ ms[b] := nodup_ne hnd ha' hb' hab
    have hwa : (Lit.int .i64 (a : Int)).wf = true := (wf_iff _).2 (by omega)
    have hwb : (Lit.int .i64 (b : Int)).wf = true := (wf_iff _).2 (by omega)
    obtain ⟨W, v1, v2, s1, s2, hw, e1, e2, f1, f2, hk, hz, r1, r2⟩ := two_entries (w := w.drew) (hs a ha').2.drew (hs b hb').2.drew hne hwb hwa (by unfold maxLen; omega)
    have gne : ∀ i (h : i < ms.length), g ≠ ms[i] := fun i h => set_ne_blk (hs i h).2 h1
    have xne : ∀ i (h : i < ms.length), X ≠ ms[i] := fun i h => set_ne_blk (hs i h).2 h2
    have c1 : ∀ i j, (W i j).cell? ⟨g, 0, none⟩ = some (.slice (some ⟨X, 0, none⟩) regs regs) := fun i j => by
      have : Blk (W i j) g 50 _ := (hk i j g (gne a ha') (gne b hb')).trans h1
      exact this.cell 0 _ rfl
    have c2 : ∀ i j, (W i j).cell? ⟨X, a, none⟩ = some (.map (some ms[a])) := fun i j => by
      have : Blk (W i j) X 46 _ := (hk i j X (xne a ha') (xne b hb')).trans h2
      exact this.cell a _ (by simp [ha'])
    have c3 : ∀ i j, (W i j).cell? ⟨X, b, none⟩ = some (.map (some ms[b])) := fun i j => by
      have : Blk (W i j) X 46 _ := (hk i j X (xne a ha') (xne b hb')).trans h2
      exact this.cell b _ (by simp [hb'])
    have HK := Lib.hid hk
    have HZ := Lib.hid hz
    have HR1 := Lib.hid r1
    have HR2 := Lib.hid r2
    have HS := Lib.hid hs
    have HND := Lib.hid hnd
    have HG := Lib.hid hrange
    have HML := Lib.hid hml
    have a0 : (0 : Int) ≤ (a : Int) := by omega
    have a1 : (a : Int) < (regs : Int) := by omega
    have b0 : (0 : Int) ≤ (b : Int) := by omega
    have b1 : (b : Int) < (regs : Int) := by omega
    have hab' : ((a : Int) == (b : Int)) = false := by rw [beq_eq_false_iff_ne]; omega
    have P : SplitOut base regs ms G a b w (.returned (.tuple #[])) (W 2 2) := by
      refine ⟨rfl, ⟨hnd, addE_reg ha hb hrange, fun i hi => ⟨(hs i hi).1, ?_⟩⟩, (hz 2 2).2.1, (hz 2 2).2.2.1, (hz 2 2).2.2.2, Nat.le_of_eq (hz 2 2).1.symm, fun c _ hc => hk 2 2 c (fun e => hc (e ▸ List.getElem_mem ha')) (fun e => hc (e ▸ List.getElem_mem hb'))⟩
      by_cases e1 : i = a
      · subst e1
        exact SetAt.tight (by rw [addE_left G hab]; exact r1) regs (fun x hx => addE_reg ha hb hrange i x hx)
      · by_cases e2 : i = b
        · subst e2
          exact SetAt.tight (by rw [addE_right G hab]; exact r2) regs (fun x hx => addE_reg ha hb hrange i x hx)
        · rw [addE_other G e1 e2]
          have q := (hs i hi).2
          have := hk 2 2 ms[i] (nodup_ne hnd hi ha' e1) (nodup_ne hnd hi hb' e2)
          obtain ⟨n, D, g1, ⟨es, clock, g2, g3⟩, g4⟩ := q
          exact ⟨n, D, g1, ⟨es, clock, this.trans g2, g3⟩, g4⟩
    have HP := Lib.hid P
    clear hk hz r1 r2 hs hnd hrange hml P HR1 HR2 HS HND HG HK HZ h1 h2 hlb gne xne
    generalize hm1 : ms[a] = m1 at *
    generalize hm2 : ms[b] = m2 at *
    generalize hQ : SplitOut base regs ms G a b w = Q at *
    go_enter Try.func36, Try.ntmps36
    go_wp2
    go_big_region
    go_wp2
    go_end0
    exact HP.out
end Go.Proofs.Ytkkjkbljgaipcaa
/- Places that are taken: a map[api.Loc]bool that the call itself has made. -/
namespace Go.Proofs.Ytkkjkbljgaipcaa
open Go.RowKit
open Go.Maps (Keyed has)
set_option linter.unusedVariables false
set_option linter.unusedSimpArgs false
set_option maxRecDepth 100000
/-- the key that a place reads as -/
def locK (s : Bool) (x : Int) : Lit := .string (keyBytes [.bool s, .int .i64 x])
abbrev locV (s : Bool) (x : Int) : Value := .agg #[.bool s, .int .i64 x]
theorem wideLoc : (match Try.prog.underlying 52 with | some (.array _ _) | some (.struct _) => true | _ => false) = true := by rw [Try.underlying52]
theorem rowLoc : (52 : TypeId) < Try.prog.types.size := of_decide_eq_true (by kernel_rfl)
theorem rowsLoc : ∃ m, Try.prog.types.size = m + 1 := by
  have h : (52 : Nat) < Try.prog.types.size := rowLoc
  exact ⟨Try.prog.types.size - 1, by omega⟩
theorem loc_keyed : Keyed Try.prog 52 := Keyed.of_law (deep_law_laid laid (m := 2) (by omega) rowLoc (by kernel_rfl) wideLoc)
theorem key_loc (s : Bool) {x : Int} (h : (Lit.int .i64 x).wf = true) : keyOf Try.prog 52 (locV s x) = some (locK s x) := by
  have h1 : Try.prog.keyType 52 = true := by kernel_rfl
  have h2 : Try.prog.cellsOf 52 = 2 := by kernel_rfl
  have h3 : (locV s x).formed Try.prog 52 = true := by simp [Value.formed, Try.underlying52, h2]
  have h4 : Try.prog.cellsOf 4 = 1 := by kernel_rfl
  have h5 : Try.prog.cellsOf 3 = 1 := by kernel_rfl
  obtain ⟨m, hm⟩ := rowsLoc
  have h6 : Try.prog.keyLits (Try.prog.types.size + 1) 52 (locV s x).cells.toList = some [.bool s, .int .i64 x] := by
    rw [hm]
    show Try.prog.keyLits ((m + 1) + 1) 52 [.bool s, .int .i64 x] = _
    have g1 : Try.prog.keyLits (m + 1) 4 [.bool s] = some [.bool s] := by
      unfold Program.keyLits
      simp only [Try.underlying4]
    have g2 : Try.prog.keyLits (m + 1) 3 [.int .i64 x] = some [.int .i64 x] := by
      unfold Program.keyLits
      simp only [Try.underlying3, h, and_self, if_true]
    unfold Program.keyLits
    simp only [Try.underlying52, h2]
    simp [h4, h5, g1, g2]
  unfold keyOf
  simp only [Try.underlying52, h1, h3, h6, Bool.and_self, if_true, Option.map_some]
  rfl
theorem locK_inj {s s' : Bool} {x x' : Int} (h : (Lit.int .i64 x).wf = true) (h' : (Lit.int .i64 x').wf = true) (e : locK s x = locK s' x') : s = s' ∧ x = x' := by
  have := loc_keyed.inj (key_loc s h) (by rw [e]; exact key_loc s' h')
  simpa [locV] using this
theorem keyLit_loc (s : Bool) (x : Int) : WideAt.IsKeyLit (locK s x) := trivial
/-- block b is the set T of places -/
def TakenAt (w : World) (b m : Nat) (T : Bool → Int → Bool) : Prop :=
  ∃ n D, n ≤ m ∧ w.ownsMap Try.prog 52 plB b n D ∧ ∀ (s : Bool) (x : Int), (Lit.int .i64 x).wf = true → has D (locK s x) = T s x ∧ (T s x = true → ∀ z, D.atKey (locK s x) z = .lit (.bool true))
theorem TakenAt.made (w : World) : TakenAt (w.alloc (.map #[] 0)) w.heap.size 0 (fun _ _ => false) :=
  ⟨0, _, Nat.le_refl _, World.ownsMap_made w _ _ _, fun s x _ => ⟨rfl, fun h => by cases h⟩⟩
theorem TakenAt.lt {w : World} {b m : Nat} {T : Bool → Int → Bool} (h : TakenAt w b m T) : b < w.heap.size := by
  obtain ⟨n, D, -, h, -⟩ := h
  exact h.lt
theorem TakenAt.kept {w w' : World} {b m : Nat} {T : Bool → Int → Bool} {row : Option Nat} (h : TakenAt w b m T) (hg : w.grownBy w' row) (hne : some b ≠ row) : TakenAt w' b m T := by
  obtain ⟨n, D, h1, h2, h3⟩ := h
  exact ⟨n, D, h1, h2.kept hg hne, h3⟩
theorem TakenAt.below {w w' : World} {b m : Nat} {T : Bool → Int → Bool} (h : TakenAt w b m T) (hb : Below w.heap.size w w') : TakenAt w' b m T := h.kept (row := none) ⟨hb.os, hb.tape, hb.output, hb.size, fun i hi _ => hb.block i hi⟩ (by simp)
theorem TakenAt.at_map {w : World} {b m : Nat} {T : Bool → Int → Bool} (h : TakenAt w b m T) : ∃ es c, w.heap[b]? = some (.map es c) := by
  obtain ⟨n, D, -, ⟨es, c, h, -⟩, -⟩ := h
  exact ⟨es, c, h⟩
theorem TakenAt.look {w : World} {b m : Nat} {T : Bool → Int → Bool} (h : TakenAt w b m T) (s : Bool) (x : Int) (hx : (Lit.int .i64 x).wf = true) :
    (Instr.lookup 45 (.map (some b)) (locV s x) false).run Try.prog w = .ok (.bool (T s x)) w := by
  obtain ⟨n, D, h1, h2, h3⟩ := h
  obtain ⟨v, ps, hr, hv⟩ := h2.lookup loc_keyed Try.underlying45 (z := .bool false) (by kernel_rfl) (plainElem_bool Try.underlying4 false) (key_loc s hx)
  obtain ⟨h4, h5⟩ := h3 s x hx
  have hd : D.atKey (locK s x) (.lit (.bool false)) = .lit (.bool (T s x)) := by
    rcases hS : T s x with _ | _
    · rw [hS] at h4
      exact Maps.atKey_of_not_has h4 _
    · exact h5 hS _
  rw [hd] at hv
  have : v = .bool (T s x) := by
    cases v <;> simp [plB, plainElem, Try.underlying4] at hv
    rw [hv.1]
  rw [hr, this]
theorem TakenAt.put {w : World} {b m : Nat} {T : Bool → Int → Bool} (h : TakenAt w b m T) (s : Bool) (x : Int) (hx : (Lit.int .i64 x).wf = true) (hm : m < maxLen) :
    ∃ w', (Instr.mapUpdate 45 (.map (some b)) (locV s x) (.bool true)).run Try.prog w = .ok () w' ∧ TakenAt w' b (m + 1) (fun s' y => (s' == s && y == x) || T s' y) ∧ w.grownBy w' (some b) := by
  obtain ⟨n, D, h1, h2, h3⟩ := h
  obtain ⟨w', hr, ho, hg⟩ := h2.update loc_keyed Try.underlying45 (by omega) (key_loc s hx) val_true
  refine ⟨w', hr, ⟨n + 1, _, by omega, ho, fun s' y hy => ?_⟩, hg⟩
  by_cases e : s' = s ∧ y = x
  · obtain ⟨rfl, rfl⟩ := e
    refine ⟨by rw [Maps.has_put_same h2.isMap (keyLit_loc _ _)]; simp, fun _ z => Maps.atKey_put_same h2.isMap (keyLit_loc _ _) _ _⟩
  · have hne : locK s' y ≠ locK s x := fun e' => e (locK_inj hy hx e')
    have hb : (s' == s && y == x) = false := by
      rw [Bool.and_eq_false_iff]
      by_cases e1 : s' = s
      · exact .inr (by simpa using fun e2 => e ⟨e1, e2⟩)
      · exact .inl (by simpa using e1)
    rw [Maps.has_put_other hne]
    simp only [hb, Bool.false_or]
    refine ⟨(h3 s' y hy).1, fun hS z => ?_⟩
    rw [Maps.atKey_put_other hne]
    exact (h3 s' y hy).2 hS z
/-- a store into a set of places, at the operation -/
theorem wpList_taken_put (w : World) {ops : Array Oper} {rest : List Oper} {o : Oper} {a : Act} {Q : Exit → Act → World → Prop} (hg : o.guard = none) (m x v : Operand) (hop : o.op = Op.mapUpdate 45 m x v)
    (b k : Nat) (T : Bool → Int → Bool) (hm : a.eval m = .map (some b)) (h : TakenAt w b k T) (s : Bool) (y : Int) (hx : a.eval x = locV s y) (hv : a.eval v = .bool true) (hy : (Lit.int .i64 y).wf = true) (hk : k < maxLen)
    (hK : ∀ w', TakenAt w' b (k + 1) (fun s' z => (s' == s && z == y) || T s' z) → w.grownBy w' (some b) → wpList Try.prog ops Q rest (a.put o.dst undef) w') : wpList Try.prog ops Q (o :: rest) a w := by
  refine wpList_plain hg fun K' hK' => ?_
  obtain ⟨w', hrun, r1, r2⟩ := h.put s y hy hk
  unfold Oper.wp
  simp [execOp, hop, hm, hx, hv, hrun, Result.andThen]
  exact hK' _ _ (hK w' r1 r2)
end Go.Proofs.Ytkkjkbljgaipcaa
/- colour's pick: the first place that nobody has. -/
namespace Go.Proofs.Ytkkjkbljgaipcaa
open Go.RowKit
set_option linter.unusedVariables false
set_option linter.unusedSimpArgs false
set_option maxRecDepth 100000
set_option maxHeartbeats 4000000
def PickOut (T : Bool → Int → Bool) (lg : Bool) (r : Nat) (w : World) (e : Ending) (w' : World) : Prop :=
  ∃ (s : Bool) (n : Int), e = .returned (locV s n) ∧ T s n = false ∧ 0 ≤ n ∧ (s = false → n ≤ 11 ∧ (lg = true → 4 ≤ n)) ∧ (s = true → n ≤ (r : Int)) ∧ Below w.heap.size w w'
theorem results_loc {fn : Func} (h : fn.results = #[.cell 6 52]) {w : World} {b : Nat} {a0 a1 : Value} {tmps : Array Value} (k : Blk w b 52 #[a0, a1]) (h6 : tmps.getD 6 undef = .pointer (some ⟨b, 0, none⟩)) :
    (results fn tmps).run Try.prog w = .ok (.agg #[a0, a1]) w := by
  have c0 := k.cell 0 _ rfl
  have c1 := k.cell 1 _ rfl
  simp at c0 c1
  simp only [Array.getD_eq_getD_getElem?] at h6
  simp [results, h, go_sem, h6, c0, c1]
def StRel (w : World) (T : Bool → Int → Bool) (r : Nat) (i : Value) (wr : World) : Prop := ∃ n : Nat, n ≤ r ∧ i = .int .i64 (n : Int) ∧ Blk wr w.heap.size 52 #[.bool false, .int .i64 0] ∧ Below w.heap.size w wr
def PkRel (w : World) (lim : Nat) (i : Value) (wr : World) : Prop := ∃ j : Nat, j ≤ lim ∧ i = .int .i64 (j : Int) ∧ Blk wr w.heap.size 52 #[.bool false, .int .i64 0] ∧ Below w.heap.size w wr
theorem pick_any (g X lb regs r b m : Nat) (long : Int → Bool) (T : Bool → Int → Bool) (w : World) (hr : r < regs) (hregs : regs ≤ 8000)
    (h1 : Blk w g 50 #[.slice (some ⟨X, 0, none⟩) regs regs, .slice (some ⟨lb, 0, none⟩) regs regs]) (h2 : Blk w lb 4 (bits regs long)) (hT : TakenAt w b m T) (hf : T true (r : Int) = false) :
    Calls Try.prog 16 #[.pointer (some ⟨g, 0, none⟩), .int .i64 (r : Int), .map (some b)] w (PickOut T (long r) r w) := by
  have r0 : (0 : Int) ≤ (r : Int) := by omega
  have r1 : (r : Int) < (regs : Int) := by omega
  have r6 : (r : Int) < 8000 := by omega
  have bA : Below w.heap.size w (w.alloc (.cells #[.bool false, .int .i64 0] 52)) := by (repeat (first | with_reducible assumption | with_reducible exact Below.refl _ _ | (refine Below.setCell ?_ (by first | omega | (simp; done) | (simp; omega)) _) | (refine Below.drewN_ ?_ _) | (refine Below.drew ?_) | (refine Below.alloc ?_ (by first | omega | (simp; done) | (simp; omega)) _)))
  have kA := Blk.new_ w 52 #[.bool false, .int .i64 0]
  have c1 := h1.alloc (.cells #[.bool false, .int .i64 0] 52) |>.cell 1 (.slice (some ⟨lb, 0, none⟩) regs regs) rfl
  have c2 := h2.alloc (.cells #[.bool false, .int .i64 0] 52) |>.cell r _ (bits_at long hr)
  have HKA := Lib.hid kA
  have HBA := Lib.hid bA
  have HT := Lib.hid hT
  have HF := Lib.hid hf
  clear h1 h2 kA bA hT hf
  rcases hlg : long (r : Int) with _ | _
  · rw [hlg] at c2
    generalize hQ : PickOut T false r w = Q
    go_enter Try.func16, Try.ntmps16
    go_wp2
    go_loopw [21] (fun i wr => PkRel w 12 i wr) (fun i _ => 12 - (intOf i).toNat)
    case atStart => exact ⟨0, by omega, rfl, HKA.out, HBA.out⟩
    case round =>
      obtain ⟨j, hj, rfl, hk, hb⟩ := hrel
      have hwl := hk.lt
      by_cases hlt : j < 12
      · have hji : (j : Int) < 12 := by omega
        have hx : (Lit.int .i64 ((j : Int))).wf = true := (wf_iff _).2 (by omega)
        have X : Below w.heap.size w (wr.alloc (.cells #[.bool false, .int .i64 ((j : Int))] 52)) := by (repeat (first | with_reducible assumption | with_reducible exact Below.refl _ _ | (refine Below.setCell ?_ (by first | omega | (simp; done) | (simp; omega)) _) | (refine Below.drewN_ ?_ _) | (refine Below.drew ?_) | (refine Below.alloc ?_ (by first | omega | (simp; done) | (simp; omega)) _)))
        have kN := Blk.new_ wr 52 #[.bool false, .int .i64 ((j : Int))]
        have kL := hk.alloc (.cells #[.bool false, .int .i64 ((j : Int))] 52)
        have hlk := (HT.out.below X).look false ((j : Int)) hx
        have f0 := hk.free 0
        have f1 := hk.free 1
        have p0 := hk.cell 0 (.bool false) rfl
        have p1 := hk.cell 1 (.int .i64 0) rfl
        have HX := Lib.hid X
        have HKL := Lib.hid kL
        rcases hT0 : T false ((j : Int)) with _ | _
        · rw [hT0] at hlk
          have kR : Blk (((wr.setCell ⟨w.heap.size, 0, none⟩ (.bool false)).setCell ⟨w.heap.size, 1, none⟩ (.int .i64 ((j : Int)))).alloc (.cells #[.bool false, .int .i64 ((j : Int))] 52)) w.heap.size 52 #[.bool false, .int .i64 ((j : Int))] := ((hk.set_ 0 _).set_ 1 _).alloc _
          have hP : Q (.returned (locV false ((j : Int)))) (((wr.setCell ⟨w.heap.size, 0, none⟩ (.bool false)).setCell ⟨w.heap.size, 1, none⟩ (.int .i64 ((j : Int)))).alloc (.cells #[.bool false, .int .i64 ((j : Int))] 52)) := by
            rw [← hQ]
            exact ⟨false, _, rfl, hT0, by omega, fun _ => ⟨by omega, fun h => by first | omega | cases h⟩, (fun h => by cases h), ((hb.setCell (p := ⟨w.heap.size, 0, none⟩) (Nat.le_refl _) _).setCell (p := ⟨w.heap.size, 1, none⟩) (Nat.le_refl _) _).alloc (by simp; omega) _⟩
          have HP := Lib.hid hP
          have HKR := Lib.hid kR
          clear X kN kL kR hP hk hb hT0
          go_wp2
          exact bodyPost_ret (results_loc (by kernel_rfl) HKR.out rfl) rfl HP.out
        · rw [hT0] at hlk
          clear X kN kL hk hb hT0
          go_wp2
          go_roundw
          case rel => exact ⟨j + 1, by omega, by go_num, HKL.out, HX.out⟩
          case measure => (first | (simp [intOf]; done) | (simp [intOf]; omega))
      · obtain rfl : j = 12 := by omega
        clear hlt hj
        have HK := Lib.hid hk
        have HB := Lib.hid hb
        clear hk hb
        go_upto_region 12 with (fail)
        go_loopw [10] (fun i wx => StRel w T r i wx) (fun i _ => r - (intOf i).toNat)
        case atStart => exact ⟨0, Nat.zero_le _, rfl, HK.out, HB.out⟩
        case round =>
          clear HK HB
          obtain ⟨n, hn, rfl, hk, hb⟩ := hrel
          have hwl := hk.lt
          have hni : (n : Int) ≤ (r : Int) := by omega
          have hx : (Lit.int .i64 (n : Int)).wf = true := (wf_iff _).2 (by omega)
          have X : Below w.heap.size w (wr.alloc (.cells #[.bool true, .int .i64 (n : Int)] 52)) := by (repeat (first | with_reducible assumption | with_reducible exact Below.refl _ _ | (refine Below.setCell ?_ (by first | omega | (simp; done) | (simp; omega)) _) | (refine Below.drewN_ ?_ _) | (refine Below.drew ?_) | (refine Below.alloc ?_ (by first | omega | (simp; done) | (simp; omega)) _)))
          have kL := hk.alloc (.cells #[.bool true, .int .i64 (n : Int)] 52)
          have hlk := (HT.out.below X).look true (n : Int) hx
          have f0 := hk.free 0
          have f1 := hk.free 1
          have p0 := hk.cell 0 (.bool false) rfl
          have p1 := hk.cell 1 (.int .i64 0) rfl
          have HX := Lib.hid X
          have HKL := Lib.hid kL
          rcases hT0 : T true (n : Int) with _ | _
          · rw [hT0] at hlk
            have kR : Blk (((wr.setCell ⟨w.heap.size, 0, none⟩ (.bool true)).setCell ⟨w.heap.size, 1, none⟩ (.int .i64 (n : Int))).alloc (.cells #[.bool true, .int .i64 (n : Int)] 52)) w.heap.size 52 #[.bool true, .int .i64 (n : Int)] := ((hk.set_ 0 _).set_ 1 _).alloc _
            have hP : Q (.returned (locV true (n : Int))) (((wr.setCell ⟨w.heap.size, 0, none⟩ (.bool true)).setCell ⟨w.heap.size, 1, none⟩ (.int .i64 (n : Int))).alloc (.cells #[.bool true, .int .i64 (n : Int)] 52)) := by
              rw [← hQ]
              exact ⟨true, _, rfl, hT0, by omega, (fun h => by cases h), fun _ => hni, ((hb.setCell (p := ⟨w.heap.size, 0, none⟩) (Nat.le_refl _) _).setCell (p := ⟨w.heap.size, 1, none⟩) (Nat.le_refl _) _).alloc (by simp; omega) _⟩
            have HP := Lib.hid hP
            have HKR := Lib.hid kR
            clear X kL kR hP hk hb hT0
            go_wp2
            exact bodyPost_ret (results_loc (by kernel_rfl) HKR.out rfl) rfl HP.out
          · rw [hT0] at hlk
            have hnr : n < r := by
              rcases Nat.lt_or_ge n r with h | h
              · exact h
              · obtain rfl : n = r := by omega
                rw [HF.out] at hT0
                cases hT0
            clear X kL hk hb hT0
            go_wp2
            go_roundw
            case rel => exact ⟨n + 1, by omega, by go_num, HKL.out, HX.out⟩
            case measure => (first | (simp [intOf]; done) | (simp [intOf]; omega))
  · rw [hlg] at c2
    generalize hQ : PickOut T true r w = Q
    go_enter Try.func16, Try.ntmps16
    go_wp2
    go_loopw [21] (fun i wr => PkRel w 8 i wr) (fun i _ => 8 - (intOf i).toNat)
    case atStart => exact ⟨0, by omega, rfl, HKA.out, HBA.out⟩
    case round =>
      obtain ⟨j, hj, rfl, hk, hb⟩ := hrel
      have hwl := hk.lt
      by_cases hlt : j < 8
      · have hji : (j : Int) < 8 := by omega
        have hx : (Lit.int .i64 (4 + (j : Int))).wf = true := (wf_iff _).2 (by omega)
        have X : Below w.heap.size w (wr.alloc (.cells #[.bool false, .int .i64 (4 + (j : Int))] 52)) := by (repeat (first | with_reducible assumption | with_reducible exact Below.refl _ _ | (refine Below.setCell ?_ (by first | omega | (simp; done) | (simp; omega)) _) | (refine Below.drewN_ ?_ _) | (refine Below.drew ?_) | (refine Below.alloc ?_ (by first | omega | (simp; done) | (simp; omega)) _)))
        have kN := Blk.new_ wr 52 #[.bool false, .int .i64 (4 + (j : Int))]
        have kL := hk.alloc (.cells #[.bool false, .int .i64 (4 + (j : Int))] 52)
        have hlk := (HT.out.below X).look false (4 + (j : Int)) hx
        have f0 := hk.free 0
        have f1 := hk.free 1
        have p0 := hk.cell 0 (.bool false) rfl
        have p1 := hk.cell 1 (.int .i64 0) rfl
        have HX := Lib.hid X
        have HKL := Lib.hid kL
        rcases hT0 : T false (4 + (j : Int)) with _ | _
        · rw [hT0] at hlk
          have kR : Blk (((wr.setCell ⟨w.heap.size, 0, none⟩ (.bool false)).setCell ⟨w.heap.size, 1, none⟩ (.int .i64 (4 + (j : Int)))).alloc (.cells #[.bool false, .int .i64 (4 + (j : Int))] 52)) w.heap.size 52 #[.bool false, .int .i64 (4 + (j : Int))] := ((hk.set_ 0 _).set_ 1 _).alloc _
          have hP : Q (.returned (locV false (4 + (j : Int)))) (((wr.setCell ⟨w.heap.size, 0, none⟩ (.bool false)).setCell ⟨w.heap.size, 1, none⟩ (.int .i64 (4 + (j : Int)))).alloc (.cells #[.bool false, .int .i64 (4 + (j : Int))] 52)) := by
            rw [← hQ]
            exact ⟨false, _, rfl, hT0, by omega, fun _ => ⟨by omega, fun h => by first | omega | cases h⟩, (fun h => by cases h), ((hb.setCell (p := ⟨w.heap.size, 0, none⟩) (Nat.le_refl _) _).setCell (p := ⟨w.heap.size, 1, none⟩) (Nat.le_refl _) _).alloc (by simp; omega) _⟩
          have HP := Lib.hid hP
          have HKR := Lib.hid kR
          clear X kN kL kR hP hk hb hT0
          go_wp2
          exact bodyPost_ret (results_loc (by kernel_rfl) HKR.out rfl) rfl HP.out
        · rw [hT0] at hlk
          clear X kN kL hk hb hT0
          go_wp2
          go_roundw
          case rel => exact ⟨j + 1, by omega, by go_num, HKL.out, HX.out⟩
          case measure => (first | (simp [intOf]; done) | (simp [intOf]; omega))
      · obtain rfl : j = 8 := by omega
        clear hlt hj
        have HK := Lib.hid hk
        have HB := Lib.hid hb
        clear hk hb
        go_upto_region 12 with (fail)
        go_loopw [10] (fun i wx => StRel w T r i wx) (fun i _ => r - (intOf i).toNat)
        case atStart => exact ⟨0, Nat.zero_le _, rfl, HK.out, HB.out⟩
        case round =>
          clear HK HB
          obtain ⟨n, hn, rfl, hk, hb⟩ := hrel
          have hwl := hk.lt
          have hni : (n : Int) ≤ (r : Int) := by omega
          have hx : (Lit.int .i64 (n : Int)).wf = true := (wf_iff _).2 (by omega)
          have X : Below w.heap.size w (wr.alloc (.cells #[.bool true, .int .i64 (n : Int)] 52)) := by (repeat (first | with_reducible assumption | with_reducible exact Below.refl _ _ | (refine Below.setCell ?_ (by first | omega | (simp; done) | (simp; omega)) _) | (refine Below.drewN_ ?_ _) | (refine Below.drew ?_) | (refine Below.alloc ?_ (by first | omega | (simp; done) | (simp; omega)) _)))
          have kL := hk.alloc (.cells #[.bool true, .int .i64 (n : Int)] 52)
          have hlk := (HT.out.below X).look true (n : Int) hx
          have f0 := hk.free 0
          have f1 := hk.free 1
          have p0 := hk.cell 0 (.bool false) rfl
          have p1 := hk.cell 1 (.int .i64 0) rfl
          have HX := Lib.hid X
          have HKL := Lib.hid kL
          rcases hT0 : T true (n : Int) with _ | _
          · rw [hT0] at hlk
            have kR : Blk (((wr.setCell ⟨w.heap.size, 0, none⟩ (.bool true)).setCell ⟨w.heap.size, 1, none⟩ (.int .i64 (n : Int))).alloc (.cells #[.bool true, .int .i64 (n : Int)] 52)) w.heap.size 52 #[.bool true, .int .i64 (n : Int)] := ((hk.set_ 0 _).set_ 1 _).alloc _
            have hP : Q (.returned (locV true (n : Int))) (((wr.setCell ⟨w.heap.size, 0, none⟩ (.bool true)).setCell ⟨w.heap.size, 1, none⟩ (.int .i64 (n : Int))).alloc (.cells #[.bool true, .int .i64 (n : Int)] 52)) := by
              rw [← hQ]
              exact ⟨true, _, rfl, hT0, by omega, (fun h => by cases h), fun _ => hni, ((hb.setCell (p := ⟨w.heap.size, 0, none⟩) (Nat.le_refl _) _).setCell (p := ⟨w.heap.size, 1, none⟩) (Nat.le_refl _) _).alloc (by simp; omega) _⟩
            have HP := Lib.hid hP
            have HKR := Lib.hid kR
            clear X kL kR hP hk hb hT0
            go_wp2
            exact bodyPost_ret (results_loc (by kernel_rfl) HKR.out rfl) rfl HP.out
          · rw [hT0] at hlk
            have hnr : n < r := by
              rcases Nat.lt_or_ge n r with h | h
              · exact h
              · obtain rfl : n = r := by omega
                rw [HF.out] at hT0
                cases hT0
            clear X kL hk hb hT0
            go_wp2
            go_roundw
            case rel => exact ⟨n + 1, by omega, by go_num, HKL.out, HX.out⟩
            case measure => (first | (simp [intOf]; done) | (simp [intOf]; omega))
end Go.Proofs.Ytkkjkbljgaipcaa
/- What colour.build keeps: the graph, the rows, the live sets. -/
namespace Go.Proofs.Ytkkjkbljgaipcaa
open Go.RowKit
set_option linter.unusedVariables false
set_option linter.unusedSimpArgs false
set_option maxRecDepth 100000
/-- two registers lie apart -/
def Sym (G : Nat → Int → Bool) (p q : Nat) : Prop := p = q ∨ (G p (q : Int) = true ∧ G q (p : Int) = true)
theorem Sym.up {G G' : Nat → Int → Bool} {p q : Nat} (h : Sym G p q) (hG : ∀ i x, G i x = true → G' i x = true) : Sym G' p q := h.imp id fun h => ⟨hG _ _ h.1, hG _ _ h.2⟩
theorem Sym.new_ (G : Nat → Int → Bool) (a b : Nat) : Sym (addE G a b) a b := by
  by_cases h : a = b
  · exact .inl h
  · exact .inr (addE_at G h)
/-- q is live behind order i -/
def Beh (code : List Or) (i : Nat) (q : Int) : Prop := ∃ h : i < code.length, ∃ k : Nat, (k : Int) ∈ leadsL code[i] i ∧ liveB code k q = true
def Req0 (code : List Or) (G : Nat → Int → Bool) : Prop := ∀ p q : Nat, liveB code 0 (p : Int) = true → liveB code 0 (q : Int) = true → Sym G p q
def ReqO (d : List Int) (call : Bool) (B : Int → Prop) (G : Nat → Int → Bool) (lg : Int → Bool) : Prop :=
  (∀ a q : Nat, (a : Int) ∈ d → (B (q : Int) ∨ (q : Int) ∈ d) → Sym G a q) ∧ (call = true → ∀ q, B q → q ∉ d → lg q = true)
def ReqK (code : List Or) (k : Nat) (G : Nat → Int → Bool) (lg : Int → Bool) : Prop := ∀ i (h : i < code.length), i < k → ReqO code[i].d (code[i].op == 7 || code[i].op == 8) (Beh code i) G lg
theorem Req0.up {code : List Or} {G G' : Nat → Int → Bool} (h : Req0 code G) (hG : ∀ i x, G i x = true → G' i x = true) : Req0 code G' := fun p q h1 h2 => (h p q h1 h2).up hG
theorem ReqO.up {d : List Int} {call : Bool} {B : Int → Prop} {G G' : Nat → Int → Bool} {lg lg' : Int → Bool} (h : ReqO d call B G lg) (hG : ∀ i x, G i x = true → G' i x = true) (hl : ∀ x, lg x = true → lg' x = true) : ReqO d call B G' lg' :=
  ⟨fun a q h1 h2 => (h.1 a q h1 h2).up hG, fun hc q h1 h2 => hl _ (h.2 hc q h1 h2)⟩
theorem ReqK.up {code : List Or} {k : Nat} {G G' : Nat → Int → Bool} {lg lg' : Int → Bool} (h : ReqK code k G lg) (hG : ∀ i x, G i x = true → G' i x = true) (hl : ∀ x, lg x = true → lg' x = true) : ReqK code k G' lg' :=
  fun i hi hk => (h i hi hk).up hG hl
theorem ReqK.next {code : List Or} {k : Nat} {G : Nat → Int → Bool} {lg : Int → Bool} (h : ReqK code k G lg) (hn : ∀ hk : k < code.length, ReqO code[k].d (code[k].op == 7 || code[k].op == 8) (Beh code k) G lg) : ReqK code (k + 1) G lg := fun i hi hlt => by
  rcases Nat.lt_or_ge i k with h1 | h1
  · exact h i hi h1
  · obtain rfl : i = k := by omega
    exact hn hi
/-- the state of the walk -/
structure Bst (H S0 K regs : Nat) (code : List Or) (bo : Array Value) (g X lb I : Nat) (ms ss : List Nat) (w wr : World) (G : Nat → Int → Bool) (lg : Int → Bool) : Prop where
  body : Blk wr H 28 bo
  gr : Blk wr g 50 #[.slice (some ⟨X, 0, none⟩) regs regs, .slice (some ⟨lb, 0, none⟩) regs regs]
  ins : Blk wr X 46 (ms.map fun m => Value.map (some m)).toArray
  edges : EdgesAt wr H regs ms G
  long : Blk wr lb 4 (bits regs lg)
  live : Blk wr I 46 (ss.map fun m => Value.map (some m)).toArray
  sets : MapsAt wr S0 regs ss (liveB code)
  below : Below H w wr
  hl : H ≤ lb
  hm : ms.length = regs
  hs : ss.length = code.length
  low : ∀ m ∈ ms, m < S0
  sk : S0 ≤ K
  big : K ≤ wr.heap.size
  top : H < K ∧ g < K ∧ X < K ∧ lb < K ∧ I < K ∧ ∀ m ∈ ss, m < K
theorem Bst.rowsOf {H S0 K regs : Nat} {code : List Or} {bo : Array Value} {g X lb I : Nat} {ms ss : List Nat} {w wr : World} {G : Nat → Int → Bool} {lg : Int → Bool} (h : Bst H S0 K regs code bo g X lb I ms ss w wr G lg) : RowsOf wr H g X lb regs ms := ⟨h.hl, h.hm, h.gr, h.ins⟩
theorem Bst.only {H S0 K regs : Nat} {code : List Or} {bo : Array Value} {g X lb I : Nat} {ms ss : List Nat} {w wr w' : World} {G : Nat → Int → Bool} {lg : Int → Bool} {al : List Nat} (h : Bst H S0 K regs code bo g X lb I ms ss w wr G lg)
    (ho : Only al wr w') (hal : ∀ c ∈ al, K ≤ c) : Bst H S0 K regs code bo g X lb I ms ss w w' G lg := by
  obtain ⟨t1, t2, t3, t4, t5, t6⟩ := h.top
  have n : ∀ c, c < K → c ∉ al := fun c hc hm => by have := hal c hm; omega
  have hsk := h.sk
  have hlH := h.body.lt
  exact ⟨ho.blk h.body (n _ t1), ho.blk h.gr (n _ t2), ho.blk h.ins (n _ t3), ⟨h.edges.1, h.edges.2.1, fun i hi => ⟨(h.edges.2.2 i hi).1, ho.set (h.edges.2.2 i hi).2 (n _ (by have := h.low _ (List.getElem_mem hi); omega))⟩⟩,
    ho.blk h.long (n _ t4), ho.blk h.live (n _ t5), ⟨h.sets.1, fun i hi => ⟨(h.sets.2 i hi).1, ho.set (h.sets.2 i hi).2 (n _ (t6 _ (List.getElem_mem hi)))⟩⟩,
    h.below.trans (ho.belowB (fun c hc => by have := hal c hc; omega) (Nat.le_of_lt hlH)), h.hl, h.hm, h.hs, h.low, h.sk, Nat.le_trans h.big ho.2.2.2.1, h.top⟩
theorem Bst.keep {H S0 K regs : Nat} {code : List Or} {bo : Array Value} {g X lb I : Nat} {ms ss : List Nat} {w wr w' : World} {G : Nat → Int → Bool} {lg : Int → Bool} (h : Bst H S0 K regs code bo g X lb I ms ss w wr G lg)
    (hb : Below wr.heap.size wr w') : Bst H S0 K regs code bo g X lb I ms ss w w' G lg := h.only (Only.below hb []) (fun c hc => by cases hc)
theorem Bst.grown {H S0 K regs : Nat} {code : List Or} {bo : Array Value} {g X lb I : Nat} {ms ss : List Nat} {w wr w' : World} {G : Nat → Int → Bool} {lg : Int → Bool} {r : Nat} (h : Bst H S0 K regs code bo g X lb I ms ss w wr G lg)
    (hg : wr.grownBy w' (some r)) (hr : K ≤ r) : Bst H S0 K regs code bo g X lb I ms ss w w' G lg :=
  h.only (Only.grown hg [r] (fun c e => by injection e with e; simp [e])) (fun c hc => by rw [List.mem_singleton] at hc; omega)
theorem Bst.split {H S0 K regs : Nat} {code : List Or} {bo : Array Value} {g X lb I : Nat} {ms ss : List Nat} {w wr w' : World} {G G' : Nat → Int → Bool} {lg : Int → Bool} (h : Bst H S0 K regs code bo g X lb I ms ss w wr G lg)
    (hE : EdgesAt w' H regs ms G') (ho : Only ms wr w') : Bst H S0 K regs code bo g X lb I ms ss w w' G' lg := by
  have nb : ∀ {x t cs}, Blk wr x t cs → x ∉ ms := fun hb hm => by
    obtain ⟨i, hi, e⟩ := List.mem_iff_getElem.1 hm
    exact set_ne_blk (h.edges.2.2 i hi).2 hb e.symm
  exact ⟨ho.blk h.body (nb h.body), ho.blk h.gr (nb h.gr), ho.blk h.ins (nb h.ins), hE, ho.blk h.long (nb h.long), ho.blk h.live (nb h.live),
    ⟨h.sets.1, fun i hi => ⟨(h.sets.2 i hi).1, ho.set (h.sets.2 i hi).2 (fun hm => by have := h.low _ hm; have := (h.sets.2 i hi).1; omega)⟩⟩,
    h.below.trans (ho.belowB (fun c hc => by obtain ⟨i, hi, rfl⟩ := List.mem_iff_getElem.1 hc; exact (h.edges.2.2 i hi).1) (Nat.le_of_lt h.body.lt)), h.hl, h.hm, h.hs, h.low, h.sk, Nat.le_trans h.big ho.2.2.2.1, h.top⟩
theorem Bst.setLong {H S0 K regs : Nat} {code : List Or} {bo : Array Value} {g X lb I : Nat} {ms ss : List Nat} {w wr : World} {G : Nat → Int → Bool} {lg : Int → Bool} (h : Bst H S0 K regs code bo g X lb I ms ss w wr G lg) {r : Nat} (hr : r < regs) (v : Bool) (hv : lg (r : Int) = true → v = true) :
    Bst H S0 K regs code bo g X lb I ms ss w (wr.setCell ⟨lb, r, none⟩ (.bool v)) G (fun y => (v && (y == (r : Int))) || lg y) := by
  have hg := grow_set wr lb r (.bool v)
  have hbl : bits regs (fun y => (v && (y == (r : Int))) || lg y) = (bits regs lg).setIfInBounds r (.bool v) := by
    rcases v with _ | _
    · have hl : lg (r : Int) = false := by
        rcases e : lg (r : Int) with _ | _
        · rfl
        · exact absurd (hv e) (by decide)
      simp only [Bool.false_and, Bool.false_or]
      apply Array.ext_getElem?
      intro j
      rw [Array.getElem?_setIfInBounds]
      split
      · next e => subst e; rw [bits_at lg hr, hl]; simp [bits, hr]
      · rfl
    · simp only [Bool.true_and]
      exact (bits_set lg hr).symm
  exact ⟨h.body.far (Blk.ne_ h.body h.long (by decide)) _, h.gr.far (Blk.ne_ h.gr h.long (by decide)) _, h.ins.far (Blk.ne_ h.ins h.long (by decide)) _,
    ⟨h.edges.1, h.edges.2.1, fun i hi => ⟨(h.edges.2.2 i hi).1, (h.edges.2.2 i hi).2.kept hg (fun e => set_ne_blk (h.edges.2.2 i hi).2 h.long (by injection e with e; exact e.symm))⟩⟩,
    by rw [hbl]; exact h.long.set_ r _, h.live.far (Blk.ne_ h.live h.long (by decide)) _,
    h.sets.kept hg (fun i hi e => set_ne_blk (h.sets.2 i hi).2 h.long (by injection e with e; exact e.symm)),
    h.below.setCell (p := ⟨lb, r, none⟩) h.hl _, h.hl, h.hm, h.hs, h.low, h.sk, by rw [show (wr.setCell ⟨lb, r, none⟩ (.bool v)).heap.size = wr.heap.size by simp [World.setCell]]; exact h.big, h.top⟩
/-- what an iterator says -/
theorem RangeAt.only1 {w w' : World} {b r m : Nat} {S L : Int → Bool} {cnt : Nat} {al : List Nat} (h : RangeAt w b r m S L cnt) (ho : Only al w w') (hb : b ∉ al) (hi : ∀ c ∈ al, ∃ es k, w.heap[c]? = some (.map es k)) : RangeAt w' b r m S L cnt := by
  refine ho.range h hb (fun hm => ?_)
  obtain ⟨es, k, e⟩ := hi r hm
  obtain ⟨x, y, z, u, e2⟩ := h.at_iter
  rw [e] at e2
  cases e2
theorem Bst.maps_ {H S0 K regs : Nat} {code : List Or} {bo : Array Value} {g X lb I : Nat} {ms ss : List Nat} {w wr : World} {G : Nat → Int → Bool} {lg : Int → Bool} (h : Bst H S0 K regs code bo g X lb I ms ss w wr G lg) : ∀ c ∈ ms, ∃ es k, wr.heap[c]? = some (.map es k) := fun c hc => by
  obtain ⟨i, hi, rfl⟩ := List.mem_iff_getElem.1 hc
  exact (h.edges.2.2 i hi).2.at_map
theorem Bst.not_ms {H S0 K regs : Nat} {code : List Or} {bo : Array Value} {g X lb I : Nat} {ms ss : List Nat} {w wr : World} {G : Nat → Int → Bool} {lg : Int → Bool} (h : Bst H S0 K regs code bo g X lb I ms ss w wr G lg) {b : Nat} (hb : S0 ≤ b) : b ∉ ms := fun hm => by
  have := h.low b hm; omega
/-- the build's outcome -/
def BuildOut (b : Bo) (w : World) (e : Ending) (w' : World) : Prop := ∃ (regs g X lb : Nat) (ms : List Nat) (G : Nat → Int → Bool) (lg : Int → Bool), b.regs = (regs : Int) ∧ e = .returned (.pointer (some ⟨g, 0, none⟩)) ∧ RowsOf w' w.heap.size g X lb regs ms ∧ EdgesAt w' w.heap.size regs ms G ∧
  Blk w' lb 4 (bits regs lg) ∧ Req0 b.code G ∧ ReqK b.code b.code.length G lg ∧ Below w.heap.size w w'
end Go.Proofs.Ytkkjkbljgaipcaa
/- A row of places, two cells each. -/
namespace Go.Proofs.Ytkkjkbljgaipcaa
open Go.RowKit
set_option linter.unusedVariables false
set_option linter.unusedSimpArgs false
set_option maxRecDepth 100000
/-- the cells of places -/
def locCells (ls : List (Bool × Int)) : List Value := ls.flatMap fun p => [Value.bool p.1, Value.int .i64 p.2]
theorem locCells_len (ls : List (Bool × Int)) : (locCells ls).length = 2 * ls.length := by
  unfold locCells
  induction ls with
  | nil => rfl
  | cons p r ih => simp only [List.flatMap_cons, List.length_append, ih, List.length_cons, List.length_nil]; omega
theorem locCells_cons (p : Bool × Int) (r : List (Bool × Int)) : locCells (p :: r) = .bool p.1 :: .int .i64 p.2 :: locCells r := rfl
theorem locCells_at : ∀ (ls : List (Bool × Int)) {i : Nat} (h : i < ls.length), (locCells ls)[2 * i]? = some (.bool ls[i].1) ∧ (locCells ls)[2 * i + 1]? = some (.int .i64 ls[i].2)
  | [], _, h => absurd h (by simp)
  | p :: r, 0, _ => by rw [locCells_cons]; exact ⟨rfl, rfl⟩
  | p :: r, i + 1, h => by
    have := locCells_at r (i := i) (by simpa using h)
    rw [locCells_cons, show 2 * (i + 1) = 2 * i + 1 + 1 by omega]
    simpa using this
theorem locCells_set : ∀ (ls : List (Bool × Int)) {i : Nat} (p : Bool × Int), i < ls.length → ((locCells ls).set (2 * i) (.bool p.1)).set (2 * i + 1) (.int .i64 p.2) = locCells (ls.set i p)
  | [], _, _, h => absurd h (by simp)
  | q :: r, 0, p, _ => by rw [locCells_cons]; simp [locCells_cons]
  | q :: r, i + 1, p, h => by
    have := locCells_set r (i := i) p (by simpa using h)
    rw [locCells_cons, show 2 * (i + 1) = 2 * i + 1 + 1 by omega]
    simp only [List.set_cons_succ, locCells_cons]
    rw [this]
theorem locs_set {ls : List (Bool × Int)} {i : Nat} (p : Bool × Int) (h : i < ls.length) : ((locCells ls).toArray.setIfInBounds (2 * i) (.bool p.1)).setIfInBounds (2 * i + 1) (.int .i64 p.2) = (locCells (ls.set i p)).toArray := by
  rw [List.setIfInBounds_toArray, List.setIfInBounds_toArray, locCells_set ls p h]
theorem locs_made (n : Nat) : madeCells #[Value.bool false, Value.int .i64 0] (n * 2) = (locCells (List.replicate n (false, 0))).toArray := by
  apply Array.ext'
  simp only [List.toList_toArray]
  apply List.ext_getElem?
  intro j
  by_cases hj : j < 2 * n
  · have hj2 : j < n * 2 := by omega
    rw [Array.getElem?_toList]
    have hl : j / 2 < (List.replicate n (false, (0 : Int))).length := by simp; omega
    obtain ⟨h1, h2⟩ := locCells_at (List.replicate n (false, (0 : Int))) hl
    rcases Nat.mod_two_eq_zero_or_one j with e | e
    · rw [show 2 * (j / 2) = j by omega] at h1
      rw [h1]
      simp [madeCells, e, hj2]
    · rw [show 2 * (j / 2) + 1 = j by omega] at h2
      rw [h2]
      simp [madeCells, e, hj2]
  · rw [List.getElem?_eq_none (by rw [Array.length_toList, size_madeCells]; omega), List.getElem?_eq_none (by rw [locCells_len, List.length_replicate]; omega)]
theorem info_locs : (Try.prog.info? 52).map (fun i => (i.zero, i.size, i.bytes)) = some (some (.agg #[.bool false, .int .i64 0]), 2, 16) := by kernel_rfl
/-- make([]api.Loc, n) -/
theorem make_locs (n : Nat) (hn : n ≤ 8000) (w : World) : (Instr.makeSlice 29 (.int .i64 (n : Int)) (.int .i64 (n : Int))).run Try.prog w = .ok (.slice (some ⟨w.heap.size, 0, none⟩) n n) (w.alloc (.cells (locCells (List.replicate n (false, 0))).toArray 52)) := by
  obtain ⟨i, hi, hzz⟩ := Option.map_eq_some_iff.1 info_locs
  simp only [Prod.mk.injEq] at hzz
  obtain ⟨hz, hs, hb⟩ := hzz
  have hr := run_make (P := Try.prog) w 29 52 i _ Try.underlying29 hi hz .i64 .i64 n n (by omega) (Int.le_refl _) (by rw [hb]; omega) (by omega)
  simp only [Int.toNat_natCast, hs] at hr
  rw [← locs_made]
  exact hr
end Go.Proofs.Ytkkjkbljgaipcaa
