/- A map that the call itself has made, as a function from keys to values: made, looked up, written. No program is in sight. -/
import Derived.Test.YtkkjkbljgaipcaaLib
import Derived.Maps.Own
import Derived.Maps.OwnOps
import Derived.DeepKeys5
namespace Go.Proofs.Ytkkjkbljgaipcaa
open Go.RowKit
open Go.Maps (Keyed)
open Go.ChangeMaps
set_option linter.unusedVariables false
/-- block b is a map that holds just what g says -/
def MapIs (P : Program) (k : TypeId) (w : World) (b : Nat) (g : Value → Option Value) : Prop :=
  ∃ es clock, w.heap[b]? = some (.map es clock) ∧ (∀ e ∈ es.toList, ∃ l, keyOf P k e.key = some l) ∧ (es.toList.Pairwise fun e e' => e.key ≠ e'.key) ∧ ∀ v u, g v = some u ↔ ∃ e ∈ es.toList, e.key = v ∧ e.val = u
open Classical in
noncomputable def gput (g : Value → Option Value) (k u : Value) : Value → Option Value := fun v => if v = k then some u else g v
theorem gput_same (g : Value → Option Value) (k u : Value) : gput g k u k = some u := by unfold gput; rw [if_pos rfl]
theorem gput_other (g : Value → Option Value) (k u v : Value) (h : v ≠ k) : gput g k u v = g v := by unfold gput; rw [if_neg h]
section
variable {P : Program} {k : TypeId} {w : World} {b : Nat} {g : Value → Option Value}
theorem MapIs.made (P : Program) (k : TypeId) (w : World) : MapIs P k (w.alloc (.map #[] 0)) w.heap.size (fun _ => none) :=
  ⟨#[], 0, heap_alloc_new w _, by simp, by simp, by simp⟩
theorem MapIs.keep {w' : World} (h : MapIs P k w b g) (he : w'.heap[b]? = w.heap[b]?) : MapIs P k w' b g := by
  obtain ⟨es, c, h1, h2⟩ := h
  exact ⟨es, c, he.trans h1, h2⟩
theorem MapIs.lt (h : MapIs P k w b g) : b < w.heap.size := by
  obtain ⟨es, c, h1, _⟩ := h
  rcases Nat.lt_or_ge b w.heap.size with hlt | hge
  · exact hlt
  · rw [Array.getElem?_eq_none hge] at h1; cases h1
theorem MapIs.alloc (h : MapIs P k w b g) (o : Obj) : MapIs P k (w.alloc o) b g := h.keep (Below.heap_alloc w o b h.lt)
theorem MapIs.setCell (h : MapIs P k w b g) {a : Addr} (ha : b ≠ a.block) (u : Value) : MapIs P k (w.setCell a u) b g := h.keep (Below.heap_setCell w a u b ha)
theorem MapIs.drewN (h : MapIs P k w b g) (n : Nat) : MapIs P k (w.drewN n) b g := h
theorem MapIs.below {w' : World} (h : MapIs P k w b g) (hb : Below w.heap.size w w') : MapIs P k w' b g := h.keep (hb.block b h.lt)
theorem MapIs.lookup {t e : TypeId} (h : MapIs P k w b g) (K : Keyed P k) (ht : P.underlying t = some (.map k e)) {z : Value} (hz : (zeroValue e).run P w = .ok z w) {key : Value} {kl : Lit} (hkey : keyOf P k key = some kl) :
    (Instr.lookup t (.map (some b)) key false).run P w = .ok ((g key).getD z) w := by
  obtain ⟨es, c, h1, h2, h3, h4⟩ := h
  have hc := K.check w es.isEmpty hkey
  rcases K.find w hkey es.toList h2 with ⟨hf, hn⟩ | ⟨j, e0, hf, hj, hk⟩
  · have hg : g key = none := by
      cases hgk : g key with
      | none => rfl
      | some u =>
        obtain ⟨e1, he1, hk1, _⟩ := (h4 key u).1 hgk
        exact absurd hk1 (hn e1 he1)
    simp [Instr.lookup, run_underlying ht, Sem.run, getObj, h1, hc, hf, hz, hg]
  · have hg : g key = some e0.val := (h4 key e0.val).2 ⟨e0, List.mem_of_getElem? hj, hk, rfl⟩
    simp [Instr.lookup, run_underlying ht, Sem.run, getObj, h1, hc, hf, hg]
theorem gput_iff (g : Value → Option Value) (key val v u : Value) : gput g key val v = some u ↔ (v = key ∧ val = u) ∨ (v ≠ key ∧ g v = some u) := by
  by_cases hv : v = key
  · subst hv; rw [gput_same]; simp
  · rw [gput_other _ _ _ _ hv]; simp [hv]
theorem mem_modify {es : Array MapEntry} {j : Nat} {e0 : MapEntry} {f : MapEntry → MapEntry} (hj : es[j]? = some e0) (e1 : MapEntry) : e1 ∈ (es.modify j f).toList ↔ (∃ i, i ≠ j ∧ es[i]? = some e1) ∨ e1 = f e0 := by
  rw [List.mem_iff_getElem?]
  constructor
  · rintro ⟨i, hi⟩
    rw [Array.getElem?_toList, Array.getElem?_modify] at hi
    by_cases hij : j = i
    · subst hij; rw [if_pos rfl, hj] at hi; simp at hi; exact .inr hi.symm
    · rw [if_neg hij] at hi; exact .inl ⟨i, fun e => hij e.symm, hi⟩
  · rintro (⟨i, hi, he⟩ | rfl)
    · exact ⟨i, by rw [Array.getElem?_toList, Array.getElem?_modify, if_neg (fun e => hi e.symm)]; exact he⟩
    · exact ⟨j, by rw [Array.getElem?_toList, Array.getElem?_modify, if_pos rfl, hj]; rfl⟩
theorem MapIs.update {t e : TypeId} (h : MapIs P k w b g) (K : Keyed P k) (ht : P.underlying t = some (.map k e)) {key val : Value} {kl : Lit} (hkey : keyOf P k key = some kl) :
    ∃ w', (Instr.mapUpdate t (.map (some b)) key val).run P w = .ok () w' ∧ MapIs P k w' b (gput g key val) ∧ w.grownBy w' (some b) := by
  obtain ⟨es, c, h1, h2, h3, h4⟩ := h
  have hlt : b < w.heap.size := MapIs.lt (P := P) (k := k) (g := g) ⟨es, c, h1, h2, h3, h4⟩
  have hc := K.check w false hkey
  have hset : ∀ o : Obj, (w.heap.setIfInBounds b o)[b]? = some o := fun o => by rw [Array.getElem?_setIfInBounds]; simp [hlt]
  have hoth : ∀ (o : Obj) i, some i ≠ some b → (w.heap.setIfInBounds b o)[i]? = w.heap[i]? := fun o i hi => by
    rw [Array.getElem?_setIfInBounds, if_neg (fun e => hi (by rw [e]))]
  rcases K.find w hkey es.toList h2 with ⟨hf, hn⟩ | ⟨j, e0, hf, hj, hk⟩
  · refine ⟨{ w with heap := w.heap.setIfInBounds b (.map (es.push { key := key, val := val, born := c }) (c + 1)) }, ?_, ⟨_, _, hset _, ?_, ?_, ?_⟩, ⟨rfl, rfl, rfl, by simp, fun i _ hi => hoth _ i hi⟩⟩
    · simp [Instr.mapUpdate, run_underlying ht, Sem.run, getObj, setObj, h1, hc, hf]
    · intro e he
      rw [Array.toList_push, List.mem_append, List.mem_singleton] at he
      rcases he with he | rfl
      · exact h2 e he
      · exact ⟨kl, hkey⟩
    · rw [Array.toList_push, List.pairwise_append]
      refine ⟨h3, by simp, fun a ha b' hb' => ?_⟩
      rw [List.mem_singleton] at hb'
      subst hb'
      exact hn a ha
    · intro v u
      rw [gput_iff, Array.toList_push]
      constructor
      · rintro (⟨rfl, rfl⟩ | ⟨hv, hg⟩)
        · exact ⟨{ key := v, val := val, born := c }, by simp, rfl, rfl⟩
        · obtain ⟨e1, he1, hk1, hu1⟩ := (h4 v u).1 hg
          exact ⟨e1, by simp [he1], hk1, hu1⟩
      · rintro ⟨e1, he1, hk1, hu1⟩
        rw [List.mem_append, List.mem_singleton] at he1
        rcases he1 with he1 | rfl
        · exact .inr ⟨fun ev => hn e1 he1 (hk1.trans ev), (h4 v u).2 ⟨e1, he1, hk1, hu1⟩⟩
        · exact .inl ⟨hk1.symm, hu1⟩
  · have hjl : j < es.size := by
      have := (List.getElem?_eq_some_iff.1 hj).1
      simpa using this
    have hge : es[j]? = some e0 := by rw [← Array.getElem?_toList]; exact hj
    have hst := K.stays w hkey
    have hkey0 : ((es[j]?).map (·.key)).getD key = key := by rw [hge]; simpa using hk
    refine ⟨{ w with heap := w.heap.setIfInBounds b (.map (es.modify j fun e => { e with key := key, val := val }) c) }, ?_, ⟨_, _, hset _, ?_, ?_, ?_⟩, ⟨rfl, rfl, rfl, by simp, fun i _ hi => hoth _ i hi⟩⟩
    · simp [Instr.mapUpdate, run_underlying ht, Sem.run, getObj, setObj, h1, hc, hf, hkey0, hst]
    · intro e1 he1
      rcases (mem_modify hge e1).1 he1 with ⟨i, hi, he⟩ | rfl
      · exact h2 e1 (List.mem_of_getElem? (i := i) (by rw [Array.getElem?_toList]; exact he))
      · exact ⟨kl, hkey⟩
    · have hm : (es.modify j fun e => { e with key := key, val := val }).toList.map (·.key) = es.toList.map (·.key) := by
        apply List.ext_getElem?
        intro i
        rw [List.getElem?_map, List.getElem?_map, Array.getElem?_toList, Array.getElem?_toList, Array.getElem?_modify]
        by_cases hij : j = i
        · subst hij; rw [if_pos rfl, hge]; simp [hk]
        · rw [if_neg hij]
      have h3' : (es.toList.map (·.key)).Pairwise (· ≠ ·) := List.pairwise_map.2 h3
      rw [← hm] at h3'
      exact List.pairwise_map.1 h3'
    · intro v u
      rw [gput_iff]
      constructor
      · rintro (⟨rfl, rfl⟩ | ⟨hv, hg⟩)
        · exact ⟨_, (mem_modify hge _).2 (.inr rfl), rfl, rfl⟩
        · obtain ⟨e1, he1, hk1, hu1⟩ := (h4 v u).1 hg
          obtain ⟨i, hi⟩ := List.mem_iff_getElem?.1 he1
          rw [Array.getElem?_toList] at hi
          refine ⟨e1, (mem_modify hge _).2 (.inl ⟨i, fun hij => ?_, hi⟩), hk1, hu1⟩
          subst hij
          rw [hge] at hi
          injection hi with hi
          subst hi
          exact hv (hk1.symm.trans hk)
      · rintro ⟨e1, he1, hk1, hu1⟩
        rcases (mem_modify hge e1).1 he1 with ⟨i, hi, he⟩ | rfl
        · refine .inr ⟨fun ev => ?_, (h4 v u).2 ⟨e1, List.mem_of_getElem? (i := i) (by rw [Array.getElem?_toList]; exact he), hk1, hu1⟩⟩
          have hil : i < es.toList.length := by
            have := (Array.getElem?_eq_some_iff.1 he).1
            simpa using this
          have hp := List.pairwise_iff_getElem.1 h3
          have e1i : es.toList[i] = e1 := by
            have := (Array.getElem?_eq_some_iff.1 he).2
            simpa using this
          have e1j : es.toList[j]'(by simpa using hjl) = e0 := by
            have := (Array.getElem?_eq_some_iff.1 hge).2
            simpa using this
          rcases Nat.lt_or_gt_of_ne hi with hlt' | hgt'
          · exact hp i j hil (by simpa using hjl) hlt' (by rw [e1i, e1j, hk1, hk, ev])
          · exact hp j i (by simpa using hjl) hil hgt' (by rw [e1i, e1j, hk1, hk, ev])
        · exact .inl ⟨hk1.symm, hu1⟩
end
/-- a store into the call's own map, at the operation -/
theorem wpList_mapUpdate_is {P : Program} (w : World) {ops : Array Oper} {rest : List Oper} {o : Oper} {a : Act} {Q : Exit → Act → World → Prop}
    (hg : o.guard = none) (m x v : Operand) (t : TypeId) (hop : o.op = Op.mapUpdate t m x v)
    (k e : TypeId) (K : Keyed P k) (ht : P.underlying t = some (.map k e)) (b : Nat) (g : Value → Option Value)
    (hm : a.eval m = .map (some b)) (hown : MapIs P k w b g) (key val : Value) (kl : Lit) (hx : a.eval x = key) (hv : a.eval v = val) (hkey : keyOf P k key = some kl)
    (hK : ∀ w', MapIs P k w' b (gput g key val) → w.grownBy w' (some b) → wpList P ops Q rest (a.put o.dst undef) w') :
    wpList P ops Q (o :: rest) a w := by
  refine wpList_plain hg fun K' hK' => ?_
  obtain ⟨w', hrun, r1, r2⟩ := hown.update (val := val) K ht hkey
  unfold Oper.wp
  simp [execOp, hop, hm, hx, hv, hrun, Result.andThen]
  exact hK' _ _ (hK w' r1 r2)
end Go.Proofs.Ytkkjkbljgaipcaa
