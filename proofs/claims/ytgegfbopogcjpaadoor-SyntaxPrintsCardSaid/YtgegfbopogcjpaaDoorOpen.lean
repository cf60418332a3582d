/- What every law's last step shares: the row's word from 'it returns true and leaves what was there as it was'; a row of things opened. -/
import Derived.Test.YtgegfbopogcjpaaDoorLaid
import Derived.Test.YtgegfbopogcjpaaDoorLib
import Derived.Deep.Slices
import Derived.Carry
import Derived.ChangeSame
import Derived.WalkKit
import Derived.ProofKit
import Derived.OpenShut
namespace Go.Proofs.YtgegfbopogcjpaaDoor
open Go.ChangeShapes Go.WideShapes Go.ChangeAt Go.RowKit
set_option linter.unusedVariables false
set_option linter.unusedSimpArgs false
set_option maxRecDepth 100000
section
variable {H : Type} {enc : TypeId × Value → H} {P : Program}
theorem all_stay (hl : laidOutB P = true) {W W' : World} (hb : Below W.heap.size W W') : ∀ (ts : List TypeId) (vs : List Value) (ds : List (DataW H)) (ps : List MemPlace), (∀ t ∈ ts, P.readableRec t = true ∧ t < P.types.size) →
    (∀ p ∈ ps, p.block < W.heap.size) → DataW.TrodAll enc P W 0 (fun _ => true) true ts vs ds ps → ∀ sp : Nat → Bool, (∀ p ∈ ps, sp p.block = true) → DataW.TrodAll enc P W' 0 sp true ts vs ds ps
  | [], [], [], ps, _, _, h, _, _ => h
  | t :: ts, v :: vs, d :: ds, ps, hr, hlt, ⟨p, q, h1, h2, e⟩, sp, hsp => by
    subst e
    refine ⟨p, q, ?_, ?_, rfl⟩
    · exact WideElems.Trod_stays hl (hr t (by simp)).1 (hr t (by simp)).2 h1 (fun x hx => hb.same (hlt x (by simp [hx]))) (fun x hx => hsp x (by simp [hx]))
    · exact all_stay hl hb ts vs ds q (fun t' ht => hr t' (by simp [ht])) (fun x hx => hlt x (by simp [hx])) h2 sp (fun x hx => hsp x (by simp [hx]))
/-- the row's last step: 'true', and below the heap's old size nothing has turned -/
theorem law_post {f : Func} {s : ChangeSpec} {tb : TypeId} {apart fresh handsOn : Bool} {W W' : World} {args : Array Value} {ds gs : List (DataW H)} {before : List MemPlace}
    (hl : laidOutB P = true) (hread : ∀ t ∈ f.params.toList, P.readableRec t = true ∧ t < P.types.size) (hrt : f.resultTypes = #[tb]) (hbool : P.underlying tb = some .bool) (hv : s.vars = [])
    (hW : DataW.Whole enc P f.params.toList s.vars apart W args.toList ds gs before)
    (hfn : (s.fn H (ds ++ gs)).results = [.lit (.bool true)] ∧ (s.fn H (ds ++ gs)).args = ds ∧ (s.fn H (ds ++ gs)).vars = [])
    (hb : Below W.heap.size W W') :
    s.post enc P f apart fresh handsOn false W args (.bool true) W' := by
  have hlt : ∀ p ∈ before, p.block < W.heap.size := fun p hp => hW.lt p hp
  have hold : ∀ p ∈ before, (fun b => decide (b < W.heap.size)) p.block = true := fun p hp => by simpa using hlt p hp
  obtain ⟨hf1, hf2, hf3⟩ := hfn
  have hW' := hW
  obtain ⟨p, q, hA, hV, hpq, hz, hn⟩ := hW'
  rw [hv] at hV
  obtain ⟨rfl, rfl⟩ := trodVars_none hV
  have hp : before = p := by rw [hpq, List.append_nil]
  subst hp
  have hres : ∀ (b : Nat) (sp : Nat → Bool) (hd : Bool), DataW.TrodAll enc P W' b sp hd f.resultTypes.toList ((Value.bool true).resultList f.resultTypes.size) [.lit (.bool true)] [] := fun b sp hd => by
    rw [hrt]
    exact trodAll_cons_mk (shut_bool hbool true) trodAll_mk0
  refine ⟨ds, [], before, [], before, [], hW, ?_, ?_, ?_, World.keptBut_mono (fun p hp => ⟨hp, ?_⟩) (hb.frame (· ∈ before)), fun h => by cases h⟩
  · rw [hf1]
    exact hres _ _ _
  · rw [hf2]
    exact all_stay hl hb _ _ _ _ hread hlt hA _ hold
  · rw [hf3, hv]
    rfl
  · simpa using hp
end

section
variable {H : Type} {enc : TypeId × Value → H} {P : Program}
/-- a row of things, each of s cells, opened -/
theorem open_row {α : Type} [Inhabited α] (f : α → List Value) {s : Nat} (hs : ∀ x, (f x).length = s) {t e : TypeId} {w : World} {r : Reach} {b0 : Nat} {v : Value} {d : DataW H} {p : List MemPlace}
    (ht : P.underlying t = some (.slice e)) (hc : P.cellsOf e = s) (hpos : 0 < s)
    (hread : ∀ n cs' y, DataW.trod enc P w 0 (fun _ => true) true n e cs' = some y → ∃ x, cs' = f x)
    (hok : Value.okWide P w r b0 t v) (h : DataW.Trod enc P w 0 (fun _ => true) true t v d p) :
    ∃ (A : Option Addr) (l : List α) (c : Nat), v = .slice A l.length c ∧ Row w A (l.flatMap f) ∧ l.length ≤ maxLen := by
  obtain ⟨a, len, cap, rfl⟩ := okWide_slice ht hok
  obtain ⟨fuel, hf⟩ := h
  rcases Go.Deep.open_slice ht hf with ⟨h0, -⟩ | ⟨a', len', cap', m, n, D, Pl, hcs, hb, hle, hm, hmm, -, hx⟩
  · simp [Value.cells] at h0
    obtain ⟨rfl, rfl, rfl⟩ := h0
    exact ⟨none, [], 0, rfl, .inl rfl, Nat.zero_le _⟩
  · simp [Value.cells] at hcs
    obtain ⟨rfl, rfl, rfl⟩ := hcs
    simp at hmm
    subst hmm
    obtain ⟨X, hX⟩ := Go.Deep.choose_lt (α := α) (n := len) (p := fun i x => ∀ j v, (f x)[j]? = some v → w.cell? (a'.add (i * s + j)) = some v) (fun i hi => by
      obtain ⟨cs', h1, h2⟩ := hx i (by omega)
      obtain ⟨x, rfl⟩ := hread _ _ _ h2
      rw [hc] at h1
      obtain ⟨_, hlen, hat⟩ := World.cells?_some h1
      refine ⟨x, fun j v hj => ?_⟩
      have hjl : j < s := by rw [← hs x]; exact (List.getElem?_eq_some_iff.1 hj).1
      rw [← Go.Deep.add_add, hat j hjl, hj])
    refine ⟨some a', (List.range len).map X, m, by simp, ?_, by simp; omega⟩
    rcases Nat.eq_zero_or_pos len with hz | hz
    · subst hz
      exact .inl rfl
    · have hall : ∀ k v, (((List.range len).map X).flatMap f)[k]? = some v → w.cell? (a'.add k) = some v := fun k v hk => by
        have hkm : k / s * s + k % s = k := by rw [Nat.mul_comm]; exact Nat.div_add_mod k s
        rw [← hkm] at hk ⊢
        rw [flat_at f s hs _ _ _ (Nat.mod_lt _ hpos)] at hk
        rw [List.getElem?_map] at hk
        by_cases hi : k / s < len
        · rw [List.getElem?_range hi] at hk
          exact hX _ hi _ _ (by simpa using hk)
        · rw [List.getElem?_eq_none (by simpa using hi)] at hk
          simp at hk
      obtain ⟨v0, hv0⟩ : ∃ v0, (((List.range len).map X).flatMap f)[0]? = some v0 := by
        have h0 := flat_at f s hs ((List.range len).map X) 0 0 hpos
        rw [List.getElem?_map, List.getElem?_range hz] at h0
        simp at h0
        have hl0 : (f (X 0)) ≠ [] := fun h => by have := hs (X 0); rw [h] at this; simp at this; omega
        obtain ⟨y, ys, e⟩ := List.exists_cons_of_ne_nil hl0
        refine ⟨y, ?_⟩
        have := h0
        rw [e] at this
        simpa using this
      have hc0 := hall 0 v0 hv0
      obtain ⟨b, o, sp⟩ := a'
      have hsp : sp = none := by simpa [Addr.add] using World.cell?_spot hc0
      subst hsp
      refine .inr ⟨b, o, rfl, ?_, fun j v hj => ?_⟩
      · exact World.block_lt_of_cell? w _ hc0
      · have := hall j v hj
        rwa [add_plain] at this
end
end Go.Proofs.YtgegfbopogcjpaaDoor
