/- Small map literals: made, filled, asked at once. -/
import Derived.Test.YtgegfbopogcjpaaDoorSynI
import Derived.WideMake
namespace Go.Proofs.YtgegfbopogcjpaaDoor
open Go.RowKit
set_option linter.unusedVariables false
set_option linter.unusedSimpArgs false
set_option maxRecDepth 100000
/-- a key that is compared as it stands -/
def PlainKey (d : TypeDesc) (k : Value) : Prop := (∃ i n, d = .int i ∧ k = .int i n) ∨ (∃ b, d = .bool ∧ k = .bool b)
theorem checkKey_plain {P : Program} {w : World} {kt : TypeId} {d : TypeDesc} {k : Value} (hd : P.underlying kt = some d) (hk : PlainKey d k) (e : Bool) (n : Nat) : (Instr.checkKey e (n + 1) kt k).run P w = .ok () w := by
  unfold Instr.checkKey
  simp only [Sem.run_bind, run_underlying hd, Result.andThen]
  rcases hk with ⟨i, m, rfl, rfl⟩ | ⟨b, rfl, rfl⟩ <;> rfl
theorem push_set (a : Array Obj) (o o' : Obj) : (a.push o).setIfInBounds a.size o' = a.push o' := by
  apply Array.ext
  · simp
  · intro i h1 h2
    rw [Array.getElem_setIfInBounds, Array.getElem_push, Array.getElem_push]
    · by_cases h : i = a.size
      · subst h; simp
      · have : i < a.size := by simp at h2; omega
        rw [if_neg (fun e => h e.symm), dif_pos this, dif_pos this]
    · simp at h1 ⊢; omega
theorem set_alloc (w : World) (o o' : Obj) : ({ w.alloc o with heap := (w.alloc o).heap.setIfInBounds w.heap.size o' } : World) = w.alloc o' :=
  congrArg (fun h => ({ w with heap := h } : World)) (push_set w.heap o o')
theorem mu_alloc {P : Program} (mty kt et : TypeId) (d : TypeDesc) (k val : Value) (es : Array MapEntry) (clock : Nat) (hm : P.underlying mty = some (.map kt et)) (hd : P.underlying kt = some d) (hk : PlainKey d k) (hf : Instr.findNow d k es.toList 0 = some none) (w : World) :
    (Instr.mapUpdate mty (.map (some w.heap.size)) k val).run P (w.alloc (.map es clock)) = .ok () (w.alloc (.map (es.push { key := k, val := val, born := clock }) (clock + 1))) := by
  have hb : (w.alloc (.map es clock)).heap[w.heap.size]? = some (.map es clock) := heap_alloc_new w _
  have hc : (Instr.checkKey false 10000 kt k).run P (w.alloc (.map es clock)) = .ok () (w.alloc (.map es clock)) := checkKey_plain hd hk false 9999
  simp [Instr.mapUpdate, run_underlying hm, MapKept.run_getObj_map hb, hc, MapKept.run_findKey hd hf, MapKept.run_setObj_map _ hb, Result.andThen]
  exact set_alloc w _ _
theorem lk_alloc {P : Program} (mty kt et : TypeId) (d : TypeDesc) (k val : Value) (es : Array MapEntry) (clock i : Nat) (hm : P.underlying mty = some (.map kt et)) (hd : P.underlying kt = some d) (hk : PlainKey d k) (hf : Instr.findNow d k es.toList 0 = some (some (i, val))) (w : World) :
    (Instr.lookup mty (.map (some w.heap.size)) k false).run P (w.alloc (.map es clock)) = .ok val (w.alloc (.map es clock)) := by
  have hb : (w.alloc (.map es clock)).heap[w.heap.size]? = some (.map es clock) := heap_alloc_new w _
  have hc : ∀ em, (Instr.checkKey em 10000 kt k).run P (w.alloc (.map es clock)) = .ok () (w.alloc (.map es clock)) := fun em => checkKey_plain hd hk em 9999
  simp only [Instr.lookup, Sem.run_bind, Sem.run_pure, run_underlying hm, MapKept.run_getObj_map hb, Result.andThen, hc, MapKept.run_findKey hd hf]
  rfl
/-- map[bool]string{true: "-", false: "!"} -/
def mapB1 : Array MapEntry := #[{ key := .bool true, val := .string ⟨#[45]⟩, born := 0 }]
def mapB2 : Array MapEntry := #[{ key := .bool true, val := .string ⟨#[45]⟩, born := 0 }, { key := .bool false, val := .string ⟨#[33]⟩, born := 1 }]
theorem mu_b1 (w : World) : (Instr.mapUpdate 95 (.map (some w.heap.size)) (.bool true) (.string ⟨#[45]⟩)).run Tryd.prog (w.alloc (.map #[] 0)) = .ok () (w.alloc (.map mapB1 1)) :=
  mu_alloc _ _ _ _ _ _ _ _ Tryd.underlying95 Tryd.underlying4 (.inr ⟨true, rfl, rfl⟩) rfl w
theorem mu_b2 (w : World) : (Instr.mapUpdate 95 (.map (some w.heap.size)) (.bool false) (.string ⟨#[33]⟩)).run Tryd.prog (w.alloc (.map mapB1 1)) = .ok () (w.alloc (.map mapB2 2)) :=
  mu_alloc _ _ _ _ _ _ _ _ Tryd.underlying95 Tryd.underlying4 (.inr ⟨false, rfl, rfl⟩) rfl w
theorem lk_b (b : Bool) (w : World) : (Instr.lookup 95 (.map (some w.heap.size)) (.bool b) false).run Tryd.prog (w.alloc (.map mapB2 2)) = .ok (.string (if b then ⟨#[45]⟩ else ⟨#[33]⟩)) (w.alloc (.map mapB2 2)) := by
  cases b
  · exact lk_alloc _ _ _ _ _ _ _ _ 1 Tryd.underlying95 Tryd.underlying4 (.inr ⟨false, rfl, rfl⟩) rfl w
  · exact lk_alloc _ _ _ _ _ _ _ _ 0 Tryd.underlying95 Tryd.underlying4 (.inr ⟨true, rfl, rfl⟩) rfl w
/-- map[int]string{NToInt: "int", NToLong: "long", NExtra: "extra"} -/
def mapI1 : Array MapEntry := #[{ key := .int .i64 30, val := .string ⟨#[105, 110, 116]⟩, born := 0 }]
def mapI2 : Array MapEntry := #[{ key := .int .i64 30, val := .string ⟨#[105, 110, 116]⟩, born := 0 }, { key := .int .i64 31, val := .string ⟨#[108, 111, 110, 103]⟩, born := 1 }]
def mapI3 : Array MapEntry := #[{ key := .int .i64 30, val := .string ⟨#[105, 110, 116]⟩, born := 0 }, { key := .int .i64 31, val := .string ⟨#[108, 111, 110, 103]⟩, born := 1 }, { key := .int .i64 34, val := .string ⟨#[101, 120, 116, 114, 97]⟩, born := 2 }]
theorem mu_i1 (w : World) : (Instr.mapUpdate 96 (.map (some w.heap.size)) (.int .i64 30) (.string ⟨#[105, 110, 116]⟩)).run Tryd.prog (w.alloc (.map #[] 0)) = .ok () (w.alloc (.map mapI1 1)) :=
  mu_alloc _ _ _ _ _ _ _ _ Tryd.underlying96 Tryd.underlying3 (.inl ⟨_, _, rfl, rfl⟩) rfl w
theorem mu_i2 (w : World) : (Instr.mapUpdate 96 (.map (some w.heap.size)) (.int .i64 31) (.string ⟨#[108, 111, 110, 103]⟩)).run Tryd.prog (w.alloc (.map mapI1 1)) = .ok () (w.alloc (.map mapI2 2)) :=
  mu_alloc _ _ _ _ _ _ _ _ Tryd.underlying96 Tryd.underlying3 (.inl ⟨_, _, rfl, rfl⟩) rfl w
theorem mu_i3 (w : World) : (Instr.mapUpdate 96 (.map (some w.heap.size)) (.int .i64 34) (.string ⟨#[101, 120, 116, 114, 97]⟩)).run Tryd.prog (w.alloc (.map mapI2 2)) = .ok () (w.alloc (.map mapI3 3)) :=
  mu_alloc _ _ _ _ _ _ _ _ Tryd.underlying96 Tryd.underlying3 (.inl ⟨_, _, rfl, rfl⟩) rfl w
theorem lk_i30 (w : World) : (Instr.lookup 96 (.map (some w.heap.size)) (.int .i64 30) false).run Tryd.prog (w.alloc (.map mapI3 3)) = .ok (.string ⟨#[105, 110, 116]⟩) (w.alloc (.map mapI3 3)) :=
  lk_alloc _ _ _ _ _ _ _ _ 0 Tryd.underlying96 Tryd.underlying3 (.inl ⟨_, _, rfl, rfl⟩) rfl w
theorem lk_i31 (w : World) : (Instr.lookup 96 (.map (some w.heap.size)) (.int .i64 31) false).run Tryd.prog (w.alloc (.map mapI3 3)) = .ok (.string ⟨#[108, 111, 110, 103]⟩) (w.alloc (.map mapI3 3)) :=
  lk_alloc _ _ _ _ _ _ _ _ 1 Tryd.underlying96 Tryd.underlying3 (.inl ⟨_, _, rfl, rfl⟩) rfl w
theorem lk_i34 (w : World) : (Instr.lookup 96 (.map (some w.heap.size)) (.int .i64 34) false).run Tryd.prog (w.alloc (.map mapI3 3)) = .ok (.string ⟨#[101, 120, 116, 114, 97]⟩) (w.alloc (.map mapI3 3)) :=
  lk_alloc _ _ _ _ _ _ _ _ 2 Tryd.underlying96 Tryd.underlying3 (.inl ⟨_, _, rfl, rfl⟩) rfl w
end Go.Proofs.YtgegfbopogcjpaaDoor
