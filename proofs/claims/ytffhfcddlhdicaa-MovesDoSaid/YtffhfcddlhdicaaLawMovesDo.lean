/- For every list of moves, whatever the stage: what moves.Row lays, done one by one, does what the moves say at once; and each of the claims beside it: scarfjointlaw.MovesDo returns true. Conditions: none. -/
import Derived.Test.YtffhfcddlhdicaaRows
import Derived.Test.YtffhfcddlhdicaaOpen
import Derived.Test.YtffhfcddlhdicaaMovI
namespace Go.Proofs.Ytffhfcddlhdicaa.movesDo
open Go.ChangeShapes Go.WideShapes Go.ChangeAt Go.RowKit
set_option linter.unusedVariables false
set_option linter.unusedSimpArgs false
set_option maxRecDepth 100000
theorem own : ownKnob Try.prog.godebug = none := by kernel_rfl

/-- a place's cells -/
theorem read_loc {H : Type} {enc : TypeId × Value → H} {w : World} {n : Nat} {cs : List Value} {y : DataW H × List MemPlace} (h : DataW.trod enc Try.prog w 0 (fun _ => true) true n 41 cs = some y) : ∃ p : Pl, cs = [.bool p.s, .int .i64 p.n] := by
  obtain ⟨y0, y1, m, -, hl, h0, h1⟩ := trod_struct2 Try.underlying41 h
  obtain ⟨b, hb, -⟩ := DataW.trod_bool Try.underlying4 h0
  obtain ⟨k, hk, -, -⟩ := DataW.trod_int Try.underlying3 h1
  have hl2 : cs.length = 2 := hl
  match cs, hl2 with
  | [v0, v1], _ =>
    have c0 : Try.prog.cellsOf 4 = 1 := by kernel_rfl
    have c1 : Try.prog.cellsOf 3 = 1 := by kernel_rfl
    simp [c0] at hb
    simp [c1] at hk
    exact ⟨⟨b, k⟩, by rw [hb, hk]⟩
theorem read_move {H : Type} {enc : TypeId × Value → H} {w : World} {n : Nat} {cs : List Value} {y : DataW H × List MemPlace} (h : DataW.trod enc Try.prog w 0 (fun _ => true) true n 43 cs = some y) : ∃ x : Pl × Pl, cs = pc x := by
  obtain ⟨y0, y1, m, -, hl, h0, h1⟩ := trod_struct2 Try.underlying43 h
  obtain ⟨a, ha⟩ := read_loc h0
  obtain ⟨b, hb⟩ := read_loc h1
  have hl2 : cs.length = 4 := hl
  match cs, hl2 with
  | [v0, v1, v2, v3], _ =>
    have h2 : Try.prog.cellsOf 41 = 2 := by kernel_rfl
    simp [h2] at ha hb
    exact ⟨⟨a, b⟩, by simp [pc, ha, hb]⟩

instance : Inhabited Pl := ⟨⟨false, 0⟩⟩

/-! the row, by the template -/
theorem lifted (os : Os) (started : os.Started) (H : Type) (enc : TypeId × Value → H) :
    ReturnsInHanded {} Try.checked os 6 .any (Rows.movesDoSpec.pre6 enc Try.prog Try.f6 Rows.movesDoRow.domain false) (Rows.movesDoSpec.post enc Try.prog Try.f6 false true false false) := by
  refine returnsInHanded_of_change (C := Try.checked) own started (by kernel_rfl) Try.func6
    (ChangeSpec.witness6 (enc := enc) (C := Try.checked) false ⟨#[], #[.slice none 0 0, .int .i64 0], []⟩ 8 (by kernel_rfl) (by kernel_rfl) (by kernel_rfl) (by kernel_rfl)) ?_
  intro W base args ds gs before hval0 hW hcnd _
  have hval : ∀ (j : Nat) t v, Try.f6.params[j]? = some t → args[j]? = some v → Value.okWide Try.prog W .any base t v := hval0
  have hW' := hW
  obtain ⟨p, q, hA0, hV, rfl, hfz, hnd⟩ := hW
  have hA : DataW.TrodAll enc Try.prog W 0 (fun _ => true) true Try.f6.params.toList args.toList ds p := hA0
  rw [Try.params6] at hA hval
  obtain ⟨v0, vs0, d0, ds0, p0, q0, hargs, rfl, rfl, h0, r0⟩ := trodAll_cons hA
  obtain ⟨v1, vs1, d1, ds1, p1, q1, rfl, rfl, rfl, h1, r1⟩ := trodAll_cons r0
  obtain ⟨rfl, rfl, rfl⟩ := trodAll_nil r1
  obtain rfl : args = #[v0, v1] := by cases args; simp_all
  obtain ⟨rfl, rfl⟩ := trodVars_none hV
  obtain ⟨A, l, c, rfl, hrow, hmx⟩ := open_row pc pc_len Try.underlying32 (s := 4) (by kernel_rfl) (by decide) (fun _ _ _ h => read_move h) (hval 0 32 v0 rfl rfl) h0
  obtain ⟨a1, rfl, rfl, rfl, w1⟩ := open_int Try.underlying3 (hval 1 3 v1 rfl rfl) h1
  refine (moves_do A c l a1 W hrow (by have : maxLen ≤ 9223372036854775807 := by decide
                                       omega)).mono fun e W' ⟨he, hg⟩ => ?_
  subst he
  exact ⟨_, rfl, law_post laid (by rw [Try.params6]; intro t ht; simp at ht; rcases ht with rfl | rfl <;> exact ⟨by kernel_rfl, of_decide_eq_true (by kernel_rfl)⟩) rfl Try.underlying4 rfl hW' ⟨rfl, rfl, rfl⟩ hg⟩

theorem over : Rows.movesDoRow.holds Try.pinned (OpenSpec.ofChange Rows.movesDoSpec) :=
  OpenClaim.holds_of_wide 6 Try.f6 rfl rfl rfl rfl rfl rfl rfl ⟨rfl, rfl, rfl, rfl, rfl⟩ rfl rfl rfl rfl rfl (by kernel_rfl) Try.func6 (by kernel_rfl)
    (of_decide_eq_true (by kernel_rfl)) (by unfold Func.isWrapper; first | (rw [if_pos (by decide +kernel)]; kernel_rfl) | (rw [if_neg (by decide +kernel)]; exact ⟨rfl, rfl⟩))
    (fun os started H enc _ => lifted os started H enc)

/-- the statement -/
theorem proved : Rows.MovesDoSaid :=
  over
end Go.Proofs.Ytffhfcddlhdicaa.movesDo
