/- For every two longs, their sum, difference, product and comparison are made of those of their words: scarfjointkeep.WordMade returns true. Conditions: none. -/
import Derived.Test.YtffhfcddlhdicaaRows
import Derived.WalkKit
import Derived.ProofKit
import Derived.OpenShut
import Derived.Test.YtffhfcddlhdicaaWordF
namespace Go.Proofs.Ytffhfcddlhdicaa.wordMade
open Go.ChangeShapes Go.WideShapes Go.ChangeAt Go.RowKit
set_option linter.unusedVariables false      -- a walk need not use every 'w<i>' (that an integer argument fits its kind)

theorem own : ownKnob Try.prog.godebug = none := by kernel_rfl

set_option maxRecDepth 100000 in
/-- the walk: the law returns true; nothing that was there has changed -/
theorem walk (a0 : Int) (a1 : Int) (w0 : (Lit.int .i64 a0).wf = true) (w1 : (Lit.int .i64 a1).wf = true) (w : World) :
    Calls Try.prog 7 #[.int .i64 a0, .int .i64 a1] w fun e w' => e = .returned (.bool true) ∧ Grown w w' := by
  obtain ⟨h1, h2⟩ := bounds_i64 w0
  obtain ⟨h3, h4⟩ := bounds_i64 w1
  have e1 := ne_false (joined a0 h1 h2)
  have e2 := ne_false (joined a1 h3 h4)
  have e3 := ne_false (made_add a0 a1)
  have e4 := ne_false (made_sub a0 a1)
  have e5 := ne_false (made_mul a0 a1)
  have e6 : (wideV 10 a0 a1 == opV 8 (opV 10 (wrap32 (a0 / 4294967296)) (wrap32 (a1 / 4294967296))) (opV 7 (opV 12 (wrap32 (a0 / 4294967296)) (wrap32 (a1 / 4294967296))) (opV 11 (wrap32 a0) (wrap32 a1)))) = true :=
    beq_iff_eq.2 (made_less a0 a1 h1 h2 h3 h4)
  obtain ⟨q1, q2⟩ := opV_b 8 (opV 10 (wrap32 (a0 / 4294967296)) (wrap32 (a1 / 4294967296))) (opV 7 (opV 12 (wrap32 (a0 / 4294967296)) (wrap32 (a1 / 4294967296))) (opV 11 (wrap32 a0) (wrap32 a1))) (by decide)
  have o1 : wideOk 1 = true := by decide
  have o2 : wideOk 2 = true := by decide
  have o3 : wideOk 3 = true := by decide
  have o10 : wideOk 10 = true := by decide
  go_enter Try.func7, Try.ntmps7
  go_wp2_with (first
    | (go_at_call 9; refine (split_any _ _).mono ?_; rintro e w' ⟨rfl, rfl⟩)
    | (go_at_call 13; refine (wide_any _ _ _ (by assumption) (by assumption) (by assumption) (by assumption) _).mono ?_; rintro e w' ⟨rfl, rfl⟩)
    | (go_at_call 11; refine (join_any _ _ (by first | exact (w32 _).1 | exact (opV_b _ _ _ (by decide)).1) (by first | exact (w32 _).2 | exact (opV_b _ _ _ (by decide)).2) (by first | exact (w32 _).1 | exact (opV_b _ _ _ (by decide)).1) (by first | exact (w32 _).2 | exact (opV_b _ _ _ (by decide)).2) _).mono ?_; rintro e w' ⟨rfl, rfl⟩)
    | (go_at_call 22; refine (kop_any _ _ _ (by first | exact (w32 _).1 | exact (opV_b _ _ _ (by decide)).1) (by first | exact (w32 _).2 | exact (opV_b _ _ _ (by decide)).2) (by first | exact (w32 _).1 | exact (opV_b _ _ _ (by decide)).1) (by first | exact (w32 _).2 | exact (opV_b _ _ _ (by decide)).2) (by decide) _).mono ?_; rintro e w' ⟨rfl, rfl⟩))
  go_ret
  exact ⟨rfl, Grown.refl _⟩

/-! the row, by the template -/
set_option maxRecDepth 100000 in
theorem lifted (os : Os) (started : os.Started) (H : Type) (enc : TypeId × Value → H) :
    ReturnsInHanded {} Try.checked os 7 .any (Rows.wordMadeSpec.pre6 enc Try.prog Try.f7 Rows.wordMadeRow.domain false) (Rows.wordMadeSpec.post enc Try.prog Try.f7 false true false false) := by
  refine returnsInHanded_of_change (C := Try.checked) own started (by kernel_rfl) Try.func7
    (ChangeSpec.witness6 (enc := enc) (C := Try.checked) false ⟨#[], #[.int .i64 0, .int .i64 0], []⟩ 8 (by kernel_rfl) (by kernel_rfl) (by kernel_rfl) (by kernel_rfl)) ?_
  intro W base args ds gs before hval0 hW hcnd _
  have hval : ∀ (j : Nat) t v, Try.f7.params[j]? = some t → args[j]? = some v → Value.okWide Try.prog W .any base t v := hval0
  have hW' := hW
  obtain ⟨p, q, hA0, hV, rfl, hfz, hnd⟩ := hW
  have hA : DataW.TrodAll enc Try.prog W 0 (fun _ => true) true Try.f7.params.toList args.toList ds p := hA0
  rw [Try.params7] at hA hval
  obtain ⟨v0, vs0, d0, ds0, p0, q0, hargs, rfl, rfl, h0, r0⟩ := trodAll_cons hA
  obtain ⟨v1, vs1, d1, ds1, p1, q1, rfl, rfl, rfl, h1, r1⟩ := trodAll_cons r0
  obtain ⟨rfl, rfl, rfl⟩ := trodAll_nil r1
  obtain rfl : args = #[v0, v1] := by cases args; simp_all
  obtain ⟨rfl, rfl⟩ := trodVars_none hV
  obtain ⟨a0, rfl, rfl, rfl, w0⟩ := open_int Try.underlying2 (hval 0 2 v0 rfl rfl) h0
  obtain ⟨a1, rfl, rfl, rfl, w1⟩ := open_int Try.underlying2 (hval 1 2 v1 rfl rfl) h1
  clear hA0 hval0
  simp only [List.append_nil] at hW'
  refine (walk a0 a1 w0 w1 W).mono fun e W' ⟨he, hg⟩ => ?_
  subst he
  exact ⟨_, rfl, post_of_same (pa := []) (pv := []) hW' (fun _ _ _ => (trodAll_cons_mk (shut_bool Try.underlying4 _) trodAll_mk0)) (fun sp _ => (trodAll_cons_mk (shut_int Try.underlying2 w0) (trodAll_cons_mk (shut_int Try.underlying2 w1) trodAll_mk0))) (fun _ _ => rfl) rfl
    (hg.frame _) hg.2.1 (ok_one (by kernel_rfl) rfl (okWide_bool_mk Try.underlying4 _))⟩

theorem over : Rows.wordMadeRow.holds Try.pinned (OpenSpec.ofChange Rows.wordMadeSpec) :=
  OpenClaim.holds_of_wide 7 Try.f7 rfl rfl rfl rfl rfl rfl rfl ⟨rfl, rfl, rfl, rfl, rfl⟩ rfl rfl rfl rfl rfl (by kernel_rfl) Try.func7 (by kernel_rfl)
    (of_decide_eq_true (by kernel_rfl)) (by unfold Func.isWrapper; first | (rw [if_pos (by decide +kernel)]; kernel_rfl) | (rw [if_neg (by decide +kernel)]; exact ⟨rfl, rfl⟩))
    (fun os started H enc _ => lifted os started H enc)

/-- the statement -/
theorem proved : Rows.WordMadeSaid :=
  over
end Go.Proofs.Ytffhfcddlhdicaa.wordMade
