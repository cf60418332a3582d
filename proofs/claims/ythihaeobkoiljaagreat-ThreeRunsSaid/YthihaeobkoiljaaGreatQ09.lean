/- Lemmas for the law. -/
import Derived.Test.YthihaeobkoiljaaGreatQ08
set_option linter.unusedVariables false
set_option linter.unusedSimpArgs false
set_option maxRecDepth 100000
set_option maxHeartbeats 40000000
namespace Go.Proofs.YthihaeobkoiljaaGreat
open Go.RowKit
noncomputable def headB (b : Bo) : Bool := nameOf b.nm && (b.ty.k == 4) && may b.ty && decide ((parW b.ty : Int) ≤ b.regs) && decide (b.regs ≤ 8000) && decide (1 ≤ b.code.length) && decide (b.code.length ≤ 6000)
theorem body_eq (b : Bo) : bodyB b = (headB b && b.code.all (orderB b.ty b.regs b.code.length) && (match b.code.getLast? with | some o => (o.op == 9) || (o.op == 12) | none => false)) := rfl
theorem body_no {b : Bo} (h : headB b = false) : bodyB b = false := by rw [body_eq, h]; rfl
theorem may3_no (b : Bo) (cs : List Value) (w : World) (hr : RepB w b cs) (hm : ML w) (hh : headB b = false) :
 Calls Tryz.prog 7 #[.agg cs.toArray] w fun e w' => e = .returned (.bool false) ∧ Below w.heap.size w w' := by
 obtain ⟨An, cn, Ap, cp, A, c, rfl, hT, hP, hO, hl⟩ := hr.nine
 have B0 : Below w.heap.size w (w.alloc (.cells #[.string b.nm, .bool b.static, .int .i64 b.ty.k, .string b.ty.nm, .slice An b.ty.ns.length cn, .slice Ap b.ty.ps.length cp, .bool b.ty.many, .int .i64 b.regs, .slice A b.code.length c] 37)) := bel
 have kb := Blk.new_ w 37 #[.string b.nm, .bool b.static, .int .i64 b.ty.k, .string b.ty.nm, .slice An b.ty.ns.length cn, .slice Ap b.ty.ps.length cp, .bool b.ty.many, .int .i64 b.regs, .slice A b.code.length c]
 have HT := Lh hT
 have HM := Lh hm
 have hnn : (b.code.length : Int) ≤ 9223372036854775807 := by unfold maxLen at hl; omega
 have HH := Lh hh
 clear hr hP hO hl hT hm hh
 go_enter Tryz.func7, Tryz.ntmps7
 go_upto_region 1 with (fail)
 generalize hw1 : w.alloc (.cells #[.string b.nm, .bool b.static, .int .i64 b.ty.k, .string b.ty.nm, .slice An b.ty.ns.length cn, .slice Ap b.ty.ps.length cp, .bool b.ty.many, .int .i64 b.regs, .slice A b.code.length c] 37) = w1 at *
 clear hw1
 have b1 := B0
 have HF : Hid (∀ W, Below w1.heap.size w1 W → W.cell? ⟨w.heap.size, 0, none⟩ = some (.string b.nm) ∧ W.cell? ⟨w.heap.size, 1, none⟩ = some (.bool b.static) ∧ W.cell? ⟨w.heap.size, 2, none⟩ = some (.int .i64 b.ty.k) ∧ W.cell? ⟨w.heap.size, 3, none⟩ = some (.string b.ty.nm) ∧ W.cell? ⟨w.heap.size, 4, none⟩ = some (.slice An b.ty.ns.length cn) ∧ W.cell? ⟨w.heap.size, 5, none⟩ = some (.slice Ap b.ty.ps.length cp) ∧ W.cell? ⟨w.heap.size, 6, none⟩ = some (.bool b.ty.many) ∧ W.cell? ⟨w.heap.size, 7, none⟩ = some (.int .i64 b.regs) ∧ W.cell? ⟨w.heap.size, 8, none⟩ = some (.slice A b.code.length c)) := fun W h => by
  have k := kb.below h
  exact ⟨k.cell 0 _ rfl, k.cell 1 _ rfl, k.cell 2 _ rfl, k.cell 3 _ rfl, k.cell 4 _ rfl, k.cell 5 _ rfl, k.cell 6 _ rfl, k.cell 7 _ rfl, k.cell 8 _ rfl⟩
 obtain ⟨x0, x1, x2, x3, x4, x5, x6, x7, x8⟩ := HF.out _ (Below.refl _ _)
 have HIS : Hid (∀ n, Calls Tryz.prog 18 #[.string b.nm] (w1.drewN n) fun e w' => e = .returned (.bool (nameOf b.nm)) ∧ w' = w1.drewN n) := fun n => isName_any b.nm _ (HM.out.keep (Below.drewN_ b1 n))
 have HNM : Hid (∀ W, (Below w1.heap.size w1 W ∧ (W.cell? ⟨w.heap.size, 0, none⟩ = some (.string b.nm) ∧ W.cell? ⟨w.heap.size, 1, none⟩ = some (.bool b.static) ∧ W.cell? ⟨w.heap.size, 2, none⟩ = some (.int .i64 b.ty.k) ∧ W.cell? ⟨w.heap.size, 3, none⟩ = some (.string b.ty.nm) ∧ W.cell? ⟨w.heap.size, 4, none⟩ = some (.slice An b.ty.ns.length cn) ∧ W.cell? ⟨w.heap.size, 5, none⟩ = some (.slice Ap b.ty.ps.length cp) ∧ W.cell? ⟨w.heap.size, 6, none⟩ = some (.bool b.ty.many) ∧ W.cell? ⟨w.heap.size, 7, none⟩ = some (.int .i64 b.regs) ∧ W.cell? ⟨w.heap.size, 8, none⟩ = some (.slice A b.code.length c))) → Calls Tryz.prog 18 #[.string b.nm] W fun e w' => e = .returned (.bool (nameOf b.nm)) ∧ Below W.heap.size W w') := fun W h =>
  (isName_any b.nm W (HM.out.keep (b1.trans (h.1.mono b1.size)))).mono fun _ _ ⟨he, hw⟩ => ⟨he, by rw [hw]; exact Below.refl _ _⟩
 have HMY : Hid (∀ W, (Below w1.heap.size w1 W ∧ (W.cell? ⟨w.heap.size, 0, none⟩ = some (.string b.nm) ∧ W.cell? ⟨w.heap.size, 1, none⟩ = some (.bool b.static) ∧ W.cell? ⟨w.heap.size, 2, none⟩ = some (.int .i64 b.ty.k) ∧ W.cell? ⟨w.heap.size, 3, none⟩ = some (.string b.ty.nm) ∧ W.cell? ⟨w.heap.size, 4, none⟩ = some (.slice An b.ty.ns.length cn) ∧ W.cell? ⟨w.heap.size, 5, none⟩ = some (.slice Ap b.ty.ps.length cp) ∧ W.cell? ⟨w.heap.size, 6, none⟩ = some (.bool b.ty.many) ∧ W.cell? ⟨w.heap.size, 7, none⟩ = some (.int .i64 b.regs) ∧ W.cell? ⟨w.heap.size, 8, none⟩ = some (.slice A b.code.length c))) → Calls Tryz.prog 19 #[.agg #[.int .i64 b.ty.k, .string b.ty.nm, .slice An b.ty.ns.length cn, .slice Ap b.ty.ps.length cp, .bool b.ty.many]] W fun e w' => e = .returned (.bool (may b.ty)) ∧ Below W.heap.size W w') := fun W h => by
  have B := b1.trans (h.1.mono b1.size)
  exact may_any b.ty _ W (Rep.keep B _ _ HT.out) (HM.out.keep B)
 have HPW0 : Hid (may b.ty = true → b.ty.k = 4 → ∀ W, (Below w1.heap.size w1 W ∧ (W.cell? ⟨w.heap.size, 0, none⟩ = some (.string b.nm) ∧ W.cell? ⟨w.heap.size, 1, none⟩ = some (.bool b.static) ∧ W.cell? ⟨w.heap.size, 2, none⟩ = some (.int .i64 b.ty.k) ∧ W.cell? ⟨w.heap.size, 3, none⟩ = some (.string b.ty.nm) ∧ W.cell? ⟨w.heap.size, 4, none⟩ = some (.slice An b.ty.ns.length cn) ∧ W.cell? ⟨w.heap.size, 5, none⟩ = some (.slice Ap b.ty.ps.length cp) ∧ W.cell? ⟨w.heap.size, 6, none⟩ = some (.bool b.ty.many) ∧ W.cell? ⟨w.heap.size, 7, none⟩ = some (.int .i64 b.regs) ∧ W.cell? ⟨w.heap.size, 8, none⟩ = some (.slice A b.code.length c))) → Calls Tryz.prog 20 #[.agg #[.int .i64 b.ty.k, .string b.ty.nm, .slice An b.ty.ns.length cn, .slice Ap b.ty.ps.length cp, .bool b.ty.many]] W fun e w' => e = .returned (.int .i64 (parW b.ty : Int)) ∧ Below W.heap.size W w') := fun h1 h2 W h => by
  have B := b1.trans (h.1.mono b1.size)
  exact params3_any b.ty _ W (Rep.keep B _ _ HT.out) (HM.out.keep B) h1 h2
 rcases hn : nameOf b.nm with _ | _
 ·rw [hn] at HIS
  have hf : Hid (true = true) := rfl
  go_wp2_with fail
  go_quiet ((go_at_call 18; exact Calls.quiet_of_same (HIS.out _)))
  go_wp2
  go_ret
  exact ⟨rfl, Below.drewN_ b1 _⟩
 ·rw [hn] at HIS HNM
  by_cases hk : b.ty.k = 4
  ·have g1 : (b.ty.k != 4) = false := by simpa using hk
   rcases hmy : may b.ty with _ | _
   ·rw [hmy] at HMY
    have hf : Hid (true = true) := rfl
    clear HPW0 HIS hk
    go_wp2_with fail
    refine dQ (fun W => Below w1.heap.size w1 W ∧ (At W (w.heap.size) 0 (.string b.nm) ∧ At W (w.heap.size) 1 (.bool b.static) ∧ At W (w.heap.size) 2 (.int .i64 b.ty.k) ∧ At W (w.heap.size) 3 (.string b.ty.nm) ∧ At W (w.heap.size) 4 (.slice An b.ty.ns.length cn) ∧ At W (w.heap.size) 5 (.slice Ap b.ty.ps.length cp) ∧ At W (w.heap.size) 6 (.bool b.ty.many) ∧ At W (w.heap.size) 7 (.int .i64 b.regs) ∧ At W (w.heap.size) 8 (.slice A b.code.length c))) (held0 HF) (fun hHeld => ?_)
    clear x0 x1 x2 x3 x4 x5 x6 x7 x8
    refine tQ2 0 1 ?_; try simp only [sq]
    refine wpAnyH_ready (rs := [2]) (by kernel_rfl) (by simp) ?_
    refine AllReadyH.cons rfl (fun K hK => ?_) AllReadyH.nil
    go_simp
    with_reducible refine (HNM.out _ (by assumption)).mono ?_
    rintro e w' ⟨rfl, hbq⟩
    refine hK.out _ _ (heldS HF (by assumption) hbq) (fun hHeld => ?_)
    clear hK K hbq
    (try simp only [Act.put, List.setIfInBounds_toArray, List.set_cons_zero, List.set_cons_succ])
    refine tQ4 3 4 5 6 ?_; try simp only [sq]
    refine tQ4 7 8 9 10 ?_; try simp only [sq]
    refine tQ2 11 12 ?_; try simp only [sq]
    refine wpAnyH_ready (rs := [13]) (by kernel_rfl) (by simp) ?_
    refine AllReadyH.cons rfl (fun K hK => ?_) AllReadyH.nil
    go_simp
    with_reducible refine (HMY.out _ (by assumption)).mono ?_
    rintro e w' ⟨rfl, hbq⟩
    refine hK.out _ _ (heldS HF (by assumption) hbq) (fun hHeld => ?_)
    clear hK K hbq
    (try simp only [Act.put, List.setIfInBounds_toArray, List.set_cons_zero, List.set_cons_succ])
    refine tQ3 14 15 16 ?_; try simp only [sq]
    refine pQ4 17 18 19 20 ?_; try simp only [sq]
    refine pQ 21 ?_; try simp only [sq]
    refine pQ 22 ?_; try simp only [sq]
    refine tQ2 23 24 ?_; try simp only [sq]
    refine pQ 25 ?_; try simp only [sq]
    refine pQ 26 ?_; try simp only [sq]
    refine pQ 27 ?_; try simp only [sq]
    refine tQ2 28 29 ?_; try simp only [sq]
    refine pQ4 30 31 32 33 ?_; try simp only [sq]
    refine tQ2 34 35 ?_; try simp only [sq]
    refine pQ4 36 37 38 39 ?_; try simp only [sq]
    refine tQ 40 ?_; try simp only [sq]
    refine fQ ?_ _
    have b5 := b1.trans (hHeld.1.mono b1.size)
    go_wp2
    go_ret
    exact ⟨rfl, b5⟩
   ·rw [hmy] at HMY
    have HPW := Lh (HPW0.out hmy hk)
    have hp84 := parW_le hmy
    have HK := Lh hk
    clear HPW0 HIS hk
    by_cases hp : b.regs < (parW b.ty : Int)
    ·have g2 : decide (b.regs < (parW b.ty : Int)) = true := by simpa using hp
     have hf : Hid (true = true) := rfl
     clear hp
     go_wp2_with fail
     refine dQ (fun W => Below w1.heap.size w1 W ∧ (At W (w.heap.size) 0 (.string b.nm) ∧ At W (w.heap.size) 1 (.bool b.static) ∧ At W (w.heap.size) 2 (.int .i64 b.ty.k) ∧ At W (w.heap.size) 3 (.string b.ty.nm) ∧ At W (w.heap.size) 4 (.slice An b.ty.ns.length cn) ∧ At W (w.heap.size) 5 (.slice Ap b.ty.ps.length cp) ∧ At W (w.heap.size) 6 (.bool b.ty.many) ∧ At W (w.heap.size) 7 (.int .i64 b.regs) ∧ At W (w.heap.size) 8 (.slice A b.code.length c))) (held0 HF) (fun hHeld => ?_)
     clear x0 x1 x2 x3 x4 x5 x6 x7 x8
     refine tQ2 0 1 ?_; try simp only [sq]
     refine wpAnyH_ready (rs := [2]) (by kernel_rfl) (by simp) ?_
     refine AllReadyH.cons rfl (fun K hK => ?_) AllReadyH.nil
     go_simp
     with_reducible refine (HNM.out _ (by assumption)).mono ?_
     rintro e w' ⟨rfl, hbq⟩
     refine hK.out _ _ (heldS HF (by assumption) hbq) (fun hHeld => ?_)
     clear hK K hbq
     (try simp only [Act.put, List.setIfInBounds_toArray, List.set_cons_zero, List.set_cons_succ])
     refine tQ4 3 4 5 6 ?_; try simp only [sq]
     refine tQ4 7 8 9 10 ?_; try simp only [sq]
     refine tQ2 11 12 ?_; try simp only [sq]
     refine wpAnyH_ready (rs := [13]) (by kernel_rfl) (by simp) ?_
     refine AllReadyH.cons rfl (fun K hK => ?_) AllReadyH.nil
     go_simp
     with_reducible refine (HMY.out _ (by assumption)).mono ?_
     rintro e w' ⟨rfl, hbq⟩
     refine hK.out _ _ (heldS HF (by assumption) hbq) (fun hHeld => ?_)
     clear hK K hbq
     (try simp only [Act.put, List.setIfInBounds_toArray, List.set_cons_zero, List.set_cons_succ])
     refine tQ4 14 15 16 17 ?_; try simp only [sq]
     refine tQ3 18 19 20 ?_; try simp only [sq]
     refine wpAnyH_ready (rs := [21]) (by kernel_rfl) (by simp) ?_
     refine AllReadyH.cons rfl (fun K hK => ?_) AllReadyH.nil
     go_simp
     with_reducible refine (HPW.out _ (by assumption)).mono ?_
     rintro e w' ⟨rfl, hbq⟩
     refine hK.out _ _ (heldS HF (by assumption) hbq) (fun hHeld => ?_)
     clear hK K hbq
     (try simp only [Act.put, List.setIfInBounds_toArray, List.set_cons_zero, List.set_cons_succ])
     refine tQ3 22 23 24 ?_; try simp only [sq]
     refine pQ 25 ?_; try simp only [sq]
     refine pQ 26 ?_; try simp only [sq]
     refine pQ 27 ?_; try simp only [sq]
     refine tQ2 28 29 ?_; try simp only [sq]
     refine pQ4 30 31 32 33 ?_; try simp only [sq]
     refine tQ2 34 35 ?_; try simp only [sq]
     refine pQ4 36 37 38 39 ?_; try simp only [sq]
     refine tQ 40 ?_; try simp only [sq]
     refine fQ ?_ _
     have b5 := b1.trans (hHeld.1.mono b1.size)
     go_wp2
     go_ret
     exact ⟨rfl, b5⟩
    ·have g2 : decide (b.regs < (parW b.ty : Int)) = false := by simpa using hp
     by_cases h8 : 8000 < b.regs
     ·have g3 : decide (8000 < b.regs) = true := by simpa using h8
      have hf : Hid (true = true) := rfl
      clear hp h8
      go_wp2_with fail
      refine dQ (fun W => Below w1.heap.size w1 W ∧ (At W (w.heap.size) 0 (.string b.nm) ∧ At W (w.heap.size) 1 (.bool b.static) ∧ At W (w.heap.size) 2 (.int .i64 b.ty.k) ∧ At W (w.heap.size) 3 (.string b.ty.nm) ∧ At W (w.heap.size) 4 (.slice An b.ty.ns.length cn) ∧ At W (w.heap.size) 5 (.slice Ap b.ty.ps.length cp) ∧ At W (w.heap.size) 6 (.bool b.ty.many) ∧ At W (w.heap.size) 7 (.int .i64 b.regs) ∧ At W (w.heap.size) 8 (.slice A b.code.length c))) (held0 HF) (fun hHeld => ?_)
      clear x0 x1 x2 x3 x4 x5 x6 x7 x8
      refine tQ2 0 1 ?_; try simp only [sq]
      refine wpAnyH_ready (rs := [2]) (by kernel_rfl) (by simp) ?_
      refine AllReadyH.cons rfl (fun K hK => ?_) AllReadyH.nil
      go_simp
      with_reducible refine (HNM.out _ (by assumption)).mono ?_
      rintro e w' ⟨rfl, hbq⟩
      refine hK.out _ _ (heldS HF (by assumption) hbq) (fun hHeld => ?_)
      clear hK K hbq
      (try simp only [Act.put, List.setIfInBounds_toArray, List.set_cons_zero, List.set_cons_succ])
      refine tQ4 3 4 5 6 ?_; try simp only [sq]
      refine tQ4 7 8 9 10 ?_; try simp only [sq]
      refine tQ2 11 12 ?_; try simp only [sq]
      refine wpAnyH_ready (rs := [13]) (by kernel_rfl) (by simp) ?_
      refine AllReadyH.cons rfl (fun K hK => ?_) AllReadyH.nil
      go_simp
      with_reducible refine (HMY.out _ (by assumption)).mono ?_
      rintro e w' ⟨rfl, hbq⟩
      refine hK.out _ _ (heldS HF (by assumption) hbq) (fun hHeld => ?_)
      clear hK K hbq
      (try simp only [Act.put, List.setIfInBounds_toArray, List.set_cons_zero, List.set_cons_succ])
      refine tQ4 14 15 16 17 ?_; try simp only [sq]
      refine tQ3 18 19 20 ?_; try simp only [sq]
      refine wpAnyH_ready (rs := [21]) (by kernel_rfl) (by simp) ?_
      refine AllReadyH.cons rfl (fun K hK => ?_) AllReadyH.nil
      go_simp
      with_reducible refine (HPW.out _ (by assumption)).mono ?_
      rintro e w' ⟨rfl, hbq⟩
      refine hK.out _ _ (heldS HF (by assumption) hbq) (fun hHeld => ?_)
      clear hK K hbq
      (try simp only [Act.put, List.setIfInBounds_toArray, List.set_cons_zero, List.set_cons_succ])
      refine tQ4 22 23 24 25 ?_; try simp only [sq]
      refine tQ4 26 27 28 29 ?_; try simp only [sq]
      refine pQ4 30 31 32 33 ?_; try simp only [sq]
      refine tQ2 34 35 ?_; try simp only [sq]
      refine pQ4 36 37 38 39 ?_; try simp only [sq]
      refine tQ 40 ?_; try simp only [sq]
      refine fQ ?_ _
      have b5 := b1.trans (hHeld.1.mono b1.size)
      go_wp2
      go_ret
      exact ⟨rfl, b5⟩
     ·have g3 : decide (8000 < b.regs) = false := by simpa using h8
      by_cases hl1 : b.code.length < 1
      ·have g4 : decide ((b.code.length : Int) < 1) = true := by simp; omega
       have g4' : decide (b.code.length < 1) = true := by simpa using hl1
       have hf : Hid (true = true) := rfl
       clear hp h8 hl1
       go_wp2_with fail
       refine dQ (fun W => Below w1.heap.size w1 W ∧ (At W (w.heap.size) 0 (.string b.nm) ∧ At W (w.heap.size) 1 (.bool b.static) ∧ At W (w.heap.size) 2 (.int .i64 b.ty.k) ∧ At W (w.heap.size) 3 (.string b.ty.nm) ∧ At W (w.heap.size) 4 (.slice An b.ty.ns.length cn) ∧ At W (w.heap.size) 5 (.slice Ap b.ty.ps.length cp) ∧ At W (w.heap.size) 6 (.bool b.ty.many) ∧ At W (w.heap.size) 7 (.int .i64 b.regs) ∧ At W (w.heap.size) 8 (.slice A b.code.length c))) (held0 HF) (fun hHeld => ?_)
       clear x0 x1 x2 x3 x4 x5 x6 x7 x8
       refine tQ2 0 1 ?_; try simp only [sq]
       refine wpAnyH_ready (rs := [2]) (by kernel_rfl) (by simp) ?_
       refine AllReadyH.cons rfl (fun K hK => ?_) AllReadyH.nil
       go_simp
       with_reducible refine (HNM.out _ (by assumption)).mono ?_
       rintro e w' ⟨rfl, hbq⟩
       refine hK.out _ _ (heldS HF (by assumption) hbq) (fun hHeld => ?_)
       clear hK K hbq
       (try simp only [Act.put, List.setIfInBounds_toArray, List.set_cons_zero, List.set_cons_succ])
       refine tQ4 3 4 5 6 ?_; try simp only [sq]
       refine tQ4 7 8 9 10 ?_; try simp only [sq]
       refine tQ2 11 12 ?_; try simp only [sq]
       refine wpAnyH_ready (rs := [13]) (by kernel_rfl) (by simp) ?_
       refine AllReadyH.cons rfl (fun K hK => ?_) AllReadyH.nil
       go_simp
       with_reducible refine (HMY.out _ (by assumption)).mono ?_
       rintro e w' ⟨rfl, hbq⟩
       refine hK.out _ _ (heldS HF (by assumption) hbq) (fun hHeld => ?_)
       clear hK K hbq
       (try simp only [Act.put, List.setIfInBounds_toArray, List.set_cons_zero, List.set_cons_succ])
       refine tQ4 14 15 16 17 ?_; try simp only [sq]
       refine tQ3 18 19 20 ?_; try simp only [sq]
       refine wpAnyH_ready (rs := [21]) (by kernel_rfl) (by simp) ?_
       refine AllReadyH.cons rfl (fun K hK => ?_) AllReadyH.nil
       go_simp
       with_reducible refine (HPW.out _ (by assumption)).mono ?_
       rintro e w' ⟨rfl, hbq⟩
       refine hK.out _ _ (heldS HF (by assumption) hbq) (fun hHeld => ?_)
       clear hK K hbq
       (try simp only [Act.put, List.setIfInBounds_toArray, List.set_cons_zero, List.set_cons_succ])
       refine tQ4 22 23 24 25 ?_; try simp only [sq]
       refine tQ4 26 27 28 29 ?_; try simp only [sq]
       refine tQ4 30 31 32 33 ?_; try simp only [sq]
       refine tQ2 34 35 ?_; try simp only [sq]
       refine pQ4 36 37 38 39 ?_; try simp only [sq]
       refine tQ 40 ?_; try simp only [sq]
       refine fQ ?_ _
       have b5 := b1.trans (hHeld.1.mono b1.size)
       go_wp2
       go_ret
       exact ⟨rfl, b5⟩
      ·have g4 : decide ((b.code.length : Int) < 1) = false := by simp; omega
       have g4' : decide (b.code.length < 1) = false := by simpa using hl1
       have hl6 : 6000 < b.code.length := by
        have h := HH.out
        have e1 : decide ((parW b.ty : Int) ≤ b.regs) = true := by simp; omega
        have e2 : decide (b.regs ≤ 8000) = true := by simp; omega
        have e3 : decide (1 ≤ b.code.length) = true := by simp; omega
        unfold headB at h
        rw [hn, HK.out, hmy, e1, e2, e3] at h
        simp at h
        omega
       have g5 : decide ((6000 : Int) < (b.code.length : Int)) = true := by simp; omega
       have g5' : decide (6000 < b.code.length) = true := by simpa using hl6
       clear hp h8 hl1 hl6
       go_wp2_with fail
       go_region_held3 (fun W => Below w1.heap.size w1 W ∧ (W.cell? ⟨w.heap.size, 0, none⟩ = some (.string b.nm) ∧ W.cell? ⟨w.heap.size, 1, none⟩ = some (.bool b.static) ∧ W.cell? ⟨w.heap.size, 2, none⟩ = some (.int .i64 b.ty.k) ∧ W.cell? ⟨w.heap.size, 3, none⟩ = some (.string b.ty.nm) ∧ W.cell? ⟨w.heap.size, 4, none⟩ = some (.slice An b.ty.ns.length cn) ∧ W.cell? ⟨w.heap.size, 5, none⟩ = some (.slice Ap b.ty.ps.length cp) ∧ W.cell? ⟨w.heap.size, 6, none⟩ = some (.bool b.ty.many) ∧ W.cell? ⟨w.heap.size, 7, none⟩ = some (.int .i64 b.regs) ∧ W.cell? ⟨w.heap.size, 8, none⟩ = some (.slice A b.code.length c))) (first | exact held0 HF | exact heldS HF (by assumption) hbq | exact heldD HF (by assumption) | go_keep) (first | (go_at_call 18; ((with_reducible refine (HNM.out _ (by assumption)).mono ?_); rintro e w' ⟨rfl, hbq⟩)) | (go_at_call 19; ((with_reducible refine (HMY.out _ (by assumption)).mono ?_); rintro e w' ⟨rfl, hbq⟩)) | (go_at_call 20; ((with_reducible refine (HPW.out _ (by assumption)).mono ?_); rintro e w' ⟨rfl, hbq⟩)))
       all_goals
        rename_i hh
        have b5 := b1.trans (hh.1.mono b1.size)
        go_wp2
        go_ret
        exact ⟨rfl, b5⟩
  ·have g1 : (b.ty.k != 4) = true := by simpa using hk
   clear hk
   go_wp2_with fail
   go_quiet ((go_at_call 18; exact Calls.quiet_of_same (HIS.out _)))
   go_wp2
   go_ret
   exact ⟨rfl, Below.drewN_ b1 _⟩
theorem RepOL.ten {w : World} {A : Option Addr} {l : List Or} (h : RepOL w A l) {k : Nat} (hk : k < l.length) : ∃ b o Ad cd As c' An cn Ap cp, A = some ⟨b, o, none⟩ ∧ b < w.heap.size ∧ RepO w l[k] [.int .i64 l[k].op, .slice Ad l[k].d.length cd, .slice As l[k].s.length c', .int .i64 l[k].n, .string l[k].nm, .int .i64 l[k].ty.k, .string l[k].ty.nm, .slice An l[k].ty.ns.length cn, .slice Ap l[k].ty.ps.length cp, .bool l[k].ty.many] ∧
 ∀ W, Below w.heap.size w W → (W.cell? ⟨b, o + k * 10, none⟩ = some (.int .i64 l[k].op) ∧ W.cell? ⟨b, o + k * 10 + 1, none⟩ = some (.slice Ad l[k].d.length cd) ∧ W.cell? ⟨b, o + k * 10 + 2, none⟩ = some (.slice As l[k].s.length c') ∧ W.cell? ⟨b, o + k * 10 + 3, none⟩ = some (.int .i64 l[k].n) ∧ W.cell? ⟨b, o + k * 10 + 4, none⟩ = some (.string l[k].nm) ∧
  W.cell? ⟨b, o + k * 10 + 5, none⟩ = some (.int .i64 l[k].ty.k) ∧ W.cell? ⟨b, o + k * 10 + 6, none⟩ = some (.string l[k].ty.nm) ∧ W.cell? ⟨b, o + k * 10 + 7, none⟩ = some (.slice An l[k].ty.ns.length cn) ∧ W.cell? ⟨b, o + k * 10 + 8, none⟩ = some (.slice Ap l[k].ty.ps.length cp) ∧ W.cell? ⟨b, o + k * 10 + 9, none⟩ = some (.bool l[k].ty.many)) := by
 obtain ⟨b, o, cs, hA, hlt, hc, hr⟩ := h k hk
 have hr' := hr
 obtain ⟨Ad, cd, As, c', An, cn, Ap, cp, rfl, -⟩ := hr.ten
 refine ⟨b, o, Ad, cd, As, c', An, cn, Ap, cp, hA, hlt, hr', fun W hW => ?_⟩
 exact ⟨(hW.cell hlt).trans (hc 0 _ rfl), (hW.cell hlt).trans (hc 1 _ rfl), (hW.cell hlt).trans (hc 2 _ rfl), (hW.cell hlt).trans (hc 3 _ rfl), (hW.cell hlt).trans (hc 4 _ rfl), (hW.cell hlt).trans (hc 5 _ rfl), (hW.cell hlt).trans (hc 6 _ rfl), (hW.cell hlt).trans (hc 7 _ rfl), (hW.cell hlt).trans (hc 8 _ rfl), (hW.cell hlt).trans (hc 9 _ rfl)⟩
def OrdsRel (b : Bo) (w w1 : World) (i : Value) (wr : World) : Prop := ∃ k : Nat, k ≤ b.code.length ∧ i = .int .i64 k ∧ (∀ j (h : j < b.code.length), j < k → orderB b.ty b.regs b.code.length b.code[j] = true) ∧ Below w1.heap.size w1 wr ∧ Below w.heap.size w wr
theorem head_parts {b : Bo} (h : headB b = true) : nameOf b.nm = true ∧ b.ty.k = 4 ∧ may b.ty = true ∧ (parW b.ty : Int) ≤ b.regs ∧ b.regs ≤ 8000 ∧ 1 ≤ b.code.length ∧ b.code.length ≤ 6000 := by
 unfold headB at h
 simp only [Bool.and_eq_true, decide_eq_true_eq, beq_iff_eq] at h
 obtain ⟨⟨⟨⟨⟨⟨h1, h2⟩, h3⟩, h4⟩, h5⟩, h6⟩, h7⟩ := h
 exact ⟨h1, h2, h3, h4, h5, h6, h7⟩
theorem body_some {b : Bo} (h : headB b = true) {k : Nat} (hk : k < b.code.length) (hn : orderB b.ty b.regs b.code.length b.code[k] = false) : bodyB b = false := by
 rw [body_eq, h]
 have : b.code.all (orderB b.ty b.regs b.code.length) = false := by
  rw [List.all_eq_false]
  exact ⟨_, List.getElem_mem hk, by rw [hn]; decide⟩
 rw [this]; rfl
theorem body_all {b : Bo} (h : headB b = true) (hl : 1 ≤ b.code.length) (ha : ∀ j (h : j < b.code.length), orderB b.ty b.regs b.code.length b.code[j] = true) : bodyB b = (((b.code[b.code.length - 1]'(by omega)).op == 9) || ((b.code[b.code.length - 1]'(by omega)).op == 12)) := by
 rw [body_eq, h]
 have h1 : b.code.all (orderB b.ty b.regs b.code.length) = true := by
  rw [List.all_eq_true]
  intro x hx
  obtain ⟨j, hj, rfl⟩ := List.getElem_of_mem hx
  exact ha j hj
 have h2 : b.code.getLast? = some (b.code[b.code.length - 1]'(by omega)) := by
  rw [List.getLast?_eq_getElem?, List.getElem?_eq_getElem (by omega)]
 rw [h1, h2]
 rfl
theorem may3_yes (b : Bo) (cs : List Value) (w : World) (hr : RepB w b cs) (hm : ML w) (hh : headB b = true) :
 Calls Tryz.prog 7 #[.agg cs.toArray] w fun e w' => e = .returned (.bool (bodyB b)) ∧ Below w.heap.size w w' := by
 have hr0 := hr
 obtain ⟨An, cn, Ap, cp, A, c, rfl, hT, hP, hO, hl⟩ := hr.nine
 obtain ⟨hn, hk, hmy, hp, h8, hl1, hl6⟩ := head_parts hh
 have B0 : Below w.heap.size w (w.alloc (.cells #[.string b.nm, .bool b.static, .int .i64 b.ty.k, .string b.ty.nm, .slice An b.ty.ns.length cn, .slice Ap b.ty.ps.length cp, .bool b.ty.many, .int .i64 b.regs, .slice A b.code.length c] 37)) := bel
 have kb := Blk.new_ w 37 #[.string b.nm, .bool b.static, .int .i64 b.ty.k, .string b.ty.nm, .slice An b.ty.ns.length cn, .slice Ap b.ty.ps.length cp, .bool b.ty.many, .int .i64 b.regs, .slice A b.code.length c]
 have HR := Lh (fun (W : World) (h : Below w.heap.size w W) => RepB.keep hr0 h)
 have HT := Lh hT
 have HO := Lh hO
 have HM := Lh hm
 have HNO := Lh (fun k (hk : k < b.code.length) hn => body_some hh hk hn)
 have HAL := Lh (body_all hh hl1)
 have HMYT := Lh hmy
 have HK4 := Lh hk
 generalize bodyB b = E at *
 have g1 : (b.ty.k != 4) = false := by simpa using hk
 have g2 : decide (b.regs < (parW b.ty : Int)) = false := by simp; omega
 have g3 : decide (8000 < b.regs) = false := by simp; omega
 have g4 : decide ((b.code.length : Int) < 1) = false := by rw [decide_eq_false_iff_not]; omega
 have g4' : decide (b.code.length < 1) = false := by rw [decide_eq_false_iff_not]; omega
 have g5 : decide ((6000 : Int) < (b.code.length : Int)) = false := by simp; omega
 have g5' : decide (6000 < b.code.length) = false := by simp; omega
 have HN0 := Lh hn
 have H8 := Lh h8
 clear hr hr0 hP hO hl hT hm hh hp hn hk hmy h8
 go_enter Tryz.func7, Tryz.ntmps7
 go_upto_region 1 with (fail)
 generalize hw1 : w.alloc (.cells #[.string b.nm, .bool b.static, .int .i64 b.ty.k, .string b.ty.nm, .slice An b.ty.ns.length cn, .slice Ap b.ty.ps.length cp, .bool b.ty.many, .int .i64 b.regs, .slice A b.code.length c] 37) = w1 at *
 clear hw1
 have b1 := B0
 have HF : Hid (∀ W, Below w1.heap.size w1 W → W.cell? ⟨w.heap.size, 0, none⟩ = some (.string b.nm) ∧ W.cell? ⟨w.heap.size, 1, none⟩ = some (.bool b.static) ∧ W.cell? ⟨w.heap.size, 2, none⟩ = some (.int .i64 b.ty.k) ∧ W.cell? ⟨w.heap.size, 3, none⟩ = some (.string b.ty.nm) ∧ W.cell? ⟨w.heap.size, 4, none⟩ = some (.slice An b.ty.ns.length cn) ∧ W.cell? ⟨w.heap.size, 5, none⟩ = some (.slice Ap b.ty.ps.length cp) ∧ W.cell? ⟨w.heap.size, 6, none⟩ = some (.bool b.ty.many) ∧ W.cell? ⟨w.heap.size, 7, none⟩ = some (.int .i64 b.regs) ∧ W.cell? ⟨w.heap.size, 8, none⟩ = some (.slice A b.code.length c)) := fun W h => by
  have k := kb.below h
  exact ⟨k.cell 0 _ rfl, k.cell 1 _ rfl, k.cell 2 _ rfl, k.cell 3 _ rfl, k.cell 4 _ rfl, k.cell 5 _ rfl, k.cell 6 _ rfl, k.cell 7 _ rfl, k.cell 8 _ rfl⟩
 have HNM : Hid (∀ W, (Below w1.heap.size w1 W ∧ (W.cell? ⟨w.heap.size, 0, none⟩ = some (.string b.nm) ∧ W.cell? ⟨w.heap.size, 1, none⟩ = some (.bool b.static) ∧ W.cell? ⟨w.heap.size, 2, none⟩ = some (.int .i64 b.ty.k) ∧ W.cell? ⟨w.heap.size, 3, none⟩ = some (.string b.ty.nm) ∧ W.cell? ⟨w.heap.size, 4, none⟩ = some (.slice An b.ty.ns.length cn) ∧ W.cell? ⟨w.heap.size, 5, none⟩ = some (.slice Ap b.ty.ps.length cp) ∧ W.cell? ⟨w.heap.size, 6, none⟩ = some (.bool b.ty.many) ∧ W.cell? ⟨w.heap.size, 7, none⟩ = some (.int .i64 b.regs) ∧ W.cell? ⟨w.heap.size, 8, none⟩ = some (.slice A b.code.length c))) → Calls Tryz.prog 18 #[.string b.nm] W fun e w' => e = .returned (.bool true) ∧ Below W.heap.size W w') := fun W h =>
  (isName_any b.nm W (HM.out.keep (b1.trans (h.1.mono b1.size)))).mono fun _ _ ⟨he, hw⟩ => ⟨by rw [he, HN0.out], by rw [hw]; exact Below.refl _ _⟩
 have HMY : Hid (∀ W, (Below w1.heap.size w1 W ∧ (W.cell? ⟨w.heap.size, 0, none⟩ = some (.string b.nm) ∧ W.cell? ⟨w.heap.size, 1, none⟩ = some (.bool b.static) ∧ W.cell? ⟨w.heap.size, 2, none⟩ = some (.int .i64 b.ty.k) ∧ W.cell? ⟨w.heap.size, 3, none⟩ = some (.string b.ty.nm) ∧ W.cell? ⟨w.heap.size, 4, none⟩ = some (.slice An b.ty.ns.length cn) ∧ W.cell? ⟨w.heap.size, 5, none⟩ = some (.slice Ap b.ty.ps.length cp) ∧ W.cell? ⟨w.heap.size, 6, none⟩ = some (.bool b.ty.many) ∧ W.cell? ⟨w.heap.size, 7, none⟩ = some (.int .i64 b.regs) ∧ W.cell? ⟨w.heap.size, 8, none⟩ = some (.slice A b.code.length c))) → Calls Tryz.prog 19 #[.agg #[.int .i64 b.ty.k, .string b.ty.nm, .slice An b.ty.ns.length cn, .slice Ap b.ty.ps.length cp, .bool b.ty.many]] W fun e w' => e = .returned (.bool true) ∧ Below W.heap.size W w') := fun W h => by
  have B := b1.trans (h.1.mono b1.size)
  have := may_any b.ty _ W (Rep.keep B _ _ HT.out) (HM.out.keep B)
  rw [HMYT.out] at this
  exact this
 have HPW : Hid (∀ W, (Below w1.heap.size w1 W ∧ (W.cell? ⟨w.heap.size, 0, none⟩ = some (.string b.nm) ∧ W.cell? ⟨w.heap.size, 1, none⟩ = some (.bool b.static) ∧ W.cell? ⟨w.heap.size, 2, none⟩ = some (.int .i64 b.ty.k) ∧ W.cell? ⟨w.heap.size, 3, none⟩ = some (.string b.ty.nm) ∧ W.cell? ⟨w.heap.size, 4, none⟩ = some (.slice An b.ty.ns.length cn) ∧ W.cell? ⟨w.heap.size, 5, none⟩ = some (.slice Ap b.ty.ps.length cp) ∧ W.cell? ⟨w.heap.size, 6, none⟩ = some (.bool b.ty.many) ∧ W.cell? ⟨w.heap.size, 7, none⟩ = some (.int .i64 b.regs) ∧ W.cell? ⟨w.heap.size, 8, none⟩ = some (.slice A b.code.length c))) → Calls Tryz.prog 20 #[.agg #[.int .i64 b.ty.k, .string b.ty.nm, .slice An b.ty.ns.length cn, .slice Ap b.ty.ps.length cp, .bool b.ty.many]] W fun e w' => e = .returned (.int .i64 (parW b.ty : Int)) ∧ Below W.heap.size W w') := fun W h => by
  have B := b1.trans (h.1.mono b1.size)
  exact params3_any b.ty _ W (Rep.keep B _ _ HT.out) (HM.out.keep B) HMYT.out HK4.out
 go_wp2_with fail
 go_region_held3 (fun W => Below w1.heap.size w1 W ∧ (W.cell? ⟨w.heap.size, 0, none⟩ = some (.string b.nm) ∧ W.cell? ⟨w.heap.size, 1, none⟩ = some (.bool b.static) ∧ W.cell? ⟨w.heap.size, 2, none⟩ = some (.int .i64 b.ty.k) ∧ W.cell? ⟨w.heap.size, 3, none⟩ = some (.string b.ty.nm) ∧ W.cell? ⟨w.heap.size, 4, none⟩ = some (.slice An b.ty.ns.length cn) ∧ W.cell? ⟨w.heap.size, 5, none⟩ = some (.slice Ap b.ty.ps.length cp) ∧ W.cell? ⟨w.heap.size, 6, none⟩ = some (.bool b.ty.many) ∧ W.cell? ⟨w.heap.size, 7, none⟩ = some (.int .i64 b.regs) ∧ W.cell? ⟨w.heap.size, 8, none⟩ = some (.slice A b.code.length c))) (first | exact held0 HF | exact heldS HF (by assumption) hbq | exact heldD HF (by assumption) | go_keep) (first | (go_at_call 18; ((with_reducible refine (HNM.out _ (by assumption)).mono ?_); rintro e w' ⟨rfl, hbq⟩)) | (go_at_call 19; ((with_reducible refine (HMY.out _ (by assumption)).mono ?_); rintro e w' ⟨rfl, hbq⟩)) | (go_at_call 20; ((with_reducible refine (HPW.out _ (by assumption)).mono ?_); rintro e w' ⟨rfl, hbq⟩)))
 rename_i hh
 obtain ⟨w5, rfl⟩ : ∃ w5 : World, w5 = w' := ⟨_, rfl⟩
 obtain ⟨hB5, x0, x1, x2, x3, x4, x5, x6, x7, x8⟩ := hh
 have b5 := b1.trans (hB5.mono b1.size)
 clear g1 g2 g3 g4 g4' g5 g5' HNM HMY HPW
 go_wp2
 go_loopw [50] (fun i wr => OrdsRel b w w1 i wr) (fun i _ => b.code.length - (intOf i).toNat)
 case atStart => exact ⟨0, Nat.zero_le _, rfl, fun j _ h => absurd h (by omega), hB5, b5⟩
 case round =>
  clear b5 hB5 x0 x1 x2 x3 x4 x5 x6 x7 x8
  obtain ⟨k, hk, rfl, hg, hb, hbw⟩ := hrel
  obtain ⟨x0, x1, x2, x3, x4, x5, x6, x7, x8⟩ := HF.out _ hb
  by_cases hlt : k < b.code.length
  ·obtain ⟨bb, oo, Ad, cd, As, c', An', cn', Ap', cp', rfl, hbl, hrep, hcs⟩ := HO.out.ten hlt
   obtain ⟨c0, c1, c2, c3, c4, c5, c6, c7, c8, c9⟩ := hcs wr hbw
   have hi : (k : Int) < (b.code.length : Int) := by omega
   have hk6 : (k : Int) < 6000 := by omega
   have hH := Nat.lt_of_lt_of_le kb.lt hb.size
   have HN := Lh (HNO.out k hlt)
   have HG : Hid (orderB b.ty b.regs b.code.length b.code[k] = true → ∀ j (h : j < b.code.length), j < k + 1 → orderB b.ty b.regs b.code.length b.code[j] = true) := fun h0 j h hj => by
    rcases Nat.lt_or_ge j k with h1 | h1
    ·exact hg j h h1
    ·obtain rfl : j = k := by omega
     exact h0
   have hbl2 : bb < wr.heap.size := Nat.lt_of_lt_of_le hbl hbw.size
   have X : Below wr.heap.size wr (wr.alloc (.cells #[.int .i64 b.code[k].op, .slice Ad b.code[k].d.length cd, .slice As b.code[k].s.length c', .int .i64 b.code[k].n, .string b.code[k].nm, .int .i64 b.code[k].ty.k, .string b.code[k].ty.nm, .slice An' b.code[k].ty.ns.length cn', .slice Ap' b.code[k].ty.ps.length cp', .bool b.code[k].ty.many] 63)) := bel
   have B2 := hbw.trans (X.mono hbw.size)
   have HC := Lh (order3_any b _ b.code[k] _ _ (HR.out _ B2) (hrep.keep B2) (HM.out.keep B2) HMYT.out HK4.out hl6 H8.out)
   clear hg hrep hcs
   generalize b.code[k] = od at *
   have b1 := X
   go_wp2_with fail
   ((with_reducible refine (HC.out).mono ?_); rintro e w7 ⟨rfl, hb7⟩)
   have b7 := hb.trans ((X.trans (hb7.mono X.size)).mono hb.size)
   have bw7 := hbw.trans ((X.trans (hb7.mono X.size)).mono hbw.size)
   rcases hob : orderB b.ty b.regs b.code.length od with _ | _
   ·have hf := Lh (HN.out hob)
    clear hob
    go_wp2
    go_ret
    exact ⟨by rw [hf.out]; rfl, bw7⟩
   ·have hgg := Lh (HG.out hob)
    clear hob
    go_wp2
    go_roundw
    case rel => exact ⟨k + 1, by omega, by go_num, hgg.out, b7, bw7⟩
    case measure => simp [intOf] <;> omega
  ·have hi : ¬ (k : Int) < (b.code.length : Int) := by omega
   have he := HAL.out (fun j h => hg j h (by omega))
   have hlast : b.code.length - 1 < b.code.length := by omega
   obtain ⟨bb, oo, Ad, cd, As, c', An', cn', Ap', cp', rfl, hbl, hrep, hcs⟩ := HO.out.ten hlast
   obtain ⟨c0, -⟩ := hcs wr hbw
   have hp1 : (1 : Int) ≤ (b.code.length : Int) := by omega
   have hp6 : (b.code.length : Int) ≤ 6000 := by omega
   have hnat : ((b.code.length : Int) - 1).toNat = b.code.length - 1 := by omega
   clear hrep hcs
   have HE := Lh he
   generalize b.code[b.code.length - 1] = od at *
   have HE2 := Lh he
   clear hg he HE
   rcases e9 : (od.op == 9) with _ | _
   ·go_wp2
    go_ret
    exact ⟨by rw [HE2.out, e9]; rfl, hbw⟩
   ·go_wp2
    go_ret
    exact ⟨by rw [HE2.out, e9]; rfl, hbw⟩
theorem may3_any (b : Bo) (cs : List Value) (w : World) (hr : RepB w b cs) (hm : ML w) :
 Calls Tryz.prog 7 #[.agg cs.toArray] w fun e w' => e = .returned (.bool (bodyB b)) ∧ Below w.heap.size w w' := by
 rcases h : headB b with _ | _
 ·rw [body_no h]
  exact may3_no b cs w hr hm h
 ·exact may3_yes b cs w hr hm h
def SpkRel (u : Un) (b : Bo) (w w1 : World) (i : Value) (wr : World) : Prop := ∃ k : Nat, k ≤ b.code.length ∧ i = .int .i64 k ∧ (∀ j (h : j < b.code.length), j < k → spk1 u b.code[j] = true) ∧ Below w1.heap.size w1 wr ∧ Below w.heap.size w wr
theorem spk_no {u : Un} {b : Bo} {k : Nat} (hk : k < b.code.length) (h : spk1 u b.code[k] = false) : spkB u b = false := by
 unfold spkB
 rw [List.all_eq_false]
 exact ⟨_, List.getElem_mem hk, by rw [h]; decide⟩
theorem spk_yes {u : Un} {b : Bo} (h : ∀ j (h : j < b.code.length), spk1 u b.code[j] = true) : spkB u b = true := by
 unfold spkB
 rw [List.all_eq_true]
 intro x hx
 obtain ⟨j, hj, rfl⟩ := List.getElem_of_mem hx
 exact h j hj
theorem RepO.tyL {w : World} {o : Or} {Ad As : Option Addr} {cd c' : Nat} {Bn Bp : Option Addr} {dn dp : Nat} (h : RepO w o [.int .i64 o.op, .slice Ad o.d.length cd, .slice As o.s.length c', .int .i64 o.n, .string o.nm, .int .i64 o.ty.k, .string o.ty.nm, .slice Bn o.ty.ns.length dn, .slice Bp o.ty.ps.length dp, .bool o.ty.many]) : Rep w o.ty [.int .i64 o.ty.k, .string o.ty.nm, .slice Bn o.ty.ns.length dn, .slice Bp o.ty.ps.length dp, .bool o.ty.many] := by
 obtain ⟨_, _, _, _, tc, h0, -, -, h3, -⟩ := h
 simp at h0
 obtain ⟨-, -, h0⟩ := h0
 subst h0
 exact h3
theorem speaksR_any (u : Un) (b : Bo) (us cs : List Value) (w : World) (hu : RepU w u us) (hr : RepB w b cs) (hU : unitB u = true) (hB : b.code.length ≤ 6000) (hO : ∀ o ∈ b.code, o.op = 7 → may o.ty = true) :
 Calls Tryz.prog 17 #[.agg us.toArray, .agg cs.toArray] w fun e w' => e = .returned (.bool (spkB u b)) ∧ Below w.heap.size w w' := by
 have hr0 := hr
 have hu0 := hu
 obtain ⟨An, cn, Ap, cp, A, c, rfl, hT, hP, hC, hl⟩ := hr.nine
 obtain ⟨UA, ua, UB, ub, UC, uc, rfl, rA, rB, rC, -, -, -⟩ := hu
 have B0 : Below w.heap.size w ((w.alloc (.cells #[.slice UA u.bs.length ua, .slice UB u.gs.length ub, .slice UC u.os.length uc] 29)).alloc (.cells #[.string b.nm, .bool b.static, .int .i64 b.ty.k, .string b.ty.nm, .slice An b.ty.ns.length cn, .slice Ap b.ty.ps.length cp, .bool b.ty.many, .int .i64 b.regs, .slice A b.code.length c] 37)) := bel
 have ku := (Blk.new_ w 29 #[.slice UA u.bs.length ua, .slice UB u.gs.length ub, .slice UC u.os.length uc]).alloc (.cells #[.string b.nm, .bool b.static, .int .i64 b.ty.k, .string b.ty.nm, .slice An b.ty.ns.length cn, .slice Ap b.ty.ps.length cp, .bool b.ty.many, .int .i64 b.regs, .slice A b.code.length c] 37)
 have kb := Blk.nxt1 w (.cells #[.slice UA u.bs.length ua, .slice UB u.gs.length ub, .slice UC u.os.length uc] 29) 37 #[.string b.nm, .bool b.static, .int .i64 b.ty.k, .string b.ty.nm, .slice An b.ty.ns.length cn, .slice Ap b.ty.ps.length cp, .bool b.ty.many, .int .i64 b.regs, .slice A b.code.length c]
 have HU := Lh (fun (W : World) (h : Below w.heap.size w W) s => typeOf_any u s _ W (hu0.keep h))
 have HC := Lh hC
 have HM := Lh (fun s => ty_may (s := s) hU)
 have HO := Lh (fun k (h : k < b.code.length) => hO _ (List.getElem_mem h))
 have HNO := Lh (fun k (hk : k < b.code.length) hn => spk_no (u := u) hk hn)
 have HYES := Lh (spk_yes (u := u) (b := b))
 generalize spkB u b = E at *
 clear hr hr0 hu0 hT hP hC rA rB rC hU hO hl
 go_enter Tryz.func17, Tryz.ntmps17
 go_upto_region 1 with (fail)
 generalize hw1 : (w.alloc (.cells #[.slice UA u.bs.length ua, .slice UB u.gs.length ub, .slice UC u.os.length uc] 29)).alloc (.cells #[.string b.nm, .bool b.static, .int .i64 b.ty.k, .string b.ty.nm, .slice An b.ty.ns.length cn, .slice Ap b.ty.ps.length cp, .bool b.ty.many, .int .i64 b.regs, .slice A b.code.length c] 37) = w1 at *
 clear hw1
 go_wp2_with fail
 go_loopw [5] (fun i wr => SpkRel u b w w1 i wr) (fun i _ => b.code.length - (intOf i).toNat)
 case atStart => exact ⟨0, Nat.zero_le _, rfl, fun j _ h => absurd h (by omega), Below.refl _ _, B0⟩
 case round =>
  rename_i wr
  obtain ⟨k, hk, rfl, hg, hb1, hbw⟩ := hrel
  have ku1 := ku.below hb1
  have kb1 := kb.below hb1
  have u0 := ku1.cell 0 _ rfl
  have u1 := ku1.cell 1 _ rfl
  have u2 := ku1.cell 2 _ rfl
  have x8 := kb1.cell 8 _ rfl
  by_cases hlt : k < b.code.length
  ·obtain ⟨bb, oo, Ad, cd, As, c', Bn, dn, Bp, dp, rfl, hbl, hRO, hc⟩ := HC.out.ten hlt
   obtain ⟨c0, c1, c2, c3, c4, c5, c6, c7, c8, c9⟩ := hc wr hbw
   have HRO := Lh (fun (W : World) (h : Below w.heap.size w W) => hRO.keep h)
   have HN := Lh (HNO.out k hlt)
   have HY : Hid (spk1 u b.code[k] = true → ∀ j (h : j < b.code.length), j < k + 1 → spk1 u b.code[j] = true) := fun h0 j h hj => by
    rcases Nat.lt_or_ge j k with h1 | h1
    ·exact hg j h h1
    ·have e : j = k := by omega
     subst e
     exact h0
   have HO7 := Lh (HO.out k hlt)
   have hi : (k : Int) < (b.code.length : Int) := by omega
   have hi0 : (0 : Int) ≤ (k : Int) := by omega
   have hi6 : (k : Int) < 6000 := by omega
   have HB1 := Lh hb1
   have HBW := Lh hbw
   clear hg hb1 hbw hc hRO HNO HYES HO
   generalize b.code[k] = o at *
   go_upto_region 5 with (fail)
   have ko := Blk.new_ wr 63 #[.int .i64 o.op, .slice Ad o.d.length cd, .slice As o.s.length c', .int .i64 o.n, .string o.nm, .int .i64 o.ty.k, .string o.ty.nm, .slice Bn o.ty.ns.length dn, .slice Bp o.ty.ps.length dp, .bool o.ty.many]
   have b2 : Below wr.heap.size wr (wr.alloc (.cells #[.int .i64 o.op, .slice Ad o.d.length cd, .slice As o.s.length c', .int .i64 o.n, .string o.nm, .int .i64 o.ty.k, .string o.ty.nm, .slice Bn o.ty.ns.length dn, .slice Bp o.ty.ps.length dp, .bool o.ty.many] 63)) := bel
   generalize hw2 : wr.alloc (.cells #[.int .i64 o.op, .slice Ad o.d.length cd, .slice As o.s.length c', .int .i64 o.n, .string o.nm, .int .i64 o.ty.k, .string o.ty.nm, .slice Bn o.ty.ns.length dn, .slice Bp o.ty.ps.length dp, .bool o.ty.many] 63) = w2 at *
   clear hw2 c0 c1 c2 c3 c4 c5 c6 c7 c8 c9
   have HB2 := Lh (HB1.out.trans (b2.mono HB1.out.size))
   have HBW2 := Lh (HBW.out.trans (b2.mono HBW.out.size))
   have ku2 := ku1.below b2
   have hT2 := (HRO.out w2 HBW2.out).tyL
   have HQ : Hid (wr.heap.size < w2.heap.size) := ko.lt
   have HW : Hid (w.heap.size ≤ wr.heap.size) := HBW.out.size
   obtain ⟨op, dl, sl, nn, nm, T2⟩ := o
   dsimp only at ko hT2 HO7 HN HY ⊢
   have HT2 := Lh hT2
   clear HRO hT2 b2 HB1 HBW u0 u1 u2 x8 ku1 kb1
   generalize wr.heap.size = ob at *
   have p0 := ko.cell 0 _ rfl
   have p3 := ko.cell 3 _ rfl
   have p4 := ko.cell 4 _ rfl
   have u0 := ku2.cell 0 _ rfl
   have u1 := ku2.cell 1 _ rfl
   have u2 := ku2.cell 2 _ rfl
   by_cases hz : nm = ⟨#[]⟩
   ·have hq := Lh (HY.out (if_pos hz))
    clear HY HN
    subst hz
    go_wp2_with fail
    go_roundw
    case rel => exact ⟨k + 1, by omega, by go_num, hq.out, HB2.out, HBW2.out⟩
    case measure => simp [intOf] <;> omega
   ·have HS : Hid (spk1 u ⟨op, dl, sl, nn, nm, T2⟩ = ((tyF u nm).2.2 && ((tyF u nm).2.1 == ((op == 7) || (op == 6))) && !(((op == 7) && !eqB (tyF u nm).1 T2) || (!(tyF u nm).2.1 && decide (((sizeT (tyF u nm).1).1 : Int) ≤ nn))))) := if_neg hz
    rw [HS.out] at HN HY
    have z1 := str_ne hz
    have z2 : (nm.toList == []) = false := by
     have h := z1
     rw [show (⟨#[]⟩ : ByteArray).toList = [] by rw [ByteArray.toList_eq]] at h
     exact h
    have HM7 := Lh (HM.out nm)
    have HG := Lh (HU.out w2 HBW2.out nm)
    clear HS HM HU
    generalize tyF u nm = R at *
    obtain ⟨T, fn, ok⟩ := R
    dsimp only at HN HY HM7
    go_wp2_with fail
    refine (HG.out).mono ?_
    rintro e w3 ⟨cs3, rfl, hT3, hb3⟩
    dsimp only at hT3
    have hT30 := hT3
    obtain ⟨Cn, en, Cp, ep, rfl, -, -⟩ := hT3.five
    have ko3 := ko.below hb3
    have HB3 := Lh (HB2.out.trans (hb3.mono HB2.out.size))
    have HBW3 := Lh (HBW2.out.trans (hb3.mono HBW2.out.size))
    have HT23 := Lh (Rep.keep hb3 _ _ HT2.out)
    have HT3 := Lh hT30
    clear p0 p3 p4 u0 u1 u2 ku2 ko HB2 HBW2 HT2 HG hT3 hT30 hb3
    go_upto_region 7 with (fail)
    have kt := Blk.new_ w3 34 #[.int .i64 T.k, .string T.nm, .slice Cn T.ns.length en, .slice Cp T.ps.length ep, .bool T.many]
    have b4 : Below w3.heap.size w3 (w3.alloc (.cells #[.int .i64 T.k, .string T.nm, .slice Cn T.ns.length en, .slice Cp T.ps.length ep, .bool T.many] 34)) := bel
    generalize hw4 : w3.alloc (.cells #[.int .i64 T.k, .string T.nm, .slice Cn T.ns.length en, .slice Cp T.ps.length ep, .bool T.many] 34) = w4 at *
    clear hw4
    have ko4 := ko3.below b4
    have HB4 := Lh (HB3.out.trans (b4.mono HB3.out.size))
    have HBW4 := Lh (HBW3.out.trans (b4.mono HBW3.out.size))
    have HT24 := Lh (Rep.keep b4 _ _ HT23.out)
    have HT4 := Lh (Rep.keep b4 _ _ HT3.out)
    clear b4 HT23 HT3 HB3 HBW3 ko3
    generalize w3.heap.size = tb at *
    have HF : Hid (∀ W, Below w4.heap.size w4 W → (W.cell? ⟨ob, 0, none⟩ = some (.int .i64 op) ∧ W.cell? ⟨ob, 3, none⟩ = some (.int .i64 nn) ∧ W.cell? ⟨ob, 5, none⟩ = some (.int .i64 T2.k) ∧ W.cell? ⟨ob, 6, none⟩ = some (.string T2.nm) ∧ W.cell? ⟨ob, 7, none⟩ = some (.slice Bn T2.ns.length dn) ∧ W.cell? ⟨ob, 8, none⟩ = some (.slice Bp T2.ps.length dp) ∧ W.cell? ⟨ob, 9, none⟩ = some (.bool T2.many) ∧ W.cell? ⟨tb, 0, none⟩ = some (.int .i64 T.k) ∧ W.cell? ⟨tb, 1, none⟩ = some (.string T.nm) ∧ W.cell? ⟨tb, 2, none⟩ = some (.slice Cn T.ns.length en) ∧ W.cell? ⟨tb, 3, none⟩ = some (.slice Cp T.ps.length ep) ∧ W.cell? ⟨tb, 4, none⟩ = some (.bool T.many))) := fun W h => by
     have k1 := ko4.below h
     have k2 := kt.below h
     exact ⟨k1.cell 0 _ rfl, k1.cell 3 _ rfl, k1.cell 5 _ rfl, k1.cell 6 _ rfl, k1.cell 7 _ rfl, k1.cell 8 _ rfl, k1.cell 9 _ rfl, k2.cell 0 _ rfl, k2.cell 1 _ rfl, k2.cell 2 _ rfl, k2.cell 3 _ rfl, k2.cell 4 _ rfl⟩
    have HAL : Hid (ok = true → ∀ W, (Below w4.heap.size w4 W ∧ (W.cell? ⟨ob, 0, none⟩ = some (.int .i64 op) ∧ W.cell? ⟨ob, 3, none⟩ = some (.int .i64 nn) ∧ W.cell? ⟨ob, 5, none⟩ = some (.int .i64 T2.k) ∧ W.cell? ⟨ob, 6, none⟩ = some (.string T2.nm) ∧ W.cell? ⟨ob, 7, none⟩ = some (.slice Bn T2.ns.length dn) ∧ W.cell? ⟨ob, 8, none⟩ = some (.slice Bp T2.ps.length dp) ∧ W.cell? ⟨ob, 9, none⟩ = some (.bool T2.many) ∧ W.cell? ⟨tb, 0, none⟩ = some (.int .i64 T.k) ∧ W.cell? ⟨tb, 1, none⟩ = some (.string T.nm) ∧ W.cell? ⟨tb, 2, none⟩ = some (.slice Cn T.ns.length en) ∧ W.cell? ⟨tb, 3, none⟩ = some (.slice Cp T.ps.length ep) ∧ W.cell? ⟨tb, 4, none⟩ = some (.bool T.many))) → Calls Tryz.prog 29 #[.agg #[.int .i64 T.k, .string T.nm, .slice Cn T.ns.length en, .slice Cp T.ps.length ep, .bool T.many], .agg #[.int .i64 T2.k, .string T2.nm, .slice Bn T2.ns.length dn, .slice Bp T2.ps.length dp, .bool T2.many]] W fun e w' => e = .returned (.bool (eqB T T2)) ∧ Below W.heap.size W w') := fun h W hW =>
     alkR 4 T (HM7.out h) T2 _ _ W (Rep.keep hW.1 _ _ HT4.out) (Rep.keep hW.1 _ _ HT24.out)
    have HSZ : Hid (ok = true → ∀ W, (Below w4.heap.size w4 W ∧ (W.cell? ⟨ob, 0, none⟩ = some (.int .i64 op) ∧ W.cell? ⟨ob, 3, none⟩ = some (.int .i64 nn) ∧ W.cell? ⟨ob, 5, none⟩ = some (.int .i64 T2.k) ∧ W.cell? ⟨ob, 6, none⟩ = some (.string T2.nm) ∧ W.cell? ⟨ob, 7, none⟩ = some (.slice Bn T2.ns.length dn) ∧ W.cell? ⟨ob, 8, none⟩ = some (.slice Bp T2.ps.length dp) ∧ W.cell? ⟨ob, 9, none⟩ = some (.bool T2.many) ∧ W.cell? ⟨tb, 0, none⟩ = some (.int .i64 T.k) ∧ W.cell? ⟨tb, 1, none⟩ = some (.string T.nm) ∧ W.cell? ⟨tb, 2, none⟩ = some (.slice Cn T.ns.length en) ∧ W.cell? ⟨tb, 3, none⟩ = some (.slice Cp T.ps.length ep) ∧ W.cell? ⟨tb, 4, none⟩ = some (.bool T.many))) → Calls Tryz.prog 44 #[.agg #[.int .i64 T.k, .string T.nm, .slice Cn T.ns.length en, .slice Cp T.ps.length ep, .bool T.many]] W fun e w' => e = .returned (.int .i64 ((sizeT T).1 : Int)) ∧ Below W.heap.size W w') := fun h W hW =>
     sizeR_all 4 T (HM7.out h) _ W (Rep.keep hW.1 _ _ HT4.out)
    have p0 := ko4.cell 0 _ rfl
    clear ko4 kt HT4 HT24 HM7 HO7
    generalize (sizeT T).1 = sz at *
    generalize eqB T T2 = al at *
    cases ok
    ·have hq := Lh (HN.out rfl)
     clear HY HN
     go_wp2_with fail
     go_ret
     exact ⟨by rw [hq.out]; rfl, HBW4.out⟩
    ·have HA1 := Lh (HAL.out rfl)
     have HS1 := Lh (HSZ.out rfl)
     clear HAL HSZ
     rcases e7 : (op == 7) with _ | _
     ·rcases e6 : (op == 6) with _ | _
      ·cases fn
       ·rcases e8 : decide ((sz : Int) ≤ nn) with _ | _
        ·have hq := Lh (HY.out (by rw [e7, e6, e8]; rfl))
         clear HY HN
         go_upto_region 9 with (fail)
         refine dQ (fun W => Below w4.heap.size w4 W ∧ (At W ob 0 (.int .i64 op) ∧ At W ob 3 (.int .i64 nn) ∧ At W ob 5 (.int .i64 T2.k) ∧ At W ob 6 (.string T2.nm) ∧ At W ob 7 (.slice Bn T2.ns.length dn) ∧ At W ob 8 (.slice Bp T2.ps.length dp) ∧ At W ob 9 (.bool T2.many) ∧ At W tb 0 (.int .i64 T.k) ∧ At W tb 1 (.string T.nm) ∧ At W tb 2 (.slice Cn T.ns.length en) ∧ At W tb 3 (.slice Cp T.ps.length ep) ∧ At W tb 4 (.bool T.many))) (held0 HF) (fun hHeld => ?_)
         clear p0
         refine tQ4 0 1 2 3 ?_; try simp only [sq]
         refine pQ4 4 5 6 7 ?_; try simp only [sq]
         refine pQ 8 ?_; try simp only [sq]
         refine tQ4 9 10 11 12 ?_; try simp only [sq]
         refine tQ4 13 14 15 16 ?_; try simp only [sq]
         refine wpAnyH_ready (rs := [17]) (by kernel_rfl) (by simp) ?_
         refine AllReadyH.cons rfl (fun K hK => ?_) AllReadyH.nil
         go_simp
         with_reducible refine (HS1.out _ (by assumption)).mono ?_
         rintro e w' ⟨rfl, hbq⟩
         refine hK.out _ _ (heldS HF (by assumption) hbq) (fun hHeld => ?_)
         clear hK K hbq
         (try simp only [Act.put, List.setIfInBounds_toArray, List.set_cons_zero, List.set_cons_succ])
         refine tQ3 18 19 20 ?_; try simp only [sq]
         refine fQ ?_ _
         have b5 := HB4.out.trans (hHeld.1.mono HB4.out.size)
         have b6 := HBW4.out.trans (hHeld.1.mono HBW4.out.size)
         go_wp2_with fail
         go_roundw
         case rel => exact ⟨k + 1, by omega, by go_num, hq.out, b5, b6⟩
         case measure => simp [intOf] <;> omega
        ·have hq := Lh (HN.out (by rw [e7, e6, e8]; rfl))
         clear HY HN
         go_upto_region 9 with (fail)
         refine dQ (fun W => Below w4.heap.size w4 W ∧ (At W ob 0 (.int .i64 op) ∧ At W ob 3 (.int .i64 nn) ∧ At W ob 5 (.int .i64 T2.k) ∧ At W ob 6 (.string T2.nm) ∧ At W ob 7 (.slice Bn T2.ns.length dn) ∧ At W ob 8 (.slice Bp T2.ps.length dp) ∧ At W ob 9 (.bool T2.many) ∧ At W tb 0 (.int .i64 T.k) ∧ At W tb 1 (.string T.nm) ∧ At W tb 2 (.slice Cn T.ns.length en) ∧ At W tb 3 (.slice Cp T.ps.length ep) ∧ At W tb 4 (.bool T.many))) (held0 HF) (fun hHeld => ?_)
         clear p0
         refine tQ4 0 1 2 3 ?_; try simp only [sq]
         refine pQ4 4 5 6 7 ?_; try simp only [sq]
         refine pQ 8 ?_; try simp only [sq]
         refine tQ4 9 10 11 12 ?_; try simp only [sq]
         refine tQ4 13 14 15 16 ?_; try simp only [sq]
         refine wpAnyH_ready (rs := [17]) (by kernel_rfl) (by simp) ?_
         refine AllReadyH.cons rfl (fun K hK => ?_) AllReadyH.nil
         go_simp
         with_reducible refine (HS1.out _ (by assumption)).mono ?_
         rintro e w' ⟨rfl, hbq⟩
         refine hK.out _ _ (heldS HF (by assumption) hbq) (fun hHeld => ?_)
         clear hK K hbq
         (try simp only [Act.put, List.setIfInBounds_toArray, List.set_cons_zero, List.set_cons_succ])
         refine tQ3 18 19 20 ?_; try simp only [sq]
         refine fQ ?_ _
         have b5 := HB4.out.trans (hHeld.1.mono HB4.out.size)
         have b6 := HBW4.out.trans (hHeld.1.mono HBW4.out.size)
         go_wp2_with fail
         go_ret
         exact ⟨by rw [hq.out]; rfl, b6⟩
       ·have hq := Lh (HN.out (by rw [e7, e6]; rfl))
        clear HY HN
        go_wp2_with fail
        go_ret
        exact ⟨by rw [hq.out]; rfl, HBW4.out⟩
      ·cases fn
       ·have hq := Lh (HN.out (by rw [e7, e6]; rfl))
        clear HY HN
        go_wp2_with fail
        go_ret
        exact ⟨by rw [hq.out]; rfl, HBW4.out⟩
       ·have hq := Lh (HY.out (by rw [e7, e6]; rfl))
        clear HY HN
        go_upto_region 9 with (fail)
        refine dQ (fun W => Below w4.heap.size w4 W ∧ (At W ob 0 (.int .i64 op) ∧ At W ob 3 (.int .i64 nn) ∧ At W ob 5 (.int .i64 T2.k) ∧ At W ob 6 (.string T2.nm) ∧ At W ob 7 (.slice Bn T2.ns.length dn) ∧ At W ob 8 (.slice Bp T2.ps.length dp) ∧ At W ob 9 (.bool T2.many) ∧ At W tb 0 (.int .i64 T.k) ∧ At W tb 1 (.string T.nm) ∧ At W tb 2 (.slice Cn T.ns.length en) ∧ At W tb 3 (.slice Cp T.ps.length ep) ∧ At W tb 4 (.bool T.many))) (held0 HF) (fun hHeld => ?_)
        clear p0
        refine tQ4 0 1 2 3 ?_; try simp only [sq]
        refine pQ4 4 5 6 7 ?_; try simp only [sq]
        refine pQ 8 ?_; try simp only [sq]
        refine tQ4 9 10 11 12 ?_; try simp only [sq]
        refine tQ 13 ?_; try simp only [sq]
        refine pQ4 14 15 16 17 ?_; try simp only [sq]
        refine pQ 18 ?_; try simp only [sq]
        refine tQ2 19 20 ?_; try simp only [sq]
        refine fQ ?_ _
        have b5 := HB4.out.trans (hHeld.1.mono HB4.out.size)
        have b6 := HBW4.out.trans (hHeld.1.mono HBW4.out.size)
        go_wp2_with fail
        go_roundw
        case rel => exact ⟨k + 1, by omega, by go_num, hq.out, b5, b6⟩
        case measure => simp [intOf] <;> omega
     ·cases fn
      ·have hq := Lh (HN.out (by rw [e7]; rfl))
       clear HY HN
       go_wp2_with fail
       go_ret
       exact ⟨by rw [hq.out]; rfl, HBW4.out⟩
      ·cases al
       ·have hq := Lh (HN.out (by rw [e7]; rfl))
        clear HY HN
        go_upto_region 9 with (fail)
        refine dQ (fun W => Below w4.heap.size w4 W ∧ (At W ob 0 (.int .i64 op) ∧ At W ob 3 (.int .i64 nn) ∧ At W ob 5 (.int .i64 T2.k) ∧ At W ob 6 (.string T2.nm) ∧ At W ob 7 (.slice Bn T2.ns.length dn) ∧ At W ob 8 (.slice Bp T2.ps.length dp) ∧ At W ob 9 (.bool T2.many) ∧ At W tb 0 (.int .i64 T.k) ∧ At W tb 1 (.string T.nm) ∧ At W tb 2 (.slice Cn T.ns.length en) ∧ At W tb 3 (.slice Cp T.ps.length ep) ∧ At W tb 4 (.bool T.many))) (held0 HF) (fun hHeld => ?_)
        clear p0
        refine tQ4 0 1 2 3 ?_; try simp only [sq]
        refine tQ3 4 5 6 ?_; try simp only [sq]
        refine wpAnyH_ready (rs := [7]) (by kernel_rfl) (by simp) ?_
        refine AllReadyH.cons rfl (fun K hK => ?_) AllReadyH.nil
        go_simp
        with_reducible refine (HA1.out _ (by assumption)).mono ?_
        rintro e w' ⟨rfl, hbq⟩
        refine hK.out _ _ (heldS HF (by assumption) hbq) (fun hHeld => ?_)
        clear hK K hbq
        (try simp only [Act.put, List.setIfInBounds_toArray, List.set_cons_zero, List.set_cons_succ])
        refine tQ3 8 9 10 ?_; try simp only [sq]
        refine pQ 11 ?_; try simp only [sq]
        refine pQ 12 ?_; try simp only [sq]
        refine pQ 13 ?_; try simp only [sq]
        (refine wpAnyH_take (i := 14) (v := undef) rfl (by kernel_rfl) (by kernel_rfl) (by kernel_rfl) (fun _ _ _ h => h) (Or.inr ⟨by go_simp <;> (intro h; cases h), rfl⟩) (by assumption) ?_; try simp only [sq])
        try simp only [sq]
        (refine wpAnyH_take (i := 15) (v := undef) rfl (by kernel_rfl) (by kernel_rfl) (by kernel_rfl) (fun _ _ _ h => h) (Or.inr ⟨by go_simp <;> (intro h; cases h), rfl⟩) (by assumption) ?_; try simp only [sq])
        try simp only [sq]
        (refine wpAnyH_take (i := 16) (v := undef) rfl (by kernel_rfl) (by kernel_rfl) (by kernel_rfl) (fun _ _ _ h => h) (Or.inr ⟨by go_simp <;> (intro h; cases h), rfl⟩) (by assumption) ?_; try simp only [sq])
        try simp only [sq]
        (refine wpAnyH_take (i := 17) (v := undef) rfl (by kernel_rfl) (by kernel_rfl) (by kernel_rfl) (fun _ _ _ h => h) (Or.inr ⟨by go_simp <;> (intro h; cases h), rfl⟩) (by assumption) ?_; try simp only [sq])
        try simp only [sq]
        (refine wpAnyH_take (i := 18) (v := undef) rfl (by kernel_rfl) (by kernel_rfl) (by kernel_rfl) (fun _ _ _ h => h) (Or.inr ⟨by go_simp <;> (intro h; cases h), rfl⟩) (by assumption) ?_; try simp only [sq])
        try simp only [sq]
        refine pQ 19 ?_; try simp only [sq]
        refine tQ 20 ?_; try simp only [sq]
        refine fQ ?_ _
        have b5 := HB4.out.trans (hHeld.1.mono HB4.out.size)
        have b6 := HBW4.out.trans (hHeld.1.mono HBW4.out.size)
        go_wp2_with fail
        go_ret
        exact ⟨by rw [hq.out]; rfl, b6⟩
       ·have hq := Lh (HY.out (by rw [e7]; rfl))
        clear HY HN
        go_upto_region 9 with (fail)
        refine dQ (fun W => Below w4.heap.size w4 W ∧ (At W ob 0 (.int .i64 op) ∧ At W ob 3 (.int .i64 nn) ∧ At W ob 5 (.int .i64 T2.k) ∧ At W ob 6 (.string T2.nm) ∧ At W ob 7 (.slice Bn T2.ns.length dn) ∧ At W ob 8 (.slice Bp T2.ps.length dp) ∧ At W ob 9 (.bool T2.many) ∧ At W tb 0 (.int .i64 T.k) ∧ At W tb 1 (.string T.nm) ∧ At W tb 2 (.slice Cn T.ns.length en) ∧ At W tb 3 (.slice Cp T.ps.length ep) ∧ At W tb 4 (.bool T.many))) (held0 HF) (fun hHeld => ?_)
        clear p0
        refine tQ4 0 1 2 3 ?_; try simp only [sq]
        refine tQ3 4 5 6 ?_; try simp only [sq]
        refine wpAnyH_ready (rs := [7]) (by kernel_rfl) (by simp) ?_
        refine AllReadyH.cons rfl (fun K hK => ?_) AllReadyH.nil
        go_simp
        with_reducible refine (HA1.out _ (by assumption)).mono ?_
        rintro e w' ⟨rfl, hbq⟩
        refine hK.out _ _ (heldS HF (by assumption) hbq) (fun hHeld => ?_)
        clear hK K hbq
        (try simp only [Act.put, List.setIfInBounds_toArray, List.set_cons_zero, List.set_cons_succ])
        refine tQ4 8 9 10 11 ?_; try simp only [sq]
        refine tQ2 12 13 ?_; try simp only [sq]
        refine pQ4 14 15 16 17 ?_; try simp only [sq]
        refine pQ 18 ?_; try simp only [sq]
        refine tQ2 19 20 ?_; try simp only [sq]
        refine fQ ?_ _
        have b5 := HB4.out.trans (hHeld.1.mono HB4.out.size)
        have b6 := HBW4.out.trans (hHeld.1.mono HBW4.out.size)
        go_wp2_with fail
        go_roundw
        case rel => exact ⟨k + 1, by omega, by go_num, hq.out, b5, b6⟩
        case measure => simp [intOf] <;> omega
  ·have hi : ¬ (k : Int) < (b.code.length : Int) := by omega
   have hq := Lh (HYES.out fun j h => hg j h (by omega))
   clear hg HYES HNO
   go_wp2_with fail
   go_ret
   exact ⟨by rw [hq.out]; rfl, hbw⟩
end Go.Proofs.YthihaeobkoiljaaGreat
