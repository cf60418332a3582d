/- The walk of three.May: a body whose head may be. -/
import Derived.Test.YtkkjkbljgaipcaaOrdF
import Derived.Test.YtkkjkbljgaipcaaOrdE
namespace Go.Proofs.Ytkkjkbljgaipcaa
open Go.RowKit
set_option linter.unusedVariables false
set_option linter.unusedSimpArgs false
set_option maxRecDepth 100000
set_option maxHeartbeats 8000000
theorem RepOL.ten {w : World} {A : Option Addr} {l : List Or} (h : RepOL w A l) {k : Nat} (hk : k < l.length) : ∃ b o Ad cd As c' An cn Ap cp, A = some ⟨b, o, none⟩ ∧ b < w.heap.size ∧ RepO w l[k] [.int .i64 l[k].op, .slice Ad l[k].d.length cd, .slice As l[k].s.length c', .int .i64 l[k].n, .string l[k].nm, .int .i64 l[k].ty.k, .string l[k].ty.nm, .slice An l[k].ty.ns.length cn, .slice Ap l[k].ty.ps.length cp, .bool l[k].ty.many] ∧
    ∀ W, Below w.heap.size w W → (W.cell? ⟨b, o + k * 10, none⟩ = some (.int .i64 l[k].op) ∧ W.cell? ⟨b, o + k * 10 + 1, none⟩ = some (.slice Ad l[k].d.length cd) ∧ W.cell? ⟨b, o + k * 10 + 2, none⟩ = some (.slice As l[k].s.length c') ∧ W.cell? ⟨b, o + k * 10 + 3, none⟩ = some (.int .i64 l[k].n) ∧ W.cell? ⟨b, o + k * 10 + 4, none⟩ = some (.string l[k].nm) ∧
      W.cell? ⟨b, o + k * 10 + 5, none⟩ = some (.int .i64 l[k].ty.k) ∧ W.cell? ⟨b, o + k * 10 + 6, none⟩ = some (.string l[k].ty.nm) ∧ W.cell? ⟨b, o + k * 10 + 7, none⟩ = some (.slice An l[k].ty.ns.length cn) ∧ W.cell? ⟨b, o + k * 10 + 8, none⟩ = some (.slice Ap l[k].ty.ps.length cp) ∧ W.cell? ⟨b, o + k * 10 + 9, none⟩ = some (.bool l[k].ty.many)) := by
  obtain ⟨b, o, cs, hA, hlt, hc, hr⟩ := h k hk
  have hr' := hr
  obtain ⟨Ad, cd, As, c', An, cn, Ap, cp, rfl, -⟩ := hr.ten
  refine ⟨b, o, Ad, cd, As, c', An, cn, Ap, cp, hA, hlt, hr', fun W hW => ?_⟩
  exact ⟨(hW.cell hlt).trans (hc 0 _ rfl), (hW.cell hlt).trans (hc 1 _ rfl), (hW.cell hlt).trans (hc 2 _ rfl), (hW.cell hlt).trans (hc 3 _ rfl), (hW.cell hlt).trans (hc 4 _ rfl), (hW.cell hlt).trans (hc 5 _ rfl), (hW.cell hlt).trans (hc 6 _ rfl), (hW.cell hlt).trans (hc 7 _ rfl), (hW.cell hlt).trans (hc 8 _ rfl), (hW.cell hlt).trans (hc 9 _ rfl)⟩
def OrdsRel (b : Bo) (w w1 : World) (i : Value) (wr : World) : Prop := ∃ k : Nat, k ≤ b.code.length ∧ i = .int .i64 k ∧ (∀ j (h : j < b.code.length), j < k → orderB b.ty b.regs b.code.length b.code[j] = true) ∧ Below w1.heap.size w1 wr ∧ Below w.heap.size w wr
theorem head_parts {b : Bo} (h : headB b = true) : nameOf b.nm = true ∧ b.ty.k = 4 ∧ may b.ty = true ∧ (parW b.ty : Int) ≤ b.regs ∧ b.regs ≤ 8000 ∧ 1 ≤ b.code.length ∧ b.code.length ≤ 6000 := by
  unfold headB at h
  simp only [Bool.and_eq_true, decide_eq_true_eq, beq_iff_eq] at h
  obtain ⟨⟨⟨⟨⟨⟨h1, h2⟩, h3⟩, h4⟩, h5⟩, h6⟩, h7⟩ := h
  exact ⟨h1, h2, h3, h4, h5, h6, h7⟩
theorem body_some {b : Bo} (h : headB b = true) {k : Nat} (hk : k < b.code.length) (hn : orderB b.ty b.regs b.code.length b.code[k] = false) : bodyB b = false := by
  rw [body_eq, h]
  have : b.code.all (orderB b.ty b.regs b.code.length) = false := by
    rw [List.all_eq_false]
    exact ⟨_, List.getElem_mem hk, by rw [hn]; decide⟩
  rw [this]; rfl
theorem body_all {b : Bo} (h : headB b = true) (hl : 1 ≤ b.code.length) (ha : ∀ j (h : j < b.code.length), orderB b.ty b.regs b.code.length b.code[j] = true) : bodyB b = (((b.code[b.code.length - 1]'(by omega)).op == 9) || ((b.code[b.code.length - 1]'(by omega)).op == 12)) := by
  rw [body_eq, h]
  have h1 : b.code.all (orderB b.ty b.regs b.code.length) = true := by
    rw [List.all_eq_true]
    intro x hx
    obtain ⟨j, hj, rfl⟩ := List.getElem_of_mem hx
    exact ha j hj
  have h2 : b.code.getLast? = some (b.code[b.code.length - 1]'(by omega)) := by
    rw [List.getLast?_eq_getElem?, List.getElem?_eq_getElem (by omega)]
  rw [h1, h2]
  rfl
theorem may3_yes (b : Bo) (cs : List Value) (w : World) (hr : RepB w b cs) (hm : ML w) (hh : headB b = true) :
    Calls Try.prog 14 #[.agg cs.toArray] w fun e w' => e = .returned (.bool (bodyB b)) ∧ Below w.heap.size w w' := by
  have hr0 := hr
  obtain ⟨An, cn, Ap, cp, A, c, rfl, hT, hP, hO, hl⟩ := hr.nine
  obtain ⟨hn, hk, hmy, hp, h8, hl1, hl6⟩ := head_parts hh
  have B0 : Below w.heap.size w (w.alloc (.cells #[.string b.nm, .bool b.static, .int .i64 b.ty.k, .string b.ty.nm, .slice An b.ty.ns.length cn, .slice Ap b.ty.ps.length cp, .bool b.ty.many, .int .i64 b.regs, .slice A b.code.length c] 28)) := by (repeat (first | with_reducible assumption | with_reducible exact Below.refl _ _ | (refine Below.setCell ?_ (by first | omega | (simp; done) | (simp; omega)) _) | (refine Below.drewN_ ?_ _) | (refine Below.drew ?_) | (refine Below.alloc ?_ (by first | omega | (simp; done) | (simp; omega)) _)))
  have kb := Blk.new_ w 28 #[.string b.nm, .bool b.static, .int .i64 b.ty.k, .string b.ty.nm, .slice An b.ty.ns.length cn, .slice Ap b.ty.ps.length cp, .bool b.ty.many, .int .i64 b.regs, .slice A b.code.length c]
  have HR := Lib.hid (fun (W : World) (h : Below w.heap.size w W) => RepB.keep hr0 h)
  have HT := Lib.hid hT
  have HO := Lib.hid hO
  have HM := Lib.hid hm
  have HNO := Lib.hid (fun k (hk : k < b.code.length) hn => body_some hh hk hn)
  have HAL := Lib.hid (body_all hh hl1)
  have HMYT := Lib.hid hmy
  have HK4 := Lib.hid hk
  generalize bodyB b = E at *
  have g1 : (b.ty.k != 4) = false := by simpa using hk
  have g2 : decide (b.regs < (parW b.ty : Int)) = false := by simp; omega
  have g3 : decide (8000 < b.regs) = false := by simp; omega
  have g4 : decide ((b.code.length : Int) < 1) = false := by rw [decide_eq_false_iff_not]; omega
  have g4' : decide (b.code.length < 1) = false := by rw [decide_eq_false_iff_not]; omega
  have g5 : decide ((6000 : Int) < (b.code.length : Int)) = false := by simp; omega
  have g5' : decide (6000 < b.code.length) = false := by simp; omega
  have HN0 := Lib.hid hn
  have H8 := Lib.hid h8
  clear hr hr0 hP hO hl hT hm hh hp hn hk hmy h8
  go_enter Try.func14, Try.ntmps14
  go_upto_region 1 with (fail)
  generalize hw1 : w.alloc (.cells #[.string b.nm, .bool b.static, .int .i64 b.ty.k, .string b.ty.nm, .slice An b.ty.ns.length cn, .slice Ap b.ty.ps.length cp, .bool b.ty.many, .int .i64 b.regs, .slice A b.code.length c] 28) = w1 at *
  clear hw1
  have b1 := B0
  have HF : Hid (∀ W, Below w1.heap.size w1 W → W.cell? ⟨w.heap.size, 0, none⟩ = some (.string b.nm) ∧ W.cell? ⟨w.heap.size, 1, none⟩ = some (.bool b.static) ∧ W.cell? ⟨w.heap.size, 2, none⟩ = some (.int .i64 b.ty.k) ∧ W.cell? ⟨w.heap.size, 3, none⟩ = some (.string b.ty.nm) ∧ W.cell? ⟨w.heap.size, 4, none⟩ = some (.slice An b.ty.ns.length cn) ∧ W.cell? ⟨w.heap.size, 5, none⟩ = some (.slice Ap b.ty.ps.length cp) ∧ W.cell? ⟨w.heap.size, 6, none⟩ = some (.bool b.ty.many) ∧ W.cell? ⟨w.heap.size, 7, none⟩ = some (.int .i64 b.regs) ∧ W.cell? ⟨w.heap.size, 8, none⟩ = some (.slice A b.code.length c)) := fun W h => by
    have k := kb.below h
    exact ⟨k.cell 0 _ rfl, k.cell 1 _ rfl, k.cell 2 _ rfl, k.cell 3 _ rfl, k.cell 4 _ rfl, k.cell 5 _ rfl, k.cell 6 _ rfl, k.cell 7 _ rfl, k.cell 8 _ rfl⟩
  have HNM : Hid (∀ W, (Below w1.heap.size w1 W ∧ (W.cell? ⟨w.heap.size, 0, none⟩ = some (.string b.nm) ∧ W.cell? ⟨w.heap.size, 1, none⟩ = some (.bool b.static) ∧ W.cell? ⟨w.heap.size, 2, none⟩ = some (.int .i64 b.ty.k) ∧ W.cell? ⟨w.heap.size, 3, none⟩ = some (.string b.ty.nm) ∧ W.cell? ⟨w.heap.size, 4, none⟩ = some (.slice An b.ty.ns.length cn) ∧ W.cell? ⟨w.heap.size, 5, none⟩ = some (.slice Ap b.ty.ps.length cp) ∧ W.cell? ⟨w.heap.size, 6, none⟩ = some (.bool b.ty.many) ∧ W.cell? ⟨w.heap.size, 7, none⟩ = some (.int .i64 b.regs) ∧ W.cell? ⟨w.heap.size, 8, none⟩ = some (.slice A b.code.length c))) → Calls Try.prog 32 #[.string b.nm] W fun e w' => e = .returned (.bool true) ∧ Below W.heap.size W w') := fun W h =>
    (isName_any b.nm W (HM.out.keep (b1.trans (h.1.mono b1.size)))).mono fun _ _ ⟨he, hw⟩ => ⟨by rw [he, HN0.out], by rw [hw]; exact Below.refl _ _⟩
  have HMY : Hid (∀ W, (Below w1.heap.size w1 W ∧ (W.cell? ⟨w.heap.size, 0, none⟩ = some (.string b.nm) ∧ W.cell? ⟨w.heap.size, 1, none⟩ = some (.bool b.static) ∧ W.cell? ⟨w.heap.size, 2, none⟩ = some (.int .i64 b.ty.k) ∧ W.cell? ⟨w.heap.size, 3, none⟩ = some (.string b.ty.nm) ∧ W.cell? ⟨w.heap.size, 4, none⟩ = some (.slice An b.ty.ns.length cn) ∧ W.cell? ⟨w.heap.size, 5, none⟩ = some (.slice Ap b.ty.ps.length cp) ∧ W.cell? ⟨w.heap.size, 6, none⟩ = some (.bool b.ty.many) ∧ W.cell? ⟨w.heap.size, 7, none⟩ = some (.int .i64 b.regs) ∧ W.cell? ⟨w.heap.size, 8, none⟩ = some (.slice A b.code.length c))) → Calls Try.prog 33 #[.agg #[.int .i64 b.ty.k, .string b.ty.nm, .slice An b.ty.ns.length cn, .slice Ap b.ty.ps.length cp, .bool b.ty.many]] W fun e w' => e = .returned (.bool true) ∧ Below W.heap.size W w') := fun W h => by
    have B := b1.trans (h.1.mono b1.size)
    have := may_any b.ty _ W (Rep.keep B _ _ HT.out) (HM.out.keep B)
    rw [HMYT.out] at this
    exact this
  have HPW : Hid (∀ W, (Below w1.heap.size w1 W ∧ (W.cell? ⟨w.heap.size, 0, none⟩ = some (.string b.nm) ∧ W.cell? ⟨w.heap.size, 1, none⟩ = some (.bool b.static) ∧ W.cell? ⟨w.heap.size, 2, none⟩ = some (.int .i64 b.ty.k) ∧ W.cell? ⟨w.heap.size, 3, none⟩ = some (.string b.ty.nm) ∧ W.cell? ⟨w.heap.size, 4, none⟩ = some (.slice An b.ty.ns.length cn) ∧ W.cell? ⟨w.heap.size, 5, none⟩ = some (.slice Ap b.ty.ps.length cp) ∧ W.cell? ⟨w.heap.size, 6, none⟩ = some (.bool b.ty.many) ∧ W.cell? ⟨w.heap.size, 7, none⟩ = some (.int .i64 b.regs) ∧ W.cell? ⟨w.heap.size, 8, none⟩ = some (.slice A b.code.length c))) → Calls Try.prog 34 #[.agg #[.int .i64 b.ty.k, .string b.ty.nm, .slice An b.ty.ns.length cn, .slice Ap b.ty.ps.length cp, .bool b.ty.many]] W fun e w' => e = .returned (.int .i64 (parW b.ty : Int)) ∧ Below W.heap.size W w') := fun W h => by
    have B := b1.trans (h.1.mono b1.size)
    exact params3_any b.ty _ W (Rep.keep B _ _ HT.out) (HM.out.keep B) HMYT.out HK4.out
  go_wp2_with fail
  go_region_held3 (fun W => Below w1.heap.size w1 W ∧ (W.cell? ⟨w.heap.size, 0, none⟩ = some (.string b.nm) ∧ W.cell? ⟨w.heap.size, 1, none⟩ = some (.bool b.static) ∧ W.cell? ⟨w.heap.size, 2, none⟩ = some (.int .i64 b.ty.k) ∧ W.cell? ⟨w.heap.size, 3, none⟩ = some (.string b.ty.nm) ∧ W.cell? ⟨w.heap.size, 4, none⟩ = some (.slice An b.ty.ns.length cn) ∧ W.cell? ⟨w.heap.size, 5, none⟩ = some (.slice Ap b.ty.ps.length cp) ∧ W.cell? ⟨w.heap.size, 6, none⟩ = some (.bool b.ty.many) ∧ W.cell? ⟨w.heap.size, 7, none⟩ = some (.int .i64 b.regs) ∧ W.cell? ⟨w.heap.size, 8, none⟩ = some (.slice A b.code.length c))) (first | exact held0 HF | exact heldS HF (by assumption) hbq | exact heldD HF (by assumption) | go_keep) (first | (go_at_call 32; ((with_reducible refine (HNM.out _ (by assumption)).mono ?_); rintro e w' ⟨rfl, hbq⟩)) | (go_at_call 33; ((with_reducible refine (HMY.out _ (by assumption)).mono ?_); rintro e w' ⟨rfl, hbq⟩)) | (go_at_call 34; ((with_reducible refine (HPW.out _ (by assumption)).mono ?_); rintro e w' ⟨rfl, hbq⟩)))
  rename_i hh
  obtain ⟨w5, rfl⟩ : ∃ w5 : World, w5 = w' := ⟨_, rfl⟩
  obtain ⟨hB5, x0, x1, x2, x3, x4, x5, x6, x7, x8⟩ := hh
  have b5 := b1.trans (hB5.mono b1.size)
  clear g1 g2 g3 g4 g4' g5 g5' HNM HMY HPW
  go_wp2
  go_loopw [50] (fun i wr => OrdsRel b w w1 i wr) (fun i _ => b.code.length - (intOf i).toNat)
  case atStart => exact ⟨0, Nat.zero_le _, rfl, fun j _ h => absurd h (by omega), hB5, b5⟩
  case round =>
    clear b5 hB5 x0 x1 x2 x3 x4 x5 x6 x7 x8
    obtain ⟨k, hk, rfl, hg, hb, hbw⟩ := hrel
    obtain ⟨x0, x1, x2, x3, x4, x5, x6, x7, x8⟩ := HF.out _ hb
    by_cases hlt : k < b.code.length
    · obtain ⟨bb, oo, Ad, cd, As, c', An', cn', Ap', cp', rfl, hbl, hrep, hcs⟩ := HO.out.ten hlt
      obtain ⟨c0, c1, c2, c3, c4, c5, c6, c7, c8, c9⟩ := hcs wr hbw
      have hi : (k : Int) < (b.code.length : Int) := by omega
      have hk6 : (k : Int) < 6000 := by omega
      have hH := Nat.lt_of_lt_of_le kb.lt hb.size
      have HN := Lib.hid (HNO.out k hlt)
      have HG : Hid (orderB b.ty b.regs b.code.length b.code[k] = true → ∀ j (h : j < b.code.length), j < k + 1 → orderB b.ty b.regs b.code.length b.code[j] = true) := fun h0 j h hj => by
        rcases Nat.lt_or_ge j k with h1 | h1
        · exact hg j h h1
        · obtain rfl : j = k := by omega
          exact h0
      have hbl2 : bb < wr.heap.size := Nat.lt_of_lt_of_le hbl hbw.size
      have X : Below wr.heap.size wr (wr.alloc (.cells #[.int .i64 b.code[k].op, .slice Ad b.code[k].d.length cd, .slice As b.code[k].s.length c', .int .i64 b.code[k].n, .string b.code[k].nm, .int .i64 b.code[k].ty.k, .string b.code[k].ty.nm, .slice An' b.code[k].ty.ns.length cn', .slice Ap' b.code[k].ty.ps.length cp', .bool b.code[k].ty.many] 60)) := by (repeat (first | with_reducible assumption | with_reducible exact Below.refl _ _ | (refine Below.setCell ?_ (by first | omega | (simp; done) | (simp; omega)) _) | (refine Below.drewN_ ?_ _) | (refine Below.drew ?_) | (refine Below.alloc ?_ (by first | omega | (simp; done) | (simp; omega)) _)))
      have B2 := hbw.trans (X.mono hbw.size)
      have HC := Lib.hid (order3_any b _ b.code[k] _ _ (HR.out _ B2) (hrep.keep B2) (HM.out.keep B2) HMYT.out HK4.out hl6 H8.out)
      clear hg hrep hcs
      generalize b.code[k] = od at *
      have b1 := X
      go_wp2_with fail
      ((with_reducible refine (HC.out).mono ?_); rintro e w7 ⟨rfl, hb7⟩)
      have b7 := hb.trans ((X.trans (hb7.mono X.size)).mono hb.size)
      have bw7 := hbw.trans ((X.trans (hb7.mono X.size)).mono hbw.size)
      rcases hob : orderB b.ty b.regs b.code.length od with _ | _
      · have hf := Lib.hid (HN.out hob)
        clear hob
        go_wp2
        go_ret
        exact ⟨by rw [hf.out]; rfl, bw7⟩
      · have hgg := Lib.hid (HG.out hob)
        clear hob
        go_wp2
        go_roundw
        case rel => exact ⟨k + 1, by omega, by go_num, hgg.out, b7, bw7⟩
        case measure => (first | (simp [intOf]; done) | (simp [intOf]; omega))
    · have hi : ¬ (k : Int) < (b.code.length : Int) := by omega
      have he := HAL.out (fun j h => hg j h (by omega))
      have hlast : b.code.length - 1 < b.code.length := by omega
      obtain ⟨bb, oo, Ad, cd, As, c', An', cn', Ap', cp', rfl, hbl, hrep, hcs⟩ := HO.out.ten hlast
      obtain ⟨c0, -⟩ := hcs wr hbw
      have hp1 : (1 : Int) ≤ (b.code.length : Int) := by omega
      have hp6 : (b.code.length : Int) ≤ 6000 := by omega
      have hnat : ((b.code.length : Int) - 1).toNat = b.code.length - 1 := by omega
      clear hrep hcs
      have HE := Lib.hid he
      generalize b.code[b.code.length - 1] = od at *
      have HE2 := Lib.hid he
      clear hg he HE
      rcases e9 : (od.op == 9) with _ | _
      · go_wp2
        go_ret
        exact ⟨by rw [HE2.out, e9]; rfl, hbw⟩
      · go_wp2
        go_ret
        exact ⟨by rw [HE2.out, e9]; rfl, hbw⟩
theorem may3_any (b : Bo) (cs : List Value) (w : World) (hr : RepB w b cs) (hm : ML w) :
    Calls Try.prog 14 #[.agg cs.toArray] w fun e w' => e = .returned (.bool (bodyB b)) ∧ Below w.heap.size w w' := by
  rcases h : headB b with _ | _
  · rw [body_no h]
    exact may3_no b cs w hr hm h
  · exact may3_yes b cs w hr hm h
end Go.Proofs.Ytkkjkbljgaipcaa
