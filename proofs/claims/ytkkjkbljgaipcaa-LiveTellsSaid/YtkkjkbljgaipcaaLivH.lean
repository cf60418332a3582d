/- The walk of ref13.Of. -/
import Derived.Test.YtkkjkbljgaipcaaLivG
namespace Go.Proofs.Ytkkjkbljgaipcaa
open Go.RowKit
set_option linter.unusedVariables false
set_option linter.unusedSimpArgs false
set_option maxRecDepth 100000
set_option maxHeartbeats 8000000
theorem liveL_succ (code : List Or) (r i : Nat) : liveL code (r + 1) i = if liveB code i (r : Int) then liveL code r i ++ [(r : Int)] else liveL code r i := by
  unfold liveL
  rw [List.range_succ, List.filter_append]
  simp only [List.filter_cons, List.filter_nil]
  split <;> simp
theorem liveL_zero (code : List Or) (i : Nat) : liveL code 0 i = [] := rfl
def ColR (code : List Or) (regs i : Nat) (wk : World) (v j : Value) (wx : World) : Prop :=
  ∃ r : Nat, r ≤ regs ∧ j = .int .i64 (r : Int) ∧ wx.ownsRow wk.heap.size 3 1 v (liveL code r i).length ((liveL code r i).map i64) ∧ Below wk.heap.size wk wx
theorem ofR_any (b : Bo) (cs : List Value) (w : World) (hr : RepB w b cs) : Calls Try.prog 13 #[.agg cs.toArray] w (LvOut b w) := by
  have HR := Lib.hid hr
  obtain ⟨An, cn, Ap, cp, A, c, rfl, -, -, -, -⟩ := hr.nine
  have B0 : Below w.heap.size w (w.alloc (.cells #[.string b.nm, .bool b.static, .int .i64 b.ty.k, .string b.ty.nm, .slice An b.ty.ns.length cn, .slice Ap b.ty.ps.length cp, .bool b.ty.many, .int .i64 b.regs, .slice A b.code.length c] 28)) := by (repeat (first | with_reducible assumption | with_reducible exact Below.refl _ _ | (refine Below.setCell ?_ (by first | omega | (simp; done) | (simp; omega)) _) | (refine Below.drewN_ ?_ _) | (refine Below.drew ?_) | (refine Below.alloc ?_ (by first | omega | (simp; done) | (simp; omega)) _)))
  have kb := Blk.new_ w 28 #[.string b.nm, .bool b.static, .int .i64 b.ty.k, .string b.ty.nm, .slice An b.ty.ns.length cn, .slice Ap b.ty.ps.length cp, .bool b.ty.many, .int .i64 b.regs, .slice A b.code.length c]
  have HC := Lib.hid (mayR11_any b _ _ (HR.out.keep B0))
  have HB0 := Lib.hid B0
  clear hr B0
  go_enter Try.func13, Try.ntmps13
  go_wp2_with fail
  ((with_reducible refine (HC.out).mono ?_); rintro e w1 ⟨rfl, hb1⟩)
  have b1 := HB0.out.trans (hb1.mono HB0.out.size)
  have kb1 := kb.below hb1
  rcases hbo : bodyB b with _ | _
  · have HBO := Lib.hid hbo
    clear hbo
    go_wp2
    go_ret2
    exact .inl ⟨HBO.out, rfl, b1⟩
  have HBO := Lib.hid hbo
  have hlen := code_le hbo
  have HST := Lib.hid (liveR_any b _ w1 (HR.out.keep b1) hbo)
  have hr8' := (head_parts (head_of hbo)).2.2.2.2.1
  clear hbo hb1 kb HC
  have q0 := kb1.cell 0 (.string b.nm) rfl
  have q1 := kb1.cell 1 (.bool b.static) rfl
  have q2 := kb1.cell 2 (.int .i64 b.ty.k) rfl
  have q3 := kb1.cell 3 (.string b.ty.nm) rfl
  have q4 := kb1.cell 4 (.slice An b.ty.ns.length cn) rfl
  have q5 := kb1.cell 5 (.slice Ap b.ty.ps.length cp) rfl
  have q6 := kb1.cell 6 (.bool b.ty.many) rfl
  have q7 := kb1.cell 7 (.int .i64 b.regs) rfl
  have q8 := kb1.cell 8 (.slice A b.code.length c) rfl
  go_wp2_with fail
  (refine (HST.out).mono ?_; rintro e w2 ⟨regs, I, bs, hregs, rfl, hbs, hI, hB, hb2⟩)
  have b2 := b1.trans (hb2.mono b1.size)
  have kb2 := kb1.below hb2
  have hr8 : regs ≤ 8000 := by omega
  have HRG := Lib.hid hregs
  have HBS := Lib.hid hbs
  have HBI := Lib.hid hB
  have HI := Lib.hid hI
  clear hregs hbs hB hI q0 q1 q2 q3 q4 q5 q6 q7 q8 hb2 kb1 HST hr8'
  obtain ⟨i0, hinfo, hz0, hz1, hz2⟩ := info_parts info_int
  obtain ⟨i1, hinfo1, hy0, hy1, hy2⟩ := info_parts info_ints
  go_upto_region 6 with (fail)
  go_wp2
  go_loopw [5, 6] (fun v i wr => LvRel b.code regs w2 w v i wr) (fun _ i _ => b.code.length - (intOf i).toNat)
  case atStart => exact ⟨0, [], Nat.zero_le _, rfl, World.ownsRow_nil _ _ _ _, RowsAt.none_ _ _ 0, Below.refl _ _, b2⟩
  case round =>
    obtain ⟨k, outs, hk, rfl, hown, hrows, hb, hbw⟩ := hrel
    by_cases hlt : k < b.code.length
    · have hkm : k < bs.length := by rw [HBS.out]; exact hlt
      have hk0 : (0 : Int) ≤ (k : Int) := by omega
      have hk1 : (k : Int) < (b.code.length : Int) := by omega
      have hk6 : (k : Int) < 6000 := by omega
      have HOW := Lib.hid hown
      have HRO := Lib.hid hrows
      clear hown hrows
      obtain ⟨W0, rfl⟩ : ∃ W0 : World, W0 = wr := ⟨_, rfl⟩
      go_wp2
      go_loopw [7, 8] (fun v j wx => ColR b.code regs k W0 v j wx) (fun _ j _ => regs - (intOf j).toNat)
      case atStart => exact ⟨0, Nat.zero_le _, rfl, World.ownsRow_nil _ _ _ _, Below.refl _ _⟩
      case round =>
        obtain ⟨r, hr, rfl, hown, hbx⟩ := hrel
        have hbb := hb.trans (hbx.mono hb.size)
        have y7 : wr.cell? ⟨w.heap.size, 7, none⟩ = some (.int .i64 (regs : Int)) := by
          have := (kb2.below hbb).cell 7 (.int .i64 b.regs) rfl
          rw [HRG.out] at this
          exact this
        have hlH := (kb2.below hbb).lt
        have hll := liveL_len b.code r k
        have hsx := hbx.size
        obtain ⟨Al, cl, rfl, -⟩ := Row.of_own hown
        by_cases hrr : r < regs
        · have hr0 : (0 : Int) ≤ (r : Int) := by omega
          have hr1 : (r : Int) < (regs : Int) := by omega
          have hr88 : (r : Int) < 8000 := by omega
          have kI := HI.out.below hbb
          have kB := (HBI.out k hkm).below hbb
          have p0 := kI.cell k (.slice (some ⟨bs[k], 0, none⟩) regs regs) (by simp [hkm])
          have p1 := kB.cell r (.bool (liveB b.code k (r : Int))) (bits_at _ hrr)
          have HS := Lib.hid (liveL_succ b.code r k)
          have HOW2 := Lib.hid hown
          clear hown kI kB
          generalize liveL b.code r k = l at *
          generalize hl2' : liveL b.code (r + 1) k = l2 at *
          have HL2 := Lib.hid hl2'
          clear hl2'
          rcases hL : liveB b.code k (r : Int) with _ | _
          · have HS2 : Hid (l2 = l) := by show _ = _; rw [HS.out, hL]; rfl
            rw [hL] at p1
            clear hL HS
            go_wp2
            go_roundw
            case rel => exact ⟨r + 1, by omega, by go_num, by rw [HL2.out, HS2.out]; exact HOW2.out, hbx⟩
            case measure => (first | (simp [intOf]; done) | (simp [intOf]; omega))
          · have HS2 : Hid (l2 = l ++ [(r : Int)]) := by show _ = _; rw [HS.out, hL]; rfl
            rw [hL] at p1
            clear hL HS
            go_wp2_with (at_builtin; go_must ((refine wpList_append_own _ rfl _ _ 35 rfl W0.heap.size 3 i0 (.int .i64 0) 1 8 Try.underlying35 hinfo hz0 hz1 hz2 rfl (by decide) (.slice Al l.length cl) l.length (l.map i64) (by rfl) (HOW2.out.alloc _) ⟨wr.heap.size, 0, none⟩ 1 1 [.int .i64 (r : Int)] (by rfl) (by rfl) (cell_one_new _ _ _) (by simp [Value.oneCell']) (by unfold maxLen; omega) (by omega) (by simp; omega) ?_; intro v' w5 hown5 hg5 _; have HO5 := Lib.hid hown5; have HG5 := Lib.hid hg5; clear hown5 hg5)))
            have ba : Below wr.heap.size wr (wr.alloc (.cells #[.int .i64 (r : Int)] 3)) := by (repeat (first | with_reducible assumption | with_reducible exact Below.refl _ _ | (refine Below.setCell ?_ (by first | omega | (simp; done) | (simp; omega)) _) | (refine Below.drewN_ ?_ _) | (refine Below.drew ?_) | (refine Below.alloc ?_ (by first | omega | (simp; done) | (simp; omega)) _)))
            go_roundw
            case rel =>
              refine ⟨r + 1, by omega, by go_num, ?_, (hbx.trans (ba.mono hsx)).grown HG5.out (by simp; omega) (fun j e => own_ge HOW2.out j e)⟩
              rw [HL2.out, HS2.out]
              simpa [i64] using HO5.out
            case measure => (first | (simp [intOf]; done) | (simp [intOf]; omega))
        · have hr1 : ¬ (r : Int) < (regs : Int) := by omega
          obtain rfl : r = regs := by omega
          have HOW2 := Lib.hid hown
          have hr5 := HRO.out.below hbx
          have hout5 := own_below HOW.out hbx
          have HNE : Hid (∀ g, (Value.slice Al (liveL b.code r k).length cl).ownBlock = some g → W0.heap.size ≤ g) := fun g hg => (HOW2.out.lt g hg).1
          obtain ⟨Ao, co, hvo, -⟩ := Row.of_own hout5
          rw [hvo] at hout5 ⊢
          have HRL : Hid (∀ j (h : j < outs.length) g, outs[j].ownBlock = some g → g < W0.heap.size) := fun j hj g hg => by
            have hj' : j < ((List.range k).map (liveL b.code r)).length := by rw [← HRO.out.1]; exact hj
            exact ((HRO.out.2.1 j hj hj').lt g hg).2
          have HRS : Hid ((List.range (k + 1)).map (liveL b.code r) = (List.range k).map (liveL b.code r) ++ [liveL b.code r k]) := by
            show _ = _
            rw [List.range_succ, List.map_append]; rfl
          generalize liveL b.code r k = lk at *
          have HR5 := Lib.hid hr5
          have HT5 := Lib.hid hout5
          have hkx : w2.heap.size ≤ wr.heap.size := hbb.size
          have hzz : w2.heap.size ≤ W0.heap.size := hb.size
          clear hr5 hout5 hvo hown
          go_wp2_with (at_builtin; go_must ((refine wpList_append_own _ rfl _ _ 40 rfl w2.heap.size 35 i1 (.slice none 0 0) 1 24 Try.underlying40 hinfo1 hy0 hy1 hy2 rfl (by decide) (.slice Ao k co) k outs (by rfl) (HT5.out.alloc _) ⟨wr.heap.size, 0, none⟩ 1 1 [.slice Al lk.length cl] (by rfl) (by rfl) (cell_one_new _ _ _) (by simp [Value.oneCell']) (by unfold maxLen; omega) (by omega) (by simp; omega) ?_; intro v' w6 hown6 hg6 _; have HO6 := Lib.hid hown6; have HG6 := Lib.hid hg6; clear hown6 hg6)))
          go_roundw
          case rel =>
            have ba : Below wr.heap.size wr (wr.alloc (.cells #[.slice Al lk.length cl] 35)) := by (repeat (first | with_reducible assumption | with_reducible exact Below.refl _ _ | (refine Below.setCell ?_ (by first | omega | (simp; done) | (simp; omega)) _) | (refine Below.drewN_ ?_ _) | (refine Below.drew ?_) | (refine Below.alloc ?_ (by first | omega | (simp; done) | (simp; omega)) _)))
            have b6 : Below w2.heap.size w2 w6 := (hbb.trans (ba.mono hbb.size)).grown HG6.out (by simp; omega) (fun j e => own_ge HT5.out j e)
            refine ⟨k + 1, _, by omega, by go_num, HO6.out, ?_, b6, b2.trans (b6.mono b2.size)⟩
            rw [HRS.out]
            have hrows6 : RowsAt w6 w2.heap.size outs ((List.range k).map (liveL b.code r)) := (HR5.out.below ba).kept HG6.out (fun j hj => by
              have hj' : j < ((List.range k).map (liveL b.code r)).length := by rw [← HR5.out.1]; exact hj
              exact row_ne_own (own_below (HR5.out.2.1 j hj hj') ba) (own_below HT5.out ba) (by decide))
            have hl6 : w6.ownsRow w2.heap.size 3 1 (.slice Al lk.length cl) lk.length (lk.map i64) :=
              ((own_below HOW2.out ba).kept HG6.out (row_ne_own (own_below HOW2.out ba) (own_below HT5.out ba) (by decide))).mono hzz
            exact hrows6.snoc hl6 (fun j hj g hg e => by
              have h1 := HRL.out j hj g hg
              have h2 := HNE.out g e
              omega)
          case measure => (first | (simp [intOf]; done) | (simp [intOf]; omega))
    · have hk1 : ¬ (k : Int) < (b.code.length : Int) := by omega
      obtain rfl : k = b.code.length := by omega
      obtain ⟨Ao, co, rfl, hrow⟩ := Row.of_own hown
      have HROW := Lib.hid hrow
      have HRO := Lib.hid hrows
      clear hown hrow hrows
      go_wp2
      go_ret2
      exact .inr ⟨HBO.out, regs, w2.heap.size, outs, Ao, co, HRG.out, rfl, HROW.out, HRO.out, hbw⟩
end Go.Proofs.Ytkkjkbljgaipcaa
