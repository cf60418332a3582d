/- The walk of three.of. -/
import Derived.Test.YtkkjkbljgaipcaaOrdC
namespace Go.Proofs.Ytkkjkbljgaipcaa
open Go.RowKit
set_option linter.unusedVariables false
set_option linter.unusedSimpArgs false
set_option maxRecDepth 100000
set_option maxHeartbeats 4000000
theorem RepB.nine {w : World} {b : Bo} {cs : List Value} (h : RepB w b cs) : ∃ An cn Ap cp A c, cs = [.string b.nm, .bool b.static, .int .i64 b.ty.k, .string b.ty.nm, .slice An b.ty.ns.length cn, .slice Ap b.ty.ps.length cp, .bool b.ty.many, .int .i64 b.regs, .slice A b.code.length c] ∧ Rep w b.ty [.int .i64 b.ty.k, .string b.ty.nm, .slice An b.ty.ns.length cn, .slice Ap b.ty.ps.length cp, .bool b.ty.many] ∧ RepL w b.ty.ps Ap ∧ RepOL w A b.code ∧ b.code.length ≤ maxLen := by
  obtain ⟨tc, A, c, rfl, h1, h2, h3⟩ := h
  have h1' := h1
  obtain ⟨An, cn, Ap, cp, rfl, h4, h5⟩ := h1.five
  exact ⟨An, cn, Ap, cp, A, c, rfl, h1', h5, h2, h3⟩
theorem results_row {fn : Func} (h : fn.results = #[.cell 4 105, .tmp 5]) {w : World} {b : Nat} {a0 a1 a2 a3 a4 a5 a6 x : Value} {tmps : Array Value} (k : Blk w b 105 #[a0, a1, a2, a3, a4, a5, a6]) (h4 : tmps.getD 4 undef = .pointer (some ⟨b, 0, none⟩)) (h5 : tmps.getD 5 undef = x) :
    (results fn tmps).run Try.prog w = .ok (.tuple #[.agg #[a0, a1, a2, a3, a4, a5, a6], x]) w := by
  have c0 := k.cell 0 _ rfl
  have c1 := k.cell 1 _ rfl
  have c2 := k.cell 2 _ rfl
  have c3 := k.cell 3 _ rfl
  have c4 := k.cell 4 _ rfl
  have c5 := k.cell 5 _ rfl
  have c6 := k.cell 6 _ rfl
  simp at c0 c1 c2 c3 c4 c5 c6
  simp only [Array.getD_eq_getD_getElem?] at h4 h5
  simp [results, h, go_sem, h4, h5, c0, c1, c2, c3, c4, c5, c6]
theorem Blk.drew1 {w : World} {b : Nat} {t : TypeId} {cs : Array Value} (h : Blk w b t cs) : Blk w.drew b t cs := h
theorem row_else {op : Int} (T : Ty) (len : Nat) (h : ∀ k : Int, 1 ≤ k → k ≤ 14 → op ≠ k) : rowOf T len op = (⟨0, 0, false, 0, 0, false, false⟩, false) := by
  have h1 := h 1 (by omega) (by omega)
  have h2 := h 2 (by omega) (by omega)
  have h3 := h 3 (by omega) (by omega)
  have h4 := h 4 (by omega) (by omega)
  have h5 := h 5 (by omega) (by omega)
  have h6 := h 6 (by omega) (by omega)
  have h7 := h 7 (by omega) (by omega)
  have h8 := h 8 (by omega) (by omega)
  have h9 := h 9 (by omega) (by omega)
  have h10 := h 10 (by omega) (by omega)
  have h11 := h 11 (by omega) (by omega)
  have h12 := h 12 (by omega) (by omega)
  have h13 := h 13 (by omega) (by omega)
  have h14 := h 14 (by omega) (by omega)
  unfold rowOf
  rw [if_neg h1, if_neg h2, if_neg h3, if_neg h4, if_neg h5, if_neg h6, if_neg h7, if_neg h8, if_neg h9, if_neg h10, if_neg h11, if_neg h12, if_neg h13, if_neg h14]
def OfOut (T : Ty) (len : Nat) (op : Int) (w : World) (e : Ending) (w' : World) : Prop := e = .returned (.tuple #[.agg (rowOf T len op).1.cells, .bool (rowOf T len op).2]) ∧ Below w.heap.size w w'
theorem of_ret {T : Ty} {len : Nat} {op : Int} {w w' : World} {R : Rw × Bool} (h : rowOf T len op = R) (hb : Below w.heap.size w w') : OfOut T len op w (.returned (.tuple #[.agg R.1.cells, .bool R.2])) w' := ⟨by rw [h], hb⟩
/-! the ways -/
theorem of_1 (b : Bo) (cs : List Value) (w : World) (hr : RepB w b cs) (hm : ML w) (hmy : may b.ty = true) (h4 : b.ty.k = 4) (hlen : b.code.length ≤ 6000) :
    Calls Try.prog 66 #[.agg cs.toArray, .int .i64 1] w (OfOut b.ty b.code.length 1 w) := by
  obtain ⟨An, cn, Ap, cp, A, c, rfl, hrT, hP, -, -⟩ := hr.nine
  have hpos : 1 ≤ b.ty.ps.length := by
    have := (may_fn hmy h4).2.2.1
    rcases h : b.ty.ps with _ | ⟨a, l⟩
    · exact absurd h this
    · simp
  have h7 := may_len hmy
  have hmp := (may_size hmy _ (List.getElem_mem (show b.ty.ps.length - 1 < b.ty.ps.length by omega))).1
  have HRW : Hid (wordsT (b.ty.ps[b.ty.ps.length - 1]'(by omega)) = (resW b.ty : Int)) := by
    show _ = _
    unfold resW
    rw [last_at hpos]
    simp [wordsT, hmp]
  have k0 := (Blk.new_ w 28 #[.string b.nm, .bool b.static, .int .i64 b.ty.k, .string b.ty.nm, .slice An b.ty.ns.length cn, .slice Ap b.ty.ps.length cp, .bool b.ty.many, .int .i64 b.regs, .slice A b.code.length c])
  have B0 : Below w.heap.size w ((w.alloc (.cells #[.string b.nm, .bool b.static, .int .i64 b.ty.k, .string b.ty.nm, .slice An b.ty.ns.length cn, .slice Ap b.ty.ps.length cp, .bool b.ty.many, .int .i64 b.regs, .slice A b.code.length c] 28)).alloc (.cells #[.int .i64 0, .int .i64 0, .bool false, .int .i64 0, .int .i64 0, .bool false, .bool false] 105)) := by (repeat (first | with_reducible assumption | with_reducible exact Below.refl _ _ | (refine Below.setCell ?_ (by first | omega | (simp; done) | (simp; omega)) _) | (refine Below.drewN_ ?_ _) | (refine Below.drew ?_) | (refine Below.alloc ?_ (by first | omega | (simp; done) | (simp; omega)) _)))
  obtain ⟨bb, o, An', cn', Ap', cp', rfl, hbl, hrep, hc⟩ := (RepL.keep B0 _ _ hP).five (show b.ty.ps.length - 1 < b.ty.ps.length by omega)
  have hp1 : (1 : Int) ≤ (b.ty.ps.length : Int) := by omega
  have hp7 : (b.ty.ps.length : Int) ≤ 7 := by omega
  have hnat : ((b.ty.ps.length : Int) - 1).toNat = b.ty.ps.length - 1 := by omega
  have hl6 : (b.code.length : Int) ≤ 6000 := by omega
  have HC := Lib.hid (words_any (b.ty.ps[b.ty.ps.length - 1]'(by omega)) _ _ hrep (hm.keep B0))
  generalize b.ty.ps[b.ty.ps.length - 1]'(by omega) = p at *
  clear hr hrT hP hmy h4 hmp hrep hm hlen
  have HB0 := Lib.hid B0
  clear B0
  go_enter Try.func66, Try.ntmps66
  go_wp2_with fail
  ((with_reducible refine (HC.out).mono ?_); rintro e w2 ⟨rfl, hb2⟩)
  rw [HRW.out]
  have kb := (k0.alloc (.cells #[.int .i64 0, .int .i64 0, .bool false, .int .i64 0, .int .i64 0, .bool false, .bool false] 105)).below hb2
  have kr := (Blk.nxt1 w (.cells #[.string b.nm, .bool b.static, .int .i64 b.ty.k, .string b.ty.nm, .slice An b.ty.ns.length cn, .slice (some ⟨bb, o, none⟩) b.ty.ps.length cp, .bool b.ty.many, .int .i64 b.regs, .slice A b.code.length c] 28) 105 #[.int .i64 0, .int .i64 0, .bool false, .int .i64 0, .int .i64 0, .bool false, .bool false]).below hb2
  have q8 := kb.cell 8 (.slice A b.code.length c) rfl
  have b2 := HB0.out.trans (hb2.mono HB0.out.size)
  have hlt2 := kr.lt
  have hlt3 := kb.lt
  have hne : w.heap.size + 1 ≠ w2.heap.size := by omega
  have X : Below w2.heap.size w2 (w2.alloc (.cells #[.int .i64 0, .int .i64 0, .bool true, .int .i64 0, .int .i64 ((b.code.length : Int) - 1), .bool false, .bool false] 105)) := by (repeat (first | with_reducible assumption | with_reducible exact Below.refl _ _ | (refine Below.setCell ?_ (by first | omega | (simp; done) | (simp; omega)) _) | (refine Below.drewN_ ?_ _) | (refine Below.drew ?_) | (refine Below.alloc ?_ (by first | omega | (simp; done) | (simp; omega)) _)))
  have kr3 := kr.below X
  have kb3 := kb.below X
  have kj := Blk.new_ w2 105 #[.int .i64 0, .int .i64 0, .bool true, .int .i64 0, .int .i64 ((b.code.length : Int) - 1), .bool false, .bool false]
  have b3 := b2.trans (X.mono b2.size)
  clear hc hb2 HC k0 kr kb HB0 b2 X
  go_upto_region 3 with (fail)
  generalize hw3 : w2.alloc (.cells #[.int .i64 0, .int .i64 0, .bool true, .int .i64 0, .int .i64 ((b.code.length : Int) - 1), .bool false, .bool false] 105) = w3 at *
  clear hw3 q8
  have f := fun i => kr3.free i
  have d0 := kr3.cell 0 _ rfl
  have d1 := kr3.cell 1 _ rfl
  have d2 := kr3.cell 2 _ rfl
  have d3 := kr3.cell 3 _ rfl
  have d4 := kr3.cell 4 _ rfl
  have d5 := kr3.cell 5 _ rfl
  have d6 := kr3.cell 6 _ rfl
  go_wp2
  exact bodyPost_ret (results_row (by kernel_rfl) (kr3.set7 _ _ _ _ _ _ _) rfl rfl) rfl (of_ret (R := (⟨1, 0, true, -2147483648, 2147483647, false, false⟩, true)) (rfl) (below_set7 b3 (by omega) _ _ _ _ _ _ _))
theorem of_2 (b : Bo) (cs : List Value) (w : World) (hr : RepB w b cs) (hm : ML w) (hmy : may b.ty = true) (h4 : b.ty.k = 4) (hlen : b.code.length ≤ 6000) :
    Calls Try.prog 66 #[.agg cs.toArray, .int .i64 2] w (OfOut b.ty b.code.length 2 w) := by
  obtain ⟨An, cn, Ap, cp, A, c, rfl, hrT, hP, -, -⟩ := hr.nine
  have hpos : 1 ≤ b.ty.ps.length := by
    have := (may_fn hmy h4).2.2.1
    rcases h : b.ty.ps with _ | ⟨a, l⟩
    · exact absurd h this
    · simp
  have h7 := may_len hmy
  have hmp := (may_size hmy _ (List.getElem_mem (show b.ty.ps.length - 1 < b.ty.ps.length by omega))).1
  have HRW : Hid (wordsT (b.ty.ps[b.ty.ps.length - 1]'(by omega)) = (resW b.ty : Int)) := by
    show _ = _
    unfold resW
    rw [last_at hpos]
    simp [wordsT, hmp]
  have k0 := (Blk.new_ w 28 #[.string b.nm, .bool b.static, .int .i64 b.ty.k, .string b.ty.nm, .slice An b.ty.ns.length cn, .slice Ap b.ty.ps.length cp, .bool b.ty.many, .int .i64 b.regs, .slice A b.code.length c])
  have B0 : Below w.heap.size w ((w.alloc (.cells #[.string b.nm, .bool b.static, .int .i64 b.ty.k, .string b.ty.nm, .slice An b.ty.ns.length cn, .slice Ap b.ty.ps.length cp, .bool b.ty.many, .int .i64 b.regs, .slice A b.code.length c] 28)).alloc (.cells #[.int .i64 0, .int .i64 0, .bool false, .int .i64 0, .int .i64 0, .bool false, .bool false] 105)) := by (repeat (first | with_reducible assumption | with_reducible exact Below.refl _ _ | (refine Below.setCell ?_ (by first | omega | (simp; done) | (simp; omega)) _) | (refine Below.drewN_ ?_ _) | (refine Below.drew ?_) | (refine Below.alloc ?_ (by first | omega | (simp; done) | (simp; omega)) _)))
  obtain ⟨bb, o, An', cn', Ap', cp', rfl, hbl, hrep, hc⟩ := (RepL.keep B0 _ _ hP).five (show b.ty.ps.length - 1 < b.ty.ps.length by omega)
  have hp1 : (1 : Int) ≤ (b.ty.ps.length : Int) := by omega
  have hp7 : (b.ty.ps.length : Int) ≤ 7 := by omega
  have hnat : ((b.ty.ps.length : Int) - 1).toNat = b.ty.ps.length - 1 := by omega
  have hl6 : (b.code.length : Int) ≤ 6000 := by omega
  have HC := Lib.hid (words_any (b.ty.ps[b.ty.ps.length - 1]'(by omega)) _ _ hrep (hm.keep B0))
  generalize b.ty.ps[b.ty.ps.length - 1]'(by omega) = p at *
  clear hr hrT hP hmy h4 hmp hrep hm hlen
  have HB0 := Lib.hid B0
  clear B0
  go_enter Try.func66, Try.ntmps66
  go_wp2_with fail
  ((with_reducible refine (HC.out).mono ?_); rintro e w2 ⟨rfl, hb2⟩)
  rw [HRW.out]
  have kb := (k0.alloc (.cells #[.int .i64 0, .int .i64 0, .bool false, .int .i64 0, .int .i64 0, .bool false, .bool false] 105)).below hb2
  have kr := (Blk.nxt1 w (.cells #[.string b.nm, .bool b.static, .int .i64 b.ty.k, .string b.ty.nm, .slice An b.ty.ns.length cn, .slice (some ⟨bb, o, none⟩) b.ty.ps.length cp, .bool b.ty.many, .int .i64 b.regs, .slice A b.code.length c] 28) 105 #[.int .i64 0, .int .i64 0, .bool false, .int .i64 0, .int .i64 0, .bool false, .bool false]).below hb2
  have q8 := kb.cell 8 (.slice A b.code.length c) rfl
  have b2 := HB0.out.trans (hb2.mono HB0.out.size)
  have hlt2 := kr.lt
  have hlt3 := kb.lt
  have hne : w.heap.size + 1 ≠ w2.heap.size := by omega
  have X : Below w2.heap.size w2 (w2.alloc (.cells #[.int .i64 0, .int .i64 0, .bool true, .int .i64 0, .int .i64 ((b.code.length : Int) - 1), .bool false, .bool false] 105)) := by (repeat (first | with_reducible assumption | with_reducible exact Below.refl _ _ | (refine Below.setCell ?_ (by first | omega | (simp; done) | (simp; omega)) _) | (refine Below.drewN_ ?_ _) | (refine Below.drew ?_) | (refine Below.alloc ?_ (by first | omega | (simp; done) | (simp; omega)) _)))
  have kr3 := kr.below X
  have kb3 := kb.below X
  have kj := Blk.new_ w2 105 #[.int .i64 0, .int .i64 0, .bool true, .int .i64 0, .int .i64 ((b.code.length : Int) - 1), .bool false, .bool false]
  have b3 := b2.trans (X.mono b2.size)
  clear hc hb2 HC k0 kr kb HB0 b2 X
  go_upto_region 3 with (fail)
  generalize hw3 : w2.alloc (.cells #[.int .i64 0, .int .i64 0, .bool true, .int .i64 0, .int .i64 ((b.code.length : Int) - 1), .bool false, .bool false] 105) = w3 at *
  clear hw3 q8
  have f := fun i => kr3.free i
  have d0 := kr3.cell 0 _ rfl
  have d1 := kr3.cell 1 _ rfl
  have d2 := kr3.cell 2 _ rfl
  have d3 := kr3.cell 3 _ rfl
  have d4 := kr3.cell 4 _ rfl
  have d5 := kr3.cell 5 _ rfl
  have d6 := kr3.cell 6 _ rfl
  go_wp2
  exact bodyPost_ret (results_row (by kernel_rfl) (kr3.set7 _ _ _ _ _ _ _) rfl rfl) rfl (of_ret (R := (⟨1, 1, false, 0, 0, false, false⟩, true)) (rfl) (below_set7 b3 (by omega) _ _ _ _ _ _ _))
theorem of_3 (b : Bo) (cs : List Value) (w : World) (hr : RepB w b cs) (hm : ML w) (hmy : may b.ty = true) (h4 : b.ty.k = 4) (hlen : b.code.length ≤ 6000) :
    Calls Try.prog 66 #[.agg cs.toArray, .int .i64 3] w (OfOut b.ty b.code.length 3 w) := by
  obtain ⟨An, cn, Ap, cp, A, c, rfl, hrT, hP, -, -⟩ := hr.nine
  have hpos : 1 ≤ b.ty.ps.length := by
    have := (may_fn hmy h4).2.2.1
    rcases h : b.ty.ps with _ | ⟨a, l⟩
    · exact absurd h this
    · simp
  have h7 := may_len hmy
  have hmp := (may_size hmy _ (List.getElem_mem (show b.ty.ps.length - 1 < b.ty.ps.length by omega))).1
  have HRW : Hid (wordsT (b.ty.ps[b.ty.ps.length - 1]'(by omega)) = (resW b.ty : Int)) := by
    show _ = _
    unfold resW
    rw [last_at hpos]
    simp [wordsT, hmp]
  have k0 := (Blk.new_ w 28 #[.string b.nm, .bool b.static, .int .i64 b.ty.k, .string b.ty.nm, .slice An b.ty.ns.length cn, .slice Ap b.ty.ps.length cp, .bool b.ty.many, .int .i64 b.regs, .slice A b.code.length c])
  have B0 : Below w.heap.size w ((w.alloc (.cells #[.string b.nm, .bool b.static, .int .i64 b.ty.k, .string b.ty.nm, .slice An b.ty.ns.length cn, .slice Ap b.ty.ps.length cp, .bool b.ty.many, .int .i64 b.regs, .slice A b.code.length c] 28)).alloc (.cells #[.int .i64 0, .int .i64 0, .bool false, .int .i64 0, .int .i64 0, .bool false, .bool false] 105)) := by (repeat (first | with_reducible assumption | with_reducible exact Below.refl _ _ | (refine Below.setCell ?_ (by first | omega | (simp; done) | (simp; omega)) _) | (refine Below.drewN_ ?_ _) | (refine Below.drew ?_) | (refine Below.alloc ?_ (by first | omega | (simp; done) | (simp; omega)) _)))
  obtain ⟨bb, o, An', cn', Ap', cp', rfl, hbl, hrep, hc⟩ := (RepL.keep B0 _ _ hP).five (show b.ty.ps.length - 1 < b.ty.ps.length by omega)
  have hp1 : (1 : Int) ≤ (b.ty.ps.length : Int) := by omega
  have hp7 : (b.ty.ps.length : Int) ≤ 7 := by omega
  have hnat : ((b.ty.ps.length : Int) - 1).toNat = b.ty.ps.length - 1 := by omega
  have hl6 : (b.code.length : Int) ≤ 6000 := by omega
  have HC := Lib.hid (words_any (b.ty.ps[b.ty.ps.length - 1]'(by omega)) _ _ hrep (hm.keep B0))
  generalize b.ty.ps[b.ty.ps.length - 1]'(by omega) = p at *
  clear hr hrT hP hmy h4 hmp hrep hm hlen
  have HB0 := Lib.hid B0
  clear B0
  go_enter Try.func66, Try.ntmps66
  go_wp2_with fail
  ((with_reducible refine (HC.out).mono ?_); rintro e w2 ⟨rfl, hb2⟩)
  rw [HRW.out]
  have kb := (k0.alloc (.cells #[.int .i64 0, .int .i64 0, .bool false, .int .i64 0, .int .i64 0, .bool false, .bool false] 105)).below hb2
  have kr := (Blk.nxt1 w (.cells #[.string b.nm, .bool b.static, .int .i64 b.ty.k, .string b.ty.nm, .slice An b.ty.ns.length cn, .slice (some ⟨bb, o, none⟩) b.ty.ps.length cp, .bool b.ty.many, .int .i64 b.regs, .slice A b.code.length c] 28) 105 #[.int .i64 0, .int .i64 0, .bool false, .int .i64 0, .int .i64 0, .bool false, .bool false]).below hb2
  have q8 := kb.cell 8 (.slice A b.code.length c) rfl
  have b2 := HB0.out.trans (hb2.mono HB0.out.size)
  have hlt2 := kr.lt
  have hlt3 := kb.lt
  have hne : w.heap.size + 1 ≠ w2.heap.size := by omega
  have X : Below w2.heap.size w2 (w2.alloc (.cells #[.int .i64 0, .int .i64 0, .bool true, .int .i64 0, .int .i64 ((b.code.length : Int) - 1), .bool false, .bool false] 105)) := by (repeat (first | with_reducible assumption | with_reducible exact Below.refl _ _ | (refine Below.setCell ?_ (by first | omega | (simp; done) | (simp; omega)) _) | (refine Below.drewN_ ?_ _) | (refine Below.drew ?_) | (refine Below.alloc ?_ (by first | omega | (simp; done) | (simp; omega)) _)))
  have kr3 := kr.below X
  have kb3 := kb.below X
  have kj := Blk.new_ w2 105 #[.int .i64 0, .int .i64 0, .bool true, .int .i64 0, .int .i64 ((b.code.length : Int) - 1), .bool false, .bool false]
  have b3 := b2.trans (X.mono b2.size)
  clear hc hb2 HC k0 kr kb HB0 b2 X
  go_upto_region 3 with (fail)
  generalize hw3 : w2.alloc (.cells #[.int .i64 0, .int .i64 0, .bool true, .int .i64 0, .int .i64 ((b.code.length : Int) - 1), .bool false, .bool false] 105) = w3 at *
  clear hw3 q8
  have f := fun i => kr3.free i
  have d0 := kr3.cell 0 _ rfl
  have d1 := kr3.cell 1 _ rfl
  have d2 := kr3.cell 2 _ rfl
  have d3 := kr3.cell 3 _ rfl
  have d4 := kr3.cell 4 _ rfl
  have d5 := kr3.cell 5 _ rfl
  have d6 := kr3.cell 6 _ rfl
  go_wp2
  exact bodyPost_ret (results_row (by kernel_rfl) (kr3.set7 _ _ _ _ _ _ _) rfl rfl) rfl (of_ret (R := (⟨1, 2, true, 1, 12, false, false⟩, true)) (rfl) (below_set7 b3 (by omega) _ _ _ _ _ _ _))
theorem of_4 (b : Bo) (cs : List Value) (w : World) (hr : RepB w b cs) (hm : ML w) (hmy : may b.ty = true) (h4 : b.ty.k = 4) (hlen : b.code.length ≤ 6000) :
    Calls Try.prog 66 #[.agg cs.toArray, .int .i64 4] w (OfOut b.ty b.code.length 4 w) := by
  obtain ⟨An, cn, Ap, cp, A, c, rfl, hrT, hP, -, -⟩ := hr.nine
  have hpos : 1 ≤ b.ty.ps.length := by
    have := (may_fn hmy h4).2.2.1
    rcases h : b.ty.ps with _ | ⟨a, l⟩
    · exact absurd h this
    · simp
  have h7 := may_len hmy
  have hmp := (may_size hmy _ (List.getElem_mem (show b.ty.ps.length - 1 < b.ty.ps.length by omega))).1
  have HRW : Hid (wordsT (b.ty.ps[b.ty.ps.length - 1]'(by omega)) = (resW b.ty : Int)) := by
    show _ = _
    unfold resW
    rw [last_at hpos]
    simp [wordsT, hmp]
  have k0 := (Blk.new_ w 28 #[.string b.nm, .bool b.static, .int .i64 b.ty.k, .string b.ty.nm, .slice An b.ty.ns.length cn, .slice Ap b.ty.ps.length cp, .bool b.ty.many, .int .i64 b.regs, .slice A b.code.length c])
  have B0 : Below w.heap.size w ((w.alloc (.cells #[.string b.nm, .bool b.static, .int .i64 b.ty.k, .string b.ty.nm, .slice An b.ty.ns.length cn, .slice Ap b.ty.ps.length cp, .bool b.ty.many, .int .i64 b.regs, .slice A b.code.length c] 28)).alloc (.cells #[.int .i64 0, .int .i64 0, .bool false, .int .i64 0, .int .i64 0, .bool false, .bool false] 105)) := by (repeat (first | with_reducible assumption | with_reducible exact Below.refl _ _ | (refine Below.setCell ?_ (by first | omega | (simp; done) | (simp; omega)) _) | (refine Below.drewN_ ?_ _) | (refine Below.drew ?_) | (refine Below.alloc ?_ (by first | omega | (simp; done) | (simp; omega)) _)))
  obtain ⟨bb, o, An', cn', Ap', cp', rfl, hbl, hrep, hc⟩ := (RepL.keep B0 _ _ hP).five (show b.ty.ps.length - 1 < b.ty.ps.length by omega)
  have hp1 : (1 : Int) ≤ (b.ty.ps.length : Int) := by omega
  have hp7 : (b.ty.ps.length : Int) ≤ 7 := by omega
  have hnat : ((b.ty.ps.length : Int) - 1).toNat = b.ty.ps.length - 1 := by omega
  have hl6 : (b.code.length : Int) ≤ 6000 := by omega
  have HC := Lib.hid (words_any (b.ty.ps[b.ty.ps.length - 1]'(by omega)) _ _ hrep (hm.keep B0))
  generalize b.ty.ps[b.ty.ps.length - 1]'(by omega) = p at *
  clear hr hrT hP hmy h4 hmp hrep hm hlen
  have HB0 := Lib.hid B0
  clear B0
  go_enter Try.func66, Try.ntmps66
  go_wp2_with fail
  ((with_reducible refine (HC.out).mono ?_); rintro e w2 ⟨rfl, hb2⟩)
  rw [HRW.out]
  have kb := (k0.alloc (.cells #[.int .i64 0, .int .i64 0, .bool false, .int .i64 0, .int .i64 0, .bool false, .bool false] 105)).below hb2
  have kr := (Blk.nxt1 w (.cells #[.string b.nm, .bool b.static, .int .i64 b.ty.k, .string b.ty.nm, .slice An b.ty.ns.length cn, .slice (some ⟨bb, o, none⟩) b.ty.ps.length cp, .bool b.ty.many, .int .i64 b.regs, .slice A b.code.length c] 28) 105 #[.int .i64 0, .int .i64 0, .bool false, .int .i64 0, .int .i64 0, .bool false, .bool false]).below hb2
  have q8 := kb.cell 8 (.slice A b.code.length c) rfl
  have b2 := HB0.out.trans (hb2.mono HB0.out.size)
  have hlt2 := kr.lt
  have hlt3 := kb.lt
  have hne : w.heap.size + 1 ≠ w2.heap.size := by omega
  have X : Below w2.heap.size w2 (w2.alloc (.cells #[.int .i64 0, .int .i64 0, .bool true, .int .i64 0, .int .i64 ((b.code.length : Int) - 1), .bool false, .bool false] 105)) := by (repeat (first | with_reducible assumption | with_reducible exact Below.refl _ _ | (refine Below.setCell ?_ (by first | omega | (simp; done) | (simp; omega)) _) | (refine Below.drewN_ ?_ _) | (refine Below.drew ?_) | (refine Below.alloc ?_ (by first | omega | (simp; done) | (simp; omega)) _)))
  have kr3 := kr.below X
  have kb3 := kb.below X
  have kj := Blk.new_ w2 105 #[.int .i64 0, .int .i64 0, .bool true, .int .i64 0, .int .i64 ((b.code.length : Int) - 1), .bool false, .bool false]
  have b3 := b2.trans (X.mono b2.size)
  clear hc hb2 HC k0 kr kb HB0 b2 X
  go_upto_region 3 with (fail)
  generalize hw3 : w2.alloc (.cells #[.int .i64 0, .int .i64 0, .bool true, .int .i64 0, .int .i64 ((b.code.length : Int) - 1), .bool false, .bool false] 105) = w3 at *
  clear hw3 q8
  have f := fun i => kr3.free i
  have d0 := kr3.cell 0 _ rfl
  have d1 := kr3.cell 1 _ rfl
  have d2 := kr3.cell 2 _ rfl
  have d3 := kr3.cell 3 _ rfl
  have d4 := kr3.cell 4 _ rfl
  have d5 := kr3.cell 5 _ rfl
  have d6 := kr3.cell 6 _ rfl
  go_wp2
  exact bodyPost_ret (results_row (by kernel_rfl) (kr3.set7 _ _ _ _ _ _ _) rfl rfl) rfl (of_ret (R := (⟨1, 0, true, 0, 1, true, false⟩, true)) (rfl) (below_set7 b3 (by omega) _ _ _ _ _ _ _))
theorem of_5 (b : Bo) (cs : List Value) (w : World) (hr : RepB w b cs) (hm : ML w) (hmy : may b.ty = true) (h4 : b.ty.k = 4) (hlen : b.code.length ≤ 6000) :
    Calls Try.prog 66 #[.agg cs.toArray, .int .i64 5] w (OfOut b.ty b.code.length 5 w) := by
  obtain ⟨An, cn, Ap, cp, A, c, rfl, hrT, hP, -, -⟩ := hr.nine
  have hpos : 1 ≤ b.ty.ps.length := by
    have := (may_fn hmy h4).2.2.1
    rcases h : b.ty.ps with _ | ⟨a, l⟩
    · exact absurd h this
    · simp
  have h7 := may_len hmy
  have hmp := (may_size hmy _ (List.getElem_mem (show b.ty.ps.length - 1 < b.ty.ps.length by omega))).1
  have HRW : Hid (wordsT (b.ty.ps[b.ty.ps.length - 1]'(by omega)) = (resW b.ty : Int)) := by
    show _ = _
    unfold resW
    rw [last_at hpos]
    simp [wordsT, hmp]
  have k0 := (Blk.new_ w 28 #[.string b.nm, .bool b.static, .int .i64 b.ty.k, .string b.ty.nm, .slice An b.ty.ns.length cn, .slice Ap b.ty.ps.length cp, .bool b.ty.many, .int .i64 b.regs, .slice A b.code.length c])
  have B0 : Below w.heap.size w ((w.alloc (.cells #[.string b.nm, .bool b.static, .int .i64 b.ty.k, .string b.ty.nm, .slice An b.ty.ns.length cn, .slice Ap b.ty.ps.length cp, .bool b.ty.many, .int .i64 b.regs, .slice A b.code.length c] 28)).alloc (.cells #[.int .i64 0, .int .i64 0, .bool false, .int .i64 0, .int .i64 0, .bool false, .bool false] 105)) := by (repeat (first | with_reducible assumption | with_reducible exact Below.refl _ _ | (refine Below.setCell ?_ (by first | omega | (simp; done) | (simp; omega)) _) | (refine Below.drewN_ ?_ _) | (refine Below.drew ?_) | (refine Below.alloc ?_ (by first | omega | (simp; done) | (simp; omega)) _)))
  obtain ⟨bb, o, An', cn', Ap', cp', rfl, hbl, hrep, hc⟩ := (RepL.keep B0 _ _ hP).five (show b.ty.ps.length - 1 < b.ty.ps.length by omega)
  have hp1 : (1 : Int) ≤ (b.ty.ps.length : Int) := by omega
  have hp7 : (b.ty.ps.length : Int) ≤ 7 := by omega
  have hnat : ((b.ty.ps.length : Int) - 1).toNat = b.ty.ps.length - 1 := by omega
  have hl6 : (b.code.length : Int) ≤ 6000 := by omega
  have HC := Lib.hid (words_any (b.ty.ps[b.ty.ps.length - 1]'(by omega)) _ _ hrep (hm.keep B0))
  generalize b.ty.ps[b.ty.ps.length - 1]'(by omega) = p at *
  clear hr hrT hP hmy h4 hmp hrep hm hlen
  have HB0 := Lib.hid B0
  clear B0
  go_enter Try.func66, Try.ntmps66
  go_wp2_with fail
  ((with_reducible refine (HC.out).mono ?_); rintro e w2 ⟨rfl, hb2⟩)
  rw [HRW.out]
  have kb := (k0.alloc (.cells #[.int .i64 0, .int .i64 0, .bool false, .int .i64 0, .int .i64 0, .bool false, .bool false] 105)).below hb2
  have kr := (Blk.nxt1 w (.cells #[.string b.nm, .bool b.static, .int .i64 b.ty.k, .string b.ty.nm, .slice An b.ty.ns.length cn, .slice (some ⟨bb, o, none⟩) b.ty.ps.length cp, .bool b.ty.many, .int .i64 b.regs, .slice A b.code.length c] 28) 105 #[.int .i64 0, .int .i64 0, .bool false, .int .i64 0, .int .i64 0, .bool false, .bool false]).below hb2
  have q8 := kb.cell 8 (.slice A b.code.length c) rfl
  have b2 := HB0.out.trans (hb2.mono HB0.out.size)
  have hlt2 := kr.lt
  have hlt3 := kb.lt
  have hne : w.heap.size + 1 ≠ w2.heap.size := by omega
  have X : Below w2.heap.size w2 (w2.alloc (.cells #[.int .i64 0, .int .i64 0, .bool true, .int .i64 0, .int .i64 ((b.code.length : Int) - 1), .bool false, .bool false] 105)) := by (repeat (first | with_reducible assumption | with_reducible exact Below.refl _ _ | (refine Below.setCell ?_ (by first | omega | (simp; done) | (simp; omega)) _) | (refine Below.drewN_ ?_ _) | (refine Below.drew ?_) | (refine Below.alloc ?_ (by first | omega | (simp; done) | (simp; omega)) _)))
  have kr3 := kr.below X
  have kb3 := kb.below X
  have kj := Blk.new_ w2 105 #[.int .i64 0, .int .i64 0, .bool true, .int .i64 0, .int .i64 ((b.code.length : Int) - 1), .bool false, .bool false]
  have b3 := b2.trans (X.mono b2.size)
  clear hc hb2 HC k0 kr kb HB0 b2 X
  go_upto_region 3 with (fail)
  generalize hw3 : w2.alloc (.cells #[.int .i64 0, .int .i64 0, .bool true, .int .i64 0, .int .i64 ((b.code.length : Int) - 1), .bool false, .bool false] 105) = w3 at *
  clear hw3 q8
  have f := fun i => kr3.free i
  have d0 := kr3.cell 0 _ rfl
  have d1 := kr3.cell 1 _ rfl
  have d2 := kr3.cell 2 _ rfl
  have d3 := kr3.cell 3 _ rfl
  have d4 := kr3.cell 4 _ rfl
  have d5 := kr3.cell 5 _ rfl
  have d6 := kr3.cell 6 _ rfl
  go_wp2
  exact bodyPost_ret (results_row (by kernel_rfl) (kr3.set7 _ _ _ _ _ _ _) rfl rfl) rfl (of_ret (R := (⟨0, 1, true, 0, 1, true, false⟩, true)) (rfl) (below_set7 b3 (by omega) _ _ _ _ _ _ _))
theorem of_6 (b : Bo) (cs : List Value) (w : World) (hr : RepB w b cs) (hm : ML w) (hmy : may b.ty = true) (h4 : b.ty.k = 4) (hlen : b.code.length ≤ 6000) :
    Calls Try.prog 66 #[.agg cs.toArray, .int .i64 6] w (OfOut b.ty b.code.length 6 w) := by
  obtain ⟨An, cn, Ap, cp, A, c, rfl, hrT, hP, -, -⟩ := hr.nine
  have hpos : 1 ≤ b.ty.ps.length := by
    have := (may_fn hmy h4).2.2.1
    rcases h : b.ty.ps with _ | ⟨a, l⟩
    · exact absurd h this
    · simp
  have h7 := may_len hmy
  have hmp := (may_size hmy _ (List.getElem_mem (show b.ty.ps.length - 1 < b.ty.ps.length by omega))).1
  have HRW : Hid (wordsT (b.ty.ps[b.ty.ps.length - 1]'(by omega)) = (resW b.ty : Int)) := by
    show _ = _
    unfold resW
    rw [last_at hpos]
    simp [wordsT, hmp]
  have k0 := (Blk.new_ w 28 #[.string b.nm, .bool b.static, .int .i64 b.ty.k, .string b.ty.nm, .slice An b.ty.ns.length cn, .slice Ap b.ty.ps.length cp, .bool b.ty.many, .int .i64 b.regs, .slice A b.code.length c])
  have B0 : Below w.heap.size w ((w.alloc (.cells #[.string b.nm, .bool b.static, .int .i64 b.ty.k, .string b.ty.nm, .slice An b.ty.ns.length cn, .slice Ap b.ty.ps.length cp, .bool b.ty.many, .int .i64 b.regs, .slice A b.code.length c] 28)).alloc (.cells #[.int .i64 0, .int .i64 0, .bool false, .int .i64 0, .int .i64 0, .bool false, .bool false] 105)) := by (repeat (first | with_reducible assumption | with_reducible exact Below.refl _ _ | (refine Below.setCell ?_ (by first | omega | (simp; done) | (simp; omega)) _) | (refine Below.drewN_ ?_ _) | (refine Below.drew ?_) | (refine Below.alloc ?_ (by first | omega | (simp; done) | (simp; omega)) _)))
  obtain ⟨bb, o, An', cn', Ap', cp', rfl, hbl, hrep, hc⟩ := (RepL.keep B0 _ _ hP).five (show b.ty.ps.length - 1 < b.ty.ps.length by omega)
  have hp1 : (1 : Int) ≤ (b.ty.ps.length : Int) := by omega
  have hp7 : (b.ty.ps.length : Int) ≤ 7 := by omega
  have hnat : ((b.ty.ps.length : Int) - 1).toNat = b.ty.ps.length - 1 := by omega
  have hl6 : (b.code.length : Int) ≤ 6000 := by omega
  have HC := Lib.hid (words_any (b.ty.ps[b.ty.ps.length - 1]'(by omega)) _ _ hrep (hm.keep B0))
  generalize b.ty.ps[b.ty.ps.length - 1]'(by omega) = p at *
  clear hr hrT hP hmy h4 hmp hrep hm hlen
  have HB0 := Lib.hid B0
  clear B0
  go_enter Try.func66, Try.ntmps66
  go_wp2_with fail
  ((with_reducible refine (HC.out).mono ?_); rintro e w2 ⟨rfl, hb2⟩)
  rw [HRW.out]
  have kb := (k0.alloc (.cells #[.int .i64 0, .int .i64 0, .bool false, .int .i64 0, .int .i64 0, .bool false, .bool false] 105)).below hb2
  have kr := (Blk.nxt1 w (.cells #[.string b.nm, .bool b.static, .int .i64 b.ty.k, .string b.ty.nm, .slice An b.ty.ns.length cn, .slice (some ⟨bb, o, none⟩) b.ty.ps.length cp, .bool b.ty.many, .int .i64 b.regs, .slice A b.code.length c] 28) 105 #[.int .i64 0, .int .i64 0, .bool false, .int .i64 0, .int .i64 0, .bool false, .bool false]).below hb2
  have q8 := kb.cell 8 (.slice A b.code.length c) rfl
  have b2 := HB0.out.trans (hb2.mono HB0.out.size)
  have hlt2 := kr.lt
  have hlt3 := kb.lt
  have hne : w.heap.size + 1 ≠ w2.heap.size := by omega
  have X : Below w2.heap.size w2 (w2.alloc (.cells #[.int .i64 0, .int .i64 0, .bool true, .int .i64 0, .int .i64 ((b.code.length : Int) - 1), .bool false, .bool false] 105)) := by (repeat (first | with_reducible assumption | with_reducible exact Below.refl _ _ | (refine Below.setCell ?_ (by first | omega | (simp; done) | (simp; omega)) _) | (refine Below.drewN_ ?_ _) | (refine Below.drew ?_) | (refine Below.alloc ?_ (by first | omega | (simp; done) | (simp; omega)) _)))
  have kr3 := kr.below X
  have kb3 := kb.below X
  have kj := Blk.new_ w2 105 #[.int .i64 0, .int .i64 0, .bool true, .int .i64 0, .int .i64 ((b.code.length : Int) - 1), .bool false, .bool false]
  have b3 := b2.trans (X.mono b2.size)
  clear hc hb2 HC k0 kr kb HB0 b2 X
  go_upto_region 3 with (fail)
  generalize hw3 : w2.alloc (.cells #[.int .i64 0, .int .i64 0, .bool true, .int .i64 0, .int .i64 ((b.code.length : Int) - 1), .bool false, .bool false] 105) = w3 at *
  clear hw3 q8
  have f := fun i => kr3.free i
  have d0 := kr3.cell 0 _ rfl
  have d1 := kr3.cell 1 _ rfl
  have d2 := kr3.cell 2 _ rfl
  have d3 := kr3.cell 3 _ rfl
  have d4 := kr3.cell 4 _ rfl
  have d5 := kr3.cell 5 _ rfl
  have d6 := kr3.cell 6 _ rfl
  go_wp2
  exact bodyPost_ret (results_row (by kernel_rfl) (kr3.set7 _ _ _ _ _ _ _) rfl rfl) rfl (of_ret (R := (⟨1, 0, false, 0, 0, true, false⟩, true)) (rfl) (below_set7 b3 (by omega) _ _ _ _ _ _ _))
theorem of_7 (b : Bo) (cs : List Value) (w : World) (hr : RepB w b cs) (hm : ML w) (hmy : may b.ty = true) (h4 : b.ty.k = 4) (hlen : b.code.length ≤ 6000) :
    Calls Try.prog 66 #[.agg cs.toArray, .int .i64 7] w (OfOut b.ty b.code.length 7 w) := by
  obtain ⟨An, cn, Ap, cp, A, c, rfl, hrT, hP, -, -⟩ := hr.nine
  have hpos : 1 ≤ b.ty.ps.length := by
    have := (may_fn hmy h4).2.2.1
    rcases h : b.ty.ps with _ | ⟨a, l⟩
    · exact absurd h this
    · simp
  have h7 := may_len hmy
  have hmp := (may_size hmy _ (List.getElem_mem (show b.ty.ps.length - 1 < b.ty.ps.length by omega))).1
  have HRW : Hid (wordsT (b.ty.ps[b.ty.ps.length - 1]'(by omega)) = (resW b.ty : Int)) := by
    show _ = _
    unfold resW
    rw [last_at hpos]
    simp [wordsT, hmp]
  have k0 := (Blk.new_ w 28 #[.string b.nm, .bool b.static, .int .i64 b.ty.k, .string b.ty.nm, .slice An b.ty.ns.length cn, .slice Ap b.ty.ps.length cp, .bool b.ty.many, .int .i64 b.regs, .slice A b.code.length c])
  have B0 : Below w.heap.size w ((w.alloc (.cells #[.string b.nm, .bool b.static, .int .i64 b.ty.k, .string b.ty.nm, .slice An b.ty.ns.length cn, .slice Ap b.ty.ps.length cp, .bool b.ty.many, .int .i64 b.regs, .slice A b.code.length c] 28)).alloc (.cells #[.int .i64 0, .int .i64 0, .bool false, .int .i64 0, .int .i64 0, .bool false, .bool false] 105)) := by (repeat (first | with_reducible assumption | with_reducible exact Below.refl _ _ | (refine Below.setCell ?_ (by first | omega | (simp; done) | (simp; omega)) _) | (refine Below.drewN_ ?_ _) | (refine Below.drew ?_) | (refine Below.alloc ?_ (by first | omega | (simp; done) | (simp; omega)) _)))
  obtain ⟨bb, o, An', cn', Ap', cp', rfl, hbl, hrep, hc⟩ := (RepL.keep B0 _ _ hP).five (show b.ty.ps.length - 1 < b.ty.ps.length by omega)
  have hp1 : (1 : Int) ≤ (b.ty.ps.length : Int) := by omega
  have hp7 : (b.ty.ps.length : Int) ≤ 7 := by omega
  have hnat : ((b.ty.ps.length : Int) - 1).toNat = b.ty.ps.length - 1 := by omega
  have hl6 : (b.code.length : Int) ≤ 6000 := by omega
  have HC := Lib.hid (words_any (b.ty.ps[b.ty.ps.length - 1]'(by omega)) _ _ hrep (hm.keep B0))
  generalize b.ty.ps[b.ty.ps.length - 1]'(by omega) = p at *
  clear hr hrT hP hmy h4 hmp hrep hm hlen
  have HB0 := Lib.hid B0
  clear B0
  go_enter Try.func66, Try.ntmps66
  go_wp2_with fail
  ((with_reducible refine (HC.out).mono ?_); rintro e w2 ⟨rfl, hb2⟩)
  rw [HRW.out]
  have kb := (k0.alloc (.cells #[.int .i64 0, .int .i64 0, .bool false, .int .i64 0, .int .i64 0, .bool false, .bool false] 105)).below hb2
  have kr := (Blk.nxt1 w (.cells #[.string b.nm, .bool b.static, .int .i64 b.ty.k, .string b.ty.nm, .slice An b.ty.ns.length cn, .slice (some ⟨bb, o, none⟩) b.ty.ps.length cp, .bool b.ty.many, .int .i64 b.regs, .slice A b.code.length c] 28) 105 #[.int .i64 0, .int .i64 0, .bool false, .int .i64 0, .int .i64 0, .bool false, .bool false]).below hb2
  have q8 := kb.cell 8 (.slice A b.code.length c) rfl
  have b2 := HB0.out.trans (hb2.mono HB0.out.size)
  have hlt2 := kr.lt
  have hlt3 := kb.lt
  have hne : w.heap.size + 1 ≠ w2.heap.size := by omega
  have X : Below w2.heap.size w2 (w2.alloc (.cells #[.int .i64 0, .int .i64 0, .bool true, .int .i64 0, .int .i64 ((b.code.length : Int) - 1), .bool false, .bool false] 105)) := by (repeat (first | with_reducible assumption | with_reducible exact Below.refl _ _ | (refine Below.setCell ?_ (by first | omega | (simp; done) | (simp; omega)) _) | (refine Below.drewN_ ?_ _) | (refine Below.drew ?_) | (refine Below.alloc ?_ (by first | omega | (simp; done) | (simp; omega)) _)))
  have kr3 := kr.below X
  have kb3 := kb.below X
  have kj := Blk.new_ w2 105 #[.int .i64 0, .int .i64 0, .bool true, .int .i64 0, .int .i64 ((b.code.length : Int) - 1), .bool false, .bool false]
  have b3 := b2.trans (X.mono b2.size)
  clear hc hb2 HC k0 kr kb HB0 b2 X
  go_upto_region 3 with (fail)
  generalize hw3 : w2.alloc (.cells #[.int .i64 0, .int .i64 0, .bool true, .int .i64 0, .int .i64 ((b.code.length : Int) - 1), .bool false, .bool false] 105) = w3 at *
  clear hw3 q8
  have f := fun i => kr3.free i
  have d0 := kr3.cell 0 _ rfl
  have d1 := kr3.cell 1 _ rfl
  have d2 := kr3.cell 2 _ rfl
  have d3 := kr3.cell 3 _ rfl
  have d4 := kr3.cell 4 _ rfl
  have d5 := kr3.cell 5 _ rfl
  have d6 := kr3.cell 6 _ rfl
  go_wp2
  exact bodyPost_ret (results_row (by kernel_rfl) (kr3.set7 _ _ _ _ _ _ _) rfl rfl) rfl (of_ret (R := (⟨-1, -1, false, 0, 0, true, true⟩, true)) (rfl) (below_set7 b3 (by omega) _ _ _ _ _ _ _))
theorem of_8 (b : Bo) (cs : List Value) (w : World) (hr : RepB w b cs) (hm : ML w) (hmy : may b.ty = true) (h4 : b.ty.k = 4) (hlen : b.code.length ≤ 6000) :
    Calls Try.prog 66 #[.agg cs.toArray, .int .i64 8] w (OfOut b.ty b.code.length 8 w) := by
  obtain ⟨An, cn, Ap, cp, A, c, rfl, hrT, hP, -, -⟩ := hr.nine
  have hpos : 1 ≤ b.ty.ps.length := by
    have := (may_fn hmy h4).2.2.1
    rcases h : b.ty.ps with _ | ⟨a, l⟩
    · exact absurd h this
    · simp
  have h7 := may_len hmy
  have hmp := (may_size hmy _ (List.getElem_mem (show b.ty.ps.length - 1 < b.ty.ps.length by omega))).1
  have HRW : Hid (wordsT (b.ty.ps[b.ty.ps.length - 1]'(by omega)) = (resW b.ty : Int)) := by
    show _ = _
    unfold resW
    rw [last_at hpos]
    simp [wordsT, hmp]
  have k0 := (Blk.new_ w 28 #[.string b.nm, .bool b.static, .int .i64 b.ty.k, .string b.ty.nm, .slice An b.ty.ns.length cn, .slice Ap b.ty.ps.length cp, .bool b.ty.many, .int .i64 b.regs, .slice A b.code.length c])
  have B0 : Below w.heap.size w ((w.alloc (.cells #[.string b.nm, .bool b.static, .int .i64 b.ty.k, .string b.ty.nm, .slice An b.ty.ns.length cn, .slice Ap b.ty.ps.length cp, .bool b.ty.many, .int .i64 b.regs, .slice A b.code.length c] 28)).alloc (.cells #[.int .i64 0, .int .i64 0, .bool false, .int .i64 0, .int .i64 0, .bool false, .bool false] 105)) := by (repeat (first | with_reducible assumption | with_reducible exact Below.refl _ _ | (refine Below.setCell ?_ (by first | omega | (simp; done) | (simp; omega)) _) | (refine Below.drewN_ ?_ _) | (refine Below.drew ?_) | (refine Below.alloc ?_ (by first | omega | (simp; done) | (simp; omega)) _)))
  obtain ⟨bb, o, An', cn', Ap', cp', rfl, hbl, hrep, hc⟩ := (RepL.keep B0 _ _ hP).five (show b.ty.ps.length - 1 < b.ty.ps.length by omega)
  have hp1 : (1 : Int) ≤ (b.ty.ps.length : Int) := by omega
  have hp7 : (b.ty.ps.length : Int) ≤ 7 := by omega
  have hnat : ((b.ty.ps.length : Int) - 1).toNat = b.ty.ps.length - 1 := by omega
  have hl6 : (b.code.length : Int) ≤ 6000 := by omega
  have HC := Lib.hid (words_any (b.ty.ps[b.ty.ps.length - 1]'(by omega)) _ _ hrep (hm.keep B0))
  generalize b.ty.ps[b.ty.ps.length - 1]'(by omega) = p at *
  clear hr hrT hP hmy h4 hmp hrep hm hlen
  have HB0 := Lib.hid B0
  clear B0
  go_enter Try.func66, Try.ntmps66
  go_wp2_with fail
  ((with_reducible refine (HC.out).mono ?_); rintro e w2 ⟨rfl, hb2⟩)
  rw [HRW.out]
  have kb := (k0.alloc (.cells #[.int .i64 0, .int .i64 0, .bool false, .int .i64 0, .int .i64 0, .bool false, .bool false] 105)).below hb2
  have kr := (Blk.nxt1 w (.cells #[.string b.nm, .bool b.static, .int .i64 b.ty.k, .string b.ty.nm, .slice An b.ty.ns.length cn, .slice (some ⟨bb, o, none⟩) b.ty.ps.length cp, .bool b.ty.many, .int .i64 b.regs, .slice A b.code.length c] 28) 105 #[.int .i64 0, .int .i64 0, .bool false, .int .i64 0, .int .i64 0, .bool false, .bool false]).below hb2
  have q8 := kb.cell 8 (.slice A b.code.length c) rfl
  have b2 := HB0.out.trans (hb2.mono HB0.out.size)
  have hlt2 := kr.lt
  have hlt3 := kb.lt
  have hne : w.heap.size + 1 ≠ w2.heap.size := by omega
  have X : Below w2.heap.size w2 (w2.alloc (.cells #[.int .i64 0, .int .i64 0, .bool true, .int .i64 0, .int .i64 ((b.code.length : Int) - 1), .bool false, .bool false] 105)) := by (repeat (first | with_reducible assumption | with_reducible exact Below.refl _ _ | (refine Below.setCell ?_ (by first | omega | (simp; done) | (simp; omega)) _) | (refine Below.drewN_ ?_ _) | (refine Below.drew ?_) | (refine Below.alloc ?_ (by first | omega | (simp; done) | (simp; omega)) _)))
  have kr3 := kr.below X
  have kb3 := kb.below X
  have kj := Blk.new_ w2 105 #[.int .i64 0, .int .i64 0, .bool true, .int .i64 0, .int .i64 ((b.code.length : Int) - 1), .bool false, .bool false]
  have b3 := b2.trans (X.mono b2.size)
  clear hc hb2 HC k0 kr kb HB0 b2 X
  go_upto_region 3 with (fail)
  generalize hw3 : w2.alloc (.cells #[.int .i64 0, .int .i64 0, .bool true, .int .i64 0, .int .i64 ((b.code.length : Int) - 1), .bool false, .bool false] 105) = w3 at *
  clear hw3 q8
  have f := fun i => kr3.free i
  have d0 := kr3.cell 0 _ rfl
  have d1 := kr3.cell 1 _ rfl
  have d2 := kr3.cell 2 _ rfl
  have d3 := kr3.cell 3 _ rfl
  have d4 := kr3.cell 4 _ rfl
  have d5 := kr3.cell 5 _ rfl
  have d6 := kr3.cell 6 _ rfl
  go_wp2
  exact bodyPost_ret (results_row (by kernel_rfl) (kr3.set7 _ _ _ _ _ _ _) rfl rfl) rfl (of_ret (R := (⟨-1, -1, false, 0, 0, false, true⟩, true)) (rfl) (below_set7 b3 (by omega) _ _ _ _ _ _ _))
theorem of_9 (b : Bo) (cs : List Value) (w : World) (hr : RepB w b cs) (hm : ML w) (hmy : may b.ty = true) (h4 : b.ty.k = 4) (hlen : b.code.length ≤ 6000) :
    Calls Try.prog 66 #[.agg cs.toArray, .int .i64 9] w (OfOut b.ty b.code.length 9 w) := by
  obtain ⟨An, cn, Ap, cp, A, c, rfl, hrT, hP, -, -⟩ := hr.nine
  have hpos : 1 ≤ b.ty.ps.length := by
    have := (may_fn hmy h4).2.2.1
    rcases h : b.ty.ps with _ | ⟨a, l⟩
    · exact absurd h this
    · simp
  have h7 := may_len hmy
  have hmp := (may_size hmy _ (List.getElem_mem (show b.ty.ps.length - 1 < b.ty.ps.length by omega))).1
  have HRW : Hid (wordsT (b.ty.ps[b.ty.ps.length - 1]'(by omega)) = (resW b.ty : Int)) := by
    show _ = _
    unfold resW
    rw [last_at hpos]
    simp [wordsT, hmp]
  have k0 := (Blk.new_ w 28 #[.string b.nm, .bool b.static, .int .i64 b.ty.k, .string b.ty.nm, .slice An b.ty.ns.length cn, .slice Ap b.ty.ps.length cp, .bool b.ty.many, .int .i64 b.regs, .slice A b.code.length c])
  have B0 : Below w.heap.size w ((w.alloc (.cells #[.string b.nm, .bool b.static, .int .i64 b.ty.k, .string b.ty.nm, .slice An b.ty.ns.length cn, .slice Ap b.ty.ps.length cp, .bool b.ty.many, .int .i64 b.regs, .slice A b.code.length c] 28)).alloc (.cells #[.int .i64 0, .int .i64 0, .bool false, .int .i64 0, .int .i64 0, .bool false, .bool false] 105)) := by (repeat (first | with_reducible assumption | with_reducible exact Below.refl _ _ | (refine Below.setCell ?_ (by first | omega | (simp; done) | (simp; omega)) _) | (refine Below.drewN_ ?_ _) | (refine Below.drew ?_) | (refine Below.alloc ?_ (by first | omega | (simp; done) | (simp; omega)) _)))
  obtain ⟨bb, o, An', cn', Ap', cp', rfl, hbl, hrep, hc⟩ := (RepL.keep B0 _ _ hP).five (show b.ty.ps.length - 1 < b.ty.ps.length by omega)
  have hp1 : (1 : Int) ≤ (b.ty.ps.length : Int) := by omega
  have hp7 : (b.ty.ps.length : Int) ≤ 7 := by omega
  have hnat : ((b.ty.ps.length : Int) - 1).toNat = b.ty.ps.length - 1 := by omega
  have hl6 : (b.code.length : Int) ≤ 6000 := by omega
  have HC := Lib.hid (words_any (b.ty.ps[b.ty.ps.length - 1]'(by omega)) _ _ hrep (hm.keep B0))
  generalize b.ty.ps[b.ty.ps.length - 1]'(by omega) = p at *
  clear hr hrT hP hmy h4 hmp hrep hm hlen
  have HB0 := Lib.hid B0
  clear B0
  go_enter Try.func66, Try.ntmps66
  go_wp2_with fail
  ((with_reducible refine (HC.out).mono ?_); rintro e w2 ⟨rfl, hb2⟩)
  rw [HRW.out]
  have kb := (k0.alloc (.cells #[.int .i64 0, .int .i64 0, .bool false, .int .i64 0, .int .i64 0, .bool false, .bool false] 105)).below hb2
  have kr := (Blk.nxt1 w (.cells #[.string b.nm, .bool b.static, .int .i64 b.ty.k, .string b.ty.nm, .slice An b.ty.ns.length cn, .slice (some ⟨bb, o, none⟩) b.ty.ps.length cp, .bool b.ty.many, .int .i64 b.regs, .slice A b.code.length c] 28) 105 #[.int .i64 0, .int .i64 0, .bool false, .int .i64 0, .int .i64 0, .bool false, .bool false]).below hb2
  have q8 := kb.cell 8 (.slice A b.code.length c) rfl
  have b2 := HB0.out.trans (hb2.mono HB0.out.size)
  have hlt2 := kr.lt
  have hlt3 := kb.lt
  have hne : w.heap.size + 1 ≠ w2.heap.size := by omega
  have X : Below w2.heap.size w2 (w2.alloc (.cells #[.int .i64 0, .int .i64 0, .bool true, .int .i64 0, .int .i64 ((b.code.length : Int) - 1), .bool false, .bool false] 105)) := by (repeat (first | with_reducible assumption | with_reducible exact Below.refl _ _ | (refine Below.setCell ?_ (by first | omega | (simp; done) | (simp; omega)) _) | (refine Below.drewN_ ?_ _) | (refine Below.drew ?_) | (refine Below.alloc ?_ (by first | omega | (simp; done) | (simp; omega)) _)))
  have kr3 := kr.below X
  have kb3 := kb.below X
  have kj := Blk.new_ w2 105 #[.int .i64 0, .int .i64 0, .bool true, .int .i64 0, .int .i64 ((b.code.length : Int) - 1), .bool false, .bool false]
  have b3 := b2.trans (X.mono b2.size)
  clear hc hb2 HC k0 kr kb HB0 b2 X
  go_upto_region 3 with (fail)
  generalize hw3 : w2.alloc (.cells #[.int .i64 0, .int .i64 0, .bool true, .int .i64 0, .int .i64 ((b.code.length : Int) - 1), .bool false, .bool false] 105) = w3 at *
  clear hw3 q8
  have f := fun i => kr3.free i
  have d0 := kr3.cell 0 _ rfl
  have d1 := kr3.cell 1 _ rfl
  have d2 := kr3.cell 2 _ rfl
  have d3 := kr3.cell 3 _ rfl
  have d4 := kr3.cell 4 _ rfl
  have d5 := kr3.cell 5 _ rfl
  have d6 := kr3.cell 6 _ rfl
  have j0' := kj.cell 0 _ rfl
  have j1' := kj.cell 1 _ rfl
  have j2' := kj.cell 2 _ rfl
  have j3' := kj.cell 3 _ rfl
  have j4' := kj.cell 4 _ rfl
  have j5' := kj.cell 5 _ rfl
  have j6' := kj.cell 6 _ rfl
  go_wp2
  exact bodyPost_ret (results_row (by kernel_rfl) (kr3.set7 _ _ _ _ _ _ _) rfl rfl) rfl (of_ret (R := (⟨0, 0, true, 0, (b.code.length : Int) - 1, false, false⟩, true)) (rfl) (below_set7 b3 (by omega) _ _ _ _ _ _ _))
theorem of_10 (b : Bo) (cs : List Value) (w : World) (hr : RepB w b cs) (hm : ML w) (hmy : may b.ty = true) (h4 : b.ty.k = 4) (hlen : b.code.length ≤ 6000) :
    Calls Try.prog 66 #[.agg cs.toArray, .int .i64 10] w (OfOut b.ty b.code.length 10 w) := by
  obtain ⟨An, cn, Ap, cp, A, c, rfl, hrT, hP, -, -⟩ := hr.nine
  have hpos : 1 ≤ b.ty.ps.length := by
    have := (may_fn hmy h4).2.2.1
    rcases h : b.ty.ps with _ | ⟨a, l⟩
    · exact absurd h this
    · simp
  have h7 := may_len hmy
  have hmp := (may_size hmy _ (List.getElem_mem (show b.ty.ps.length - 1 < b.ty.ps.length by omega))).1
  have HRW : Hid (wordsT (b.ty.ps[b.ty.ps.length - 1]'(by omega)) = (resW b.ty : Int)) := by
    show _ = _
    unfold resW
    rw [last_at hpos]
    simp [wordsT, hmp]
  have k0 := (Blk.new_ w 28 #[.string b.nm, .bool b.static, .int .i64 b.ty.k, .string b.ty.nm, .slice An b.ty.ns.length cn, .slice Ap b.ty.ps.length cp, .bool b.ty.many, .int .i64 b.regs, .slice A b.code.length c])
  have B0 : Below w.heap.size w ((w.alloc (.cells #[.string b.nm, .bool b.static, .int .i64 b.ty.k, .string b.ty.nm, .slice An b.ty.ns.length cn, .slice Ap b.ty.ps.length cp, .bool b.ty.many, .int .i64 b.regs, .slice A b.code.length c] 28)).alloc (.cells #[.int .i64 0, .int .i64 0, .bool false, .int .i64 0, .int .i64 0, .bool false, .bool false] 105)) := by (repeat (first | with_reducible assumption | with_reducible exact Below.refl _ _ | (refine Below.setCell ?_ (by first | omega | (simp; done) | (simp; omega)) _) | (refine Below.drewN_ ?_ _) | (refine Below.drew ?_) | (refine Below.alloc ?_ (by first | omega | (simp; done) | (simp; omega)) _)))
  obtain ⟨bb, o, An', cn', Ap', cp', rfl, hbl, hrep, hc⟩ := (RepL.keep B0 _ _ hP).five (show b.ty.ps.length - 1 < b.ty.ps.length by omega)
  have hp1 : (1 : Int) ≤ (b.ty.ps.length : Int) := by omega
  have hp7 : (b.ty.ps.length : Int) ≤ 7 := by omega
  have hnat : ((b.ty.ps.length : Int) - 1).toNat = b.ty.ps.length - 1 := by omega
  have hl6 : (b.code.length : Int) ≤ 6000 := by omega
  have HC := Lib.hid (words_any (b.ty.ps[b.ty.ps.length - 1]'(by omega)) _ _ hrep (hm.keep B0))
  generalize b.ty.ps[b.ty.ps.length - 1]'(by omega) = p at *
  clear hr hrT hP hmy h4 hmp hrep hm hlen
  have HB0 := Lib.hid B0
  clear B0
  go_enter Try.func66, Try.ntmps66
  go_wp2_with fail
  ((with_reducible refine (HC.out).mono ?_); rintro e w2 ⟨rfl, hb2⟩)
  rw [HRW.out]
  have kb := (k0.alloc (.cells #[.int .i64 0, .int .i64 0, .bool false, .int .i64 0, .int .i64 0, .bool false, .bool false] 105)).below hb2
  have kr := (Blk.nxt1 w (.cells #[.string b.nm, .bool b.static, .int .i64 b.ty.k, .string b.ty.nm, .slice An b.ty.ns.length cn, .slice (some ⟨bb, o, none⟩) b.ty.ps.length cp, .bool b.ty.many, .int .i64 b.regs, .slice A b.code.length c] 28) 105 #[.int .i64 0, .int .i64 0, .bool false, .int .i64 0, .int .i64 0, .bool false, .bool false]).below hb2
  have q8 := kb.cell 8 (.slice A b.code.length c) rfl
  have b2 := HB0.out.trans (hb2.mono HB0.out.size)
  have hlt2 := kr.lt
  have hlt3 := kb.lt
  have hne : w.heap.size + 1 ≠ w2.heap.size := by omega
  have X : Below w2.heap.size w2 (w2.alloc (.cells #[.int .i64 0, .int .i64 0, .bool true, .int .i64 0, .int .i64 ((b.code.length : Int) - 1), .bool false, .bool false] 105)) := by (repeat (first | with_reducible assumption | with_reducible exact Below.refl _ _ | (refine Below.setCell ?_ (by first | omega | (simp; done) | (simp; omega)) _) | (refine Below.drewN_ ?_ _) | (refine Below.drew ?_) | (refine Below.alloc ?_ (by first | omega | (simp; done) | (simp; omega)) _)))
  have kr3 := kr.below X
  have kb3 := kb.below X
  have kj := Blk.new_ w2 105 #[.int .i64 0, .int .i64 0, .bool true, .int .i64 0, .int .i64 ((b.code.length : Int) - 1), .bool false, .bool false]
  have b3 := b2.trans (X.mono b2.size)
  clear hc hb2 HC k0 kr kb HB0 b2 X
  go_upto_region 3 with (fail)
  generalize hw3 : w2.alloc (.cells #[.int .i64 0, .int .i64 0, .bool true, .int .i64 0, .int .i64 ((b.code.length : Int) - 1), .bool false, .bool false] 105) = w3 at *
  clear hw3 q8
  have j1 := kj.cell 1 _ rfl
  have jf := kj.free 1
  have kj' := kj.set_ 1 (.int .i64 1)
  have kr' := kr3.far (p := ⟨w2.heap.size, 1, none⟩) (by simp; omega) (.int .i64 1)
  have b3' := b3.setCell (p := ⟨w2.heap.size, 1, none⟩) (by simp; omega) (.int .i64 1)
  clear kb3
  have f := fun i => kr3.free i
  have d0 := kr3.cell 0 _ rfl
  have d1 := kr3.cell 1 _ rfl
  have d2 := kr3.cell 2 _ rfl
  have d3 := kr3.cell 3 _ rfl
  have d4 := kr3.cell 4 _ rfl
  have d5 := kr3.cell 5 _ rfl
  have d6 := kr3.cell 6 _ rfl
  have j0' := kj.cell 0 _ rfl
  have j1' := kj.cell 1 _ rfl
  have j2' := kj.cell 2 _ rfl
  have j3' := kj.cell 3 _ rfl
  have j4' := kj.cell 4 _ rfl
  have j5' := kj.cell 5 _ rfl
  have j6' := kj.cell 6 _ rfl
  go_wp2
  exact bodyPost_ret (results_row (by kernel_rfl) (kr'.set7 _ _ _ _ _ _ _) rfl rfl) rfl (of_ret (R := (⟨0, 1, true, 0, (b.code.length : Int) - 1, false, false⟩, true)) (rfl) (below_set7 b3' (by omega) _ _ _ _ _ _ _))
theorem of_11 (b : Bo) (cs : List Value) (w : World) (hr : RepB w b cs) (hm : ML w) (hmy : may b.ty = true) (h4 : b.ty.k = 4) (hlen : b.code.length ≤ 6000) :
    Calls Try.prog 66 #[.agg cs.toArray, .int .i64 11] w (OfOut b.ty b.code.length 11 w) := by
  obtain ⟨An, cn, Ap, cp, A, c, rfl, hrT, hP, -, -⟩ := hr.nine
  have hpos : 1 ≤ b.ty.ps.length := by
    have := (may_fn hmy h4).2.2.1
    rcases h : b.ty.ps with _ | ⟨a, l⟩
    · exact absurd h this
    · simp
  have h7 := may_len hmy
  have hmp := (may_size hmy _ (List.getElem_mem (show b.ty.ps.length - 1 < b.ty.ps.length by omega))).1
  have HRW : Hid (wordsT (b.ty.ps[b.ty.ps.length - 1]'(by omega)) = (resW b.ty : Int)) := by
    show _ = _
    unfold resW
    rw [last_at hpos]
    simp [wordsT, hmp]
  have k0 := (Blk.new_ w 28 #[.string b.nm, .bool b.static, .int .i64 b.ty.k, .string b.ty.nm, .slice An b.ty.ns.length cn, .slice Ap b.ty.ps.length cp, .bool b.ty.many, .int .i64 b.regs, .slice A b.code.length c])
  have B0 : Below w.heap.size w ((w.alloc (.cells #[.string b.nm, .bool b.static, .int .i64 b.ty.k, .string b.ty.nm, .slice An b.ty.ns.length cn, .slice Ap b.ty.ps.length cp, .bool b.ty.many, .int .i64 b.regs, .slice A b.code.length c] 28)).alloc (.cells #[.int .i64 0, .int .i64 0, .bool false, .int .i64 0, .int .i64 0, .bool false, .bool false] 105)) := by (repeat (first | with_reducible assumption | with_reducible exact Below.refl _ _ | (refine Below.setCell ?_ (by first | omega | (simp; done) | (simp; omega)) _) | (refine Below.drewN_ ?_ _) | (refine Below.drew ?_) | (refine Below.alloc ?_ (by first | omega | (simp; done) | (simp; omega)) _)))
  obtain ⟨bb, o, An', cn', Ap', cp', rfl, hbl, hrep, hc⟩ := (RepL.keep B0 _ _ hP).five (show b.ty.ps.length - 1 < b.ty.ps.length by omega)
  have hp1 : (1 : Int) ≤ (b.ty.ps.length : Int) := by omega
  have hp7 : (b.ty.ps.length : Int) ≤ 7 := by omega
  have hnat : ((b.ty.ps.length : Int) - 1).toNat = b.ty.ps.length - 1 := by omega
  have hl6 : (b.code.length : Int) ≤ 6000 := by omega
  have HC := Lib.hid (words_any (b.ty.ps[b.ty.ps.length - 1]'(by omega)) _ _ hrep (hm.keep B0))
  generalize b.ty.ps[b.ty.ps.length - 1]'(by omega) = p at *
  clear hr hrT hP hmy h4 hmp hrep hm hlen
  have HB0 := Lib.hid B0
  clear B0
  go_enter Try.func66, Try.ntmps66
  go_wp2_with fail
  ((with_reducible refine (HC.out).mono ?_); rintro e w2 ⟨rfl, hb2⟩)
  rw [HRW.out]
  have kb := (k0.alloc (.cells #[.int .i64 0, .int .i64 0, .bool false, .int .i64 0, .int .i64 0, .bool false, .bool false] 105)).below hb2
  have kr := (Blk.nxt1 w (.cells #[.string b.nm, .bool b.static, .int .i64 b.ty.k, .string b.ty.nm, .slice An b.ty.ns.length cn, .slice (some ⟨bb, o, none⟩) b.ty.ps.length cp, .bool b.ty.many, .int .i64 b.regs, .slice A b.code.length c] 28) 105 #[.int .i64 0, .int .i64 0, .bool false, .int .i64 0, .int .i64 0, .bool false, .bool false]).below hb2
  have q8 := kb.cell 8 (.slice A b.code.length c) rfl
  have b2 := HB0.out.trans (hb2.mono HB0.out.size)
  have hlt2 := kr.lt
  have hlt3 := kb.lt
  have hne : w.heap.size + 1 ≠ w2.heap.size := by omega
  have X : Below w2.heap.size w2 (w2.alloc (.cells #[.int .i64 0, .int .i64 0, .bool true, .int .i64 0, .int .i64 ((b.code.length : Int) - 1), .bool false, .bool false] 105)) := by (repeat (first | with_reducible assumption | with_reducible exact Below.refl _ _ | (refine Below.setCell ?_ (by first | omega | (simp; done) | (simp; omega)) _) | (refine Below.drewN_ ?_ _) | (refine Below.drew ?_) | (refine Below.alloc ?_ (by first | omega | (simp; done) | (simp; omega)) _)))
  have kr3 := kr.below X
  have kb3 := kb.below X
  have kj := Blk.new_ w2 105 #[.int .i64 0, .int .i64 0, .bool true, .int .i64 0, .int .i64 ((b.code.length : Int) - 1), .bool false, .bool false]
  have b3 := b2.trans (X.mono b2.size)
  clear hc hb2 HC k0 kr kb HB0 b2 X
  go_upto_region 3 with (fail)
  generalize hw3 : w2.alloc (.cells #[.int .i64 0, .int .i64 0, .bool true, .int .i64 0, .int .i64 ((b.code.length : Int) - 1), .bool false, .bool false] 105) = w3 at *
  clear hw3 q8
  have f := fun i => kr3.free i
  have d0 := kr3.cell 0 _ rfl
  have d1 := kr3.cell 1 _ rfl
  have d2 := kr3.cell 2 _ rfl
  have d3 := kr3.cell 3 _ rfl
  have d4 := kr3.cell 4 _ rfl
  have d5 := kr3.cell 5 _ rfl
  have d6 := kr3.cell 6 _ rfl
  go_wp2
  exact bodyPost_ret (results_row (by kernel_rfl) (kr3.set7 _ _ _ _ _ _ _) rfl rfl) rfl (of_ret (R := (⟨0, 1, false, 0, 0, false, false⟩, true)) (rfl) (below_set7 b3 (by omega) _ _ _ _ _ _ _))
theorem of_12 (b : Bo) (cs : List Value) (w : World) (hr : RepB w b cs) (hm : ML w) (hmy : may b.ty = true) (h4 : b.ty.k = 4) (hlen : b.code.length ≤ 6000) :
    Calls Try.prog 66 #[.agg cs.toArray, .int .i64 12] w (OfOut b.ty b.code.length 12 w) := by
  obtain ⟨An, cn, Ap, cp, A, c, rfl, hrT, hP, -, -⟩ := hr.nine
  have hpos : 1 ≤ b.ty.ps.length := by
    have := (may_fn hmy h4).2.2.1
    rcases h : b.ty.ps with _ | ⟨a, l⟩
    · exact absurd h this
    · simp
  have h7 := may_len hmy
  have hmp := (may_size hmy _ (List.getElem_mem (show b.ty.ps.length - 1 < b.ty.ps.length by omega))).1
  have HRW : Hid (wordsT (b.ty.ps[b.ty.ps.length - 1]'(by omega)) = (resW b.ty : Int)) := by
    show _ = _
    unfold resW
    rw [last_at hpos]
    simp [wordsT, hmp]
  have k0 := (Blk.new_ w 28 #[.string b.nm, .bool b.static, .int .i64 b.ty.k, .string b.ty.nm, .slice An b.ty.ns.length cn, .slice Ap b.ty.ps.length cp, .bool b.ty.many, .int .i64 b.regs, .slice A b.code.length c])
  have B0 : Below w.heap.size w ((w.alloc (.cells #[.string b.nm, .bool b.static, .int .i64 b.ty.k, .string b.ty.nm, .slice An b.ty.ns.length cn, .slice Ap b.ty.ps.length cp, .bool b.ty.many, .int .i64 b.regs, .slice A b.code.length c] 28)).alloc (.cells #[.int .i64 0, .int .i64 0, .bool false, .int .i64 0, .int .i64 0, .bool false, .bool false] 105)) := by (repeat (first | with_reducible assumption | with_reducible exact Below.refl _ _ | (refine Below.setCell ?_ (by first | omega | (simp; done) | (simp; omega)) _) | (refine Below.drewN_ ?_ _) | (refine Below.drew ?_) | (refine Below.alloc ?_ (by first | omega | (simp; done) | (simp; omega)) _)))
  obtain ⟨bb, o, An', cn', Ap', cp', rfl, hbl, hrep, hc⟩ := (RepL.keep B0 _ _ hP).five (show b.ty.ps.length - 1 < b.ty.ps.length by omega)
  have hp1 : (1 : Int) ≤ (b.ty.ps.length : Int) := by omega
  have hp7 : (b.ty.ps.length : Int) ≤ 7 := by omega
  have hnat : ((b.ty.ps.length : Int) - 1).toNat = b.ty.ps.length - 1 := by omega
  have hl6 : (b.code.length : Int) ≤ 6000 := by omega
  have HC := Lib.hid (words_any (b.ty.ps[b.ty.ps.length - 1]'(by omega)) _ _ hrep (hm.keep B0))
  generalize b.ty.ps[b.ty.ps.length - 1]'(by omega) = p at *
  clear hr hrT hP hmy h4 hmp hrep hm hlen
  have HB0 := Lib.hid B0
  clear B0
  go_enter Try.func66, Try.ntmps66
  go_wp2_with fail
  ((with_reducible refine (HC.out).mono ?_); rintro e w2 ⟨rfl, hb2⟩)
  rw [HRW.out]
  have kb := (k0.alloc (.cells #[.int .i64 0, .int .i64 0, .bool false, .int .i64 0, .int .i64 0, .bool false, .bool false] 105)).below hb2
  have kr := (Blk.nxt1 w (.cells #[.string b.nm, .bool b.static, .int .i64 b.ty.k, .string b.ty.nm, .slice An b.ty.ns.length cn, .slice (some ⟨bb, o, none⟩) b.ty.ps.length cp, .bool b.ty.many, .int .i64 b.regs, .slice A b.code.length c] 28) 105 #[.int .i64 0, .int .i64 0, .bool false, .int .i64 0, .int .i64 0, .bool false, .bool false]).below hb2
  have q8 := kb.cell 8 (.slice A b.code.length c) rfl
  have b2 := HB0.out.trans (hb2.mono HB0.out.size)
  have hlt2 := kr.lt
  have hlt3 := kb.lt
  have hne : w.heap.size + 1 ≠ w2.heap.size := by omega
  have X : Below w2.heap.size w2 (w2.alloc (.cells #[.int .i64 0, .int .i64 0, .bool true, .int .i64 0, .int .i64 ((b.code.length : Int) - 1), .bool false, .bool false] 105)) := by (repeat (first | with_reducible assumption | with_reducible exact Below.refl _ _ | (refine Below.setCell ?_ (by first | omega | (simp; done) | (simp; omega)) _) | (refine Below.drewN_ ?_ _) | (refine Below.drew ?_) | (refine Below.alloc ?_ (by first | omega | (simp; done) | (simp; omega)) _)))
  have kr3 := kr.below X
  have kb3 := kb.below X
  have kj := Blk.new_ w2 105 #[.int .i64 0, .int .i64 0, .bool true, .int .i64 0, .int .i64 ((b.code.length : Int) - 1), .bool false, .bool false]
  have b3 := b2.trans (X.mono b2.size)
  clear hc hb2 HC k0 kr kb HB0 b2 X
  go_upto_region 3 with (fail)
  generalize hw3 : w2.alloc (.cells #[.int .i64 0, .int .i64 0, .bool true, .int .i64 0, .int .i64 ((b.code.length : Int) - 1), .bool false, .bool false] 105) = w3 at *
  clear hw3 q8
  have f := fun i => kr3.free i
  have d0 := kr3.cell 0 _ rfl
  have d1 := kr3.cell 1 _ rfl
  have d2 := kr3.cell 2 _ rfl
  have d3 := kr3.cell 3 _ rfl
  have d4 := kr3.cell 4 _ rfl
  have d5 := kr3.cell 5 _ rfl
  have d6 := kr3.cell 6 _ rfl
  go_wp2
  exact bodyPost_ret (results_row (by kernel_rfl) (kr3.set7 _ _ _ _ _ _ _) rfl rfl) rfl (of_ret (R := (⟨0, (resW b.ty : Int), false, 0, 0, false, false⟩, true)) (rfl) (below_set7 b3 (by omega) _ _ _ _ _ _ _))
theorem of_13 (b : Bo) (cs : List Value) (w : World) (hr : RepB w b cs) (hm : ML w) (hmy : may b.ty = true) (h4 : b.ty.k = 4) (hlen : b.code.length ≤ 6000) :
    Calls Try.prog 66 #[.agg cs.toArray, .int .i64 13] w (OfOut b.ty b.code.length 13 w) := by
  obtain ⟨An, cn, Ap, cp, A, c, rfl, hrT, hP, -, -⟩ := hr.nine
  have hpos : 1 ≤ b.ty.ps.length := by
    have := (may_fn hmy h4).2.2.1
    rcases h : b.ty.ps with _ | ⟨a, l⟩
    · exact absurd h this
    · simp
  have h7 := may_len hmy
  have hmp := (may_size hmy _ (List.getElem_mem (show b.ty.ps.length - 1 < b.ty.ps.length by omega))).1
  have HRW : Hid (wordsT (b.ty.ps[b.ty.ps.length - 1]'(by omega)) = (resW b.ty : Int)) := by
    show _ = _
    unfold resW
    rw [last_at hpos]
    simp [wordsT, hmp]
  have k0 := (Blk.new_ w 28 #[.string b.nm, .bool b.static, .int .i64 b.ty.k, .string b.ty.nm, .slice An b.ty.ns.length cn, .slice Ap b.ty.ps.length cp, .bool b.ty.many, .int .i64 b.regs, .slice A b.code.length c])
  have B0 : Below w.heap.size w ((w.alloc (.cells #[.string b.nm, .bool b.static, .int .i64 b.ty.k, .string b.ty.nm, .slice An b.ty.ns.length cn, .slice Ap b.ty.ps.length cp, .bool b.ty.many, .int .i64 b.regs, .slice A b.code.length c] 28)).alloc (.cells #[.int .i64 0, .int .i64 0, .bool false, .int .i64 0, .int .i64 0, .bool false, .bool false] 105)) := by (repeat (first | with_reducible assumption | with_reducible exact Below.refl _ _ | (refine Below.setCell ?_ (by first | omega | (simp; done) | (simp; omega)) _) | (refine Below.drewN_ ?_ _) | (refine Below.drew ?_) | (refine Below.alloc ?_ (by first | omega | (simp; done) | (simp; omega)) _)))
  obtain ⟨bb, o, An', cn', Ap', cp', rfl, hbl, hrep, hc⟩ := (RepL.keep B0 _ _ hP).five (show b.ty.ps.length - 1 < b.ty.ps.length by omega)
  have hp1 : (1 : Int) ≤ (b.ty.ps.length : Int) := by omega
  have hp7 : (b.ty.ps.length : Int) ≤ 7 := by omega
  have hnat : ((b.ty.ps.length : Int) - 1).toNat = b.ty.ps.length - 1 := by omega
  have hl6 : (b.code.length : Int) ≤ 6000 := by omega
  have HC := Lib.hid (words_any (b.ty.ps[b.ty.ps.length - 1]'(by omega)) _ _ hrep (hm.keep B0))
  generalize b.ty.ps[b.ty.ps.length - 1]'(by omega) = p at *
  clear hr hrT hP hmy h4 hmp hrep hm hlen
  have HB0 := Lib.hid B0
  clear B0
  go_enter Try.func66, Try.ntmps66
  go_wp2_with fail
  ((with_reducible refine (HC.out).mono ?_); rintro e w2 ⟨rfl, hb2⟩)
  rw [HRW.out]
  have kb := (k0.alloc (.cells #[.int .i64 0, .int .i64 0, .bool false, .int .i64 0, .int .i64 0, .bool false, .bool false] 105)).below hb2
  have kr := (Blk.nxt1 w (.cells #[.string b.nm, .bool b.static, .int .i64 b.ty.k, .string b.ty.nm, .slice An b.ty.ns.length cn, .slice (some ⟨bb, o, none⟩) b.ty.ps.length cp, .bool b.ty.many, .int .i64 b.regs, .slice A b.code.length c] 28) 105 #[.int .i64 0, .int .i64 0, .bool false, .int .i64 0, .int .i64 0, .bool false, .bool false]).below hb2
  have q8 := kb.cell 8 (.slice A b.code.length c) rfl
  have b2 := HB0.out.trans (hb2.mono HB0.out.size)
  have hlt2 := kr.lt
  have hlt3 := kb.lt
  have hne : w.heap.size + 1 ≠ w2.heap.size := by omega
  have X : Below w2.heap.size w2 (w2.alloc (.cells #[.int .i64 0, .int .i64 0, .bool true, .int .i64 0, .int .i64 ((b.code.length : Int) - 1), .bool false, .bool false] 105)) := by (repeat (first | with_reducible assumption | with_reducible exact Below.refl _ _ | (refine Below.setCell ?_ (by first | omega | (simp; done) | (simp; omega)) _) | (refine Below.drewN_ ?_ _) | (refine Below.drew ?_) | (refine Below.alloc ?_ (by first | omega | (simp; done) | (simp; omega)) _)))
  have kr3 := kr.below X
  have kb3 := kb.below X
  have kj := Blk.new_ w2 105 #[.int .i64 0, .int .i64 0, .bool true, .int .i64 0, .int .i64 ((b.code.length : Int) - 1), .bool false, .bool false]
  have b3 := b2.trans (X.mono b2.size)
  clear hc hb2 HC k0 kr kb HB0 b2 X
  go_upto_region 3 with (fail)
  generalize hw3 : w2.alloc (.cells #[.int .i64 0, .int .i64 0, .bool true, .int .i64 0, .int .i64 ((b.code.length : Int) - 1), .bool false, .bool false] 105) = w3 at *
  clear hw3 q8
  have f := fun i => kr3.free i
  have d0 := kr3.cell 0 _ rfl
  have d1 := kr3.cell 1 _ rfl
  have d2 := kr3.cell 2 _ rfl
  have d3 := kr3.cell 3 _ rfl
  have d4 := kr3.cell 4 _ rfl
  have d5 := kr3.cell 5 _ rfl
  have d6 := kr3.cell 6 _ rfl
  have q6 := kb3.cell 6 (.bool b.ty.many) rfl
  go_wp2
  go_region
  all_goals
    go_wp2
    refine bodyPost_ret (v := .tuple #[.agg #[.int .i64 1, .int .i64 0, .bool false, .int .i64 0, .int .i64 0, .bool false, .bool false], .bool b.ty.many]) ?_ rfl ?_
    · refine results_row (by kernel_rfl) ?_ rfl rfl
      exact (kr3.set7 (.int .i64 1) (.int .i64 0) (.bool false) (.int .i64 0) (.int .i64 0) (.bool false) (.bool false)).drew1
    · refine of_ret (R := (⟨1, 0, false, 0, 0, false, false⟩, b.ty.many)) rfl ?_
      exact (below_set7 b3 (by omega) (.int .i64 1) (.int .i64 0) (.bool false) (.int .i64 0) (.int .i64 0) (.bool false) (.bool false)).drew
theorem of_14 (b : Bo) (cs : List Value) (w : World) (hr : RepB w b cs) (hm : ML w) (hmy : may b.ty = true) (h4 : b.ty.k = 4) (hlen : b.code.length ≤ 6000) :
    Calls Try.prog 66 #[.agg cs.toArray, .int .i64 14] w (OfOut b.ty b.code.length 14 w) := by
  obtain ⟨An, cn, Ap, cp, A, c, rfl, hrT, hP, -, -⟩ := hr.nine
  have hpos : 1 ≤ b.ty.ps.length := by
    have := (may_fn hmy h4).2.2.1
    rcases h : b.ty.ps with _ | ⟨a, l⟩
    · exact absurd h this
    · simp
  have h7 := may_len hmy
  have hmp := (may_size hmy _ (List.getElem_mem (show b.ty.ps.length - 1 < b.ty.ps.length by omega))).1
  have HRW : Hid (wordsT (b.ty.ps[b.ty.ps.length - 1]'(by omega)) = (resW b.ty : Int)) := by
    show _ = _
    unfold resW
    rw [last_at hpos]
    simp [wordsT, hmp]
  have k0 := (Blk.new_ w 28 #[.string b.nm, .bool b.static, .int .i64 b.ty.k, .string b.ty.nm, .slice An b.ty.ns.length cn, .slice Ap b.ty.ps.length cp, .bool b.ty.many, .int .i64 b.regs, .slice A b.code.length c])
  have B0 : Below w.heap.size w ((w.alloc (.cells #[.string b.nm, .bool b.static, .int .i64 b.ty.k, .string b.ty.nm, .slice An b.ty.ns.length cn, .slice Ap b.ty.ps.length cp, .bool b.ty.many, .int .i64 b.regs, .slice A b.code.length c] 28)).alloc (.cells #[.int .i64 0, .int .i64 0, .bool false, .int .i64 0, .int .i64 0, .bool false, .bool false] 105)) := by (repeat (first | with_reducible assumption | with_reducible exact Below.refl _ _ | (refine Below.setCell ?_ (by first | omega | (simp; done) | (simp; omega)) _) | (refine Below.drewN_ ?_ _) | (refine Below.drew ?_) | (refine Below.alloc ?_ (by first | omega | (simp; done) | (simp; omega)) _)))
  obtain ⟨bb, o, An', cn', Ap', cp', rfl, hbl, hrep, hc⟩ := (RepL.keep B0 _ _ hP).five (show b.ty.ps.length - 1 < b.ty.ps.length by omega)
  have hp1 : (1 : Int) ≤ (b.ty.ps.length : Int) := by omega
  have hp7 : (b.ty.ps.length : Int) ≤ 7 := by omega
  have hnat : ((b.ty.ps.length : Int) - 1).toNat = b.ty.ps.length - 1 := by omega
  have hl6 : (b.code.length : Int) ≤ 6000 := by omega
  have HC := Lib.hid (words_any (b.ty.ps[b.ty.ps.length - 1]'(by omega)) _ _ hrep (hm.keep B0))
  generalize b.ty.ps[b.ty.ps.length - 1]'(by omega) = p at *
  clear hr hrT hP hmy h4 hmp hrep hm hlen
  have HB0 := Lib.hid B0
  clear B0
  go_enter Try.func66, Try.ntmps66
  go_wp2_with fail
  ((with_reducible refine (HC.out).mono ?_); rintro e w2 ⟨rfl, hb2⟩)
  rw [HRW.out]
  have kb := (k0.alloc (.cells #[.int .i64 0, .int .i64 0, .bool false, .int .i64 0, .int .i64 0, .bool false, .bool false] 105)).below hb2
  have kr := (Blk.nxt1 w (.cells #[.string b.nm, .bool b.static, .int .i64 b.ty.k, .string b.ty.nm, .slice An b.ty.ns.length cn, .slice (some ⟨bb, o, none⟩) b.ty.ps.length cp, .bool b.ty.many, .int .i64 b.regs, .slice A b.code.length c] 28) 105 #[.int .i64 0, .int .i64 0, .bool false, .int .i64 0, .int .i64 0, .bool false, .bool false]).below hb2
  have q8 := kb.cell 8 (.slice A b.code.length c) rfl
  have b2 := HB0.out.trans (hb2.mono HB0.out.size)
  have hlt2 := kr.lt
  have hlt3 := kb.lt
  have hne : w.heap.size + 1 ≠ w2.heap.size := by omega
  have X : Below w2.heap.size w2 (w2.alloc (.cells #[.int .i64 0, .int .i64 0, .bool true, .int .i64 0, .int .i64 ((b.code.length : Int) - 1), .bool false, .bool false] 105)) := by (repeat (first | with_reducible assumption | with_reducible exact Below.refl _ _ | (refine Below.setCell ?_ (by first | omega | (simp; done) | (simp; omega)) _) | (refine Below.drewN_ ?_ _) | (refine Below.drew ?_) | (refine Below.alloc ?_ (by first | omega | (simp; done) | (simp; omega)) _)))
  have kr3 := kr.below X
  have kb3 := kb.below X
  have kj := Blk.new_ w2 105 #[.int .i64 0, .int .i64 0, .bool true, .int .i64 0, .int .i64 ((b.code.length : Int) - 1), .bool false, .bool false]
  have b3 := b2.trans (X.mono b2.size)
  clear hc hb2 HC k0 kr kb HB0 b2 X
  go_upto_region 3 with (fail)
  generalize hw3 : w2.alloc (.cells #[.int .i64 0, .int .i64 0, .bool true, .int .i64 0, .int .i64 ((b.code.length : Int) - 1), .bool false, .bool false] 105) = w3 at *
  clear hw3 q8
  have f := fun i => kr3.free i
  have d0 := kr3.cell 0 _ rfl
  have d1 := kr3.cell 1 _ rfl
  have d2 := kr3.cell 2 _ rfl
  have d3 := kr3.cell 3 _ rfl
  have d4 := kr3.cell 4 _ rfl
  have d5 := kr3.cell 5 _ rfl
  have d6 := kr3.cell 6 _ rfl
  have q6 := kb3.cell 6 (.bool b.ty.many) rfl
  go_wp2
  go_region
  all_goals
    go_wp2
    refine bodyPost_ret (v := .tuple #[.agg #[.int .i64 1, .int .i64 1, .bool false, .int .i64 0, .int .i64 0, .bool false, .bool false], .bool b.ty.many]) ?_ rfl ?_
    · refine results_row (by kernel_rfl) ?_ rfl rfl
      exact (kr3.set7 (.int .i64 1) (.int .i64 1) (.bool false) (.int .i64 0) (.int .i64 0) (.bool false) (.bool false)).drew1
    · refine of_ret (R := (⟨1, 1, false, 0, 0, false, false⟩, b.ty.many)) rfl ?_
      exact (below_set7 b3 (by omega) (.int .i64 1) (.int .i64 1) (.bool false) (.int .i64 0) (.int .i64 0) (.bool false) (.bool false)).drew
theorem of_0 (b : Bo) (cs : List Value) (op : Int) (h : ∀ k : Int, 1 ≤ k → k ≤ 14 → op ≠ k) (w : World) (hr : RepB w b cs) (hm : ML w) (hmy : may b.ty = true) (h4 : b.ty.k = 4) (hlen : b.code.length ≤ 6000) :
    Calls Try.prog 66 #[.agg cs.toArray, .int .i64 op] w (OfOut b.ty b.code.length op w) := by
  obtain ⟨An, cn, Ap, cp, A, c, rfl, hrT, hP, -, -⟩ := hr.nine
  have hpos : 1 ≤ b.ty.ps.length := by
    have := (may_fn hmy h4).2.2.1
    rcases h : b.ty.ps with _ | ⟨a, l⟩
    · exact absurd h this
    · simp
  have h7 := may_len hmy
  have hmp := (may_size hmy _ (List.getElem_mem (show b.ty.ps.length - 1 < b.ty.ps.length by omega))).1
  have HRW : Hid (wordsT (b.ty.ps[b.ty.ps.length - 1]'(by omega)) = (resW b.ty : Int)) := by
    show _ = _
    unfold resW
    rw [last_at hpos]
    simp [wordsT, hmp]
  have k0 := (Blk.new_ w 28 #[.string b.nm, .bool b.static, .int .i64 b.ty.k, .string b.ty.nm, .slice An b.ty.ns.length cn, .slice Ap b.ty.ps.length cp, .bool b.ty.many, .int .i64 b.regs, .slice A b.code.length c])
  have B0 : Below w.heap.size w ((w.alloc (.cells #[.string b.nm, .bool b.static, .int .i64 b.ty.k, .string b.ty.nm, .slice An b.ty.ns.length cn, .slice Ap b.ty.ps.length cp, .bool b.ty.many, .int .i64 b.regs, .slice A b.code.length c] 28)).alloc (.cells #[.int .i64 0, .int .i64 0, .bool false, .int .i64 0, .int .i64 0, .bool false, .bool false] 105)) := by (repeat (first | with_reducible assumption | with_reducible exact Below.refl _ _ | (refine Below.setCell ?_ (by first | omega | (simp; done) | (simp; omega)) _) | (refine Below.drewN_ ?_ _) | (refine Below.drew ?_) | (refine Below.alloc ?_ (by first | omega | (simp; done) | (simp; omega)) _)))
  obtain ⟨bb, o, An', cn', Ap', cp', rfl, hbl, hrep, hc⟩ := (RepL.keep B0 _ _ hP).five (show b.ty.ps.length - 1 < b.ty.ps.length by omega)
  have hp1 : (1 : Int) ≤ (b.ty.ps.length : Int) := by omega
  have hp7 : (b.ty.ps.length : Int) ≤ 7 := by omega
  have hnat : ((b.ty.ps.length : Int) - 1).toNat = b.ty.ps.length - 1 := by omega
  have hl6 : (b.code.length : Int) ≤ 6000 := by omega
  have HC := Lib.hid (words_any (b.ty.ps[b.ty.ps.length - 1]'(by omega)) _ _ hrep (hm.keep B0))
  generalize b.ty.ps[b.ty.ps.length - 1]'(by omega) = p at *
  clear hr hrT hP hmy h4 hmp hrep hm hlen
  have HB0 := Lib.hid B0
  clear B0
  have H := Lib.hid h
  have g1 : (op == 1) = false := by simpa using h 1 (by omega) (by omega)
  have g2 : (op == 2) = false := by simpa using h 2 (by omega) (by omega)
  have g3 : (op == 3) = false := by simpa using h 3 (by omega) (by omega)
  have g4 : (op == 4) = false := by simpa using h 4 (by omega) (by omega)
  have g5 : (op == 5) = false := by simpa using h 5 (by omega) (by omega)
  have g6 : (op == 6) = false := by simpa using h 6 (by omega) (by omega)
  have g7 : (op == 7) = false := by simpa using h 7 (by omega) (by omega)
  have g8 : (op == 8) = false := by simpa using h 8 (by omega) (by omega)
  have g9 : (op == 9) = false := by simpa using h 9 (by omega) (by omega)
  have g10 : (op == 10) = false := by simpa using h 10 (by omega) (by omega)
  have g11 : (op == 11) = false := by simpa using h 11 (by omega) (by omega)
  have g12 : (op == 12) = false := by simpa using h 12 (by omega) (by omega)
  have g13 : (op == 13) = false := by simpa using h 13 (by omega) (by omega)
  have g14 : (op == 14) = false := by simpa using h 14 (by omega) (by omega)
  clear h
  go_enter Try.func66, Try.ntmps66
  go_wp2_with fail
  ((with_reducible refine (HC.out).mono ?_); rintro e w2 ⟨rfl, hb2⟩)
  rw [HRW.out]
  have kb := (k0.alloc (.cells #[.int .i64 0, .int .i64 0, .bool false, .int .i64 0, .int .i64 0, .bool false, .bool false] 105)).below hb2
  have kr := (Blk.nxt1 w (.cells #[.string b.nm, .bool b.static, .int .i64 b.ty.k, .string b.ty.nm, .slice An b.ty.ns.length cn, .slice (some ⟨bb, o, none⟩) b.ty.ps.length cp, .bool b.ty.many, .int .i64 b.regs, .slice A b.code.length c] 28) 105 #[.int .i64 0, .int .i64 0, .bool false, .int .i64 0, .int .i64 0, .bool false, .bool false]).below hb2
  have q8 := kb.cell 8 (.slice A b.code.length c) rfl
  have b2 := HB0.out.trans (hb2.mono HB0.out.size)
  have hlt2 := kr.lt
  have hlt3 := kb.lt
  have hne : w.heap.size + 1 ≠ w2.heap.size := by omega
  have X : Below w2.heap.size w2 (w2.alloc (.cells #[.int .i64 0, .int .i64 0, .bool true, .int .i64 0, .int .i64 ((b.code.length : Int) - 1), .bool false, .bool false] 105)) := by (repeat (first | with_reducible assumption | with_reducible exact Below.refl _ _ | (refine Below.setCell ?_ (by first | omega | (simp; done) | (simp; omega)) _) | (refine Below.drewN_ ?_ _) | (refine Below.drew ?_) | (refine Below.alloc ?_ (by first | omega | (simp; done) | (simp; omega)) _)))
  have kr3 := kr.below X
  have kb3 := kb.below X
  have kj := Blk.new_ w2 105 #[.int .i64 0, .int .i64 0, .bool true, .int .i64 0, .int .i64 ((b.code.length : Int) - 1), .bool false, .bool false]
  have b3 := b2.trans (X.mono b2.size)
  clear hc hb2 HC k0 kr kb HB0 b2 X
  go_upto_region 3 with (fail)
  generalize hw3 : w2.alloc (.cells #[.int .i64 0, .int .i64 0, .bool true, .int .i64 0, .int .i64 ((b.code.length : Int) - 1), .bool false, .bool false] 105) = w3 at *
  clear hw3 q8
  have f := fun i => kr3.free i
  have d0 := kr3.cell 0 _ rfl
  have d1 := kr3.cell 1 _ rfl
  have d2 := kr3.cell 2 _ rfl
  have d3 := kr3.cell 3 _ rfl
  have d4 := kr3.cell 4 _ rfl
  have d5 := kr3.cell 5 _ rfl
  have d6 := kr3.cell 6 _ rfl
  go_wp2
  exact bodyPost_ret (results_row (by kernel_rfl) (kr3.set7 _ _ _ _ _ _ _) rfl rfl) rfl (of_ret (R := (⟨0, 0, false, 0, 0, false, false⟩, false)) (row_else _ _ H.out) (below_set7 b3 (by omega) _ _ _ _ _ _ _))
theorem of_any (b : Bo) (cs : List Value) (op : Int) (w : World) (hr : RepB w b cs) (hm : ML w) (hmy : may b.ty = true) (h4 : b.ty.k = 4) (hlen : b.code.length ≤ 6000) :
    Calls Try.prog 66 #[.agg cs.toArray, .int .i64 op] w (OfOut b.ty b.code.length op w) := by
  by_cases e1 : op = 1
  · subst e1; exact of_1 b cs w hr hm hmy h4 hlen
  by_cases e2 : op = 2
  · subst e2; exact of_2 b cs w hr hm hmy h4 hlen
  by_cases e3 : op = 3
  · subst e3; exact of_3 b cs w hr hm hmy h4 hlen
  by_cases e4 : op = 4
  · subst e4; exact of_4 b cs w hr hm hmy h4 hlen
  by_cases e5 : op = 5
  · subst e5; exact of_5 b cs w hr hm hmy h4 hlen
  by_cases e6 : op = 6
  · subst e6; exact of_6 b cs w hr hm hmy h4 hlen
  by_cases e7 : op = 7
  · subst e7; exact of_7 b cs w hr hm hmy h4 hlen
  by_cases e8 : op = 8
  · subst e8; exact of_8 b cs w hr hm hmy h4 hlen
  by_cases e9 : op = 9
  · subst e9; exact of_9 b cs w hr hm hmy h4 hlen
  by_cases e10 : op = 10
  · subst e10; exact of_10 b cs w hr hm hmy h4 hlen
  by_cases e11 : op = 11
  · subst e11; exact of_11 b cs w hr hm hmy h4 hlen
  by_cases e12 : op = 12
  · subst e12; exact of_12 b cs w hr hm hmy h4 hlen
  by_cases e13 : op = 13
  · subst e13; exact of_13 b cs w hr hm hmy h4 hlen
  by_cases e14 : op = 14
  · subst e14; exact of_14 b cs w hr hm hmy h4 hlen
  exact of_0 b cs op (fun k h0 h9 e => by omega) w hr hm hmy h4 hlen
end Go.Proofs.Ytkkjkbljgaipcaa
