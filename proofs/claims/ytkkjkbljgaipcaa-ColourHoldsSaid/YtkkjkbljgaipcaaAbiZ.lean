/- The walk of abi.Places: what is wrong. -/
import Derived.Test.YtkkjkbljgaipcaaAbiY
import Derived.Test.YtkkjkbljgaipcaaRefB
namespace Go.Proofs.Ytkkjkbljgaipcaa
open Go.RowKit
set_option linter.unusedVariables false
set_option linter.unusedSimpArgs false
set_option maxRecDepth 100000
set_option maxHeartbeats 4000000
def PlOut (T : Ty) (bs : List Ty) (w : World) (e : Ending) (w' : World) : Prop := ∃ cs, e = .returned (.tuple #[.agg cs, .int .i64 (abiE T bs)]) ∧ PlcAt w' cs (abiV T bs) ∧ Below w.heap.size w w'
theorem abiV_bad {T : Ty} {bs : List Ty} (h : abiE T bs ≠ 0) : abiV T bs = Plc.zero := by unfold abiV; rw [if_neg h]
def zeroP : Array Value := #[.int .i64 0, .int .i64 0, .slice none 0 0, .slice none 0 0, .slice none 0 0, .int .i64 0, .int .i64 0]
theorem PlOut.bad {T : Ty} {bs : List Ty} {w w' : World} {x : Int} (h : abiE T bs = x) (hx : x ≠ 0) (hb : Below w.heap.size w w') : PlOut T bs w (.returned (.tuple #[.agg zeroP, .int .i64 x])) w' :=
  ⟨zeroP, by rw [h], by rw [abiV_bad (by rw [h]; exact hx)]; exact PlcAt.zero _, hb⟩
theorem Blk.nxt1 (w : World) (o : Obj) (t : TypeId) (cs : Array Value) : Blk ((w.alloc o).alloc (.cells cs t)) (w.heap.size + 1) t cs := by
  have := Blk.new_ (w.alloc o) t cs
  simpa using this
theorem Blk.set7 {w : World} {b : Nat} {t : TypeId} {a0 a1 a2 a3 a4 a5 a6 : Value} (h : Blk w b t #[a0, a1, a2, a3, a4, a5, a6]) (b0 b1 b2 b3 b4 b5 b6 : Value) :
    Blk (((((((w.setCell ⟨b, 0, none⟩ b0).setCell ⟨b, 1, none⟩ b1).setCell ⟨b, 2, none⟩ b2).setCell ⟨b, 3, none⟩ b3).setCell ⟨b, 4, none⟩ b4).setCell ⟨b, 5, none⟩ b5).setCell ⟨b, 6, none⟩ b6) b t #[b0, b1, b2, b3, b4, b5, b6] := by
  have := ((((((h.set_ 0 b0).set_ 1 b1).set_ 2 b2).set_ 3 b3).set_ 4 b4).set_ 5 b5).set_ 6 b6
  simpa using this
theorem below_set7 {B : Nat} {u w : World} {b : Nat} (h : Below B u w) (hB : B ≤ b) (b0 b1 b2 b3 b4 b5 b6 : Value) :
    Below B u (((((((w.setCell ⟨b, 0, none⟩ b0).setCell ⟨b, 1, none⟩ b1).setCell ⟨b, 2, none⟩ b2).setCell ⟨b, 3, none⟩ b3).setCell ⟨b, 4, none⟩ b4).setCell ⟨b, 5, none⟩ b5).setCell ⟨b, 6, none⟩ b6) :=
  ((((((h.setCell (p := ⟨b, 0, none⟩) hB _).setCell (p := ⟨b, 1, none⟩) hB _).setCell (p := ⟨b, 2, none⟩) hB _).setCell (p := ⟨b, 3, none⟩) hB _).setCell (p := ⟨b, 4, none⟩) hB _).setCell (p := ⟨b, 5, none⟩) hB _).setCell (p := ⟨b, 6, none⟩) hB _
theorem results_places {fn : Func} (h : fn.results = #[.cell 4 67, .tmp 5]) {w : World} {b : Nat} {a0 a1 a2 a3 a4 a5 a6 x : Value} {tmps : Array Value} (k : Blk w b 67 #[a0, a1, a2, a3, a4, a5, a6]) (h4 : tmps.getD 4 undef = .pointer (some ⟨b, 0, none⟩)) (h5 : tmps.getD 5 undef = x) :
    (results fn tmps).run Try.prog w = .ok (.tuple #[.agg #[a0, a1, a2, a3, a4, a5, a6], x]) w := by
  have c0 := k.cell 0 _ rfl
  have c1 := k.cell 1 _ rfl
  have c2 := k.cell 2 _ rfl
  have c3 := k.cell 3 _ rfl
  have c4 := k.cell 4 _ rfl
  have c5 := k.cell 5 _ rfl
  have c6 := k.cell 6 _ rfl
  simp at c0 c1 c2 c3 c4 c5 c6
  simp only [Array.getD_eq_getD_getElem?] at h4 h5
  simp [results, h, go_sem, h4, h5, c0, c1, c2, c3, c4, c5, c6]
theorem abiP_kind (T : Ty) (cs : List Value) (bs : List Ty) (Ab : Option Addr) (cb : Nat) (w : World) (hr : Rep w T cs) (h4 : T.k ≠ 4) : Calls Try.prog 24 #[.agg cs.toArray, .slice Ab bs.length cb] w (PlOut T bs w) := by
  obtain ⟨An, cn, Ap, cp, rfl, hN, hP⟩ := hr.five
  have he : abiE T bs = 3 := by unfold abiE; rw [if_pos (.inl h4)]
  have t1 : (T.k != 4) = true := by simpa using h4
  have HE := Lib.hid he
  clear he
  go_enter Try.func24, Try.ntmps24
  go_wp2
  exact bodyPost_ret (v := .tuple #[.agg zeroP, .int .i64 3]) (by simp [results, Try.results24, go_sem, zeroP]) rfl (PlOut.bad HE.out (by decide) (by (repeat (first | with_reducible assumption | with_reducible exact Below.refl _ _ | (refine Below.setCell ?_ (by first | omega | (simp; done) | (simp; omega)) _) | (refine Below.drewN_ ?_ _) | (refine Below.drew ?_) | (refine Below.alloc ?_ (by first | omega | (simp; done) | (simp; omega)) _)))))
theorem abiP_may (T : Ty) (cs : List Value) (bs : List Ty) (Ab : Option Addr) (cb : Nat) (w : World) (hr : Rep w T cs) (hm : ML w) (h4 : T.k = 4) (hmy : may T = false) : Calls Try.prog 24 #[.agg cs.toArray, .slice Ab bs.length cb] w (PlOut T bs w) := by
  have hr0 := hr
  obtain ⟨An, cn, Ap, cp, rfl, hN, hP⟩ := hr.five
  have he : Hid (abiE T bs = 3) := by show _ = _; unfold abiE; rw [if_pos (.inr hmy)]
  have hb0 : Below w.heap.size w ((w.alloc (.cells #[.int .i64 T.k, .string T.nm, .slice An T.ns.length cn, .slice Ap T.ps.length cp, .bool T.many] 25)).alloc (.cells zeroP 67)) := by (repeat (first | with_reducible assumption | with_reducible exact Below.refl _ _ | (refine Below.setCell ?_ (by first | omega | (simp; done) | (simp; omega)) _) | (refine Below.drewN_ ?_ _) | (refine Below.drew ?_) | (refine Below.alloc ?_ (by first | omega | (simp; done) | (simp; omega)) _)))
  have HR := Lib.hid (Rep.keep hb0 _ _ hr0)
  have HM := Lib.hid (hm.keep hb0)
  unfold zeroP at hb0 HR HM
  rw [h4] at hb0 HR HM ⊢
  clear hr hr0 h4
  go_enter Try.func24, Try.ntmps24
  go_wp2_with fail
  refine (may_any T _ _ HR.out HM.out).mono ?_
  rintro e w1 ⟨rfl, hb⟩
  rw [hmy]
  have b1 := hb0.trans (hb.mono hb0.size)
  have k1 := (Blk.nxt1 w (.cells #[.int .i64 4, .string T.nm, .slice An T.ns.length cn, .slice Ap T.ps.length cp, .bool T.many] 25) 67 zeroP).below hb
  unfold zeroP at k1
  have f := fun i => k1.free i
  have c0 := k1.cell 0 _ rfl
  have c1 := k1.cell 1 _ rfl
  have c2 := k1.cell 2 _ rfl
  have c3 := k1.cell 3 _ rfl
  have c4 := k1.cell 4 _ rfl
  have c5 := k1.cell 5 _ rfl
  have c6 := k1.cell 6 _ rfl
  go_wp2
  have k2 := k1.set7 (.int .i64 0) (.int .i64 0) (.slice none 0 0) (.slice none 0 0) (.slice none 0 0) (.int .i64 0) (.int .i64 0)
  exact bodyPost_ret (results_places (by kernel_rfl) k2 rfl rfl) rfl (PlOut.bad he.out (by decide) (below_set7 b1 (by omega) _ _ _ _ _ _ _))
end Go.Proofs.Ytkkjkbljgaipcaa
