/- The state of abi.Places behind its first loops: what stays where one block turns. -/
import Derived.Test.YtkkjkbljgaipcaaAbiZ
namespace Go.Proofs.Ytkkjkbljgaipcaa
open Go.RowKit
set_option linter.unusedVariables false
set_option linter.unusedSimpArgs false
set_option maxRecDepth 100000
def nat64 (n : Nat) : Value := .int .i64 (n : Int)
structure AbiSt (w : World) (H G P : Nat) (tt ps : Array Value) (g : Gv) (v1 v2 v3 : Value) (n n3 : Nat) (vs : List Value) (ls : List (List Pl)) (cs : List Bool) (ns : List Nat) (wx : World) : Prop where
  hH : w.heap.size ≤ H
  hG : H + 1 < G
  hP : G + 1 < P
  kp : Blk wx P 67 ps
  o1 : wx.ownsRow w.heap.size 29 1 v1 n vs
  o2 : wx.ownsRow w.heap.size 4 1 v2 n (cs.map .bool)
  o3 : wx.ownsRow w.heap.size 3 1 v3 n3 (ns.map nat64)
  sl : SlOk wx none vs ls
  gv : Blk wx G 86 #[.int .i64 (g.r : Int), .int .i64 (g.p : Int)]
  gp : Blk wx (G + 1) 84 #[.pointer (some ⟨G, 0, none⟩)]
  kt : Blk wx H 25 tt
  kr : Blk wx (H + 1) 67 zeroP
  bb : Below w.heap.size w wx
section
variable {w : World} {H G P : Nat} {tt ps : Array Value} {g : Gv} {v1 v2 v3 : Value} {n n3 : Nat} {vs : List Value} {ls : List (List Pl)} {cs : List Bool} {ns : List Nat} {wx : World}
theorem AbiSt.size (h : AbiSt w H G P tt ps g v1 v2 v3 n n3 vs ls cs ns wx) : w.heap.size ≤ wx.heap.size := h.bb.size
theorem AbiSt.below (h : AbiSt w H G P tt ps g v1 v2 v3 n n3 vs ls cs ns wx) {wy : World} (hb : Below wx.heap.size wx wy) : AbiSt w H G P tt ps g v1 v2 v3 n n3 vs ls cs ns wy :=
  ⟨h.hH, h.hG, h.hP, h.kp.below hb, own_below h.o1 hb, own_below h.o2 hb, own_below h.o3 hb, h.sl.keep hb, h.gv.below hb, h.gp.below hb, h.kt.below hb, h.kr.below hb, h.bb.trans (hb.mono h.size)⟩
theorem AbiSt.drew (h : AbiSt w H G P tt ps g v1 v2 v3 n n3 vs ls cs ns wx) : AbiSt w H G P tt ps g v1 v2 v3 n n3 vs ls cs ns wx.drew := h.below (Below.refl _ _).drew
theorem AbiSt.alloc (h : AbiSt w H G P tt ps g v1 v2 v3 n n3 vs ls cs ns wx) (o : Obj) : AbiSt w H G P tt ps g v1 v2 v3 n n3 vs ls cs ns (wx.alloc o) := h.below ((Below.refl _ _).alloc (Nat.le_refl _) _)
theorem AbiSt.setP (h : AbiSt w H G P tt ps g v1 v2 v3 n n3 vs ls cs ns wx) (i : Nat) (u : Value) : AbiSt w H G P tt (ps.setIfInBounds i u) g v1 v2 v3 n n3 vs ls cs ns (wx.setCell ⟨P, i, none⟩ u) := by
  have h1 := h.hH; have h2 := h.hG; have h3 := h.hP
  exact ⟨h.hH, h.hG, h.hP, h.kp.set_ i u, own_set (p := ⟨P, i, none⟩) h.o1 (own_blk h.o1 h.kp (by decide)) _, own_set (p := ⟨P, i, none⟩) h.o2 (own_blk h.o2 h.kp (by decide)) _, own_set (p := ⟨P, i, none⟩) h.o3 (own_blk h.o3 h.kp (by decide)) _,
    h.sl.away (grow_set wx P i u) h.kp (by decide), h.gv.far (p := ⟨P, i, none⟩) (by simp; omega) _, h.gp.far (p := ⟨P, i, none⟩) (by simp; omega) _, h.kt.far (p := ⟨P, i, none⟩) (by simp; omega) _, h.kr.far (p := ⟨P, i, none⟩) (by simp; omega) _, h.bb.setCell (p := ⟨P, i, none⟩) (by simp; omega) _⟩
theorem AbiSt.setG (h : AbiSt w H G P tt ps g v1 v2 v3 n n3 vs ls cs ns wx) (q : Nat) (u : Value) (hu : u = .int .i64 (q : Int)) : AbiSt w H G P tt ps ⟨g.r, q⟩ v1 v2 v3 n n3 vs ls cs ns (wx.setCell ⟨G, 1, none⟩ u) := by
  subst hu
  have h1 := h.hH; have h2 := h.hG; have h3 := h.hP
  exact ⟨h.hH, h.hG, h.hP, h.kp.far (p := ⟨G, 1, none⟩) (by simp; omega) _, own_set (p := ⟨G, 1, none⟩) h.o1 (own_blk h.o1 h.gv (by decide)) _, own_set (p := ⟨G, 1, none⟩) h.o2 (own_blk h.o2 h.gv (by decide)) _, own_set (p := ⟨G, 1, none⟩) h.o3 (own_blk h.o3 h.gv (by decide)) _,
    h.sl.away (grow_set wx G 1 _) h.gv (by decide), by have := h.gv.set_ 1 (.int .i64 (q : Int)); simpa using this, h.gp.far (p := ⟨G, 1, none⟩) (by simp) _, h.kt.far (p := ⟨G, 1, none⟩) (by simp; omega) _, h.kr.far (p := ⟨G, 1, none⟩) (by simp; omega) _, h.bb.setCell (p := ⟨G, 1, none⟩) (by simp; omega) _⟩
theorem AbiSt.app (h : AbiSt w H G P tt ps g v1 v2 v3 n n3 vs ls cs ns wx) (o : Obj) {v3' : Value} {n3' : Nat} {ns' : List Nat} {wy : World} (hg : (wx.alloc o).grownBy wy v3.ownBlock) (ho : wy.ownsRow w.heap.size 3 1 v3' n3' (ns'.map nat64)) : AbiSt w H G P tt ps g v1 v2 v3' n n3' vs ls cs ns' wy := by
  have a := h.alloc o
  exact ⟨h.hH, h.hG, h.hP, a.kp.grown hg (own_blk a.o3 a.kp (by decide)), own_apart a.o1 a.o3 (by decide) hg, own_apart a.o2 a.o3 (by decide) hg, ho,
    a.sl.aside a.o3 (by decide) hg, a.gv.grown hg (own_blk a.o3 a.gv (by decide)), a.gp.grown hg (own_blk a.o3 a.gp (by decide)), a.kt.grown hg (own_blk a.o3 a.kt (by decide)), a.kr.grown hg (own_blk a.o3 a.kr (by decide)), below_app h.bb (Nat.le_refl _) h.o3 hg⟩
/-- in the end the answer is laid into the result's block -/
theorem AbiSt.out {res cnt : Int} {area extra : Nat} (h : AbiSt w H G P tt #[.int .i64 res, .int .i64 cnt, v1, v2, v3, .int .i64 (area : Int), .int .i64 (extra : Int)] g v1 v2 v3 n n3 vs ls cs ns wx) (hn : n = ls.length) :
    PlcAt (((((((wx.setCell ⟨H + 1, 0, none⟩ (.int .i64 res)).setCell ⟨H + 1, 1, none⟩ (.int .i64 cnt)).setCell ⟨H + 1, 2, none⟩ v1).setCell ⟨H + 1, 3, none⟩ v2).setCell ⟨H + 1, 4, none⟩ v3).setCell ⟨H + 1, 5, none⟩ (.int .i64 (area : Int))).setCell ⟨H + 1, 6, none⟩ (.int .i64 (extra : Int)))
      #[.int .i64 res, .int .i64 cnt, v1, v2, v3, .int .i64 (area : Int), .int .i64 (extra : Int)] ⟨res, cnt, ls, cs, ns, area, extra⟩ ∧
    Below w.heap.size w (((((((wx.setCell ⟨H + 1, 0, none⟩ (.int .i64 res)).setCell ⟨H + 1, 1, none⟩ (.int .i64 cnt)).setCell ⟨H + 1, 2, none⟩ v1).setCell ⟨H + 1, 3, none⟩ v2).setCell ⟨H + 1, 4, none⟩ v3).setCell ⟨H + 1, 5, none⟩ (.int .i64 (area : Int))).setCell ⟨H + 1, 6, none⟩ (.int .i64 (extra : Int))) := by
  have hg : wx.grownBy (((((((wx.setCell ⟨H + 1, 0, none⟩ (.int .i64 res)).setCell ⟨H + 1, 1, none⟩ (.int .i64 cnt)).setCell ⟨H + 1, 2, none⟩ v1).setCell ⟨H + 1, 3, none⟩ v2).setCell ⟨H + 1, 4, none⟩ v3).setCell ⟨H + 1, 5, none⟩ (.int .i64 (area : Int))).setCell ⟨H + 1, 6, none⟩ (.int .i64 (extra : Int))) (some (H + 1)) :=
    grow_trans (grow_trans (grow_trans (grow_trans (grow_trans (grow_trans (grow_set _ _ _ _) (grow_set _ _ _ _)) (grow_set _ _ _ _)) (grow_set _ _ _ _)) (grow_set _ _ _ _)) (grow_set _ _ _ _)) (grow_set _ _ _ _)
  refine ⟨?_, below_set7 h.bb (by have := h.hH; omega) _ _ _ _ _ _ _⟩
  have a1 := own_grown h.o1 hg (own_blk h.o1 h.kr (by decide))
  have a2 := own_grown h.o2 hg (own_blk h.o2 h.kr (by decide))
  have a3 := own_grown h.o3 hg (own_blk h.o3 h.kr (by decide))
  have a4 := h.sl.away hg h.kr (by decide)
  have l2 := h.o2.1
  have l3 := h.o3.1
  simp only [List.length_map, Nat.mul_one] at l2 l3
  obtain ⟨A1, c1, e1, r1⟩ := Row.of_own a1
  obtain ⟨A2, c2, e2, r2⟩ := Row.of_own a2
  obtain ⟨A3, c3, e3, r3⟩ := Row.of_own a3
  refine ⟨A1, c1, A2, c2, A3, c3, vs, ?_, r1, a4, r2, r3⟩
  rw [e1, e2, e3, l2, l3, hn]
end
end Go.Proofs.Ytkkjkbljgaipcaa
