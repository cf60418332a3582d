/- The document's places: what has been given, plain; the state of the walk. -/
import Derived.Test.YtkkjkbljgaipcaaAbiS
import Derived.Test.YtkkjkbljgaipcaaRefD
namespace Go.Proofs.Ytkkjkbljgaipcaa
open Go.RowKit
set_option linter.unusedVariables false
set_option linter.unusedSimpArgs false
set_option maxRecDepth 100000
def hadA (T : Ty) : List Pl := if 2 < (sizeT (lastT T)).1 then [⟨false, 0⟩] else []
def hadB (T : Ty) : List Pl := if T.many then hadA T ++ [⟨false, (hadA T).length⟩] else hadA T
def hadK (T : Ty) (k : Nat) : List Pl := hadB T ++ (parK T.ps (gvB T) k).1.flatten
theorem hadA_had (T : Ty) : Had (hadA T) (gvA T) ∧ (gvA T).r = (hadA T).length ∧ (gvA T).loc = ⟨false, (hadA T).length⟩ ∧ (hadA T).length ≤ 1 := by
  unfold hadA gvA
  split
  · refine ⟨⟨by decide, by decide, by decide⟩, rfl, rfl, by decide⟩
  · refine ⟨⟨by decide, by decide, by decide⟩, rfl, rfl, by decide⟩
theorem hadB_had (T : Ty) : Had (hadB T) (gvB T) ∧ (hadB T).length ≤ 2 ∧ ∀ x ∈ hadB T, x.n ≤ 2 := by
  obtain ⟨h1, h2, h3, h4⟩ := hadA_had T
  have h5 : ∀ x ∈ hadA T, x.n ≤ 2 := by
    intro x hx
    unfold hadA at hx
    split at hx
    · simp at hx; subst hx; decide
    · cases hx
  unfold hadB gvB
  split
  · rw [← h3]
    refine ⟨h1.weak.next, by simp; omega, fun x hx => ?_⟩
    rcases List.mem_append.1 hx with hx | hx
    · exact h5 x hx
    · rw [List.mem_singleton] at hx; subst hx; rw [h3]; simp; omega
  · exact ⟨h1, by omega, h5⟩
theorem hadK_succ {T : Ty} {k : Nat} (h : k < T.ps.length) : hadK T (k + 1) = hadK T k ++ ((parK T.ps (gvB T) k).2.2.par (sizeT T.ps[k]).1 (sizeT T.ps[k]).2 (T.ps[k].k == 2)).1 := by
  unfold hadK
  rw [parK_succ h]
  simp
theorem parK_p (ts : List Ty) (g : Gv) (h : g.r ≤ 4) : ∀ k, (parK ts g k).2.2.r ≤ 4 ∧ (parK ts g k).2.2.p ≤ g.p + 6 * k
  | 0 => ⟨h, Nat.le_refl _⟩
  | k + 1 => by
    have ih := parK_p ts g h k
    have := par_bd (parK ts g k).2.2 ih.1 (sizeT (ts.getD k (.mk 0 ⟨#[]⟩ [] [] false))).1 (sizeT (ts.getD k (.mk 0 ⟨#[]⟩ [] [] false))).2 ((ts.getD k (.mk 0 ⟨#[]⟩ [] [] false)).k == 2)
    simp only [parK]
    omega
theorem gvB_p (T : Ty) : (gvB T).r ≤ 4 ∧ (gvB T).p = 0 := by unfold gvB gvA Gv.next; split <;> split <;> simp
theorem hadK_had (T : Ty) (hsz : ∀ p ∈ T.ps, 1 ≤ (sizeT p).1) : ∀ k, k ≤ T.ps.length → Had (hadK T k) (parK T.ps (gvB T) k).2.2 ∧ (hadK T k).length ≤ 2 + 4 * k ∧ ∀ x ∈ hadK T k, x.n ≤ 6 * k + 10
  | 0, _ => by
    obtain ⟨h1, h2, h3⟩ := hadB_had T
    refine ⟨by simpa [hadK, parK] using h1, by simpa [hadK, parK] using h2, fun x hx => ?_⟩
    have := h3 x (by simpa [hadK, parK] using hx)
    omega
  | k + 1, hk => by
    obtain ⟨h1, h2, h3⟩ := hadK_had T hsz k (by omega)
    have hkl : k < T.ps.length := by omega
    rw [hadK_succ hkl, parK_succ hkl]
    have hp := parK_p T.ps (gvB T) (gvB_p T).1 k
    rw [(gvB_p T).2] at hp
    have hb := par_bd (parK T.ps (gvB T) k).2.2 hp.1 (sizeT T.ps[k]).1 (sizeT T.ps[k]).2 (T.ps[k].k == 2)
    refine ⟨h1.par _ _ _ (hsz _ (List.getElem_mem hkl)), by rw [List.length_append]; omega, fun x hx => ?_⟩
    rcases List.mem_append.1 hx with hx | hx
    · have := h3 x hx; omega
    · have := hb.2.2.2 x hx; omega
theorem par_words (g : Gv) (n : Nat) (ev lg : Bool) (h : lg = true → n = 2) :
    (g.par n ev lg).1 = ((g.wst (if 4 < n then 1 else n) (ev && !decide (4 < n)) lg).nexts (if 4 < n then 1 else n)).1 ∧ (g.par n ev lg).2.1 = decide (4 < n) := by
  by_cases h4 : 4 < n
  · have hl : lg = false := by
      cases lg
      · rfl
      · have := h rfl; omega
    subst hl
    rw [par_copied g n ev false h4, if_pos h4]
    simp [h4, Gv.wst, Gv.nexts]
  · rw [par_eq g n ev lg (by omega), if_neg h4]
    simp [h4]
theorem bey_of {b : Ty} (h : may b = true) (hk : b.k ≤ 2) : beyT b = true := by
  have h1 := may_kind (d := 3) h
  unfold beyT
  rw [h]
  rcases h1 with e | e | e | e
  · simp [e]
  · simp [e]
  · omega
  · omega
structure R9St (w : World) (H P : Nat) (tt ps : Array Value) (v1 v2 v3 vh : Value) (n1 n2 n3 : Nat) (vs : List Value) (ls : List (List Pl)) (cs : List Bool) (ns : List Nat) (had : List Pl) (wx : World) : Prop where
  hH : w.heap.size ≤ H
  hP : H + 1 < P
  kp : Blk wx P 67 ps
  o1 : wx.ownsRow w.heap.size 29 1 v1 n1 vs
  o2 : wx.ownsRow w.heap.size 4 1 v2 n2 (cs.map .bool)
  o3 : wx.ownsRow w.heap.size 3 1 v3 n3 (ns.map nat64)
  oh : wx.ownsRow w.heap.size 52 2 vh had.length (lcs had)
  sl : SlOk wx vh.ownBlock vs ls
  kt : Blk wx H 25 tt
  kr : Blk wx (H + 1) 67 zeroP
  bb : Below w.heap.size w wx
section
variable {w : World} {H P : Nat} {tt ps : Array Value} {v1 v2 v3 vh : Value} {n1 n2 n3 : Nat} {vs : List Value} {ls : List (List Pl)} {cs : List Bool} {ns : List Nat} {had : List Pl} {wx : World}
theorem R9St.size (h : R9St w H P tt ps v1 v2 v3 vh n1 n2 n3 vs ls cs ns had wx) : w.heap.size ≤ wx.heap.size := h.bb.size
theorem R9St.below (h : R9St w H P tt ps v1 v2 v3 vh n1 n2 n3 vs ls cs ns had wx) {wy : World} (hb : Below wx.heap.size wx wy) : R9St w H P tt ps v1 v2 v3 vh n1 n2 n3 vs ls cs ns had wy :=
  ⟨h.hH, h.hP, h.kp.below hb, own_below h.o1 hb, own_below h.o2 hb, own_below h.o3 hb, own_below h.oh hb, h.sl.keep hb, h.kt.below hb, h.kr.below hb, h.bb.trans (hb.mono h.size)⟩
theorem R9St.alloc (h : R9St w H P tt ps v1 v2 v3 vh n1 n2 n3 vs ls cs ns had wx) (o : Obj) : R9St w H P tt ps v1 v2 v3 vh n1 n2 n3 vs ls cs ns had (wx.alloc o) := h.below ((Below.refl _ _).alloc (Nat.le_refl _) _)
theorem R9St.setP (h : R9St w H P tt ps v1 v2 v3 vh n1 n2 n3 vs ls cs ns had wx) (i : Nat) (u : Value) : R9St w H P tt (ps.setIfInBounds i u) v1 v2 v3 vh n1 n2 n3 vs ls cs ns had (wx.setCell ⟨P, i, none⟩ u) := by
  have h1 := h.hH; have h3 := h.hP
  exact ⟨h.hH, h.hP, h.kp.set_ i u, own_set (p := ⟨P, i, none⟩) h.o1 (own_blk h.o1 h.kp (by decide)) _, own_set (p := ⟨P, i, none⟩) h.o2 (own_blk h.o2 h.kp (by decide)) _, own_set (p := ⟨P, i, none⟩) h.o3 (own_blk h.o3 h.kp (by decide)) _, own_set (p := ⟨P, i, none⟩) h.oh (own_blk h.oh h.kp (by decide)) _,
    SlOk.but (grow_set wx P i u) (fun b _ hb _ e => by injection e with e; exact Blk.ne_ hb h.kp (by decide) e) (fun _ _ _ h => h) h.sl, h.kt.far (p := ⟨P, i, none⟩) (by simp; omega) _, h.kr.far (p := ⟨P, i, none⟩) (by simp; omega) _, h.bb.setCell (p := ⟨P, i, none⟩) (by simp; omega) _⟩
theorem R9St.app1 (h : R9St w H P tt ps v1 v2 v3 vh n1 n2 n3 vs ls cs ns had wx) {v1' : Value} {n1' : Nat} {A : Option Addr} {c : Nat} {l : List Pl} {wy : World} (hg : wx.grownBy wy v1.ownBlock) (ho : wy.ownsRow w.heap.size 29 1 v1' n1' (vs ++ [.slice A l.length c]))
    (ht : TRow wx 52 A (lcs l)) (hn : ∀ b o, A = some ⟨b, o, none⟩ → some b ≠ vh.ownBlock) : R9St w H P tt ps v1' v2 v3 vh n1' n2 n3 (vs ++ [.slice A l.length c]) (ls ++ [l]) cs ns had wy :=
  ⟨h.hH, h.hP, h.kp.grown hg (own_blk h.o1 h.kp (by decide)), ho, own_apart h.o2 h.o1 (by decide) hg, own_apart h.o3 h.o1 (by decide) hg, own_apart h.oh h.o1 (by decide) hg,
    (h.sl.aside h.o1 (by decide) hg).snoc ⟨A, c, rfl, ht.but hg (fun b cur hb _ _ => own_blk h.o1 hb (by decide)), fun _ => hn⟩, h.kt.grown hg (own_blk h.o1 h.kt (by decide)), h.kr.grown hg (own_blk h.o1 h.kr (by decide)), h.bb.grown hg h.size (own_ge h.o1)⟩
theorem R9St.app2 (h : R9St w H P tt ps v1 v2 v3 vh n1 n2 n3 vs ls cs ns had wx) {v2' : Value} {n2' : Nat} {cs' : List Bool} {wy : World} (hg : wx.grownBy wy v2.ownBlock) (ho : wy.ownsRow w.heap.size 4 1 v2' n2' (cs'.map .bool)) : R9St w H P tt ps v1 v2' v3 vh n1 n2' n3 vs ls cs' ns had wy :=
  ⟨h.hH, h.hP, h.kp.grown hg (own_blk h.o2 h.kp (by decide)), own_apart h.o1 h.o2 (by decide) hg, ho, own_apart h.o3 h.o2 (by decide) hg, own_apart h.oh h.o2 (by decide) hg,
    h.sl.aside h.o2 (by decide) hg, h.kt.grown hg (own_blk h.o2 h.kt (by decide)), h.kr.grown hg (own_blk h.o2 h.kr (by decide)), h.bb.grown hg h.size (own_ge h.o2)⟩
theorem R9St.app3 (h : R9St w H P tt ps v1 v2 v3 vh n1 n2 n3 vs ls cs ns had wx) {v3' : Value} {n3' : Nat} {ns' : List Nat} {wy : World} (hg : wx.grownBy wy v3.ownBlock) (ho : wy.ownsRow w.heap.size 3 1 v3' n3' (ns'.map nat64)) : R9St w H P tt ps v1 v2 v3' vh n1 n2 n3' vs ls cs ns' had wy :=
  ⟨h.hH, h.hP, h.kp.grown hg (own_blk h.o3 h.kp (by decide)), own_apart h.o1 h.o3 (by decide) hg, own_apart h.o2 h.o3 (by decide) hg, ho, own_apart h.oh h.o3 (by decide) hg,
    h.sl.aside h.o3 (by decide) hg, h.kt.grown hg (own_blk h.o3 h.kt (by decide)), h.kr.grown hg (own_blk h.o3 h.kr (by decide)), h.bb.grown hg h.size (own_ge h.o3)⟩
theorem R9St.appH (h : R9St w H P tt ps v1 v2 v3 vh n1 n2 n3 vs ls cs ns had wx) {vh' : Value} {had' : List Pl} {wy : World} (hg : wx.grownBy wy vh.ownBlock) (ho : wy.ownsRow w.heap.size 52 2 vh' had'.length (lcs had')) (hv : vh'.ownBlock = vh.ownBlock ∨ vh'.ownBlock = some wx.heap.size) : R9St w H P tt ps v1 v2 v3 vh' n1 n2 n3 vs ls cs ns had' wy :=
  ⟨h.hH, h.hP, h.kp.grown hg (own_blk h.oh h.kp (by decide)), own_apart h.o1 h.oh (by decide) hg, own_apart h.o2 h.oh (by decide) hg, own_apart h.o3 h.oh (by decide) hg, ho,
    SlOk.but hg (fun _ _ _ h => h) (fun b cur hb hne => by
      rcases hv with e | e
      · rw [e]; exact hne
      · rw [e]; have := hb.lt; intro e'; injection e'; omega) h.sl, h.kt.grown hg (own_blk h.oh h.kt (by decide)), h.kr.grown hg (own_blk h.oh h.kr (by decide)), h.bb.grown hg h.size (own_ge h.oh)⟩
/-- in the end the answer is laid into the result's block -/
theorem R9St.out {res cnt : Int} {area extra : Nat} (h : R9St w H P tt #[.int .i64 res, .int .i64 cnt, v1, v2, v3, .int .i64 (area : Int), .int .i64 (extra : Int)] v1 v2 v3 vh n1 n2 n3 vs ls cs ns had wx) (hn : n1 = ls.length) :
    PlcAt (((((((wx.setCell ⟨H + 1, 0, none⟩ (.int .i64 res)).setCell ⟨H + 1, 1, none⟩ (.int .i64 cnt)).setCell ⟨H + 1, 2, none⟩ v1).setCell ⟨H + 1, 3, none⟩ v2).setCell ⟨H + 1, 4, none⟩ v3).setCell ⟨H + 1, 5, none⟩ (.int .i64 (area : Int))).setCell ⟨H + 1, 6, none⟩ (.int .i64 (extra : Int)))
      #[.int .i64 res, .int .i64 cnt, v1, v2, v3, .int .i64 (area : Int), .int .i64 (extra : Int)] ⟨res, cnt, ls, cs, ns, area, extra⟩ ∧
    Below w.heap.size w (((((((wx.setCell ⟨H + 1, 0, none⟩ (.int .i64 res)).setCell ⟨H + 1, 1, none⟩ (.int .i64 cnt)).setCell ⟨H + 1, 2, none⟩ v1).setCell ⟨H + 1, 3, none⟩ v2).setCell ⟨H + 1, 4, none⟩ v3).setCell ⟨H + 1, 5, none⟩ (.int .i64 (area : Int))).setCell ⟨H + 1, 6, none⟩ (.int .i64 (extra : Int))) := by
  have hg : wx.grownBy (((((((wx.setCell ⟨H + 1, 0, none⟩ (.int .i64 res)).setCell ⟨H + 1, 1, none⟩ (.int .i64 cnt)).setCell ⟨H + 1, 2, none⟩ v1).setCell ⟨H + 1, 3, none⟩ v2).setCell ⟨H + 1, 4, none⟩ v3).setCell ⟨H + 1, 5, none⟩ (.int .i64 (area : Int))).setCell ⟨H + 1, 6, none⟩ (.int .i64 (extra : Int))) (some (H + 1)) :=
    grow_trans (grow_trans (grow_trans (grow_trans (grow_trans (grow_trans (grow_set _ _ _ _) (grow_set _ _ _ _)) (grow_set _ _ _ _)) (grow_set _ _ _ _)) (grow_set _ _ _ _)) (grow_set _ _ _ _)) (grow_set _ _ _ _)
  refine ⟨?_, below_set7 h.bb (by have := h.hH; omega) _ _ _ _ _ _ _⟩
  have a1 := own_grown h.o1 hg (own_blk h.o1 h.kr (by decide))
  have a2 := own_grown h.o2 hg (own_blk h.o2 h.kr (by decide))
  have a3 := own_grown h.o3 hg (own_blk h.o3 h.kr (by decide))
  have a4 := h.sl.free.away hg h.kr (by decide)
  have l2 := h.o2.1
  have l3 := h.o3.1
  simp only [List.length_map, Nat.mul_one] at l2 l3
  obtain ⟨A1, c1, e1, r1⟩ := Row.of_own a1
  obtain ⟨A2, c2, e2, r2⟩ := Row.of_own a2
  obtain ⟨A3, c3, e3, r3⟩ := Row.of_own a3
  refine ⟨A1, c1, A2, c2, A3, c3, vs, ?_, r1, a4, r2, r3⟩
  rw [e1, e2, e3, l2, l3, hn]
end
end Go.Proofs.Ytkkjkbljgaipcaa
