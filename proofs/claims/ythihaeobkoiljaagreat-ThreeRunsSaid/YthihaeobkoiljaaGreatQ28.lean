/- Lemmas for the law. -/
import Derived.Test.YthihaeobkoiljaaGreatQ22
import Derived.Test.YthihaeobkoiljaaGreatQ27
set_option linter.unusedVariables false
set_option linter.unusedSimpArgs false
set_option maxRecDepth 100000
set_option maxHeartbeats 40000000
namespace Go.Proofs.YthihaeobkoiljaaGreat
open Go.RowKit
theorem hq_runs {R : Ending → World → Prop} {dst : Option Tmp} {c : List PanicEntry} {a : Act} {w : World} {v : Value} (h : bodyPostD Tryz.prog Tryz.f31 R (.panic c) (a.put dst v) w) : bodyPostD Tryz.prog Tryz.f31 R (.panic c) a w := by
 cases dst with
 | none => exact h
 | some d =>
  have h' : Leaves Tryz.prog Tryz.f31 (a.put (some d) v).tmps R (a.put (some d) v).defers (.panicking c) w := h
  show Leaves Tryz.prog Tryz.f31 a.tmps R a.defers (.panicking c) w
  exact leaves_same (fun W => by rw [results_none_ rfl, results_none_ rfl]) _ _ _ h'
section
variable {P : Program} {ops : Array Oper} {Q : Exit → Act → World → Prop} {md : Region.Mode} {S : World → Prop} {fuel : Nat} {listed : Array Bool} {a : Act} {w : World}
theorem tQr (i : Nat) {o0 : Oper} {v0 : Value} (h : wpAnyH P md ops Q S fuel (listed.setIfInBounds i true) (a.put o0.dst v0) w)
 (hi0 : ops[i]? = some o0 := by rfl) (hf0 : Region.free md ops listed i = true := by kernel_rfl) (hr0 : (Region.ready md ops listed).contains i = true := by kernel_rfl) (hQ0 : ∀ c a w, Q (.panic c) (a.put o0.dst v0) w → Q (.panic c) a w := by exact fun _ _ _ h => hq_runs h) (hw0 : Region.wanted o0 (yielded ops a.tmps) = true := by rfl) (hy0 : ∀ w, S w → (execOp a.eval o0).run P w = .ok (.value v0) w := by ((intro w hSw; (try dsimp only [At] at hSw); go_simp) <;> with_reducible rfl))
 (hs : Region.noSelect ops = true := by kernel_rfl) (hS : S w := by assumption) : wpAnyH P md ops Q S (fuel + 1) listed a w :=
 wpAnyH_take hi0 hs hf0 hr0 hQ0 (Or.inl ⟨hw0, hy0⟩) hS (h)
theorem tQ4r (i j k m : Nat) {o0 o1 o2 o3 : Oper} {v0 v1 v2 v3 : Value} (h : wpAnyH P md ops Q S fuel ((((listed.setIfInBounds i true).setIfInBounds j true).setIfInBounds k true).setIfInBounds m true) ((((a.put o0.dst v0).put o1.dst v1).put o2.dst v2).put o3.dst v3) w)
 (hi0 : ops[i]? = some o0 := by rfl) (hf0 : Region.free md ops listed i = true := by kernel_rfl) (hr0 : (Region.ready md ops listed).contains i = true := by kernel_rfl) (hQ0 : ∀ c a w, Q (.panic c) (a.put o0.dst v0) w → Q (.panic c) a w := by exact fun _ _ _ h => hq_runs h) (hw0 : Region.wanted o0 (yielded ops a.tmps) = true := by rfl) (hy0 : ∀ w, S w → (execOp a.eval o0).run P w = .ok (.value v0) w := by ((intro w hSw; (try dsimp only [At] at hSw); go_simp) <;> with_reducible rfl))
 (hi1 : ops[j]? = some o1 := by rfl) (hf1 : Region.free md ops (listed.setIfInBounds i true) j = true := by kernel_rfl) (hr1 : (Region.ready md ops (listed.setIfInBounds i true)).contains j = true := by kernel_rfl) (hQ1 : ∀ c a w, Q (.panic c) (a.put o1.dst v1) w → Q (.panic c) a w := by exact fun _ _ _ h => hq_runs h) (hw1 : Region.wanted o1 (yielded ops (a.put o0.dst v0).tmps) = true := by ((try simp only [sq]); rfl)) (hy1 : ∀ w, S w → (execOp (a.put o0.dst v0).eval o1).run P w = .ok (.value v1) w := by ((intro w hSw; (try dsimp only [At] at hSw); (try simp only [sq]); go_simp) <;> with_reducible rfl))
 (hi2 : ops[k]? = some o2 := by rfl) (hf2 : Region.free md ops ((listed.setIfInBounds i true).setIfInBounds j true) k = true := by kernel_rfl) (hr2 : (Region.ready md ops ((listed.setIfInBounds i true).setIfInBounds j true)).contains k = true := by kernel_rfl) (hQ2 : ∀ c a w, Q (.panic c) (a.put o2.dst v2) w → Q (.panic c) a w := by exact fun _ _ _ h => hq_runs h) (hw2 : Region.wanted o2 (yielded ops ((a.put o0.dst v0).put o1.dst v1).tmps) = true := by ((try simp only [sq]); rfl)) (hy2 : ∀ w, S w → (execOp ((a.put o0.dst v0).put o1.dst v1).eval o2).run P w = .ok (.value v2) w := by ((intro w hSw; (try dsimp only [At] at hSw); (try simp only [sq]); go_simp) <;> with_reducible rfl))
 (hi3 : ops[m]? = some o3 := by rfl) (hf3 : Region.free md ops (((listed.setIfInBounds i true).setIfInBounds j true).setIfInBounds k true) m = true := by kernel_rfl) (hr3 : (Region.ready md ops (((listed.setIfInBounds i true).setIfInBounds j true).setIfInBounds k true)).contains m = true := by kernel_rfl) (hQ3 : ∀ c a w, Q (.panic c) (a.put o3.dst v3) w → Q (.panic c) a w := by exact fun _ _ _ h => hq_runs h) (hw3 : Region.wanted o3 (yielded ops (((a.put o0.dst v0).put o1.dst v1).put o2.dst v2).tmps) = true := by ((try simp only [sq]); rfl)) (hy3 : ∀ w, S w → (execOp (((a.put o0.dst v0).put o1.dst v1).put o2.dst v2).eval o3).run P w = .ok (.value v3) w := by ((intro w hSw; (try dsimp only [At] at hSw); (try simp only [sq]); go_simp) <;> with_reducible rfl))
 (hs : Region.noSelect ops = true := by kernel_rfl) (hS : S w := by assumption) : wpAnyH P md ops Q S (fuel + 4) listed a w :=
 wpAnyH_take hi0 hs hf0 hr0 hQ0 (Or.inl ⟨hw0, hy0⟩) hS (wpAnyH_take hi1 hs hf1 hr1 hQ1 (Or.inl ⟨hw1, hy1⟩) hS (wpAnyH_take hi2 hs hf2 hr2 hQ2 (Or.inl ⟨hw2, hy2⟩) hS (wpAnyH_take hi3 hs hf3 hr3 hQ3 (Or.inl ⟨hw3, hy3⟩) hS (h))))
end
def RunsOut (l : List Un) (w : World) (x : Px) (base : List Rc) (E : Shw) (e : Ending) (W : World) : Prop := e = .returned (.tuple #[]) ∧ ∃ (vs : List (List (Int × Int))) (O : Option Addr) (od : Nat) (dp : Nat), Hid (Hp w W (prP l w.heap.size x vs O od E.out E.e E.v E.t (dp : Int) base))
theorem runs_any {l : List Un} (L : Lnk l) (hh : ∀ u (h : u < l.length), l[u].bs.length ≤ 40) (hh2 : ∀ u (h : u < l.length), l[u].gs.length ≤ 40) {w W : World} {x : Px} (PO : PxOk l w x) (hml : ML w) (hF : x.F ≤ 300000) (hst : x.start = (nmb l (mainP l) : Int)) {base : List Rc} (h : Hp w W (prP l w.heap.size x (l.map vsU) none 0 [] 0 0 0 0 base)) :
 Calls Tryz.prog 31 #[.pointer (some ⟨x.X, 0, none⟩)] W (RunsOut l w x base (playP l x.F)) := by
 obtain ⟨hmv, -, hma, hmr⟩ := main_arg L
 obtain ⟨E, HE⟩ : ∃ E, Hid (playP l x.F = E) := ⟨_, rfl⟩
 rw [HE.out]
 have HMR := Lh hmr
 have HCA := Lh (fun (W1 : World) (base : List Rc) (h : Hp w W1 (prP l w.heap.size x (l.map vsU) none 0 [] 0 0 0 (([] : List Fr).length : Int) base)) => calls_all L hh hh2 PO hml hF x.F W1 (mainP l).1 (mainP l).2 [] none 0 [] ⟨l.map vsU, []⟩ 0 E base none 0 rfl hma RowAt.nil (Nat.le_refl _) (fun _ => rfl) (vs_ok l) (Nat.le_refl _) (Nat.zero_le _) (by rw [← HE.out]; rfl) h)
 have hst2 : x.start = (nmb l ((mainP l).1, (mainP l).2) : Int) := hst
 clear hmv hma hmr hh hh2 PO hml hst L
 generalize (mainP l).1 = mu at *
 generalize (mainP l).2 = mi at *
 have HS : Hid (Hp w W (bx x.X 55 #[.int .i64 0, .int .i32 0, .slice none 0 0, .int .i64 0, .slice x.A1 (allB l l.length).length x.d1, .slice x.A2 (allB l l.length).length x.d2, .slice x.A3 (allG l l.length).length x.d3, .slice x.A4 l.length x.d4, .int .i64 (x.F : Int), .int .i64 0, .int .i64 x.start] :: ow w.heap.size 21 1 (.slice none 0 0) 0 [] :: (prC l w.heap.size x (l.map vsU) base))) := h
 clear h
 have hmf : ∀ (fn : Fn) (first cap : Array Value) (w : World), (Instr.makeFunc fn first cap).run Tryz.prog w = .ok (.func fn first cap) w := fun _ _ _ _ => rfl
 go_enter_defers Tryz.func31, Tryz.ntmps31
 go_upto_region 2 with (fail)
 replace HS := Lh (HS.out.box 50 #[.pointer (some ⟨x.X, 0, none⟩)])
 generalize W.alloc _ = w0 at *
 generalize W.heap.size = xb at *
 replace HS := Lh HS.out.drew
 refine dQ (fun W => At W xb 0 (.pointer (some ⟨x.X, 0, none⟩)) ∧ At W (x.X) 10 (.int .i64 x.start)) (⟨HS.out.c 0 0, HS.out.c 1 10⟩) fun _ => ?_
 generalize w0.drew = w1 at *
 refine tQ4r 0 1 2 3 ?_; try simp only [sq]
 refine tQr 4 ?_; try simp only [sq]
 replace HS := Lh HS.out.f2.f2
 refine rQ 5 (fun KK hK => ?_)
 go_simp
 have HS2 : Hid (Hp w w1 (prP l w.heap.size x (l.map vsU) none 0 [] 0 0 0 (([] : List Fr).length : Int) ([bx xb 50 #[.pointer (some ⟨x.X, 0, none⟩)]] ++ base))) := by
  have h2 := HS.out.perm (.cons _ (.cons _ (prC_in (F := [bx xb 50 #[.pointer (some ⟨x.X, 0, none⟩)]]) base)))
  exact h2
 have HC2 := Lh (HCA.out _ _ HS2.out)
 clear HCA HS HS2
 refine (HC2.out).mono ?_
 clear HC2; intro e w2 hO
 rcases hO with ⟨n2, t2, s2, RV, rc2, m2, O2, od2, rfl, HS, hsr, hsw, hm2, ho2, hnt2, hn2, hrg⟩ | ⟨vs2, O2, od2, dp, hdp1, hdp2, rfl, HS, hE0⟩
 rotate_left
 ·have HS2 := HS.out
  unfold prP at HS2
  replace HS := Lh (HS2.perm (.cons _ (.cons _ (prC_in (F := [bx xb 50 #[.pointer (some ⟨x.X, 0, none⟩)]]) base).symm)))
  clear HS2
  have HE0 := Lh hE0
  clear hE0 hdp1 hdp2
  have HS3 := (show Hp w _ (_ :: _ :: _ :: _) from HS.out).perm (.cons _ (.swap _ _ _))
  refine leaves_cons (f := 60) (args := #[.pointer (some ⟨xb, 0, none⟩)]) (by simp) (by simp [go_sem]) ?_
  refine (catch_ended E.e HS3).mono ?_
  rintro e u' W' ⟨rfl, rfl, hH⟩
  refine ⟨_, results_none_ rfl _ _ _, rfl, vs2, O2, od2, dp, ?_⟩
  show Hp _ _ _
  unfold prP
  rw [HE0.out]
  exact hH.f1.drop
 have HSR : Hid (1 ≤ s2.length) := by show _ ≤ _; rw [hsr]; exact HMR.out
 have HEQ : Hid (E = ⟨1, s2.getD 0 0, m2.out, t2⟩) := hrg.symm
 clear hsr hsw hm2 ho2 hnt2 hn2 hrg
 have HS2 := HS.out
 unfold prP at HS2
 replace HS := Lh (HS2.perm (.cons _ (.cons _ (.cons _ (prC_in (F := [bx xb 50 #[.pointer (some ⟨x.X, 0, none⟩)]]) base).symm))))
 clear HS2
 replace HS : Hid (Hp w w2 (rI w.heap.size (.slice RV s2.length rc2) s2 :: bx x.X 55 #[.int .i64 0, .int .i32 0, .slice O2 m2.out.length od2, .int .i64 (t2 : Int), .slice x.A1 (allB l l.length).length x.d1, .slice x.A2 (allB l l.length).length x.d2, .slice x.A3 (allG l l.length).length x.d3, .slice x.A4 l.length x.d4, .int .i64 (x.F : Int), .int .i64 0, .int .i64 x.start] :: ow w.heap.size 21 1 (.slice O2 m2.out.length od2) m2.out.length (m2.out.map i32) :: bx xb 50 #[.pointer (some ⟨x.X, 0, none⟩)] :: (prC l w.heap.size x m2.vs base))) := HS
 obtain ⟨v0, st, rfl⟩ : ∃ a b, s2 = a :: b := List.exists_cons_of_length_pos HSR.out
 obtain ⟨sg, rfl⟩ := own_some (HS.out.own 0 rfl) (by simp)
 refine hK.out _ _ (⟨HS.out.c 3 0, HS.out.c 1 10⟩) (fun _ => ?_)
 clear hK KK
 try simp only [sq]
 refine tQr 6 ?_; try simp only [sq]
 refine fQ ?_ _
 have gs : (0 : Int) < ((v0 :: st).length : Int) := by simp
 have gs2 : 0 < (v0 :: st).length := by simp
 go_upto_region 3 with (fail)
 replace HS := Lh HS.out.drew
 refine dQ (fun W => At W xb 0 (.pointer (some ⟨x.X, 0, none⟩)) ∧ At W sg 0 (.int .i32 v0)) (⟨HS.out.c 3 0, own_at5 (HS.out.own 0 rfl) 0 _ rfl⟩) fun _ => ?_
 generalize w2.drew = w3 at *
 refine tQ4r 0 1 2 3 ?_; try simp only [sq]
 refine tQ4r 4 5 6 7 ?_; try simp only [sq]
 refine rQ 8 (fun K hK => ?_)
 replace HS := Lh HS.out.f1
 have f0 := (HS.out.blk 0 rfl).free 0
 have g0 := HS.out.c 0 0
 go_simp
 clear f0 g0
 replace HS := Lh (HS.out.put1 0 (.int .i64 1))
 simp only [sq] at HS
 generalize w3.setCell _ _ = w4 at *
 refine hK.out _ _ (⟨HS.out.c 3 0, own_at5 (HS.out.own 1 rfl) 0 _ rfl⟩) (fun _ => ?_)
 clear hK K
 try simp only [sq]
 refine tQr 9 ?_; try simp only [sq]
 refine tQr 10 ?_; try simp only [sq]
 refine tQr 11 ?_; try simp only [sq]
 refine rQ 12 (fun K hK => ?_)
 have f1 := (HS.out.blk 0 rfl).free 1
 have g1 := HS.out.c 0 1
 go_simp
 clear f1 g1
 replace HS := Lh (HS.out.put1 1 (.int .i32 v0))
 simp only [sq] at HS
 generalize w4.setCell _ _ = w5 at *
 refine hK.out _ _ (⟨HS.out.c 3 0, own_at5 (HS.out.own 1 rfl) 0 _ rfl⟩) (fun _ => ?_)
 clear hK K
 try simp only [sq]
 refine fQ ?_ _
 replace HS := Lh HS.out.f1.drop.f2.f2.f2
 go_wp2_with fail
 refine leaves_cons (f := 60) (args := #[.pointer (some ⟨xb, 0, none⟩)]) (by simp) (by simp [go_sem]) ?_
 refine (catch_idle ⟨xb, 0, none⟩ w5).mono ?_
 rintro e u' W' ⟨rfl, rfl, rfl⟩
 refine ⟨_, results_none_ rfl _ _ _, rfl, m2.vs, O2, od2, 0, ?_⟩
 show Hp _ _ _
 rw [HEQ.out]
 unfold prP
 exact HS.out.f2.drop
theorem Hp.over {w w0 W : World} {L1 L2 : List Rc} (h1 : Hp w w0 L1) (h2 : Hp w0 W L2) : Hp w W (L2 ++ L1) := by
 have h3 := h1.below h2.mv
 refine ⟨h3.mv, fun r hr => ?_, fun r hr => ?_, List.pairwise_append.2 ⟨h2.ap, h1.ap, fun r hr s hs b hb hsb => ?_⟩⟩
 ·rcases List.mem_append.1 hr with hr | hr
  ·exact h2.ok r hr
  ·exact h3.ok r hr
 ·rcases List.mem_append.1 hr with hr | hr
  ·exact fun b hb => ⟨Nat.le_trans h1.mv.size (h2.inn r hr b hb).1, (h2.inn r hr b hb).2⟩
  ·exact h3.inn r hr
 ·have := (h2.inn r hr b hb).1
  have := (h1.inn s hs b hsb).2
  omega
def zShw : Shw := ⟨0, 0, [], 0⟩
open Classical in
noncomputable def runE (l : List Un) (F : Int) : Shw := if F < 0 ∨ 300000 < F then zShw else if checkP l = (0, 0, 0) then playP l F.toNat else zShw
open Classical in
noncomputable def runT (l : List Un) (F : Int) : Trb := if F < 0 ∨ 300000 < F then (0, 6, 0) else checkP l
def Run3Out (E : Shw) (T : Trb) (w : World) (e : Ending) (w' : World) : Prop := ∃ O od, e = .returned (.tuple #[.agg #[.int .i64 E.e, .int .i32 E.v, .slice O E.out.length od, .int .i64 (E.t : Int)], .agg #[.int .i64 T.1, .int .i64 T.2.1, .int .i64 T.2.2]]) ∧ WdAt w' O E.out ∧ Below w.heap.size w w'
theorem results_st {w : World} {b c : Nat} {a0 a1 a2 a3 b0 b1 b2 : Value} {tmps : Array Value} (k : Blk w b 44 #[a0, a1, a2, a3]) (k2 : Blk w c 40 #[b0, b1, b2]) (h4 : tmps.getD 4 undef = .pointer (some ⟨b, 0, none⟩)) (h5 : tmps.getD 5 undef = .pointer (some ⟨c, 0, none⟩)) :
 (results Tryz.f11 tmps).run Tryz.prog w = .ok (.tuple #[.agg #[a0, a1, a2, a3], .agg #[b0, b1, b2]]) w := by
 have c0 := k.cell 0 _ rfl
 have c1 := k.cell 1 _ rfl
 have c2 := k.cell 2 _ rfl
 have c3 := k.cell 3 _ rfl
 have d0 := k2.cell 0 _ rfl
 have d1 := k2.cell 1 _ rfl
 have d2 := k2.cell 2 _ rfl
 simp at c0 c1 c2 c3 d0 d1 d2
 simp only [Array.getD_eq_getD_getElem?] at h4 h5
 simp [results, Tryz.results11, go_sem, h4, h5, c0, c1, c2, c3, d0, d1, d2]
theorem run3_any (l : List Un) (A : Option Addr) (c : Nat) (F : Int) (w : World) (hr : RepS 3 RepU w A l) (hm : ML w) (hl : l.length ≤ 8) (hh : ∀ u (h : u < l.length), l[u].bs.length ≤ 40 ∧ l[u].gs.length ≤ 40 ∧ l[u].os.length ≤ 40) (hn1 : ∀ u (h : u < l.length), (∀ g ∈ l[u].gs, g.nm.size ≤ maxLen) ∧ ∀ o ∈ l[u].os, o.nm.size ≤ maxLen) :
 Calls Tryz.prog 11 #[.slice A l.length c, .int .i64 F] w (Run3Out (runE l F) (runT l F) w) := by
 have HS := Lh (((Hp.init w).box 44 #[.int .i64 0, .int .i32 0, .slice none 0 0, .int .i64 0]).box 40 #[.int .i64 0, .int .i64 0, .int .i64 0])
 have hz : (w.alloc (.cells #[.int .i64 0, .int .i32 0, .slice none 0 0, .int .i64 0] 44)).heap.size = w.heap.size + 1 := by simp
 rw [hz] at HS
 have HHH := Lh hh
 have HMT := Lh (meet_any l A c _ (RepS.keep (R := RepU) RepU.keep hr HS.out.mv) (hm.keep HS.out.mv) hl hh hn1)
 have HML := Lh hm
 clear hr hm hh hn1
 obtain ⟨E, HE⟩ : ∃ E, Hid (runE l F = E) := ⟨_, rfl⟩
 obtain ⟨T, HT⟩ : ∃ T, Hid (runT l F = T) := ⟨_, rfl⟩
 rw [HE.out, HT.out]
 go_enter Tryz.func11, Tryz.ntmps11
 go_upto_region 1 with (fail)
 try rw [hz]
 generalize (w.alloc _).alloc _ = w0 at *
 have hne : w.heap.size + 1 ≠ w.heap.size := by omega
 have hne2 : w.heap.size ≠ w.heap.size + 1 := by omega
 generalize w.heap.size + 1 = tb at *
 generalize hsb : w.heap.size = sb at *
 clear hsb hz
 by_cases hbad : F < 0 ∨ 300000 < F
 ·have hE : E = zShw := by rw [← HE.out]; unfold runE; rw [if_pos hbad]
  have hT : T = (0, 6, 0) := by rw [← HT.out]; unfold runT; rw [if_pos hbad]
  subst hE hT
  clear HMT
  by_cases h0 : F < 0
  ·have g1 : decide (F < 0) = true := by simpa using h0
   clear hbad h0
   have af0 := (HS.out.blk 1 rfl).free 0
   have af1 := (HS.out.blk 1 rfl).free 1
   have af2 := (HS.out.blk 1 rfl).free 2
   have af3 := (HS.out.blk 1 rfl).free 3
   have ag0 := HS.out.c 1 0
   have ag1 := HS.out.c 1 1
   have ag2 := HS.out.c 1 2
   have ag3 := HS.out.c 1 3
   have bf0 := (HS.out.blk 0 rfl).free 0
   have bf1 := (HS.out.blk 0 rfl).free 1
   have bf2 := (HS.out.blk 0 rfl).free 2
   have bg0 := HS.out.c 0 0
   have bg1 := HS.out.c 0 1
   have bg2 := HS.out.c 0 2
   go_wp2_with fail
   replace HS := Lh HS.out.f1
   replace HS := Lh ((((HS.out.put1 0 (.int .i64 0)).put1 1 (.int .i32 0)).put1 2 (.slice none 0 0)).put1 3 (.int .i64 0))
   simp only [sq] at HS
   generalize (((w0.setCell _ _).setCell _ _).setCell _ _).setCell _ _ = w1 at *
   replace HS := Lh HS.out.f1
   replace HS := Lh (((HS.out.put1 0 (.int .i64 0)).put1 1 (.int .i64 6)).put1 2 (.int .i64 0))
   simp only [sq] at HS
   generalize ((w1.setCell _ _).setCell _ _).setCell _ _ = w2 at *
   replace HS := Lh HS.out.f1
   refine bodyPost_ret (v := .tuple #[_, _]) (results_st (HS.out.blk 0 rfl) (HS.out.blk 1 rfl) rfl rfl) rfl ?_
   exact ⟨none, 0, rfl, WdAt.nil, HS.out.mv⟩
  have g1 : decide (F < 0) = false := by simpa using h0
  have g2 : decide (300000 < F) = true := by simp; omega
  clear hbad h0
  have af0 := (HS.out.blk 1 rfl).free 0
  have af1 := (HS.out.blk 1 rfl).free 1
  have af2 := (HS.out.blk 1 rfl).free 2
  have af3 := (HS.out.blk 1 rfl).free 3
  have ag0 := HS.out.c 1 0
  have ag1 := HS.out.c 1 1
  have ag2 := HS.out.c 1 2
  have ag3 := HS.out.c 1 3
  have bf0 := (HS.out.blk 0 rfl).free 0
  have bf1 := (HS.out.blk 0 rfl).free 1
  have bf2 := (HS.out.blk 0 rfl).free 2
  have bg0 := HS.out.c 0 0
  have bg1 := HS.out.c 0 1
  have bg2 := HS.out.c 0 2
  go_wp2_with fail
  replace HS := Lh HS.out.f1
  replace HS := Lh ((((HS.out.put1 0 (.int .i64 0)).put1 1 (.int .i32 0)).put1 2 (.slice none 0 0)).put1 3 (.int .i64 0))
  simp only [sq] at HS
  generalize (((w0.setCell _ _).setCell _ _).setCell _ _).setCell _ _ = w1 at *
  replace HS := Lh HS.out.f1
  replace HS := Lh (((HS.out.put1 0 (.int .i64 0)).put1 1 (.int .i64 6)).put1 2 (.int .i64 0))
  simp only [sq] at HS
  generalize ((w1.setCell _ _).setCell _ _).setCell _ _ = w2 at *
  replace HS := Lh HS.out.f1
  refine bodyPost_ret (v := .tuple #[_, _]) (results_st (HS.out.blk 0 rfl) (HS.out.blk 1 rfl) rfl rfl) rfl ?_
  exact ⟨none, 0, rfl, WdAt.nil, HS.out.mv⟩
 have g1 : decide (F < 0) = false := by simp; omega
 have g2 : decide (300000 < F) = false := by simp; omega
 have hTc : T = checkP l := by rw [← HT.out]; unfold runT; rw [if_neg hbad]
 have hEc : E = runE l F := HE.out.symm
 unfold runE at hEc
 rw [if_neg hbad] at hEc
 obtain ⟨Fn, rfl⟩ : ∃ Fn : Nat, F = (Fn : Int) := ⟨F.toNat, by omega⟩
 have hF3 : Fn ≤ 300000 := by omega
 have HTC := Lh hTc
 have HEC := Lh hEc
 clear hTc hEc hbad
 go_wp2_with fail
 clear g1 g2
 refine (HMT.out).mono ?_
 clear HMT; intro e w1 hO
 rcases hO with ⟨rfl, hne, hb⟩ | ⟨h0, X, rfl, hL⟩
 ·replace HS := Lh (HS.out.below hb)
  clear hb
  obtain ⟨⟨r0, r1, r2⟩, hR⟩ : ∃ R, checkP l = R := ⟨_, rfl⟩
  rw [hR] at hne
  rw [hR]
  have hT : T = (r0, r1, r2) := HTC.out.trans hR
  have hE : E = zShw := by rw [HEC.out, if_neg (fun h => hne (by rw [← hR, h]))]
  subst hE hT
  clear HEC HTC HE HT hR
  dsimp only at hne
  dsimp only
  have hn2 : (r1 != 0) = true := by simpa using hne
  clear hne
  go_upto_region 4 with (fail)
  replace HS := Lh (HS.out.box 40 #[.int .i64 r0, .int .i64 r1, .int .i64 r2])
  generalize w1.alloc _ = w2 at *
  generalize w1.heap.size = tr at *
  have p1 := HS.out.c 0 1
  go_upto_region 5 with (fail)
  clear p1 hn2
  replace HS := Lh HS.out.drew
  refine dQ (fun W => At W tr 0 (.int .i64 r0) ∧ At W tr 1 (.int .i64 r1) ∧ At W tr 2 (.int .i64 r2)) (⟨HS.out.c 0 0, HS.out.c 0 1, HS.out.c 0 2⟩) fun _ => ?_
  generalize w2.drew = w3 at *
  refine tQ2 0 1 ?_; try simp only [sq]
  refine rQ 2 (fun K hK => ?_)
  replace HS := Lh HS.out.f2
  have af0 := (HS.out.blk 0 rfl).free 0
  have af1 := (HS.out.blk 0 rfl).free 1
  have af2 := (HS.out.blk 0 rfl).free 2
  have af3 := (HS.out.blk 0 rfl).free 3
  have ag0 := HS.out.c 0 0
  have ag1 := HS.out.c 0 1
  have ag2 := HS.out.c 0 2
  have ag3 := HS.out.c 0 3
  go_simp
  clear af0 ag0 af1 ag1 af2 ag2 af3 ag3
  replace HS := Lh ((((HS.out.put1 0 (.int .i64 0)).put1 1 (.int .i32 0)).put1 2 (.slice none 0 0)).put1 3 (.int .i64 0))
  simp only [sq] at HS
  generalize (((w3.setCell _ _).setCell _ _).setCell _ _).setCell _ _ = w4 at *
  refine hK.out _ _ (⟨HS.out.c 1 0, HS.out.c 1 1, HS.out.c 1 2⟩) (fun _ => ?_)
  clear hK K
  try simp only [sq]
  refine rQ 3 (fun K hK => ?_)
  replace HS := Lh HS.out.f2
  have af0 := (HS.out.blk 0 rfl).free 0
  have af1 := (HS.out.blk 0 rfl).free 1
  have af2 := (HS.out.blk 0 rfl).free 2
  have ag0 := HS.out.c 0 0
  have ag1 := HS.out.c 0 1
  have ag2 := HS.out.c 0 2
  go_simp
  clear af0 ag0 af1 ag1 af2 ag2
  replace HS := Lh (((HS.out.put1 0 (.int .i64 r0)).put1 1 (.int .i64 r1)).put1 2 (.int .i64 r2))
  simp only [sq] at HS
  generalize ((w4.setCell _ _).setCell _ _).setCell _ _ = w5 at *
  refine hK.out _ _ (⟨HS.out.c 2 0, HS.out.c 2 1, HS.out.c 2 2⟩) (fun _ => ?_)
  clear hK K
  try simp only [sq]
  refine fQ ?_ _
  replace HS := Lh HS.out.f2.drop
  go_wp2_with fail
  replace HS := Lh HS.out.f1
  refine bodyPost_ret (v := .tuple #[_, _]) (results_st (HS.out.blk 0 rfl) (HS.out.blk 1 rfl) rfl rfl) rfl ?_
  exact ⟨none, 0, rfl, WdAt.nil, HS.out.mv⟩
 have hT : T = (0, 0, 0) := HTC.out.trans h0
 have hE : E = playP l Fn := by rw [HEC.out, if_pos h0, Int.toNat_natCast]
 clear HTC HEC HT
 subst hT
 obtain ⟨x, rfl, hxF, hxs, PO, HL⟩ := px_of (check_zero h0) hL Fn
 have L := check_zero h0
 clear h0 hL
 dsimp only
 go_upto_region 4 with (fail)
 replace HL := Lh (HL.out.box 40 #[.int .i64 0, .int .i64 0, .int .i64 0])
 generalize w1.alloc _ = w2 at *
 generalize w1.heap.size = tr at *
 have p1 := HL.out.c 0 1
 go_upto_region 6 with (fail)
 clear p1
 replace HL := Lh HL.out.f1
 have f8 := HL.out.one.free 8
 have g8 := HL.out.c 0 8
 go_upto_region 7 with (fail)
 clear f8 g8
 replace HL := Lh (HL.out.put1 8 (.int .i64 (Fn : Int)))
 simp only [sq] at HL
 generalize w2.setCell _ _ = w3 at *
 have HL2 : Hid (Hp w0 w3 (prP l w0.heap.size x (l.map vsU) none 0 [] 0 0 0 0 ([bx tr 40 #[.int .i64 0, .int .i64 0, .int .i64 0]] ++ []))) := by
  have h := (HL.out.row0 w0.heap.size 21 1).f1
  have h2 := h.perm (.cons _ (.cons _ (prC_in (F := [bx tr 40 #[.int .i64 0, .int .i64 0, .int .i64 0]]) [])))
  show Hp _ _ _
  unfold prP
  rw [hxF]
  exact h2
 clear HL
 have HRU := Lh (runs_any L (fun u h => (HHH.out u h).1) (fun u h => (HHH.out u h).2.1) PO (HML.out.keep HS.out.mv) (by rw [hxF]; exact hF3) hxs HL2.out)
 rw [hxF, ← hE] at HRU
 clear HL2 PO hxs L hE
 go_wp2_with fail
 refine (HRU.out).mono ?_
 clear HRU; rintro e w4 ⟨rfl, vs, O, od, dp, HR⟩
 have HR2 := HR.out
 unfold prP at HR2
 have HS2 := HS.out.over (HR2.perm (.cons _ (.cons _ (prC_in (F := [bx tr 40 #[.int .i64 0, .int .i64 0, .int .i64 0]]) []).symm)))
 have HR3 : Hid (w4.ownsRow w0.heap.size 21 1 (.slice O E.out.length od) E.out.length (E.out.map i32)) := (HR2.own 1 rfl)
 have HOB := Lh (fun b hb => HR2.inn (ow w0.heap.size 21 1 (.slice O E.out.length od) E.out.length (E.out.map i32)) (by simp) b hb)
 clear HR2 HR
 replace HS := Lh HS2
 clear HS2
 go_upto_region 8 with (fail)
 have HS3 : Hid (Hp w w4 (bx tb 40 #[.int .i64 0, .int .i64 0, .int .i64 0] :: bx sb 44 #[.int .i64 0, .int .i32 0, .slice none 0 0, .int .i64 0] :: bx x.X 55 #[.int .i64 E.e, .int .i32 E.v, .slice O E.out.length od, .int .i64 (E.t : Int), .slice x.A1 (allB l l.length).length x.d1, .slice x.A2 (allB l l.length).length x.d2, .slice x.A3 (allG l l.length).length x.d3, .slice x.A4 l.length x.d4, .int .i64 (x.F : Int), .int .i64 (dp : Int), .int .i64 x.start] :: ow w0.heap.size 21 1 (.slice O E.out.length od) E.out.length (E.out.map i32) :: bx tr 40 #[.int .i64 0, .int .i64 0, .int .i64 0] :: prC l w0.heap.size x vs [])) := Lh (HS.out.perm List.perm_append_comm)
 replace HS := HS3
 clear HS3
 clear HR3 HOB
 replace HS := Lh HS.out.drew
 refine dQ (fun W => At W (x.X) 0 (.int .i64 E.e) ∧ At W (x.X) 1 (.int .i32 E.v) ∧ At W (x.X) 2 (.slice O E.out.length od) ∧ At W (x.X) 3 (.int .i64 (E.t : Int)) ∧ At W tr 0 (.int .i64 0) ∧ At W tr 1 (.int .i64 0) ∧ At W tr 2 (.int .i64 0)) (⟨HS.out.c 2 0, HS.out.c 2 1, HS.out.c 2 2, HS.out.c 2 3, HS.out.c 4 0, HS.out.c 4 1, HS.out.c 4 2⟩) fun _ => ?_
 generalize w4.drew = w5 at *
 refine tQ4 0 1 2 3 ?_; try simp only [sq]
 refine tQ 4 ?_; try simp only [sq]
 refine rQ 5 (fun K hK => ?_)
 replace HS := Lh HS.out.f1
 have af0 := (HS.out.blk 0 rfl).free 0
 have af1 := (HS.out.blk 0 rfl).free 1
 have af2 := (HS.out.blk 0 rfl).free 2
 have af3 := (HS.out.blk 0 rfl).free 3
 have ag0 := HS.out.c 0 0
 have ag1 := HS.out.c 0 1
 have ag2 := HS.out.c 0 2
 have ag3 := HS.out.c 0 3
 go_simp
 clear af0 ag0 af1 ag1 af2 ag2 af3 ag3
 replace HS := Lh ((((HS.out.put1 0 (.int .i64 E.e)).put1 1 (.int .i32 E.v)).put1 2 (.slice O E.out.length od)).put1 3 (.int .i64 (E.t : Int)))
 simp only [sq] at HS
 generalize (((w5.setCell _ _).setCell _ _).setCell _ _).setCell _ _ = w6 at *
 refine hK.out _ _ (⟨HS.out.c 2 0, HS.out.c 2 1, HS.out.c 2 2, HS.out.c 2 3, HS.out.c 4 0, HS.out.c 4 1, HS.out.c 4 2⟩) (fun _ => ?_)
 clear hK K
 try simp only [sq]
 refine rQ 6 (fun K hK => ?_)
 replace HS := Lh HS.out.f1
 have af0 := (HS.out.blk 0 rfl).free 0
 have af1 := (HS.out.blk 0 rfl).free 1
 have af2 := (HS.out.blk 0 rfl).free 2
 have ag0 := HS.out.c 0 0
 have ag1 := HS.out.c 0 1
 have ag2 := HS.out.c 0 2
 go_simp
 clear af0 ag0 af1 ag1 af2 ag2
 replace HS := Lh (((HS.out.put1 0 (.int .i64 0)).put1 1 (.int .i64 0)).put1 2 (.int .i64 0))
 simp only [sq] at HS
 generalize ((w6.setCell _ _).setCell _ _).setCell _ _ = w7 at *
 refine hK.out _ _ (⟨HS.out.c 2 0, HS.out.c 2 1, HS.out.c 2 2, HS.out.c 2 3, HS.out.c 4 0, HS.out.c 4 1, HS.out.c 4 2⟩) (fun _ => ?_)
 clear hK K
 try simp only [sq]
 refine fQ ?_ _
 replace HS := Lh HS.out.f3.f1.f2
 go_wp2_with fail
 have HOW := (HS.out.own 2 rfl)
 replace HS := Lh HS.out.f1.f1
 refine bodyPost_ret (v := .tuple #[_, _]) (results_st (HS.out.blk 0 rfl) (HS.out.blk 1 rfl) rfl rfl) rfl ?_
 exact ⟨O, od, rfl, WdAt.own HOW, HS.out.mv⟩
theorem MtOut.ans {l : List Un} {w : World} {e : Ending} {w' : World} (h : MtOut l w e w') : ∃ v, e = .returned (.tuple #[v, .agg #[.int .i64 (checkP l).1, .int .i64 (checkP l).2.1, .int .i64 (checkP l).2.2]]) ∧ Below w.heap.size w w' := by
 rcases h with ⟨h1, -, h2⟩ | ⟨h0, X, h1, A1, A2, A3, A4, d1, d2, d3, d4, cb, ms, ms', vr, HS, -⟩
 ·exact ⟨_, h1, h2⟩
 ·rw [h0]; exact ⟨_, h1, HS.out.mv⟩
theorem check3_any (l : List Un) (A : Option Addr) (c : Nat) (w : World) (hr : RepS 3 RepU w A l) (hm : ML w) (hl : l.length ≤ 8) (hh : ∀ u (h : u < l.length), l[u].bs.length ≤ 40 ∧ l[u].gs.length ≤ 40 ∧ l[u].os.length ≤ 40) (hn1 : ∀ u (h : u < l.length), (∀ g ∈ l[u].gs, g.nm.size ≤ maxLen) ∧ ∀ o ∈ l[u].os, o.nm.size ≤ maxLen) :
 Calls Tryz.prog 9 #[.slice A l.length c] w fun e w' => e = .returned (.agg #[.int .i64 (checkP l).1, .int .i64 (checkP l).2.1, .int .i64 (checkP l).2.2]) ∧ Below w.heap.size w w' := by
 obtain ⟨⟨t0, t1, t2⟩, HE⟩ : ∃ E, Hid (checkP l = E) := ⟨_, rfl⟩
 rw [HE.out]
 dsimp only
 have HS := Lh ((Hp.init w).box 40 #[.int .i64 0, .int .i64 0, .int .i64 0])
 have hb0 : Below w.heap.size w (w.alloc (.cells #[.int .i64 0, .int .i64 0, .int .i64 0] 40)) := HS.out.mv
 have HMT := Lh (meet_any l A c _ (RepS.keep (R := RepU) RepU.keep hr hb0) (hm.keep hb0) hl hh hn1)
 clear hr hm hh hn1 hb0
 go_enter Tryz.func9, Tryz.ntmps9
 go_upto_region 1 with (fail)
 generalize w.alloc _ = w0 at *
 generalize hrs : w.heap.size = rs at *
 have HRS := Lh hrs
 clear hrs
 go_wp2_with fail
 refine (HMT.out).mono ?_
 clear HMT
 intro e w1 hO
 obtain ⟨v, rfl, hb⟩ := hO.ans
 replace HS := Lh (HS.out.below hb)
 clear hb hO
 rw [HE.out]
 dsimp only
 go_upto_region 2 with (fail)
 replace HS := Lh (HS.out.box 40 #[.int .i64 t0, .int .i64 t1, .int .i64 t2])
 generalize w1.alloc _ = w2 at *
 generalize w1.heap.size = tb at *
 have p0 := HS.out.c 0 0
 have p1 := HS.out.c 0 1
 have p2 := HS.out.c 0 2
 replace HS := Lh HS.out.drop
 have f0 := HS.out.one.free 0
 have f1 := HS.out.one.free 1
 have f2 := HS.out.one.free 2
 have g0 := HS.out.c 0 0
 have g1 := HS.out.c 0 1
 have g2 := HS.out.c 0 2
 go_wp2_with fail
 have h4 := ((HS.out.put1 0 (.int .i64 t0)).put1 1 (.int .i64 t1)).put1 2 (.int .i64 t2)
 simp only [sq] at h4
 refine bodyPost_ret (v := .agg _) (results_tr (fn := Tryz.f9) rfl h4.one rfl) rfl ?_
 exact ⟨rfl, h4.mv⟩
theorem check_code {l : List Un} (h : (checkP l).2.1 = 0) : checkP l = (0, 0, 0) := by
 by_cases h12 : l.length < 1 ∨ 4 < l.length
 ·unfold checkP at h
  rw [if_pos h12] at h
  cases h
 have n1 : 1 ≤ l.length := by omega
 have n4 : l.length ≤ 4 := by omega
 rw [ck_un n1 n4] at h ⊢
 have k1 : ∀ x, fstO l.length (f1 l) = some x → x.2.1 ≠ 0 := fun x => fst_ok fun j x hx => by unfold f1 at hx; split at hx; cases hx; injection hx with hx; subst hx; simp
 have k2 : ∀ x, fstO l.length (f2 l) = some x → x.2.1 ≠ 0 := fun x => fst_ok fun j x hx => fst_ok (fun i y hy => by unfold g2 at hy; split at hy; cases hy; injection hy with hy; subst hy; simp) hx
 have k3 : ∀ x, fstO l.length (f3 l) = some x → x.2.1 ≠ 0 := fun x => fst_ok fun j x hx => fst_ok (fun i y hy => by unfold g3 at hy; split at hy; injection hy with hy; subst hy; simp; cases hy) hx
 have k4 : ∀ x, fstO l.length (f4 l) = some x → x.2.1 ≠ 0 := fun x => fst_ok fun j x hx => fst_ok (fun i y hy => by
  unfold g4 at hy
  split at hy
  ·injection hy with hy; subst hy; simp
  ·split at hy
   ·injection hy with hy; subst hy; simp
   ·cases hy) hx
 rcases e : ((((fstO l.length (f1 l)).or (fstO l.length (f2 l))).or (fstO l.length (f3 l))).or (fstO l.length (f4 l))).or (ckMain l) with _ | x
 ·rfl
 ·rw [e] at h
  exact absurd h (or_ok (or_ok (or_ok (or_ok k1 k2) k3) k4) (main_ok l) x e)
theorem act_out {l : List Un} {f : Fr} {m m' : Ms} {r : List Int} {pc : Nat} (h : act l f m = .go r pc m') : m'.out.length ≤ m.out.length + 1 := by
 unfold act at h
 dsimp only at h
 by_cases e1 : (ord l f).op = 1
 ·rw [if_pos e1] at h; injection h with h1 h2 h3; subst h3; exact Nat.le_succ _
 rw [if_neg e1] at h
 by_cases e2 : (ord l f).op = 2
 ·rw [if_pos e2] at h; injection h with h1 h2 h3; subst h3; exact Nat.le_succ _
 rw [if_neg e2] at h
 by_cases e3 : (ord l f).op = 3
 ·rw [if_pos e3] at h; cases hb : opOk (ord l f).n ((src f (ord l f)).getD 1 0) <;> rw [hb] at h; cases h; injection h with h1 h2 h3; subst h3; exact Nat.le_succ _
 rw [if_neg e3] at h
 by_cases e4 : (ord l f).op = 4
 ·rw [if_pos e4] at h; injection h with h1 h2 h3; subst h3; exact Nat.le_succ _
 rw [if_neg e4] at h
 by_cases e5 : (ord l f).op = 5
 ·rw [if_pos e5] at h; injection h with h1 h2 h3; subst h3; exact Nat.le_succ _
 rw [if_neg e5] at h
 by_cases e6 : (ord l f).op = 6
 ·rw [if_pos e6] at h; injection h with h1 h2 h3; subst h3; exact Nat.le_succ _
 rw [if_neg e6] at h
 by_cases e7 : (ord l f).op = 7
 ·rw [if_pos e7] at h; cases h
 rw [if_neg e7] at h
 by_cases e8 : (ord l f).op = 8
 ·rw [if_pos e8] at h
  cases hb : bck l ((src f (ord l f)).getD 0 0) with
  | none => rw [hb] at h; cases h
  | some p => rw [hb] at h; cases ht : eqB (bod l p.1 p.2).ty (ord l f).ty <;> simp [ht] at h
 rw [if_neg e8] at h
 by_cases e9 : (ord l f).op = 9
 ·rw [if_pos e9] at h; injection h with h1 h2 h3; subst h3; exact Nat.le_succ _
 rw [if_neg e9] at h
 by_cases e10 : (ord l f).op = 10
 ·rw [if_pos e10] at h; injection h with h1 h2 h3; subst h3; exact Nat.le_succ _
 rw [if_neg e10] at h
 by_cases e11 : (ord l f).op = 11
 ·rw [if_pos e11] at h; injection h with h1 h2 h3; subst h3; simp
 rw [if_neg e11] at h
 by_cases e12 : (ord l f).op = 12
 ·rw [if_pos e12] at h; cases h
 rw [if_neg e12] at h
 by_cases e13 : (ord l f).op = 13
 ·rw [if_pos e13] at h; injection h with h1 h2 h3; subst h3; exact Nat.le_succ _
 rw [if_neg e13] at h
 injection h with h1 h2 h3; subst h3; exact Nat.le_succ _
theorem run_len {l : List Un} : ∀ (n : Nat) (f : Fr) (K : List Fr) (m : Ms) (t : Nat), (run l n f K m t).out.length ≤ m.out.length + n
 | 0, f, K, m, t => by unfold run; exact Nat.le_refl _
 | n + 1, f, K, m, t => by
  rcases h : act l f m with ⟨r, pc, m'⟩ | ⟨u, i, a⟩ | s | e
  ·rw [run_go h]
   have := run_len (l := l) n { f with r := r, pc := pc } K m' (t + 1)
   have := act_out h
   omega
  ·rw [run_call h]
   unfold rcl
   split
   ·show m.out.length ≤ _; omega
   ·have := run_len (l := l) n (beg l u i a) ({ f with pc := f.pc + 1 } :: K) m (t + 1)
    omega
  ·rw [run_ret h]
   cases K with
   | nil => show m.out.length ≤ _; omega
   | cons g K =>
    have := run_len (l := l) n (gv l g s) K m (t + 1)
    show (run l n (gv l g s) K m (t + 1)).out.length ≤ _
    omega
  ·rw [run_stop h]
   show m.out.length ≤ _
   omega
theorem run_out (l : List Un) {F : Nat} (h : F ≤ 300000) : (playP l F).out.length ≤ 300000 := by
 have := run_len (l := l) F (beg l (mainP l).1 (mainP l).2 []) [] ⟨l.map vsU, []⟩ 0
 simp at this
 unfold playP
 omega
theorem threeRuns_any (l : List Un) (A : Option Addr) (c : Nat) (F : Int) (w : World) (hr : RepS 3 RepU w A l) (hm : ML w) (hl : l.length ≤ maxLen) (hn1 : ∀ u (h : u < l.length), (∀ g ∈ l[u].gs, g.nm.size ≤ maxLen) ∧ ∀ o ∈ l[u].os, o.nm.size ≤ maxLen) :
 Calls Tryz.prog 3 #[.slice A l.length c, .int .i64 F] w fun e w' => e = .returned (.bool true) ∧ Below w.heap.size w w' := by
 have HHV := Lh (heavy_any l A c w hr hl)
 have HA := Lh hr
 have HM := Lh hm
 have HN := Lh hn1
 clear hl hr hm hn1
 go_enter Tryz.func3, Tryz.ntmps3
 go_wp2_with fail
 refine (HHV.out).mono ?_
 clear HHV
 rintro e w0 ⟨b, rfl, rfl, hlt⟩
 cases b with
 | true =>
  go_wp2
  go_ret
  exact ⟨rfl, Below.refl _ _⟩
 | false =>
  obtain ⟨hl8, hh⟩ := hlt rfl
  have HH := Lh hh
  clear hh hlt
  go_wp2_with fail
  go_loopw [5] (fun iv wr => ∃ k : Nat, k ≤ l.length ∧ iv = .int .i64 k ∧ Hid (Hp w0 wr [])) (fun iv _ => l.length - (intOf iv).toNat)
  case atStart => exact ⟨0, Nat.zero_le _, rfl, Lh (Hp.init w0)⟩
  case round =>
   obtain ⟨k, hk, rfl, HS⟩ := hrel
   obtain ⟨w1, rfl⟩ : ∃ x, x = wr := ⟨_, rfl⟩
   by_cases hlt : k < l.length
   ·obtain ⟨bb, oo, rfl, -⟩ := HA.out.adr (by omega)
    obtain ⟨cs, hrep, hc⟩ := HA.out.row hlt
    have HU := Lh hrep
    obtain ⟨hb40, hg40, ho40⟩ := HH.out k hlt
    have HNU := Lh (HN.out k hlt)
    obtain ⟨UA, ua, UB, ub, UC, uc, rfl, rA, -⟩ := hrep
    have HC := Lh hc
    have RA := Lh rA
    have hi : (k : Int) < (l.length : Int) := by omega
    have hi0 : (0 : Int) ≤ (k : Int) := by omega
    have hi6 : (k : Int) < 100 := by omega
    clear hc rA
    generalize l[k] = u at *
    obtain ⟨fb, hfb⟩ : ∃ b, fitsB u = b := ⟨_, rfl⟩
    have HF3 : Hid (∀ W, Below w0.heap.size w0 W → Calls Tryz.prog 5 #[.agg #[.slice UA u.bs.length ua, .slice UB u.gs.length ub, .slice UC u.os.length uc]] W fun e W' => e = .returned (.bool fb) ∧ Below W.heap.size W W') := fun W hW => by rw [← hfb]; exact fits3_any u _ W (HU.out.keep hW) (HM.out.keep hW) HNU.out.1 HNU.out.2 hb40 hg40 ho40
    have HFR : Hid (∀ W, Below w0.heap.size w0 W → Calls Tryz.prog 6 #[.agg #[.slice UA u.bs.length ua, .slice UB u.gs.length ub, .slice UC u.os.length uc]] W fun e W' => e = .returned (.bool fb) ∧ Below W.heap.size W W') := fun W hW => by rw [← hfb]; exact fitsR_any u _ W (HU.out.keep hW) hb40 hg40 ho40
    have hff : (fb != fb) = false := by simp
    clear hfb
    go_upto_region 6 with (fail)
    have HSS : Hid (∀ W, Below w0.heap.size w0 W → W.cell? ⟨bb, oo + k * 3, none⟩ = some (.slice UA u.bs.length ua) ∧ W.cell? ⟨bb, oo + k * 3 + 1, none⟩ = some (.slice UB u.gs.length ub) ∧ W.cell? ⟨bb, oo + k * 3 + 2, none⟩ = some (.slice UC u.os.length uc)) := fun W hW => ⟨by have h := HC.out W hW 0 _ rfl; rwa [Nat.add_zero] at h, HC.out W hW 1 _ rfl, HC.out W hW 2 _ rfl⟩
    replace HS := Lh HS.out.drew
    refine dQ (fun W => At W bb (oo + k * 3) (.slice UA u.bs.length ua) ∧ At W bb (oo + k * 3 + 1) (.slice UB u.gs.length ub) ∧ At W bb (oo + k * 3 + 2) (.slice UC u.os.length uc)) (HSS.out _ HS.out.mv) fun _ => ?_
    generalize w1.drew = w2 at *
    refine tQ4 0 1 2 3 ?_; try simp only [sq]
    refine tQ4 5 6 7 8 ?_; try simp only [sq]
    refine rQ 4 (fun K hK => ?_)
    go_simp
    refine (HF3.out _ HS.out.mv).mono ?_
    rintro e w3 ⟨rfl, hb⟩
    replace HS := Lh (HS.out.below hb)
    clear hb
    refine hK.out _ _ (HSS.out _ HS.out.mv) (fun _ => ?_)
    clear hK K
    try simp only [sq]
    refine rQ 9 (fun K hK => ?_)
    go_simp
    refine (HFR.out _ HS.out.mv).mono ?_
    rintro e w4 ⟨rfl, hb⟩
    replace HS := Lh (HS.out.below hb)
    clear hb
    refine hK.out _ _ (HSS.out _ HS.out.mv) (fun _ => ?_)
    clear hK K
    try simp only [sq]
    refine tQ 10 ?_; try simp only [sq]
    refine fQ ?_ _
    clear HF3 HFR
    skip
    have c0 := (HSS.out _ HS.out.mv).1
    go_wp2_with fail
    clear hff c0
    go_loopw [6] (fun iv wr => ∃ j : Nat, j ≤ u.bs.length ∧ iv = .int .i64 j ∧ Hid (Hp w0 wr [])) (fun iv _ => u.bs.length - (intOf iv).toNat)
    case atStart => exact ⟨0, Nat.zero_le _, rfl, HS⟩
    case round =>
     clear HS; obtain ⟨j, hj, rfl, HS⟩ := hrel
     obtain ⟨w5, rfl⟩ : ∃ x, x = wr := ⟨_, rfl⟩
     have c0 := (HSS.out _ HS.out.mv).1
     by_cases hjl : j < u.bs.length
     ·obtain ⟨b2, o2, rfl, -⟩ := RA.out.adr (by omega)
      obtain ⟨cs2, hrb, hd⟩ := RA.out.row hjl
      have HB := Lh hrb
      obtain ⟨An, cn, Ap, cp, A', c', rfl, -⟩ := hrb.nine
      have HD := Lh hd
      clear hd hrb
      have ji : (j : Int) < (u.bs.length : Int) := by omega
      have ji0 : (0 : Int) ≤ (j : Int) := by omega
      have jk6 : (j : Int) < 100 := by omega
      generalize u.bs[j] = b at *
      obtain ⟨mb, hmb⟩ : ∃ x, bodyB b = x := ⟨_, rfl⟩
      have HM3 : Hid (∀ W, Below w0.heap.size w0 W → Calls Tryz.prog 7 #[.agg #[.string b.nm, .bool b.static, .int .i64 b.ty.k, .string b.ty.nm, .slice An b.ty.ns.length cn, .slice Ap b.ty.ps.length cp, .bool b.ty.many, .int .i64 b.regs, .slice A' b.code.length c']] W fun e W' => e = .returned (.bool mb) ∧ Below W.heap.size W W') := fun W hW => by rw [← hmb]; exact may3_any b _ W (HB.out.keep hW) (HM.out.keep hW)
      have HMR : Hid (∀ W, Below w0.heap.size w0 W → Calls Tryz.prog 8 #[.agg #[.string b.nm, .bool b.static, .int .i64 b.ty.k, .string b.ty.nm, .slice An b.ty.ns.length cn, .slice Ap b.ty.ps.length cp, .bool b.ty.many, .int .i64 b.regs, .slice A' b.code.length c']] W fun e W' => e = .returned (.bool mb) ∧ Below W.heap.size W W') := fun W hW => by rw [← hmb]; exact mayR11_any b _ W (HB.out.keep hW)
      have hmm : (mb != mb) = false := by simp
      clear hmb
      go_upto_region 11 with (fail)
      clear c0
      have HS3 : Hid (∀ W, Below w0.heap.size w0 W → W.cell? ⟨bb, oo + k * 3, none⟩ = some (.slice (some ⟨b2, o2, none⟩) u.bs.length ua) ∧ W.cell? ⟨b2, o2 + j * 9, none⟩ = some (.string b.nm) ∧ W.cell? ⟨b2, o2 + j * 9 + 1, none⟩ = some (.bool b.static) ∧ W.cell? ⟨b2, o2 + j * 9 + 2, none⟩ = some (.int .i64 b.ty.k) ∧ W.cell? ⟨b2, o2 + j * 9 + 3, none⟩ = some (.string b.ty.nm) ∧ W.cell? ⟨b2, o2 + j * 9 + 4, none⟩ = some (.slice An b.ty.ns.length cn) ∧ W.cell? ⟨b2, o2 + j * 9 + 5, none⟩ = some (.slice Ap b.ty.ps.length cp) ∧ W.cell? ⟨b2, o2 + j * 9 + 6, none⟩ = some (.bool b.ty.many) ∧ W.cell? ⟨b2, o2 + j * 9 + 7, none⟩ = some (.int .i64 b.regs) ∧ W.cell? ⟨b2, o2 + j * 9 + 8, none⟩ = some (.slice A' b.code.length c')) := fun W hW => ⟨(HSS.out W hW).1, by have h := HD.out W hW 0 _ rfl; rwa [Nat.add_zero] at h, HD.out W hW 1 _ rfl, HD.out W hW 2 _ rfl, HD.out W hW 3 _ rfl, HD.out W hW 4 _ rfl, HD.out W hW 5 _ rfl, HD.out W hW 6 _ rfl, HD.out W hW 7 _ rfl, HD.out W hW 8 _ rfl⟩
      replace HS := Lh HS.out.drew
      refine dQ (fun W => At W bb (oo + k * 3) (.slice (some ⟨b2, o2, none⟩) u.bs.length ua) ∧ At W b2 (o2 + j * 9) (.string b.nm) ∧ At W b2 (o2 + j * 9 + 1) (.bool b.static) ∧ At W b2 (o2 + j * 9 + 2) (.int .i64 b.ty.k) ∧ At W b2 (o2 + j * 9 + 3) (.string b.ty.nm) ∧ At W b2 (o2 + j * 9 + 4) (.slice An b.ty.ns.length cn) ∧ At W b2 (o2 + j * 9 + 5) (.slice Ap b.ty.ps.length cp) ∧ At W b2 (o2 + j * 9 + 6) (.bool b.ty.many) ∧ At W b2 (o2 + j * 9 + 7) (.int .i64 b.regs) ∧ At W b2 (o2 + j * 9 + 8) (.slice A' b.code.length c')) (HS3.out _ HS.out.mv) fun _ => ?_
      generalize w5.drew = w6 at *
      refine tQ4 0 1 2 3 ?_; try simp only [sq]
      refine tQ4 4 5 6 7 ?_; try simp only [sq]
      refine tQ4 9 10 11 12 ?_; try simp only [sq]
      refine tQ4 13 14 15 16 ?_; try simp only [sq]
      refine rQ 8 (fun K hK => ?_)
      go_simp
      refine (HM3.out _ HS.out.mv).mono ?_
      rintro e w7 ⟨rfl, hb⟩
      replace HS := Lh (HS.out.below hb)
      clear hb
      refine hK.out _ _ (HS3.out _ HS.out.mv) (fun _ => ?_)
      clear hK K
      try simp only [sq]
      refine rQ 17 (fun K hK => ?_)
      go_simp
      refine (HMR.out _ HS.out.mv).mono ?_
      rintro e w8 ⟨rfl, hb⟩
      replace HS := Lh (HS.out.below hb)
      clear hb
      refine hK.out _ _ (HS3.out _ HS.out.mv) (fun _ => ?_)
      clear hK K
      try simp only [sq]
      refine tQ 18 ?_; try simp only [sq]
      refine fQ ?_ _
      clear HM3 HMR
      go_wp2_with fail
      go_roundw
      case rel => exact ⟨j + 1, by omega, by go_num, HS⟩
      case measure => simp [intOf] <;> omega
     have ji : ¬ (j : Int) < (u.bs.length : Int) := by omega
     go_wp2_with fail
     go_roundw
     case rel => exact ⟨k + 1, by omega, by go_num, HS⟩
     case measure => simp [intOf] <;> omega
   have hi : ¬ (k : Int) < (l.length : Int) := by omega
   obtain rfl : k = l.length := by omega
   have HCK := Lh (fun W (hW : Below w0.heap.size w0 W) => check3_any l A c W (RepS.keep (R := RepU) RepU.keep HA.out hW) (HM.out.keep hW) hl8 HH.out HN.out)
   have HCR := Lh (fun W (hW : Below w0.heap.size w0 W) => checkR_any l A c W (RepS.keep (R := RepU) RepU.keep HA.out hW) hl8 HH.out)
   have HRN := Lh (fun W (hW : Below w0.heap.size w0 W) => run3_any l A c F W (RepS.keep (R := RepU) RepU.keep HA.out hW) (HM.out.keep hW) hl8 HH.out HN.out)
   obtain ⟨⟨t0, t1, t2⟩, hT⟩ : ∃ T, checkP l = T := ⟨_, rfl⟩
   have HT := Lh hT
   rw [hT] at HCK HCR
   clear hT
   obtain ⟨⟨u0, u1, u2⟩, hU⟩ : ∃ T, runT l F = T := ⟨_, rfl⟩
   have HTU := Lh hU
   rw [hU] at HRN
   clear hU
   obtain ⟨⟨Ee, Ev, Eo, Et⟩, hE⟩ : ∃ E, runE l F = E := ⟨_, rfl⟩
   have HE := Lh hE
   rw [hE] at HRN
   clear hE
   go_wp2_with fail
   refine (HCK.out _ HS.out.mv).mono ?_
   rintro e w2 ⟨rfl, hb⟩
   replace HS := Lh (HS.out.below hb)
   clear hb HCK
   dsimp only
   go_upto_region 14 with (fail)
   replace HS := Lh (HS.out.box 40 #[.int .i64 t0, .int .i64 t1, .int .i64 t2])
   generalize w2.alloc _ = w3 at *
   generalize w2.heap.size = b7 at *
   go_wp2_with fail
   refine (HCR.out _ HS.out.mv).mono ?_
   rintro e w4 ⟨rfl, hb⟩
   replace HS := Lh (HS.out.below hb)
   clear hb HCR
   dsimp only
   go_upto_region 15 with (fail)
   replace HS := Lh (HS.out.box 40 #[.int .i64 t0, .int .i64 t1, .int .i64 t2])
   generalize w4.alloc _ = w5 at *
   generalize w4.heap.size = b8 at *
   go_wp2_with fail
   refine (HRN.out _ HS.out.mv).mono ?_
   rintro e w6 ⟨O, od, rfl, hWD, hb⟩
   replace HS := Lh (HS.out.below hb)
   have HWD := Lh hWD
   clear hb HRN hWD
   dsimp only
   go_upto_region 16 with (fail)
   have hz : (w6.alloc (.cells #[.int .i64 Ee, .int .i32 Ev, .slice O Eo.length od, .int .i64 (Et : Int)] 44)).heap.size = w6.heap.size + 1 := by simp
   replace HS := Lh ((HS.out.box 44 #[.int .i64 Ee, .int .i32 Ev, .slice O Eo.length od, .int .i64 (Et : Int)]).box 40 #[.int .i64 u0, .int .i64 u1, .int .i64 u2])
   have HW2 : Below w6.heap.size w6 ((w6.alloc (.cells #[.int .i64 Ee, .int .i32 Ev, .slice O Eo.length od, .int .i64 (Et : Int)] 44)).alloc (.cells #[.int .i64 u0, .int .i64 u1, .int .i64 u2] 40)) := bel
   replace HWD := Lh (HWD.out.keep HW2)
   clear HW2
   rw [hz] at HS
   try rw [hz]
   clear hz
   generalize (w6.alloc _).alloc _ = w7 at *
   generalize w6.heap.size + 1 = b10 at *
   generalize w6.heap.size = b9 at *
   have p0 := HS.out.c 3 0
   have p1 := HS.out.c 3 1
   have p2 := HS.out.c 3 2
   have q0 := HS.out.c 2 0
   have q1 := HS.out.c 2 1
   have q2 := HS.out.c 2 2
   go_upto_region 18 with (fail)
   clear p0 p1 p2 q0 q1 q2
   by_cases hbad : F < 0 ∨ 300000 < F
   ·have hE := HE.out
    unfold runE at hE
    rw [if_pos hbad] at hE
    have hU := HTU.out
    unfold runT at hU
    rw [if_pos hbad] at hU
    clear HE HTU
    obtain ⟨rfl, rfl, rfl, rfl⟩ : Ee = 0 ∧ Ev = 0 ∧ Eo = [] ∧ Et = 0 := by unfold zShw at hE; injection hE with a1 a2 a3 a4; exact ⟨a1.symm, a2.symm, a3.symm, a4.symm⟩
    obtain ⟨rfl, rfl, rfl⟩ : u0 = 0 ∧ u1 = 6 ∧ u2 = 0 := by injection hU with a1 a2; injection a2 with a2 a3; exact ⟨a1.symm, a2.symm, a3.symm⟩
    clear hE hU
    have HSH := Lh (shown_eq O none od 0 0 0 0 [] w7 HWD.out WdAt.nil (Nat.zero_le _))
    replace HS : Hid (Hp w0 w7 (bx b10 40 #[.int .i64 0, .int .i64 6, .int .i64 0] :: bx b9 44 #[.int .i64 0, .int .i32 0, .slice O 0 od, .int .i64 0] :: bx b8 40 #[.int .i64 t0, .int .i64 t1, .int .i64 t2] :: bx b7 40 #[.int .i64 t0, .int .i64 t1, .int .i64 t2] :: [])) := HS
    have p0 := HS.out.c 0 0
    have p1 := HS.out.c 0 1
    have p2 := HS.out.c 0 2
    have q0 := HS.out.c 1 0
    have q1 := HS.out.c 1 1
    have q2 := HS.out.c 1 2
    have q3 := HS.out.c 1 3
    by_cases h0 : F < 0
    ·have g1 : decide (F < 0) = true := by simpa using h0
     clear hbad h0
     go_wp2_with fail
     refine (HSH.out).mono ?_
     rintro e w8 ⟨rfl, hb⟩
     replace HS := Lh (HS.out.below hb)
     clear hb HSH
     go_wp2_with fail
     go_ret
     exact ⟨rfl, HS.out.mv⟩
    have g1 : decide (F < 0) = false := by simpa using h0
    have g2 : decide (300000 < F) = true := by simp; omega
    clear hbad h0
    go_wp2_with fail
    refine (HSH.out).mono ?_
    rintro e w8 ⟨rfl, hb⟩
    replace HS := Lh (HS.out.below hb)
    clear hb HSH
    go_wp2_with fail
    go_ret
    exact ⟨rfl, HS.out.mv⟩
   have g1 : decide (F < 0) = false := by simp; omega
   have g2 : decide (300000 < F) = false := by simp; omega
   have hE := HE.out
   unfold runE at hE
   rw [if_neg hbad] at hE
   have hU := HTU.out
   unfold runT at hU
   rw [if_neg hbad, HT.out] at hU
   clear HE HTU
   obtain ⟨rfl, rfl, rfl⟩ : t0 = u0 ∧ t1 = u1 ∧ t2 = u2 := by injection hU with a1 a2; injection a2 with a2 a3; exact ⟨a1, a2, a3⟩
   obtain ⟨Fn, rfl⟩ : ∃ Fn : Nat, F = (Fn : Int) := ⟨F.toNat, by omega⟩
   have hF3 : Fn ≤ 300000 := by omega
   clear hU hbad
   rw [Int.toNat_natCast] at hE
   by_cases hc : t1 = 0
   rotate_left
   ·rw [if_neg (fun h => hc (by have := HT.out; rw [h] at this; injection this with a1 a2; injection a2 with a2 a3; exact a2.symm))] at hE
    obtain ⟨rfl, rfl, rfl, rfl⟩ : Ee = 0 ∧ Ev = 0 ∧ Eo = [] ∧ Et = 0 := by unfold zShw at hE; injection hE with a1 a2 a3 a4; exact ⟨a1.symm, a2.symm, a3.symm, a4.symm⟩
    clear hE
    have hcn : (t1 != 0) = true := by simpa using hc
    clear hc
    have HSH := Lh (shown_eq O none od 0 0 0 0 [] w7 HWD.out WdAt.nil (Nat.zero_le _))
    replace HS : Hid (Hp w0 w7 (bx b10 40 #[.int .i64 t0, .int .i64 t1, .int .i64 t2] :: bx b9 44 #[.int .i64 0, .int .i32 0, .slice O 0 od, .int .i64 0] :: bx b8 40 #[.int .i64 t0, .int .i64 t1, .int .i64 t2] :: bx b7 40 #[.int .i64 t0, .int .i64 t1, .int .i64 t2] :: [])) := HS
    have p0 := HS.out.c 0 0
    have p1 := HS.out.c 0 1
    have p2 := HS.out.c 0 2
    have q0 := HS.out.c 1 0
    have q1 := HS.out.c 1 1
    have q2 := HS.out.c 1 2
    have q3 := HS.out.c 1 3
    have r0 := HS.out.c 2 0
    have r1 := HS.out.c 2 1
    have r2 := HS.out.c 2 2
    go_wp2_with fail
    refine (HSH.out).mono ?_
    rintro e w8 ⟨rfl, hb⟩
    replace HS := Lh (HS.out.below hb)
    clear hb HSH
    go_wp2_with fail
    go_ret
    exact ⟨rfl, HS.out.mv⟩
   subst hc
   have hT0 : checkP l = (0, 0, 0) := check_code (by rw [HT.out])
   have L := check_zero hT0
   obtain ⟨rfl, rfl⟩ : t0 = 0 ∧ t2 = 0 := by have := HT.out; rw [hT0] at this; injection this with a1 a2; injection a2 with a2 a3; exact ⟨a1.symm, a3.symm⟩
   rw [if_pos hT0] at hE
   clear HT hT0
   have HPL := Lh (fun W (hW : Below w0.heap.size w0 W) => play_any L (fun u h => (HH.out u h).1) (fun u h => (HH.out u h).2.1) (c := c) (RepS.keep (R := RepU) RepU.keep HA.out hW) Fn hF3)
   have HLT : Hid (Eo.length ≤ 300000) := by
    show _ ≤ _
    have := run_out l hF3
    rw [hE] at this
    exact this
   rw [hE] at HPL
   clear hE L
   replace HS : Hid (Hp w0 w7 (bx b10 40 #[.int .i64 0, .int .i64 0, .int .i64 0] :: bx b9 44 #[.int .i64 Ee, .int .i32 Ev, .slice O Eo.length od, .int .i64 (Et : Int)] :: bx b8 40 #[.int .i64 0, .int .i64 0, .int .i64 0] :: bx b7 40 #[.int .i64 0, .int .i64 0, .int .i64 0] :: [])) := HS
   have r1 := HS.out.c 2 1
   go_wp2_with fail
   refine (HPL.out _ HS.out.mv).mono ?_
   clear g1 g2 r1; rintro e w8 ⟨O2, od2, L2, rfl, HP⟩
   have hWP := WdAt.own (HP.out.own 0 rfl)
   have hb := HP.out.mv
   replace HWD := Lh (HWD.out.keep hb)
   replace HS := Lh (HS.out.below hb)
   clear hb HP HPL
   have HWP := Lh hWP
   clear hWP
   dsimp only at HWP
   dsimp only
   go_upto_region 23 with (fail)
   have HW2 : Below w8.heap.size w8 (w8.alloc (.cells #[.int .i64 Ee, .int .i32 Ev, .slice O2 Eo.length od2, .int .i64 (Et : Int)] 44)) := bel
   replace HWD := Lh (HWD.out.keep HW2)
   replace HWP := Lh (HWP.out.keep HW2)
   clear HW2
   replace HS := Lh (HS.out.box 44 #[.int .i64 Ee, .int .i32 Ev, .slice O2 Eo.length od2, .int .i64 (Et : Int)])
   generalize w8.alloc _ = w9 at *
   generalize w8.heap.size = b11 at *
   have HSH := Lh (shown_eq O O2 od od2 Ee Ev (Et : Int) Eo w9 HWD.out HWP.out HLT.out)
   have p0 := HS.out.c 1 0
   have p1 := HS.out.c 1 1
   have p2 := HS.out.c 1 2
   have q0 := HS.out.c 2 0
   have q1 := HS.out.c 2 1
   have q2 := HS.out.c 2 2
   have q3 := HS.out.c 2 3
   have r0 := HS.out.c 0 0
   have r1 := HS.out.c 0 1
   have r2 := HS.out.c 0 2
   have r3 := HS.out.c 0 3
   go_wp2_with fail
   refine (HSH.out).mono ?_
   rintro e w10 ⟨rfl, hb⟩
   replace HS := Lh (HS.out.below hb)
   clear hb HSH
   go_wp2_with fail
   go_ret
   exact ⟨rfl, HS.out.mv⟩
end Go.Proofs.YthihaeobkoiljaaGreat
