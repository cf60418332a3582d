/- Lemmas for the law. -/
import Derived.Test.YthihaeobkoiljaaGreatQ19
set_option linter.unusedVariables false
set_option linter.unusedSimpArgs false
set_option maxRecDepth 100000
set_option maxHeartbeats 40000000
namespace Go.Proofs.YthihaeobkoiljaaGreat
open Go.RowKit
theorem leaves_same {P : Program} {fn : Func} {R : Ending → World → Prop} {t t' : Array Value} (h : ∀ w, (results fn t).run P w = (results fn t').run P w) : ∀ (ds : List Deferred) (u : FrameMode) (w : World), Leaves P fn t R ds u w → Leaves P fn t' R ds u w
 | [], .returning, w, ⟨v, h1, h2⟩ => ⟨v, by rw [← h]; exact h1, h2⟩
 | [], .panicking _, w, h1 => h1
 | [], .run, _, h1 => h1
 | d :: ds, u, w, ⟨h0, fv, cap, f, args, h1, h2, h3⟩ => ⟨h0, fv, cap, f, args, h1, h2, h3.mono fun e u' w' hh => by
  cases e with
  | returned v => exact leaves_same h ds _ _ hh
  | panicked c => exact leaves_same h ds _ _ hh
  | outgrown => exact hh⟩
theorem hq_dst {R : Ending → World → Prop} {dst : Option Tmp} (hd : dst ≠ some 6) {c : List PanicEntry} {a : Act} {w : World} {v : Value} (h : bodyPostD Tryz.prog Tryz.f61 R (.panic c) (a.put dst v) w) : bodyPostD Tryz.prog Tryz.f61 R (.panic c) a w := by
 cases dst with
 | none => exact h
 | some d =>
  have h6 : d ≠ 6 := fun e => hd (by rw [e])
  have h' : Leaves Tryz.prog Tryz.f61 (a.put (some d) v).tmps R (a.put (some d) v).defers (.panicking c) w := h
  show Leaves Tryz.prog Tryz.f61 a.tmps R a.defers (.panicking c) w
  refine leaves_same (fun W => ?_) _ _ _ h'
  have hres := Tryz.results61
  have e : (a.put (some d) v).tmps.getD 6 undef = a.tmps.getD 6 undef := by
   show (a.tmps.setIfInBounds d v).getD 6 undef = _
   simp [Array.getD_eq_getD_getElem?, Array.getElem?_setIfInBounds, h6]
  rw [results_tmp hres, results_tmp hres, e]
section
variable {P : Program} {ops : Array Oper} {Q : Exit → Act → World → Prop} {md : Region.Mode} {S : World → Prop} {fuel : Nat} {listed : Array Bool} {a : Act} {w : World}
theorem tQd (i : Nat) {o0 : Oper} {v0 : Value} (h : wpAnyH P md ops Q S fuel (listed.setIfInBounds i true) (a.put o0.dst v0) w)
 (hi0 : ops[i]? = some o0 := by rfl) (hf0 : Region.free md ops listed i = true := by kernel_rfl) (hr0 : (Region.ready md ops listed).contains i = true := by kernel_rfl) (hQ0 : ∀ c a w, Q (.panic c) (a.put o0.dst v0) w → Q (.panic c) a w := by exact fun _ _ _ h => hq_dst (by decide) h) (hw0 : Region.wanted o0 (yielded ops a.tmps) = true := by rfl) (hy0 : ∀ w, S w → (execOp a.eval o0).run P w = .ok (.value v0) w := by ((intro w hSw; (try dsimp only [At] at hSw); go_simp) <;> with_reducible rfl))
 (hs : Region.noSelect ops = true := by kernel_rfl) (hS : S w := by assumption) : wpAnyH P md ops Q S (fuel + 1) listed a w :=
 wpAnyH_take hi0 hs hf0 hr0 hQ0 (Or.inl ⟨hw0, hy0⟩) hS (h)
theorem tQ2d (i j : Nat) {o0 o1 : Oper} {v0 v1 : Value} (h : wpAnyH P md ops Q S fuel ((listed.setIfInBounds i true).setIfInBounds j true) ((a.put o0.dst v0).put o1.dst v1) w)
 (hi0 : ops[i]? = some o0 := by rfl) (hf0 : Region.free md ops listed i = true := by kernel_rfl) (hr0 : (Region.ready md ops listed).contains i = true := by kernel_rfl) (hQ0 : ∀ c a w, Q (.panic c) (a.put o0.dst v0) w → Q (.panic c) a w := by exact fun _ _ _ h => hq_dst (by decide) h) (hw0 : Region.wanted o0 (yielded ops a.tmps) = true := by rfl) (hy0 : ∀ w, S w → (execOp a.eval o0).run P w = .ok (.value v0) w := by ((intro w hSw; (try dsimp only [At] at hSw); go_simp) <;> with_reducible rfl))
 (hi1 : ops[j]? = some o1 := by rfl) (hf1 : Region.free md ops (listed.setIfInBounds i true) j = true := by kernel_rfl) (hr1 : (Region.ready md ops (listed.setIfInBounds i true)).contains j = true := by kernel_rfl) (hQ1 : ∀ c a w, Q (.panic c) (a.put o1.dst v1) w → Q (.panic c) a w := by exact fun _ _ _ h => hq_dst (by decide) h) (hw1 : Region.wanted o1 (yielded ops (a.put o0.dst v0).tmps) = true := by ((try simp only [sq]); rfl)) (hy1 : ∀ w, S w → (execOp (a.put o0.dst v0).eval o1).run P w = .ok (.value v1) w := by ((intro w hSw; (try dsimp only [At] at hSw); (try simp only [sq]); go_simp) <;> with_reducible rfl))
 (hs : Region.noSelect ops = true := by kernel_rfl) (hS : S w := by assumption) : wpAnyH P md ops Q S (fuel + 2) listed a w :=
 wpAnyH_take hi0 hs hf0 hr0 hQ0 (Or.inl ⟨hw0, hy0⟩) hS (wpAnyH_take hi1 hs hf1 hr1 hQ1 (Or.inl ⟨hw1, hy1⟩) hS (h))
theorem tQ4d (i j k m : Nat) {o0 o1 o2 o3 : Oper} {v0 v1 v2 v3 : Value} (h : wpAnyH P md ops Q S fuel ((((listed.setIfInBounds i true).setIfInBounds j true).setIfInBounds k true).setIfInBounds m true) ((((a.put o0.dst v0).put o1.dst v1).put o2.dst v2).put o3.dst v3) w)
 (hi0 : ops[i]? = some o0 := by rfl) (hf0 : Region.free md ops listed i = true := by kernel_rfl) (hr0 : (Region.ready md ops listed).contains i = true := by kernel_rfl) (hQ0 : ∀ c a w, Q (.panic c) (a.put o0.dst v0) w → Q (.panic c) a w := by exact fun _ _ _ h => hq_dst (by decide) h) (hw0 : Region.wanted o0 (yielded ops a.tmps) = true := by rfl) (hy0 : ∀ w, S w → (execOp a.eval o0).run P w = .ok (.value v0) w := by ((intro w hSw; (try dsimp only [At] at hSw); go_simp) <;> with_reducible rfl))
 (hi1 : ops[j]? = some o1 := by rfl) (hf1 : Region.free md ops (listed.setIfInBounds i true) j = true := by kernel_rfl) (hr1 : (Region.ready md ops (listed.setIfInBounds i true)).contains j = true := by kernel_rfl) (hQ1 : ∀ c a w, Q (.panic c) (a.put o1.dst v1) w → Q (.panic c) a w := by exact fun _ _ _ h => hq_dst (by decide) h) (hw1 : Region.wanted o1 (yielded ops (a.put o0.dst v0).tmps) = true := by ((try simp only [sq]); rfl)) (hy1 : ∀ w, S w → (execOp (a.put o0.dst v0).eval o1).run P w = .ok (.value v1) w := by ((intro w hSw; (try dsimp only [At] at hSw); (try simp only [sq]); go_simp) <;> with_reducible rfl))
 (hi2 : ops[k]? = some o2 := by rfl) (hf2 : Region.free md ops ((listed.setIfInBounds i true).setIfInBounds j true) k = true := by kernel_rfl) (hr2 : (Region.ready md ops ((listed.setIfInBounds i true).setIfInBounds j true)).contains k = true := by kernel_rfl) (hQ2 : ∀ c a w, Q (.panic c) (a.put o2.dst v2) w → Q (.panic c) a w := by exact fun _ _ _ h => hq_dst (by decide) h) (hw2 : Region.wanted o2 (yielded ops ((a.put o0.dst v0).put o1.dst v1).tmps) = true := by ((try simp only [sq]); rfl)) (hy2 : ∀ w, S w → (execOp ((a.put o0.dst v0).put o1.dst v1).eval o2).run P w = .ok (.value v2) w := by ((intro w hSw; (try dsimp only [At] at hSw); (try simp only [sq]); go_simp) <;> with_reducible rfl))
 (hi3 : ops[m]? = some o3 := by rfl) (hf3 : Region.free md ops (((listed.setIfInBounds i true).setIfInBounds j true).setIfInBounds k true) m = true := by kernel_rfl) (hr3 : (Region.ready md ops (((listed.setIfInBounds i true).setIfInBounds j true).setIfInBounds k true)).contains m = true := by kernel_rfl) (hQ3 : ∀ c a w, Q (.panic c) (a.put o3.dst v3) w → Q (.panic c) a w := by exact fun _ _ _ h => hq_dst (by decide) h) (hw3 : Region.wanted o3 (yielded ops (((a.put o0.dst v0).put o1.dst v1).put o2.dst v2).tmps) = true := by ((try simp only [sq]); rfl)) (hy3 : ∀ w, S w → (execOp (((a.put o0.dst v0).put o1.dst v1).put o2.dst v2).eval o3).run P w = .ok (.value v3) w := by ((intro w hSw; (try dsimp only [At] at hSw); (try simp only [sq]); go_simp) <;> with_reducible rfl))
 (hs : Region.noSelect ops = true := by kernel_rfl) (hS : S w := by assumption) : wpAnyH P md ops Q S (fuel + 4) listed a w :=
 wpAnyH_take hi0 hs hf0 hr0 hQ0 (Or.inl ⟨hw0, hy0⟩) hS (wpAnyH_take hi1 hs hf1 hr1 hQ1 (Or.inl ⟨hw1, hy1⟩) hS (wpAnyH_take hi2 hs hf2 hr2 hQ2 (Or.inl ⟨hw2, hy2⟩) hS (wpAnyH_take hi3 hs hf3 hr3 hQ3 (Or.inl ⟨hw3, hy3⟩) hS (h))))
theorem pQd (i : Nat) {o0 : Oper} (h : wpAnyH P md ops Q S fuel (listed.setIfInBounds i true) (a.put o0.dst undef) w)
 (hi0 : ops[i]? = some o0 := by rfl) (hf0 : Region.free md ops listed i = true := by kernel_rfl) (hr0 : (Region.ready md ops listed).contains i = true := by kernel_rfl) (hQ0 : ∀ c a w, Q (.panic c) (a.put o0.dst undef) w → Q (.panic c) a w := by exact fun _ _ _ h => hq_dst (by decide) h) (hw0 : Region.wanted o0 (yielded ops a.tmps) = false := by (go_simp))
 (hs : Region.noSelect ops = true := by kernel_rfl) (hS : S w := by assumption) : wpAnyH P md ops Q S (fuel + 1) listed a w :=
 wpAnyH_take hi0 hs hf0 hr0 hQ0 (Or.inr ⟨hw0, rfl⟩) hS (h)
theorem pQ4d (i j k m : Nat) {o0 o1 o2 o3 : Oper} (h : wpAnyH P md ops Q S fuel ((((listed.setIfInBounds i true).setIfInBounds j true).setIfInBounds k true).setIfInBounds m true) ((((a.put o0.dst undef).put o1.dst undef).put o2.dst undef).put o3.dst undef) w)
 (hi0 : ops[i]? = some o0 := by rfl) (hf0 : Region.free md ops listed i = true := by kernel_rfl) (hr0 : (Region.ready md ops listed).contains i = true := by kernel_rfl) (hQ0 : ∀ c a w, Q (.panic c) (a.put o0.dst undef) w → Q (.panic c) a w := by exact fun _ _ _ h => hq_dst (by decide) h) (hw0 : Region.wanted o0 (yielded ops a.tmps) = false := by (go_simp))
 (hi1 : ops[j]? = some o1 := by rfl) (hf1 : Region.free md ops (listed.setIfInBounds i true) j = true := by kernel_rfl) (hr1 : (Region.ready md ops (listed.setIfInBounds i true)).contains j = true := by kernel_rfl) (hQ1 : ∀ c a w, Q (.panic c) (a.put o1.dst undef) w → Q (.panic c) a w := by exact fun _ _ _ h => hq_dst (by decide) h) (hw1 : Region.wanted o1 (yielded ops (a.put o0.dst undef).tmps) = false := by ((try simp only [sq]); go_simp))
 (hi2 : ops[k]? = some o2 := by rfl) (hf2 : Region.free md ops ((listed.setIfInBounds i true).setIfInBounds j true) k = true := by kernel_rfl) (hr2 : (Region.ready md ops ((listed.setIfInBounds i true).setIfInBounds j true)).contains k = true := by kernel_rfl) (hQ2 : ∀ c a w, Q (.panic c) (a.put o2.dst undef) w → Q (.panic c) a w := by exact fun _ _ _ h => hq_dst (by decide) h) (hw2 : Region.wanted o2 (yielded ops ((a.put o0.dst undef).put o1.dst undef).tmps) = false := by ((try simp only [sq]); go_simp))
 (hi3 : ops[m]? = some o3 := by rfl) (hf3 : Region.free md ops (((listed.setIfInBounds i true).setIfInBounds j true).setIfInBounds k true) m = true := by kernel_rfl) (hr3 : (Region.ready md ops (((listed.setIfInBounds i true).setIfInBounds j true).setIfInBounds k true)).contains m = true := by kernel_rfl) (hQ3 : ∀ c a w, Q (.panic c) (a.put o3.dst undef) w → Q (.panic c) a w := by exact fun _ _ _ h => hq_dst (by decide) h) (hw3 : Region.wanted o3 (yielded ops (((a.put o0.dst undef).put o1.dst undef).put o2.dst undef).tmps) = false := by ((try simp only [sq]); go_simp))
 (hs : Region.noSelect ops = true := by kernel_rfl) (hS : S w := by assumption) : wpAnyH P md ops Q S (fuel + 4) listed a w :=
 wpAnyH_take hi0 hs hf0 hr0 hQ0 (Or.inr ⟨hw0, rfl⟩) hS (wpAnyH_take hi1 hs hf1 hr1 hQ1 (Or.inr ⟨hw1, rfl⟩) hS (wpAnyH_take hi2 hs hf2 hr2 hQ2 (Or.inr ⟨hw2, rfl⟩) hS (wpAnyH_take hi3 hs hf3 hr3 hQ3 (Or.inr ⟨hw3, rfl⟩) hS (h))))
end
theorem prC_base {l : List Un} {B : Nat} {x : Px} {vs : List (List (Int × Int))} (base : List Rc) : base.Sublist (prC l B x vs base) := by
 unfold prC
 exact .cons _ (.cons _ (.cons _ (.cons _ (List.Sublist.trans (List.sublist_append_right _ _) (List.sublist_append_right _ _)))))
theorem oper_copy {w W : World} {L : List Rc} {o : Oper} {a : Act} {K : Act → World → Prop} {Q : Exit → Act → World → Prop} {B g R : Nat} {xs : List Value} (h : Hp w W (ow B 21 1 (.slice (some ⟨g, 0, none⟩) R R) R xs :: L)) (y z : Operand) (ho : o.op = .call { callee := .builtin .copy, args := #[y, z], argTypes := #[42, 42] }) (hy : a.eval y = .slice (some ⟨g, 0, none⟩) R R)
 (Sp : Option Addr) (n c : Nat) (hz : a.eval z = .slice Sp n c) (hn : n ≤ R) (cs : List Value) (hcs : cs.length = n) (h1 : ∀ v ∈ cs, v.oneCell' = true) (hsrc : ∀ j v, cs[j]? = some v → ∃ ad, Sp = some ad ∧ W.cell? (ad.add j) = some v)
 (hK : ∀ W', Hid (Hp w W' (ow B 21 1 (.slice (some ⟨g, 0, none⟩) R R) R (cs ++ xs.drop n) :: L)) → K (a.put o.dst (goInt n)) W') : Oper.wp Tryz.prog o a W K Q := by
 have hsz : (Tryz.prog.info? 21).map (·.size) = some 1 := by kernel_rfl
 rcases Nat.eq_zero_or_pos n with h0 | h0
 ·subst h0
  have hrun := run_copy_none (P := Tryz.prog) W 42 42 o.type 21 (some ⟨g, 0, none⟩) Sp R R 0 c Tryz.underlying42 hsz (by simp [Nat.min])
  have hc0 : cs = [] := List.eq_nil_of_length_eq_zero hcs
  subst hc0
  have := hK W (Lh (by simpa using h))
  unfold Oper.wp
  simp [execOp, ho, resolve, invoke, builtin, hy, hz, hrun, Result.andThen]
  exact this
 ·obtain ⟨ad, rfl, -⟩ := hsrc 0 _ (List.getElem?_eq_getElem (show 0 < cs.length by omega))
  have hP : W.ownsRow B 21 1 (.slice (some ⟨g, 0, none⟩) R R) R xs := h.one
  obtain ⟨hxl, hP2⟩ := hP
  rcases hP2 with ⟨hv, -⟩ | ⟨g', cap, cur, hv, hb, hg, hle, hcap, hcs2, htk⟩
  ·cases hv
  ·injection hv with e1 e2 e3
   injection e1 with e1
   injection e1 with e1
   subst e1 e3
   have hmin : cs.length = Nat.min n R := by rw [hcs]; exact (Nat.min_eq_left hn).symm
   have hrun := run_copy_row (P := Tryz.prog) W 42 42 o.type 21 g 0 R R ad n c cur 21 cs Tryz.underlying42 hsz hg hmin (fun j v hj => by obtain ⟨ad', e, hc⟩ := hsrc j v hj; injection e with e; subst e; exact hc) (by omega) h1
   have hcur : cur.toList = xs := by
    rw [← htk, List.take_of_length_le (by rw [Array.length_toList, hcs2]; exact Nat.le_refl _)]
   have hst : Hp w (W.setRow g (cur.toList.take 0 ++ cs ++ cur.toList.drop (0 + cs.length)).toArray) (ow B 21 1 (.slice (some ⟨g, 0, none⟩) R R) R (cs ++ xs.drop n) :: L) := by
    refine h.step (t := ow B 21 1 (.slice (some ⟨g, 0, none⟩) R R) R (cs ++ xs.drop n)) ⟨rfl, rfl, rfl, by simp [World.setRow], fun k hk hnv => setRow_other W g k _ (fun e => hnv (by show (Value.slice (some (⟨g, 0, none⟩ : Addr)) R R).ownBlock = some k; rw [e]; rfl))⟩ ?_ (fun b hb' => .inl hb')
    refine ⟨by rw [List.length_append, List.length_drop, hxl, hcs]; omega, .inr ⟨g, R, _, rfl, hb, setRow_heap W g cur _ 21 _ hg, Nat.le_refl _, hcap, ?_, ?_⟩⟩
    ·simp [hcs, hcs2]; omega
    ·simp [hcs, hcur]
     rw [List.take_of_length_le]
     rw [List.length_append, List.length_drop, hxl, hcs]; omega
   have := hK _ (Lh hst)
   unfold Oper.wp
   rw [hcs] at hrun this
   simp only [execOp, ho, resolve, invoke, builtin, Sem.run_bind, Sem.run_pure, Result.andThen_ok, List.map_toArray, List.map_cons, List.map_nil, hy, hz, hrun]
   exact this
def nbl (l : List Un) : Nat := (allB l l.length).length
def CallOut (l : List Un) (w : World) (x : Px) (base : List Rc) (n0 u i : Nat) (K : List Fr) (E : Shw) (e : Ending) (W : World) : Prop :=
 (∃ (n t : Nat) (s : List Int) (RV : Option Addr) (rc : Nat) (m : Ms) (O : Option Addr) (od : Nat), e = .returned (.slice RV s.length rc) ∧ Hid (Hp w W (rI w.heap.size (.slice RV s.length rc) s :: prP l w.heap.size x m.vs O od m.out 0 0 t (K.length : Int) base)) ∧ s.length = resW (bod l u i).ty ∧ (∀ y ∈ s, W32 y) ∧ MsOk l m ∧ m.out.length ≤ t ∧ n + t = x.F ∧ n ≤ n0 ∧ rgv l n K s m t = E) ∨
 (∃ (vs : List (List (Int × Int))) (O : Option Addr) (od dp : Nat), K.length ≤ dp ∧ dp ≤ K.length + 1 ∧ e = .panicked [{ v := .iface 115 (.agg #[.int .i64 (E.e)]), recovered := false }] ∧ Hid (Hp w W (prP l w.heap.size x vs O od E.out 0 0 E.t (dp : Int) base)) ∧ E.v = 0)
def CallsOk (l : List Un) (w : World) (x : Px) (n : Nat) : Prop := ∀ (W : World) (u i : Nat) (a : List Int) (Sa : Option Addr) (sc : Nat) (K : List Fr) (m : Ms) (t : Nat) (E : Shw) (base : List Rc) (O : Option Addr) (od : Nat), n + t = x.F → ArgOk l u i a → RowAt w base Sa a → a.length ≤ sc → (Sa = none → sc = 0) → MsOk l m → m.out.length ≤ t → K.length ≤ 3000 → rcl l n u i a K m t = E →
 Hp w W (prP l w.heap.size x m.vs O od m.out 0 0 t (K.length : Int) base) → Calls Tryz.prog 61 #[.pointer (some ⟨x.X, 0, none⟩), .int .i64 (nmb l (u, i) : Int), .slice Sa a.length sc] W (CallOut l w x base n u i K E)
theorem calls_deep {l : List Un} {w W : World} {x : Px} {n u i t : Nat} {a : List Int} {K : List Fr} {m : Ms} {E : Shw} {base : List Rc} {O : Option Addr} {od : Nat} (kv av : Value) (hK : 3000 ≤ K.length) (hK2 : K.length ≤ 3000) (hE : rcl l n u i a K m t = E)
 (h : Hp w W (prP l w.heap.size x m.vs O od m.out 0 0 t (K.length : Int) base)) : Calls Tryz.prog 61 #[.pointer (some ⟨x.X, 0, none⟩), kv, av] W (CallOut l w x base n u i K E) := by
 have hEE : E = ⟨0, 0, m.out, t⟩ := by rw [← hE]; unfold rcl; rw [if_pos hK]
 subst hEE
 have HS : Hid (Hp w W (bx x.X 55 #[.int .i64 0, .int .i32 0, .slice O m.out.length od, .int .i64 (t : Int), .slice x.A1 (allB l l.length).length x.d1, .slice x.A2 (allB l l.length).length x.d2, .slice x.A3 (allG l l.length).length x.d3, .slice x.A4 l.length x.d4, .int .i64 (x.F : Int), .int .i64 (K.length : Int), .int .i64 x.start] :: ow w.heap.size 21 1 (.slice O m.out.length od) m.out.length (m.out.map i32) :: (prC l w.heap.size x m.vs base))) := h
 clear h hE
 have hmf : ∀ (fn : Fn) (first cap : Array Value) (w : World), (Instr.makeFunc fn first cap).run Tryz.prog w = .ok (.func fn first cap) w := fun _ _ _ _ => rfl
 go_enter_defers Tryz.func61, Tryz.ntmps61
 go_upto_region 1 with (fail)
 replace HS := Lh (HS.out.box 50 #[.pointer (some ⟨x.X, 0, none⟩)]).f1
 generalize W.alloc _ = w1 at *
 generalize W.heap.size = xb at *
 have x0 := HS.out.c 1 0
 have f9 := HS.out.one.free 9
 have g9 := HS.out.c 0 9
 have hw : IntKind.i64.wrap ((K.length : Int) + 1) = (K.length : Int) + 1 := by rw [IntKind.wrap_i64]; omega
 have hle : (3000 : Int) < (K.length : Int) + 1 := by omega
 go_upto_region 2 with (fail)
 replace HS := Lh (HS.out.put1 9 (.int .i64 ((K.length : Int) + 1)))
 simp only [sq] at HS
 generalize w1.setCell _ _ = w2 at *
 clear g9 f9 x0
 have x0 := HS.out.c 1 0
 have g9 := HS.out.c 0 9
 go_wp2_with fail
 exact .inr ⟨m.vs, O, od, K.length + 1, Nat.le_succ _, Nat.le_refl _, rfl, Lh (show Hp _ _ _ from HS.out.f1.drop), rfl⟩
def cSub : List Nat → Code → Code
 | [], c => c
 | 0 :: p, .seq a _ => cSub p a
 | _ :: p, .seq _ b => cSub p b
 | _ :: p, .block _ c => cSub p c
 | _ :: p, .loop c => cSub p c
 | _, c => c
noncomputable def cLp : Code := cSub [1, 1, 1, 1, 1, 1, 1, 1, 1, 1, 0, 0] (Tryz.f61.body.getD .skip)
noncomputable def cSw : Code := cSub [0, 1, 1, 1, 1, 1, 1, 1, 0, 1] cLp
noncomputable def cRs : Code := cSub [0, 1, 1, 1, 1, 1, 1, 1, 1] cLp
theorem setR_snoc {D d r : List Int} {j : Nat} (h1 : j < D.length) (h2 : j < d.length) : setR r (D.take (j + 1)) (d.take (j + 1)) = (setR r (D.take j) (d.take j)).set D[j].toNat d[j] := by
 induction j generalizing D d r with
 | zero =>
  match D, d, h1, h2 with
  | x :: D, y :: d, _, _ => simp [setR]
 | succ j ih =>
  match D, d, h1, h2 with
  | x :: D, y :: d, h1, h2 =>
   simp only [List.take_succ_cons, setR, List.getElem_cons_succ]
   exact ih (by simpa using h1) (by simpa using h2)
theorem setR_nil (r D : List Int) : setR r D [] = r := by cases D <;> rfl
theorem Hp.lit1 {w W : World} {L : List Rc} (h : Hp w W L) (v : Int) : Hp w (W.alloc (.cells #[.int .i32 v] 21)) (rI w.heap.size (.slice (some ⟨W.heap.size, 0, none⟩) 1 1) [v] :: L) := by
 have h' := (h.box 21 #[.int .i32 v]).drop
 refine h.add h' ?_ fun b hb => ?_
 ·exact World.ownsRow_lit (base := w.heap.size) (e := 21) (size := 1) W #[.int .i32 v] 1 h.mv.size (by unfold maxLen; omega) (by simp)
 ·have hb : (Value.slice (some (⟨W.heap.size, 0, none⟩ : Addr)) 1 1).ownBlock = some b := hb
  injection hb with hb
  have hb : W.heap.size = b := hb
  subst hb
  exact ⟨Nat.le_refl _, by rw [World.alloc]; show W.heap.size < (W.heap.push _).size; rw [Array.size_push]; exact Nat.lt_succ_self _⟩
theorem prC_app {l : List Un} {B : Nat} {x : Px} {vs : List (List (Int × Int))} (base : List Rc) : prC l B x vs base = prC l B x vs [] ++ base := by
 unfold prC; simp [List.append_assoc]
theorem prC_in {l : List Un} {B : Nat} {x : Px} {vs : List (List (Int × Int))} (F base : List Rc) : (F ++ prC l B x vs base).Perm (prC l B x vs (F ++ base)) := by
 rw [prC_app base, prC_app (F ++ base), ← List.append_assoc, ← List.append_assoc]
 exact List.perm_append_comm.append_right base
noncomputable def prD (l : List Un) (B : Nat) (x : Px) : List Rc :=
 ow B 37 9 (.slice x.A1 (allB l l.length).length x.d1) (allB l l.length).length x.cb.flatten :: ow B 3 1 (.slice x.A2 (allB l l.length).length x.d2) (allB l l.length).length (uns l l.length) ::
 ow B 42 1 (.slice x.A3 (allG l l.length).length x.d3) (allG l l.length).length (x.vr.map Vr.val) :: ow B 57 1 (.slice x.A4 l.length x.d4) l.length (x.ms.map fun m => .map (some m.1)) :: x.ms.map mpB
theorem prC_D (l : List Un) (B : Nat) (x : Px) (vs : List (List (Int × Int))) (base : List Rc) : prC l B x vs base = prD l B x ++ ((vrW x.vr vs.flatten).map varB ++ base) := by unfold prC prD; rfl
theorem px_var {l : List Un} {w : World} {x : Px} (PO : PxOk l w x) {m : Ms} (hm : MsOk l m) {v i : Nat} (hv : v < l.length) (hi : i < (unAt l v).gs.length) : ∃ (y : Vr) (RR : List Rc), (allG l v).length + i < (allG l l.length).length ∧ (x.vr.map Vr.val)[(allG l v).length + i]? = some y.val ∧ y.n = (sizeT (glo l (v, i)).ty).1 ∧
 ((vrW x.vr m.vs.flatten).map varB).Perm (varB { y with lo := getV m.vs (v, i) 0, hi := getV m.vs (v, i) 1 } :: RR) ∧ (∀ q, ((vrW x.vr (setV m.vs (v, i) 0 q).flatten).map varB).Perm (varB { y with lo := q, hi := getV m.vs (v, i) 1 } :: RR)) ∧
 (∀ q, ((vrW x.vr (setV m.vs (v, i) 1 q).flatten).map varB).Perm (varB { y with lo := getV m.vs (v, i) 0, hi := q } :: RR)) := by
 have hi' : i < l[v].gs.length := by rwa [unAt_at hv] at hi
 obtain ⟨hj, hG⟩ := allG_at hv hi' (k := l.length) hv
 have hjv : (allG l v).length + i < x.vr.length := by rw [PO.vl]; exact hj
 have hir : i < (m.vs.getD v []).length := by rw [hm.ev v hv]; exact hi
 have hfl := flatV_len hm.ln hm.ev
 have hjf : (allG l v).length + i < m.vs.flatten.length := by rw [hfl]; exact hj
 obtain ⟨RR, hRR⟩ := vrW_pull (ws := m.vs.flatten) hjv hjf
 have hat := flatV_at hm.ln hm.ev hv hir
 have hself : m.vs.flatten.set ((allG l v).length + i) ((m.vs.getD v []).getD i (0, 0)) = m.vs.flatten := by
  have h2 : m.vs.flatten[(allG l v).length + i] = (m.vs.getD v []).getD i (0, 0) := by
   rw [List.getElem?_eq_getElem hjf] at hat; injection hat
  rw [← h2, List.set_getElem_self]
 have hset : ∀ q, (m.vs.set v ((m.vs.getD v []).set i q)).flatten = m.vs.flatten.set ((allG l v).length + i) q := fun q => flatV_set hm.ln hm.ev hv hir
 refine ⟨x.vr[(allG l v).length + i], RR, hj, by rw [List.getElem?_map, List.getElem?_eq_getElem hjv]; rfl, ?_, ?_, fun q => ?_, fun q => ?_⟩
 ·rw [PO.vn _ hjv hj, hG]
  unfold glo
  dsimp only
  rw [unAt_at hv]
  simp [List.getD_eq_getElem?_getD, hi']
 ·have := hRR ((m.vs.getD v []).getD i (0, 0))
  rw [hself] at this
  exact this
 ·unfold setV
  dsimp only
  rw [hset]
  exact hRR _
 ·unfold setV
  dsimp only
  rw [hset]
  exact hRR _
theorem var_front {V RR D base F : List Rc} {y : Rc} (h : V.Perm (y :: RR)) : (F ++ (D ++ (V ++ base))).Perm (y :: (F ++ (D ++ (RR ++ base)))) := by
 have h1 : (F ++ (D ++ (V ++ base))).Perm (F ++ (D ++ ((y :: RR) ++ base))) := List.Perm.append_left _ (List.Perm.append_left _ (h.append_right _))
 refine h1.trans ?_
 have : F ++ (D ++ ((y :: RR) ++ base)) = (F ++ D) ++ y :: (RR ++ base) := by simp
 rw [this]
 refine List.perm_middle.trans ?_
 simp
theorem same_eq {T U : Ty} (h : may T = true) : sameB T U = eqB T U := by
 rw [Bool.eq_iff_iff, sameB_iff, eqB_iff]
 exact ⟨fun h => h.2, fun e => ⟨h, e⟩⟩
theorem nm_max {s : ByteArray} (h : nameOf s = true) : s.size ≤ maxLen := by
 unfold nameOf at h
 simp only [Bool.and_eq_true, decide_eq_true_eq] at h
 have := h.1.1.1.2
 unfold maxLen
 omega
theorem own_room {w : World} {B : Nat} {e : TypeId} {s n c : Nat} {A : Option Addr} {xs : List Value} (h : w.ownsRow B e s (.slice A n c) n xs) : n ≤ c ∧ (A = none → c = 0) := by
 rcases h.2 with ⟨hv, -⟩ | ⟨g', cap, cur, hv, -, -, hle, -⟩
 ·injection hv with h1 h2 h3
  exact ⟨by omega, fun _ => h3⟩
 ·injection hv with h1 h2 h3
  exact ⟨by omega, fun e => by rw [e] at h1; cases h1⟩
def Iv (l : List Un) (w : World) (x : Px) (base : List Rc) (n u i : Nat) (bs : List Int) (K : List Fr) (E : Shw) (nb R xb rb rg : Nat) (bB : Rc) (gk : Nat) (pv : Value) (W : World) : Prop :=
 ∃ (n' t : Nat) (r : List Int) (pc : Nat) (m : Ms) (O : Option Addr) (od : Nat), gk = n' + 1 ∧ pv = .int .i64 (pc : Int) ∧ Hid (n' + t = x.F ∧ n' ≤ n ∧ m.out.length ≤ t) ∧ Hid (FrOk l ⟨u, i, r, bs, pc⟩) ∧ Hid (MsOk l m) ∧ Hid (run l n' ⟨u, i, r, bs, pc⟩ K m t = E) ∧
  Hid (Hp w W (bx x.X 55 #[.int .i64 0, .int .i32 0, .slice O m.out.length od, .int .i64 (t : Int), .slice x.A1 nb x.d1, .slice x.A2 nb x.d2, .slice x.A3 (allG l l.length).length x.d3, .slice x.A4 l.length x.d4, .int .i64 (x.F : Int), .int .i64 ((K.length : Int) + 1), .int .i64 x.start] :: ow w.heap.size 21 1 (.slice O m.out.length od) m.out.length (m.out.map i32) :: ow w.heap.size 21 1 (.slice (some ⟨rg, 0, none⟩) R R) R (r.map i32) :: ([bx xb 50 #[.pointer (some ⟨x.X, 0, none⟩)], bx rb 42 #[.slice (some ⟨rg, 0, none⟩) R R], bB] ++ (prC l w.heap.size x m.vs base))))
def Nx (l : List Un) (w : World) (x : Px) (base : List Rc) (n u i : Nat) (bs : List Int) (K : List Fr) (E : Shw) (nb R xb rb rg : Nat) (bB oB : Rc) (o : Or) (r : List Int) (n0 : Nat) (pv dv : Value) (W : World) : Prop :=
 ∃ (n' t : Nat) (pc : Nat) (m : Ms) (O : Option Addr) (od : Nat) (dl : List Int) (Dv : Option Addr) (dc : Nat), pv = .int .i64 (pc : Int) ∧ dv = .slice Dv dl.length dc ∧ Hid (n' + t = x.F ∧ n' ≤ n0 ∧ n0 ≤ n ∧ m.out.length ≤ t) ∧ Hid (dl.length = o.d.length ∧ ∀ y ∈ dl, W32 y) ∧ Hid (FrOk l ⟨u, i, (setR r o.d dl), bs, pc⟩) ∧ Hid (MsOk l m) ∧ Hid (run l n' ⟨u, i, (setR r o.d dl), bs, pc⟩ K m t = E) ∧
  Hid (Hp w W (rI w.heap.size (.slice Dv dl.length dc) dl :: oB :: bx x.X 55 #[.int .i64 0, .int .i32 0, .slice O m.out.length od, .int .i64 (t : Int), .slice x.A1 nb x.d1, .slice x.A2 nb x.d2, .slice x.A3 (allG l l.length).length x.d3, .slice x.A4 l.length x.d4, .int .i64 (x.F : Int), .int .i64 ((K.length : Int) + 1), .int .i64 x.start] :: ow w.heap.size 21 1 (.slice O m.out.length od) m.out.length (m.out.map i32) :: ow w.heap.size 21 1 (.slice (some ⟨rg, 0, none⟩) R R) R (r.map i32) :: ([bx xb 50 #[.pointer (some ⟨x.X, 0, none⟩)], bx rb 42 #[.slice (some ⟨rg, 0, none⟩) R R], bB] ++ (prC l w.heap.size x m.vs base))))
theorem late232 {l : List Value} (h : l.length = 232) : ∃ f : Nat → Value, l = [f 0, f 1, f 2, f 3, f 4, f 5, f 6, f 7, f 8, f 9, f 10, f 11, f 12, f 13, f 14, f 15, f 16, f 17, f 18, f 19, f 20, f 21, f 22, f 23, f 24, f 25, f 26, f 27, f 28, f 29, f 30, f 31, f 32, f 33, f 34, f 35, f 36, f 37, f 38, f 39, f 40, f 41, f 42, f 43, f 44, f 45, f 46, f 47, f 48, f 49, f 50, f 51, f 52, f 53, f 54, f 55, f 56, f 57, f 58, f 59, f 60, f 61, f 62, f 63, f 64, f 65, f 66, f 67, f 68, f 69, f 70, f 71, f 72, f 73, f 74, f 75, f 76, f 77, f 78, f 79, f 80, f 81, f 82, f 83, f 84, f 85, f 86, f 87, f 88, f 89, f 90, f 91, f 92, f 93, f 94, f 95, f 96, f 97, f 98, f 99, f 100, f 101, f 102, f 103, f 104, f 105, f 106, f 107, f 108, f 109, f 110, f 111, f 112, f 113, f 114, f 115, f 116, f 117, f 118, f 119, f 120, f 121, f 122, f 123, f 124, f 125, f 126, f 127, f 128, f 129, f 130, f 131, f 132, f 133, f 134, f 135, f 136, f 137, f 138, f 139, f 140, f 141, f 142, f 143, f 144, f 145, f 146, f 147, f 148, f 149, f 150, f 151, f 152, f 153, f 154, f 155, f 156, f 157, f 158, f 159, f 160, f 161, f 162, f 163, f 164, f 165, f 166, f 167, f 168, f 169, f 170, f 171, f 172, f 173, f 174, f 175, f 176, f 177, f 178, f 179, f 180, f 181, f 182, f 183, f 184, f 185, f 186, f 187, f 188, f 189, f 190, f 191, f 192, f 193, f 194, f 195, f 196, f 197, f 198, f 199, f 200, f 201, f 202, f 203, f 204, f 205, f 206, f 207, f 208, f 209, f 210, f 211, f 212, f 213, f 214, f 215, f 216, f 217, f 218, f 219, f 220, f 221, f 222, f 223, f 224, f 225, f 226, f 227, f 228, f 229, f 230, f 231] := by
 have h2 : l = (List.range l.length).map fun k => l.getD k undef := by
  apply List.ext_getElem
  ·simp
  ·intro i h1 h2
   simp [List.getD_eq_getElem?_getD, h1]
 rw [h] at h2
 exact ⟨fun k => l.getD k undef, h2⟩
def FrS (z0 z1 z2 z4 z5 z9 z23 z24 z25 z26 z27 z28 z29 z30 z31 z32 z33 z34 z35 z36 z37 z38 z39 z40 z41 z42 z43 z44 z45 z46 z47 z48 z49 z50 z51 z52 z53 z54 z55 z56 z57 z58 z59 z60 z61 z62 z63 z64 z65 z66 z67 z68 z69 z70 z71 : Value) (z6 : Value) (xb bb rb ob : Nat) (Ba : Option Addr) (nbs bc mb : Nat) (pc op : Int) (sv : Value) (a : Act) : Prop := ∃ (y14 y17 y18 y19 y20 y21 y22 : Value) (y : List Value), y.length = 232 ∧ y[34]? = some (.int .i64 op) ∧ a = ⟨List.toArray (z0 :: z1 :: z2 :: .pointer (some ⟨xb, 0, none⟩) :: z4 :: z5 :: z6 :: .pointer (some ⟨bb, 0, none⟩) :: .pointer (some ⟨rb, 0, none⟩) :: z9 :: .slice Ba nbs bc :: .map (some mb) :: .int .i64 (pc + 1) :: .pointer (some ⟨ob, 0, none⟩) :: y14 :: sv :: .slice none 0 0 :: y17 :: y18 :: y19 :: y20 :: y21 :: y22 :: z23 :: z24 :: z25 :: z26 :: z27 :: z28 :: z29 :: z30 :: z31 :: z32 :: z33 :: z34 :: z35 :: z36 :: z37 :: z38 :: z39 :: z40 :: z41 :: z42 :: z43 :: z44 :: z45 :: z46 :: z47 :: z48 :: z49 :: z50 :: z51 :: z52 :: z53 :: z54 :: z55 :: z56 :: z57 :: z58 :: z59 :: z60 :: z61 :: z62 :: z63 :: z64 :: z65 :: z66 :: z67 :: z68 :: z69 :: z70 :: z71 :: y), [{ target := .fn (.func 77) #[.pointer (some ⟨xb, 0, none⟩)], args := #[] }]⟩
def FrA (z0 z1 z2 z4 z5 z9 z23 z24 z25 z26 z27 z28 z29 z30 z31 z32 z33 z34 z35 z36 z37 z38 z39 z40 z41 z42 z43 z44 z45 z46 z47 z48 z49 z50 z51 z52 z53 z54 z55 z56 z57 z58 z59 z60 z61 z62 z63 z64 z65 z66 z67 z68 z69 z70 z71 : Value) (xb bb rb : Nat) (Ba : Option Addr) (nbs bc mb : Nat) (a : Act) (p : Value) : Prop := ∃ (y6 y13 y14 y15 y16 y17 y18 y19 y20 y21 y22 : Value) (y : List Value), y.length = 232 ∧ a = ⟨List.toArray (z0 :: z1 :: z2 :: .pointer (some ⟨xb, 0, none⟩) :: z4 :: z5 :: y6 :: .pointer (some ⟨bb, 0, none⟩) :: .pointer (some ⟨rb, 0, none⟩) :: z9 :: .slice Ba nbs bc :: .map (some mb) :: p :: y13 :: y14 :: y15 :: y16 :: y17 :: y18 :: y19 :: y20 :: y21 :: y22 :: z23 :: z24 :: z25 :: z26 :: z27 :: z28 :: z29 :: z30 :: z31 :: z32 :: z33 :: z34 :: z35 :: z36 :: z37 :: z38 :: z39 :: z40 :: z41 :: z42 :: z43 :: z44 :: z45 :: z46 :: z47 :: z48 :: z49 :: z50 :: z51 :: z52 :: z53 :: z54 :: z55 :: z56 :: z57 :: z58 :: z59 :: z60 :: z61 :: z62 :: z63 :: z64 :: z65 :: z66 :: z67 :: z68 :: z69 :: z70 :: z71 :: y), [{ target := .fn (.func 77) #[.pointer (some ⟨xb, 0, none⟩)], args := #[] }]⟩
def FrB (z0 z1 z2 z4 z5 z9 z23 z24 z25 z26 z27 z28 z29 z30 z31 z32 z33 z34 z35 z36 z37 z38 z39 z40 z41 z42 z43 z44 z45 z46 z47 z48 z49 z50 z51 z52 z53 z54 z55 z56 z57 z58 z59 z60 z61 z62 z63 z64 z65 z66 z67 z68 z69 z70 z71 : Value) (z6 : Value) (xb bb rb ob : Nat) (Ba : Option Addr) (nbs bc mb : Nat) (a : Act) (p d : Value) : Prop := ∃ (y14 y15 y17 y18 y19 y20 y21 y22 : Value) (y : List Value), y.length = 232 ∧ a = ⟨List.toArray (z0 :: z1 :: z2 :: .pointer (some ⟨xb, 0, none⟩) :: z4 :: z5 :: z6 :: .pointer (some ⟨bb, 0, none⟩) :: .pointer (some ⟨rb, 0, none⟩) :: z9 :: .slice Ba nbs bc :: .map (some mb) :: p :: .pointer (some ⟨ob, 0, none⟩) :: y14 :: y15 :: d :: y17 :: y18 :: y19 :: y20 :: y21 :: y22 :: z23 :: z24 :: z25 :: z26 :: z27 :: z28 :: z29 :: z30 :: z31 :: z32 :: z33 :: z34 :: z35 :: z36 :: z37 :: z38 :: z39 :: z40 :: z41 :: z42 :: z43 :: z44 :: z45 :: z46 :: z47 :: z48 :: z49 :: z50 :: z51 :: z52 :: z53 :: z54 :: z55 :: z56 :: z57 :: z58 :: z59 :: z60 :: z61 :: z62 :: z63 :: z64 :: z65 :: z66 :: z67 :: z68 :: z69 :: z70 :: z71 :: y), [{ target := .fn (.func 77) #[.pointer (some ⟨xb, 0, none⟩)], args := #[] }]⟩
def OrdG (ok : Int → Prop) : Prop := ∀ {l : List Un} {w : World} {x : Px} {base : List Rc} {n u i : Nat} {bs : List Int} {K : List Fr} {E : Shw} {nb R xb rb rg bb ob : Nat} {Ba : Option Addr} {bc : Nat} {mp : Nat × List (ByteArray × Tv)} {bB : Rc} {o : Or} {r : List Int} {Ad As Tn Tp : Option Addr} {cd cs tcn tcp : Nat} {m : Ms} {O : Option Addr} {od t t1 n0 pc scx a1 a4 : Nat} {sl : List Int} {Sx : Option Addr} {KC K1 : Act → World → Prop} {z0 z1 z2 z4 z5 z9 z23 z24 z25 z26 z27 z28 z29 z30 z31 z32 z33 z34 z35 z36 z37 z38 z39 z40 z41 z42 z43 z44 z45 z46 z47 z48 z49 z50 z51 z52 z53 z54 z55 z56 z57 z58 z59 z60 z61 z62 z63 z64 z65 z66 z67 z68 z69 z70 z71 : Value} {z6 : Value} {a : Act} {W : World} (HFIN : Hid (∀ a p d (W : World), FrB z0 z1 z2 z4 z5 z9 z23 z24 z25 z26 z27 z28 z29 z30 z31 z32 z33 z34 z35 z36 z37 z38 z39 z40 z41 z42 z43 z44 z45 z46 z47 z48 z49 z50 z51 z52 z53 z54 z55 z56 z57 z58 z59 z60 z61 z62 z63 z64 z65 z66 z67 z68 z69 z70 z71 z6 xb bb rb ob Ba bs.length bc mp.1 a p d → Nx l w x base n u i bs K E nb R xb rb rg bB (bx ob 63 #[.int .i64 o.op, .slice Ad o.d.length cd, .slice As o.s.length cs, .int .i64 o.n, .string o.nm, .int .i64 o.ty.k, .string o.ty.nm, .slice Tn o.ty.ns.length tcn, .slice Tp o.ty.ps.length tcp, .bool o.ty.many]) o r n0 p d W → K1 a W))
 (HIH : Hid (∀ n1, n1 < n → CallsOk l w x n1)) (HL : Hid (Lnk l)) (HH : Hid (∀ u (h : u < l.length), l[u].bs.length ≤ 40)) (HH2 : Hid (∀ u (h : u < l.length), l[u].gs.length ≤ 40)) (HPO : Hid (PxOk l w x)) (HML : Hid (ML w)) (HMPX : Hid (x.ms[u]? = some mp)) (HMP : Hid (∀ Y vs', Hp w Y (prC l w.heap.size x vs' base) → Y.cell? ⟨a4, u, none⟩ = some (.map (some mp.1)) ∧ MapIs Tryz.prog 9 Y mp.1 (gM Tv.val mp.2))) (HF : Hid (FrOk l ⟨u, i, r, bs, pc⟩)) (HM : Hid (MsOk l m)) (HER : Hid (run l (n0 + 1) ⟨u, i, r, bs, pc⟩ K m t = E)) (HT1 : Hid (t1 = t + 1 ∧ n0 + t1 = x.F ∧ n0 + 1 ≤ n ∧ m.out.length ≤ t ∧ x.F ≤ 300000)) (HOO : Hid (OrdOk (bod l u i).ty (bod l u i).regs (bod l u i).code.length o)) (HORD : Hid (ord l ⟨u, i, r, bs, pc⟩ = o)) (HRT : Hid (Rep w o.ty [.int .i64 o.ty.k, .string o.ty.nm, .slice Tn o.ty.ns.length tcn, .slice Tp o.ty.ps.length tcp, .bool o.ty.many])) (HBA : Hid (RowAt w base Ba bs)) (HNB : Hid (nbl l = nb)) (HK3 : Hid (¬ 3000 ≤ K.length ∧ K.length ≤ 3000)) (HSQ : Hid (src ⟨u, i, r, bs, pc⟩ o = sl)) (HSL : Hid (sl.length = o.s.length)) (HGL : Hid (r.length = R)) (hs100 : o.s.length ≤ 100) (HA : Hid (x.A1 = some ⟨a1, 0, none⟩ ∧ x.A4 = some ⟨a4, 0, none⟩)) (HOP0 : Hid (ok o.op))
 (HS : Hid (Hp w W (ow w.heap.size 21 1 (.slice Sx o.s.length scx) o.s.length (sl.map i32) :: bx x.X 55 #[.int .i64 0, .int .i32 0, .slice O m.out.length od, .int .i64 (t1 : Int), .slice x.A1 nb x.d1, .slice x.A2 nb x.d2, .slice x.A3 (allG l l.length).length x.d3, .slice x.A4 l.length x.d4, .int .i64 (x.F : Int), .int .i64 ((K.length : Int) + 1), .int .i64 x.start] :: bx xb 50 #[.pointer (some ⟨x.X, 0, none⟩)] :: ow w.heap.size 21 1 (.slice O m.out.length od) m.out.length (m.out.map i32) :: ow w.heap.size 21 1 (.slice (some ⟨rg, 0, none⟩) R R) R (r.map i32) :: bx rb 42 #[.slice (some ⟨rg, 0, none⟩) R R] :: bB :: bx ob 63 #[.int .i64 o.op, .slice Ad o.d.length cd, .slice As o.s.length cs, .int .i64 o.n, .string o.nm, .int .i64 o.ty.k, .string o.ty.nm, .slice Tn o.ty.ns.length tcn, .slice Tp o.ty.ps.length tcp, .bool o.ty.many] :: (prC l w.heap.size x m.vs base)))) (hS : FrS z0 z1 z2 z4 z5 z9 z23 z24 z25 z26 z27 z28 z29 z30 z31 z32 z33 z34 z35 z36 z37 z38 z39 z40 z41 z42 z43 z44 z45 z46 z47 z48 z49 z50 z51 z52 z53 z54 z55 z56 z57 z58 z59 z60 z61 z62 z63 z64 z65 z66 z67 z68 z69 z70 z71 z6 xb bb rb ob Ba bs.length bc mp.1 (pc : Int) o.op (.slice Sx o.s.length scx) a), cSw.wp Tryz.prog (Exit.then K1 (Exit.inBlock 1 (Exit.then KC (Exit.inBlock 0 (bodyPostD Tryz.prog Tryz.f61 (CallOut l w x base n u i K E)))))) a W
theorem calls_fin {l : List Un} {w : World} {x : Px} {base : List Rc} {n u i : Nat} {bs : List Int} {K : List Fr} {E : Shw} {nb R xb rb rg bb ob : Nat} {Ba : Option Addr} {bc : Nat} {mp : Nat × List (ByteArray × Tv)} {bB : Rc} {o : Or} {r : List Int} {Ad As Tn Tp : Option Addr} {cd cs tcn tcp : Nat} {n0 : Nat} {KC : Act → World → Prop} {z0 z1 z2 z4 z5 z9 z23 z24 z25 z26 z27 z28 z29 z30 z31 z32 z33 z34 z35 z36 z37 z38 z39 z40 z41 z42 z43 z44 z45 z46 z47 z48 z49 z50 z51 z52 z53 z54 z55 z56 z57 z58 z59 z60 z61 z62 z63 z64 z65 z66 z67 z68 z69 z70 z71 : Value} {z6 : Value} {a : Act} {p d : Value} {W : World} (HRD : Hid (∀ a p gk (W : World), FrA z0 z1 z2 z4 z5 z9 z23 z24 z25 z26 z27 z28 z29 z30 z31 z32 z33 z34 z35 z36 z37 z38 z39 z40 z41 z42 z43 z44 z45 z46 z47 z48 z49 z50 z51 z52 z53 z54 z55 z56 z57 z58 z59 z60 z61 z62 z63 z64 z65 z66 z67 z68 z69 z70 z71 xb bb rb Ba bs.length bc mp.1 a p → gk < n0 + 2 → Iv l w x base n u i bs K E nb R xb rb rg bB gk p W → KC a W))
 (HIX : Hid (∀ y ∈ o.d, ∃ k : Nat, y = (k : Int) ∧ k < R ∧ k < 8000)) (HRDD : Hid (Row w Ad (o.d.map i64))) (HGL : Hid (r.length = R)) (hd12 : o.d.length ≤ 100) (hB : FrB z0 z1 z2 z4 z5 z9 z23 z24 z25 z26 z27 z28 z29 z30 z31 z32 z33 z34 z35 z36 z37 z38 z39 z40 z41 z42 z43 z44 z45 z46 z47 z48 z49 z50 z51 z52 z53 z54 z55 z56 z57 z58 z59 z60 z61 z62 z63 z64 z65 z66 z67 z68 z69 z70 z71 z6 xb bb rb ob Ba bs.length bc mp.1 a p d) (h : Nx l w x base n u i bs K E nb R xb rb rg bB (bx ob 63 #[.int .i64 o.op, .slice Ad o.d.length cd, .slice As o.s.length cs, .int .i64 o.n, .string o.nm, .int .i64 o.ty.k, .string o.ty.nm, .slice Tn o.ty.ns.length tcn, .slice Tp o.ty.ps.length tcp, .bool o.ty.many]) o r n0 p d W) : cRs.wp Tryz.prog (Exit.inBlock 1 (Exit.then KC (Exit.inBlock 0 (bodyPostD Tryz.prog Tryz.f61 (CallOut l w x base n u i K E))))) a W := by
 obtain ⟨y14, y15, y17, y18, y19, y20, y21, y22, y, hy, rfl⟩ := hB
 obtain ⟨f, rfl⟩ := late232 hy
 obtain ⟨n', t, pc, m, O, od, dl, Dv, dc, rfl, rfl, HNM, HDL, HF, HM, HER, HS⟩ := h
 have HDLN : Hid (dl.length = o.d.length) := HDL.out.1
 have HDW : Hid (∀ y ∈ dl, W32 y) := HDL.out.2
 have hl100 : dl.length ≤ 100 := by have := HDLN.out; omega
 clear HDL
 obtain ⟨w0, rfl⟩ : ∃ y, y = W := ⟨_, rfl⟩
 replace HS : Hid (Hp w w0 (rI w.heap.size (.slice Dv dl.length dc) dl :: bx ob 63 #[.int .i64 o.op, .slice Ad o.d.length cd, .slice As o.s.length cs, .int .i64 o.n, .string o.nm, .int .i64 o.ty.k, .string o.ty.nm, .slice Tn o.ty.ns.length tcn, .slice Tp o.ty.ps.length tcp, .bool o.ty.many] :: bx x.X 55 #[.int .i64 0, .int .i32 0, .slice O m.out.length od, .int .i64 (t : Int), .slice x.A1 nb x.d1, .slice x.A2 nb x.d2, .slice x.A3 (allG l l.length).length x.d3, .slice x.A4 l.length x.d4, .int .i64 (x.F : Int), .int .i64 ((K.length : Int) + 1), .int .i64 x.start] :: ow w.heap.size 21 1 (.slice O m.out.length od) m.out.length (m.out.map i32) :: ow w.heap.size 21 1 (.slice (some ⟨rg, 0, none⟩) R R) R (r.map i32) :: bx xb 50 #[.pointer (some ⟨x.X, 0, none⟩)] :: bx rb 42 #[.slice (some ⟨rg, 0, none⟩) R R] :: bB :: (prC l w.heap.size x m.vs base))) := HS
 unfold cRs cLp
 conv => arg 2; whnf
 go_upto_region 59 with (fail)
 go_wp2_with fail
 go_loopg [290] (dl.length + 1) (fun gk iv wr => ∃ (j : Nat), gk = dl.length - j + 1 ∧ iv = .int .i64 (j : Int) ∧ Hid (j ≤ dl.length) ∧ Hid (Hp w wr (rI w.heap.size (.slice Dv dl.length dc) dl :: bx ob 63 #[.int .i64 o.op, .slice Ad o.d.length cd, .slice As o.s.length cs, .int .i64 o.n, .string o.nm, .int .i64 o.ty.k, .string o.ty.nm, .slice Tn o.ty.ns.length tcn, .slice Tp o.ty.ps.length tcp, .bool o.ty.many] :: bx x.X 55 #[.int .i64 0, .int .i32 0, .slice O m.out.length od, .int .i64 (t : Int), .slice x.A1 nb x.d1, .slice x.A2 nb x.d2, .slice x.A3 (allG l l.length).length x.d3, .slice x.A4 l.length x.d4, .int .i64 (x.F : Int), .int .i64 ((K.length : Int) + 1), .int .i64 x.start] :: ow w.heap.size 21 1 (.slice O m.out.length od) m.out.length (m.out.map i32) :: ow w.heap.size 21 1 (.slice (some ⟨rg, 0, none⟩) R R) R ((setR r (o.d.take j) (dl.take j)).map i32) :: bx xb 50 #[.pointer (some ⟨x.X, 0, none⟩)] :: bx rb 42 #[.slice (some ⟨rg, 0, none⟩) R R] :: bB :: (prC l w.heap.size x m.vs base))))
 case atStart => exact ⟨0, by simp, rfl, Lh (Nat.zero_le _), by rw [List.take_zero]; exact HS⟩
 case round =>
  clear HS
  obtain ⟨j, rfl, rfl, HJ, HS⟩ := hrel
  obtain ⟨w1, rfl⟩ : ∃ y, y = wr := ⟨_, rfl⟩
  by_cases hj : j < dl.length
  ·have hjo : j < o.d.length := by have := HDLN.out; omega
   obtain ⟨dn, hdn, hdr, hd8⟩ := HIX.out _ (List.getElem_mem hjo)
   obtain ⟨ad, ao, rfl, hal, hac⟩ := HRDD.out.i64 hjo
   rw [hdn] at hac
   have HAD : Hid (∀ Y, Below w.heap.size w Y → Y.cell? ⟨ad, ao + j, none⟩ = some (.int .i64 (dn : Int))) := fun Y hY => (hY.cell (p := ⟨ad, ao + j, none⟩) hal).trans hac
   have HSR : Hid (((setR r (o.d.take j) (dl.take j)).map i32).set dn (.int .i32 dl[j]) = (setR r (o.d.take (j + 1)) (dl.take (j + 1))).map i32) := by show _ = _; rw [setR_snoc hjo hj, hdn, Int.toNat_natCast, List.map_set]; rfl
   have HLR : Hid ((setR r (o.d.take j) (dl.take j)).length = R) := by show _ = _; rw [setR_len]; exact HGL.out
   obtain ⟨dg, rfl⟩ := own_some (HS.out.own 0 rfl) (by omega)
   have d0 := own_at5 (HS.out.own 0 rfl) j (.int .i32 dl[j]) (by simp [i32, hj])
   clear hac hal hdn
   have j1 : (j : Int) < (dl.length : Int) := by omega
   have j2 : (0 : Int) ≤ (j : Int) := by omega
   have j3 : (j : Int) < 1000 := by omega
   have j4 : (j : Int) < (o.d.length : Int) := by have := HDLN.out; omega
   have g5 : (dn : Int) < (R : Int) := by omega
   have g6 : (0 : Int) ≤ (dn : Int) := by omega
   have g7 : (dn : Int) < 100000 := by omega
   generalize dl[j] = dv at *
   go_upto_region 62 with (fail)
   clear d0 j1
   replace HS := Lh HS.out.drew
   refine dQ (fun W => At W rb 0 (.slice (some ⟨rg, 0, none⟩) R R) ∧ At W ob 1 (.slice (some ⟨ad, ao, none⟩) o.d.length cd) ∧ At W ad (ao + j) (.int .i64 (dn : Int))) (⟨HS.out.c 6 0, HS.out.c 1 1, HAD.out _ HS.out.mv⟩) fun _ => ?_
   generalize w1.drew = w2 at *
   refine tQ4d 0 1 2 3 ?_; try simp only [sq]
   refine tQ4d 4 5 6 7 ?_; try simp only [sq]
   refine rQ 8 (fun K hK => ?_)
   replace HS := Lh HS.out.f4
   have fz := HS.out.one.frozenAt dn
   have ce := HS.out.one.cellAt dn (by omega)
   rw [List.getElem?_map, List.getElem?_eq_getElem (by rw [HLR.out]; exact hdr)] at ce
   simp only [Option.map_some, i32] at ce
   go_simp
   clear fz ce
   replace HS := Lh (HS.out.rowput dn (.int .i32 dv))
   generalize w2.setCell _ _ = w3 at *
   rw [HSR.out] at HS
   refine hK.out _ _ (⟨HS.out.c 6 0, HS.out.c 2 1, HAD.out _ HS.out.mv⟩) (fun _ => ?_)
   clear hK K
   try simp only [sq]
   refine fQ ?_ _
   replace HS := Lh HS.out.f7.f7.f7.f3.f7.f7.f7.f7
   go_wp2_with fail
   go_roundg (dl.length - (j + 1) + 1)
   case measure => omega
   case rel => exact ⟨j + 1, rfl, by go_num, Lh hj, HS⟩
  obtain rfl : j = dl.length := by have := HJ.out; omega
  have j1 : ¬ (dl.length : Int) < (dl.length : Int) := by omega
  have e1 : setR r (o.d.take dl.length) (dl.take dl.length) = setR r o.d dl := by rw [List.take_of_length_le (Nat.le_of_eq HDLN.out.symm), List.take_of_length_le (Nat.le_refl _)]
  rw [e1] at HS
  clear e1
  go_wp2_with fail
  replace HS := Lh HS.out.drop.drop.f5.f5.f5.f5.f5.f5
  exact HRD.out _ _ (n' + 1) _ ⟨_, _, _, _, _, _, _, _, _, _, _, _, rfl, rfl⟩ (by have := HNM.out; omega) ⟨n', t, _, pc, m, O, od, rfl, rfl, Lh ⟨HNM.out.1, by have := HNM.out; omega, HNM.out.2.2.2⟩, HF, HM, HER, HS⟩
theorem ord_a : OrdG (fun k => k = 1 ∨ k = 2 ∨ k = 9 ∨ k = 10 ∨ k = 13) := by
 unfold OrdG
 intro l w x base n u i bs K E nb R xb rb rg bb ob Ba bc mp bB o r Ad As Tn Tp cd cs tcn tcp m O od t t1 n0 pc scx a1 a4 sl Sx KC K1 z0 z1 z2 z4 z5 z9 z23 z24 z25 z26 z27 z28 z29 z30 z31 z32 z33 z34 z35 z36 z37 z38 z39 z40 z41 z42 z43 z44 z45 z46 z47 z48 z49 z50 z51 z52 z53 z54 z55 z56 z57 z58 z59 z60 z61 z62 z63 z64 z65 z66 z67 z68 z69 z70 z71 z6 a W HFIN HIH HL HH HH2 HPO HML HMPX HMP HF HM HER HT1 HOO HORD HRT HBA HNB HK3 HSQ HSL HGL hs100 HA HOP0 HS hS
 obtain ⟨y14, y17, y18, y19, y20, y21, y22, y, hy, hy2, rfl⟩ := hS
 obtain ⟨f, rfl⟩ := late232 hy
 replace hy2 : f 34 = .int .i64 o.op := by injection hy2
 rw [hy2]
 clear hy hy2
 obtain ⟨w0, rfl⟩ : ∃ y, y = W := ⟨_, rfl⟩
 unfold cSw cLp
 conv => arg 2; whnf
 have hop := HOP0.out
 rcases hop with hop | hop | hop | hop | hop
 ·rw [hop]
  have HOP := Lh hop
  clear hop
  have HOQ : Hid ((ord l ⟨u, i, r, bs, pc⟩).op = 1) := by show _ = _; rw [HORD.out]; exact HOP.out
  have HNP : Hid (pc + 1 < (bod l u i).code.length) := HF.out.nxt HL.out (by rw [HOQ.out]; decide) (by rw [HOQ.out]; decide)
  obtain ⟨hd1, hs0, hn1, hn2⟩ := HOO.out.o1 HOP.out
  have HDD := Lh hd1
  clear hd1 hs0
  have hwn : IntKind.i32.wrap o.n = o.n := by rw [IntKind.wrap_i32]; omega
  have p3 := HS.out.c 7 3
  have HNN : Hid (W32 o.n) := ⟨hn1, hn2⟩
  have HGO : Hid (run l n0 ⟨u, i, (setR r o.d [o.n]), bs, (pc + 1)⟩ K m t1 = E) := by
   have ha := act_1 (m := m) HOQ.out
   rw [HORD.out] at ha
   have hr := (run_go ha).symm.trans HER.out
   rw [← HT1.out.1] at hr
   exact hr
  go_wp2_with fail
  clear p3 hwn hn1 hn2
  replace HS := Lh (HS.out.lit1 (o.n))
  generalize w0.alloc _ = w1 at *
  generalize w0.heap.size = dg at *
  replace HS := Lh HS.out.f1.drop.f6.f6.f4.f6.f6.f6.f7.f7
  refine HFIN.out _ _ _ _ ⟨_, _, _, _, _, _, _, _, _, rfl, rfl⟩ ?_
  exact ⟨n0, t1, (pc + 1), m, O, od, [o.n], _, _, by go_num, rfl, Lh ⟨HT1.out.2.1, Nat.le_refl _, by have := HT1.out; omega, by have := HT1.out; show m.out.length ≤ t1; omega⟩, Lh ⟨HDD.out.symm, fun y hy => by rw [List.mem_singleton] at hy; rw [hy]; exact HNN.out⟩, Lh (HF.out.set (fun y hy => by rw [List.mem_singleton] at hy; rw [hy]; exact HNN.out) HNP.out), HM, HGO, HS⟩
 ·rw [hop]
  have HOP := Lh hop
  clear hop
  have HOQ : Hid ((ord l ⟨u, i, r, bs, pc⟩).op = 2) := by show _ = _; rw [HORD.out]; exact HOP.out
  have HNP : Hid (pc + 1 < (bod l u i).code.length) := HF.out.nxt HL.out (by rw [HOQ.out]; decide) (by rw [HOQ.out]; decide)
  obtain ⟨hd1, hs1⟩ := HOO.out.o2 HOP.out
  have HDD := Lh (hd1.trans hs1.symm)
  clear hd1 hs1
  have HSW : Hid (∀ y ∈ sl, W32 y) := fun y hy => src_w (f := ⟨u, i, r, bs, pc⟩) (o := o) HF.out.rv y (by rw [HSQ.out]; exact hy)
  have HGO : Hid (run l n0 ⟨u, i, (setR r o.d sl), bs, (pc + 1)⟩ K m t1 = E) := by
   have ha := act_2 (m := m) HOQ.out
   rw [HORD.out] at ha
   rw [HSQ.out] at ha
   have hr := (run_go ha).symm.trans HER.out
   rw [← HT1.out.1] at hr
   exact hr
  go_wp2_with fail
  have HS2 : Hid (Hp w w0 (rI w.heap.size (.slice Sx sl.length scx) sl :: bx x.X 55 #[.int .i64 0, .int .i32 0, .slice O m.out.length od, .int .i64 (t1 : Int), .slice x.A1 nb x.d1, .slice x.A2 nb x.d2, .slice x.A3 (allG l l.length).length x.d3, .slice x.A4 l.length x.d4, .int .i64 (x.F : Int), .int .i64 ((K.length : Int) + 1), .int .i64 x.start] :: bx xb 50 #[.pointer (some ⟨x.X, 0, none⟩)] :: ow w.heap.size 21 1 (.slice O m.out.length od) m.out.length (m.out.map i32) :: ow w.heap.size 21 1 (.slice (some ⟨rg, 0, none⟩) R R) R (r.map i32) :: bx rb 42 #[.slice (some ⟨rg, 0, none⟩) R R] :: bB :: bx ob 63 #[.int .i64 o.op, .slice Ad o.d.length cd, .slice As o.s.length cs, .int .i64 o.n, .string o.nm, .int .i64 o.ty.k, .string o.ty.nm, .slice Tn o.ty.ns.length tcn, .slice Tp o.ty.ps.length tcp, .bool o.ty.many] :: (prC l w.heap.size x m.vs base))) := by unfold rI; rw [HSL.out]; exact HS
  replace HS := HS2
  clear HS2
  rw [← HSL.out]
  replace HS := Lh HS.out.f6.f6.f4.f6.f6.f6.f7.f7
  refine HFIN.out _ _ _ _ ⟨_, _, _, _, _, _, _, _, _, rfl, rfl⟩ ?_
  exact ⟨n0, t1, (pc + 1), m, O, od, sl, _, _, by go_num, rfl, Lh ⟨HT1.out.2.1, Nat.le_refl _, by have := HT1.out; omega, by have := HT1.out; show m.out.length ≤ t1; omega⟩, Lh ⟨HSL.out.trans HDD.out.symm, HSW.out⟩, Lh (HF.out.set HSW.out HNP.out), HM, HGO, HS⟩
 ·rw [hop]
  have HOP := Lh hop
  clear hop
  have HOQ : Hid ((ord l ⟨u, i, r, bs, pc⟩).op = 9) := by show _ = _; rw [HORD.out]; exact HOP.out
  obtain ⟨hd0, hs0, hn1, hn2⟩ := HOO.out.o9 HOP.out
  have HDD := Lh hd0
  clear hd0 hs0
  obtain ⟨on, hon⟩ : ∃ on : Nat, o.n = (on : Int) := ⟨o.n.toNat, by omega⟩
  have HON : Hid (o.n.toNat = on) := by show _ = _; rw [hon]; rfl
  have p3 : w0.cell? ⟨ob, 3, none⟩ = some (.int .i64 (on : Int)) := by rw [← hon]; exact HS.out.c 7 3
  have HNJ : Hid (on < (bod l u i).code.length) := by show _ < _; omega
  clear hon hn1 hn2
  have HGO : Hid (run l n0 ⟨u, i, (setR r o.d []), bs, on⟩ K m t1 = E) := by
   have ha := act_9 (m := m) HOQ.out
   rw [HORD.out] at ha
   rw [HON.out] at ha
   rw [setR_nil]
   have hr := (run_go ha).symm.trans HER.out
   rw [← HT1.out.1] at hr
   exact hr
  go_wp2_with fail
  clear p3
  replace HS := Lh (HS.out.row0 w.heap.size 21 1)
  replace HS := Lh HS.out.f1.drop.f6.f6.f4.f6.f6.f6.f7.f7
  refine HFIN.out _ _ _ _ ⟨_, _, _, _, _, _, _, _, _, rfl, rfl⟩ ?_
  exact ⟨n0, t1, on, m, O, od, [], _, _, rfl, rfl, Lh ⟨HT1.out.2.1, Nat.le_refl _, by have := HT1.out; omega, by have := HT1.out; show m.out.length ≤ t1; omega⟩, Lh ⟨HDD.out.symm, fun y hy => by simp at hy⟩, Lh (by rw [setR_nil]; exact HF.out.at HNJ.out), HM, HGO, HS⟩
 ·rw [hop]
  have HOP := Lh hop
  clear hop
  have HOQ : Hid ((ord l ⟨u, i, r, bs, pc⟩).op = 10) := by show _ = _; rw [HORD.out]; exact HOP.out
  obtain ⟨hd0, hs1, hn1, hn2⟩ := HOO.out.o10 HOP.out
  have HDD := Lh hd0
  clear hd0
  obtain ⟨on, hon⟩ : ∃ on : Nat, o.n = (on : Int) := ⟨o.n.toNat, by omega⟩
  have HON : Hid (o.n.toNat = on) := by show _ = _; rw [hon]; rfl
  have p3 : w0.cell? ⟨ob, 3, none⟩ = some (.int .i64 (on : Int)) := by rw [← hon]; exact HS.out.c 7 3
  have HNJ : Hid (on < (bod l u i).code.length) := by show _ < _; omega
  clear hon hn1 hn2
  obtain ⟨sv, rfl⟩ : ∃ v, sl = [v] := List.length_eq_one_iff.1 (HSL.out.trans hs1)
  have hsv : W32 sv := src_w (f := ⟨u, i, r, bs, pc⟩) (o := o) HF.out.rv sv (by rw [HSQ.out]; simp)
  obtain ⟨sg, rfl⟩ := own_some (HS.out.own 0 rfl) (by omega)
  have s0 : w0.cell? ⟨sg, 0, none⟩ = some (.int .i32 sv) := own_at5 (HS.out.own 0 rfl) 0 _ rfl
  have gs : (0 : Int) < (o.s.length : Int) := by omega
  have gsn : 0 < o.s.length := by omega
  have hsv1 := hsv.1
  have hsv2 := hsv.2
  clear hsv
  clear hs1
  by_cases hz : sv = 0
  ·subst hz
   have HGO : Hid (run l n0 ⟨u, i, (setR r o.d []), bs, on⟩ K m t1 = E) := by
    have ha := act_10 (m := m) HOQ.out
    rw [HORD.out] at ha
    rw [HSQ.out] at ha
    rw [HON.out] at ha
    rw [setR_nil]
    have hr := (run_go ha).symm.trans HER.out
    rw [← HT1.out.1] at hr
    exact hr
   go_wp2_with fail
   clear p3 s0 gs gsn
   replace HS := Lh (HS.out.row0 w.heap.size 21 1)
   replace HS := Lh HS.out.f1.drop.f6.f6.f4.f6.f6.f6.f7.f7
   refine HFIN.out _ _ _ _ ⟨_, _, _, _, _, _, _, _, _, rfl, rfl⟩ ?_
   exact ⟨n0, t1, on, m, O, od, [], _, _, rfl, rfl, Lh ⟨HT1.out.2.1, Nat.le_refl _, by have := HT1.out; omega, by have := HT1.out; show m.out.length ≤ t1; omega⟩, Lh ⟨HDD.out.symm, fun y hy => by simp at hy⟩, Lh (by rw [setR_nil]; exact HF.out.at HNJ.out), HM, HGO, HS⟩
  have HNP : Hid (pc + 1 < (bod l u i).code.length) := HF.out.nxt HL.out (by rw [HOQ.out]; decide) (by rw [HOQ.out]; decide)
  have HGO : Hid (run l n0 ⟨u, i, (setR r o.d []), bs, (pc + 1)⟩ K m t1 = E) := by
   have ha := act_10 (m := m) HOQ.out
   rw [HORD.out] at ha
   rw [HSQ.out] at ha
   rw [if_neg (show ¬ ([sv] : List Int).getD 0 0 = 0 from hz)] at ha
   rw [setR_nil]
   have hr := (run_go ha).symm.trans HER.out
   rw [← HT1.out.1] at hr
   exact hr
  have hz2 : (sv == 0) = false := by simp [hz]
  clear hz
  go_wp2_with fail
  clear p3 s0 gs gsn
  replace HS := Lh (HS.out.row0 w.heap.size 21 1)
  replace HS := Lh HS.out.f1.drop.f6.f6.f4.f6.f6.f6.f7.f7
  refine HFIN.out _ _ _ _ ⟨_, _, _, _, _, _, _, _, _, rfl, rfl⟩ ?_
  exact ⟨n0, t1, (pc + 1), m, O, od, [], _, _, by go_num, rfl, Lh ⟨HT1.out.2.1, Nat.le_refl _, by have := HT1.out; omega, by have := HT1.out; show m.out.length ≤ t1; omega⟩, Lh ⟨HDD.out.symm, fun y hy => by simp at hy⟩, Lh (by rw [setR_nil]; exact HF.out.at HNP.out), HM, HGO, HS⟩
 ·rw [hop]
  have HOP := Lh hop
  clear hop
  have HOQ : Hid ((ord l ⟨u, i, r, bs, pc⟩).op = 13) := by show _ = _; rw [HORD.out]; exact HOP.out
  have HNP : Hid (pc + 1 < (bod l u i).code.length) := HF.out.nxt HL.out (by rw [HOQ.out]; decide) (by rw [HOQ.out]; decide)
  obtain ⟨hd1, hs0⟩ := HOO.out.o13 HOP.out
  have HDD := Lh hd1
  clear hd1 hs0
  have hb12 : bs.length ≤ 12 := HF.out.bl
  have hwn : IntKind.i32.wrap (bs.length : Int) = (bs.length : Int) := by rw [IntKind.wrap_i32]; omega
  have HWN : Hid (W32 (bs.length : Int)) := (show W32 (bs.length : Int) from ⟨by omega, by omega⟩)
  have HGO : Hid (run l n0 ⟨u, i, (setR r o.d [(bs.length : Int)]), bs, (pc + 1)⟩ K m t1 = E) := by
   have ha := act_13 (m := m) HOQ.out
   rw [HORD.out] at ha
   have hr := (run_go ha).symm.trans HER.out
   rw [← HT1.out.1] at hr
   exact hr
  go_wp2_with fail
  clear hwn
  replace HS := Lh (HS.out.lit1 ((bs.length : Int)))
  generalize w0.alloc _ = w1 at *
  generalize w0.heap.size = dg at *
  replace HS := Lh HS.out.f1.drop.f6.f6.f4.f6.f6.f6.f7.f7
  refine HFIN.out _ _ _ _ ⟨_, _, _, _, _, _, _, _, _, rfl, rfl⟩ ?_
  exact ⟨n0, t1, (pc + 1), m, O, od, [(bs.length : Int)], _, _, by go_num, rfl, Lh ⟨HT1.out.2.1, Nat.le_refl _, by have := HT1.out; omega, by have := HT1.out; show m.out.length ≤ t1; omega⟩, Lh ⟨HDD.out.symm, fun y hy => by rw [List.mem_singleton] at hy; rw [hy]; exact HWN.out⟩, Lh (HF.out.set (fun y hy => by rw [List.mem_singleton] at hy; rw [hy]; exact HWN.out) HNP.out), HM, HGO, HS⟩
theorem ord_b : OrdG (fun k => k = 3) := by
 unfold OrdG
 intro l w x base n u i bs K E nb R xb rb rg bb ob Ba bc mp bB o r Ad As Tn Tp cd cs tcn tcp m O od t t1 n0 pc scx a1 a4 sl Sx KC K1 z0 z1 z2 z4 z5 z9 z23 z24 z25 z26 z27 z28 z29 z30 z31 z32 z33 z34 z35 z36 z37 z38 z39 z40 z41 z42 z43 z44 z45 z46 z47 z48 z49 z50 z51 z52 z53 z54 z55 z56 z57 z58 z59 z60 z61 z62 z63 z64 z65 z66 z67 z68 z69 z70 z71 z6 a W HFIN HIH HL HH HH2 HPO HML HMPX HMP HF HM HER HT1 HOO HORD HRT HBA HNB HK3 HSQ HSL HGL hs100 HA HOP0 HS hS
 obtain ⟨y14, y17, y18, y19, y20, y21, y22, y, hy, hy2, rfl⟩ := hS
 obtain ⟨f, rfl⟩ := late232 hy
 replace hy2 : f 34 = .int .i64 o.op := by injection hy2
 rw [hy2]
 clear hy hy2
 obtain ⟨w0, rfl⟩ : ∃ y, y = W := ⟨_, rfl⟩
 unfold cSw cLp
 conv => arg 2; whnf
 have hop := HOP0.out
 ·rw [hop]
  have HOP := Lh hop
  clear hop
  have HOQ : Hid ((ord l ⟨u, i, r, bs, pc⟩).op = 3) := by show _ = _; rw [HORD.out]; exact HOP.out
  have HNP : Hid (pc + 1 < (bod l u i).code.length) := HF.out.nxt HL.out (by rw [HOQ.out]; decide) (by rw [HOQ.out]; decide)
  obtain ⟨hd1, hs2, hn1, hn2⟩ := HOO.out.o3 HOP.out
  have HDD := Lh hd1
  clear hd1 hn1 hn2
  obtain ⟨s0, s1, rfl⟩ : ∃ a b, sl = [a, b] := len_two (HSL.out.trans hs2)
  have hw0 : W32 s0 := src_w (f := ⟨u, i, r, bs, pc⟩) (o := o) HF.out.rv s0 (by rw [HSQ.out]; simp)
  have hw1 : W32 s1 := src_w (f := ⟨u, i, r, bs, pc⟩) (o := o) HF.out.rv s1 (by rw [HSQ.out]; simp)
  obtain ⟨sg, rfl⟩ := own_some (HS.out.own 0 rfl) (by omega)
  have gsn : 0 < o.s.length := by omega
  have gsm : (1 : Int) < (o.s.length : Int) := by omega
  clear hs2
  obtain ⟨ok, hok⟩ : ∃ b, opOk o.n s1 = b := ⟨_, rfl⟩
  have HOK := Lh hok
  have HOC := Lh (fun W => op_any o.n s0 s1 hw0.1 hw0.2 hw1.1 hw1.2 W)
  have HVW : Hid (W32 (opV o.n s0 s1)) := opV_lo o.n s0 s1 hw0.1 hw0.2 hw1.1 hw1.2
  rw [hok] at HOC
  clear hok hw0 hw1
  go_upto_region 26 with (fail)
  replace HS := Lh HS.out.drew
  refine dQ (fun W => At W ob 3 (.int .i64 o.n) ∧ At W sg 0 (.int .i32 s0) ∧ At W sg 1 (.int .i32 s1)) (⟨HS.out.c 7 3, own_at5 (HS.out.own 0 rfl) 0 _ rfl, own_at5 (HS.out.own 0 rfl) 1 _ rfl⟩) fun _ => ?_
  generalize w0.drew = w1 at *
  refine tQ4d 0 1 2 3 ?_; try simp only [sq]
  refine tQ4d 4 5 6 7 ?_; try simp only [sq]
  refine rQ 8 (fun K hK => ?_)
  go_simp
  refine (HOC.out w1).mono ?_
  rintro e w2 ⟨rfl, dn, hdn⟩
  have hb : Below w1.heap.size w1 w2 := by rw [hdn]; exact Below.drewN_ (Below.refl _ _) _
  replace HS := Lh (HS.out.below hb)
  clear hb hdn dn
  refine hK.out _ _ (⟨HS.out.c 7 3, own_at5 (HS.out.own 0 rfl) 0 _ rfl, own_at5 (HS.out.own 0 rfl) 1 _ rfl⟩) (fun _ => ?_)
  clear hK K
  try simp only [sq]
  refine tQ4d 9 10 11 12 ?_; try simp only [sq]
  refine tQd 13 ?_; try simp only [sq]
  refine fQ ?_ _
  clear HOC
  generalize hov : opV o.n s0 s1 = ov at *
  have HOV := Lh hov
  clear hov
  cases ok
  ·have HEE : Hid (E = ⟨2, 0, m.out, t1⟩) := by
    have ha := act_3' (m := m) HOQ.out (by rw [HORD.out, HSQ.out]; exact HOK.out)
    rw [HT1.out.1]
    exact HER.out.symm.trans (run_stop ha)
   go_wp2_with fail
   replace HS := Lh HS.out.drop.f3.drop.f3.drop.f3.drop.f3.drop.f2.f2.f2
   refine leaves_cons (f := 77) (args := #[.pointer (some ⟨xb, 0, none⟩)]) (by simp) (by simp [go_sem]) ?_
   refine (deep_any (d := K.length) (.panicking [{ v := .iface 115 (.agg #[.int .i64 (2)]), recovered := false }]) HS.out (by have := HK3.out.2; omega)).mono ?_
   rintro e u' W' ⟨rfl, rfl, hH⟩
   rw [HEE.out]
   exact .inr ⟨m.vs, O, od, K.length, Nat.le_refl _, Nat.le_succ _, rfl, by show Hp _ _ _; unfold prP; rw [show (allB l l.length).length = nbl l from rfl, HNB.out]; exact hH.f1.drop, rfl⟩
  have HGO : Hid (run l n0 ⟨u, i, (setR r o.d [ov]), bs, (pc + 1)⟩ K m t1 = E) := by
   have ha := act_3 (m := m) HOQ.out (by rw [HORD.out, HSQ.out]; exact HOK.out)
   rw [HORD.out] at ha
   rw [HSQ.out] at ha
   rw [show opV o.n ([s0, s1].getD 0 0) ([s0, s1].getD 1 0) = ov from HOV.out] at ha
   have hr := (run_go ha).symm.trans HER.out
   rw [← HT1.out.1] at hr
   exact hr
  go_wp2_with fail
  clear gsn gsm
  replace HS := Lh (HS.out.lit1 (ov))
  generalize w2.alloc _ = w3 at *
  generalize w2.heap.size = dg at *
  replace HS := Lh HS.out.f1.drop.f6.f6.f4.f6.f6.f6.f7.f7
  refine HFIN.out _ _ _ _ ⟨_, _, _, _, _, _, _, _, _, rfl, rfl⟩ ?_
  exact ⟨n0, t1, (pc + 1), m, O, od, [ov], _, _, by go_num, rfl, Lh ⟨HT1.out.2.1, Nat.le_refl _, by have := HT1.out; omega, by have := HT1.out; show m.out.length ≤ t1; omega⟩, Lh ⟨HDD.out.symm, fun y hy => by rw [List.mem_singleton] at hy; rw [hy]; exact HVW.out⟩, Lh (HF.out.set (fun y hy => by rw [List.mem_singleton] at hy; rw [hy]; exact HVW.out) HNP.out), HM, HGO, HS⟩
end Go.Proofs.YthihaeobkoiljaaGreat
