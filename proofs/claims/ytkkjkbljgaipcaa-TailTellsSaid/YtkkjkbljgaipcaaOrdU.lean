/- The walk of tail.Of. -/
import Derived.Test.YtkkjkbljgaipcaaOrdT
namespace Go.Proofs.Ytkkjkbljgaipcaa
open Go.RowKit Go.Shelf
set_option linter.unusedVariables false
set_option linter.unusedSimpArgs false
set_option maxRecDepth 100000
set_option maxHeartbeats 8000000
attribute [local go_sem] Oper.semAt_some
/-- is a call (that is one) at the tail? -/
noncomputable def condB (b : Bo) (i : Nat) (o : Or) : Bool := !o.ty.many && lastB b i && (decide (((abiV o.ty []).area : Int) ≤ ((abiV b.ty []).area : Int)) && !((abiV o.ty []).cops.contains true))
noncomputable def tailF (b : Bo) (pre : List (Fin b.code.length)) : List (Fin b.code.length) := pre.filter fun x => condB b x.1 b.code[x.1]
noncomputable def tailL (b : Bo) : List (Fin b.code.length) := tailF b (callsL b.code b.code.length)
theorem tailF_snoc (b : Bo) (pre : List (Fin b.code.length)) (x : Fin b.code.length) : tailF b (pre ++ [x]) = if condB b x.1 b.code[x.1] then tailF b pre ++ [x] else tailF b pre := by
  unfold tailF
  rw [List.filter_append]
  simp only [List.filter_cons, List.filter_nil]
  split <;> simp
def ixV {n : Nat} (l : List (Fin n)) : List Value := l.map fun x => .int .i64 (x.1 : Int)
def TailOut (b : Bo) (w : World) (e : Ending) (w' : World) : Prop :=
  (bodyB b = false ∧ e = .returned (.tuple #[.slice none 0 0, .int .i64 2]) ∧ Below w.heap.size w w') ∨
  (bodyB b = true ∧ ∃ A c, e = .returned (.tuple #[.slice A (tailL b).length c, .int .i64 0]) ∧ Row w' A (ixV (tailL b)) ∧ Below w.heap.size w w')
theorem tailOf_no (b : Bo) (cs : List Value) (w : World) (hr : RepB w b cs) (hm : ML w) (h : bodyB b = false) : Calls Try.prog 9 #[.agg cs.toArray] w (TailOut b w) := by
  have HR := Lib.hid hr
  have H := Lib.hid h
  obtain ⟨An, cn, Ap, cp, A, c, rfl, -, -, -, -⟩ := hr.nine
  have B0 : Below w.heap.size w (w.alloc (.cells #[.string b.nm, .bool b.static, .int .i64 b.ty.k, .string b.ty.nm, .slice An b.ty.ns.length cn, .slice Ap b.ty.ps.length cp, .bool b.ty.many, .int .i64 b.regs, .slice A b.code.length c] 28)) := by (repeat (first | with_reducible assumption | with_reducible exact Below.refl _ _ | (refine Below.setCell ?_ (by first | omega | (simp; done) | (simp; omega)) _) | (refine Below.drewN_ ?_ _) | (refine Below.drew ?_) | (refine Below.alloc ?_ (by first | omega | (simp; done) | (simp; omega)) _)))
  have HC := Lib.hid (may3_any b _ _ (HR.out.keep B0) (hm.keep B0))
  clear hr hm h
  go_enter Try.func9, Try.ntmps9
  go_wp2_with fail
  ((with_reducible refine (HC.out).mono ?_); rintro e w2 ⟨rfl, hb2⟩)
  rw [H.out]
  go_wp2
  go_ret2
  exact .inl ⟨H.out, rfl, B0.trans (hb2.mono B0.size)⟩
theorem code_le {b : Bo} (h : bodyB b = true) : b.code.length ≤ 6000 := by
  rcases hh : headB b with _ | _
  · rw [body_no hh] at h; cases h
  · exact (head_parts hh).2.2.2.2.2.2
theorem tailOf_yes (b : Bo) (cs : List Value) (w : World) (hr : RepB w b cs) (hm : ML w) (h : bodyB b = true) : Calls Try.prog 9 #[.agg cs.toArray] w (TailOut b w) := by
  have HR := Lib.hid hr
  have H := Lib.hid h
  have hlen := code_le h
  obtain ⟨An, cn, Ap, cp, A, c, rfl, hT, hP, hO, hl⟩ := hr.nine
  have B0 : Below w.heap.size w (w.alloc (.cells #[.string b.nm, .bool b.static, .int .i64 b.ty.k, .string b.ty.nm, .slice An b.ty.ns.length cn, .slice Ap b.ty.ps.length cp, .bool b.ty.many, .int .i64 b.regs, .slice A b.code.length c] 28)) := by (repeat (first | with_reducible assumption | with_reducible exact Below.refl _ _ | (refine Below.setCell ?_ (by first | omega | (simp; done) | (simp; omega)) _) | (refine Below.drewN_ ?_ _) | (refine Below.drew ?_) | (refine Below.alloc ?_ (by first | omega | (simp; done) | (simp; omega)) _)))
  have kb := Blk.new_ w 28 #[.string b.nm, .bool b.static, .int .i64 b.ty.k, .string b.ty.nm, .slice An b.ty.ns.length cn, .slice Ap b.ty.ps.length cp, .bool b.ty.many, .int .i64 b.regs, .slice A b.code.length c]
  have HC := Lib.hid (may3_any b _ _ (HR.out.keep B0) (hm.keep B0))
  have HT := Lib.hid hT
  have HM := Lib.hid hm
  have HO := Lib.hid hO
  have HL := Lib.hid hlen
  clear hr hm h hT hP hO hl hlen
  refine (callsIn_wide (n := 10)).1 ?_
  refine callsIn_of_wp_marks Try.func9 rfl trivial ?_ rfl
  simp only [Try.ntmps9, List.size_toArray, List.length_cons, List.length_nil, Nat.reduceAdd, Nat.reduceSub, Array.replicate_succ, Array.replicate_zero, List.push_toArray, List.append_toArray, List.nil_append, List.cons_append]
  gi_wp2_with fail
  refine ⟨trivial, ?_⟩
  refine (callsIn_wide.2 HC.out).mono ?_
  rintro e w2 ⟨rfl, hb2⟩
  rw [H.out]
  have b2 := B0.trans (hb2.mono B0.size)
  have kb2 := kb.below hb2
  clear HC B0 hb2 kb
  have q0 := kb2.cell 0 (.string b.nm) rfl
  have q1 := kb2.cell 1 (.bool b.static) rfl
  have q2 := kb2.cell 2 (.int .i64 b.ty.k) rfl
  have q3 := kb2.cell 3 (.string b.ty.nm) rfl
  have q4 := kb2.cell 4 (.slice An b.ty.ns.length cn) rfl
  have q5 := kb2.cell 5 (.slice Ap b.ty.ps.length cp) rfl
  have q6 := kb2.cell 6 (.bool b.ty.many) rfl
  have q7 := kb2.cell 7 (.int .i64 b.regs) rfl
  have q8 := kb2.cell 8 (.slice A b.code.length c) rfl
  have HPL := Lib.hid (abiP_any b.ty _ [] none 0 w2 (Rep.keep b2 _ _ HT.out) (by unfold RepL; trivial) (HM.out.keep b2))
  gi_wp2_with fail
  refine ⟨trivial, ?_⟩
  refine (callsIn_wide.2 HPL.out).mono ?_
  rintro e w3 ⟨pcs, rfl, hP3, hb3⟩
  obtain ⟨A1, c1, A2, c2, A3, c3, vs, rfl, -⟩ := hP3
  have b3 := b2.trans (hb3.mono b2.size)
  have kb3 := kb2.below hb3
  clear q0 q1 q2 q3 q4 q5 q6 q7 q8 HPL hb3 kb2 b2
  generalize (abiV b.ty []).res = ar at *
  generalize (abiV b.ty []).cnt = ac at *
  have q0 := kb3.cell 0 (.string b.nm) rfl
  have q1 := kb3.cell 1 (.bool b.static) rfl
  have q2 := kb3.cell 2 (.int .i64 b.ty.k) rfl
  have q3 := kb3.cell 3 (.string b.ty.nm) rfl
  have q4 := kb3.cell 4 (.slice An b.ty.ns.length cn) rfl
  have q5 := kb3.cell 5 (.slice Ap b.ty.ps.length cp) rfl
  have q6 := kb3.cell 6 (.bool b.ty.many) rfl
  have q7 := kb3.cell 7 (.int .i64 b.regs) rfl
  have q8 := kb3.cell 8 (.slice A b.code.length c) rfl
  have hlt3 := kb3.lt
  have HCL : Hid (∀ W, Below w.heap.size w W → Calls Try.prog 25 #[.agg #[.string b.nm, .bool b.static, .int .i64 b.ty.k, .string b.ty.nm, .slice An b.ty.ns.length cn, .slice Ap b.ty.ps.length cp, .bool b.ty.many, .int .i64 b.regs, .slice A b.code.length c]] W fun e w' => e = .returned (.func (.func 52) #[] #[.pointer (some ⟨W.heap.size, 0, none⟩)]) ∧ w' = W.alloc (.cells #[.string b.nm, .bool b.static, .int .i64 b.ty.k, .string b.ty.nm, .slice An b.ty.ns.length cn, .slice Ap b.ty.ps.length cp, .bool b.ty.many, .int .i64 b.regs, .slice A b.code.length c] 28)) :=
    fun W hW => calls_any b _ W (HR.out.keep hW)
  gi_wp2_with (refine ⟨trivial, ?_⟩; gi_at_call 25; refine (callsIn_wide.2 (HCL.out _ (by (repeat (first | with_reducible assumption | with_reducible exact Below.refl _ _ | (refine Below.setCell ?_ (by first | omega | (simp; done) | (simp; omega)) _) | (refine Below.drewN_ ?_ _) | (refine Below.drew ?_) | (refine Below.alloc ?_ (by first | omega | (simp; done) | (simp; omega)) _)))))).mono ?_; rintro e w' ⟨rfl, rfl⟩)
  have hs0 : (((w3.alloc (.cells #[Value.int .i64 ar, .int .i64 ac, .slice A1 (abiV b.ty []).pars.length c1, .slice A2 (abiV b.ty []).cops.length c2, .slice A3 (abiV b.ty []).ress.length c3, .int .i64 ((abiV b.ty []).area : Int), .int .i64 ((abiV b.ty []).extra : Int)] 67)).alloc (.cells #[.slice none 0 0] 35)).alloc (.cells #[.string b.nm, .bool b.static, .int .i64 b.ty.k, .string b.ty.nm, .slice An b.ty.ns.length cn, .slice Ap b.ty.ps.length cp, .bool b.ty.many, .int .i64 b.regs, .slice A b.code.length c] 28)).heap.size = w3.heap.size + 3 := by simp
  have bO := (Boxed.new (w3.alloc (.cells #[Value.int .i64 ar, .int .i64 ac, .slice A1 (abiV b.ty []).pars.length c1, .slice A2 (abiV b.ty []).cops.length c2, .slice A3 (abiV b.ty []).ress.length c3, .int .i64 ((abiV b.ty []).area : Int), .int .i64 ((abiV b.ty []).extra : Int)] 67)) 35 (.slice none 0 0)).alloc (.cells #[.string b.nm, .bool b.static, .int .i64 b.ty.k, .string b.ty.nm, .slice An b.ty.ns.length cn, .slice Ap b.ty.ps.length cp, .bool b.ty.many, .int .i64 b.regs, .slice A b.code.length c] 28)
  have kp := ((Blk.new_ w3 67 #[Value.int .i64 ar, .int .i64 ac, .slice A1 (abiV b.ty []).pars.length c1, .slice A2 (abiV b.ty []).cops.length c2, .slice A3 (abiV b.ty []).ress.length c3, .int .i64 ((abiV b.ty []).area : Int), .int .i64 ((abiV b.ty []).extra : Int)]).alloc (.cells #[.slice none 0 0] 35)).alloc (.cells #[.string b.nm, .bool b.static, .int .i64 b.ty.k, .string b.ty.nm, .slice An b.ty.ns.length cn, .slice Ap b.ty.ps.length cp, .bool b.ty.many, .int .i64 b.regs, .slice A b.code.length c] 28)
  have kq := (((kb3.alloc (.cells #[Value.int .i64 ar, .int .i64 ac, .slice A1 (abiV b.ty []).pars.length c1, .slice A2 (abiV b.ty []).cops.length c2, .slice A3 (abiV b.ty []).ress.length c3, .int .i64 ((abiV b.ty []).area : Int), .int .i64 ((abiV b.ty []).extra : Int)] 67))).alloc (.cells #[.slice none 0 0] 35)).alloc (.cells #[.string b.nm, .bool b.static, .int .i64 b.ty.k, .string b.ty.nm, .slice An b.ty.ns.length cn, .slice Ap b.ty.ps.length cp, .bool b.ty.many, .int .i64 b.regs, .slice A b.code.length c] 28)
  have x8 : (((w3.alloc (.cells #[Value.int .i64 ar, .int .i64 ac, .slice A1 (abiV b.ty []).pars.length c1, .slice A2 (abiV b.ty []).cops.length c2, .slice A3 (abiV b.ty []).ress.length c3, .int .i64 ((abiV b.ty []).area : Int), .int .i64 ((abiV b.ty []).extra : Int)] 67)).alloc (.cells #[.slice none 0 0] 35)).alloc (.cells #[.string b.nm, .bool b.static, .int .i64 b.ty.k, .string b.ty.nm, .slice An b.ty.ns.length cn, .slice Ap b.ty.ps.length cp, .bool b.ty.many, .int .i64 b.regs, .slice A b.code.length c] 28)).cell? ⟨w3.heap.size + 1 + 1, 8, none⟩ = some (.slice A b.code.length c) := by go_simp
  have hb0 : Below w.heap.size w (((w3.alloc (.cells #[Value.int .i64 ar, .int .i64 ac, .slice A1 (abiV b.ty []).pars.length c1, .slice A2 (abiV b.ty []).cops.length c2, .slice A3 (abiV b.ty []).ress.length c3, .int .i64 ((abiV b.ty []).area : Int), .int .i64 ((abiV b.ty []).extra : Int)] 67)).alloc (.cells #[.slice none 0 0] 35)).alloc (.cells #[.string b.nm, .bool b.static, .int .i64 b.ty.k, .string b.ty.nm, .slice An b.ty.ns.length cn, .slice Ap b.ty.ps.length cp, .bool b.ty.many, .int .i64 b.regs, .slice A b.code.length c] 28)) := by (repeat (first | with_reducible assumption | with_reducible exact Below.refl _ _ | (refine Below.setCell ?_ (by first | omega | (simp; done) | (simp; omega)) _) | (refine Below.drewN_ ?_ _) | (refine Below.drew ?_) | (refine Below.alloc ?_ (by first | omega | (simp; done) | (simp; omega)) _)))
  generalize hW0 : (((w3.alloc (.cells #[Value.int .i64 ar, .int .i64 ac, .slice A1 (abiV b.ty []).pars.length c1, .slice A2 (abiV b.ty []).cops.length c2, .slice A3 (abiV b.ty []).ress.length c3, .int .i64 ((abiV b.ty []).area : Int), .int .i64 ((abiV b.ty []).extra : Int)] 67)).alloc (.cells #[.slice none 0 0] 35)).alloc (.cells #[.string b.nm, .bool b.static, .int .i64 b.ty.k, .string b.ty.nm, .slice An b.ty.ns.length cn, .slice Ap b.ty.ps.length cp, .bool b.ty.many, .int .i64 b.regs, .slice A b.code.length c] 28)) = W0 at *
  simp only [World.size_alloc] at bO
  clear hW0 q0 q1 q2 q3 q4 q5 q6 q7 q8 HCL
  obtain ⟨ocs, hocs⟩ := ocs_of HO.out
  obtain ⟨i0, hi, hz0, hz1, hz2⟩ := info_parts info_int
  have HOC := Lib.hid hocs
  have hlen := HL.out
  refine wpIn_rangeFunc_ownH rfl (by omega) (gf := 52) (lb := #[.pointer (some ⟨w3.heap.size + 1 + 1, 0, none⟩)]) rfl trivial (enters_of Try.func52 (by kernel_rfl) rfl)
    (calls_stops 9 (w3.heap.size + 1 + 1) w A c b.code ocs hocs hlen W0 hb0 (by omega) x8) belowK_t (belowK_b (by omega)) (Below.refl _ _) (fun _ => rfl)
    (fun pre W => (∃ v, Boxed W (w3.heap.size + 1) 35 v ∧ W.ownsRow (w3.heap.size + 1) 3 1 v (tailF b pre).length (ixV (tailF b pre)) ∧ True) ∧ Below (w3.heap.size + 1) W0 W)
    (fun _ _ _ => False)
    (OwnFrom.and (Own.from (holdsRow_own (w3.heap.size + 1) (w3.heap.size + 1) 35 3 1 (fun pre : List (Fin b.code.length) => (tailF b pre).length) (fun pre : List (Fin b.code.length) => ixV (tailF b pre)) (fun pre v => True)) _) (ownFrom_below (by omega) (by omega)))
    (fun _ _ _ _ _ hs _ _ => hs)
    ⟨⟨_, bO, World.ownsRow_nil _ _ _ _, trivial⟩, Below.refl _ _⟩
    (fun x a' W => ∃ Bx, w3.heap.size + 2 ≤ Bx ∧ Blk W Bx 60 (ocs x.1).toArray ∧ a' = { tmps := #[.agg #[.string b.nm, .bool b.static, .int .i64 b.ty.k, .string b.ty.nm, .slice An b.ty.ns.length cn, .slice Ap b.ty.ps.length cp, .bool b.ty.many, .int .i64 b.regs, .slice A b.code.length c], .pointer (some ⟨w.heap.size, 0, none⟩), .slice none 0 0, .int .i64 0, .pointer (some ⟨w3.heap.size, 0, none⟩), .int .i64 (abiE b.ty []), .pointer (some ⟨w3.heap.size + 1, 0, none⟩), .int .i64 (x.1 : Int), .pointer (some ⟨Bx, 0, none⟩), undef, undef, .agg #[.string b.nm, .bool b.static, .int .i64 b.ty.k, .string b.ty.nm, .slice An b.ty.ns.length cn, .slice Ap b.ty.ps.length cp, .bool b.ty.many, .int .i64 b.regs, .slice A b.code.length c], .bool true, .bool false, .tuple #[.agg #[Value.int .i64 ar, .int .i64 ac, .slice A1 (abiV b.ty []).pars.length c1, .slice A2 (abiV b.ty []).cops.length c2, .slice A3 (abiV b.ty []).ress.length c3, .int .i64 ((abiV b.ty []).area : Int), .int .i64 ((abiV b.ty []).extra : Int)], .int .i64 (abiE b.ty [])], .pointer (some ⟨w.heap.size, 2, none⟩), .agg #[.int .i64 b.ty.k, .string b.ty.nm, .slice An b.ty.ns.length cn, .slice Ap b.ty.ps.length cp, .bool b.ty.many], .tuple #[.agg #[Value.int .i64 ar, .int .i64 ac, .slice A1 (abiV b.ty []).pars.length c1, .slice A2 (abiV b.ty []).cops.length c2, .slice A3 (abiV b.ty []).ress.length c3, .int .i64 ((abiV b.ty []).area : Int), .int .i64 ((abiV b.ty []).extra : Int)], .int .i64 (abiE b.ty [])], .agg #[Value.int .i64 ar, .int .i64 ac, .slice A1 (abiV b.ty []).pars.length c1, .slice A2 (abiV b.ty []).cops.length c2, .slice A3 (abiV b.ty []).ress.length c3, .int .i64 ((abiV b.ty []).area : Int), .int .i64 ((abiV b.ty []).extra : Int)], .int .i64 (abiE b.ty []), .agg #[.string b.nm, .bool b.static, .int .i64 b.ty.k, .string b.ty.nm, .slice An b.ty.ns.length cn, .slice Ap b.ty.ps.length cp, .bool b.ty.many, .int .i64 b.regs, .slice A b.code.length c], .func (.func 52) #[] #[.pointer (some ⟨w3.heap.size + 1 + 1, 0, none⟩)], .int .i64 (x.1 : Int), .agg (ocs x.1).toArray, undef, undef, undef, undef, undef, undef, undef, undef, undef, undef, undef, undef, undef, undef, undef, undef, undef, undef, undef, undef, undef, undef, undef, undef, undef, undef, undef, undef, undef, undef, undef], defers := [] })
    (fun x a' s X Y row hs hg hrow => by
      obtain ⟨Bx, h1, h2, h3⟩ := hs
      exact ⟨Bx, h1, h2.grown hg (fun e => by
        obtain ⟨-, o, ho, hc⟩ := hrow Bx e.symm
        unfold Blk at h2
        rw [h2] at ho; cases ho; cases hc), h3⟩) ?assign ?body ?done ?stop
  case assign =>
    rintro l pre x W K ⟨⟨v, hv, hrow, -⟩, hB⟩ hK
    obtain ⟨bb, oo, -, -, -, hrep⟩ := HOC.out x.1 x.2
    obtain ⟨Ad, cd, As, c', An', cn', Ap', cp', hcs, -⟩ := hrep.ten
    clear hrep
    rw [hcs] at hK ⊢
    generalize b.code[x.1] = o at *
    have hsz := hB.size
    gi_wp2
    exact hK _ _ ((KeepsOthers.alloc W _).from _) ((Below.refl _ W).alloc (by have := hb0.size; omega) _) ⟨⟨v, hv.alloc _, own_below hrow (by (repeat (first | with_reducible assumption | with_reducible exact Below.refl _ _ | (refine Below.setCell ?_ (by first | omega | (simp; done) | (simp; omega)) _) | (refine Below.drewN_ ?_ _) | (refine Below.drew ?_) | (refine Below.alloc ?_ (by first | omega | (simp; done) | (simp; omega)) _)))), trivial⟩, hB.alloc (by omega) _⟩ ⟨W.heap.size, by omega, Blk.new_ W _ _, rfl⟩
  case body =>
    rintro l pre x a' W hl ⟨r, hr⟩ ⟨⟨v, hv, hrow, -⟩, hB⟩ ⟨Bx, hBx, bX, rfl⟩ hlt
    obtain ⟨bb, oo, -, -, -, hrep⟩ := HOC.out x.1 x.2
    obtain ⟨Ad, cd, As, c', An', cn', Ap', cp', hcs, -, -, hTo, -⟩ := hrep.ten
    have HTO := Lib.hid hTo
    clear hrep hTo hocs x8 bO
    rw [hcs] at bX ⊢
    have hsz := hB.size
    have hle0 : w.heap.size ≤ w3.heap.size + 1 := by have := b3.size; omega
    have hbw : Below w.heap.size w W := hb0.trans (hB.mono (by have := b3.size; omega))
    have kq2 : Blk W w.heap.size 28 #[.string b.nm, .bool b.static, .int .i64 b.ty.k, .string b.ty.nm, .slice An b.ty.ns.length cn, .slice Ap b.ty.ps.length cp, .bool b.ty.many, .int .i64 b.regs, .slice A b.code.length c] := (hB.block _ (by have := b3.size; omega)).trans kq
    have kp2 : Blk W w3.heap.size 67 #[Value.int .i64 ar, .int .i64 ac, .slice A1 (abiV b.ty []).pars.length c1, .slice A2 (abiV b.ty []).cops.length c2, .slice A3 (abiV b.ty []).ress.length c3, .int .i64 ((abiV b.ty []).area : Int), .int .i64 ((abiV b.ty []).extra : Int)] := (hB.block _ (by omega)).trans kp
    have HCD := Lib.hid (tailF_snoc b pre x)
    have HLA := Lib.hid (last_any b _ x.1 W (HR.out.keep hbw) x.2 hlen)
    have hpl : (tailF b pre).length < 6000 := by
      have := List.length_filter_le (fun x : Fin b.code.length => condB b x.1 b.code[x.1]) pre
      unfold tailF; omega
    have hvlt := World.block_lt_of_cell? W _ hv.cell
    simp only at hvlt
    generalize b.code[x.1] = o at *
    have HCE : Hid (condB b x.1 o = (!o.ty.many && lastB b x.1 && (decide (((abiV o.ty []).area : Int) ≤ ((abiV b.ty []).area : Int)) && !((abiV o.ty []).cops.contains true)))) := rfl
    generalize condB b x.1 o = cnd at *
    generalize lastB b x.1 = lst at *
    have z5 := bX.cell 5 (.int .i64 o.ty.k) rfl
    have z6 := bX.cell 6 (.string o.ty.nm) rfl
    have z7 := bX.cell 7 (.slice An' o.ty.ns.length cn') rfl
    have z8 := bX.cell 8 (.slice Ap' o.ty.ps.length cp') rfl
    have z9 := bX.cell 9 (.bool o.ty.many) rfl
    rcases hmn : o.ty.many with _ | _
    case true =>
      have hcd : Hid (tailF b (pre ++ [x]) = tailF b pre) := by show _ = _; rw [HCD.out, HCE.out, hmn]; rfl
      rw [hmn] at z9
      clear hmn HCD HCE HLA
      gi_wp2
      refine ⟨trivial, ?_⟩
      gi_wp2
      exact ⟨(KeepsOthers.refl _).from _, Below.refl _ _, ⟨v, hv, by rw [hcd.out]; exact hrow, trivial⟩, hB⟩
    case false =>
      have HCE2 : Hid (cnd = (lst && (decide (((abiV o.ty []).area : Int) ≤ ((abiV b.ty []).area : Int)) && !((abiV o.ty []).cops.contains true)))) := by show _ = _; rw [HCE.out, hmn]; rfl
      have HZ9 : Hid (Blk W Bx 60 #[.int .i64 o.op, .slice Ad o.d.length cd, .slice As o.s.length c', .int .i64 o.n, .string o.nm, .int .i64 o.ty.k, .string o.ty.nm, .slice An' o.ty.ns.length cn', .slice Ap' o.ty.ps.length cp', .bool o.ty.many]) := bX
      rw [hmn] at z9
      have HMN := Lib.hid hmn
      clear hmn HCE
      have y0 := kq2.cell 0 (.string b.nm) rfl
      have y1 := kq2.cell 1 (.bool b.static) rfl
      have y2 := kq2.cell 2 (.int .i64 b.ty.k) rfl
      have y3 := kq2.cell 3 (.string b.ty.nm) rfl
      have y4 := kq2.cell 4 (.slice An b.ty.ns.length cn) rfl
      have y5 := kq2.cell 5 (.slice Ap b.ty.ps.length cp) rfl
      have y6 := kq2.cell 6 (.bool b.ty.many) rfl
      have y7 := kq2.cell 7 (.int .i64 b.regs) rfl
      have y8 := kq2.cell 8 (.slice A b.code.length c) rfl
      gi_wp2_with fail
      refine ⟨trivial, ?_⟩
      refine (CallsIn.inRound l (callsIn_wide.2 HLA.out)).mono ?_
      rintro e w4 ⟨rfl, hb4⟩
      have hv4 : Boxed w4 (w3.heap.size + 1) 35 v := (hb4.block _ hvlt).trans hv
      have hr4 := own_below hrow hb4
      have ko4 : KeepsOthers W w4 := KeepsOthers.of_grownBy (grown_of hb4) (fun j o h => by cases h)
      have bw4 : Below (w3.heap.size + 1) W w4 := hb4.mono (by omega)
      have bX4 := bX.below hb4
      have kp4 := kp2.below hb4
      have sz4 := hb4.size
      have wb4 := hbw.trans (bw4.mono (by have := b3.size; omega))
      clear HLA y0 y1 y2 y3 y4 y5 y6 y7 y8 z5 z6 z7 z8 z9 HZ9
      cases lst
      · have hcd : Hid (tailF b (pre ++ [x]) = tailF b pre) := by show _ = _; rw [HCD.out, HCE2.out]; rfl
        clear HCD HCE2
        gi_wp2
        exact ⟨ko4.from _, bw4.mono hle0, ⟨v, hv4, by rw [hcd.out]; exact hr4, trivial⟩, hB.trans bw4⟩
      have HPL := Lib.hid (abiP_any o.ty _ [] none 0 w4 (Rep.keep wb4 _ _ HTO.out) (by unfold RepL; trivial) (HM.out.keep wb4))
      have z5 := bX4.cell 5 (.int .i64 o.ty.k) rfl
      have z6 := bX4.cell 6 (.string o.ty.nm) rfl
      have z7 := bX4.cell 7 (.slice An' o.ty.ns.length cn') rfl
      have z8 := bX4.cell 8 (.slice Ap' o.ty.ps.length cp') rfl
      have z9 := bX4.cell 9 (.bool o.ty.many) rfl
      gi_wp2_with fail
      refine ⟨trivial, ?_⟩
      refine (CallsIn.inRound l (callsIn_wide.2 HPL.out)).mono ?_
      rintro e w5 ⟨pcs5, rfl, hP5, hb5⟩
      obtain ⟨A1', c1', A2', c2', A3', c3', vs', rfl, -, -, hcop, -⟩ := hP5
      have hv5 : Boxed w5 (w3.heap.size + 1) 35 v := (hb5.block _ (by omega)).trans hv4
      have hr5 := own_below hr4 hb5
      have ko5 : KeepsOthers W w5 := ko4.trans (KeepsOthers.of_grownBy (grown_of hb5) (fun j o h => by cases h))
      have bw5 : Below (w3.heap.size + 1) W w5 := bw4.trans (hb5.mono (by omega))
      have kp5 := kp4.below hb5
      have sz5 := hb5.size
      have hvl := abiV_len o.ty []
      clear HPL z5 z6 z7 z8 z9 hb5 hb4 hv4 hr4 ko4 bw4 bX4 kp4 wb4
      generalize (abiV o.ty []).res = ar' at *
      generalize (abiV o.ty []).cnt = ac' at *
      have p5 := kp5.cell 5 (.int .i64 ((abiV b.ty []).area : Int)) rfl
      have hlt5 := kp5.lt
      generalize hca : (abiV o.ty []).area = area at *
      generalize hcb : (abiV b.ty []).area = area0 at *
      generalize hcc : (abiV o.ty []).cops = cops at *
      have hcl : cops.length ≤ maxLen := by unfold maxLen; omega
      clear hvl
      have hX6 : Below w5.heap.size w5 (w5.alloc (.cells #[.int .i64 ar', .int .i64 ac', .slice A1' (abiV o.ty []).pars.length c1', .slice A2' cops.length c2', .slice A3' (abiV o.ty []).ress.length c3', .int .i64 (area : Int), .int .i64 ((abiV o.ty []).extra : Int)] 67)) := by (repeat (first | with_reducible assumption | with_reducible exact Below.refl _ _ | (refine Below.setCell ?_ (by first | omega | (simp; done) | (simp; omega)) _) | (refine Below.drewN_ ?_ _) | (refine Below.drew ?_) | (refine Below.alloc ?_ (by first | omega | (simp; done) | (simp; omega)) _)))
      have hv6 := hv5.alloc (.cells #[.int .i64 ar', .int .i64 ac', .slice A1' (abiV o.ty []).pars.length c1', .slice A2' cops.length c2', .slice A3' (abiV o.ty []).ress.length c3', .int .i64 (area : Int), .int .i64 ((abiV o.ty []).extra : Int)] 67)
      have hr6 := own_below hr5 hX6
      have ko6 := ko5.trans (KeepsOthers.alloc w5 (.cells #[.int .i64 ar', .int .i64 ac', .slice A1' (abiV o.ty []).pars.length c1', .slice A2' cops.length c2', .slice A3' (abiV o.ty []).ress.length c3', .int .i64 (area : Int), .int .i64 ((abiV o.ty []).extra : Int)] 67))
      have bw6 := bw5.trans (hX6.mono (by omega))
      have sz6 := hX6.size
      by_cases har : area ≤ area0
      case neg =>
        have hcd : Hid (tailF b (pre ++ [x]) = tailF b pre) := by
          show _ = _
          have e1 : decide ((area : Int) ≤ (area0 : Int)) = false := by simp; omega
          rw [HCD.out, HCE2.out, e1]; rfl
        have g1 : decide ((area : Int) ≤ (area0 : Int)) = false := by simp; omega
        have g2 : decide (area ≤ area0) = false := by simpa using har
        clear HCD HCE2 har hcop
        gi_wp2
        refine ⟨trivial, ?_⟩
        gi_wp2
        exact ⟨ko6.from _, bw6.mono hle0, ⟨v, hv6, by rw [hcd.out]; exact hr6, trivial⟩, hB.trans bw6⟩
      have g1 : decide ((area : Int) ≤ (area0 : Int)) = true := by simp; omega
      have g2 : decide (area ≤ area0) = true := by simpa using har
      have HCE3 : Hid (cnd = !cops.contains true) := by show _ = _; rw [HCE2.out, g1]; rfl
      have HCO := Lib.hid (containsB_any A2' c2' cops _ (hcop.keep hX6) hcl)
      clear HCE2 hcop har
      gi_wp2_with fail
      refine ⟨trivial, ?_⟩
      refine (CallsIn.inRound l (callsIn_wide.2 HCO.out)).mono ?_
      rintro e w7 ⟨rfl, rfl⟩
      clear HCO g1 g2 p5
      rcases hct : cops.contains true with _ | _
      case true =>
        have hcd : Hid (tailF b (pre ++ [x]) = tailF b pre) := by show _ = _; rw [HCD.out, HCE3.out, hct]; rfl
        clear HCD HCE3 hct
        gi_wp2
        exact ⟨ko6.from _, bw6.mono hle0, ⟨v, hv6, by rw [hcd.out]; exact hr6, trivial⟩, hB.trans bw6⟩
      have hcd : Hid (tailF b (pre ++ [x]) = tailF b pre ++ [x]) := by show _ = _; rw [HCD.out, HCE3.out, hct]; rfl
      clear HCD HCE3 hct hX6
      generalize w5.alloc (.cells #[.int .i64 ar', .int .i64 ac', .slice A1' (abiV o.ty []).pars.length c1', .slice A2' cops.length c2', .slice A3' (abiV o.ty []).ress.length c3', .int .i64 (area : Int), .int .i64 ((abiV o.ty []).extra : Int)] 67) = w6 at *
      have hc6 := hv6.cell
      gi_wp2_with (gi_at_builtin; refine wpListIn_append_own _ rfl _ _ 35 rfl (w3.heap.size + 1) 3 i0 (.int .i64 0) 1 8 Try.underlying35 hi hz0 hz1 hz2 rfl (by decide) _ _ _ rfl (hr6.alloc _) ⟨w6.heap.size, 0, none⟩ 1 1 [.int .i64 (x.1 : Int)] rfl rfl (cell_one_new _ _ _) (by simp [Value.oneCell']) (by unfold maxLen; omega) (by omega) (by simp; omega) ?_; intro v' w8 hown' hgrow _; obtain ⟨g', cap', rfl⟩ := ownsRow_succ hown'; obtain ⟨hv1, hv2, hr2, hk2, hb2⟩ := hv6.appended (by decide) hr6 (by omega) (by omega) hown' hgrow; have hc1 := hv1.cell; have hf1 := hv1.frozen)
      exact ⟨(ko6.trans hk2).from _, (bw6.trans hb2).mono hle0, ⟨_, hv2, by rw [hcd.out]; simpa [ixV] using hr2, trivial⟩, hB.trans (bw6.trans hb2)⟩
  case done =>
    rintro D ys W hD rfl ⟨⟨v, hv, hrow, -⟩, hB⟩ hK
    have hc := hv.cell
    gi_wp2
    refine ⟨by simp, .inl ⟨_, _, rfl, run_takeDeferred hK, ?_⟩⟩
    obtain ⟨A', c', rfl, hR⟩ := Row.of_own (ownsRow_putObj hrow _ hK rfl)
    have hbw : Below w.heap.size w W := hb0.trans (hB.mono (by have := b3.size; omega))
    exact ⟨_, results_tmp2 rfl _ _ _, .inr ⟨H.out, A', c', rfl, hR, hbw.trans (belowK_b (w := w) (Nat.le_refl _) W D _ _ (by have := hb0.size; omega) hK rfl rfl)⟩⟩
  case stop =>
    rintro D c pre W _ _ h _
    exact h.elim
theorem tailOf_any (b : Bo) (cs : List Value) (w : World) (hr : RepB w b cs) (hm : ML w) : Calls Try.prog 9 #[.agg cs.toArray] w (TailOut b w) := by
  rcases h : bodyB b with _ | _
  · exact tailOf_no b cs w hr hm h
  · exact tailOf_yes b cs w hr hm h
end Go.Proofs.Ytkkjkbljgaipcaa
