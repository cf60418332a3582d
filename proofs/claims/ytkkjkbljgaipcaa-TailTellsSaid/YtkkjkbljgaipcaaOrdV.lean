/- The walk of ref13.Tail. -/
import Derived.Test.YtkkjkbljgaipcaaOrdU
import Derived.Test.YtkkjkbljgaipcaaOrdI
namespace Go.Proofs.Ytkkjkbljgaipcaa
open Go.RowKit
set_option linter.unusedVariables false
set_option linter.unusedSimpArgs false
set_option maxRecDepth 100000
set_option maxHeartbeats 8000000
theorem par_cop2 (g : Gv) (n : Nat) (ev lg : Bool) : (g.par n ev lg).2.1 = decide (4 < n) := by
  unfold Gv.par
  by_cases h : 4 < n
  · rw [if_pos h]; simp [h]
  · rw [if_neg h]; simp [h]
theorem parK_cops (ts : List Ty) (g : Gv) : ∀ k, k ≤ ts.length → (parK ts g k).2.1 = (ts.take k).map fun p => decide (4 < (sizeT p).1)
  | 0, _ => rfl
  | k + 1, h => by
    rw [parK_succ (by omega), List.take_succ_eq_append_getElem (by omega), List.map_append, ← parK_cops ts g k (by omega)]
    simp only [List.map_cons, List.map_nil, par_cop2]
theorem cops_eq {T : Ty} (h4 : T.k = 4) (hm : may T = true) : (abiV T []).cops = (T.ps.take (T.ps.length - 1)).map fun p => decide (4 < (sizeT p).1) := by
  have he : abiE T [] = 0 := by unfold abiE; simp [h4, hm]
  unfold abiV
  rw [if_pos he]
  simp only [abiG]
  exact parK_cops _ _ _ (by omega)
theorem cops_yes {T : Ty} (h4 : T.k = 4) (hm : may T = true) {k : Nat} (hk : k < T.ps.length - 1) (hs : 4 < (sizeT (T.ps[k]'(by omega))).1) : (abiV T []).cops.contains true = true := by
  rw [cops_eq h4 hm, List.contains_iff_mem, List.mem_map]
  exact ⟨T.ps[k]'(by omega), List.mem_take_iff_getElem.2 ⟨k, by omega, rfl⟩, by simpa using hs⟩
theorem cops_no {T : Ty} (h4 : T.k = 4) (hm : may T = true) (h : ∀ k (hk : k < T.ps.length), k < T.ps.length - 1 → (sizeT T.ps[k]).1 ≤ 4) : (abiV T []).cops.contains true = false := by
  rcases e : (abiV T []).cops.contains true with _ | _
  · rfl
  · rw [cops_eq h4 hm, List.contains_iff_mem, List.mem_map] at e
    obtain ⟨p, hp, hd⟩ := e
    obtain ⟨j, hj, rfl⟩ := List.mem_take_iff_getElem.1 hp
    have := h j (by omega) (by omega)
    simp at hd
    omega
theorem call_fn {b : Bo} (h : bodyB b = true) {i : Nat} (hi : i < b.code.length) (hc : isCallB b.code[i] = true) : b.code[i].ty.k = 4 ∧ may b.code[i].ty = true := by
  have hall : b.code.all (orderB b.ty b.regs b.code.length) = true := by
    rw [body_eq] at h
    simp only [Bool.and_eq_true] at h
    exact h.1.2
  rw [List.all_eq_true] at hall
  have ho := hall _ (List.getElem_mem hi)
  generalize b.code[i] = o at *
  unfold isCallB at hc
  have ht : (rowOf b.ty b.code.length o.op).1.typ = true := by
    simp only [Bool.or_eq_true, beq_iff_eq] at hc
    rcases hc with e | e <;> rw [e] <;> rfl
  unfold orderB at ho
  rw [ht] at ho
  simp only [if_true, Bool.and_eq_true] at ho
  have hcb := ho.2
  unfold callB at hcb
  simp only [Bool.and_eq_true, beq_iff_eq] at hcb
  exact ⟨hcb.1.1.1.1, hcb.1.1.1.2⟩
/-- is an order a call at the tail? -/
noncomputable def tailB (b : Bo) (i : Nat) (o : Or) : Bool := isCallB o && condB b i o
def BackRel (l l' : List Int) (w0 w : World) (i : Value) (wr : World) : Prop := ∃ k : Nat, k ≤ l.length ∧ i = .int .i64 k ∧ (∀ j (h : j < l.length) (h' : j < l'.length), j < k → l[j] = l'[j]) ∧ ∃ n, wr = w.drewN n
def SizRel (T : Ty) (w0 w : World) (i : Value) (wr : World) : Prop := ∃ k : Nat, k ≤ T.ps.length - 1 ∧ i = .int .i64 k ∧ (∀ j (h : j < T.ps.length), j < k → (sizeT T.ps[j]).1 ≤ 4) ∧ Below w0.heap.size w0 wr ∧ Below w.heap.size w wr
theorem tailR_any (b : Bo) (cs : List Value) (i : Nat) (w : World) (hr : RepB w b cs) (hbo : bodyB b = true) (hi : i < b.code.length) :
    Calls Try.prog 10 #[.agg cs.toArray, .int .i64 (i : Int)] w fun e w' => e = .returned (.bool (tailB b i b.code[i])) ∧ Below w.heap.size w w' := by
  have hlen := code_le hbo
  obtain ⟨An, cn, Ap, cp, A, c, rfl, hT, hP, hO, hl⟩ := hr.nine
  obtain ⟨bb, oo, Ad, cd, As, c', An', cn', Ap', cp', rfl, hbl, hrep, hcs⟩ := hO.ten hi
  have HR := Lib.hid hr
  have B0 : Below w.heap.size w (w.alloc (.cells #[.string b.nm, .bool b.static, .int .i64 b.ty.k, .string b.ty.nm, .slice An b.ty.ns.length cn, .slice Ap b.ty.ps.length cp, .bool b.ty.many, .int .i64 b.regs, .slice (some ⟨bb, oo, none⟩) b.code.length c] 28)) := by (repeat (first | with_reducible assumption | with_reducible exact Below.refl _ _ | (refine Below.setCell ?_ (by first | omega | (simp; done) | (simp; omega)) _) | (refine Below.drewN_ ?_ _) | (refine Below.drew ?_) | (refine Below.alloc ?_ (by first | omega | (simp; done) | (simp; omega)) _)))
  have B1 : Below w.heap.size w ((w.alloc (.cells #[.string b.nm, .bool b.static, .int .i64 b.ty.k, .string b.ty.nm, .slice An b.ty.ns.length cn, .slice Ap b.ty.ps.length cp, .bool b.ty.many, .int .i64 b.regs, .slice (some ⟨bb, oo, none⟩) b.code.length c] 28)).alloc (.cells #[.int .i64 b.code[i].op, .slice Ad b.code[i].d.length cd, .slice As b.code[i].s.length c', .int .i64 b.code[i].n, .string b.code[i].nm, .int .i64 b.code[i].ty.k, .string b.code[i].ty.nm, .slice An' b.code[i].ty.ns.length cn', .slice Ap' b.code[i].ty.ps.length cp', .bool b.code[i].ty.many] 60)) := by (repeat (first | with_reducible assumption | with_reducible exact Below.refl _ _ | (refine Below.setCell ?_ (by first | omega | (simp; done) | (simp; omega)) _) | (refine Below.drewN_ ?_ _) | (refine Below.drew ?_) | (refine Below.alloc ?_ (by first | omega | (simp; done) | (simp; omega)) _)))
  obtain ⟨c0, c1, c2, c3, c4, c5, c6, c7, c8, c9⟩ := hcs _ B0
  have kb := (Blk.new_ w 28 #[.string b.nm, .bool b.static, .int .i64 b.ty.k, .string b.ty.nm, .slice An b.ty.ns.length cn, .slice Ap b.ty.ps.length cp, .bool b.ty.many, .int .i64 b.regs, .slice (some ⟨bb, oo, none⟩) b.code.length c]).alloc (.cells #[.int .i64 b.code[i].op, .slice Ad b.code[i].d.length cd, .slice As b.code[i].s.length c', .int .i64 b.code[i].n, .string b.code[i].nm, .int .i64 b.code[i].ty.k, .string b.code[i].ty.nm, .slice An' b.code[i].ty.ns.length cn', .slice Ap' b.code[i].ty.ps.length cp', .bool b.code[i].ty.many] 60)
  have ko := Blk.nxt1 w (.cells #[.string b.nm, .bool b.static, .int .i64 b.ty.k, .string b.ty.nm, .slice An b.ty.ns.length cn, .slice Ap b.ty.ps.length cp, .bool b.ty.many, .int .i64 b.regs, .slice (some ⟨bb, oo, none⟩) b.code.length c] 28) 60 #[.int .i64 b.code[i].op, .slice Ad b.code[i].d.length cd, .slice As b.code[i].s.length c', .int .i64 b.code[i].n, .string b.code[i].nm, .int .i64 b.code[i].ty.k, .string b.code[i].ty.nm, .slice An' b.code[i].ty.ns.length cn', .slice Ap' b.code[i].ty.ps.length cp', .bool b.code[i].ty.many]
  have hfn := @call_fn b hbo i hi
  have HFN := Lib.hid hfn
  obtain ⟨Adx, cdx, Asx, csx, Anx, cnx, Apx, cpx, hcsx, hD, -, hTo, -, hdl, -⟩ := hrep.ten
  obtain ⟨rfl, rfl, rfl, rfl, rfl, rfl⟩ : Ad = Adx ∧ cd = cdx ∧ An' = Anx ∧ cn' = cnx ∧ Ap' = Apx ∧ cp' = cpx := by
    simp only [List.cons.injEq, Value.slice.injEq] at hcsx
    exact ⟨hcsx.2.1.1, hcsx.2.1.2.2, hcsx.2.2.2.2.2.2.2.1.1, hcsx.2.2.2.2.2.2.2.1.2.2, hcsx.2.2.2.2.2.2.2.2.1.1, hcsx.2.2.2.2.2.2.2.2.1.2.2⟩
  have HV : Hid (tailB b i b.code[i] = (isCallB b.code[i] && (!b.code[i].ty.many && lastB b i && (decide (((abiV b.code[i].ty []).area : Int) ≤ ((abiV b.ty []).area : Int)) && !((abiV b.code[i].ty []).cops.contains true))))) := rfl
  have HLB : Hid (lastB b i = match b.code[i]?, b.code[i + 1]? with
    | some o, some o' => (o'.op == 12) && decide (o'.s = o.d) && decide (o.d.length ≤ 2)
    | _, _ => false) := rfl
  have hgo : b.code[i]? = some b.code[i] := List.getElem?_eq_getElem hi
  rw [hgo] at HLB
  have HO := Lib.hid hO
  have HT := Lib.hid hT
  have HD := Lib.hid hD
  have HTO := Lib.hid hTo
  have hT1 : Hid (∀ h : i + 1 < b.code.length, True) := fun _ => trivial
  clear hr hO hT hP hl hcsx hrep hcs hfn hD hTo hgo hT1
  generalize tailB b i b.code[i] = V at *
  generalize b.code[i] = o at *
  have hIC : Hid (isCallB o = ((o.op == 7) || (o.op == 8))) := rfl
  unfold maxLen at hdl
  have hi0 : (0 : Int) ≤ (i : Int) := by omega
  have hi1 : (i : Int) < (b.code.length : Int) := by omega
  have hi6 : (i : Int) < 6000 := by omega
  have HB1 := Lib.hid B1
  clear B1
  go_enter Try.func10, Try.ntmps10
  go_upto_region 2 with (fail)
  generalize hw1 : (w.alloc (.cells #[.string b.nm, .bool b.static, .int .i64 b.ty.k, .string b.ty.nm, .slice An b.ty.ns.length cn, .slice Ap b.ty.ps.length cp, .bool b.ty.many, .int .i64 b.regs, .slice (some ⟨bb, oo, none⟩) b.code.length c] 28)).alloc (.cells #[.int .i64 o.op, .slice Ad o.d.length cd, .slice As o.s.length c', .int .i64 o.n, .string o.nm, .int .i64 o.ty.k, .string o.ty.nm, .slice An' o.ty.ns.length cn', .slice Ap' o.ty.ps.length cp', .bool o.ty.many] 60) = w1 at *
  have b1 := HB1.out
  clear hw1 c0 c1 c2 c3 c4 c5 c6 c7 c8 c9 HB1
  have x0 := ko.cell 0 (.int .i64 o.op) rfl
  have x1 := ko.cell 1 (.slice Ad o.d.length cd) rfl
  have x9 := ko.cell 9 (.bool o.ty.many) rfl
  have y8 := kb.cell 8 (.slice (some ⟨bb, oo, none⟩) b.code.length c) rfl
  obtain ⟨x, hx⟩ : ∃ x, o.op = x := ⟨_, rfl⟩
  rw [hx] at x0 hIC
  clear hx
  by_cases h78 : x = 7 ∨ x = 8
  case neg =>
    have e7 : (x == 7) = false := by rw [beq_eq_false_iff_ne]; omega
    have e8 : (x == 8) = false := by rw [beq_eq_false_iff_ne]; omega
    have e7' : (x != 7) = true := by simp; omega
    have e8' : (x != 8) = true := by simp; omega
    have hf : Hid (V = false) := by show _ = _; rw [HV.out, hIC.out, e7, e8]; rfl
    go_wp2
    go_ret
    exact ⟨by rw [hf.out]; rfl, b1⟩
  have hic : isCallB o = true := by rw [hIC.out]; rcases h78 with rfl | rfl <;> rfl
  obtain ⟨h4, hmo⟩ := HFN.out hic
  have HV1 : Hid (V = (!o.ty.many && lastB b i && (decide (((abiV o.ty []).area : Int) ≤ ((abiV b.ty []).area : Int)) && !((abiV o.ty []).cops.contains true)))) := by show _ = _; rw [HV.out, hic]; rfl
  have H4 := Lib.hid h4
  have HMO := Lib.hid hmo
  clear HV hIC HFN hic h4 hmo
  by_cases h1 : i + 1 < b.code.length
  case neg =>
    have hf : Hid (V = false) := by
      have : lastB b i = false := by rw [HLB.out, List.getElem?_eq_none (l := b.code) (i := i + 1) (by omega)]
      show _ = _; rw [HV1.out, this]; simp
    have g1 : decide ((b.code.length : Int) ≤ (i : Int) + 1) = true := by simp; omega
    clear HLB
    rcases h78 with rfl | rfl
    all_goals
      go_wp2
      go_ret
      exact ⟨by rw [hf.out]; rfl, b1⟩
  have g1 : decide ((b.code.length : Int) ≤ (i : Int) + 1) = false := by simp; omega
  obtain ⟨bb2, oo2, Ad2, cd2, As2, cs2, An2, cn2, Ap2, cp2, hA, hbl2, hrep2, hcs2⟩ := HO.out.ten h1
  obtain ⟨rfl, rfl⟩ : bb = bb2 ∧ oo = oo2 := by simpa using hA
  obtain ⟨d0, -, d2, -⟩ := hcs2 w1 b1
  obtain ⟨Ady, cdy, Asy, csy, Any, cny, Apy, cpy, hcsy, -, hS, -, -, -, hsl, -⟩ := hrep2.ten
  obtain ⟨rfl, rfl⟩ : As2 = Asy ∧ cs2 = csy := by
    simp only [List.cons.injEq, Value.slice.injEq] at hcsy
    exact ⟨hcsy.2.2.1.1, hcsy.2.2.1.2.2⟩
  have hgo1 : b.code[i + 1]? = some b.code[i + 1] := List.getElem?_eq_getElem h1
  rw [hgo1] at HLB
  have HLB1 : Hid (lastB b i = ((b.code[i + 1].op == 12) && decide (b.code[i + 1].s = o.d) && decide (o.d.length ≤ 2))) := HLB
  have HSR := Lib.hid hS
  clear HLB hgo1 hA hcs2 hrep2 hcsy hS
  have hj0 : (0 : Int) ≤ (i : Int) + 1 := by omega
  have hj1 : (i : Int) + 1 < (b.code.length : Int) := by omega
  have hnat : ((i : Int) + 1).toNat = i + 1 := by omega
  generalize b.code[i + 1] = p at *
  unfold maxLen at hsl
  rcases e12 : (p.op == 12) with _ | _
  case false =>
    have hf : Hid (V = false) := by show _ = _; rw [HV1.out, HLB1.out, e12]; simp
    have g2 : (p.op != 12) = true := by rw [bne, e12]; rfl
    rcases h78 with rfl | rfl
    all_goals
      go_wp2
      go_ret
      exact ⟨by rw [hf.out]; rfl, b1⟩
  have g2 : (p.op != 12) = false := by rw [bne, e12]; rfl
  rcases hmn : o.ty.many with _ | _
  case true =>
    have hf : Hid (V = false) := by show _ = _; rw [HV1.out, hmn]; rfl
    rw [hmn] at x9
    clear hmn
    rcases h78 with rfl | rfl
    all_goals
      go_wp2
      go_ret
      exact ⟨by rw [hf.out]; rfl, b1⟩
  have HV2 : Hid (V = (decide (p.s = o.d) && decide (o.d.length ≤ 2) && (decide (((abiV o.ty []).area : Int) ≤ ((abiV b.ty []).area : Int)) && !((abiV o.ty []).cops.contains true)))) := by
    show _ = _; rw [HV1.out, HLB1.out, hmn, e12]; rfl
  rw [hmn] at x9
  clear HV1 HLB1 e12
  -- the lengths
  by_cases hl1 : p.s.length = o.d.length
  case neg =>
    have hf : Hid (V = false) := by
      have : decide (p.s = o.d) = false := by rw [decide_eq_false_iff_not]; intro e; exact hl1 (by rw [e])
      show _ = _; rw [HV2.out, this]; rfl
    have g3 : ((p.s.length : Int) != (o.d.length : Int)) = true := by simp; omega
    have g4 : (p.s.length != o.d.length) = true := by simpa using hl1
    clear hl1 hmn
    rcases h78 with rfl | rfl
    all_goals
      go_wp2
      go_ret
      exact ⟨by rw [hf.out]; rfl, b1⟩
  have g3 : ((p.s.length : Int) != (o.d.length : Int)) = false := by simp; omega
  have g4 : (p.s.length != o.d.length) = false := by simpa using hl1
  by_cases hl2 : 2 < o.d.length
  case pos =>
    have hf : Hid (V = false) := by
      have : decide (o.d.length ≤ 2) = false := by rw [decide_eq_false_iff_not]; omega
      show _ = _; rw [HV2.out, this]; simp
    have g5 : decide ((2 : Int) < (o.d.length : Int)) = true := by simp; omega
    have HL1 := Lib.hid hl1
    clear hl1 hl2 hmn
    rcases h78 with rfl | rfl
    all_goals
      go_wp2
      go_ret
      exact ⟨by rw [hf.out]; rfl, b1⟩
  have g5 : decide ((2 : Int) < (o.d.length : Int)) = false := by simp; omega
  have HV3 : Hid (V = (decide (p.s = o.d) && (decide (((abiV o.ty []).area : Int) ≤ ((abiV b.ty []).area : Int)) && !((abiV o.ty []).cops.contains true)))) := by
    have : decide (o.d.length ≤ 2) = true := by rw [decide_eq_true_eq]; omega
    show _ = _; rw [HV2.out, this]; simp
  have HL1 := Lib.hid hl1
  have hd2 : o.d.length ≤ 2 := by omega
  have hs2 : p.s.length ≤ 2 := by omega
  have HMN := Lib.hid hmn
  have hps1 := may_len HMO.out
  have hpos : 1 ≤ o.ty.ps.length := by
    have := (may_fn HMO.out H4.out).2.2.1
    rcases h : o.ty.ps with _ | ⟨a, l⟩
    · exact absurd h this
    · simp
  have HSZ := Lib.hid (fun p hp => sizeR_all 3 p (may_parts (d := 3) HMO.out p hp))
  have HSM := Lib.hid (may_size HMO.out)
  clear HV2 hl1 hl2 hmn
  rcases h78 with rfl | rfl
  all_goals
    go_upto_region 7 with (fail)
    clear x0 x9 g1 g2 g3 g4 g5 d0 d2 hj0 hj1 hnat y8
    go_wp2
    go_loopw [7] (fun i wr => BackRel p.s o.d w w1 i wr) (fun i _ => p.s.length - (intOf i).toNat)
    case atStart => exact ⟨0, Nat.zero_le _, rfl, fun j _ _ h => absurd h (by omega), 0, rfl⟩
    case round =>
      obtain ⟨k, hk, rfl, hg, nd, rfl⟩ := hrel
      have b2 := Below.drewN_ b1 nd
      by_cases hlt : k < p.s.length
      · obtain ⟨bs, os, rfl, hbs, cs0⟩ := (HSR.out.keep b1).i64 hlt
        have hlt' : k < o.d.length := by rw [← HL1.out]; exact hlt
        obtain ⟨bd, od, rfl, hbd, cd0⟩ := (HD.out.keep b1).i64 hlt'
        have hk0 : (0 : Int) ≤ (k : Int) := by omega
        have hki : (k : Int) < (p.s.length : Int) := by omega
        have hki' : (k : Int) < (o.d.length : Int) := by omega
        have hk2 : (k : Int) < 2 := by omega
        by_cases hx : p.s[k] = o.d[k]
        · have hgg : Hid (∀ j (h : j < p.s.length) (h' : j < o.d.length), j < k + 1 → p.s[j] = o.d[j]) := fun j h h' hj => by
            rcases Nat.lt_or_ge j k with h1 | h1
            · exact hg j h h' h1
            · obtain rfl : j = k := by omega
              exact hx
          have e3 : (p.s[k] != o.d[k]) = false := by simpa using hx
          clear hg hx
          generalize p.s[k] = sx at *
          generalize o.d[k] = dx at *
          go_wp2
          go_quiet (fail)
          go_wp2
          go_roundw
          case rel => exact ⟨k + 1, by omega, by go_num, hgg.out, _, rfl⟩
          case measure => (first | (simp [intOf]; done) | (simp [intOf]; omega))
        · have hf : Hid (V = false) := by
            have : decide (p.s = o.d) = false := by rw [decide_eq_false_iff_not]; intro e; exact hx (by simp only [e])
            show _ = _; rw [HV3.out, this]; rfl
          have e3 : (p.s[k] != o.d[k]) = true := by simpa using hx
          clear hg hx
          generalize p.s[k] = sx at *
          generalize o.d[k] = dx at *
          go_wp2
          go_quiet (fail)
          go_wp2
          go_ret
          exact ⟨by rw [hf.out]; rfl, Below.drewN_ (Below.drewN_ b1 _) _⟩
      · have hki : ¬ (k : Int) < (p.s.length : Int) := by omega
        have HV4 : Hid (V = (decide (((abiV o.ty []).area : Int) ≤ ((abiV b.ty []).area : Int)) && !((abiV o.ty []).cops.contains true))) := by
          have : decide (p.s = o.d) = true := by
            rw [decide_eq_true_eq]
            exact List.ext_getElem HL1.out fun j h h' => hg j h h' (by omega)
          show _ = _; rw [HV3.out, this]; rfl
        have ko2 := ko.below (Below.drewN_ (Below.refl w1.heap.size w1) nd)
        have kb2 := kb.below (Below.drewN_ (Below.refl w1.heap.size w1) nd)
        clear hg HV3 hk x1
        go_upto_region 12 with (fail)
        generalize w1.drewN nd = w2 at *
        go_wp2
        go_loopw [8] (fun i wr => SizRel o.ty w2 w i wr) (fun i _ => o.ty.ps.length - (intOf i).toNat)
        case atStart => exact ⟨0, Nat.zero_le _, rfl, fun j _ h => absurd h (by omega), Below.refl _ _, b2⟩
        case round =>
          obtain ⟨m, hm, rfl, hg, hb, hbw⟩ := hrel
          have kor := ko2.below hb
          have x8 := kor.cell 8 (.slice Ap' o.ty.ps.length cp') rfl
          have hm0 : (0 : Int) ≤ (m : Int) := by omega
          have hm7 : (m : Int) < 7 := by omega
          by_cases hlt2 : m < o.ty.ps.length - 1
          · have hlt' : m < o.ty.ps.length := by omega
            obtain ⟨-, -, -, -, -, -, hPo⟩ := HTO.out.five
            obtain ⟨An0, cn0, Ap0, cp0, hcs0, -, hPo⟩ := HTO.out.five
            obtain ⟨rfl, rfl⟩ : Ap' = Ap0 ∧ cp' = cp0 := by
              simp only [List.cons.injEq, Value.slice.injEq] at hcs0
              exact ⟨hcs0.2.2.2.1.1, hcs0.2.2.2.1.2.2⟩
            obtain ⟨bp, op, An3, cn3, Ap3, cp3, rfl, hbp, hrep, hc⟩ := (RepL.keep hbw o.ty.ps _ hPo).five hlt'
            have hi2 : (m : Int) + 1 < (o.ty.ps.length : Int) := by omega
            have hi3 : (m : Int) < (o.ty.ps.length : Int) := by omega
            have hS1 := HSZ.out _ (List.getElem_mem hlt')
            have hS2 := (HSM.out _ (List.getElem_mem hlt')).2
            have HCY := Lib.hid (fun (h : 4 < (sizeT o.ty.ps[m]).1) => cops_yes H4.out HMO.out hlt2 h)
            have HG : Hid ((sizeT o.ty.ps[m]).1 ≤ 4 → ∀ j (h : j < o.ty.ps.length), j < m + 1 → (sizeT o.ty.ps[j]).1 ≤ 4) := fun h0 j h hj => by
              rcases Nat.lt_or_ge j m with h1 | h1
              · exact hg j h h1
              · obtain rfl : j = m := by omega
                exact h0
            have HC := Lib.hid (hS1 _ _ hrep)
            clear hg hPo hcs0 hS1 hrep
            generalize o.ty.ps[m] = q at *
            go_wp2_with fail
            ((with_reducible refine (HC.out).mono ?_); rintro e w5 ⟨rfl, hb5⟩)
            have b5 := hb.trans (hb5.mono hb.size)
            have bw5 := hbw.trans (hb5.mono hbw.size)
            clear HC hc
            by_cases h4 : 4 < (sizeT q).1
            · have hf : Hid (V = false) := by show _ = _; rw [HV4.out, HCY.out h4]; simp
              have g4 : (4 : Int) < ((sizeT q).1 : Int) := by omega
              clear HCY HG
              go_wp2
              go_ret
              exact ⟨by rw [hf.out]; rfl, bw5⟩
            · have g4 : ¬ (4 : Int) < ((sizeT q).1 : Int) := by omega
              have hgg := Lib.hid (HG.out (by omega))
              clear HCY HG
              go_wp2
              go_roundw
              case rel => exact ⟨m + 1, by omega, by go_num, hgg.out, b5, bw5⟩
              case measure => (first | (simp [intOf]; done) | (simp [intOf]; omega))
          · have hi2 : ¬ (m : Int) + 1 < (o.ty.ps.length : Int) := by omega
            have HV5 : Hid (V = decide (((abiV o.ty []).area : Int) ≤ ((abiV b.ty []).area : Int))) := by
              show _ = _; rw [HV4.out, cops_no H4.out HMO.out (fun j h hj => hg j h (by omega))]; simp
            have kbr := kb2.below hb
            clear hg HV4
            go_upto_region 17 with (fail)
            have q2 := kbr.cell 2 (.int .i64 b.ty.k) rfl
            have q3 := kbr.cell 3 (.string b.ty.nm) rfl
            have q4 := kbr.cell 4 (.slice An b.ty.ns.length cn) rfl
            have q5 := kbr.cell 5 (.slice Ap b.ty.ps.length cp) rfl
            have q6 := kbr.cell 6 (.bool b.ty.many) rfl
            have HPL := Lib.hid (abiR_any b.ty _ [] none 0 wr (Rep.keep hbw _ _ HT.out) (by unfold RepL; trivial))
            go_wp2_with fail
            (refine (HPL.out).mono ?_; rintro e w6 ⟨pcs, rfl, hP6, hb6⟩)
            obtain ⟨A1, c1', A2, c2', A3, c3', vs, rfl, -⟩ := hP6
            have b6 := hb.trans (hb6.mono hb.size)
            have bw6 := hbw.trans (hb6.mono hbw.size)
            have ko6 := ko2.below b6
            clear HPL q2 q3 q4 q5 q6 x8 hb6
            generalize hca : (abiV b.ty []).area = area0 at *
            generalize (abiV b.ty []).res = ar at *
            generalize (abiV b.ty []).cnt = ac at *
            generalize (abiV b.ty []).pars.length = l1 at *
            generalize (abiV b.ty []).cops.length = l2 at *
            generalize (abiV b.ty []).ress.length = l3 at *
            generalize (abiV b.ty []).extra = ex at *
            generalize abiE b.ty [] = ae at *
            have X : Below w6.heap.size w6 (w6.alloc (.cells #[.int .i64 ar, .int .i64 ac, .slice A1 l1 c1', .slice A2 l2 c2', .slice A3 l3 c3', .int .i64 (area0 : Int), .int .i64 (ex : Int)] 67)) := by (repeat (first | with_reducible assumption | with_reducible exact Below.refl _ _ | (refine Below.setCell ?_ (by first | omega | (simp; done) | (simp; omega)) _) | (refine Below.drewN_ ?_ _) | (refine Below.drew ?_) | (refine Below.alloc ?_ (by first | omega | (simp; done) | (simp; omega)) _)))
            have bw7 := bw6.trans (X.mono bw6.size)
            have ko7 := ko6.below X
            have kp7 := Blk.new_ w6 67 #[.int .i64 ar, .int .i64 ac, .slice A1 l1 c1', .slice A2 l2 c2', .slice A3 l3 c3', .int .i64 (area0 : Int), .int .i64 (ex : Int)]
            go_upto_region 18 with (fail)
            generalize w6.alloc (.cells #[.int .i64 ar, .int .i64 ac, .slice A1 l1 c1', .slice A2 l2 c2', .slice A3 l3 c3', .int .i64 (area0 : Int), .int .i64 (ex : Int)] 67) = w7 at *
            have q5 := ko7.cell 5 (.int .i64 o.ty.k) rfl
            have q6 := ko7.cell 6 (.string o.ty.nm) rfl
            have q7 := ko7.cell 7 (.slice An' o.ty.ns.length cn') rfl
            have q8 := ko7.cell 8 (.slice Ap' o.ty.ps.length cp') rfl
            have q9 := ko7.cell 9 (.bool o.ty.many) rfl
            have HPM := Lib.hid (abiR_any o.ty _ [] none 0 w7 (Rep.keep bw7 _ _ HTO.out) (by unfold RepL; trivial))
            go_wp2_with fail
            (refine (HPM.out).mono ?_; rintro e w8 ⟨pcs, rfl, hP8, hb8⟩)
            obtain ⟨B1, d1', B2, d2', B3, d3', us, rfl, -⟩ := hP8
            have bw8 := bw7.trans (hb8.mono bw7.size)
            have kp8 := kp7.below hb8
            clear HPM q5 q6 q7 q8 q9 hb8 X
            have z5 := kp8.cell 5 (.int .i64 (area0 : Int)) rfl
            have hlt8 := kp8.lt
            generalize hcb : (abiV o.ty []).area = area at *
            have hbb : ∀ cs, Below w.heap.size w (w8.alloc (.cells cs 67)) := fun cs => bw8.alloc bw8.size _
            have HBB := Lib.hid hbb
            clear hbb hb hbw b6 bw6 bw7 bw8
            have HV6 : Hid (V = decide (area ≤ area0)) := by show _ = _; rw [HV5.out, decide_eq_decide]; omega
            go_wp2
            go_ret
            exact ⟨by rw [HV6.out]; rfl, HBB.out _⟩
end Go.Proofs.Ytkkjkbljgaipcaa
