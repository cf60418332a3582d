/- Lemmas for the law. -/
import Derived.Test.YthihaeobkoiljaaGreatQ07
set_option linter.unusedVariables false
set_option linter.unusedSimpArgs false
set_option maxRecDepth 100000
set_option maxHeartbeats 40000000
namespace Go.Proofs.YthihaeobkoiljaaGreat
open Go.RowKit
theorem RepO.ten {w : World} {o : Or} {cs : List Value} (h : RepO w o cs) : ∃ Ad cd As c' An cn Ap cp, cs = [.int .i64 o.op, .slice Ad o.d.length cd, .slice As o.s.length c', .int .i64 o.n, .string o.nm, .int .i64 o.ty.k, .string o.ty.nm, .slice An o.ty.ns.length cn, .slice Ap o.ty.ps.length cp, .bool o.ty.many] ∧ Row w Ad (o.d.map i64) ∧ Row w As (o.s.map i64) ∧ Rep w o.ty [.int .i64 o.ty.k, .string o.ty.nm, .slice An o.ty.ns.length cn, .slice Ap o.ty.ps.length cp, .bool o.ty.many] ∧ RepL w o.ty.ps Ap ∧ o.d.length ≤ maxLen ∧ o.s.length ≤ maxLen ∧ LenT o.ty := by
 obtain ⟨Ad, cd, As, c', tc, rfl, h1, h2, h3, h4, h5, -, -, h6⟩ := h
 have h3' := h3
 obtain ⟨An, cn, Ap, cp, rfl, -, h7⟩ := h3.five
 exact ⟨Ad, cd, As, c', An, cn, Ap, cp, rfl, h1, h2, h3', h7, h4, h5, h6⟩
theorem typ_78 {T : Ty} {len : Nat} {op : Int} (h : (rowOf T len op).1.typ = true) : op = 7 ∨ op = 8 := by
 by_cases e1 : op = 1
 ·subst e1; simp [rowOf] at h
 by_cases e2 : op = 2
 ·subst e2; simp [rowOf] at h
 by_cases e3 : op = 3
 ·subst e3; simp [rowOf] at h
 by_cases e4 : op = 4
 ·subst e4; simp [rowOf] at h
 by_cases e5 : op = 5
 ·subst e5; simp [rowOf] at h
 by_cases e6 : op = 6
 ·subst e6; simp [rowOf] at h
 by_cases e7 : op = 7
 ·exact .inl e7
 by_cases e8 : op = 8
 ·exact .inr e8
 by_cases e9 : op = 9
 ·subst e9; simp [rowOf] at h
 by_cases e10 : op = 10
 ·subst e10; simp [rowOf] at h
 by_cases e11 : op = 11
 ·subst e11; simp [rowOf] at h
 by_cases e12 : op = 12
 ·subst e12; simp [rowOf] at h
 by_cases e13 : op = 13
 ·subst e13; simp [rowOf] at h
 by_cases e14 : op = 14
 ·subst e14; simp [rowOf] at h
 simp [rowOf, e1, e2, e3, e4, e5, e6, e7, e8, e9, e10, e11, e12, e13, e14] at h
theorem name_some {s : ByteArray} (h : nameOf s = true) : s.toList.isEmpty = false := by
 rcases e : s.toList.isEmpty with _ | _
 ·rfl
 ·have := (name_false h).1
  rw [empty_of e] at this
  simp at this
theorem order3_any (b : Bo) (cs : List Value) (o : Or) (os : List Value) (w : World) (hr : RepB w b cs) (ho : RepO w o os) (hm : ML w) (hmy : may b.ty = true) (h4 : b.ty.k = 4) (hlen : b.code.length ≤ 6000) (hreg : b.regs ≤ 8000) :
 Calls Tryz.prog 21 #[.agg cs.toArray, .agg os.toArray] w fun e w' => e = .returned (.bool (orderB b.ty b.regs b.code.length o)) ∧ Below w.heap.size w w' := by
 have hr0 := hr
 obtain ⟨An, cn, Ap, cp, A, c, rfl, -, -, -, -⟩ := hr.nine
 have ho0 := ho
 obtain ⟨Ad, cd, As, c', An', cn', Ap', cp', rfl, hD, hS, hT, hPs, hdl, hsl, hLT⟩ := ho.ten
 have B0 : Below w.heap.size w ((w.alloc (.cells #[.string b.nm, .bool b.static, .int .i64 b.ty.k, .string b.ty.nm, .slice An b.ty.ns.length cn, .slice Ap b.ty.ps.length cp, .bool b.ty.many, .int .i64 b.regs, .slice A b.code.length c] 37)).alloc (.cells #[.int .i64 o.op, .slice Ad o.d.length cd, .slice As o.s.length c', .int .i64 o.n, .string o.nm, .int .i64 o.ty.k, .string o.ty.nm, .slice An' o.ty.ns.length cn', .slice Ap' o.ty.ps.length cp', .bool o.ty.many] 63)) := bel
 have kb := (Blk.new_ w 37 #[.string b.nm, .bool b.static, .int .i64 b.ty.k, .string b.ty.nm, .slice An b.ty.ns.length cn, .slice Ap b.ty.ps.length cp, .bool b.ty.many, .int .i64 b.regs, .slice A b.code.length c]).alloc (.cells #[.int .i64 o.op, .slice Ad o.d.length cd, .slice As o.s.length c', .int .i64 o.n, .string o.nm, .int .i64 o.ty.k, .string o.ty.nm, .slice An' o.ty.ns.length cn', .slice Ap' o.ty.ps.length cp', .bool o.ty.many] 63)
 have ko := Blk.nxt1 w (.cells #[.string b.nm, .bool b.static, .int .i64 b.ty.k, .string b.ty.nm, .slice An b.ty.ns.length cn, .slice Ap b.ty.ps.length cp, .bool b.ty.many, .int .i64 b.regs, .slice A b.code.length c] 37) 63 #[.int .i64 o.op, .slice Ad o.d.length cd, .slice As o.s.length c', .int .i64 o.n, .string o.nm, .int .i64 o.ty.k, .string o.ty.nm, .slice An' o.ty.ns.length cn', .slice Ap' o.ty.ps.length cp', .bool o.ty.many]
 have HC := Lh (of_any b _ o.op _ (hr0.keep B0) (hm.keep B0) hmy h4 hlen)
 have HE : Hid (orderB b.ty b.regs b.code.length o = ((rowOf b.ty b.code.length o.op).2 && withinB o.d b.regs && withinB o.s b.regs && numB (rowOf b.ty b.code.length o.op).1 o.n && namB (rowOf b.ty b.code.length o.op).1 o.nm &&
  (if (rowOf b.ty b.code.length o.op).1.typ then callB o.op o else zeroT o.ty && ((o.d.length : Int) == (rowOf b.ty b.code.length o.op).1.d) && ((o.s.length : Int) == (rowOf b.ty b.code.length o.op).1.s)))) := rfl
 have HT8 : Hid ((rowOf b.ty b.code.length o.op).1.typ = true → o.op = 7 ∨ o.op = 8) := fun h => typ_78 h
 generalize orderB b.ty b.regs b.code.length o = E at *
 have HB0 := Lh B0
 have HD := Lh hD
 have HS := Lh hS
 have HTy := Lh hT
 have HPs := Lh hPs
 have HM := Lh hm
 have HDL := Lh hdl
 have HSL := Lh hsl
 have HLT := Lh hLT
 have HRG := Lh hreg
 clear hr hr0 ho ho0 hD hS hT hPs hm hmy h4 hlen B0 hdl hsl hLT hreg
 go_enter Tryz.func21, Tryz.ntmps21
 go_wp2_with fail
 ((with_reducible refine (HC.out).mono ?_); rintro e w2 ⟨rfl, hb2⟩)
 clear HC
 obtain ⟨r, hr⟩ : ∃ r, rowOf b.ty b.code.length o.op = r := ⟨_, rfl⟩
 rw [hr] at HE HT8 ⊢
 clear hr
 obtain ⟨r, ok⟩ := r
 simp only at HE HT8 ⊢
 unfold Rw.cells
 have kb2 := kb.below hb2
 have ko2 := ko.below hb2
 have b2 := HB0.out.trans (hb2.mono HB0.out.size)
 have X : Below w2.heap.size w2 (w2.alloc (.cells #[.int .i64 r.d, .int .i64 r.s, .bool r.n, .int .i64 r.least, .int .i64 r.most, .bool r.name, .bool r.typ] 101)) := bel
 have kb3 := kb2.below X
 have ko3 := ko2.below X
 have kw := Blk.new_ w2 101 #[.int .i64 r.d, .int .i64 r.s, .bool r.n, .int .i64 r.least, .int .i64 r.most, .bool r.name, .bool r.typ]
 have b3 := b2.trans (X.mono b2.size)
 clear kb ko hb2 HB0 kb2 ko2 b2 X
 go_upto_region 2 with (fail)
 generalize hw3 : w2.alloc (.cells #[.int .i64 r.d, .int .i64 r.s, .bool r.n, .int .i64 r.least, .int .i64 r.most, .bool r.name, .bool r.typ] 101) = w3 at *
 clear hw3
 have x1 := ko3.cell 1 (.slice Ad o.d.length cd) rfl
 have x2 := ko3.cell 2 (.slice As o.s.length c') rfl
 have y7 := kb3.cell 7 (.int .i64 b.regs) rfl
 cases ok
 ·have hf : Hid (E = false) := by show _ = _; rw [HE.out]; rfl
  go_wp2
  go_ret
  exact ⟨by rw [hf.out]; rfl, b3⟩
 ·have HWD := Lh (within3_any Ad cd o.d b.regs w3 (HD.out.keep b3) HDL.out)
  have HWS := Lh (within3_any As c' o.s b.regs w3 (HS.out.keep b3) HSL.out)
  go_wp2_with fail
  ((with_reducible refine (HWD.out).mono ?_); rintro e w4 ⟨rfl, rfl⟩)
  rcases hwd : withinB o.d b.regs with _ | _
  ·have hf : Hid (E = false) := by show _ = _; rw [HE.out, hwd]; rfl
   clear hwd
   go_wp2
   go_ret
   exact ⟨by rw [hf.out]; rfl, b3⟩
  ·have HWDt := Lh hwd
   clear hwd
   go_wp2_with fail
   ((with_reducible refine (HWS.out).mono ?_); rintro e w4 ⟨rfl, rfl⟩)
   rcases hws : withinB o.s b.regs with _ | _
   ·have hf : Hid (E = false) := by show _ = _; rw [HE.out, hws, HWDt.out]; rfl
    clear hws
    go_wp2
    go_ret
    exact ⟨by rw [hf.out]; rfl, b3⟩
   ·have HE2 : Hid (E = (numB r o.n && namB r o.nm && (if r.typ then callB o.op o else zeroT o.ty && ((o.d.length : Int) == r.d) && ((o.s.length : Int) == r.s)))) := by show _ = _; rw [HE.out, hws, HWDt.out]; rfl
    have HWI := Lh (within_all HWDt.out)
    clear hws HE HWD HWS HWDt x1 x2 y7
    obtain ⟨rd, rs, rn, rl, rm, rname, rtyp⟩ := r
    simp only at HE2 HT8 kw
    have z2 := kw.cell 2 (.bool rn) rfl
    have z3 := kw.cell 3 (.int .i64 rl) rfl
    have z4 := kw.cell 4 (.int .i64 rm) rfl
    have z5 := kw.cell 5 (.bool rname) rfl
    have x3 := ko3.cell 3 (.int .i64 o.n) rfl
    have x4 := ko3.cell 4 (.string o.nm) rfl
    go_upto_region 4 with (fail)
    go_cut [79] from 36 to 79 (fun s wx => s = .bool (!(numB ⟨rd, rs, rn, rl, rm, rname, rtyp⟩ o.n && namB ⟨rd, rs, rn, rl, rm, rname, rtyp⟩ o.nm)) ∧ ∃ n, wx = w3.drewN n)
    case first =>
     have HIS : Hid (∀ n, Calls Tryz.prog 18 #[.string o.nm] (w3.drewN n) fun e w' => e = .returned (.bool (nameOf o.nm)) ∧ w' = w3.drewN n) := fun n => isName_any o.nm _ (HM.out.keep (Below.drewN_ b3 n))
     have HNU : Hid (numB ⟨rd, rs, rn, rl, rm, rname, rtyp⟩ o.n = if rn then decide (rl ≤ o.n) && decide (o.n ≤ rm) else o.n == 0) := rfl
     have HNA : Hid (namB ⟨rd, rs, rn, rl, rm, rname, rtyp⟩ o.nm = if rname then nameOf o.nm else o.nm.toList.isEmpty) := rfl
     generalize numB ⟨rd, rs, rn, rl, rm, rname, rtyp⟩ o.n = nu at *
     generalize namB ⟨rd, rs, rn, rl, rm, rname, rtyp⟩ o.nm = na at *
     obtain ⟨nn, hnn⟩ : ∃ nn, nameOf o.nm = nn := ⟨_, rfl⟩
     have HSM : Hid (nn = true → o.nm.toList.isEmpty = false) := fun h => name_some (by rw [hnn]; exact h)
     rw [hnn] at HIS HNA
     clear hnn HE2
     cases rn
     ·by_cases hn0 : o.n = 0
      ·have hnu : Hid (nu = true) := by show _ = _; rw [HNU.out, hn0]; rfl
       have g1 : (o.n != 0) = false := by simpa using hn0
       clear hn0
       cases rname
       ·cases nn
        ·by_cases hem : o.nm.toList = []
         ·have hv : Hid ((!(nu && na)) = false) := by show _ = _; rw [hnu.out, HNA.out, hem]; rfl
          have hem' : o.nm.toList.isEmpty = true := by simpa using hem
          go_quiet ((go_at_call 18; exact Calls.quiet_of_same (HIS.out _)))
          go_wp2_with fail
          go_meet
          exact ⟨by rw [hv.out], nq, rfl⟩
         ·have hem' : o.nm.toList.isEmpty = false := by simpa using hem
          have hv : Hid ((!(nu && na)) = true) := by show _ = _; rw [hnu.out, HNA.out, hem']; rfl
          go_quiet ((go_at_call 18; exact Calls.quiet_of_same (HIS.out _)))
          go_wp2_with fail
          go_meet
          exact ⟨by rw [hv.out], nq, rfl⟩
        ·have hv : Hid ((!(nu && na)) = true) := by show _ = _; rw [hnu.out, HNA.out, HSM.out rfl]; rfl
         go_quiet ((go_at_call 18; exact Calls.quiet_of_same (HIS.out _)))
         go_wp2_with fail
         go_meet
         exact ⟨by rw [hv.out], nq, rfl⟩
       ·cases nn
        ·have hv : Hid ((!(nu && na)) = true) := by show _ = _; rw [hnu.out, HNA.out]; rfl
         go_quiet ((go_at_call 18; exact Calls.quiet_of_same (HIS.out _)))
         go_wp2_with fail
         go_meet
         exact ⟨by rw [hv.out], nq, rfl⟩
        ·have hv : Hid ((!(nu && na)) = false) := by show _ = _; rw [hnu.out, HNA.out]; rfl
         go_quiet ((go_at_call 18; exact Calls.quiet_of_same (HIS.out _)))
         go_wp2_with fail
         go_meet
         exact ⟨by rw [hv.out], nq, rfl⟩
      ·have hv : Hid ((!(nu && na)) = true) := by
        have : nu = false := by rw [HNU.out]; simpa using hn0
        show _ = _; rw [this]; rfl
       have g1 : (o.n != 0) = true := by simpa using hn0
       clear hn0
       go_quiet ((go_at_call 18; exact Calls.quiet_of_same (HIS.out _)))
       go_wp2_with fail
       go_meet
       exact ⟨by rw [hv.out], nq, rfl⟩
     ·by_cases hlo : o.n < rl
      ·have hv : Hid ((!(nu && na)) = true) := by
        have : nu = false := by rw [HNU.out]; simp; omega
        show _ = _; rw [this]; rfl
       have g1 : decide (o.n < rl) = true := by simpa using hlo
       clear hlo
       go_quiet ((go_at_call 18; exact Calls.quiet_of_same (HIS.out _)))
       go_wp2_with fail
       go_meet
       exact ⟨by rw [hv.out], nq, rfl⟩
      ·by_cases hhi : rm < o.n
       ·have hv : Hid ((!(nu && na)) = true) := by
         have : nu = false := by rw [HNU.out]; simp; omega
         show _ = _; rw [this]; rfl
        have g1 : decide (o.n < rl) = false := by simpa using hlo
        have g2 : decide (rm < o.n) = true := by simpa using hhi
        clear hlo hhi
        go_quiet ((go_at_call 18; exact Calls.quiet_of_same (HIS.out _)))
        go_wp2_with fail
        go_meet
        exact ⟨by rw [hv.out], nq, rfl⟩
       ·have hnu : Hid (nu = true) := by show _ = _; rw [HNU.out]; simp; omega
        have g1 : decide (o.n < rl) = false := by simpa using hlo
        have g2 : decide (rm < o.n) = false := by simpa using hhi
        clear hlo hhi
        cases rname
        ·cases nn
         ·by_cases hem : o.nm.toList = []
          ·have hv : Hid ((!(nu && na)) = false) := by show _ = _; rw [hnu.out, HNA.out, hem]; rfl
           have hem' : o.nm.toList.isEmpty = true := by simpa using hem
           go_quiet ((go_at_call 18; exact Calls.quiet_of_same (HIS.out _)))
           go_wp2_with fail
           go_meet
           exact ⟨by rw [hv.out], nq, rfl⟩
          ·have hem' : o.nm.toList.isEmpty = false := by simpa using hem
           have hv : Hid ((!(nu && na)) = true) := by show _ = _; rw [hnu.out, HNA.out, hem']; rfl
           go_quiet ((go_at_call 18; exact Calls.quiet_of_same (HIS.out _)))
           go_wp2_with fail
           go_meet
           exact ⟨by rw [hv.out], nq, rfl⟩
         ·have hv : Hid ((!(nu && na)) = true) := by show _ = _; rw [hnu.out, HNA.out, HSM.out rfl]; rfl
          go_quiet ((go_at_call 18; exact Calls.quiet_of_same (HIS.out _)))
          go_wp2_with fail
          go_meet
          exact ⟨by rw [hv.out], nq, rfl⟩
        ·cases nn
         ·have hv : Hid ((!(nu && na)) = true) := by show _ = _; rw [hnu.out, HNA.out]; rfl
          go_quiet ((go_at_call 18; exact Calls.quiet_of_same (HIS.out _)))
          go_wp2_with fail
          go_meet
          exact ⟨by rw [hv.out], nq, rfl⟩
         ·have hv : Hid ((!(nu && na)) = false) := by show _ = _; rw [hnu.out, HNA.out]; rfl
          go_quiet ((go_at_call 18; exact Calls.quiet_of_same (HIS.out _)))
          go_wp2_with fail
          go_meet
          exact ⟨by rw [hv.out], nq, rfl⟩
    case rest =>
     obtain ⟨rfl, nd, rfl⟩ := hcut
     generalize hnv : (numB ⟨rd, rs, rn, rl, rm, rname, rtyp⟩ o.n && namB ⟨rd, rs, rn, rl, rm, rname, rtyp⟩ o.nm) = nv at *
     clear hnv z2 z3 z4 z5 x3 x4
     have D4 : Below w3.heap.size w3 (w3.drewN nd) := Below.drewN_ (Below.refl _ _) nd
     have kb4 := kb3.below D4
     have ko4 := ko3.below D4
     have kw4 := kw.below D4
     have b4 := b3.trans (D4.mono b3.size)
     generalize hw4 : w3.drewN nd = w4 at *
     clear hw4 D4 kb3 ko3 kw b3
     cases nv
     ·have hf : Hid (E = false) := by show _ = _; rw [HE2.out]; rfl
      go_wp2
      go_ret
      exact ⟨by rw [hf.out]; rfl, b4⟩
     ·have w6 := kw4.cell 6 (.bool rtyp) rfl
      have HF : Hid (∀ W, Below w4.heap.size w4 W → W.cell? ⟨w.heap.size + 1, 0, none⟩ = some (.int .i64 o.op) ∧ W.cell? ⟨w.heap.size + 1, 1, none⟩ = some (.slice Ad o.d.length cd) ∧ W.cell? ⟨w.heap.size + 1, 2, none⟩ = some (.slice As o.s.length c') ∧
       W.cell? ⟨w.heap.size + 1, 5, none⟩ = some (.int .i64 o.ty.k) ∧ W.cell? ⟨w.heap.size + 1, 6, none⟩ = some (.string o.ty.nm) ∧ W.cell? ⟨w.heap.size + 1, 7, none⟩ = some (.slice An' o.ty.ns.length cn') ∧ W.cell? ⟨w.heap.size + 1, 8, none⟩ = some (.slice Ap' o.ty.ps.length cp') ∧ W.cell? ⟨w.heap.size + 1, 9, none⟩ = some (.bool o.ty.many)) := fun W h => by
       have k := ko4.below h
       exact ⟨k.cell 0 _ rfl, k.cell 1 _ rfl, k.cell 2 _ rfl, k.cell 5 _ rfl, k.cell 6 _ rfl, k.cell 7 _ rfl, k.cell 8 _ rfl, k.cell 9 _ rfl⟩
      cases rtyp
      ·have HE3 : Hid (E = (zeroT o.ty && ((o.d.length : Int) == rd) && ((o.s.length : Int) == rs))) := by show _ = _; rw [HE2.out]; rfl
       obtain ⟨x0, x1, x2, x5, x6, x7, x8, x9⟩ := HF.out _ (Below.refl _ _)
       have HZ := Lh (zero_any o.ty _ w4 (Rep.keep b4 _ _ HTy.out) HLT.out)
       go_wp2_with fail
       ((with_reducible refine (HZ.out).mono ?_); rintro e w5 ⟨rfl, hb5⟩)
       have kw5 := kw4.below hb5
       have v0 := kw5.cell 0 (.int .i64 rd) rfl
       have v1 := kw5.cell 1 (.int .i64 rs) rfl
       have b5 := b4.trans (hb5.mono b4.size)
       clear x0 x1 x2 x5 x6 x7 x8 x9
       obtain ⟨x0, x1, x2, -⟩ := HF.out _ hb5
       generalize zeroT o.ty = zt at *
       cases zt
       ·have hf : Hid (E = false) := by show _ = _; rw [HE3.out]; rfl
        go_wp2
        go_ret
        exact ⟨by rw [hf.out]; rfl, b5⟩
       ·rcases e1 : ((o.d.length : Int) == rd) with _ | _
        ·have hf : Hid (E = false) := by show _ = _; rw [HE3.out, e1]; rfl
         go_wp2
         go_ret
         exact ⟨by rw [hf.out]; rfl, b5⟩
        ·have hf : Hid (E = ((o.s.length : Int) == rs)) := by show _ = _; rw [HE3.out, e1]; rfl
         go_wp2
         go_ret
         exact ⟨by rw [hf.out]; rfl, b5⟩
      ·have HE3 : Hid (E = callB o.op o) := by show _ = _; rw [HE2.out]; rfl
       have H78 := Lh (HT8.out rfl)
       clear HE2 HT8
       obtain ⟨x0, x1, x2, x5, x6, x7, x8, x9⟩ := HF.out _ (Below.refl _ _)
       by_cases hk : o.ty.k = 4
       ·have g1 : (o.ty.k != 4) = false := by simpa using hk
        have HK4 := Lh hk
        clear hk
        rcases hmy : may o.ty with _ | _
        ·have hf : Hid (E = false) := by show _ = _; rw [HE3.out]; unfold callB; rw [hmy]; simp
         have HMY : Hid (∀ W, (Below w4.heap.size w4 W ∧ (W.cell? ⟨w.heap.size + 1, 0, none⟩ = some (.int .i64 o.op) ∧ W.cell? ⟨w.heap.size + 1, 1, none⟩ = some (.slice Ad o.d.length cd) ∧ W.cell? ⟨w.heap.size + 1, 2, none⟩ = some (.slice As o.s.length c') ∧ W.cell? ⟨w.heap.size + 1, 5, none⟩ = some (.int .i64 o.ty.k) ∧ W.cell? ⟨w.heap.size + 1, 6, none⟩ = some (.string o.ty.nm) ∧ W.cell? ⟨w.heap.size + 1, 7, none⟩ = some (.slice An' o.ty.ns.length cn') ∧ W.cell? ⟨w.heap.size + 1, 8, none⟩ = some (.slice Ap' o.ty.ps.length cp') ∧ W.cell? ⟨w.heap.size + 1, 9, none⟩ = some (.bool o.ty.many))) → Calls Tryz.prog 19 #[.agg #[.int .i64 o.ty.k, .string o.ty.nm, .slice An' o.ty.ns.length cn', .slice Ap' o.ty.ps.length cp', .bool o.ty.many]] W fun e w' => e = .returned (.bool false) ∧ Below W.heap.size W w') := fun W h => by
          have B := b4.trans (h.1.mono b4.size)
          have := may_any o.ty _ W (Rep.keep B _ _ HTy.out) (HM.out.keep B)
          rw [hmy] at this
          exact this
         clear hmy
         go_wp2_with fail
         refine dQ (fun W => Below w4.heap.size w4 W ∧ (At W (w.heap.size + 1) 0 (.int .i64 o.op) ∧ At W (w.heap.size + 1) 1 (.slice Ad o.d.length cd) ∧ At W (w.heap.size + 1) 2 (.slice As o.s.length c') ∧ At W (w.heap.size + 1) 5 (.int .i64 o.ty.k) ∧ At W (w.heap.size + 1) 6 (.string o.ty.nm) ∧ At W (w.heap.size + 1) 7 (.slice An' o.ty.ns.length cn') ∧ At W (w.heap.size + 1) 8 (.slice Ap' o.ty.ps.length cp') ∧ At W (w.heap.size + 1) 9 (.bool o.ty.many))) (held0 HF) (fun hHeld => ?_)
         clear x0 x1 x2 x5 x6 x7 x8 x9
         (refine tQ 0 ?_; try simp only [sq]; refine tQ 1 ?_; try simp only [sq]; refine tQ 2 ?_; try simp only [sq]; refine tQ 3 ?_; try simp only [sq]; refine tQ 4 ?_; try simp only [sq]; refine tQ 5 ?_; try simp only [sq]; refine tQ 6 ?_; try simp only [sq])
         refine wpAnyH_ready (rs := [7]) (by kernel_rfl) (by simp) ?_
         refine AllReadyH.cons rfl (fun K hK => ?_) AllReadyH.nil
         go_simp
         with_reducible refine (HMY.out _ (by assumption)).mono ?_
         rintro e w' ⟨rfl, hbq⟩
         refine hK.out _ _ (heldS HF (by assumption) hbq) (fun hHeld => ?_)
         clear hK K
         (try simp only [Act.put, List.setIfInBounds_toArray, List.set_cons_zero, List.set_cons_succ])
         (refine tQ 8 ?_; try simp only [sq]; refine tQ 9 ?_; try simp only [sq]; refine tQ 10 ?_; try simp only [sq])
         (refine pQ 11 ?_; try simp only [sq]; refine pQ 12 ?_; try simp only [sq]; refine pQ 13 ?_; try simp only [sq]; refine pQ 14 ?_; try simp only [sq]; refine pQ 15 ?_; try simp only [sq]; refine pQ 16 ?_; try simp only [sq]; refine pQ 17 ?_; try simp only [sq]; refine pQ 18 ?_; try simp only [sq]; refine pQ 19 ?_; try simp only [sq]; refine pQ 20 ?_; try simp only [sq]; refine pQ 21 ?_; try simp only [sq]; refine pQ 22 ?_; try simp only [sq]; refine pQ 23 ?_; try simp only [sq]; refine pQ 24 ?_; try simp only [sq]; refine pQ 25 ?_; try simp only [sq])
         refine tQ 26 ?_; try simp only [sq]
         refine fQ ?_ _
         have b5 := b4.trans (hHeld.1.mono b4.size)
         go_wp2
         go_ret
         exact ⟨by rw [hf.out]; rfl, b5⟩
        ·have hpos : 1 ≤ o.ty.ps.length := by
          have := (may_fn hmy HK4.out).2.2.1
          rcases h : o.ty.ps with _ | ⟨a, l⟩
          ·exact absurd h this
          ·simp
         have h7 := may_len hmy
         have hmp := (may_size hmy _ (List.getElem_mem (show o.ty.ps.length - 1 < o.ty.ps.length by omega))).1
         have hR12 := resW_le hmy HK4.out
         have HRW : Hid (wordsT (o.ty.ps[o.ty.ps.length - 1]'(by omega)) = (resW o.ty : Int)) := by
          show _ = _
          unfold resW
          rw [last_at hpos]
          simp [wordsT, hmp]
         obtain ⟨bp, op, Ann, cnn, App, cpp, rfl, hbl, hrep, hc⟩ := HPs.out.five (show o.ty.ps.length - 1 < o.ty.ps.length by omega)
         generalize o.ty.ps[o.ty.ps.length - 1]'(by omega) = p at *
         have HC := Lh hc
         have HREP := Lh hrep
         clear hc hrep hmp
         have HF3 : Hid (∀ W, Below w4.heap.size w4 W → ((W.cell? ⟨w.heap.size + 1, 0, none⟩ = some (.int .i64 o.op) ∧ W.cell? ⟨w.heap.size + 1, 1, none⟩ = some (.slice Ad o.d.length cd) ∧ W.cell? ⟨w.heap.size + 1, 2, none⟩ = some (.slice As o.s.length c') ∧ W.cell? ⟨w.heap.size + 1, 5, none⟩ = some (.int .i64 o.ty.k) ∧ W.cell? ⟨w.heap.size + 1, 6, none⟩ = some (.string o.ty.nm) ∧ W.cell? ⟨w.heap.size + 1, 7, none⟩ = some (.slice An' o.ty.ns.length cn') ∧ W.cell? ⟨w.heap.size + 1, 8, none⟩ = some (.slice (some ⟨bp, op, none⟩) o.ty.ps.length cp') ∧ W.cell? ⟨w.heap.size + 1, 9, none⟩ = some (.bool o.ty.many)) ∧ W.cell? ⟨bp, op + (o.ty.ps.length - 1) * 5, none⟩ = some (.int .i64 p.k) ∧ W.cell? ⟨bp, op + (o.ty.ps.length - 1) * 5 + 1, none⟩ = some (.string p.nm) ∧ W.cell? ⟨bp, op + (o.ty.ps.length - 1) * 5 + 2, none⟩ = some (.slice Ann p.ns.length cnn) ∧ W.cell? ⟨bp, op + (o.ty.ps.length - 1) * 5 + 3, none⟩ = some (.slice App p.ps.length cpp) ∧ W.cell? ⟨bp, op + (o.ty.ps.length - 1) * 5 + 4, none⟩ = some (.bool p.many))) := fun W h => by
          have B := b4.trans (h.mono b4.size)
          obtain ⟨e0, e1, e2, e3, e4⟩ := HC.out
          exact ⟨HF.out W h, (B.cell hbl).trans e0, (B.cell hbl).trans e1, (B.cell hbl).trans e2, (B.cell hbl).trans e3, (B.cell hbl).trans e4⟩
         have HMY : Hid (∀ W, (Below w4.heap.size w4 W ∧ ((W.cell? ⟨w.heap.size + 1, 0, none⟩ = some (.int .i64 o.op) ∧ W.cell? ⟨w.heap.size + 1, 1, none⟩ = some (.slice Ad o.d.length cd) ∧ W.cell? ⟨w.heap.size + 1, 2, none⟩ = some (.slice As o.s.length c') ∧ W.cell? ⟨w.heap.size + 1, 5, none⟩ = some (.int .i64 o.ty.k) ∧ W.cell? ⟨w.heap.size + 1, 6, none⟩ = some (.string o.ty.nm) ∧ W.cell? ⟨w.heap.size + 1, 7, none⟩ = some (.slice An' o.ty.ns.length cn') ∧ W.cell? ⟨w.heap.size + 1, 8, none⟩ = some (.slice (some ⟨bp, op, none⟩) o.ty.ps.length cp') ∧ W.cell? ⟨w.heap.size + 1, 9, none⟩ = some (.bool o.ty.many)) ∧ W.cell? ⟨bp, op + (o.ty.ps.length - 1) * 5, none⟩ = some (.int .i64 p.k) ∧ W.cell? ⟨bp, op + (o.ty.ps.length - 1) * 5 + 1, none⟩ = some (.string p.nm) ∧ W.cell? ⟨bp, op + (o.ty.ps.length - 1) * 5 + 2, none⟩ = some (.slice Ann p.ns.length cnn) ∧ W.cell? ⟨bp, op + (o.ty.ps.length - 1) * 5 + 3, none⟩ = some (.slice App p.ps.length cpp) ∧ W.cell? ⟨bp, op + (o.ty.ps.length - 1) * 5 + 4, none⟩ = some (.bool p.many))) → Calls Tryz.prog 19 #[.agg #[.int .i64 o.ty.k, .string o.ty.nm, .slice An' o.ty.ns.length cn', .slice (some ⟨bp, op, none⟩) o.ty.ps.length cp', .bool o.ty.many]] W fun e w' => e = .returned (.bool true) ∧ Below W.heap.size W w') := fun W h => by
          have B := b4.trans (h.1.mono b4.size)
          have := may_any o.ty _ W (Rep.keep B _ _ HTy.out) (HM.out.keep B)
          rw [hmy] at this
          exact this
         have HWD : Hid (∀ W, (Below w4.heap.size w4 W ∧ ((W.cell? ⟨w.heap.size + 1, 0, none⟩ = some (.int .i64 o.op) ∧ W.cell? ⟨w.heap.size + 1, 1, none⟩ = some (.slice Ad o.d.length cd) ∧ W.cell? ⟨w.heap.size + 1, 2, none⟩ = some (.slice As o.s.length c') ∧ W.cell? ⟨w.heap.size + 1, 5, none⟩ = some (.int .i64 o.ty.k) ∧ W.cell? ⟨w.heap.size + 1, 6, none⟩ = some (.string o.ty.nm) ∧ W.cell? ⟨w.heap.size + 1, 7, none⟩ = some (.slice An' o.ty.ns.length cn') ∧ W.cell? ⟨w.heap.size + 1, 8, none⟩ = some (.slice (some ⟨bp, op, none⟩) o.ty.ps.length cp') ∧ W.cell? ⟨w.heap.size + 1, 9, none⟩ = some (.bool o.ty.many)) ∧ W.cell? ⟨bp, op + (o.ty.ps.length - 1) * 5, none⟩ = some (.int .i64 p.k) ∧ W.cell? ⟨bp, op + (o.ty.ps.length - 1) * 5 + 1, none⟩ = some (.string p.nm) ∧ W.cell? ⟨bp, op + (o.ty.ps.length - 1) * 5 + 2, none⟩ = some (.slice Ann p.ns.length cnn) ∧ W.cell? ⟨bp, op + (o.ty.ps.length - 1) * 5 + 3, none⟩ = some (.slice App p.ps.length cpp) ∧ W.cell? ⟨bp, op + (o.ty.ps.length - 1) * 5 + 4, none⟩ = some (.bool p.many))) → Calls Tryz.prog 41 #[.agg #[.int .i64 p.k, .string p.nm, .slice Ann p.ns.length cnn, .slice App p.ps.length cpp, .bool p.many]] W fun e w' => e = .returned (.int .i64 (resW o.ty : Int)) ∧ Below W.heap.size W w') := fun W h => by
          have B := b4.trans (h.1.mono b4.size)
          have := words_any p _ W (Rep.keep B _ _ HREP.out) (HM.out.keep B)
          rw [HRW.out] at this
          exact this
         have hp1 : (1 : Int) ≤ (o.ty.ps.length : Int) := by omega
         have hp7 : (o.ty.ps.length : Int) ≤ 7 := by omega
         have hnat : ((o.ty.ps.length : Int) - 1).toNat = o.ty.ps.length - 1 := by omega
         have hwr : IntKind.i64.wrap ((o.ty.ps.length : Int) - 1) = (o.ty.ps.length : Int) - 1 := IntWalk.i64_in _ (by omega)
         have hz0 : (0 : Int) ≤ (o.ty.ps.length : Int) - 1 := by omega
         have hz1 : (o.ty.ps.length : Int) - 1 < (o.ty.ps.length : Int) := by omega
         have hz2 : (o.ty.ps.length : Int) - 1 ≤ (o.ty.ps.length : Int) := by omega
         have HMYT := Lh hmy
         clear hmy x0 x1 x2 x5 x6 x7 x8 x9
         by_cases hlr : o.d.length = resW o.ty
         ·have HE4 : Hid (E = (decide o.d.Nodup && (if o.op = 8 then decide (1 ≤ o.s.length) && spareB o.ty (o.s.length - 1) else spareB o.ty o.s.length))) := by
           show _ = _
           rw [HE3.out]
           unfold callB
           rw [HMYT.out, HK4.out, hlr]
           simp
          have g2 : ((o.d.length : Int) != (resW o.ty : Int)) = false := by simp; omega
          have g3 : (o.d.length != resW o.ty) = false := by simpa using hlr
          have hd12 : o.d.length ≤ 12 := by omega
          clear hlr HE3
          go_wp2_with fail
          go_region_held3 (fun W => Below w4.heap.size w4 W ∧ ((W.cell? ⟨w.heap.size + 1, 0, none⟩ = some (.int .i64 o.op) ∧ W.cell? ⟨w.heap.size + 1, 1, none⟩ = some (.slice Ad o.d.length cd) ∧ W.cell? ⟨w.heap.size + 1, 2, none⟩ = some (.slice As o.s.length c') ∧ W.cell? ⟨w.heap.size + 1, 5, none⟩ = some (.int .i64 o.ty.k) ∧ W.cell? ⟨w.heap.size + 1, 6, none⟩ = some (.string o.ty.nm) ∧ W.cell? ⟨w.heap.size + 1, 7, none⟩ = some (.slice An' o.ty.ns.length cn') ∧ W.cell? ⟨w.heap.size + 1, 8, none⟩ = some (.slice (some ⟨bp, op, none⟩) o.ty.ps.length cp') ∧ W.cell? ⟨w.heap.size + 1, 9, none⟩ = some (.bool o.ty.many)) ∧ W.cell? ⟨bp, op + (o.ty.ps.length - 1) * 5, none⟩ = some (.int .i64 p.k) ∧ W.cell? ⟨bp, op + (o.ty.ps.length - 1) * 5 + 1, none⟩ = some (.string p.nm) ∧ W.cell? ⟨bp, op + (o.ty.ps.length - 1) * 5 + 2, none⟩ = some (.slice Ann p.ns.length cnn) ∧ W.cell? ⟨bp, op + (o.ty.ps.length - 1) * 5 + 3, none⟩ = some (.slice App p.ps.length cpp) ∧ W.cell? ⟨bp, op + (o.ty.ps.length - 1) * 5 + 4, none⟩ = some (.bool p.many))) (first | exact held0 HF3 | exact heldS HF3 (by assumption) hbq | exact heldD HF3 (by assumption) | go_keep) (first | (go_at_call 19; ((with_reducible refine (HMY.out _ (by assumption)).mono ?_); rintro e w' ⟨rfl, hbq⟩)) | (go_at_call 41; ((with_reducible refine (HWD.out _ (by assumption)).mono ?_); rintro e w' ⟨rfl, hbq⟩)))
          rename_i hh
          obtain ⟨w5, rfl⟩ : ∃ w5 : World, w5 = w' := ⟨_, rfl⟩
          obtain ⟨hB5, ⟨x0, x1, x2, x5, x6, x7, x8, x9⟩, -⟩ := hh
          have b5 := b4.trans (hB5.mono b4.size)
          clear g1 g2 g3 HWD HMY hwr hnat hz0 hz1 hz2 w6
          have hH := Nat.lt_of_lt_of_le ko4.lt hB5.size
          have hmm := @run_makeMap Tryz.prog
          go_wp2
          have X5 : Below w5.heap.size w5 (w5.alloc (.map #[] 0)) := bel
          have b6 := b5.trans (X5.mono b5.size)
          go_loopw [133] (fun i wr => SeenRel o.d w w5 w5.heap.size i wr) (fun i _ => o.d.length - (intOf i).toNat)
          case atStart => exact ⟨0, Nat.zero_le _, rfl, by simp, MapIs.made _ _ _, X5, b6⟩
          case round =>
           clear X5 b6 x0 x1 x2 x5 x6 x7 x8 x9
           obtain ⟨k, hk, rfl, hnd, hmap, hb, hbw⟩ := hrel
           by_cases hlt : k < o.d.length
           ·obtain ⟨b1, o1, rfl, hbl1, c0⟩ := HD.out.i64 hlt
            have c1 := (hbw.cell (p := ⟨b1, o1 + k, none⟩) hbl1).trans c0
            have hi : (k : Int) < (o.d.length : Int) := by omega
            have hk12 : (k : Int) < 12 := by omega
            obtain ⟨hx0, hx1⟩ := HWI.out k hlt
            have hrg := HRG.out
            have HNO := Lh (int_in_no hlt)
            have HMO := Lh (int_in_more hlt hnd)
            have HS2 : Hid (intF (o.d.take (k + 1)) = gput (intF (o.d.take k)) (.int .i64 o.d[k]) (.bool true)) := by
             show _ = _; rw [List.take_succ_eq_append_getElem hlt, intF_snoc]
            obtain ⟨kl, hkey⟩ := keyOf_int o.d[k] hx0 (by omega)
            have hsz := hb.size
            clear hnd c0
            generalize o.d[k] = x at *
            have HK := Lh hkey
            have HM6 := Lh hmap
            clear hkey hmap
            have hlk := look_int _ _ _ x HM6.out HK.out
            rcases hin : intIn (o.d.take k) x with _ | _
            ·have HY := Lh (HMO.out hin)
             rw [hin] at hlk
             clear HNO HMO hin
             go_wp2_with (at_mapUpdate; go_must ((refine wpList_mapUpdate_is _ rfl _ _ _ 105 rfl 3 4 int_keyed Tryz.underlying105 w5.heap.size _ (by rfl) HM6.out (.int .i64 x) (.bool true) kl (by rfl) (by rfl) HK.out ?_; intro w7 hm7 hg7; have hb7 := upd_below (Nat.le_refl _) hb hg7; have hbw7 := hbw.grown hg7 hbw.size (fun j hj => by injection hj with hj; have := b5.size; omega); clear hg7; rw [← HS2.out] at hm7; have HM7 := Lh hm7; clear hm7)))
             go_roundw
             case rel => exact ⟨k + 1, by omega, by go_num, HY.out, HM7.out, hb7, hbw7⟩
             case measure => simp [intOf] <;> omega
            ·have hf : Hid (E = false) := by show _ = _; rw [HE4.out, HNO.out hin]; rfl
             rw [hin] at hlk
             clear HNO HMO hin
             go_wp2
             go_ret
             exact ⟨by rw [hf.out]; rfl, hbw⟩
           ·have hi : ¬ (k : Int) < (o.d.length : Int) := by omega
            rw [List.take_of_length_le (by omega)] at hnd
            have HE5 : Hid (E = if o.op = 8 then decide (1 ≤ o.s.length) && spareB o.ty (o.s.length - 1) else spareB o.ty o.s.length) := by
             show _ = _
             rw [HE4.out]
             have : decide o.d.Nodup = true := by simpa using hnd
             rw [this, Bool.true_and]
            have B4 := hB5.trans (hb.mono hB5.size)
            have HPW : Hid (∀ W, (Below w4.heap.size w4 W ∧ (W.cell? ⟨w.heap.size + 1, 0, none⟩ = some (.int .i64 o.op) ∧ W.cell? ⟨w.heap.size + 1, 1, none⟩ = some (.slice Ad o.d.length cd) ∧ W.cell? ⟨w.heap.size + 1, 2, none⟩ = some (.slice As o.s.length c') ∧ W.cell? ⟨w.heap.size + 1, 5, none⟩ = some (.int .i64 o.ty.k) ∧ W.cell? ⟨w.heap.size + 1, 6, none⟩ = some (.string o.ty.nm) ∧ W.cell? ⟨w.heap.size + 1, 7, none⟩ = some (.slice An' o.ty.ns.length cn') ∧ W.cell? ⟨w.heap.size + 1, 8, none⟩ = some (.slice (some ⟨bp, op, none⟩) o.ty.ps.length cp') ∧ W.cell? ⟨w.heap.size + 1, 9, none⟩ = some (.bool o.ty.many))) → Calls Tryz.prog 20 #[.agg #[.int .i64 o.ty.k, .string o.ty.nm, .slice An' o.ty.ns.length cn', .slice (some ⟨bp, op, none⟩) o.ty.ps.length cp', .bool o.ty.many]] W fun e w' => e = .returned (.int .i64 (parW o.ty : Int)) ∧ Below W.heap.size W w') := fun W h => by
             have B := b4.trans (h.1.mono b4.size)
             exact params3_any o.ty _ W (Rep.keep B _ _ HTy.out) (HM.out.keep B) HMYT.out HK4.out
            have hp84 := parW_le HMYT.out
            have hsl := HSL.out
            have hwr2 : IntKind.i64.wrap ((o.s.length : Int) - (parW o.ty : Int)) = (o.s.length : Int) - (parW o.ty : Int) := IntWalk.i64_in _ (by unfold maxLen at hsl; omega)
            have hlo : (-84 : Int) ≤ (o.s.length : Int) - (parW o.ty : Int) := by omega
            clear hnd hmap HE4 hsl hp84
            go_wp2
            go_region_held3 (fun W => Below w4.heap.size w4 W ∧ (W.cell? ⟨w.heap.size + 1, 0, none⟩ = some (.int .i64 o.op) ∧ W.cell? ⟨w.heap.size + 1, 1, none⟩ = some (.slice Ad o.d.length cd) ∧ W.cell? ⟨w.heap.size + 1, 2, none⟩ = some (.slice As o.s.length c') ∧ W.cell? ⟨w.heap.size + 1, 5, none⟩ = some (.int .i64 o.ty.k) ∧ W.cell? ⟨w.heap.size + 1, 6, none⟩ = some (.string o.ty.nm) ∧ W.cell? ⟨w.heap.size + 1, 7, none⟩ = some (.slice An' o.ty.ns.length cn') ∧ W.cell? ⟨w.heap.size + 1, 8, none⟩ = some (.slice (some ⟨bp, op, none⟩) o.ty.ps.length cp') ∧ W.cell? ⟨w.heap.size + 1, 9, none⟩ = some (.bool o.ty.many))) (first | exact held1 HF (by assumption) | exact heldS HF (by assumption) hbq | exact heldD HF (by assumption) | go_keep) ((go_at_call 20; ((with_reducible refine (HPW.out _ (by assumption)).mono ?_); rintro e w' ⟨rfl, hbq⟩)))
            rename_i hh
            obtain ⟨w8, rfl⟩ : ∃ w8 : World, w8 = w' := ⟨_, rfl⟩
            obtain ⟨hB8, x0, x1, x2, x5, x6, x7, x8, x9⟩ := hh
            have b8 := b4.trans (hB8.mono b4.size)
            have hhi : (o.s.length : Int) - (parW o.ty : Int) ≤ 9223372036854775807 := by have := HSL.out; unfold maxLen at this; omega
            obtain ⟨mny, hmny⟩ : ∃ mny, o.ty.many = mny := ⟨_, rfl⟩
            have HS7 := Lh (spare_7 o.ty o.s.length)
            have HS8 := Lh (spare_8 o.ty o.s.length)
            rw [hmny] at x9 HS7 HS8
            clear hmny hwr2
            rcases H78.out with h7 | h8
            ·have e8 : (o.op == 8) = false := by rw [h7]; rfl
             have HE7 : Hid (E = spareI ((o.s.length : Int) - (parW o.ty : Int)) mny) := by show _ = _; rw [HE5.out, if_neg (by rw [h7]; decide), HS7.out]
             clear h7 HE5 HS7 HS8
             generalize (o.s.length : Int) - (parW o.ty : Int) = m at *
             rcases e1 : (m == 0) with _ | _
             ·rcases e2 : decide (0 < m) with _ | _
              ·have hf : Hid (E = false) := by show _ = _; rw [HE7.out]; unfold spareI; rw [e1, e2]; rfl
               go_wp2
               go_ret
               exact ⟨by rw [hf.out]; rfl, b8⟩
              ·cases mny
               ·have hf : Hid (E = false) := by show _ = _; rw [HE7.out]; unfold spareI; rw [e1, e2]; rfl
                go_wp2
                go_ret
                exact ⟨by rw [hf.out]; rfl, b8⟩
               ·have hf : Hid (E = decide (m ≤ 12)) := by show _ = _; rw [HE7.out]; unfold spareI; rw [e1, e2]; rfl
                go_wp2
                go_ret
                exact ⟨by rw [hf.out]; rfl, b8⟩
             ·have hf : Hid (E = true) := by show _ = _; rw [HE7.out]; unfold spareI; rw [e1]; rfl
              go_wp2
              go_ret
              exact ⟨by rw [hf.out]; rfl, b8⟩
            ·have e8 : (o.op == 8) = true := by rw [h8]; rfl
             have HE7 : Hid (E = spareI ((o.s.length : Int) - (parW o.ty : Int) - 1) mny) := by show _ = _; rw [HE5.out, if_pos h8, HS8.out]
             clear h8 HE5 HS7 HS8
             generalize (o.s.length : Int) - (parW o.ty : Int) = m0 at *
             go_upto_region 21 with (fail)
             generalize m0 - 1 = m at *
             rcases e1 : (m == 0) with _ | _
             ·rcases e2 : decide (0 < m) with _ | _
              ·have hf : Hid (E = false) := by show _ = _; rw [HE7.out]; unfold spareI; rw [e1, e2]; rfl
               go_wp2
               go_ret
               exact ⟨by rw [hf.out]; rfl, b8⟩
              ·cases mny
               ·have hf : Hid (E = false) := by show _ = _; rw [HE7.out]; unfold spareI; rw [e1, e2]; rfl
                go_wp2
                go_ret
                exact ⟨by rw [hf.out]; rfl, b8⟩
               ·have hf : Hid (E = decide (m ≤ 12)) := by show _ = _; rw [HE7.out]; unfold spareI; rw [e1, e2]; rfl
                go_wp2
                go_ret
                exact ⟨by rw [hf.out]; rfl, b8⟩
             ·have hf : Hid (E = true) := by show _ = _; rw [HE7.out]; unfold spareI; rw [e1]; rfl
              go_wp2
              go_ret
              exact ⟨by rw [hf.out]; rfl, b8⟩
         ·have hf : Hid (E = false) := by show _ = _; rw [HE3.out]; unfold callB; have : (o.d.length == resW o.ty) = false := by simpa using hlr
                                          rw [this]; simp
          have g2 : ((o.d.length : Int) != (resW o.ty : Int)) = true := by simp; omega
          have g3 : (o.d.length != resW o.ty) = true := by simpa using hlr
          clear hlr
          go_wp2_with fail
          go_region_held3 (fun W => Below w4.heap.size w4 W ∧ ((W.cell? ⟨w.heap.size + 1, 0, none⟩ = some (.int .i64 o.op) ∧ W.cell? ⟨w.heap.size + 1, 1, none⟩ = some (.slice Ad o.d.length cd) ∧ W.cell? ⟨w.heap.size + 1, 2, none⟩ = some (.slice As o.s.length c') ∧ W.cell? ⟨w.heap.size + 1, 5, none⟩ = some (.int .i64 o.ty.k) ∧ W.cell? ⟨w.heap.size + 1, 6, none⟩ = some (.string o.ty.nm) ∧ W.cell? ⟨w.heap.size + 1, 7, none⟩ = some (.slice An' o.ty.ns.length cn') ∧ W.cell? ⟨w.heap.size + 1, 8, none⟩ = some (.slice (some ⟨bp, op, none⟩) o.ty.ps.length cp') ∧ W.cell? ⟨w.heap.size + 1, 9, none⟩ = some (.bool o.ty.many)) ∧ W.cell? ⟨bp, op + (o.ty.ps.length - 1) * 5, none⟩ = some (.int .i64 p.k) ∧ W.cell? ⟨bp, op + (o.ty.ps.length - 1) * 5 + 1, none⟩ = some (.string p.nm) ∧ W.cell? ⟨bp, op + (o.ty.ps.length - 1) * 5 + 2, none⟩ = some (.slice Ann p.ns.length cnn) ∧ W.cell? ⟨bp, op + (o.ty.ps.length - 1) * 5 + 3, none⟩ = some (.slice App p.ps.length cpp) ∧ W.cell? ⟨bp, op + (o.ty.ps.length - 1) * 5 + 4, none⟩ = some (.bool p.many))) (first | exact held0 HF3 | exact heldS HF3 (by assumption) hbq | exact heldD HF3 (by assumption) | go_keep) (first | (go_at_call 19; ((with_reducible refine (HMY.out _ (by assumption)).mono ?_); rintro e w' ⟨rfl, hbq⟩)) | (go_at_call 41; ((with_reducible refine (HWD.out _ (by assumption)).mono ?_); rintro e w' ⟨rfl, hbq⟩)))
          all_goals
           rename_i hh
           have b5 := b4.trans (hh.1.mono b4.size)
           go_wp2
           go_ret
           exact ⟨by rw [hf.out]; rfl, b5⟩
       ·have hf : Hid (E = false) := by
         show _ = _; rw [HE3.out]; unfold callB
         have : (o.ty.k == 4) = false := by simpa using hk
         rw [this]; rfl
        have g1 : (o.ty.k != 4) = true := by simpa using hk
        clear hk
        go_wp2_with fail
        go_quiet (fail)
        go_wp2
        go_ret
        exact ⟨by rw [hf.out]; rfl, Below.drewN_ b4 _⟩
theorem alkR : ∀ (d : Nat) (T : Ty), mayT d T = true → AlikeR T
 | 0, T, h => by cases h
 | d + 1, T, h => alike_step d T h (may_names h) fun p hp => alkR d p (may_parts h p hp)
def unNames (u : Un) : List ByteArray := u.bs.map (·.nm) ++ u.gs.map (·.nm) ++ u.os.map (·.nm)
noncomputable def glB (g : Gl) : Bool := cntB g.ty && ((g.ty.k != 1) || (decide (-2147483648 ≤ g.v) && decide (g.v ≤ 2147483647)))
noncomputable def ouB (o : Ou) : Bool := if o.fn then (o.ty.k == 4) && may o.ty else cntB o.ty
noncomputable def unitB (u : Un) : Bool := u.bs.all bodyB && u.gs.all glB && u.os.all ouB && (unNames u).all nameOf && decide (unNames u).Nodup
noncomputable def spk1 (u : Un) (o : Or) : Bool :=
 if o.nm = ⟨#[]⟩ then true
 else (tyF u o.nm).2.2 && ((tyF u o.nm).2.1 == ((o.op == 7) || (o.op == 6))) && !(((o.op == 7) && !eqB (tyF u o.nm).1 o.ty) || (!(tyF u o.nm).2.1 && decide (((sizeT (tyF u o.nm).1).1 : Int) ≤ o.n)))
noncomputable def spkB (u : Un) (b : Bo) : Bool := b.code.all (spk1 u)
noncomputable def fitsB (u : Un) : Bool := unitB u && u.bs.all (spkB u)
theorem ty_may {u : Un} {s : ByteArray} (h : unitB u = true) (ho : (tyF u s).2.2 = true) : may (tyF u s).1 = true := by
 unfold unitB at h
 simp only [Bool.and_eq_true] at h
 obtain ⟨⟨⟨⟨h1, h2⟩, h3⟩, -⟩, -⟩ := h
 rw [List.all_eq_true] at h1 h2 h3
 rcases giv_cases u s with ⟨i, hi, hR, -⟩ | ⟨i, hi, hR, -⟩ | ⟨i, hi, hR, -⟩ | hR
 ·have e : tyF u s = (u.bs[i].ty, true, true) := by unfold tyF; rw [hR]; simp [List.getD_eq_getElem?_getD, hi]
  have := h1 _ (List.getElem_mem hi)
  unfold bodyB at this
  simp only [Bool.and_eq_true] at this
  rw [e]
  exact this.1.1.1.1.1.1.2
 ·have e : tyF u s = (u.gs[i].ty, false, true) := by unfold tyF; rw [hR]; simp [List.getD_eq_getElem?_getD, hi]
  have := h2 _ (List.getElem_mem hi)
  unfold glB cntB at this
  simp only [Bool.and_eq_true] at this
  rw [e]
  exact this.1.2
 ·have e : tyF u s = (u.os[i].ty, u.os[i].fn, true) := by unfold tyF; rw [hR]; simp [List.getD_eq_getElem?_getD, hi]
  have := h3 _ (List.getElem_mem hi)
  unfold ouB cntB at this
  rw [e]
  split at this
  ·simp only [Bool.and_eq_true] at this; exact this.2
  ·simp only [Bool.and_eq_true] at this; exact this.2
 ·have e : tyF u s = (zT, false, false) := by unfold tyF; rw [hR]; rfl
  rw [e] at ho
  cases ho
end Go.Proofs.YthihaeobkoiljaaGreat
