/- Lemmas for the law. -/
import Derived.Test.YthihaeobkoiljaaGreatQ06
set_option linter.unusedVariables false
set_option linter.unusedSimpArgs false
set_option maxRecDepth 100000
set_option maxHeartbeats 40000000
namespace Go.Proofs.YthihaeobkoiljaaGreat
open Go.RowKit
def opn (u : Un) (s : ByteArray) : Bool :=
 if (giv u s).1 = 1 then !(u.bs.getD (giv u s).2 default).static
 else if (giv u s).1 = 2 then !(u.gs.getD (giv u s).2 default).static
 else false
def hom (l : List Un) (s : ByteArray) : Option Nat := l.findIdx? fun u => opn u s
def homR (l : List Un) (s : ByteArray) : Int × Int × Nat :=
 match hom l s with
 | some k => ((k : Int), giv (l.getD k default) s)
 | none => (-1, 0, 0)
theorem hom_some {l : List Un} {s : ByteArray} {k : Nat} (hk : k < l.length) (h : opn l[k] s = true) (hn : ∀ j (h : j < l.length), j < k → opn l[j] s = false) : hom l s = some k := by
 unfold hom
 rw [List.findIdx?_eq_some_iff_getElem]
 exact ⟨hk, h, fun j hj => by simp [hn j (by omega) hj]⟩
theorem hom_none {l : List Un} {s : ByteArray} (hn : ∀ j (h : j < l.length), opn l[j] s = false) : hom l s = none := by
 unfold hom
 rw [List.findIdx?_eq_none_iff]
 intro x hx
 obtain ⟨j, hj, rfl⟩ := List.getElem_of_mem hx
 exact hn j hj
theorem homR_some {l : List Un} {s : ByteArray} {k : Nat} (hk : k < l.length) (h : opn l[k] s = true) (hn : ∀ j (h : j < l.length), j < k → opn l[j] s = false) : homR l s = ((k : Int), giv l[k] s) := by
 unfold homR
 rw [hom_some hk h hn]
 simp [List.getD_eq_getElem?_getD, hk]
theorem homR_none {l : List Un} {s : ByteArray} (hn : ∀ j (h : j < l.length), opn l[j] s = false) : homR l s = (-1, 0, 0) := by
 unfold homR
 rw [hom_none hn]
theorem RepB.stat {w : World} {b : Bo} {cs : List Value} (h : RepB w b cs) : cs[1]? = some (.bool b.static) := by
 obtain ⟨tc, A, c, rfl, -⟩ := h
 rfl
theorem RepG.stat {w : World} {b : Gl} {cs : List Value} (h : RepG w b cs) : cs[1]? = some (.bool b.static) := by
 obtain ⟨tc, rfl, -⟩ := h
 rfl
def HomRel (l : List Un) (s : ByteArray) (w : World) (i : Value) (wr : World) : Prop := ∃ k : Nat, k ≤ l.length ∧ i = .int .i64 k ∧ (∀ j (h : j < l.length), j < k → opn l[j] s = false) ∧ Below w.heap.size w wr
def HomOut (R : Int × Int × Nat) (w : World) (e : Ending) (w' : World) : Prop := e = .returned (.tuple #[.int .i64 R.1, .int .i64 R.2.1, .int .i64 (R.2.2 : Int)]) ∧ Below w.heap.size w w'
theorem results_3 {fn : Func} {s t u : Nat} (h : fn.results = #[.tmp s, .tmp t, .tmp u]) (tmps : Array Value) (w : World) : (results fn tmps).run Tryz.prog w = .ok (.tuple #[tmps.getD s undef, tmps.getD t undef, tmps.getD u undef]) w := by
 simp [results, h, go_sem]
theorem home_any (l : List Un) (s : ByteArray) (A : Option Addr) (c : Nat) (w : World) (hr : RepS 3 RepU w A l) (hl : l.length ≤ 8) : Calls Tryz.prog 27 #[.slice A l.length c, .string s] w (HomOut (homR l s) w) := by
 have HA := Lh hr
 clear hr
 obtain ⟨R, HR⟩ : ∃ R, Hid (homR l s = R) := ⟨_, rfl⟩
 rw [HR.out]
 go_enter Tryz.func27, Tryz.ntmps27
 go_wp2_with fail
 go_loopw [7] (fun i wr => HomRel l s w i wr) (fun i _ => l.length - (intOf i).toNat)
 case atStart => exact ⟨0, Nat.zero_le _, rfl, fun j _ h => absurd h (by omega), Below.refl _ _⟩
 case round =>
  rename_i wr
  obtain ⟨k, hk, rfl, hg, hb⟩ := hrel
  by_cases hlt : k < l.length
  ·obtain ⟨bb, oo, cs', rfl, hbl, hrep, hc⟩ := HA.out.at hlt
   have hrep0 := hrep
   obtain ⟨A1, a1, B1, b1, C1, c1, rfl, rA, rB, rC, -, -, -⟩ := hrep
   have c0 := hc wr hb 0 _ rfl
   have c1 := hc wr hb 1 _ rfl
   have c2 := hc wr hb 2 _ rfl
   have HG := Lh (given_any l[k] s _ wr (hrep0.keep hb))
   have HY : Hid (opn l[k] s = true → R = ((k : Int), giv l[k] s)) := fun h => by rw [← HR.out]; exact homR_some hlt h hg
   have HN : Hid (opn l[k] s = false → ∀ j (h : j < l.length), j < k + 1 → opn l[j] s = false) := fun h0 j h hj => by
    rcases Nat.lt_or_ge j k with h1 | h1
    ·exact hg j h h1
    ·have e : j = k := by omega
     subst e
     exact h0
   have HB := Lh hb
   have HC := Lh hc
   have hi : (k : Int) < (l.length : Int) := by omega
   have hi0 : (0 : Int) ≤ (k : Int) := by omega
   have hi6 : (k : Int) < 9 := by omega
   rw [Nat.add_zero] at c0
   clear hg hb hc hrep0 rC
   generalize l[k] = u at *
   have RA := Lh rA
   have RB := Lh rB
   clear rA rB
   go_wp2_with fail
   refine (HG.out).mono ?_
   rintro e w2 ⟨rfl, hb2⟩
   have b2 := HB.out.trans (hb2.mono HB.out.size)
   clear hb2 HG HB c0 c1 c2
   have d0 := HC.out w2 b2 0 _ rfl
   have d1 := HC.out w2 b2 1 _ rfl
   have d2 := HC.out w2 b2 2 _ rfl
   rw [Nat.add_zero] at d0
   rcases giv_cases u s with ⟨i, hi, hR, -⟩ | ⟨i, hi, hR, -⟩ | ⟨i, hi, hR, -⟩ | hR
   ·obtain ⟨b3, o3, cs3, rfl, hbl3, hrep3, hc3⟩ := RA.out.at hi
    have e0 := hc3 w2 b2 1 _ hrep3.stat
    have hi1 : (i : Int) < (u.bs.length : Int) := by omega
    have hi2 : (0 : Int) ≤ (i : Int) := by omega
    have HO : Hid (opn u s = !u.bs[i].static) := by show _ = _; unfold opn; rw [hR]; simp [List.getD_eq_getElem?_getD, hi]
    clear hc3 hrep3 RA RB HC
    generalize u.bs[i].static = st at *
    cases st
    ·have hq := Lh (HY.out (by rw [HO.out]; rfl))
     rw [hR] at hq
     rw [hR]
     clear HN HY hR
     go_wp2_with fail
     refine bodyPost_ret (v := .tuple _) (results_3 (fn := Tryz.f27) rfl _ _) rfl ?_
     exact ⟨by rw [hq.out]; rfl, b2⟩
    ·have hq := Lh (HN.out (by rw [HO.out]; rfl))
     rw [hR]
     clear HN HY hR
     go_wp2_with fail
     go_roundw
     case rel => exact ⟨k + 1, by omega, by go_num, hq.out, b2⟩
     case measure => simp [intOf] <;> omega
   ·obtain ⟨b3, o3, cs3, rfl, hbl3, hrep3, hc3⟩ := RB.out.at hi
    have e0 := hc3 w2 b2 1 _ hrep3.stat
    have hi1 : (i : Int) < (u.gs.length : Int) := by omega
    have hi2 : (0 : Int) ≤ (i : Int) := by omega
    have HO : Hid (opn u s = !u.gs[i].static) := by show _ = _; unfold opn; rw [hR]; simp [List.getD_eq_getElem?_getD, hi]
    clear hc3 hrep3 RA RB HC
    generalize u.gs[i].static = st at *
    cases st
    ·have hq := Lh (HY.out (by rw [HO.out]; rfl))
     rw [hR] at hq
     rw [hR]
     clear HN HY hR
     go_wp2_with fail
     refine bodyPost_ret (v := .tuple _) (results_3 (fn := Tryz.f27) rfl _ _) rfl ?_
     exact ⟨by rw [hq.out]; rfl, b2⟩
    ·have hq := Lh (HN.out (by rw [HO.out]; rfl))
     rw [hR]
     clear HN HY hR
     go_wp2_with fail
     go_roundw
     case rel => exact ⟨k + 1, by omega, by go_num, hq.out, b2⟩
     case measure => simp [intOf] <;> omega
   ·have HO : Hid (opn u s = false) := by show _ = _; unfold opn; rw [hR]; rfl
    have hq := Lh (HN.out (HO.out))
    rw [hR]
    clear HN HY hR
    go_wp2_with fail
    go_roundw
    case rel => exact ⟨k + 1, by omega, by go_num, hq.out, b2⟩
    case measure => simp [intOf] <;> omega
   ·have HO : Hid (opn u s = false) := by show _ = _; unfold opn; rw [hR]; rfl
    have hq := Lh (HN.out (HO.out))
    rw [hR]
    clear HN HY hR
    go_wp2_with fail
    go_roundw
    case rel => exact ⟨k + 1, by omega, by go_num, hq.out, b2⟩
    case measure => simp [intOf] <;> omega
  ·have hi : ¬ (k : Int) < (l.length : Int) := by omega
   have hq : Hid (R = (-1, 0, 0)) := by show _ = _; rw [← HR.out]; exact homR_none fun j h => hg j h (by omega)
   clear hg HA HR
   go_wp2_with fail
   refine bodyPost_ret (v := .tuple _) (results_3 (fn := Tryz.f27) rfl _ _) rfl ?_
   exact ⟨by rw [hq.out]; rfl, hb⟩
end Go.Proofs.YthihaeobkoiljaaGreat
namespace Go.Proofs.YthihaeobkoiljaaGreat
open Go.RowKit
open Classical in
noncomputable def eqB (T U : Ty) : Bool := decide (T = U)
theorem eqB_iff (T U : Ty) : eqB T U = true ↔ T = U := by simp [eqB]
theorem eqB_no {T U : Ty} (h : ¬ T = U) : eqB T U = false := by simp [eqB, h]
theorem eqB_yes {T U : Ty} (h : T = U) : eqB T U = true := by simp [eqB, h]
theorem take_eq_succ {α : Type} {l m : List α} {k : Nat} (hl : k < l.length) (hm : k < m.length) (h : l.take k = m.take k) (e : l[k] = m[k]) : l.take (k + 1) = m.take (k + 1) := by
 rw [List.take_succ_eq_append_getElem hl, List.take_succ_eq_append_getElem hm, h, e]
theorem keep12 {w0 w w' : World} {m m' n o n' o' : Nat} {x y a0 a1 a2 a3 a4 b0 b1 b2 b3 b4 : Value} (hm : m < w0.heap.size) (hm' : m' < w0.heap.size) (hn : n < w0.heap.size) (hn' : n' < w0.heap.size)
 (h : Below w0.heap.size w0 w ∧ w.cell? ⟨m, 3, none⟩ = some x ∧ w.cell? ⟨m', 3, none⟩ = some y ∧ (w.cell? ⟨n, o, none⟩ = some a0 ∧ w.cell? ⟨n, o + 1, none⟩ = some a1 ∧ w.cell? ⟨n, o + 2, none⟩ = some a2 ∧ w.cell? ⟨n, o + 3, none⟩ = some a3 ∧ w.cell? ⟨n, o + 4, none⟩ = some a4) ∧ w.cell? ⟨n', o', none⟩ = some b0 ∧ w.cell? ⟨n', o' + 1, none⟩ = some b1 ∧ w.cell? ⟨n', o' + 2, none⟩ = some b2 ∧ w.cell? ⟨n', o' + 3, none⟩ = some b3 ∧ w.cell? ⟨n', o' + 4, none⟩ = some b4)
 (hb : Below w.heap.size w w') : Below w0.heap.size w0 w' ∧ w'.cell? ⟨m, 3, none⟩ = some x ∧ w'.cell? ⟨m', 3, none⟩ = some y ∧ (w'.cell? ⟨n, o, none⟩ = some a0 ∧ w'.cell? ⟨n, o + 1, none⟩ = some a1 ∧ w'.cell? ⟨n, o + 2, none⟩ = some a2 ∧ w'.cell? ⟨n, o + 3, none⟩ = some a3 ∧ w'.cell? ⟨n, o + 4, none⟩ = some a4) ∧ w'.cell? ⟨n', o', none⟩ = some b0 ∧ w'.cell? ⟨n', o' + 1, none⟩ = some b1 ∧ w'.cell? ⟨n', o' + 2, none⟩ = some b2 ∧ w'.cell? ⟨n', o' + 3, none⟩ = some b3 ∧ w'.cell? ⟨n', o' + 4, none⟩ = some b4 := by
 obtain ⟨h0, h1, h2, h3, h4⟩ := h
 have hs := h0.size
 exact ⟨h0.trans (hb.mono hs), (keep_cell hb (by omega)).trans h1, (keep_cell hb (by omega)).trans h2, keep5 hb (by omega) h3, keep5 hb (by omega) h4⟩
theorem str_bne {x y : ByteArray} (h : ¬ x = y) : (x.toList == y.toList) = false := by
 rcases e : (x.toList == y.toList) with _ | _
 ·rfl
 ·exact absurd ((str_beq_iff x y).1 e) h
def AlikeR (T : Ty) : Prop := ∀ (U : Ty) (cs ds : List Value) (w : World), Rep w T cs → Rep w U ds → Calls Tryz.prog 29 #[.agg cs.toArray, .agg ds.toArray] w fun e w' => e = .returned (.bool (eqB T U)) ∧ Below w.heap.size w w'
def AlRel {α : Type} (l m : List α) (w : World) (i : Value) (H : Nat) (xs bs : Array Value) (wr : World) : Prop :=
 ∃ k : Nat, k ≤ l.length ∧ i = .int .i64 k ∧ l.take k = m.take k ∧ Below w.heap.size w wr ∧ Blk wr H 34 xs ∧ Blk wr (H + 1) 34 bs
theorem alike_step (d : Nat) (T : Ty) (hm : mayT (d + 1) T = true) (hn6 : T.ns.length ≤ 6) (IH : ∀ p ∈ T.ps, AlikeR p) : AlikeR T := by
 intro U cs ds w hr hu
 obtain ⟨An, cn, Ap, cp, rfl, hN, hP⟩ := hr.five
 obtain ⟨Bn, dn, Bp, dp, rfl, hN', hP'⟩ := hu.five
 have h7 := may_len hm
 clear hr hu
 have fin : ∀ b : Bool, (¬ T = U) → Hid (eqB T U = false) := fun _ h => eqB_no h
 by_cases e1 : T.k = U.k
 ·have t1 : (T.k != U.k) = false := by simp [e1]
  have t1' : (T.k == U.k) = true := by simp [e1]
  by_cases e2 : T.nm = U.nm
  ·have t2 : (T.nm.toList == U.nm.toList) = true := (str_beq_iff _ _).2 e2
   by_cases e3 : T.many = U.many
   ·have t3 : (T.many == U.many) = true := by simp [e3]
    by_cases e4 : T.ps.length = U.ps.length
    ·have t4 : (((T.ps.length : Nat) : Int) != ((U.ps.length : Nat) : Int)) = false := by simp [e4]
     have t4' : (T.ps.length != U.ps.length) = false := by simp [e4]
     by_cases e5 : T.ns.length = U.ns.length
     ·have t5 : (((T.ns.length : Nat) : Int) != ((U.ns.length : Nat) : Int)) = false := by simp [e5]
      have t5' : (T.ns.length != U.ns.length) = false := by simp [e5]
      have E1 := Lh e1
      have E2 := Lh e2
      have E3 := Lh e3
      have E4 := Lh e4
      have E5 := Lh e5
      clear e1 e2 e3 e4 e5 fin
      have k0 : Blk ((w.alloc (.cells #[.int .i64 T.k, .string T.nm, .slice An T.ns.length cn, .slice Ap T.ps.length cp, .bool T.many] 34)).alloc (.cells #[.int .i64 U.k, .string U.nm, .slice Bn U.ns.length dn, .slice Bp U.ps.length dp, .bool U.many] 34)) w.heap.size 34 #[.int .i64 T.k, .string T.nm, .slice An T.ns.length cn, .slice Ap T.ps.length cp, .bool T.many] := (Blk.new_ w _ _).alloc _
      have j0 : Blk ((w.alloc (.cells #[.int .i64 T.k, .string T.nm, .slice An T.ns.length cn, .slice Ap T.ps.length cp, .bool T.many] 34)).alloc (.cells #[.int .i64 U.k, .string U.nm, .slice Bn U.ns.length dn, .slice Bp U.ps.length dp, .bool U.many] 34)) (w.heap.size + 1) 34 #[.int .i64 U.k, .string U.nm, .slice Bn U.ns.length dn, .slice Bp U.ps.length dp, .bool U.many] := by have := Blk.new_ (w.alloc (.cells #[.int .i64 T.k, .string T.nm, .slice An T.ns.length cn, .slice Ap T.ps.length cp, .bool T.many] 34)) 34 #[.int .i64 U.k, .string U.nm, .slice Bn U.ns.length dn, .slice Bp U.ps.length dp, .bool U.many]; simpa using this
      go_enter Tryz.func29, Tryz.ntmps29
      go_wp2
      go_loopw [5] (fun i wr => AlRel T.ns U.ns w i w.heap.size #[.int .i64 T.k, .string T.nm, .slice An T.ns.length cn, .slice Ap T.ps.length cp, .bool T.many] #[.int .i64 U.k, .string U.nm, .slice Bn U.ns.length dn, .slice Bp U.ps.length dp, .bool U.many] wr) (fun i _ => T.ns.length - (intOf i).toNat)
      case atStart => exact ⟨0, Nat.zero_le _, rfl, by simp, bel, k0, j0⟩
      case round =>
       clear k0 j0
       obtain ⟨k, hk, rfl, hg, hb, k1, j1⟩ := hrel
       have q := k1.five
       have q' := j1.five
       by_cases hlt : k < T.ns.length
       ·have hlt' : k < U.ns.length := by have := E5.out; omega
        obtain ⟨b, o, rfl, hbl, c0⟩ := hN.str hlt
        obtain ⟨b', o', rfl, hbl', c0'⟩ := hN'.str hlt'
        rw [← keep_cell hb hbl] at c0
        rw [← keep_cell hb hbl'] at c0'
        have hi : (k : Int) < (T.ns.length : Int) := by omega
        have hi' : (k : Int) < (U.ns.length : Int) := by omega
        have hi0 : (0 : Int) ≤ (k : Int) := by omega
        have hk6 : (k : Int) < 6 := by omega
        have HG := Lh hg
        clear hg
        by_cases he : T.ns[k] = U.ns[k]
        ·have t6 : (T.ns[k].toList == U.ns[k].toList) = true := (str_beq_iff _ _).2 he
         have HT := Lh (take_eq_succ hlt hlt' HG.out he)
         clear he
         go_wp2_with fail
         go_quiet (fail)
         go_wp2
         go_roundw
         case rel => exact ⟨k + 1, by omega, by go_num, HT.out, Below.drewN_ hb _, k1.drewN _, j1.drewN _⟩
         case measure => simp [intOf] <;> omega
        ·have t6 : (T.ns[k].toList == U.ns[k].toList) = false := str_bne he
         have hf : Hid (eqB T U = false) := eqB_no fun h => by subst h; exact he rfl
         clear he
         go_wp2_with fail
         go_quiet (fail)
         go_wp2
         go_ret
         exact ⟨by rw [hf.out]; rfl, Below.drewN_ hb _⟩
       ·have hi : ¬ (k : Int) < (T.ns.length : Int) := by omega
        have hns : Hid (T.ns = U.ns) := by
         show _ = _
         have h1 := hg
         rw [List.take_of_length_le (by omega), List.take_of_length_le (by have := E5.out; omega)] at h1
         exact h1
        clear hg
        obtain ⟨w1, rfl⟩ : ∃ w1 : World, w1 = wr := ⟨_, rfl⟩
        go_wp2
        go_loopw [6] (fun i wr => AlRel T.ps U.ps w i w.heap.size #[.int .i64 T.k, .string T.nm, .slice An T.ns.length cn, .slice Ap T.ps.length cp, .bool T.many] #[.int .i64 U.k, .string U.nm, .slice Bn U.ns.length dn, .slice Bp U.ps.length dp, .bool U.many] wr) (fun i _ => T.ps.length - (intOf i).toNat)
        case atStart => exact ⟨0, Nat.zero_le _, rfl, by simp, hb, k1, j1⟩
        case round =>
         clear k1 j1 hb q q' hlt hi hk
         obtain ⟨k, hk, rfl, hg, hb, k1, j1⟩ := hrel
         have q := k1.five
         have q' := j1.five
         by_cases hlt : k < T.ps.length
         ·have hlt' : k < U.ps.length := by have := E4.out; omega
          obtain ⟨b, o, pn, pc, pp, pd, rfl, hbl, hrep, hc⟩ := (RepL.keep hb T.ps _ hP).five hlt
          obtain ⟨b', o', un, uc, up, ud, rfl, hbl', hrep', hc'⟩ := (RepL.keep hb U.ps _ hP').five hlt'
          have hi : (k : Int) < (T.ps.length : Int) := by omega
          have hi' : (k : Int) < (U.ps.length : Int) := by omega
          have hi0 : (0 : Int) ≤ (k : Int) := by omega
          have hk7 : (k : Int) < 7 := by omega
          have hIH := IH _ (List.getElem_mem hlt) U.ps[k]
          have HY : Hid (T.ps[k] = U.ps[k] → T.ps.take (k + 1) = U.ps.take (k + 1)) := fun he => take_eq_succ hlt hlt' hg he
          have HNO : Hid (¬ T.ps[k] = U.ps[k] → eqB T U = false) := fun he => eqB_no fun h => by subst h; exact he rfl
          have hl0 : w.heap.size < wr.heap.size := k1.lt
          have hl1 : w.heap.size + 1 < wr.heap.size := j1.lt
          clear hg
          generalize T.ps[k] = p at *
          generalize U.ps[k] = u at *
          by_cases he : p = u
          ·have HT := Lh (HY.out he)
           have HAL : Hid (∀ W, (Below wr.heap.size wr W ∧ W.cell? ⟨w.heap.size, 3, none⟩ = some (.slice (some ⟨b, o, none⟩) T.ps.length cp) ∧ W.cell? ⟨w.heap.size + 1, 3, none⟩ = some (.slice (some ⟨b', o', none⟩) U.ps.length dp) ∧ (W.cell? ⟨b, o + k * 5, none⟩ = some (.int .i64 p.k) ∧ W.cell? ⟨b, o + k * 5 + 1, none⟩ = some (.string p.nm) ∧ W.cell? ⟨b, o + k * 5 + 2, none⟩ = some (.slice pn p.ns.length pc) ∧ W.cell? ⟨b, o + k * 5 + 3, none⟩ = some (.slice pp p.ps.length pd) ∧ W.cell? ⟨b, o + k * 5 + 4, none⟩ = some (.bool p.many)) ∧ W.cell? ⟨b', o' + k * 5, none⟩ = some (.int .i64 u.k) ∧ W.cell? ⟨b', o' + k * 5 + 1, none⟩ = some (.string u.nm) ∧ W.cell? ⟨b', o' + k * 5 + 2, none⟩ = some (.slice un u.ns.length uc) ∧ W.cell? ⟨b', o' + k * 5 + 3, none⟩ = some (.slice up u.ps.length ud) ∧ W.cell? ⟨b', o' + k * 5 + 4, none⟩ = some (.bool u.many)) → Calls Tryz.prog 29 #[.agg #[.int .i64 p.k, .string p.nm, .slice pn p.ns.length pc, .slice pp p.ps.length pd, .bool p.many], .agg #[.int .i64 u.k, .string u.nm, .slice un u.ns.length uc, .slice up u.ps.length ud, .bool u.many]] W fun e w' => e = .returned (.bool true) ∧ Below W.heap.size W w') := fun W hW => by
            have h := hIH _ _ W (Rep.keep hW.1 _ _ hrep) (Rep.keep hW.1 _ _ hrep')
            rw [eqB_yes he] at h
            exact h
           clear he hIH HY HNO
           go_wp2_with fail
           go_region_held3 (fun W => Below wr.heap.size wr W ∧ W.cell? ⟨w.heap.size, 3, none⟩ = some (.slice (some ⟨b, o, none⟩) T.ps.length cp) ∧ W.cell? ⟨w.heap.size + 1, 3, none⟩ = some (.slice (some ⟨b', o', none⟩) U.ps.length dp) ∧ (W.cell? ⟨b, o + k * 5, none⟩ = some (.int .i64 p.k) ∧ W.cell? ⟨b, o + k * 5 + 1, none⟩ = some (.string p.nm) ∧ W.cell? ⟨b, o + k * 5 + 2, none⟩ = some (.slice pn p.ns.length pc) ∧ W.cell? ⟨b, o + k * 5 + 3, none⟩ = some (.slice pp p.ps.length pd) ∧ W.cell? ⟨b, o + k * 5 + 4, none⟩ = some (.bool p.many)) ∧ W.cell? ⟨b', o' + k * 5, none⟩ = some (.int .i64 u.k) ∧ W.cell? ⟨b', o' + k * 5 + 1, none⟩ = some (.string u.nm) ∧ W.cell? ⟨b', o' + k * 5 + 2, none⟩ = some (.slice un u.ns.length uc) ∧ W.cell? ⟨b', o' + k * 5 + 3, none⟩ = some (.slice up u.ps.length ud) ∧ W.cell? ⟨b', o' + k * 5 + 4, none⟩ = some (.bool u.many)) (first | exact ⟨(Below.refl _ _).drew, q.2.2.2.1, q'.2.2.2.1, hc, hc'⟩ | exact keep12 hl0 hl1 hbl hbl' (by assumption) hbq | exact ⟨Below.drew (And.left (by assumption)), And.right (by assumption)⟩ | go_keep) ((go_at_call 29; ((with_reducible refine (HAL.out _ (by assumption)).mono ?_); rintro e w' ⟨rfl, hbq⟩)))
           all_goals
            rename_i hh
            have hbf := hb.trans (hh.1.mono hb.size)
            have k2 := k1.below hh.1
            have j2 := j1.below hh.1
            clear q q' hc hc'
            go_wp2
            go_roundw
            case rel => exact ⟨k + 1, by omega, by go_num, HT.out, hbf, k2, j2⟩
            case measure => simp [intOf] <;> omega
          ·have hf := Lh (HNO.out he)
           have HAL : Hid (∀ W, (Below wr.heap.size wr W ∧ W.cell? ⟨w.heap.size, 3, none⟩ = some (.slice (some ⟨b, o, none⟩) T.ps.length cp) ∧ W.cell? ⟨w.heap.size + 1, 3, none⟩ = some (.slice (some ⟨b', o', none⟩) U.ps.length dp) ∧ (W.cell? ⟨b, o + k * 5, none⟩ = some (.int .i64 p.k) ∧ W.cell? ⟨b, o + k * 5 + 1, none⟩ = some (.string p.nm) ∧ W.cell? ⟨b, o + k * 5 + 2, none⟩ = some (.slice pn p.ns.length pc) ∧ W.cell? ⟨b, o + k * 5 + 3, none⟩ = some (.slice pp p.ps.length pd) ∧ W.cell? ⟨b, o + k * 5 + 4, none⟩ = some (.bool p.many)) ∧ W.cell? ⟨b', o' + k * 5, none⟩ = some (.int .i64 u.k) ∧ W.cell? ⟨b', o' + k * 5 + 1, none⟩ = some (.string u.nm) ∧ W.cell? ⟨b', o' + k * 5 + 2, none⟩ = some (.slice un u.ns.length uc) ∧ W.cell? ⟨b', o' + k * 5 + 3, none⟩ = some (.slice up u.ps.length ud) ∧ W.cell? ⟨b', o' + k * 5 + 4, none⟩ = some (.bool u.many)) → Calls Tryz.prog 29 #[.agg #[.int .i64 p.k, .string p.nm, .slice pn p.ns.length pc, .slice pp p.ps.length pd, .bool p.many], .agg #[.int .i64 u.k, .string u.nm, .slice un u.ns.length uc, .slice up u.ps.length ud, .bool u.many]] W fun e w' => e = .returned (.bool false) ∧ Below W.heap.size W w') := fun W hW => by
            have h := hIH _ _ W (Rep.keep hW.1 _ _ hrep) (Rep.keep hW.1 _ _ hrep')
            rw [eqB_no he] at h
            exact h
           clear he hIH HY HNO
           go_wp2_with fail
           go_region_held3 (fun W => Below wr.heap.size wr W ∧ W.cell? ⟨w.heap.size, 3, none⟩ = some (.slice (some ⟨b, o, none⟩) T.ps.length cp) ∧ W.cell? ⟨w.heap.size + 1, 3, none⟩ = some (.slice (some ⟨b', o', none⟩) U.ps.length dp) ∧ (W.cell? ⟨b, o + k * 5, none⟩ = some (.int .i64 p.k) ∧ W.cell? ⟨b, o + k * 5 + 1, none⟩ = some (.string p.nm) ∧ W.cell? ⟨b, o + k * 5 + 2, none⟩ = some (.slice pn p.ns.length pc) ∧ W.cell? ⟨b, o + k * 5 + 3, none⟩ = some (.slice pp p.ps.length pd) ∧ W.cell? ⟨b, o + k * 5 + 4, none⟩ = some (.bool p.many)) ∧ W.cell? ⟨b', o' + k * 5, none⟩ = some (.int .i64 u.k) ∧ W.cell? ⟨b', o' + k * 5 + 1, none⟩ = some (.string u.nm) ∧ W.cell? ⟨b', o' + k * 5 + 2, none⟩ = some (.slice un u.ns.length uc) ∧ W.cell? ⟨b', o' + k * 5 + 3, none⟩ = some (.slice up u.ps.length ud) ∧ W.cell? ⟨b', o' + k * 5 + 4, none⟩ = some (.bool u.many)) (first | exact ⟨(Below.refl _ _).drew, q.2.2.2.1, q'.2.2.2.1, hc, hc'⟩ | exact keep12 hl0 hl1 hbl hbl' (by assumption) hbq | exact ⟨Below.drew (And.left (by assumption)), And.right (by assumption)⟩ | go_keep) ((go_at_call 29; ((with_reducible refine (HAL.out _ (by assumption)).mono ?_); rintro e w' ⟨rfl, hbq⟩)))
           all_goals
            rename_i hh
            have hbf := hb.trans (hh.1.mono hb.size)
            clear q q' hc hc'
            go_wp2
            go_ret
            exact ⟨by rw [hf.out]; rfl, hbf⟩
         ·have hi : ¬ (k : Int) < (T.ps.length : Int) := by omega
          have hy : Hid (eqB T U = true) := by
           show _ = _
           rw [List.take_of_length_le (by omega), List.take_of_length_le (by have := E4.out; omega)] at hg
           exact eqB_yes (ty_ext E1.out E2.out hns.out hg E3.out)
          clear hg
          go_wp2
          go_ret
          exact ⟨by rw [hy.out]; rfl, hb⟩
     ·have t5 : (((T.ns.length : Nat) : Int) != ((U.ns.length : Nat) : Int)) = true := by simp; omega
      have t5' : (T.ns.length != U.ns.length) = true := by simp; omega
      have hf := fin true (fun h => e5 (by rw [h]))
      clear e1 e2 e3 e4 e5 fin
      go_enter Tryz.func29, Tryz.ntmps29
      go_wp2
      go_ret
      exact ⟨by rw [hf.out]; rfl, bel⟩
    ·have t4 : (((T.ps.length : Nat) : Int) != ((U.ps.length : Nat) : Int)) = true := by simp; omega
     have t4' : (T.ps.length != U.ps.length) = true := by simp; omega
     have hf := fin true (fun h => e4 (by rw [h]))
     clear e1 e2 e3 e4 fin
     go_enter Tryz.func29, Tryz.ntmps29
     go_wp2
     go_ret
     exact ⟨by rw [hf.out]; rfl, bel⟩
   ·have t3 : (T.many == U.many) = false := by simpa using e3
    have hf := fin true (fun h => e3 (by rw [h]))
    clear e1 e2 e3 fin
    go_enter Tryz.func29, Tryz.ntmps29
    go_wp2
    go_ret
    exact ⟨by rw [hf.out]; rfl, bel⟩
  ·have t2 : (T.nm.toList == U.nm.toList) = false := str_bne e2
   have hf := fin true (fun h => e2 (by rw [h]))
   clear e1 e2 fin
   go_enter Tryz.func29, Tryz.ntmps29
   go_wp2
   go_ret
   exact ⟨by rw [hf.out]; rfl, bel⟩
 ·have t1 : (T.k != U.k) = true := by simpa using e1
  have hf := fin true (fun h => e1 (by rw [h]))
  clear e1 fin
  go_enter Tryz.func29, Tryz.ntmps29
  go_wp2
  go_ret
  exact ⟨by rw [hf.out]; rfl, bel⟩
end Go.Proofs.YthihaeobkoiljaaGreat
namespace Go.Proofs.YthihaeobkoiljaaGreat
open Go.RowKit
theorem RepB.nine {w : World} {b : Bo} {cs : List Value} (h : RepB w b cs) : ∃ An cn Ap cp A c, cs = [.string b.nm, .bool b.static, .int .i64 b.ty.k, .string b.ty.nm, .slice An b.ty.ns.length cn, .slice Ap b.ty.ps.length cp, .bool b.ty.many, .int .i64 b.regs, .slice A b.code.length c] ∧ Rep w b.ty [.int .i64 b.ty.k, .string b.ty.nm, .slice An b.ty.ns.length cn, .slice Ap b.ty.ps.length cp, .bool b.ty.many] ∧ RepL w b.ty.ps Ap ∧ RepOL w A b.code ∧ b.code.length ≤ maxLen := by
 obtain ⟨tc, A, c, rfl, h1, h2, h3⟩ := h
 have h1' := h1
 obtain ⟨An, cn, Ap, cp, rfl, h4, h5⟩ := h1.five
 exact ⟨An, cn, Ap, cp, A, c, rfl, h1', h5, h2, h3⟩
theorem results_row {fn : Func} (h : fn.results = #[.cell 4 101, .tmp 5]) {w : World} {b : Nat} {a0 a1 a2 a3 a4 a5 a6 x : Value} {tmps : Array Value} (k : Blk w b 101 #[a0, a1, a2, a3, a4, a5, a6]) (h4 : tmps.getD 4 undef = .pointer (some ⟨b, 0, none⟩)) (h5 : tmps.getD 5 undef = x) :
 (results fn tmps).run Tryz.prog w = .ok (.tuple #[.agg #[a0, a1, a2, a3, a4, a5, a6], x]) w := by
 have c0 := k.cell 0 _ rfl
 have c1 := k.cell 1 _ rfl
 have c2 := k.cell 2 _ rfl
 have c3 := k.cell 3 _ rfl
 have c4 := k.cell 4 _ rfl
 have c5 := k.cell 5 _ rfl
 have c6 := k.cell 6 _ rfl
 simp at c0 c1 c2 c3 c4 c5 c6
 simp only [Array.getD_eq_getD_getElem?] at h4 h5
 simp [results, h, go_sem, h4, h5, c0, c1, c2, c3, c4, c5, c6]
theorem Blk.drew1 {w : World} {b : Nat} {t : TypeId} {cs : Array Value} (h : Blk w b t cs) : Blk w.drew b t cs := h
theorem row_else {op : Int} (T : Ty) (len : Nat) (h : ∀ k : Int, 1 ≤ k → k ≤ 14 → op ≠ k) : rowOf T len op = (⟨0, 0, false, 0, 0, false, false⟩, false) := by
 have h1 := h 1 (by omega) (by omega)
 have h2 := h 2 (by omega) (by omega)
 have h3 := h 3 (by omega) (by omega)
 have h4 := h 4 (by omega) (by omega)
 have h5 := h 5 (by omega) (by omega)
 have h6 := h 6 (by omega) (by omega)
 have h7 := h 7 (by omega) (by omega)
 have h8 := h 8 (by omega) (by omega)
 have h9 := h 9 (by omega) (by omega)
 have h10 := h 10 (by omega) (by omega)
 have h11 := h 11 (by omega) (by omega)
 have h12 := h 12 (by omega) (by omega)
 have h13 := h 13 (by omega) (by omega)
 have h14 := h 14 (by omega) (by omega)
 unfold rowOf
 rw [if_neg h1, if_neg h2, if_neg h3, if_neg h4, if_neg h5, if_neg h6, if_neg h7, if_neg h8, if_neg h9, if_neg h10, if_neg h11, if_neg h12, if_neg h13, if_neg h14]
def OfOut (T : Ty) (len : Nat) (op : Int) (w : World) (e : Ending) (w' : World) : Prop := e = .returned (.tuple #[.agg (rowOf T len op).1.cells, .bool (rowOf T len op).2]) ∧ Below w.heap.size w w'
theorem of_ret {T : Ty} {len : Nat} {op : Int} {w w' : World} {R : Rw × Bool} (h : rowOf T len op = R) (hb : Below w.heap.size w w') : OfOut T len op w (.returned (.tuple #[.agg R.1.cells, .bool R.2])) w' := ⟨by rw [h], hb⟩
/-! the ways -/
theorem of_any (b : Bo) (cs : List Value) (op : Int) (w : World) (hr : RepB w b cs) (hm : ML w) (hmy : may b.ty = true) (h4 : b.ty.k = 4) (hlen : b.code.length ≤ 6000) :
 Calls Tryz.prog 48 #[.agg cs.toArray, .int .i64 op] w (OfOut b.ty b.code.length op w) := by
 obtain ⟨An, cn, Ap, cp, A, c, rfl, hrT, hP, -, -⟩ := hr.nine
 have hpos : 1 ≤ b.ty.ps.length := by
  have := (may_fn hmy h4).2.2.1
  rcases h : b.ty.ps with _ | ⟨a, l⟩
  ·exact absurd h this
  ·simp
 have h7 := may_len hmy
 have hmp := (may_size hmy _ (List.getElem_mem (show b.ty.ps.length - 1 < b.ty.ps.length by omega))).1
 have HRW : Hid (wordsT (b.ty.ps[b.ty.ps.length - 1]'(by omega)) = (resW b.ty : Int)) := by
  show _ = _
  unfold resW
  rw [last_at hpos]
  simp [wordsT, hmp]
 have k0 := (Blk.new_ w 37 #[.string b.nm, .bool b.static, .int .i64 b.ty.k, .string b.ty.nm, .slice An b.ty.ns.length cn, .slice Ap b.ty.ps.length cp, .bool b.ty.many, .int .i64 b.regs, .slice A b.code.length c])
 have B0 : Below w.heap.size w ((w.alloc (.cells #[.string b.nm, .bool b.static, .int .i64 b.ty.k, .string b.ty.nm, .slice An b.ty.ns.length cn, .slice Ap b.ty.ps.length cp, .bool b.ty.many, .int .i64 b.regs, .slice A b.code.length c] 37)).alloc (.cells #[.int .i64 0, .int .i64 0, .bool false, .int .i64 0, .int .i64 0, .bool false, .bool false] 101)) := bel
 obtain ⟨bb, o, An', cn', Ap', cp', rfl, hbl, hrep, hc⟩ := (RepL.keep B0 _ _ hP).five (show b.ty.ps.length - 1 < b.ty.ps.length by omega)
 have hp1 : (1 : Int) ≤ (b.ty.ps.length : Int) := by omega
 have hp7 : (b.ty.ps.length : Int) ≤ 7 := by omega
 have hnat : ((b.ty.ps.length : Int) - 1).toNat = b.ty.ps.length - 1 := by omega
 have hl6 : (b.code.length : Int) ≤ 6000 := by omega
 have HC := Lh (words_any (b.ty.ps[b.ty.ps.length - 1]'(by omega)) _ _ hrep (hm.keep B0))
 generalize b.ty.ps[b.ty.ps.length - 1]'(by omega) = p at *
 clear hr hrT hP hmy h4 hmp hrep hm hlen
 have HB0 := Lh B0
 clear B0
 go_enter Tryz.func48, Tryz.ntmps48
 go_wp2_with fail
 ((with_reducible refine (HC.out).mono ?_); rintro e w2 ⟨rfl, hb2⟩)
 rw [HRW.out]
 have kb := (k0.alloc (.cells #[.int .i64 0, .int .i64 0, .bool false, .int .i64 0, .int .i64 0, .bool false, .bool false] 101)).below hb2
 have kr := (Blk.nxt1 w (.cells #[.string b.nm, .bool b.static, .int .i64 b.ty.k, .string b.ty.nm, .slice An b.ty.ns.length cn, .slice (some ⟨bb, o, none⟩) b.ty.ps.length cp, .bool b.ty.many, .int .i64 b.regs, .slice A b.code.length c] 37) 101 #[.int .i64 0, .int .i64 0, .bool false, .int .i64 0, .int .i64 0, .bool false, .bool false]).below hb2
 have q8 := kb.cell 8 (.slice A b.code.length c) rfl
 have b2 := HB0.out.trans (hb2.mono HB0.out.size)
 have hlt2 := kr.lt
 have hlt3 := kb.lt
 have hne : w.heap.size + 1 ≠ w2.heap.size := by omega
 have X : Below w2.heap.size w2 (w2.alloc (.cells #[.int .i64 0, .int .i64 0, .bool true, .int .i64 0, .int .i64 ((b.code.length : Int) - 1), .bool false, .bool false] 101)) := bel
 have kr3 := kr.below X
 have kb3 := kb.below X
 have kj := Blk.new_ w2 101 #[.int .i64 0, .int .i64 0, .bool true, .int .i64 0, .int .i64 ((b.code.length : Int) - 1), .bool false, .bool false]
 have b3 := b2.trans (X.mono b2.size)
 clear hc hb2 HC k0 kr kb HB0 b2 X
 go_upto_region 3 with (fail)
 generalize hw3 : w2.alloc (.cells #[.int .i64 0, .int .i64 0, .bool true, .int .i64 0, .int .i64 ((b.code.length : Int) - 1), .bool false, .bool false] 101) = w3 at *
 clear hw3 q8
 have f := fun i => kr3.free i
 have d0 := kr3.cell 0 _ rfl
 have d1 := kr3.cell 1 _ rfl
 have d2 := kr3.cell 2 _ rfl
 have d3 := kr3.cell 3 _ rfl
 have d4 := kr3.cell 4 _ rfl
 have d5 := kr3.cell 5 _ rfl
 have d6 := kr3.cell 6 _ rfl
 by_cases e1 : op = 1
 ·subst e1
  go_wp2
  exact bodyPost_ret (results_row (by kernel_rfl) (kr3.set7 _ _ _ _ _ _ _) rfl rfl) rfl (of_ret (R := (⟨1, 0, true, -2147483648, 2147483647, false, false⟩, true)) rfl (below_set7 b3 (by omega) _ _ _ _ _ _ _))
 by_cases e2 : op = 2
 ·subst e2
  go_wp2
  exact bodyPost_ret (results_row (by kernel_rfl) (kr3.set7 _ _ _ _ _ _ _) rfl rfl) rfl (of_ret (R := (⟨1, 1, false, 0, 0, false, false⟩, true)) rfl (below_set7 b3 (by omega) _ _ _ _ _ _ _))
 by_cases e3 : op = 3
 ·subst e3
  go_wp2
  exact bodyPost_ret (results_row (by kernel_rfl) (kr3.set7 _ _ _ _ _ _ _) rfl rfl) rfl (of_ret (R := (⟨1, 2, true, 1, 12, false, false⟩, true)) rfl (below_set7 b3 (by omega) _ _ _ _ _ _ _))
 by_cases e4 : op = 4
 ·subst e4
  go_wp2
  exact bodyPost_ret (results_row (by kernel_rfl) (kr3.set7 _ _ _ _ _ _ _) rfl rfl) rfl (of_ret (R := (⟨1, 0, true, 0, 1, true, false⟩, true)) rfl (below_set7 b3 (by omega) _ _ _ _ _ _ _))
 by_cases e5 : op = 5
 ·subst e5
  go_wp2
  exact bodyPost_ret (results_row (by kernel_rfl) (kr3.set7 _ _ _ _ _ _ _) rfl rfl) rfl (of_ret (R := (⟨0, 1, true, 0, 1, true, false⟩, true)) rfl (below_set7 b3 (by omega) _ _ _ _ _ _ _))
 by_cases e6 : op = 6
 ·subst e6
  go_wp2
  exact bodyPost_ret (results_row (by kernel_rfl) (kr3.set7 _ _ _ _ _ _ _) rfl rfl) rfl (of_ret (R := (⟨1, 0, false, 0, 0, true, false⟩, true)) rfl (below_set7 b3 (by omega) _ _ _ _ _ _ _))
 by_cases e7 : op = 7
 ·subst e7
  go_wp2
  exact bodyPost_ret (results_row (by kernel_rfl) (kr3.set7 _ _ _ _ _ _ _) rfl rfl) rfl (of_ret (R := (⟨-1, -1, false, 0, 0, true, true⟩, true)) rfl (below_set7 b3 (by omega) _ _ _ _ _ _ _))
 by_cases e8 : op = 8
 ·subst e8
  go_wp2
  exact bodyPost_ret (results_row (by kernel_rfl) (kr3.set7 _ _ _ _ _ _ _) rfl rfl) rfl (of_ret (R := (⟨-1, -1, false, 0, 0, false, true⟩, true)) rfl (below_set7 b3 (by omega) _ _ _ _ _ _ _))
 by_cases e9 : op = 9
 ·subst e9
  have j0' := kj.cell 0 _ rfl
  have j1' := kj.cell 1 _ rfl
  have j2' := kj.cell 2 _ rfl
  have j3' := kj.cell 3 _ rfl
  have j4' := kj.cell 4 _ rfl
  have j5' := kj.cell 5 _ rfl
  have j6' := kj.cell 6 _ rfl
  go_wp2
  exact bodyPost_ret (results_row (by kernel_rfl) (kr3.set7 _ _ _ _ _ _ _) rfl rfl) rfl (of_ret (R := (⟨0, 0, true, 0, (b.code.length : Int) - 1, false, false⟩, true)) rfl (below_set7 b3 (by omega) _ _ _ _ _ _ _))
 by_cases e10 : op = 10
 ·subst e10
  have j1 := kj.cell 1 _ rfl
  have jf := kj.free 1
  have kj' := kj.set_ 1 (.int .i64 1)
  have kr' := kr3.far (p := ⟨w2.heap.size, 1, none⟩) (by simp; omega) (.int .i64 1)
  have b3' := b3.setCell (p := ⟨w2.heap.size, 1, none⟩) (by simp; omega) (.int .i64 1)
  clear kb3
  have j0' := kj.cell 0 _ rfl
  have j1' := kj.cell 1 _ rfl
  have j2' := kj.cell 2 _ rfl
  have j3' := kj.cell 3 _ rfl
  have j4' := kj.cell 4 _ rfl
  have j5' := kj.cell 5 _ rfl
  have j6' := kj.cell 6 _ rfl
  go_wp2
  exact bodyPost_ret (results_row (by kernel_rfl) (kr'.set7 _ _ _ _ _ _ _) rfl rfl) rfl (of_ret (R := (⟨0, 1, true, 0, (b.code.length : Int) - 1, false, false⟩, true)) rfl (below_set7 b3' (by omega) _ _ _ _ _ _ _))
 by_cases e11 : op = 11
 ·subst e11
  go_wp2
  exact bodyPost_ret (results_row (by kernel_rfl) (kr3.set7 _ _ _ _ _ _ _) rfl rfl) rfl (of_ret (R := (⟨0, 1, false, 0, 0, false, false⟩, true)) rfl (below_set7 b3 (by omega) _ _ _ _ _ _ _))
 by_cases e12 : op = 12
 ·subst e12
  go_wp2
  exact bodyPost_ret (results_row (by kernel_rfl) (kr3.set7 _ _ _ _ _ _ _) rfl rfl) rfl (of_ret (R := (⟨0, (resW b.ty : Int), false, 0, 0, false, false⟩, true)) rfl (below_set7 b3 (by omega) _ _ _ _ _ _ _))
 by_cases e13 : op = 13
 ·subst e13
  have q6 := kb3.cell 6 (.bool b.ty.many) rfl
  go_wp2
  go_region
  all_goals
   go_wp2
   refine bodyPost_ret (v := .tuple #[.agg #[.int .i64 1, .int .i64 0, .bool false, .int .i64 0, .int .i64 0, .bool false, .bool false], .bool b.ty.many]) ?_ rfl ?_
   ·exact results_row (by kernel_rfl) (kr3.set7 (.int .i64 1) (.int .i64 0) (.bool false) (.int .i64 0) (.int .i64 0) (.bool false) (.bool false)).drew1 rfl rfl
   ·exact of_ret (R := (⟨1, 0, false, 0, 0, false, false⟩, b.ty.many)) rfl (below_set7 b3 (by omega) (.int .i64 1) (.int .i64 0) (.bool false) (.int .i64 0) (.int .i64 0) (.bool false) (.bool false)).drew
 by_cases e14 : op = 14
 ·subst e14
  have q6 := kb3.cell 6 (.bool b.ty.many) rfl
  go_wp2
  go_region
  all_goals
   go_wp2
   refine bodyPost_ret (v := .tuple #[.agg #[.int .i64 1, .int .i64 1, .bool false, .int .i64 0, .int .i64 0, .bool false, .bool false], .bool b.ty.many]) ?_ rfl ?_
   ·exact results_row (by kernel_rfl) (kr3.set7 (.int .i64 1) (.int .i64 1) (.bool false) (.int .i64 0) (.int .i64 0) (.bool false) (.bool false)).drew1 rfl rfl
   ·exact of_ret (R := (⟨1, 1, false, 0, 0, false, false⟩, b.ty.many)) rfl (below_set7 b3 (by omega) (.int .i64 1) (.int .i64 1) (.bool false) (.int .i64 0) (.int .i64 0) (.bool false) (.bool false)).drew
 have H : Hid (∀ k : Int, 1 ≤ k → k ≤ 14 → op ≠ k) := fun k h0 h9 e => by omega
 have g1 : (op == 1) = false := by simpa using e1
 have g2 : (op == 2) = false := by simpa using e2
 have g3 : (op == 3) = false := by simpa using e3
 have g4 : (op == 4) = false := by simpa using e4
 have g5 : (op == 5) = false := by simpa using e5
 have g6 : (op == 6) = false := by simpa using e6
 have g7 : (op == 7) = false := by simpa using e7
 have g8 : (op == 8) = false := by simpa using e8
 have g9 : (op == 9) = false := by simpa using e9
 have g10 : (op == 10) = false := by simpa using e10
 have g11 : (op == 11) = false := by simpa using e11
 have g12 : (op == 12) = false := by simpa using e12
 have g13 : (op == 13) = false := by simpa using e13
 have g14 : (op == 14) = false := by simpa using e14
 clear e1 e2 e3 e4 e5 e6 e7 e8 e9 e10 e11 e12 e13 e14
 go_wp2
 exact bodyPost_ret (results_row (by kernel_rfl) (kr3.set7 _ _ _ _ _ _ _) rfl rfl) rfl (of_ret (R := (⟨0, 0, false, 0, 0, false, false⟩, false)) (row_else _ _ H.out) (below_set7 b3 (by omega) _ _ _ _ _ _ _))
end Go.Proofs.YthihaeobkoiljaaGreat
namespace Go.Proofs.YthihaeobkoiljaaGreat
open Go.RowKit
open Go.Maps (Keyed)
noncomputable def intF (l : List Int) : Value → Option Value := l.foldl (fun g s => gput g (.int .i64 s) (.bool true)) (fun _ => none)
theorem intF_snoc (l : List Int) (s : Int) : intF (l ++ [s]) = gput (intF l) (.int .i64 s) (.bool true) := by
 unfold intF; rw [List.foldl_append]; rfl
def intIn (l : List Int) (s : Int) : Bool := decide (s ∈ l)
theorem intF_get (l : List Int) (s : Int) : intF l.reverse (.int .i64 s) = if intIn l.reverse s then some (.bool true) else none := by
 induction l with
 | nil => simp [intF, intIn]
 | cons m l ih =>
  rw [List.reverse_cons, intF_snoc]
  by_cases h : s = m
  ·subst h
   rw [gput_same, if_pos (by simp [intIn])]
  ·rw [gput_other _ _ _ _ (fun e => h (by simpa using e)), ih]
   have : intIn (l.reverse ++ [m]) s = intIn l.reverse s := by
    unfold intIn
    rw [decide_eq_decide, List.mem_append]
    simp [h]
   rw [this]
theorem int_get (l : List Int) (s : Int) : (intF l (.int .i64 s)).getD (.bool false) = .bool (intIn l s) := by
 have h := intF_get l.reverse s
 rw [List.reverse_reverse] at h
 rw [h]
 cases intIn l s <;> rfl
theorem int_keyed : Keyed Tryz.prog 3 := Maps.int_keyed Tryz.underlying3
theorem keyOf_int (s : Int) (h0 : 0 ≤ s) (h1 : s ≤ 100000) : ∃ l, keyOf Tryz.prog 3 (.int .i64 s) = some l :=
 ⟨_, Maps.keyOf_int_mk Tryz.underlying3 (WalkArith.wf_i64 (by omega))⟩
theorem look_int (l : List Int) (W : World) (B : Nat) (s : Int) (h : MapIs Tryz.prog 3 W B (intF l)) {kl : Lit} (hkey : keyOf Tryz.prog 3 (.int .i64 s) = some kl) :
 (Instr.lookup 105 (.map (some B)) (.int .i64 s) false).run Tryz.prog W = .ok (.bool (intIn l s)) W := by
 rw [← int_get]
 exact MapIs.lookup h int_keyed Tryz.underlying105 (by kernel_rfl) hkey
theorem int_in_no {l : List Int} {k : Nat} (hk : k < l.length) (h : intIn (l.take k) l[k] = true) : decide l.Nodup = false := by
 simp only [intIn, decide_eq_true_eq] at h
 obtain ⟨j, hj, he⟩ := List.getElem_of_mem h
 rw [List.length_take] at hj
 rw [List.getElem_take] at he
 exact nodup_no (m := j) (by omega) hk he
theorem int_in_more {l : List Int} {k : Nat} (hk : k < l.length) (h : (l.take k).Nodup) (hs : intIn (l.take k) l[k] = false) : (l.take (k + 1)).Nodup := by
 refine nodup_more hk h fun j hj hjk he => ?_
 simp only [intIn, decide_eq_false_iff_not] at hs
 exact hs (by rw [← he]; exact List.mem_take_iff_getElem.2 ⟨j, by omega, rfl⟩)
def SeenRel (l : List Int) (w0 w : World) (B : Nat) (i : Value) (wr : World) : Prop :=
 ∃ k : Nat, k ≤ l.length ∧ i = .int .i64 k ∧ (l.take k).Nodup ∧ MapIs Tryz.prog 3 wr B (intF (l.take k)) ∧ Below w.heap.size w wr ∧ Below w0.heap.size w0 wr
theorem heldS {w4 : World} {C : World → Prop} (HF : Hid (∀ W, Below w4.heap.size w4 W → C W)) {W W' : World} (h : Below w4.heap.size w4 W ∧ C W) (hb : Below W.heap.size W W') : Below w4.heap.size w4 W' ∧ C W' :=
 have B := h.1.trans (hb.mono h.1.size)
 ⟨B, HF.out _ B⟩
theorem heldD {w4 : World} {C : World → Prop} (HF : Hid (∀ W, Below w4.heap.size w4 W → C W)) {W : World} (h : Below w4.heap.size w4 W ∧ C W) : Below w4.heap.size w4 W.drew ∧ C W.drew :=
 ⟨h.1.drew, HF.out _ h.1.drew⟩
theorem held0 {w4 : World} {C : World → Prop} (HF : Hid (∀ W, Below w4.heap.size w4 W → C W)) : Below w4.heap.size w4 w4.drew ∧ C w4.drew :=
 ⟨(Below.refl _ _).drew, HF.out _ (Below.refl _ _).drew⟩
theorem held1 {w4 : World} {C : World → Prop} (HF : Hid (∀ W, Below w4.heap.size w4 W → C W)) {W : World} (h : Below w4.heap.size w4 W) : Below w4.heap.size w4 W.drew ∧ C W.drew :=
 ⟨h.drew, HF.out _ h.drew⟩
theorem within_all {l : List Int} {r : Int} (h : withinB l r = true) : ∀ j (h : j < l.length), 0 ≤ l[j] ∧ l[j] < r := fun j hj => by
 unfold withinB at h
 rw [List.all_eq_true] at h
 have := h _ (List.getElem_mem hj)
 simpa using this
def spareI (m : Int) (many : Bool) : Bool := (m == 0) || (decide (0 < m) && many && decide (m ≤ 12))
theorem spare_7 (T : Ty) (s : Nat) : spareB T s = spareI ((s : Int) - (parW T : Int)) T.many := by
 unfold spareB spareI
 have e1 : ((s : Int) - (parW T : Int) == 0) = (s == parW T) := by rw [Bool.eq_iff_iff]; simp; omega
 have e2 : decide (0 < (s : Int) - (parW T : Int)) = decide (parW T < s) := by rw [decide_eq_decide]; omega
 have e3 : decide ((s : Int) - (parW T : Int) ≤ 12) = decide (s ≤ parW T + 12) := by rw [decide_eq_decide]; omega
 rw [e1, e2, e3]
theorem spare_8 (T : Ty) (s : Nat) : (decide (1 ≤ s) && spareB T (s - 1)) = spareI ((s : Int) - (parW T : Int) - 1) T.many := by
 rcases Nat.eq_zero_or_pos s with h | h
 ·subst h
  unfold spareI
  have e1 : (((0 : Nat) : Int) - (parW T : Int) - 1 == 0) = false := by rw [beq_eq_false_iff_ne]; omega
  have e2 : decide (0 < ((0 : Nat) : Int) - (parW T : Int) - 1) = false := by rw [decide_eq_false_iff_not]; omega
  rw [e1, e2]; rfl
 ·have e : ((s - 1 : Nat) : Int) = (s : Int) - 1 := by omega
  have h1 : decide (1 ≤ s) = true := by rw [decide_eq_true_eq]; exact h
  rw [h1, spare_7, e, Bool.true_and]
  congr 1
  omega
end Go.Proofs.YthihaeobkoiljaaGreat
