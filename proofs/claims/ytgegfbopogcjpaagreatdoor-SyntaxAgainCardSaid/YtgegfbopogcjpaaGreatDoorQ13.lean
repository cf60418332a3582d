/- The printer: statements, blocks. -/
import Derived.Test.YtgegfbopogcjpaaGreatDoorQ12
namespace Go.Proofs.YtgegfbopogcjpaaGreatDoor
open Go.RowKit
set_option linter.unusedVariables false
set_option linter.unusedSimpArgs false
set_option maxRecDepth 100000
set_option maxHeartbeats 2000000
theorem expr0_ok (w0 : World) (p : Nat) (hE : Env w0) (m : Nd) (cs : List Value) (w : World) (ws : List ByteArray) (hr : RepN w0 m cs) (hs : Stq w0 p ws w) (hb : ws.length + 10 * many m ≤ 90000) :
 Calls Tryz.prog 103 #[.pointer (some ⟨p, 0, none⟩), .agg cs.toArray, .int .i64 0] w (NOut w0 p ws (okC 4 m) (shw m) (10 * many m - 3) w) :=
 (expr_ok w0 p hE m cs w ws 0 (by omega) (by omega) hr hs hb).mono fun _ _ h => h.renew fun h => atW_not _ (by have := bind_ok h; omega)
theorem two_or_three {n : Nd} {text num : Bool} (h : plainB n text num 2 3 = true) : (∃ x y, n.kids = [x, y]) ∨ ∃ x y z, n.kids = [x, y, z] := by
 obtain ⟨h1, h2⟩ := plain_len h
 have hl : n.kids.length = 2 ∨ n.kids.length = 3 := by omega
 rcases hl with hl | hl
 ·match hk : n.kids, hl with
  | [x, y], _ => exact .inl ⟨x, y, rfl⟩
 ·match hk : n.kids, hl with
  | [x, y, z], _ => exact .inr ⟨x, y, z, rfl⟩
theorem nl_ce (k : Int) (c d : Int) (x y : Nd) (h0 : wantC k 0 2 = (c, 0)) (h1 : wantC k 1 2 = (d, 0)) : isNL k 0 2 [x, y] = (okC c x && okC d y) := by
 simp only [isNL, Nat.zero_add, h0, h1, kidB_c]
 simp [okC]
theorem nl_cp (k : Int) (c q : Int) (hq : cls q = 5) (hq0 : 0 < q) (x y : Nd) (h0 : wantC k 0 2 = (c, 0)) (h1 : wantC k 1 2 = (5, q)) : isNL k 0 2 [x, y] = (okC c x && okP q y) := by
 simp only [isNL, Nat.zero_add, h0, h1, kidB_c, kidB_p _ hq hq0]
 have : decide (q < 0) = false := by rw [decide_eq_false_iff_not]; omega
 simp [okC, okP, this]
theorem nl_cpp (k : Int) (c q : Int) (hq : cls q = 5) (hq0 : 0 < q) (x y z : Nd) (h0 : wantC k 0 3 = (c, 0)) (h1 : wantC k 1 3 = (5, q)) (h2 : wantC k 2 3 = (5, q)) : isNL k 0 3 [x, y, z] = (okC c x && okP q y && okP q z) := by
 simp only [isNL, Nat.zero_add, Nat.reduceAdd, h0, h1, h2, kidB_c, kidB_p _ hq hq0]
 have : decide (q < 0) = false := by rw [decide_eq_false_iff_not]; omega
 simp [okC, okP, this, Bool.and_assoc]
theorem nl_c (k : Int) (c : Int) (x : Nd) (h0 : wantC k 0 1 = (c, 0)) : isNL k 0 1 [x] = okC c x := by
 simp only [isNL, h0, kidB_c]
 simp [okC]
def StatRel (w0 w : World) (p : Nat) (ws : List ByteArray) (l : List Nd) (i : Value) (wr : World) : Prop :=
 ∃ (k : Nat) (ws1 : List ByteArray), i = .int .i64 k ∧ k ≤ l.length ∧ Hid (Stq w0 p ws1 wr ∧ PK p w wr ∧ ws1 = ws ++ ⟨#[123]⟩ :: ((l.take k).map shw).flatten ∧ (l.take k).all (okC 3) = true ∧ ws1.length ≤ ws.length + 1 + 10 * manyL (l.take k))
theorem RepN.kidsL {w0 w : World} {x : Nd} {Ax : Option Addr} {cx : Nat} (h : RepN w0 x [.int .i64 x.k, .string x.t, .int .i64 x.num, .slice Ax x.kids.length cx]) (hb : Below w0.heap.size w0 w) : RepNL w x.kids Ax := by
 obtain ⟨A, c, he, hr, -⟩ := h.four
 simp at he
 obtain ⟨rfl, rfl⟩ := he
 exact RepNL.keep hb _ _ hr
theorem isN_set {n : Nd} (hk : n.k = 15) : isN n false = (plainB n false false 2 2 && setC n.kids && isNL n.k 0 n.kids.length n.kids) := by
 rw [isN_plain n false 0 2 2 (by rw [hk]; rfl) (by omega) (by omega) (by omega), hk]
 have e4 : decide ((0 : Int) ≠ 0) = false := rfl
 rw [e4]
 rcases hp : plainB n false false 2 2 with _ | _
 ·rfl
 ·have : n.num = 0 := by
   simp only [plainB, Bool.and_eq_true, Bool.or_eq_true, beq_iff_eq] at hp
   simpa using hp.1.1.1.2
  rw [this]
  generalize n.kids = l
  cases l <;> simp [setC, doC]
theorem isN_do {n : Nd} (hk : n.k = 20) : isN n false = (plainB n false false 1 1 && doC n.kids && isNL n.k 0 n.kids.length n.kids) := by
 rw [isN_plain n false 0 1 1 (by rw [hk]; rfl) (by omega) (by omega) (by omega), hk]
 have e4 : decide ((0 : Int) ≠ 0) = false := rfl
 rw [e4]
 rcases hp : plainB n false false 1 1 with _ | _
 ·rfl
 ·have : n.num = 0 := by
   simp only [plainB, Bool.and_eq_true, Bool.or_eq_true, beq_iff_eq] at hp
   simpa using hp.1.1.1.2
  rw [this]
  generalize n.kids = l
  cases l <;> simp [setC, doC]
theorem stat_14 (w0 : World) (p : Nat) (hE : Env w0) (n : Nd) (hk : Hid (n.k = 14)) : LOk 84 (okC 3) shw w0 p n := by
 intro cs w ws hr hst hb
 obtain ⟨A, c, rfl, hR, hcap, hlm, hn64, hts⟩ := hr.four
 have HR := Lib.hid hR
 have hmany := many_eq n
 clear hr hR
 obtain ⟨ok, HK⟩ : ∃ b, Hid (okC 3 n = b) := ⟨_, rfl⟩
 rw [HK.out]
 obtain ⟨nw, HW⟩ : ∃ b, Hid (shw n = b) := ⟨_, rfl⟩
 rw [HW.out]
 generalize hgm : 10 * many n - 3 = gm
 have hgm2 : 10 * manyL n.kids + 7 = gm := by omega
 have HGM := Lib.hid hgm
 clear hgm
 obtain ⟨rest, HRR⟩ : ∃ b, Hid (isNL n.k 0 n.kids.length n.kids = b) := ⟨_, rfl⟩
 have HOK : Hid (ok = (plainB n true false 2 2 && rest)) := by
  show _ = _
  rw [← HK.out, okC_of (by rw [hk.out]; rfl), isN_p0 (text := true) (least := 2) (most := 2) (by rw [hk.out]; rfl) (by rw [hk.out]; decide) (by rw [hk.out]; decide) (by rw [hk.out]; decide) (by rw [hk.out]; decide), HRR.out]
  rfl
 have b14 : (n.k == 14) = true := by rw [hk.out]; rfl
 have b15 : (n.k == 15) = false := by rw [hk.out]; rfl
 have b16 : (n.k == 16) = false := by rw [hk.out]; rfl
 have b17 : (n.k == 17) = false := by rw [hk.out]; rfl
 have b18 : (n.k == 18) = false := by rw [hk.out]; rfl
 have b19 : (n.k == 19) = false := by rw [hk.out]; rfl
 have b20 : (n.k == 20) = false := by rw [hk.out]; rfl
 have X0 := Lib.hid (Bx.start n A c hst)
 have hlw := hst.2.lt
 clear hst
 go_enter Tryz.func84, Tryz.ntmps84
 go_wp2_with fail
 refine (plain_any n _ _ _ _ _ _ _ (X0.out.st.env hE).ml).mono ?_
 rintro e w1 ⟨(⟨hq, rfl⟩ | ⟨hq, rfl⟩), hb1⟩
 rotate_left
 ·have X1 := Lib.hid (X0.out.below hb1)
  have Q1 := Lib.hid hq
  clear hq hb1
  unfold noneE
  go_wp2
  exact ⟨rfl, NOut.no X1.out.st X1.out.pk (by rw [HOK.out, Q1.out] <;> simp) (by omega)⟩
 have X1 := Lib.hid (X0.out.below hb1)
 have Q1 := Lib.hid hq
 clear hq hb1
 have q0 := X1.out.blk.cell 0 (.int .i64 n.k) rfl
 have q1 := X1.out.blk.cell 1 (.string n.t) rfl
 have q2 := X1.out.blk.cell 2 (.int .i64 n.num) rfl
 have q3 := X1.out.blk.cell 3 (.slice A n.kids.length c) rfl
 obtain ⟨x, y, hkx⟩ := twoKids Q1.out
 obtain ⟨bb, oo, Ax, cx, hA0, hbl0, k0, k1, k2, k3, rx⟩ := first_kid HR.out (by rw [hkx]; rfl : n.kids[0]? = some x)
 obtain ⟨bb1, oo1, Ay, cy, hA1, hbl1, m0, m1, m2, m3, ry⟩ := first_kid HR.out (by rw [hkx]; rfl : n.kids[1]? = some y)
 obtain ⟨rfl, rfl⟩ : bb = bb1 ∧ oo = oo1 := by rw [hA0] at hA1; simpa using hA1
 clear hA1 hbl1
 have hbl := hbl0
 subst hA0
 have RX := Lib.hid rx
 have hposx := many_pos x
 have RY := Lib.hid ry
 have hposy := many_pos y
 have hml : many x + many y = manyL n.kids := by rw [hkx]; simp [manyL]
 have hlen : n.kids.length = 2 := by rw [hkx]; rfl
 have hjp0 : 0 < n.kids.length := by omega
 have hji0 : (0 : Int) < (n.kids.length : Int) := by omega
 have hjp1 : 1 < n.kids.length := by omega
 have hji1 : (1 : Int) < (n.kids.length : Int) := by omega
 clear hbl0 rx ry
 have HREST : Hid (rest = (okC 2 x && okC 4 y)) := by
  show _ = _
  rw [← HRR.out, hk.out, hkx]
  exact nl_ce 14 2 4 x y rfl rfl
 have HKX := Lib.hid hkx
 have HLEN := Lib.hid hlen
 clear hkx hlen
 have HSH : Hid (nw = shw x ++ [n.t, ⟨#[61]⟩] ++ shw y ++ [⟨#[59]⟩]) := by
  show _ = _
  rw [← HW.out, shw_eq, hk.out, HKX.out]
  rfl
 have bw := X1.out.st.1
 have z0 := (bw.cell (p := ⟨bb, oo + 0 * 4, none⟩) hbl).trans k0
 have z1 := (bw.cell (p := ⟨bb, oo + 0 * 4 + 1, none⟩) hbl).trans k1
 have z2 := (bw.cell (p := ⟨bb, oo + 0 * 4 + 2, none⟩) hbl).trans k2
 have z3 := (bw.cell (p := ⟨bb, oo + 0 * 4 + 3, none⟩) hbl).trans k3
 clear bw
 simp only [Nat.zero_mul, Nat.add_zero] at z0 z1 z2 z3
 go_wp2_with fail
 refine (typ_ok w0 p hE x _ _ _ RX.out X1.out.st (by omega)).mono ?_
 rintro e w2 ⟨ws2, h2, p2, L2, (⟨o2, rfl, e2⟩ | ⟨o2, rfl⟩)⟩
 rotate_left
 ·have X2 := Lib.hid (X1.out.step h2 p2)
  have Q2 := Lib.hid o2
  clear h2 p2 o2
  unfold noneE
  go_wp2
  exact ⟨rfl, NOut.no X2.out.st X2.out.pk (by rw [HOK.out, Q1.out, HREST.out, Q2.out] <;> simp) (by omega)⟩
 have X2 := Lib.hid (X1.out.step h2 p2)
 have Q2 := Lib.hid o2
 have E2 := Lib.hid e2
 clear h2 p2 o2 e2 q0 q1 q2 q3 z0 z1 z2 z3
 have q0 := X2.out.blk.cell 0 (.int .i64 n.k) rfl
 have q1 := X2.out.blk.cell 1 (.string n.t) rfl
 have q2 := X2.out.blk.cell 2 (.int .i64 n.num) rfl
 have q3 := X2.out.blk.cell 3 (.slice (some ⟨bb, oo, none⟩) n.kids.length c) rfl
 go_wp2_with fail
 refine (psay2 _ _ X2.out.st (by omega)).mono ?_
 rintro e w3 ⟨rfl, h3, p3⟩
 obtain ⟨ws3, e3⟩ : ∃ l : List ByteArray, l = ws2 ++ [n.t, ⟨#[61]⟩] := ⟨_, rfl⟩
 rw [← e3] at h3
 have L3 : ws3.length = ws2.length + 2 := by rw [e3]; simp
 have E3 := Lib.hid e3
 have X3 := Lib.hid (X2.out.step h3 p3)
 clear e3 h3 p3 q0 q1 q2 q3 
 have q0 := X3.out.blk.cell 0 (.int .i64 n.k) rfl
 have q1 := X3.out.blk.cell 1 (.string n.t) rfl
 have q2 := X3.out.blk.cell 2 (.int .i64 n.num) rfl
 have q3 := X3.out.blk.cell 3 (.slice (some ⟨bb, oo, none⟩) n.kids.length c) rfl
 have bw := X3.out.st.1
 have z0 := (bw.cell (p := ⟨bb, oo + 1 * 4, none⟩) hbl).trans m0
 have z1 := (bw.cell (p := ⟨bb, oo + 1 * 4 + 1, none⟩) hbl).trans m1
 have z2 := (bw.cell (p := ⟨bb, oo + 1 * 4 + 2, none⟩) hbl).trans m2
 have z3 := (bw.cell (p := ⟨bb, oo + 1 * 4 + 3, none⟩) hbl).trans m3
 clear bw
 simp only [Nat.one_mul] at z0 z1 z2 z3
 go_wp2_with fail
 refine (expr0_ok w0 p hE y _ _ _ RY.out X3.out.st (by omega)).mono ?_
 rintro e w4 ⟨ws4, h4, p4, L4, (⟨o4, rfl, e4⟩ | ⟨o4, rfl⟩)⟩
 rotate_left
 ·have X4 := Lib.hid (X3.out.step h4 p4)
  have Q4 := Lib.hid o4
  clear h4 p4 o4
  unfold noneE
  go_wp2
  exact ⟨rfl, NOut.no X4.out.st X4.out.pk (by rw [HOK.out, Q1.out, HREST.out, Q2.out, Q4.out] <;> simp) (by omega)⟩
 have X4 := Lib.hid (X3.out.step h4 p4)
 have Q4 := Lib.hid o4
 have E4 := Lib.hid e4
 clear h4 p4 o4 e4 q0 q1 q2 q3 z0 z1 z2 z3
 have q0 := X4.out.blk.cell 0 (.int .i64 n.k) rfl
 have q1 := X4.out.blk.cell 1 (.string n.t) rfl
 have q2 := X4.out.blk.cell 2 (.int .i64 n.num) rfl
 have q3 := X4.out.blk.cell 3 (.slice (some ⟨bb, oo, none⟩) n.kids.length c) rfl
 go_wp2_with fail
 refine (psay1 _ X4.out.st (by omega)).mono ?_
 rintro e w5 ⟨rfl, h5, p5⟩
 obtain ⟨ws5, e5⟩ : ∃ l : List ByteArray, l = ws4 ++ [⟨#[59]⟩] := ⟨_, rfl⟩
 rw [← e5] at h5
 have L5 : ws5.length = ws4.length + 1 := by rw [e5]; simp
 have E5 := Lib.hid e5
 have X5 := Lib.hid (X4.out.step h5 p5)
 clear e5 h5 p5 q0 q1 q2 q3 
 have q0 := X5.out.blk.cell 0 (.int .i64 n.k) rfl
 have q1 := X5.out.blk.cell 1 (.string n.t) rfl
 have q2 := X5.out.blk.cell 2 (.int .i64 n.num) rfl
 have q3 := X5.out.blk.cell 3 (.slice (some ⟨bb, oo, none⟩) n.kids.length c) rfl
 go_wp2
 go_end0
 exact NOut.yes2 X5.out.st X5.out.pk (by rw [HOK.out, Q1.out, HREST.out, Q2.out, Q4.out] <;> simp) (by rw [E5.out, E4.out, E3.out, E2.out, HSH.out]; simp) (by omega)
theorem stat_15 (w0 : World) (p : Nat) (hE : Env w0) (n : Nd) (hk : Hid (n.k = 15)) : LOk 84 (okC 3) shw w0 p n := by
 intro cs w ws hr hst hb
 obtain ⟨A, c, rfl, hR, hcap, hlm, hn64, hts⟩ := hr.four
 have HR := Lib.hid hR
 have hmany := many_eq n
 clear hr hR
 obtain ⟨ok, HK⟩ : ∃ b, Hid (okC 3 n = b) := ⟨_, rfl⟩
 rw [HK.out]
 obtain ⟨nw, HW⟩ : ∃ b, Hid (shw n = b) := ⟨_, rfl⟩
 rw [HW.out]
 generalize hgm : 10 * many n - 3 = gm
 have hgm2 : 10 * manyL n.kids + 7 = gm := by omega
 have HGM := Lib.hid hgm
 clear hgm
 obtain ⟨rest, HRR⟩ : ∃ b, Hid (isNL n.k 0 n.kids.length n.kids = b) := ⟨_, rfl⟩
 obtain ⟨sc, HSC⟩ : ∃ b, Hid (setC n.kids = b) := ⟨_, rfl⟩
 have HOK : Hid (ok = (plainB n false false 2 2 && sc && rest)) := by
  show _ = _
  rw [← HK.out, okC_of (by rw [hk.out]; rfl), isN_set hk.out, HRR.out, HSC.out]
 have b14 : (n.k == 14) = false := by rw [hk.out]; rfl
 have b15 : (n.k == 15) = true := by rw [hk.out]; rfl
 have b16 : (n.k == 16) = false := by rw [hk.out]; rfl
 have b17 : (n.k == 17) = false := by rw [hk.out]; rfl
 have b18 : (n.k == 18) = false := by rw [hk.out]; rfl
 have b19 : (n.k == 19) = false := by rw [hk.out]; rfl
 have b20 : (n.k == 20) = false := by rw [hk.out]; rfl
 have X0 := Lib.hid (Bx.start n A c hst)
 have hlw := hst.2.lt
 clear hst
 go_enter Tryz.func84, Tryz.ntmps84
 go_wp2_with fail
 refine (plain_any n _ _ _ _ _ _ _ (X0.out.st.env hE).ml).mono ?_
 rintro e w1 ⟨(⟨hq, rfl⟩ | ⟨hq, rfl⟩), hb1⟩
 rotate_left
 ·have X1 := Lib.hid (X0.out.below hb1)
  have Q1 := Lib.hid hq
  clear hq hb1
  unfold noneE
  go_wp2
  exact ⟨rfl, NOut.no X1.out.st X1.out.pk (by rw [HOK.out, Q1.out] <;> simp) (by omega)⟩
 have X1 := Lib.hid (X0.out.below hb1)
 have Q1 := Lib.hid hq
 clear hq hb1
 have q0 := X1.out.blk.cell 0 (.int .i64 n.k) rfl
 have q1 := X1.out.blk.cell 1 (.string n.t) rfl
 have q2 := X1.out.blk.cell 2 (.int .i64 n.num) rfl
 have q3 := X1.out.blk.cell 3 (.slice A n.kids.length c) rfl
 obtain ⟨x, y, hkx⟩ := twoKids Q1.out
 obtain ⟨bb, oo, Ax, cx, hA0, hbl0, k0, k1, k2, k3, rx⟩ := first_kid HR.out (by rw [hkx]; rfl : n.kids[0]? = some x)
 obtain ⟨bb1, oo1, Ay, cy, hA1, hbl1, m0, m1, m2, m3, ry⟩ := first_kid HR.out (by rw [hkx]; rfl : n.kids[1]? = some y)
 obtain ⟨rfl, rfl⟩ : bb = bb1 ∧ oo = oo1 := by rw [hA0] at hA1; simpa using hA1
 clear hA1 hbl1
 have hbl := hbl0
 subst hA0
 have RX := Lib.hid rx
 have hposx := many_pos x
 have RY := Lib.hid ry
 have hposy := many_pos y
 have hml : many x + many y = manyL n.kids := by rw [hkx]; simp [manyL]
 have hlen : n.kids.length = 2 := by rw [hkx]; rfl
 have hjp0 : 0 < n.kids.length := by omega
 have hji0 : (0 : Int) < (n.kids.length : Int) := by omega
 have hjp1 : 1 < n.kids.length := by omega
 have hji1 : (1 : Int) < (n.kids.length : Int) := by omega
 clear hbl0 rx ry
 have HREST : Hid (rest = (okC 4 x && okC 4 y)) := by
  show _ = _
  rw [← HRR.out, hk.out, hkx]
  exact nl_ce 15 4 4 x y rfl rfl
 have HSCX : Hid (sc = ((baseN false x).k == 23)) := by
  show _ = _
  rw [← HSC.out, hkx]
  rfl
 have HKX := Lib.hid hkx
 have HLEN := Lib.hid hlen
 clear hkx hlen
 have HSH : Hid (nw = shw x ++ [⟨#[61]⟩] ++ shw y ++ [⟨#[59]⟩]) := by
  show _ = _
  rw [← HW.out, shw_eq, hk.out, HKX.out]
  rfl
 have bw := X1.out.st.1
 have z0 := (bw.cell (p := ⟨bb, oo + 0 * 4, none⟩) hbl).trans k0
 have z1 := (bw.cell (p := ⟨bb, oo + 0 * 4 + 1, none⟩) hbl).trans k1
 have z2 := (bw.cell (p := ⟨bb, oo + 0 * 4 + 2, none⟩) hbl).trans k2
 have z3 := (bw.cell (p := ⟨bb, oo + 0 * 4 + 3, none⟩) hbl).trans k3
 clear bw
 simp only [Nat.zero_mul, Nat.add_zero] at z0 z1 z2 z3
 rcases hp2 : ((baseN false x).k == 23) with _ | _
 ·have Q2 := Lib.hid hp2
  clear hp2
  go_wp2_with fail
  refine (place_any x _ _ false _ (RepN.kidsL RX.out X1.out.st.1)).mono ?_
  rintro e w2 ⟨rfl, hb2⟩
  rw [Q2.out]
  have X2 := Lib.hid (X1.out.below hb2)
  clear hb2 q0 q1 q2 q3 z0 z1 z2 z3
  go_wp2_with fail
  refine (must_no _).mono ?_
  rintro e w' ⟨rfl, rfl⟩
  go_wp2
  exact ⟨rfl, NOut.no X2.out.st X2.out.pk (by rw [HOK.out, Q1.out, HSCX.out, Q2.out] <;> simp) (by omega)⟩
 have Q2 := Lib.hid hp2
 clear hp2
 go_wp2_with fail
 refine (place_any x _ _ false _ (RepN.kidsL RX.out X1.out.st.1)).mono ?_
 rintro e w2 ⟨rfl, hb2⟩
 rw [Q2.out]
 have X2 := Lib.hid (X1.out.below hb2)
 clear hb2 q0 q1 q2 q3 z0 z1 z2 z3
 have q0 := X2.out.blk.cell 0 (.int .i64 n.k) rfl
 have q1 := X2.out.blk.cell 1 (.string n.t) rfl
 have q2 := X2.out.blk.cell 2 (.int .i64 n.num) rfl
 have q3 := X2.out.blk.cell 3 (.slice (some ⟨bb, oo, none⟩) n.kids.length c) rfl
 go_wp2_with fail
 refine (must_yes _).mono ?_
 rintro e w' ⟨rfl, rfl⟩
 have bw := X2.out.st.1
 have z0 := (bw.cell (p := ⟨bb, oo + 0 * 4, none⟩) hbl).trans k0
 have z1 := (bw.cell (p := ⟨bb, oo + 0 * 4 + 1, none⟩) hbl).trans k1
 have z2 := (bw.cell (p := ⟨bb, oo + 0 * 4 + 2, none⟩) hbl).trans k2
 have z3 := (bw.cell (p := ⟨bb, oo + 0 * 4 + 3, none⟩) hbl).trans k3
 clear bw
 simp only [Nat.zero_mul, Nat.add_zero] at z0 z1 z2 z3
 go_wp2_with fail
 refine (expr0_ok w0 p hE x _ _ _ RX.out X2.out.st (by omega)).mono ?_
 rintro e w3 ⟨ws3, h3, p3, L3, (⟨o3, rfl, e3⟩ | ⟨o3, rfl⟩)⟩
 rotate_left
 ·have X3 := Lib.hid (X2.out.step h3 p3)
  have Q3 := Lib.hid o3
  clear h3 p3 o3
  unfold noneE
  go_wp2
  exact ⟨rfl, NOut.no X3.out.st X3.out.pk (by rw [HOK.out, Q1.out, HSCX.out, Q2.out, HREST.out, Q3.out] <;> simp) (by omega)⟩
 have X3 := Lib.hid (X2.out.step h3 p3)
 have Q3 := Lib.hid o3
 have E3 := Lib.hid e3
 clear h3 p3 o3 e3 q0 q1 q2 q3 z0 z1 z2 z3
 have q0 := X3.out.blk.cell 0 (.int .i64 n.k) rfl
 have q1 := X3.out.blk.cell 1 (.string n.t) rfl
 have q2 := X3.out.blk.cell 2 (.int .i64 n.num) rfl
 have q3 := X3.out.blk.cell 3 (.slice (some ⟨bb, oo, none⟩) n.kids.length c) rfl
 go_wp2_with fail
 refine (psay1 _ X3.out.st (by omega)).mono ?_
 rintro e w4 ⟨rfl, h4, p4⟩
 obtain ⟨ws4, e4⟩ : ∃ l : List ByteArray, l = ws3 ++ [⟨#[61]⟩] := ⟨_, rfl⟩
 rw [← e4] at h4
 have L4 : ws4.length = ws3.length + 1 := by rw [e4]; simp
 have E4 := Lib.hid e4
 have X4 := Lib.hid (X3.out.step h4 p4)
 clear e4 h4 p4 q0 q1 q2 q3 
 have q0 := X4.out.blk.cell 0 (.int .i64 n.k) rfl
 have q1 := X4.out.blk.cell 1 (.string n.t) rfl
 have q2 := X4.out.blk.cell 2 (.int .i64 n.num) rfl
 have q3 := X4.out.blk.cell 3 (.slice (some ⟨bb, oo, none⟩) n.kids.length c) rfl
 have bw := X4.out.st.1
 have z0 := (bw.cell (p := ⟨bb, oo + 1 * 4, none⟩) hbl).trans m0
 have z1 := (bw.cell (p := ⟨bb, oo + 1 * 4 + 1, none⟩) hbl).trans m1
 have z2 := (bw.cell (p := ⟨bb, oo + 1 * 4 + 2, none⟩) hbl).trans m2
 have z3 := (bw.cell (p := ⟨bb, oo + 1 * 4 + 3, none⟩) hbl).trans m3
 clear bw
 simp only [Nat.one_mul] at z0 z1 z2 z3
 go_wp2_with fail
 refine (expr0_ok w0 p hE y _ _ _ RY.out X4.out.st (by omega)).mono ?_
 rintro e w5 ⟨ws5, h5, p5, L5, (⟨o5, rfl, e5⟩ | ⟨o5, rfl⟩)⟩
 rotate_left
 ·have X5 := Lib.hid (X4.out.step h5 p5)
  have Q5 := Lib.hid o5
  clear h5 p5 o5
  unfold noneE
  go_wp2
  exact ⟨rfl, NOut.no X5.out.st X5.out.pk (by rw [HOK.out, Q1.out, HSCX.out, Q2.out, HREST.out, Q3.out, Q5.out] <;> simp) (by omega)⟩
 have X5 := Lib.hid (X4.out.step h5 p5)
 have Q5 := Lib.hid o5
 have E5 := Lib.hid e5
 clear h5 p5 o5 e5 q0 q1 q2 q3 z0 z1 z2 z3
 have q0 := X5.out.blk.cell 0 (.int .i64 n.k) rfl
 have q1 := X5.out.blk.cell 1 (.string n.t) rfl
 have q2 := X5.out.blk.cell 2 (.int .i64 n.num) rfl
 have q3 := X5.out.blk.cell 3 (.slice (some ⟨bb, oo, none⟩) n.kids.length c) rfl
 go_wp2_with fail
 refine (psay1 _ X5.out.st (by omega)).mono ?_
 rintro e w6 ⟨rfl, h6, p6⟩
 obtain ⟨ws6, e6⟩ : ∃ l : List ByteArray, l = ws5 ++ [⟨#[59]⟩] := ⟨_, rfl⟩
 rw [← e6] at h6
 have L6 : ws6.length = ws5.length + 1 := by rw [e6]; simp
 have E6 := Lib.hid e6
 have X6 := Lib.hid (X5.out.step h6 p6)
 clear e6 h6 p6 q0 q1 q2 q3 
 have q0 := X6.out.blk.cell 0 (.int .i64 n.k) rfl
 have q1 := X6.out.blk.cell 1 (.string n.t) rfl
 have q2 := X6.out.blk.cell 2 (.int .i64 n.num) rfl
 have q3 := X6.out.blk.cell 3 (.slice (some ⟨bb, oo, none⟩) n.kids.length c) rfl
 go_wp2
 go_end0
 exact NOut.yes2 X6.out.st X6.out.pk (by rw [HOK.out, Q1.out, HSCX.out, Q2.out, HREST.out, Q3.out, Q5.out] <;> simp) (by rw [E6.out, E5.out, E4.out, E3.out, HSH.out]; simp) (by omega)
theorem stat_18 (w0 : World) (p : Nat) (hE : Env w0) (n : Nd) (hk : Hid (n.k = 18)) : LOk 84 (okC 3) shw w0 p n := by
 intro cs w ws hr hst hb
 obtain ⟨A, c, rfl, hR, hcap, hlm, hn64, hts⟩ := hr.four
 have HR := Lib.hid hR
 have hmany := many_eq n
 clear hr hR
 obtain ⟨ok, HK⟩ : ∃ b, Hid (okC 3 n = b) := ⟨_, rfl⟩
 rw [HK.out]
 obtain ⟨nw, HW⟩ : ∃ b, Hid (shw n = b) := ⟨_, rfl⟩
 rw [HW.out]
 generalize hgm : 10 * many n - 3 = gm
 have hgm2 : 10 * manyL n.kids + 7 = gm := by omega
 have HGM := Lib.hid hgm
 clear hgm
 obtain ⟨rest, HRR⟩ : ∃ b, Hid (isNL n.k 0 n.kids.length n.kids = b) := ⟨_, rfl⟩
 have HOK : Hid (ok = (plainB n false false 1 1 && rest)) := by
  show _ = _
  rw [← HK.out, okC_of (by rw [hk.out]; rfl), isN_p0 (text := false) (least := 1) (most := 1) (by rw [hk.out]; rfl) (by rw [hk.out]; decide) (by rw [hk.out]; decide) (by rw [hk.out]; decide) (by rw [hk.out]; decide), HRR.out]
  rfl
 have b14 : (n.k == 14) = false := by rw [hk.out]; rfl
 have b15 : (n.k == 15) = false := by rw [hk.out]; rfl
 have b16 : (n.k == 16) = false := by rw [hk.out]; rfl
 have b17 : (n.k == 17) = false := by rw [hk.out]; rfl
 have b18 : (n.k == 18) = true := by rw [hk.out]; rfl
 have b19 : (n.k == 19) = false := by rw [hk.out]; rfl
 have b20 : (n.k == 20) = false := by rw [hk.out]; rfl
 have X0 := Lib.hid (Bx.start n A c hst)
 have hlw := hst.2.lt
 clear hst
 go_enter Tryz.func84, Tryz.ntmps84
 go_wp2_with fail
 refine (plain_any n _ _ _ _ _ _ _ (X0.out.st.env hE).ml).mono ?_
 rintro e w1 ⟨(⟨hq, rfl⟩ | ⟨hq, rfl⟩), hb1⟩
 rotate_left
 ·have X1 := Lib.hid (X0.out.below hb1)
  have Q1 := Lib.hid hq
  clear hq hb1
  unfold noneE
  go_wp2
  exact ⟨rfl, NOut.no X1.out.st X1.out.pk (by rw [HOK.out, Q1.out] <;> simp) (by omega)⟩
 have X1 := Lib.hid (X0.out.below hb1)
 have Q1 := Lib.hid hq
 clear hq hb1
 have q0 := X1.out.blk.cell 0 (.int .i64 n.k) rfl
 have q1 := X1.out.blk.cell 1 (.string n.t) rfl
 have q2 := X1.out.blk.cell 2 (.int .i64 n.num) rfl
 have q3 := X1.out.blk.cell 3 (.slice A n.kids.length c) rfl
 obtain ⟨x, hkx⟩ := oneKid Q1.out
 obtain ⟨bb, oo, Ax, cx, hA, hbl, k0, k1, k2, k3, rx⟩ := first_kid HR.out (by rw [hkx]; rfl : n.kids[0]? = some x)
 subst hA
 have RX := Lib.hid rx
 have hml : many x = manyL n.kids := by rw [hkx, manyL_one]
 have hposx := many_pos x
 have hlen : n.kids.length = 1 := by rw [hkx]; rfl
 have hjp : 0 < n.kids.length := by omega
 have HKX := Lib.hid hkx
 have HLEN := Lib.hid hlen
 clear rx hkx hlen
 have HREST : Hid (rest = okC 4 x) := by
  show _ = _
  rw [← HRR.out, hk.out, HKX.out]
  exact nl_c 18 4 x rfl
 have HSH : Hid (nw = ⟨#[114, 101, 116, 117, 114, 110]⟩ :: (shw x ++ [⟨#[59]⟩])) := by
  show _ = _
  rw [← HW.out, shw_eq, hk.out, HKX.out]
  rfl
 go_wp2_with fail
 refine (psay1 _ X1.out.st (by omega)).mono ?_
 rintro e w2 ⟨rfl, h2, p2⟩
 obtain ⟨ws2, e2⟩ : ∃ l : List ByteArray, l = ws ++ [⟨#[114, 101, 116, 117, 114, 110]⟩] := ⟨_, rfl⟩
 rw [← e2] at h2
 have L2 : ws2.length = ws.length + 1 := by rw [e2]; simp
 have E2 := Lib.hid e2
 have X2 := Lib.hid (X1.out.step h2 p2)
 clear e2 h2 p2 q0 q1 q2 q3 
 have q0 := X2.out.blk.cell 0 (.int .i64 n.k) rfl
 have q1 := X2.out.blk.cell 1 (.string n.t) rfl
 have q2 := X2.out.blk.cell 2 (.int .i64 n.num) rfl
 have q3 := X2.out.blk.cell 3 (.slice (some ⟨bb, oo, none⟩) n.kids.length c) rfl
 have bw := X2.out.st.1
 have z0 := (bw.cell (p := ⟨bb, oo + 0 * 4, none⟩) hbl).trans k0
 have z1 := (bw.cell (p := ⟨bb, oo + 0 * 4 + 1, none⟩) hbl).trans k1
 have z2 := (bw.cell (p := ⟨bb, oo + 0 * 4 + 2, none⟩) hbl).trans k2
 have z3 := (bw.cell (p := ⟨bb, oo + 0 * 4 + 3, none⟩) hbl).trans k3
 clear bw
 simp only [Nat.zero_mul, Nat.add_zero] at z0 z1 z2 z3
 go_wp2_with fail
 refine (expr0_ok w0 p hE x _ _ _ RX.out X2.out.st (by omega)).mono ?_
 rintro e w3 ⟨ws3, h3, p3, L3, (⟨o3, rfl, e3⟩ | ⟨o3, rfl⟩)⟩
 rotate_left
 ·have X3 := Lib.hid (X2.out.step h3 p3)
  have Q3 := Lib.hid o3
  clear h3 p3 o3
  unfold noneE
  go_wp2
  exact ⟨rfl, NOut.no X3.out.st X3.out.pk (by rw [HOK.out, Q1.out, HREST.out, Q3.out] <;> simp) (by omega)⟩
 have X3 := Lib.hid (X2.out.step h3 p3)
 have Q3 := Lib.hid o3
 have E3 := Lib.hid e3
 clear h3 p3 o3 e3 q0 q1 q2 q3 z0 z1 z2 z3
 have q0 := X3.out.blk.cell 0 (.int .i64 n.k) rfl
 have q1 := X3.out.blk.cell 1 (.string n.t) rfl
 have q2 := X3.out.blk.cell 2 (.int .i64 n.num) rfl
 have q3 := X3.out.blk.cell 3 (.slice (some ⟨bb, oo, none⟩) n.kids.length c) rfl
 go_wp2_with fail
 refine (psay1 _ X3.out.st (by omega)).mono ?_
 rintro e w4 ⟨rfl, h4, p4⟩
 obtain ⟨ws4, e4⟩ : ∃ l : List ByteArray, l = ws3 ++ [⟨#[59]⟩] := ⟨_, rfl⟩
 rw [← e4] at h4
 have L4 : ws4.length = ws3.length + 1 := by rw [e4]; simp
 have E4 := Lib.hid e4
 have X4 := Lib.hid (X3.out.step h4 p4)
 clear e4 h4 p4 q0 q1 q2 q3 
 have q0 := X4.out.blk.cell 0 (.int .i64 n.k) rfl
 have q1 := X4.out.blk.cell 1 (.string n.t) rfl
 have q2 := X4.out.blk.cell 2 (.int .i64 n.num) rfl
 have q3 := X4.out.blk.cell 3 (.slice (some ⟨bb, oo, none⟩) n.kids.length c) rfl
 go_wp2
 go_end0
 exact NOut.yes2 X4.out.st X4.out.pk (by rw [HOK.out, Q1.out, HREST.out, Q3.out] <;> simp) (by rw [E4.out, E3.out, E2.out, HSH.out]; simp) (by omega)
theorem stat_19 (w0 : World) (p : Nat) (hE : Env w0) (n : Nd) (hk : Hid (n.k = 19)) : LOk 84 (okC 3) shw w0 p n := by
 intro cs w ws hr hst hb
 obtain ⟨A, c, rfl, hR, hcap, hlm, hn64, hts⟩ := hr.four
 have HR := Lib.hid hR
 have hmany := many_eq n
 clear hr hR
 obtain ⟨ok, HK⟩ : ∃ b, Hid (okC 3 n = b) := ⟨_, rfl⟩
 rw [HK.out]
 obtain ⟨nw, HW⟩ : ∃ b, Hid (shw n = b) := ⟨_, rfl⟩
 rw [HW.out]
 generalize hgm : 10 * many n - 3 = gm
 have hgm2 : 10 * manyL n.kids + 7 = gm := by omega
 have HGM := Lib.hid hgm
 clear hgm
 obtain ⟨rest, HRR⟩ : ∃ b, Hid (isNL n.k 0 n.kids.length n.kids = b) := ⟨_, rfl⟩
 have HOK : Hid (ok = (plainB n false false 1 1 && rest)) := by
  show _ = _
  rw [← HK.out, okC_of (by rw [hk.out]; rfl), isN_p0 (text := false) (least := 1) (most := 1) (by rw [hk.out]; rfl) (by rw [hk.out]; decide) (by rw [hk.out]; decide) (by rw [hk.out]; decide) (by rw [hk.out]; decide), HRR.out]
  rfl
 have b14 : (n.k == 14) = false := by rw [hk.out]; rfl
 have b15 : (n.k == 15) = false := by rw [hk.out]; rfl
 have b16 : (n.k == 16) = false := by rw [hk.out]; rfl
 have b17 : (n.k == 17) = false := by rw [hk.out]; rfl
 have b18 : (n.k == 18) = false := by rw [hk.out]; rfl
 have b19 : (n.k == 19) = true := by rw [hk.out]; rfl
 have b20 : (n.k == 20) = false := by rw [hk.out]; rfl
 have X0 := Lib.hid (Bx.start n A c hst)
 have hlw := hst.2.lt
 clear hst
 go_enter Tryz.func84, Tryz.ntmps84
 go_wp2_with fail
 refine (plain_any n _ _ _ _ _ _ _ (X0.out.st.env hE).ml).mono ?_
 rintro e w1 ⟨(⟨hq, rfl⟩ | ⟨hq, rfl⟩), hb1⟩
 rotate_left
 ·have X1 := Lib.hid (X0.out.below hb1)
  have Q1 := Lib.hid hq
  clear hq hb1
  unfold noneE
  go_wp2
  exact ⟨rfl, NOut.no X1.out.st X1.out.pk (by rw [HOK.out, Q1.out] <;> simp) (by omega)⟩
 have X1 := Lib.hid (X0.out.below hb1)
 have Q1 := Lib.hid hq
 clear hq hb1
 have q0 := X1.out.blk.cell 0 (.int .i64 n.k) rfl
 have q1 := X1.out.blk.cell 1 (.string n.t) rfl
 have q2 := X1.out.blk.cell 2 (.int .i64 n.num) rfl
 have q3 := X1.out.blk.cell 3 (.slice A n.kids.length c) rfl
 obtain ⟨x, hkx⟩ := oneKid Q1.out
 obtain ⟨bb, oo, Ax, cx, hA, hbl, k0, k1, k2, k3, rx⟩ := first_kid HR.out (by rw [hkx]; rfl : n.kids[0]? = some x)
 subst hA
 have RX := Lib.hid rx
 have hml : many x = manyL n.kids := by rw [hkx, manyL_one]
 have hposx := many_pos x
 have hlen : n.kids.length = 1 := by rw [hkx]; rfl
 have hjp : 0 < n.kids.length := by omega
 have HKX := Lib.hid hkx
 have HLEN := Lib.hid hlen
 clear rx hkx hlen
 have HREST : Hid (rest = okC 4 x) := by
  show _ = _
  rw [← HRR.out, hk.out, HKX.out]
  exact nl_c 19 4 x rfl
 have HSH : Hid (nw = [⟨#[112, 117, 116]⟩, ⟨#[40]⟩] ++ shw x ++ [⟨#[41]⟩, ⟨#[59]⟩]) := by
  show _ = _
  rw [← HW.out, shw_eq, hk.out, HKX.out]
  rfl
 go_wp2_with fail
 refine (psay2 _ _ X1.out.st (by omega)).mono ?_
 rintro e w2 ⟨rfl, h2, p2⟩
 obtain ⟨ws2, e2⟩ : ∃ l : List ByteArray, l = ws ++ [⟨#[112, 117, 116]⟩, ⟨#[40]⟩] := ⟨_, rfl⟩
 rw [← e2] at h2
 have L2 : ws2.length = ws.length + 2 := by rw [e2]; simp
 have E2 := Lib.hid e2
 have X2 := Lib.hid (X1.out.step h2 p2)
 clear e2 h2 p2 q0 q1 q2 q3 
 have q0 := X2.out.blk.cell 0 (.int .i64 n.k) rfl
 have q1 := X2.out.blk.cell 1 (.string n.t) rfl
 have q2 := X2.out.blk.cell 2 (.int .i64 n.num) rfl
 have q3 := X2.out.blk.cell 3 (.slice (some ⟨bb, oo, none⟩) n.kids.length c) rfl
 have bw := X2.out.st.1
 have z0 := (bw.cell (p := ⟨bb, oo + 0 * 4, none⟩) hbl).trans k0
 have z1 := (bw.cell (p := ⟨bb, oo + 0 * 4 + 1, none⟩) hbl).trans k1
 have z2 := (bw.cell (p := ⟨bb, oo + 0 * 4 + 2, none⟩) hbl).trans k2
 have z3 := (bw.cell (p := ⟨bb, oo + 0 * 4 + 3, none⟩) hbl).trans k3
 clear bw
 simp only [Nat.zero_mul, Nat.add_zero] at z0 z1 z2 z3
 go_wp2_with fail
 refine (expr0_ok w0 p hE x _ _ _ RX.out X2.out.st (by omega)).mono ?_
 rintro e w3 ⟨ws3, h3, p3, L3, (⟨o3, rfl, e3⟩ | ⟨o3, rfl⟩)⟩
 rotate_left
 ·have X3 := Lib.hid (X2.out.step h3 p3)
  have Q3 := Lib.hid o3
  clear h3 p3 o3
  unfold noneE
  go_wp2
  exact ⟨rfl, NOut.no X3.out.st X3.out.pk (by rw [HOK.out, Q1.out, HREST.out, Q3.out] <;> simp) (by omega)⟩
 have X3 := Lib.hid (X2.out.step h3 p3)
 have Q3 := Lib.hid o3
 have E3 := Lib.hid e3
 clear h3 p3 o3 e3 q0 q1 q2 q3 z0 z1 z2 z3
 have q0 := X3.out.blk.cell 0 (.int .i64 n.k) rfl
 have q1 := X3.out.blk.cell 1 (.string n.t) rfl
 have q2 := X3.out.blk.cell 2 (.int .i64 n.num) rfl
 have q3 := X3.out.blk.cell 3 (.slice (some ⟨bb, oo, none⟩) n.kids.length c) rfl
 go_wp2_with fail
 refine (psay1 _ X3.out.st (by omega)).mono ?_
 rintro e w4 ⟨rfl, h4, p4⟩
 obtain ⟨ws4, e4⟩ : ∃ l : List ByteArray, l = ws3 ++ [⟨#[41]⟩] := ⟨_, rfl⟩
 rw [← e4] at h4
 have L4 : ws4.length = ws3.length + 1 := by rw [e4]; simp
 have E4 := Lib.hid e4
 have X4 := Lib.hid (X3.out.step h4 p4)
 clear e4 h4 p4 q0 q1 q2 q3 
 have q0 := X4.out.blk.cell 0 (.int .i64 n.k) rfl
 have q1 := X4.out.blk.cell 1 (.string n.t) rfl
 have q2 := X4.out.blk.cell 2 (.int .i64 n.num) rfl
 have q3 := X4.out.blk.cell 3 (.slice (some ⟨bb, oo, none⟩) n.kids.length c) rfl
 go_wp2_with fail
 refine (psay1 _ X4.out.st (by omega)).mono ?_
 rintro e w5 ⟨rfl, h5, p5⟩
 obtain ⟨ws5, e5⟩ : ∃ l : List ByteArray, l = ws4 ++ [⟨#[59]⟩] := ⟨_, rfl⟩
 rw [← e5] at h5
 have L5 : ws5.length = ws4.length + 1 := by rw [e5]; simp
 have E5 := Lib.hid e5
 have X5 := Lib.hid (X4.out.step h5 p5)
 clear e5 h5 p5 q0 q1 q2 q3 
 have q0 := X5.out.blk.cell 0 (.int .i64 n.k) rfl
 have q1 := X5.out.blk.cell 1 (.string n.t) rfl
 have q2 := X5.out.blk.cell 2 (.int .i64 n.num) rfl
 have q3 := X5.out.blk.cell 3 (.slice (some ⟨bb, oo, none⟩) n.kids.length c) rfl
 go_wp2
 go_end0
 exact NOut.yes2 X5.out.st X5.out.pk (by rw [HOK.out, Q1.out, HREST.out, Q3.out] <;> simp) (by rw [E5.out, E4.out, E3.out, E2.out, HSH.out]; simp) (by omega)
theorem stat_20 (w0 : World) (p : Nat) (hE : Env w0) (n : Nd) (hk : Hid (n.k = 20)) : LOk 84 (okC 3) shw w0 p n := by
 intro cs w ws hr hst hb
 obtain ⟨A, c, rfl, hR, hcap, hlm, hn64, hts⟩ := hr.four
 have HR := Lib.hid hR
 have hmany := many_eq n
 clear hr hR
 obtain ⟨ok, HK⟩ : ∃ b, Hid (okC 3 n = b) := ⟨_, rfl⟩
 rw [HK.out]
 obtain ⟨nw, HW⟩ : ∃ b, Hid (shw n = b) := ⟨_, rfl⟩
 rw [HW.out]
 generalize hgm : 10 * many n - 3 = gm
 have hgm2 : 10 * manyL n.kids + 7 = gm := by omega
 have HGM := Lib.hid hgm
 clear hgm
 obtain ⟨rest, HRR⟩ : ∃ b, Hid (isNL n.k 0 n.kids.length n.kids = b) := ⟨_, rfl⟩
 obtain ⟨sc, HSC⟩ : ∃ b, Hid (doC n.kids = b) := ⟨_, rfl⟩
 have HOK : Hid (ok = (plainB n false false 1 1 && sc && rest)) := by
  show _ = _
  rw [← HK.out, okC_of (by rw [hk.out]; rfl), isN_do hk.out, HRR.out, HSC.out]
 have b14 : (n.k == 14) = false := by rw [hk.out]; rfl
 have b15 : (n.k == 15) = false := by rw [hk.out]; rfl
 have b16 : (n.k == 16) = false := by rw [hk.out]; rfl
 have b17 : (n.k == 17) = false := by rw [hk.out]; rfl
 have b18 : (n.k == 18) = false := by rw [hk.out]; rfl
 have b19 : (n.k == 19) = false := by rw [hk.out]; rfl
 have b20 : (n.k == 20) = true := by rw [hk.out]; rfl
 have X0 := Lib.hid (Bx.start n A c hst)
 have hlw := hst.2.lt
 clear hst
 go_enter Tryz.func84, Tryz.ntmps84
 go_wp2_with fail
 refine (must_yes _).mono ?_
 rintro e w' ⟨rfl, rfl⟩
 go_wp2_with fail
 refine (plain_any n _ _ _ _ _ _ _ (X0.out.st.env hE).ml).mono ?_
 rintro e w1 ⟨(⟨hq, rfl⟩ | ⟨hq, rfl⟩), hb1⟩
 rotate_left
 ·have X1 := Lib.hid (X0.out.below hb1)
  have Q1 := Lib.hid hq
  clear hq hb1
  unfold noneE
  go_wp2
  exact ⟨rfl, NOut.no X1.out.st X1.out.pk (by rw [HOK.out, Q1.out] <;> simp) (by omega)⟩
 have X1 := Lib.hid (X0.out.below hb1)
 have Q1 := Lib.hid hq
 clear hq hb1
 have q0 := X1.out.blk.cell 0 (.int .i64 n.k) rfl
 have q1 := X1.out.blk.cell 1 (.string n.t) rfl
 have q2 := X1.out.blk.cell 2 (.int .i64 n.num) rfl
 have q3 := X1.out.blk.cell 3 (.slice A n.kids.length c) rfl
 obtain ⟨x, hkx⟩ := oneKid Q1.out
 obtain ⟨bb, oo, Ax, cx, hA, hbl, k0, k1, k2, k3, rx⟩ := first_kid HR.out (by rw [hkx]; rfl : n.kids[0]? = some x)
 subst hA
 have RX := Lib.hid rx
 have hml : many x = manyL n.kids := by rw [hkx, manyL_one]
 have hposx := many_pos x
 have hlen : n.kids.length = 1 := by rw [hkx]; rfl
 have hjp : 0 < n.kids.length := by omega
 have HKX := Lib.hid hkx
 have HLEN := Lib.hid hlen
 clear rx hkx hlen
 have HREST : Hid (rest = okC 4 x) := by
  show _ = _
  rw [← HRR.out, hk.out, HKX.out]
  exact nl_c 20 4 x rfl
 have HSCX : Hid (sc = (x.k == 25 && (baseN true x).k == 23)) := by
  show _ = _
  rw [← HSC.out, HKX.out]
  rfl
 have HSH : Hid (nw = shw x ++ [⟨#[59]⟩]) := by
  show _ = _
  rw [← HW.out, shw_eq, hk.out, HKX.out]
  rfl
 have bw := X1.out.st.1
 have z0 := (bw.cell (p := ⟨bb, oo + 0 * 4, none⟩) hbl).trans k0
 have z1 := (bw.cell (p := ⟨bb, oo + 0 * 4 + 1, none⟩) hbl).trans k1
 have z2 := (bw.cell (p := ⟨bb, oo + 0 * 4 + 2, none⟩) hbl).trans k2
 have z3 := (bw.cell (p := ⟨bb, oo + 0 * 4 + 3, none⟩) hbl).trans k3
 clear bw
 simp only [Nat.zero_mul, Nat.add_zero] at z0 z1 z2 z3
 rcases b25 : (x.k == 25) with _ | _
 ·have QB := Lib.hid b25
  go_wp2_with fail
  refine (must_no _).mono ?_
  rintro e w' ⟨rfl, rfl⟩
  go_wp2
  exact ⟨rfl, NOut.no X1.out.st X1.out.pk (by rw [HOK.out, Q1.out, HSCX.out, QB.out] <;> simp) (by omega)⟩
 have QB := Lib.hid b25
 clear z0 z1 z2 z3
 have bw := X1.out.st.1
 have z0 := (bw.cell (p := ⟨bb, oo + 0 * 4, none⟩) hbl).trans k0
 have z1 := (bw.cell (p := ⟨bb, oo + 0 * 4 + 1, none⟩) hbl).trans k1
 have z2 := (bw.cell (p := ⟨bb, oo + 0 * 4 + 2, none⟩) hbl).trans k2
 have z3 := (bw.cell (p := ⟨bb, oo + 0 * 4 + 3, none⟩) hbl).trans k3
 clear bw
 simp only [Nat.zero_mul, Nat.add_zero] at z0 z1 z2 z3
 rcases hp2 : ((baseN true x).k == 23) with _ | _
 ·have Q2 := Lib.hid hp2
  clear hp2
  go_wp2_with fail
  refine (place_any x _ _ true _ (RepN.kidsL RX.out X1.out.st.1)).mono ?_
  rintro e w2 ⟨rfl, hb2⟩
  rw [Q2.out]
  have X2 := Lib.hid (X1.out.below hb2)
  clear hb2 q0 q1 q2 q3 z0 z1 z2 z3
  go_wp2_with fail
  refine (must_no _).mono ?_
  rintro e w' ⟨rfl, rfl⟩
  go_wp2
  exact ⟨rfl, NOut.no X2.out.st X2.out.pk (by rw [HOK.out, Q1.out, HSCX.out, QB.out, Q2.out] <;> simp) (by omega)⟩
 have Q2 := Lib.hid hp2
 clear hp2
 go_wp2_with fail
 refine (place_any x _ _ true _ (RepN.kidsL RX.out X1.out.st.1)).mono ?_
 rintro e w2 ⟨rfl, hb2⟩
 rw [Q2.out]
 have X2 := Lib.hid (X1.out.below hb2)
 clear hb2 q0 q1 q2 q3 z0 z1 z2 z3
 have q0 := X2.out.blk.cell 0 (.int .i64 n.k) rfl
 have q1 := X2.out.blk.cell 1 (.string n.t) rfl
 have q2 := X2.out.blk.cell 2 (.int .i64 n.num) rfl
 have q3 := X2.out.blk.cell 3 (.slice (some ⟨bb, oo, none⟩) n.kids.length c) rfl
 go_wp2_with fail
 refine (must_yes _).mono ?_
 rintro e w' ⟨rfl, rfl⟩
 clear b25
 have bw := X2.out.st.1
 have z0 := (bw.cell (p := ⟨bb, oo + 0 * 4, none⟩) hbl).trans k0
 have z1 := (bw.cell (p := ⟨bb, oo + 0 * 4 + 1, none⟩) hbl).trans k1
 have z2 := (bw.cell (p := ⟨bb, oo + 0 * 4 + 2, none⟩) hbl).trans k2
 have z3 := (bw.cell (p := ⟨bb, oo + 0 * 4 + 3, none⟩) hbl).trans k3
 clear bw
 simp only [Nat.zero_mul, Nat.add_zero] at z0 z1 z2 z3
 go_wp2_with fail
 refine (expr0_ok w0 p hE x _ _ _ RX.out X2.out.st (by omega)).mono ?_
 rintro e w3 ⟨ws3, h3, p3, L3, (⟨o3, rfl, e3⟩ | ⟨o3, rfl⟩)⟩
 rotate_left
 ·have X3 := Lib.hid (X2.out.step h3 p3)
  have Q3 := Lib.hid o3
  clear h3 p3 o3
  unfold noneE
  go_wp2
  exact ⟨rfl, NOut.no X3.out.st X3.out.pk (by rw [HOK.out, Q1.out, HSCX.out, QB.out, Q2.out, HREST.out, Q3.out] <;> simp) (by omega)⟩
 have X3 := Lib.hid (X2.out.step h3 p3)
 have Q3 := Lib.hid o3
 have E3 := Lib.hid e3
 clear h3 p3 o3 e3 q0 q1 q2 q3 z0 z1 z2 z3
 have q0 := X3.out.blk.cell 0 (.int .i64 n.k) rfl
 have q1 := X3.out.blk.cell 1 (.string n.t) rfl
 have q2 := X3.out.blk.cell 2 (.int .i64 n.num) rfl
 have q3 := X3.out.blk.cell 3 (.slice (some ⟨bb, oo, none⟩) n.kids.length c) rfl
 go_wp2_with fail
 refine (psay1 _ X3.out.st (by omega)).mono ?_
 rintro e w4 ⟨rfl, h4, p4⟩
 obtain ⟨ws4, e4⟩ : ∃ l : List ByteArray, l = ws3 ++ [⟨#[59]⟩] := ⟨_, rfl⟩
 rw [← e4] at h4
 have L4 : ws4.length = ws3.length + 1 := by rw [e4]; simp
 have E4 := Lib.hid e4
 have X4 := Lib.hid (X3.out.step h4 p4)
 clear e4 h4 p4 q0 q1 q2 q3 
 have q0 := X4.out.blk.cell 0 (.int .i64 n.k) rfl
 have q1 := X4.out.blk.cell 1 (.string n.t) rfl
 have q2 := X4.out.blk.cell 2 (.int .i64 n.num) rfl
 have q3 := X4.out.blk.cell 3 (.slice (some ⟨bb, oo, none⟩) n.kids.length c) rfl
 go_wp2
 go_end0
 exact NOut.yes2 X4.out.st X4.out.pk (by rw [HOK.out, Q1.out, HSCX.out, QB.out, Q2.out, HREST.out, Q3.out] <;> simp) (by rw [E4.out, E3.out, HSH.out]; simp) (by omega)
theorem stat_17 (w0 : World) (p : Nat) (hE : Env w0) (n : Nd) (hk : Hid (n.k = 17)) (IH : ∀ m ∈ n.kids, LOk 57 (okP 13) shw w0 p m) : LOk 84 (okC 3) shw w0 p n := by
 intro cs w ws hr hst hb
 obtain ⟨A, c, rfl, hR, hcap, hlm, hn64, hts⟩ := hr.four
 have HR := Lib.hid hR
 have hmany := many_eq n
 clear hr hR
 obtain ⟨ok, HK⟩ : ∃ b, Hid (okC 3 n = b) := ⟨_, rfl⟩
 rw [HK.out]
 obtain ⟨nw, HW⟩ : ∃ b, Hid (shw n = b) := ⟨_, rfl⟩
 rw [HW.out]
 generalize hgm : 10 * many n - 3 = gm
 have hgm2 : 10 * manyL n.kids + 7 = gm := by omega
 have HGM := Lib.hid hgm
 clear hgm
 obtain ⟨rest, HRR⟩ : ∃ b, Hid (isNL n.k 0 n.kids.length n.kids = b) := ⟨_, rfl⟩
 have HOK : Hid (ok = (plainB n false false 2 2 && rest)) := by
  show _ = _
  rw [← HK.out, okC_of (by rw [hk.out]; rfl), isN_p0 (text := false) (least := 2) (most := 2) (by rw [hk.out]; rfl) (by rw [hk.out]; decide) (by rw [hk.out]; decide) (by rw [hk.out]; decide) (by rw [hk.out]; decide), HRR.out]
  rfl
 have b14 : (n.k == 14) = false := by rw [hk.out]; rfl
 have b15 : (n.k == 15) = false := by rw [hk.out]; rfl
 have b16 : (n.k == 16) = false := by rw [hk.out]; rfl
 have b17 : (n.k == 17) = true := by rw [hk.out]; rfl
 have b18 : (n.k == 18) = false := by rw [hk.out]; rfl
 have b19 : (n.k == 19) = false := by rw [hk.out]; rfl
 have b20 : (n.k == 20) = false := by rw [hk.out]; rfl
 have X0 := Lib.hid (Bx.start n A c hst)
 have hlw := hst.2.lt
 clear hst
 go_enter Tryz.func84, Tryz.ntmps84
 go_wp2_with fail
 refine (plain_any n _ _ _ _ _ _ _ (X0.out.st.env hE).ml).mono ?_
 rintro e w1 ⟨(⟨hq, rfl⟩ | ⟨hq, rfl⟩), hb1⟩
 rotate_left
 ·have X1 := Lib.hid (X0.out.below hb1)
  have Q1 := Lib.hid hq
  clear hq hb1
  unfold noneE
  go_wp2
  exact ⟨rfl, NOut.no X1.out.st X1.out.pk (by rw [HOK.out, Q1.out] <;> simp) (by omega)⟩
 have X1 := Lib.hid (X0.out.below hb1)
 have Q1 := Lib.hid hq
 clear hq hb1
 have q0 := X1.out.blk.cell 0 (.int .i64 n.k) rfl
 have q1 := X1.out.blk.cell 1 (.string n.t) rfl
 have q2 := X1.out.blk.cell 2 (.int .i64 n.num) rfl
 have q3 := X1.out.blk.cell 3 (.slice A n.kids.length c) rfl
 obtain ⟨x, y, hkx⟩ := twoKids Q1.out
 skip
 obtain ⟨bb, oo, Ax, cx, hA0, hbl0, k0, k1, k2, k3, rx⟩ := first_kid HR.out (by rw [hkx]; rfl : n.kids[0]? = some x)
 obtain ⟨bb1, oo1, Ay, cy, hA1, hbl1, m0, m1, m2, m3, ry⟩ := first_kid HR.out (by rw [hkx]; rfl : n.kids[1]? = some y)
 obtain ⟨rfl, rfl⟩ : bb = bb1 ∧ oo = oo1 := by rw [hA0] at hA1; simpa using hA1
 clear hA1 hbl1
 have hbl := hbl0
 subst hA0
 have RX := Lib.hid rx
 have hposx := many_pos x
 have RY := Lib.hid ry
 have hposy := many_pos y
 have hml : many x + many y = manyL n.kids := by rw [hkx]; simp [manyL]
 have hlen : n.kids.length = 2 := by rw [hkx]; rfl
 have hjp0 : 0 < n.kids.length := by omega
 have hji0 : (0 : Int) < (n.kids.length : Int) := by omega
 have hjp1 : 1 < n.kids.length := by omega
 have hji1 : (1 : Int) < (n.kids.length : Int) := by omega
 clear hbl0 rx ry
 have IHBY := Lib.hid (IH y (by rw [hkx]; simp))
 clear IH
 have HREST : Hid (rest = (okC 4 x && okP 13 y)) := by
  show _ = _
  rw [← HRR.out, hk.out, hkx]
  exact nl_cp 17 4 13 rfl (by omega) x y rfl rfl
 have HKX := Lib.hid hkx
 have HLEN := Lib.hid hlen
 clear hkx hlen
 have HSH : Hid (nw = [⟨#[119, 104, 105, 108, 101]⟩, ⟨#[40]⟩] ++ shw x ++ [⟨#[41]⟩] ++ shw y) := by
  show _ = _
  rw [← HW.out, shw_eq, hk.out, HKX.out]
  simp [shwK, nthW]
 have dl3 : decide ((2 : Int) < (n.kids.length : Int)) = false := by rw [HLEN.out]; rfl
 have dl4 : ¬ (2 : Int) < (n.kids.length : Int) := by rw [HLEN.out]; decide
 go_wp2_with fail
 refine (psay2 _ _ X1.out.st (by omega)).mono ?_
 rintro e w2 ⟨rfl, h2, p2⟩
 obtain ⟨ws2, e2⟩ : ∃ l : List ByteArray, l = ws ++ [⟨#[119, 104, 105, 108, 101]⟩, ⟨#[40]⟩] := ⟨_, rfl⟩
 rw [← e2] at h2
 have L2 : ws2.length = ws.length + 2 := by rw [e2]; simp
 have E2 := Lib.hid e2
 have X2 := Lib.hid (X1.out.step h2 p2)
 clear e2 h2 p2 q0 q1 q2 q3 
 have q0 := X2.out.blk.cell 0 (.int .i64 n.k) rfl
 have q1 := X2.out.blk.cell 1 (.string n.t) rfl
 have q2 := X2.out.blk.cell 2 (.int .i64 n.num) rfl
 have q3 := X2.out.blk.cell 3 (.slice (some ⟨bb, oo, none⟩) n.kids.length c) rfl
 have bw := X2.out.st.1
 have z0 := (bw.cell (p := ⟨bb, oo + 0 * 4, none⟩) hbl).trans k0
 have z1 := (bw.cell (p := ⟨bb, oo + 0 * 4 + 1, none⟩) hbl).trans k1
 have z2 := (bw.cell (p := ⟨bb, oo + 0 * 4 + 2, none⟩) hbl).trans k2
 have z3 := (bw.cell (p := ⟨bb, oo + 0 * 4 + 3, none⟩) hbl).trans k3
 clear bw
 simp only [Nat.zero_mul, Nat.add_zero] at z0 z1 z2 z3
 go_wp2_with fail
 refine (expr0_ok w0 p hE x _ _ _ RX.out X2.out.st (by omega)).mono ?_
 rintro e w3 ⟨ws3, h3, p3, L3, (⟨o3, rfl, e3⟩ | ⟨o3, rfl⟩)⟩
 rotate_left
 ·have X3 := Lib.hid (X2.out.step h3 p3)
  have Q3 := Lib.hid o3
  clear h3 p3 o3
  unfold noneE
  go_wp2
  exact ⟨rfl, NOut.no X3.out.st X3.out.pk (by rw [HOK.out, Q1.out, HREST.out, Q3.out] <;> simp) (by omega)⟩
 have X3 := Lib.hid (X2.out.step h3 p3)
 have Q3 := Lib.hid o3
 have E3 := Lib.hid e3
 clear h3 p3 o3 e3 q0 q1 q2 q3 z0 z1 z2 z3
 have q0 := X3.out.blk.cell 0 (.int .i64 n.k) rfl
 have q1 := X3.out.blk.cell 1 (.string n.t) rfl
 have q2 := X3.out.blk.cell 2 (.int .i64 n.num) rfl
 have q3 := X3.out.blk.cell 3 (.slice (some ⟨bb, oo, none⟩) n.kids.length c) rfl
 go_wp2_with fail
 refine (psay1 _ X3.out.st (by omega)).mono ?_
 rintro e w4 ⟨rfl, h4, p4⟩
 obtain ⟨ws4, e4⟩ : ∃ l : List ByteArray, l = ws3 ++ [⟨#[41]⟩] := ⟨_, rfl⟩
 rw [← e4] at h4
 have L4 : ws4.length = ws3.length + 1 := by rw [e4]; simp
 have E4 := Lib.hid e4
 have X4 := Lib.hid (X3.out.step h4 p4)
 clear e4 h4 p4 q0 q1 q2 q3 
 have q0 := X4.out.blk.cell 0 (.int .i64 n.k) rfl
 have q1 := X4.out.blk.cell 1 (.string n.t) rfl
 have q2 := X4.out.blk.cell 2 (.int .i64 n.num) rfl
 have q3 := X4.out.blk.cell 3 (.slice (some ⟨bb, oo, none⟩) n.kids.length c) rfl
 have bw := X4.out.st.1
 have z0 := (bw.cell (p := ⟨bb, oo + 1 * 4, none⟩) hbl).trans m0
 have z1 := (bw.cell (p := ⟨bb, oo + 1 * 4 + 1, none⟩) hbl).trans m1
 have z2 := (bw.cell (p := ⟨bb, oo + 1 * 4 + 2, none⟩) hbl).trans m2
 have z3 := (bw.cell (p := ⟨bb, oo + 1 * 4 + 3, none⟩) hbl).trans m3
 clear bw
 simp only [Nat.one_mul] at z0 z1 z2 z3
 go_wp2_with fail
 refine (IHBY.out _ _ _ RY.out X4.out.st (by omega)).mono ?_
 rintro e w5 ⟨ws5, h5, p5, L5, (⟨o5, rfl, e5⟩ | ⟨o5, rfl⟩)⟩
 rotate_left
 ·have X5 := Lib.hid (X4.out.step h5 p5)
  have Q5 := Lib.hid o5
  clear h5 p5 o5
  unfold noneE
  go_wp2
  exact ⟨rfl, NOut.no X5.out.st X5.out.pk (by rw [HOK.out, Q1.out, HREST.out, Q3.out, Q5.out] <;> simp) (by omega)⟩
 have X5 := Lib.hid (X4.out.step h5 p5)
 have Q5 := Lib.hid o5
 have E5 := Lib.hid e5
 clear h5 p5 o5 e5 q0 q1 q2 q3 z0 z1 z2 z3
 have q0 := X5.out.blk.cell 0 (.int .i64 n.k) rfl
 have q1 := X5.out.blk.cell 1 (.string n.t) rfl
 have q2 := X5.out.blk.cell 2 (.int .i64 n.num) rfl
 have q3 := X5.out.blk.cell 3 (.slice (some ⟨bb, oo, none⟩) n.kids.length c) rfl
 go_wp2
 go_end0
 exact NOut.yes2 X5.out.st X5.out.pk (by rw [HOK.out, Q1.out, HREST.out, Q3.out, Q5.out] <;> simp) (by rw [E5.out, E4.out, E3.out, E2.out, HSH.out]; simp) (by omega)
theorem stat_16_2 (w0 : World) (p : Nat) (hE : Env w0) (n : Nd) (hk : Hid (n.k = 16)) (IH : ∀ m ∈ n.kids, LOk 57 (okP 13) shw w0 p m) (hlen2 : Hid (plainB n false false 2 3 = true → ∃ x y, n.kids = [x, y])) : LOk 84 (okC 3) shw w0 p n := by
 intro cs w ws hr hst hb
 obtain ⟨A, c, rfl, hR, hcap, hlm, hn64, hts⟩ := hr.four
 have HR := Lib.hid hR
 have hmany := many_eq n
 clear hr hR
 obtain ⟨ok, HK⟩ : ∃ b, Hid (okC 3 n = b) := ⟨_, rfl⟩
 rw [HK.out]
 obtain ⟨nw, HW⟩ : ∃ b, Hid (shw n = b) := ⟨_, rfl⟩
 rw [HW.out]
 generalize hgm : 10 * many n - 3 = gm
 have hgm2 : 10 * manyL n.kids + 7 = gm := by omega
 have HGM := Lib.hid hgm
 clear hgm
 obtain ⟨rest, HRR⟩ : ∃ b, Hid (isNL n.k 0 n.kids.length n.kids = b) := ⟨_, rfl⟩
 have HOK : Hid (ok = (plainB n false false 2 3 && rest)) := by
  show _ = _
  rw [← HK.out, okC_of (by rw [hk.out]; rfl), isN_p0 (text := false) (least := 2) (most := 3) (by rw [hk.out]; rfl) (by rw [hk.out]; decide) (by rw [hk.out]; decide) (by rw [hk.out]; decide) (by rw [hk.out]; decide), HRR.out]
  rfl
 have b14 : (n.k == 14) = false := by rw [hk.out]; rfl
 have b15 : (n.k == 15) = false := by rw [hk.out]; rfl
 have b16 : (n.k == 16) = true := by rw [hk.out]; rfl
 have b17 : (n.k == 17) = false := by rw [hk.out]; rfl
 have b18 : (n.k == 18) = false := by rw [hk.out]; rfl
 have b19 : (n.k == 19) = false := by rw [hk.out]; rfl
 have b20 : (n.k == 20) = false := by rw [hk.out]; rfl
 have X0 := Lib.hid (Bx.start n A c hst)
 have hlw := hst.2.lt
 clear hst
 go_enter Tryz.func84, Tryz.ntmps84
 go_wp2_with fail
 refine (plain_any n _ _ _ _ _ _ _ (X0.out.st.env hE).ml).mono ?_
 rintro e w1 ⟨(⟨hq, rfl⟩ | ⟨hq, rfl⟩), hb1⟩
 rotate_left
 ·have X1 := Lib.hid (X0.out.below hb1)
  have Q1 := Lib.hid hq
  clear hq hb1
  unfold noneE
  go_wp2
  exact ⟨rfl, NOut.no X1.out.st X1.out.pk (by rw [HOK.out, Q1.out] <;> simp) (by omega)⟩
 have X1 := Lib.hid (X0.out.below hb1)
 have Q1 := Lib.hid hq
 clear hq hb1
 have q0 := X1.out.blk.cell 0 (.int .i64 n.k) rfl
 have q1 := X1.out.blk.cell 1 (.string n.t) rfl
 have q2 := X1.out.blk.cell 2 (.int .i64 n.num) rfl
 have q3 := X1.out.blk.cell 3 (.slice A n.kids.length c) rfl
 obtain ⟨x, y, hkx⟩ := hlen2.out Q1.out
 skip
 obtain ⟨bb, oo, Ax, cx, hA0, hbl0, k0, k1, k2, k3, rx⟩ := first_kid HR.out (by rw [hkx]; rfl : n.kids[0]? = some x)
 obtain ⟨bb1, oo1, Ay, cy, hA1, hbl1, m0, m1, m2, m3, ry⟩ := first_kid HR.out (by rw [hkx]; rfl : n.kids[1]? = some y)
 obtain ⟨rfl, rfl⟩ : bb = bb1 ∧ oo = oo1 := by rw [hA0] at hA1; simpa using hA1
 clear hA1 hbl1
 have hbl := hbl0
 subst hA0
 have RX := Lib.hid rx
 have hposx := many_pos x
 have RY := Lib.hid ry
 have hposy := many_pos y
 have hml : many x + many y = manyL n.kids := by rw [hkx]; simp [manyL]
 have hlen : n.kids.length = 2 := by rw [hkx]; rfl
 have hjp0 : 0 < n.kids.length := by omega
 have hji0 : (0 : Int) < (n.kids.length : Int) := by omega
 have hjp1 : 1 < n.kids.length := by omega
 have hji1 : (1 : Int) < (n.kids.length : Int) := by omega
 clear hbl0 rx ry
 have IHBY := Lib.hid (IH y (by rw [hkx]; simp))
 clear IH
 have HREST : Hid (rest = (okC 4 x && okP 13 y)) := by
  show _ = _
  rw [← HRR.out, hk.out, hkx]
  exact nl_cp 16 4 13 rfl (by omega) x y rfl rfl
 have HKX := Lib.hid hkx
 have HLEN := Lib.hid hlen
 clear hkx hlen
 have HSH : Hid (nw = [⟨#[105, 102]⟩, ⟨#[40]⟩] ++ shw x ++ [⟨#[41]⟩] ++ shw y) := by
  show _ = _
  rw [← HW.out, shw_eq, hk.out, HKX.out]
  simp [shwK, nthW]
 have dl3 : decide ((2 : Int) < (n.kids.length : Int)) = false := by rw [HLEN.out]; rfl
 have dl4 : ¬ (2 : Int) < (n.kids.length : Int) := by rw [HLEN.out]; decide
 go_wp2_with fail
 refine (psay2 _ _ X1.out.st (by omega)).mono ?_
 rintro e w2 ⟨rfl, h2, p2⟩
 obtain ⟨ws2, e2⟩ : ∃ l : List ByteArray, l = ws ++ [⟨#[105, 102]⟩, ⟨#[40]⟩] := ⟨_, rfl⟩
 rw [← e2] at h2
 have L2 : ws2.length = ws.length + 2 := by rw [e2]; simp
 have E2 := Lib.hid e2
 have X2 := Lib.hid (X1.out.step h2 p2)
 clear e2 h2 p2 q0 q1 q2 q3 
 have q0 := X2.out.blk.cell 0 (.int .i64 n.k) rfl
 have q1 := X2.out.blk.cell 1 (.string n.t) rfl
 have q2 := X2.out.blk.cell 2 (.int .i64 n.num) rfl
 have q3 := X2.out.blk.cell 3 (.slice (some ⟨bb, oo, none⟩) n.kids.length c) rfl
 have bw := X2.out.st.1
 have z0 := (bw.cell (p := ⟨bb, oo + 0 * 4, none⟩) hbl).trans k0
 have z1 := (bw.cell (p := ⟨bb, oo + 0 * 4 + 1, none⟩) hbl).trans k1
 have z2 := (bw.cell (p := ⟨bb, oo + 0 * 4 + 2, none⟩) hbl).trans k2
 have z3 := (bw.cell (p := ⟨bb, oo + 0 * 4 + 3, none⟩) hbl).trans k3
 clear bw
 simp only [Nat.zero_mul, Nat.add_zero] at z0 z1 z2 z3
 go_wp2_with fail
 refine (expr0_ok w0 p hE x _ _ _ RX.out X2.out.st (by omega)).mono ?_
 rintro e w3 ⟨ws3, h3, p3, L3, (⟨o3, rfl, e3⟩ | ⟨o3, rfl⟩)⟩
 rotate_left
 ·have X3 := Lib.hid (X2.out.step h3 p3)
  have Q3 := Lib.hid o3
  clear h3 p3 o3
  unfold noneE
  go_wp2
  exact ⟨rfl, NOut.no X3.out.st X3.out.pk (by rw [HOK.out, Q1.out, HREST.out, Q3.out] <;> simp) (by omega)⟩
 have X3 := Lib.hid (X2.out.step h3 p3)
 have Q3 := Lib.hid o3
 have E3 := Lib.hid e3
 clear h3 p3 o3 e3 q0 q1 q2 q3 z0 z1 z2 z3
 have q0 := X3.out.blk.cell 0 (.int .i64 n.k) rfl
 have q1 := X3.out.blk.cell 1 (.string n.t) rfl
 have q2 := X3.out.blk.cell 2 (.int .i64 n.num) rfl
 have q3 := X3.out.blk.cell 3 (.slice (some ⟨bb, oo, none⟩) n.kids.length c) rfl
 go_wp2_with fail
 refine (psay1 _ X3.out.st (by omega)).mono ?_
 rintro e w4 ⟨rfl, h4, p4⟩
 obtain ⟨ws4, e4⟩ : ∃ l : List ByteArray, l = ws3 ++ [⟨#[41]⟩] := ⟨_, rfl⟩
 rw [← e4] at h4
 have L4 : ws4.length = ws3.length + 1 := by rw [e4]; simp
 have E4 := Lib.hid e4
 have X4 := Lib.hid (X3.out.step h4 p4)
 clear e4 h4 p4 q0 q1 q2 q3 
 have q0 := X4.out.blk.cell 0 (.int .i64 n.k) rfl
 have q1 := X4.out.blk.cell 1 (.string n.t) rfl
 have q2 := X4.out.blk.cell 2 (.int .i64 n.num) rfl
 have q3 := X4.out.blk.cell 3 (.slice (some ⟨bb, oo, none⟩) n.kids.length c) rfl
 have bw := X4.out.st.1
 have z0 := (bw.cell (p := ⟨bb, oo + 1 * 4, none⟩) hbl).trans m0
 have z1 := (bw.cell (p := ⟨bb, oo + 1 * 4 + 1, none⟩) hbl).trans m1
 have z2 := (bw.cell (p := ⟨bb, oo + 1 * 4 + 2, none⟩) hbl).trans m2
 have z3 := (bw.cell (p := ⟨bb, oo + 1 * 4 + 3, none⟩) hbl).trans m3
 clear bw
 simp only [Nat.one_mul] at z0 z1 z2 z3
 go_wp2_with fail
 refine (IHBY.out _ _ _ RY.out X4.out.st (by omega)).mono ?_
 rintro e w5 ⟨ws5, h5, p5, L5, (⟨o5, rfl, e5⟩ | ⟨o5, rfl⟩)⟩
 rotate_left
 ·have X5 := Lib.hid (X4.out.step h5 p5)
  have Q5 := Lib.hid o5
  clear h5 p5 o5
  unfold noneE
  go_wp2
  exact ⟨rfl, NOut.no X5.out.st X5.out.pk (by rw [HOK.out, Q1.out, HREST.out, Q3.out, Q5.out] <;> simp) (by omega)⟩
 have X5 := Lib.hid (X4.out.step h5 p5)
 have Q5 := Lib.hid o5
 have E5 := Lib.hid e5
 clear h5 p5 o5 e5 q0 q1 q2 q3 z0 z1 z2 z3
 have q0 := X5.out.blk.cell 0 (.int .i64 n.k) rfl
 have q1 := X5.out.blk.cell 1 (.string n.t) rfl
 have q2 := X5.out.blk.cell 2 (.int .i64 n.num) rfl
 have q3 := X5.out.blk.cell 3 (.slice (some ⟨bb, oo, none⟩) n.kids.length c) rfl
 go_wp2
 go_end0
 exact NOut.yes2 X5.out.st X5.out.pk (by rw [HOK.out, Q1.out, HREST.out, Q3.out, Q5.out] <;> simp) (by rw [E5.out, E4.out, E3.out, E2.out, HSH.out]; simp) (by omega)
theorem stat_16_3 (w0 : World) (p : Nat) (hE : Env w0) (n : Nd) (hk : Hid (n.k = 16)) (IH : ∀ m ∈ n.kids, LOk 57 (okP 13) shw w0 p m) (hlen2 : Hid (plainB n false false 2 3 = true → ∃ x y z, n.kids = [x, y, z])) : LOk 84 (okC 3) shw w0 p n := by
 intro cs w ws hr hst hb
 obtain ⟨A, c, rfl, hR, hcap, hlm, hn64, hts⟩ := hr.four
 have HR := Lib.hid hR
 have hmany := many_eq n
 clear hr hR
 obtain ⟨ok, HK⟩ : ∃ b, Hid (okC 3 n = b) := ⟨_, rfl⟩
 rw [HK.out]
 obtain ⟨nw, HW⟩ : ∃ b, Hid (shw n = b) := ⟨_, rfl⟩
 rw [HW.out]
 generalize hgm : 10 * many n - 3 = gm
 have hgm2 : 10 * manyL n.kids + 7 = gm := by omega
 have HGM := Lib.hid hgm
 clear hgm
 obtain ⟨rest, HRR⟩ : ∃ b, Hid (isNL n.k 0 n.kids.length n.kids = b) := ⟨_, rfl⟩
 have HOK : Hid (ok = (plainB n false false 2 3 && rest)) := by
  show _ = _
  rw [← HK.out, okC_of (by rw [hk.out]; rfl), isN_p0 (text := false) (least := 2) (most := 3) (by rw [hk.out]; rfl) (by rw [hk.out]; decide) (by rw [hk.out]; decide) (by rw [hk.out]; decide) (by rw [hk.out]; decide), HRR.out]
  rfl
 have b14 : (n.k == 14) = false := by rw [hk.out]; rfl
 have b15 : (n.k == 15) = false := by rw [hk.out]; rfl
 have b16 : (n.k == 16) = true := by rw [hk.out]; rfl
 have b17 : (n.k == 17) = false := by rw [hk.out]; rfl
 have b18 : (n.k == 18) = false := by rw [hk.out]; rfl
 have b19 : (n.k == 19) = false := by rw [hk.out]; rfl
 have b20 : (n.k == 20) = false := by rw [hk.out]; rfl
 have X0 := Lib.hid (Bx.start n A c hst)
 have hlw := hst.2.lt
 clear hst
 go_enter Tryz.func84, Tryz.ntmps84
 go_wp2_with fail
 refine (plain_any n _ _ _ _ _ _ _ (X0.out.st.env hE).ml).mono ?_
 rintro e w1 ⟨(⟨hq, rfl⟩ | ⟨hq, rfl⟩), hb1⟩
 rotate_left
 ·have X1 := Lib.hid (X0.out.below hb1)
  have Q1 := Lib.hid hq
  clear hq hb1
  unfold noneE
  go_wp2
  exact ⟨rfl, NOut.no X1.out.st X1.out.pk (by rw [HOK.out, Q1.out] <;> simp) (by omega)⟩
 have X1 := Lib.hid (X0.out.below hb1)
 have Q1 := Lib.hid hq
 clear hq hb1
 have q0 := X1.out.blk.cell 0 (.int .i64 n.k) rfl
 have q1 := X1.out.blk.cell 1 (.string n.t) rfl
 have q2 := X1.out.blk.cell 2 (.int .i64 n.num) rfl
 have q3 := X1.out.blk.cell 3 (.slice A n.kids.length c) rfl
 obtain ⟨x, y, z, hkx⟩ := hlen2.out Q1.out
 skip
 obtain ⟨bb, oo, Ax, cx, hA0, hbl0, k0, k1, k2, k3, rx⟩ := first_kid HR.out (by rw [hkx]; rfl : n.kids[0]? = some x)
 obtain ⟨bb1, oo1, Ay, cy, hA1, hbl1, m0, m1, m2, m3, ry⟩ := first_kid HR.out (by rw [hkx]; rfl : n.kids[1]? = some y)
 obtain ⟨bb2, oo2, Az, cz, hA2, hbl2, j0, j1, j2, j3, rz⟩ := first_kid HR.out (by rw [hkx]; rfl : n.kids[2]? = some z)
 obtain ⟨rfl, rfl⟩ : bb = bb1 ∧ oo = oo1 := by rw [hA0] at hA1; simpa using hA1
 clear hA1 hbl1
 obtain ⟨rfl, rfl⟩ : bb = bb2 ∧ oo = oo2 := by rw [hA0] at hA2; simpa using hA2
 clear hA2 hbl2
 have hbl := hbl0
 subst hA0
 have RX := Lib.hid rx
 have hposx := many_pos x
 have RY := Lib.hid ry
 have hposy := many_pos y
 have RZ := Lib.hid rz
 have hposz := many_pos z
 have hml : many x + many y + many z = manyL n.kids := by rw [hkx]; simp [manyL] <;> omega
 have hlen : n.kids.length = 3 := by rw [hkx]; rfl
 have hjp0 : 0 < n.kids.length := by omega
 have hji0 : (0 : Int) < (n.kids.length : Int) := by omega
 have hjp1 : 1 < n.kids.length := by omega
 have hji1 : (1 : Int) < (n.kids.length : Int) := by omega
 have hjp2 : 2 < n.kids.length := by omega
 have hji2 : (2 : Int) < (n.kids.length : Int) := by omega
 clear hbl0 rx ry rz
 have IHBY := Lib.hid (IH y (by rw [hkx]; simp))
 have IHBZ := Lib.hid (IH z (by rw [hkx]; simp))
 clear IH
 have HREST : Hid (rest = (okC 4 x && okP 13 y && okP 13 z)) := by
  show _ = _
  rw [← HRR.out, hk.out, hkx]
  exact nl_cpp 16 4 13 rfl (by omega) x y z rfl rfl rfl
 have HKX := Lib.hid hkx
 have HLEN := Lib.hid hlen
 clear hkx hlen
 have HSH : Hid (nw = [⟨#[105, 102]⟩, ⟨#[40]⟩] ++ shw x ++ [⟨#[41]⟩] ++ shw y ++ ⟨#[101, 108, 115, 101]⟩ :: shw z) := by
  show _ = _
  rw [← HW.out, shw_eq, hk.out, HKX.out]
  simp [shwK, nthW]
 have dl3 : decide ((2 : Int) < (n.kids.length : Int)) = true := by rw [HLEN.out]; rfl
 have dl4 : (2 : Int) < (n.kids.length : Int) := by rw [HLEN.out]; decide
 go_wp2_with fail
 refine (psay2 _ _ X1.out.st (by omega)).mono ?_
 rintro e w2 ⟨rfl, h2, p2⟩
 obtain ⟨ws2, e2⟩ : ∃ l : List ByteArray, l = ws ++ [⟨#[105, 102]⟩, ⟨#[40]⟩] := ⟨_, rfl⟩
 rw [← e2] at h2
 have L2 : ws2.length = ws.length + 2 := by rw [e2]; simp
 have E2 := Lib.hid e2
 have X2 := Lib.hid (X1.out.step h2 p2)
 clear e2 h2 p2 q0 q1 q2 q3 
 have q0 := X2.out.blk.cell 0 (.int .i64 n.k) rfl
 have q1 := X2.out.blk.cell 1 (.string n.t) rfl
 have q2 := X2.out.blk.cell 2 (.int .i64 n.num) rfl
 have q3 := X2.out.blk.cell 3 (.slice (some ⟨bb, oo, none⟩) n.kids.length c) rfl
 have bw := X2.out.st.1
 have z0 := (bw.cell (p := ⟨bb, oo + 0 * 4, none⟩) hbl).trans k0
 have z1 := (bw.cell (p := ⟨bb, oo + 0 * 4 + 1, none⟩) hbl).trans k1
 have z2 := (bw.cell (p := ⟨bb, oo + 0 * 4 + 2, none⟩) hbl).trans k2
 have z3 := (bw.cell (p := ⟨bb, oo + 0 * 4 + 3, none⟩) hbl).trans k3
 clear bw
 simp only [Nat.zero_mul, Nat.add_zero] at z0 z1 z2 z3
 go_wp2_with fail
 refine (expr0_ok w0 p hE x _ _ _ RX.out X2.out.st (by omega)).mono ?_
 rintro e w3 ⟨ws3, h3, p3, L3, (⟨o3, rfl, e3⟩ | ⟨o3, rfl⟩)⟩
 rotate_left
 ·have X3 := Lib.hid (X2.out.step h3 p3)
  have Q3 := Lib.hid o3
  clear h3 p3 o3
  unfold noneE
  go_wp2
  exact ⟨rfl, NOut.no X3.out.st X3.out.pk (by rw [HOK.out, Q1.out, HREST.out, Q3.out] <;> simp) (by omega)⟩
 have X3 := Lib.hid (X2.out.step h3 p3)
 have Q3 := Lib.hid o3
 have E3 := Lib.hid e3
 clear h3 p3 o3 e3 q0 q1 q2 q3 z0 z1 z2 z3
 have q0 := X3.out.blk.cell 0 (.int .i64 n.k) rfl
 have q1 := X3.out.blk.cell 1 (.string n.t) rfl
 have q2 := X3.out.blk.cell 2 (.int .i64 n.num) rfl
 have q3 := X3.out.blk.cell 3 (.slice (some ⟨bb, oo, none⟩) n.kids.length c) rfl
 go_wp2_with fail
 refine (psay1 _ X3.out.st (by omega)).mono ?_
 rintro e w4 ⟨rfl, h4, p4⟩
 obtain ⟨ws4, e4⟩ : ∃ l : List ByteArray, l = ws3 ++ [⟨#[41]⟩] := ⟨_, rfl⟩
 rw [← e4] at h4
 have L4 : ws4.length = ws3.length + 1 := by rw [e4]; simp
 have E4 := Lib.hid e4
 have X4 := Lib.hid (X3.out.step h4 p4)
 clear e4 h4 p4 q0 q1 q2 q3 
 have q0 := X4.out.blk.cell 0 (.int .i64 n.k) rfl
 have q1 := X4.out.blk.cell 1 (.string n.t) rfl
 have q2 := X4.out.blk.cell 2 (.int .i64 n.num) rfl
 have q3 := X4.out.blk.cell 3 (.slice (some ⟨bb, oo, none⟩) n.kids.length c) rfl
 have bw := X4.out.st.1
 have z0 := (bw.cell (p := ⟨bb, oo + 1 * 4, none⟩) hbl).trans m0
 have z1 := (bw.cell (p := ⟨bb, oo + 1 * 4 + 1, none⟩) hbl).trans m1
 have z2 := (bw.cell (p := ⟨bb, oo + 1 * 4 + 2, none⟩) hbl).trans m2
 have z3 := (bw.cell (p := ⟨bb, oo + 1 * 4 + 3, none⟩) hbl).trans m3
 clear bw
 simp only [Nat.one_mul] at z0 z1 z2 z3
 go_wp2_with fail
 refine (IHBY.out _ _ _ RY.out X4.out.st (by omega)).mono ?_
 rintro e w5 ⟨ws5, h5, p5, L5, (⟨o5, rfl, e5⟩ | ⟨o5, rfl⟩)⟩
 rotate_left
 ·have X5 := Lib.hid (X4.out.step h5 p5)
  have Q5 := Lib.hid o5
  clear h5 p5 o5
  unfold noneE
  go_wp2
  exact ⟨rfl, NOut.no X5.out.st X5.out.pk (by rw [HOK.out, Q1.out, HREST.out, Q3.out, Q5.out] <;> simp) (by omega)⟩
 have X5 := Lib.hid (X4.out.step h5 p5)
 have Q5 := Lib.hid o5
 have E5 := Lib.hid e5
 clear h5 p5 o5 e5 q0 q1 q2 q3 z0 z1 z2 z3
 have q0 := X5.out.blk.cell 0 (.int .i64 n.k) rfl
 have q1 := X5.out.blk.cell 1 (.string n.t) rfl
 have q2 := X5.out.blk.cell 2 (.int .i64 n.num) rfl
 have q3 := X5.out.blk.cell 3 (.slice (some ⟨bb, oo, none⟩) n.kids.length c) rfl
 go_wp2_with fail
 refine (psay1 _ X5.out.st (by omega)).mono ?_
 rintro e w6 ⟨rfl, h6, p6⟩
 obtain ⟨ws6, e6⟩ : ∃ l : List ByteArray, l = ws5 ++ [⟨#[101, 108, 115, 101]⟩] := ⟨_, rfl⟩
 rw [← e6] at h6
 have L6 : ws6.length = ws5.length + 1 := by rw [e6]; simp
 have E6 := Lib.hid e6
 have X6 := Lib.hid (X5.out.step h6 p6)
 clear e6 h6 p6 q0 q1 q2 q3 
 have q0 := X6.out.blk.cell 0 (.int .i64 n.k) rfl
 have q1 := X6.out.blk.cell 1 (.string n.t) rfl
 have q2 := X6.out.blk.cell 2 (.int .i64 n.num) rfl
 have q3 := X6.out.blk.cell 3 (.slice (some ⟨bb, oo, none⟩) n.kids.length c) rfl
 have bw := X6.out.st.1
 have z0 := (bw.cell (p := ⟨bb, oo + 2 * 4, none⟩) hbl).trans j0
 have z1 := (bw.cell (p := ⟨bb, oo + 2 * 4 + 1, none⟩) hbl).trans j1
 have z2 := (bw.cell (p := ⟨bb, oo + 2 * 4 + 2, none⟩) hbl).trans j2
 have z3 := (bw.cell (p := ⟨bb, oo + 2 * 4 + 3, none⟩) hbl).trans j3
 clear bw
 simp only [Nat.reduceMul] at z0 z1 z2 z3
 go_wp2_with fail
 refine (IHBZ.out _ _ _ RZ.out X6.out.st (by omega)).mono ?_
 rintro e w7 ⟨ws7, h7, p7, L7, (⟨o7, rfl, e7⟩ | ⟨o7, rfl⟩)⟩
 rotate_left
 ·have X7 := Lib.hid (X6.out.step h7 p7)
  have Q7 := Lib.hid o7
  clear h7 p7 o7
  unfold noneE
  go_wp2
  exact ⟨rfl, NOut.no X7.out.st X7.out.pk (by rw [HOK.out, Q1.out, HREST.out, Q3.out, Q5.out, Q7.out] <;> simp) (by omega)⟩
 have X7 := Lib.hid (X6.out.step h7 p7)
 have Q7 := Lib.hid o7
 have E7 := Lib.hid e7
 clear h7 p7 o7 e7 q0 q1 q2 q3 z0 z1 z2 z3
 have q0 := X7.out.blk.cell 0 (.int .i64 n.k) rfl
 have q1 := X7.out.blk.cell 1 (.string n.t) rfl
 have q2 := X7.out.blk.cell 2 (.int .i64 n.num) rfl
 have q3 := X7.out.blk.cell 3 (.slice (some ⟨bb, oo, none⟩) n.kids.length c) rfl
 go_wp2
 go_end0
 exact NOut.yes2 X7.out.st X7.out.pk (by rw [HOK.out, Q1.out, HREST.out, Q3.out, Q5.out, Q7.out] <;> simp) (by rw [E7.out, E6.out, E5.out, E4.out, E3.out, E2.out, HSH.out]; simp) (by omega)
theorem stat_no (w0 : World) (p : Nat) (hE : Env w0) (n : Nd) (hk : Hid (n.k < 14 ∨ 20 < n.k)) : LOk 84 (okC 3) shw w0 p n := by
 intro cs w ws hr hst hb
 obtain ⟨A, c, rfl, hR, hcap, hlm, hn64, hts⟩ := hr.four
 have HR := Lib.hid hR
 have hmany := many_eq n
 clear hr hR
 obtain ⟨ok, HK⟩ : ∃ b, Hid (okC 3 n = b) := ⟨_, rfl⟩
 rw [HK.out]
 obtain ⟨nw, HW⟩ : ∃ b, Hid (shw n = b) := ⟨_, rfl⟩
 rw [HW.out]
 generalize hgm : 10 * many n - 3 = gm
 have hgm2 : 10 * manyL n.kids + 7 = gm := by omega
 have HGM := Lib.hid hgm
 clear hgm
 have HOK : Hid (ok = false) := by
  show _ = _
  rw [← HK.out]
  unfold okC cls
  have := hk.out
  by_cases h1 : n.k = 2 ∨ 4 ≤ n.k ∧ n.k ≤ 7
  ·rw [if_pos h1]; rfl
  ·rw [if_neg h1]
   by_cases h2 : 9 ≤ n.k ∧ n.k ≤ 12
   ·rw [if_pos h2]; rfl
   ·rw [if_neg h2, if_neg (by omega)]
    split <;> rfl
 have b14 : (n.k == 14) = false := by simp; have := hk.out; omega
 have b15 : (n.k == 15) = false := by simp; have := hk.out; omega
 have b16 : (n.k == 16) = false := by simp; have := hk.out; omega
 have b17 : (n.k == 17) = false := by simp; have := hk.out; omega
 have b18 : (n.k == 18) = false := by simp; have := hk.out; omega
 have b19 : (n.k == 19) = false := by simp; have := hk.out; omega
 have b20 : (n.k == 20) = false := by simp; have := hk.out; omega
 have X0 := Lib.hid (Bx.start n A c hst)
 have hlw := hst.2.lt
 clear hst
 go_enter Tryz.func84, Tryz.ntmps84
 go_wp2_with fail
 refine (must_no _).mono ?_
 rintro e w' ⟨rfl, rfl⟩
 go_wp2
 exact ⟨rfl, NOut.no X0.out.st X0.out.pk HOK.out (by omega)⟩
theorem block_13 (w0 : World) (p : Nat) (hE : Env w0) (n : Nd) (hk : Hid (n.k = 13)) (IH : ∀ m ∈ n.kids, LOk 84 (okC 3) shw w0 p m) : LOk 57 (okP 13) shw w0 p n := by
 intro cs w ws hr hst hb
 obtain ⟨A, c, rfl, hR, hcap, hlm, hn64, hts⟩ := hr.four
 have HR := Lib.hid hR
 have hmany := many_eq n
 clear hr hR
 obtain ⟨ok, HK⟩ : ∃ b, Hid (okP 13 n = b) := ⟨_, rfl⟩
 rw [HK.out]
 obtain ⟨nw, HW⟩ : ∃ b, Hid (shw n = b) := ⟨_, rfl⟩
 rw [HW.out]
 generalize hgm : 10 * many n - 3 = gm
 have hgm2 : 10 * manyL n.kids + 7 = gm := by omega
 have HGM := Lib.hid hgm
 clear hgm
 obtain ⟨rest, HRR⟩ : ∃ b, Hid (isNL n.k 0 n.kids.length n.kids = b) := ⟨_, rfl⟩
 have HOK : Hid (ok = (plainB n false false 0 (-1) && rest)) := by
  show _ = _
  rw [← HK.out, okP_of hk.out, isN_p0 (text := false) (least := 0) (most := -1) (by rw [hk.out]; rfl) (by rw [hk.out]; decide) (by rw [hk.out]; decide) (by rw [hk.out]; decide) (by rw [hk.out]; decide), HRR.out]
  rfl
 have hll := manyL_len n.kids
 have IHW := Lib.hid IH
 have HREST : Hid (rest = n.kids.all (okC 3)) := by
  show _ = _
  rw [← HRR.out, hk.out, isNL_okC (c := 3) _ _ (fun _ _ _ => rfl)]
 clear IH
 have b13 : (n.k == 13) = true := by rw [hk.out]; rfl
 have X0 := Lib.hid (Bx.start n A c hst)
 have hlw := hst.2.lt
 clear hst
 go_enter Tryz.func57, Tryz.ntmps57
 go_wp2_with fail
 refine (must_yes _).mono ?_
 rintro e w' ⟨rfl, rfl⟩
 go_wp2_with fail
 refine (plain_any n _ _ _ _ _ _ _ (X0.out.st.env hE).ml).mono ?_
 rintro e w1 ⟨(⟨hq, rfl⟩ | ⟨hq, rfl⟩), hb1⟩
 rotate_left
 ·have X1 := Lib.hid (X0.out.below hb1)
  have Q1 := Lib.hid hq
  clear hq hb1
  unfold noneE
  go_wp2
  exact ⟨rfl, NOut.no X1.out.st X1.out.pk (by rw [HOK.out, Q1.out] <;> simp) (by omega)⟩
 have X1 := Lib.hid (X0.out.below hb1)
 have Q1 := Lib.hid hq
 clear hq hb1
 have q0 := X1.out.blk.cell 0 (.int .i64 n.k) rfl
 have q1 := X1.out.blk.cell 1 (.string n.t) rfl
 have q2 := X1.out.blk.cell 2 (.int .i64 n.num) rfl
 have q3 := X1.out.blk.cell 3 (.slice A n.kids.length c) rfl
 go_wp2_with fail
 refine (psay1 _ X1.out.st (by omega)).mono ?_
 rintro e w2 ⟨rfl, h2, p2⟩
 obtain ⟨ws2, e2⟩ : ∃ l : List ByteArray, l = ws ++ [⟨#[123]⟩] := ⟨_, rfl⟩
 rw [← e2] at h2
 have L2 : ws2.length = ws.length + 1 := by rw [e2]; simp
 have E2 := Lib.hid e2
 have X2 := Lib.hid (X1.out.step h2 p2)
 clear e2 h2 p2 q0 q1 q2 q3 
 have q0 := X2.out.blk.cell 0 (.int .i64 n.k) rfl
 have q1 := X2.out.blk.cell 1 (.string n.t) rfl
 have q2 := X2.out.blk.cell 2 (.int .i64 n.num) rfl
 have q3 := X2.out.blk.cell 3 (.slice A n.kids.length c) rfl
 have HSH : Hid (nw = ⟨#[123]⟩ :: ((n.kids.map shw).flatten ++ [⟨#[125]⟩])) := by
  show _ = _
  rw [← HW.out, shw_eq, hk.out]
  rfl
 generalize n.kids = l at *
 go_wp2_with fail
 go_loopw [18] (fun i wr => StatRel w0 w p ws l i wr) (fun i _ => l.length - (intOf i).toNat)
 case atStart => exact ⟨0, ws2, rfl, Nat.zero_le _, Lib.hid ⟨X2.out.st, X2.out.pk, by rw [E2.out]; simp, by simp, by rw [L2]; simp⟩⟩
 case round =>
  obtain ⟨k, ws1, rfl, hk1, HRL⟩ := hrel
  clear X2 L2 E2 q0 q1 q2 q3
  have hle := HRL.out.2.2.2.2
  have hmt := manyL_take_le l k
  by_cases hlt : k < l.length
  ·have hi : (k : Int) < (l.length : Int) := by omega
   obtain ⟨b, o, cs, hAA, hbl, hc, hrep⟩ := RepNL.at_ l _ HR.out k hlt
   subst hAA
   obtain ⟨A', c', rfl, -⟩ := hrep.four
   have bw := HRL.out.1.1
   have c0 := (bw.cell (p := ⟨b, o + k * 4 + 0, none⟩) hbl).trans (hc 0 _ rfl)
   have c1 := (bw.cell (p := ⟨b, o + k * 4 + 1, none⟩) hbl).trans (hc 1 _ rfl)
   have c2 := (bw.cell (p := ⟨b, o + k * 4 + 2, none⟩) hbl).trans (hc 2 _ rfl)
   have c3 := (bw.cell (p := ⟨b, o + k * 4 + 3, none⟩) hbl).trans (hc 3 _ rfl)
   rw [Nat.add_zero] at c0
   clear hc bw
   have HL := Lib.hid (IHW.out _ (List.getElem_mem hlt))
   have HT := Lib.hid (manyL_take hlt)
   have HAT := Lib.hid (all_take (okf := okC 3) hlt HRL.out.2.2.2.1)
   have HAF := Lib.hid (all_false (okf := okC 3) hlt)
   have HTS : Hid ((l.take (k + 1)).map shw = (l.take k).map shw ++ [shw l[k]]) := by show _ = _; rw [List.take_succ_eq_append_getElem hlt, List.map_append]; rfl
   have HREP := Lib.hid hrep
   have hmm : manyL (l.take k) + many l[k] ≤ manyL l := by rw [← HT.out]; exact manyL_take_le _ _
   have hpos := many_pos l[k]
   clear hrep
   generalize l[k] = x at *
   have hlw2 := HRL.out.1.2.lt
   go_wp2_with fail
   refine (HL.out _ _ _ HREP.out (HRL.out.1.alloc _) (by omega)).mono ?_
   rintro e w2 ⟨ws2, h2, p2, l2, (⟨o2, rfl, e2⟩ | ⟨o2, rfl⟩)⟩
   ·have H2 := Lib.hid h2
    have P2 := Lib.hid ((HRL.out.2.1.trans_ (PK.alloc_ _ _ hlw2)).trans_ p2)
    have E2 := Lib.hid e2
    have O2 := Lib.hid o2
    clear h2 p2 e2 o2
    go_wp2
    go_roundw
    case rel =>
     refine ⟨k + 1, ws2, by go_num, by omega, Lib.hid ⟨H2.out, P2.out, ?_, HAT.out.trans O2.out, by rw [HT.out]; omega⟩⟩
     rw [E2.out, HRL.out.2.2.1, HTS.out]
     simp
    case measure => (first | (simp [intOf]; done) | (simp [intOf]; omega))
   ·have H2 := Lib.hid h2
    have P2 := Lib.hid ((HRL.out.2.1.trans_ (PK.alloc_ _ _ hlw2)).trans_ p2)
    have O2 := Lib.hid o2
    clear h2 p2 o2
    unfold noneE
    go_wp2
    exact ⟨rfl, NOut.no H2.out P2.out (by rw [HOK.out, HREST.out, HAF.out O2.out]; simp) (by omega)⟩
  ·have hi : ¬ (k : Int) < (l.length : Int) := by omega
   have ek : k = l.length := by omega
   have HT1 : Hid (ws1 = ws ++ ⟨#[123]⟩ :: (l.map shw).flatten ∧ l.all (okC 3) = true) := by
    have h1 := HRL.out.2.2.1
    have h2 := HRL.out.2.2.2.1
    rw [ek, List.take_length] at h1 h2
    exact ⟨h1, h2⟩
   have hle2 : ws1.length ≤ ws.length + 1 + 10 * manyL l := by omega
   clear ek
   go_wp2_with fail
   refine (psay1 _ HRL.out.1 (by omega)).mono ?_
   rintro e w3 ⟨rfl, h3, p3⟩
   have H3 := Lib.hid h3
   have P3 := Lib.hid (HRL.out.2.1.trans_ p3)
   clear h3 p3
   go_wp2
   go_end0
   exact NOut.yes2 H3.out P3.out (by rw [HOK.out, Q1.out, HREST.out, HT1.out.2]; rfl) (by rw [HT1.out.1, HSH.out]; simp) (by simp; omega)
theorem block_no (w0 : World) (p : Nat) (hE : Env w0) (n : Nd) (hk : Hid (n.k ≠ 13)) : LOk 57 (okP 13) shw w0 p n := by
 intro cs w ws hr hst hb
 obtain ⟨A, c, rfl, hR, hcap, hlm, hn64, hts⟩ := hr.four
 have HR := Lib.hid hR
 have hmany := many_eq n
 clear hr hR
 obtain ⟨ok, HK⟩ : ∃ b, Hid (okP 13 n = b) := ⟨_, rfl⟩
 rw [HK.out]
 obtain ⟨nw, HW⟩ : ∃ b, Hid (shw n = b) := ⟨_, rfl⟩
 rw [HW.out]
 generalize hgm : 10 * many n - 3 = gm
 have hgm2 : 10 * manyL n.kids + 7 = gm := by omega
 have HGM := Lib.hid hgm
 clear hgm
 have HOK : Hid (ok = false) := by
  show _ = _
  rw [← HK.out]
  unfold okP
  simp [hk.out]
 have b13 : (n.k == 13) = false := by simp; have := hk.out; omega
 have X0 := Lib.hid (Bx.start n A c hst)
 have hlw := hst.2.lt
 clear hst
 go_enter Tryz.func57, Tryz.ntmps57
 go_wp2_with fail
 refine (must_no _).mono ?_
 rintro e w' ⟨rfl, rfl⟩
 go_wp2
 exact ⟨rfl, NOut.no X0.out.st X0.out.pk HOK.out (by omega)⟩
theorem pr_stat_all (w0 : World) (p : Nat) (hE : Env w0) : ∀ (N : Nat) (n : Nd), many n ≤ N → LOk 84 (okC 3) shw w0 p n ∧ LOk 57 (okP 13) shw w0 p n
 | 0, n, h => absurd h (by have := many_pos n; omega)
 | N + 1, n, h => by
  have IH := fun m (hm : m ∈ n.kids) => pr_stat_all w0 p hE N m (by have := many_kid hm; omega)
  have IHS : ∀ m ∈ n.kids, LOk 84 (okC 3) shw w0 p m := fun m hm => (IH m hm).1
  have IHB : ∀ m ∈ n.kids, LOk 57 (okP 13) shw w0 p m := fun m hm => (IH m hm).2
  refine ⟨?_, ?_⟩
  ·by_cases h14 : n.k = 14
   ·exact stat_14 w0 p hE n h14
   by_cases h15 : n.k = 15
   ·exact stat_15 w0 p hE n h15
   by_cases h16 : n.k = 16
   ·by_cases h3 : n.kids.length = 3
    ·exact stat_16_3 w0 p hE n h16 IHB (show _ → _ from fun hp => by
      rcases two_or_three hp with ⟨x, y, hk⟩ | h
      ·rw [hk] at h3; simp at h3
      ·exact h)
    ·exact stat_16_2 w0 p hE n h16 IHB (show _ → _ from fun hp => by
      rcases two_or_three hp with h | ⟨x, y, z, hk⟩
      ·exact h
      ·rw [hk] at h3; simp at h3)
   by_cases h17 : n.k = 17
   ·exact stat_17 w0 p hE n h17 IHB
   by_cases h18 : n.k = 18
   ·exact stat_18 w0 p hE n h18
   by_cases h19 : n.k = 19
   ·exact stat_19 w0 p hE n h19
   by_cases h20 : n.k = 20
   ·exact stat_20 w0 p hE n h20
   exact stat_no w0 p hE n (show n.k < 14 ∨ 20 < n.k by omega)
  ·by_cases h13 : n.k = 13
   ·exact block_13 w0 p hE n h13 IHS
   ·exact block_no w0 p hE n h13
theorem block_ok (w0 : World) (p : Nat) (hE : Env w0) (n : Nd) : LOk 57 (okP 13) shw w0 p n := (pr_stat_all w0 p hE _ n (Nat.le_refl _)).2
end Go.Proofs.YtgegfbopogcjpaaGreatDoor
