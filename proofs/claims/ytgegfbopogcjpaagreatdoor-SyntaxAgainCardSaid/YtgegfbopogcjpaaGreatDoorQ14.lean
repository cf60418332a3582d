/- The printer: declarations. -/
import Derived.Test.YtgegfbopogcjpaaGreatDoorQ13
namespace Go.Proofs.YtgegfbopogcjpaaGreatDoor
open Go.RowKit
set_option linter.unusedVariables false
set_option linter.unusedSimpArgs false
set_option maxRecDepth 100000
set_option maxHeartbeats 2000000
theorem last_two {w0 : World} {n : Nd} {A : Option Addr} (hR : RepNL w0 n.kids A) (h : 2 ≤ n.kids.length) : ∃ (l : List Nd) (x y : Nd) (bb oo : Nat) (Ax : Option Addr) (cx : Nat) (Ay : Option Addr) (cy : Nat), n.kids = l ++ [x, y] ∧ A = some ⟨bb, oo, none⟩ ∧ bb < w0.heap.size ∧ RepNL w0 l A ∧
 (w0.cell? ⟨bb, oo + l.length * 4, none⟩ = some (.int .i64 x.k) ∧ w0.cell? ⟨bb, oo + l.length * 4 + 1, none⟩ = some (.string x.t) ∧ w0.cell? ⟨bb, oo + l.length * 4 + 2, none⟩ = some (.int .i64 x.num) ∧ w0.cell? ⟨bb, oo + l.length * 4 + 3, none⟩ = some (.slice Ax x.kids.length cx) ∧
 RepN w0 x [.int .i64 x.k, .string x.t, .int .i64 x.num, .slice Ax x.kids.length cx]) ∧
 (w0.cell? ⟨bb, oo + (l.length + 1) * 4, none⟩ = some (.int .i64 y.k) ∧ w0.cell? ⟨bb, oo + (l.length + 1) * 4 + 1, none⟩ = some (.string y.t) ∧ w0.cell? ⟨bb, oo + (l.length + 1) * 4 + 2, none⟩ = some (.int .i64 y.num) ∧ w0.cell? ⟨bb, oo + (l.length + 1) * 4 + 3, none⟩ = some (.slice Ay y.kids.length cy) ∧
 RepN w0 y [.int .i64 y.k, .string y.t, .int .i64 y.num, .slice Ay y.kids.length cy]) := by
 obtain ⟨j, hj⟩ : ∃ j, n.kids.length = j + 2 := ⟨n.kids.length - 2, by omega⟩
 have hlenl : (n.kids.take j).length = j := by rw [List.length_take]; omega
 have hk : n.kids = n.kids.take j ++ [n.kids[j]'(by omega), n.kids[j + 1]'(by omega)] := by
  conv => lhs; rw [← List.take_append_drop j n.kids]
  congr 1
  rw [List.drop_eq_getElem_cons (by omega), List.drop_eq_getElem_cons (by omega), List.drop_eq_nil_of_le (by omega)]
 obtain ⟨bb, oo, Ax, cx, hA, hbl, x0, x1, x2, x3, rx⟩ := first_kid hR (List.getElem?_eq_getElem (by omega : j < n.kids.length))
 obtain ⟨b2, o2, Ay, cy, hA2, hbl2, y0, y1, y2, y3, ry⟩ := first_kid hR (List.getElem?_eq_getElem (by omega : j + 1 < n.kids.length))
 obtain ⟨rfl, rfl⟩ : bb = b2 ∧ oo = o2 := by rw [hA] at hA2; simpa using hA2
 refine ⟨n.kids.take j, _, _, bb, oo, Ax, cx, Ay, cy, hk, hA, hbl, RepNL.take n.kids _ j hR, ?_, ?_⟩
 ·rw [hlenl]; exact ⟨x0, x1, x2, x3, rx⟩
 ·rw [hlenl]; exact ⟨y0, y1, y2, y3, ry⟩
theorem nl_ext (l : List Nd) (x : Nd) : isNL 4 0 (l ++ [x]).length (l ++ [x]) = (okC 2 x && l.all (okP 8)) := by
 rw [isNL_append, isNL_okP (p := 8) rfl (by omega) l 0 (fun j _ h => by
  have h1 : ¬ j + 1 = (l ++ [x]).length := by simp; omega
  show (if j + 1 = (l ++ [x]).length then ((2 : Int), (0 : Int)) else (5, 8)) = (5, 8)
  rw [if_neg h1])]
 have hw : wantC 4 (0 + l.length) (l ++ [x]).length = (2, 0) := by unfold wantC; simp
 rw [isNL, hw, kidB_c, isNL]
 simp [okC, Bool.and_comm]
theorem nl_fun (l : List Nd) (x y : Nd) : isNL 7 0 (l ++ [x, y]).length (l ++ [x, y]) = (okC 2 x && l.all (okP 8) && okP 13 y) := by
 rw [isNL_append, isNL_okP (p := 8) rfl (by omega) l 0 (fun j _ h => by
  have h1 : ¬ j + 1 = (l ++ [x, y]).length := by simp; omega
  have h2 : ¬ j + 2 = (l ++ [x, y]).length := by simp; omega
  show (if j + 1 = (l ++ [x, y]).length then ((5 : Int), (13 : Int)) else if j + 2 = (l ++ [x, y]).length then (2, 0) else (5, 8)) = (5, 8)
  rw [if_neg h1, if_neg h2])]
 have hw : wantC 7 (0 + l.length) (l ++ [x, y]).length = (2, 0) := by unfold wantC; simp
 have hw2 : wantC 7 (0 + l.length + 1) (l ++ [x, y]).length = (5, 13) := by unfold wantC; simp
 rw [isNL, hw, kidB_c, isNL, hw2, kidB_p _ rfl (by omega), isNL]
 have : decide ((13 : Int) < 0) = false := rfl
 simp only [this]
 simp only [okC, okP, Bool.and_true]
 generalize (cls x.k == 2) = a
 generalize l.all (okP 8) = b
 have : decide ((0 : Int) < 0) = false := rfl
 simp only [this]
 cases a <;> cases b <;> simp
theorem nl_glob (x y : Nd) (hy : I64 y.num) : isNL 6 0 2 [x, y] = (okC 2 x && numOk y true) := by
 have hw : wantC 6 0 2 = (2, 0) := rfl
 have hw2 : wantC 6 1 2 = (4, -1) := rfl
 rw [← pr_num_ok y true hy]
 simp only [isNL, Nat.zero_add, hw, hw2, kidB_c]
 have e1 : kidB (4, -1) y.k = (y.k == 21 || y.k == 22) := by
  by_cases h1 : y.k = 21
  ·rw [h1]; rfl
  ·by_cases h2 : y.k = 22
   ·rw [h2]; rfl
   ·simp [kidB, h1, h2]
 rw [e1]
 have : decide ((-1 : Int) < 0) = true := rfl
 simp [okC, this]
def FieldsRel (w0 w : World) (p : Nat) (ws pre : List ByteArray) (l : List Nd) (i : Value) (wr : World) : Prop :=
 ∃ (k : Nat) (ws1 : List ByteArray), i = .int .i64 k ∧ k ≤ l.length ∧ Hid (Stq w0 p ws1 wr ∧ PK p w wr ∧ ws1 = ws ++ (pre ++ ((l.take k).map shw).flatten) ∧ (l.take k).all (okP 3) = true ∧ ws1.length ≤ ws.length + pre.length + 10 * manyL (l.take k))
theorem field_ok {m : Nd} (h3 : m.k = 3) : okP 3 m = (plainB m true false 1 1 && isNL m.k 0 m.kids.length m.kids) := by
 rw [okP_of h3, isN_p0 (text := true) (least := 1) (most := 1) (by rw [h3]; rfl) (by rw [h3]; decide) (by rw [h3]; decide) (by rw [h3]; decide) (by rw [h3]; decide)]
 rfl
theorem num_kind {y : Nd} {f : Bool} (h : numOk y f = true) : y.k = 21 ∨ y.k = 22 := by
 simp only [numOk, Bool.and_eq_true, Bool.or_eq_true, beq_iff_eq] at h
 rcases h.2 with h | h
 ·exact .inr h
 ·exact .inl h.1
theorem shw_num {y : Nd} (h : y.k = 21 ∨ y.k = 22) : shw y = numT y.k y.num := by
 rw [shw_eq]
 rcases h with h | h <;> rw [h] <;> rfl
theorem decl_5 (w0 : World) (p : Nat) (hE : Env w0) (n : Nd) (hk : Hid (n.k = 5)) : LOk 20 (okC 1) shw w0 p n := by
 intro cs w ws hr hst hb
 obtain ⟨A, c, rfl, hR, hcap, hlm, hn64, hts⟩ := hr.four
 have HR := Lib.hid hR
 have hmany := many_eq n
 clear hr hR
 obtain ⟨ok, HK⟩ : ∃ b, Hid (okC 1 n = b) := ⟨_, rfl⟩
 rw [HK.out]
 obtain ⟨nw, HW⟩ : ∃ b, Hid (shw n = b) := ⟨_, rfl⟩
 rw [HW.out]
 generalize hgm : 10 * many n - 3 = gm
 have hgm2 : 10 * manyL n.kids + 7 = gm := by omega
 have HGM := Lib.hid hgm
 clear hgm
 obtain ⟨rest, HRR⟩ : ∃ b, Hid (isNL n.k 0 n.kids.length n.kids = b) := ⟨_, rfl⟩
 have HOK : Hid (ok = (plainB n true false 1 1 && rest)) := by
  show _ = _
  rw [← HK.out, okC_of (by rw [hk.out]; rfl), isN_p0 (text := true) (least := 1) (most := 1) (by rw [hk.out]; rfl) (by rw [hk.out]; decide) (by rw [hk.out]; decide) (by rw [hk.out]; decide) (by rw [hk.out]; decide), HRR.out]
  rfl
 have b2 : (n.k == 2) = false := by rw [hk.out]; rfl
 have b5 : (n.k == 5) = true := by rw [hk.out]; rfl
 have b4 : (n.k == 4) = false := by rw [hk.out]; rfl
 have b6 : (n.k == 6) = false := by rw [hk.out]; rfl
 have b7 : (n.k == 7) = false := by rw [hk.out]; rfl
 have X0 := Lib.hid (Bx.start n A c hst)
 have hlw := hst.2.lt
 clear hst
 go_enter Tryz.func20, Tryz.ntmps20
 go_wp2_with fail
 refine (plain_any n _ _ _ _ _ _ _ (X0.out.st.env hE).ml).mono ?_
 rintro e w1 ⟨(⟨hq, rfl⟩ | ⟨hq, rfl⟩), hb1⟩
 rotate_left
 ·have X1 := Lib.hid (X0.out.below hb1)
  have Q1 := Lib.hid hq
  clear hq hb1
  unfold noneE
  go_wp2
  exact ⟨rfl, NOut.no X1.out.st X1.out.pk (by rw [HOK.out, Q1.out] <;> simp) (by omega)⟩
 have X1 := Lib.hid (X0.out.below hb1)
 have Q1 := Lib.hid hq
 clear hq hb1
 have q0 := X1.out.blk.cell 0 (.int .i64 n.k) rfl
 have q1 := X1.out.blk.cell 1 (.string n.t) rfl
 have q2 := X1.out.blk.cell 2 (.int .i64 n.num) rfl
 have q3 := X1.out.blk.cell 3 (.slice A n.kids.length c) rfl
 obtain ⟨x, hkx⟩ := oneKid Q1.out
 obtain ⟨bb, oo, Ax, cx, hA, hbl, k0, k1, k2, k3, rx⟩ := first_kid HR.out (by rw [hkx]; rfl : n.kids[0]? = some x)
 subst hA
 have RX := Lib.hid rx
 have hml : many x = manyL n.kids := by rw [hkx, manyL_one]
 have hposx := many_pos x
 have hlen : n.kids.length = 1 := by rw [hkx]; rfl
 have hjp : 0 < n.kids.length := by omega
 have HKX := Lib.hid hkx
 have HLEN := Lib.hid hlen
 clear rx hkx hlen
 have HREST : Hid (rest = okC 2 x) := by
  show _ = _
  rw [← HRR.out, hk.out, HKX.out]
  exact nl_c 5 2 x rfl
 have HSH : Hid (nw = ⟨#[101, 120, 116, 101, 114, 110]⟩ :: (shw x ++ [n.t, ⟨#[59]⟩])) := by
  show _ = _
  rw [← HW.out, shw_eq, hk.out, HKX.out]
  rfl
 go_wp2_with fail
 refine (psay1 _ X1.out.st (by omega)).mono ?_
 rintro e w2 ⟨rfl, h2, p2⟩
 obtain ⟨ws2, e2⟩ : ∃ l : List ByteArray, l = ws ++ [⟨#[101, 120, 116, 101, 114, 110]⟩] := ⟨_, rfl⟩
 rw [← e2] at h2
 have L2 : ws2.length = ws.length + 1 := by rw [e2]; simp
 have E2 := Lib.hid e2
 have X2 := Lib.hid (X1.out.step h2 p2)
 clear e2 h2 p2 q0 q1 q2 q3 
 have q0 := X2.out.blk.cell 0 (.int .i64 n.k) rfl
 have q1 := X2.out.blk.cell 1 (.string n.t) rfl
 have q2 := X2.out.blk.cell 2 (.int .i64 n.num) rfl
 have q3 := X2.out.blk.cell 3 (.slice (some ⟨bb, oo, none⟩) n.kids.length c) rfl
 have bw := X2.out.st.1
 have z0 := (bw.cell (p := ⟨bb, oo + 0 * 4, none⟩) hbl).trans k0
 have z1 := (bw.cell (p := ⟨bb, oo + 0 * 4 + 1, none⟩) hbl).trans k1
 have z2 := (bw.cell (p := ⟨bb, oo + 0 * 4 + 2, none⟩) hbl).trans k2
 have z3 := (bw.cell (p := ⟨bb, oo + 0 * 4 + 3, none⟩) hbl).trans k3
 clear bw
 simp only [Nat.zero_mul, Nat.add_zero] at z0 z1 z2 z3
 go_wp2_with fail
 refine (typ_ok w0 p hE x _ _ _ RX.out X2.out.st (by omega)).mono ?_
 rintro e w3 ⟨ws3, h3, p3, L3, (⟨o3, rfl, e3⟩ | ⟨o3, rfl⟩)⟩
 rotate_left
 ·have X3 := Lib.hid (X2.out.step h3 p3)
  have Q3 := Lib.hid o3
  clear h3 p3 o3
  unfold noneE
  go_wp2
  exact ⟨rfl, NOut.no X3.out.st X3.out.pk (by rw [HOK.out, Q1.out, HREST.out, Q3.out] <;> simp) (by omega)⟩
 have X3 := Lib.hid (X2.out.step h3 p3)
 have Q3 := Lib.hid o3
 have E3 := Lib.hid e3
 clear h3 p3 o3 e3 q0 q1 q2 q3 z0 z1 z2 z3
 have q0 := X3.out.blk.cell 0 (.int .i64 n.k) rfl
 have q1 := X3.out.blk.cell 1 (.string n.t) rfl
 have q2 := X3.out.blk.cell 2 (.int .i64 n.num) rfl
 have q3 := X3.out.blk.cell 3 (.slice (some ⟨bb, oo, none⟩) n.kids.length c) rfl
 go_wp2_with fail
 refine (psay2 _ _ X3.out.st (by omega)).mono ?_
 rintro e w4 ⟨rfl, h4, p4⟩
 obtain ⟨ws4, e4⟩ : ∃ l : List ByteArray, l = ws3 ++ [n.t, ⟨#[59]⟩] := ⟨_, rfl⟩
 rw [← e4] at h4
 have L4 : ws4.length = ws3.length + 2 := by rw [e4]; simp
 have E4 := Lib.hid e4
 have X4 := Lib.hid (X3.out.step h4 p4)
 clear e4 h4 p4 q0 q1 q2 q3 
 have q0 := X4.out.blk.cell 0 (.int .i64 n.k) rfl
 have q1 := X4.out.blk.cell 1 (.string n.t) rfl
 have q2 := X4.out.blk.cell 2 (.int .i64 n.num) rfl
 have q3 := X4.out.blk.cell 3 (.slice (some ⟨bb, oo, none⟩) n.kids.length c) rfl
 go_wp2
 go_end0
 exact NOut.yes2 X4.out.st X4.out.pk (by rw [HOK.out, Q1.out, HREST.out, Q3.out] <;> simp) (by rw [E4.out, E3.out, E2.out, HSH.out]; simp) (by omega)
theorem decl_6 (w0 : World) (p : Nat) (hE : Env w0) (n : Nd) (hk : Hid (n.k = 6)) : LOk 20 (okC 1) shw w0 p n := by
 intro cs w ws hr hst hb
 obtain ⟨A, c, rfl, hR, hcap, hlm, hn64, hts⟩ := hr.four
 have HR := Lib.hid hR
 have hmany := many_eq n
 clear hr hR
 obtain ⟨ok, HK⟩ : ∃ b, Hid (okC 1 n = b) := ⟨_, rfl⟩
 rw [HK.out]
 obtain ⟨nw, HW⟩ : ∃ b, Hid (shw n = b) := ⟨_, rfl⟩
 rw [HW.out]
 generalize hgm : 10 * many n - 3 = gm
 have hgm2 : 10 * manyL n.kids + 7 = gm := by omega
 have HGM := Lib.hid hgm
 clear hgm
 obtain ⟨rest, HRR⟩ : ∃ b, Hid (isNL n.k 0 n.kids.length n.kids = b) := ⟨_, rfl⟩
 have HOK : Hid (ok = (plainB n true true 2 2 && (decide (0 ≤ n.num) && decide (n.num ≤ 1)) && rest)) := by
  show _ = _
  rw [← HK.out, okC_of (by rw [hk.out]; rfl), isN_p1 (text := true) (num := 1) (least := 2) (most := 2) (by rw [hk.out]; rfl) (by omega) (by omega) (by rw [hk.out]; decide) (by rw [hk.out]; decide) (by rw [hk.out]; decide) (by rw [hk.out]; decide), HRR.out]
  rfl
 have b2 : (n.k == 2) = false := by rw [hk.out]; rfl
 have b5 : (n.k == 5) = false := by rw [hk.out]; rfl
 have b4 : (n.k == 4) = false := by rw [hk.out]; rfl
 have b6 : (n.k == 6) = true := by rw [hk.out]; rfl
 have b7 : (n.k == 7) = false := by rw [hk.out]; rfl
 have X0 := Lib.hid (Bx.start n A c hst)
 have hlw := hst.2.lt
 clear hst
 go_enter Tryz.func20, Tryz.ntmps20
 go_wp2_with fail
 refine (plain_any n _ _ _ _ _ _ _ (X0.out.st.env hE).ml).mono ?_
 rintro e w1 ⟨(⟨hq, rfl⟩ | ⟨hq, rfl⟩), hb1⟩
 rotate_left
 ·have X1 := Lib.hid (X0.out.below hb1)
  have Q1 := Lib.hid hq
  clear hq hb1
  unfold noneE
  go_wp2
  exact ⟨rfl, NOut.no X1.out.st X1.out.pk (by rw [HOK.out, Q1.out] <;> simp) (by omega)⟩
 have X1 := Lib.hid (X0.out.below hb1)
 have Q1 := Lib.hid hq
 clear hq hb1
 have q0 := X1.out.blk.cell 0 (.int .i64 n.k) rfl
 have q1 := X1.out.blk.cell 1 (.string n.t) rfl
 have q2 := X1.out.blk.cell 2 (.int .i64 n.num) rfl
 have q3 := X1.out.blk.cell 3 (.slice A n.kids.length c) rfl
 obtain ⟨x, y, hkx⟩ := twoKids Q1.out
 obtain ⟨bb, oo, Ax, cx, hA0, hbl0, k0, k1, k2, k3, rx⟩ := first_kid HR.out (by rw [hkx]; rfl : n.kids[0]? = some x)
 obtain ⟨bb1, oo1, Ay, cy, hA1, hbl1, m0, m1, m2, m3, ry⟩ := first_kid HR.out (by rw [hkx]; rfl : n.kids[1]? = some y)
 obtain ⟨rfl, rfl⟩ : bb = bb1 ∧ oo = oo1 := by rw [hA0] at hA1; simpa using hA1
 clear hA1 hbl1
 have hbl := hbl0
 subst hA0
 have RX := Lib.hid rx
 have hposx := many_pos x
 have RY := Lib.hid ry
 have hposy := many_pos y
 have hml : many x + many y = manyL n.kids := by rw [hkx]; simp [manyL]
 have hlen : n.kids.length = 2 := by rw [hkx]; rfl
 have hjp0 : 0 < n.kids.length := by omega
 have hji0 : (0 : Int) < (n.kids.length : Int) := by omega
 have hjp1 : 1 < n.kids.length := by omega
 have hji1 : (1 : Int) < (n.kids.length : Int) := by omega
 clear hbl0 rx ry
 have hyi : I64 y.num := by
  obtain ⟨_, _, _, _, _, _, h, _⟩ := RY.out.four
  exact h
 have HREST : Hid (rest = (okC 2 x && numOk y true)) := by
  show _ = _
  rw [← HRR.out, hk.out, hkx]
  exact nl_glob x y hyi
 have HKX := Lib.hid hkx
 have HLEN := Lib.hid hlen
 clear hkx hlen
 go_wp2_with fail
 refine (static_any w0 _ p _ n.num 1 X1.out.st (by omega)).mono ?_
 rintro e w2 ⟨ws2, h2, p2, L2, (⟨o2, rfl, e2⟩ | ⟨o2, rfl⟩)⟩
 rotate_left
 ·have X2 := Lib.hid (X1.out.step h2 p2)
  have Q2 := Lib.hid o2
  clear h2 p2 o2
  unfold noneE
  go_wp2
  exact ⟨rfl, NOut.no X2.out.st X2.out.pk (by rw [HOK.out, Q1.out, Q2.out] <;> simp) (by omega)⟩
 have X2 := Lib.hid (X1.out.step h2 p2)
 have Q2 := Lib.hid o2
 have E2 := Lib.hid e2
 clear h2 p2 o2 e2 q0 q1 q2 q3 
 have q0 := X2.out.blk.cell 0 (.int .i64 n.k) rfl
 have q1 := X2.out.blk.cell 1 (.string n.t) rfl
 have q2 := X2.out.blk.cell 2 (.int .i64 n.num) rfl
 have q3 := X2.out.blk.cell 3 (.slice (some ⟨bb, oo, none⟩) n.kids.length c) rfl
 have bw := X2.out.st.1
 have z0 := (bw.cell (p := ⟨bb, oo + 0 * 4, none⟩) hbl).trans k0
 have z1 := (bw.cell (p := ⟨bb, oo + 0 * 4 + 1, none⟩) hbl).trans k1
 have z2 := (bw.cell (p := ⟨bb, oo + 0 * 4 + 2, none⟩) hbl).trans k2
 have z3 := (bw.cell (p := ⟨bb, oo + 0 * 4 + 3, none⟩) hbl).trans k3
 clear bw
 simp only [Nat.zero_mul, Nat.add_zero] at z0 z1 z2 z3
 go_wp2_with fail
 refine (typ_ok w0 p hE x _ _ _ RX.out X2.out.st (by omega)).mono ?_
 rintro e w3 ⟨ws3, h3, p3, L3, (⟨o3, rfl, e3⟩ | ⟨o3, rfl⟩)⟩
 rotate_left
 ·have X3 := Lib.hid (X2.out.step h3 p3)
  have Q3 := Lib.hid o3
  clear h3 p3 o3
  unfold noneE
  go_wp2
  exact ⟨rfl, NOut.no X3.out.st X3.out.pk (by rw [HOK.out, Q1.out, Q2.out, HREST.out, Q3.out] <;> simp) (by omega)⟩
 have X3 := Lib.hid (X2.out.step h3 p3)
 have Q3 := Lib.hid o3
 have E3 := Lib.hid e3
 clear h3 p3 o3 e3 q0 q1 q2 q3 z0 z1 z2 z3
 have q0 := X3.out.blk.cell 0 (.int .i64 n.k) rfl
 have q1 := X3.out.blk.cell 1 (.string n.t) rfl
 have q2 := X3.out.blk.cell 2 (.int .i64 n.num) rfl
 have q3 := X3.out.blk.cell 3 (.slice (some ⟨bb, oo, none⟩) n.kids.length c) rfl
 go_wp2_with fail
 refine (psay2 _ _ X3.out.st (by omega)).mono ?_
 rintro e w4 ⟨rfl, h4, p4⟩
 obtain ⟨ws4, e4⟩ : ∃ l : List ByteArray, l = ws3 ++ [n.t, ⟨#[61]⟩] := ⟨_, rfl⟩
 rw [← e4] at h4
 have L4 : ws4.length = ws3.length + 2 := by rw [e4]; simp
 have E4 := Lib.hid e4
 have X4 := Lib.hid (X3.out.step h4 p4)
 clear e4 h4 p4 q0 q1 q2 q3 
 have q0 := X4.out.blk.cell 0 (.int .i64 n.k) rfl
 have q1 := X4.out.blk.cell 1 (.string n.t) rfl
 have q2 := X4.out.blk.cell 2 (.int .i64 n.num) rfl
 have q3 := X4.out.blk.cell 3 (.slice (some ⟨bb, oo, none⟩) n.kids.length c) rfl
 have bw := X4.out.st.1
 have z0 := (bw.cell (p := ⟨bb, oo + 1 * 4, none⟩) hbl).trans m0
 have z1 := (bw.cell (p := ⟨bb, oo + 1 * 4 + 1, none⟩) hbl).trans m1
 have z2 := (bw.cell (p := ⟨bb, oo + 1 * 4 + 2, none⟩) hbl).trans m2
 have z3 := (bw.cell (p := ⟨bb, oo + 1 * 4 + 3, none⟩) hbl).trans m3
 clear bw
 simp only [Nat.one_mul] at z0 z1 z2 z3
 go_wp2_with fail
 refine (pr_number_any w0 _ p _ y _ _ true hE X4.out.st hyi (by omega)).mono ?_
 rintro e w5 ⟨ws5, h5, p5, L5, (⟨o5, rfl, e5⟩ | ⟨o5, rfl⟩)⟩
 rotate_left
 ·have X5 := Lib.hid (X4.out.step h5 p5)
  have Q5 := Lib.hid o5
  clear h5 p5 o5
  unfold noneE
  go_wp2
  exact ⟨rfl, NOut.no X5.out.st X5.out.pk (by rw [HOK.out, Q1.out, Q2.out, HREST.out, Q3.out, Q5.out] <;> simp) (by omega)⟩
 have X5 := Lib.hid (X4.out.step h5 p5)
 have Q5 := Lib.hid o5
 have E5 := Lib.hid e5
 clear h5 p5 o5 e5 q0 q1 q2 q3 z0 z1 z2 z3
 have q0 := X5.out.blk.cell 0 (.int .i64 n.k) rfl
 have q1 := X5.out.blk.cell 1 (.string n.t) rfl
 have q2 := X5.out.blk.cell 2 (.int .i64 n.num) rfl
 have q3 := X5.out.blk.cell 3 (.slice (some ⟨bb, oo, none⟩) n.kids.length c) rfl
 have RNY : Hid (y.k = 21 ∨ y.k = 22) := num_kind Q5.out
 have HSH : Hid (nw = statW n.num ++ shw x ++ [n.t, ⟨#[61]⟩] ++ numT y.k y.num ++ [⟨#[59]⟩]) := by
  show _ = _
  rw [← HW.out, shw_eq, hk.out, HKX.out]
  show statW n.num ++ shw x ++ [n.t, ⟨#[61]⟩] ++ shw y ++ [⟨#[59]⟩] = _
  rw [shw_num RNY.out]
 go_wp2_with fail
 refine (psay1 _ X5.out.st (by omega)).mono ?_
 rintro e w6 ⟨rfl, h6, p6⟩
 obtain ⟨ws6, e6⟩ : ∃ l : List ByteArray, l = ws5 ++ [⟨#[59]⟩] := ⟨_, rfl⟩
 rw [← e6] at h6
 have L6 : ws6.length = ws5.length + 1 := by rw [e6]; simp
 have E6 := Lib.hid e6
 have X6 := Lib.hid (X5.out.step h6 p6)
 clear e6 h6 p6 q0 q1 q2 q3 
 have q0 := X6.out.blk.cell 0 (.int .i64 n.k) rfl
 have q1 := X6.out.blk.cell 1 (.string n.t) rfl
 have q2 := X6.out.blk.cell 2 (.int .i64 n.num) rfl
 have q3 := X6.out.blk.cell 3 (.slice (some ⟨bb, oo, none⟩) n.kids.length c) rfl
 go_wp2
 go_end0
 exact NOut.yes2 X6.out.st X6.out.pk (by rw [HOK.out, Q1.out, Q2.out, HREST.out, Q3.out, Q5.out] <;> simp) (by rw [E6.out, E5.out, E4.out, E3.out, E2.out, HSH.out]; simp) (by omega)
theorem decl_4 (w0 : World) (p : Nat) (hE : Env w0) (n : Nd) (hk : Hid (n.k = 4)) : LOk 20 (okC 1) shw w0 p n := by
 intro cs w ws hr hst hb
 obtain ⟨A, c, rfl, hR, hcap, hlm, hn64, hts⟩ := hr.four
 have HR := Lib.hid hR
 have hmany := many_eq n
 clear hr hR
 obtain ⟨ok, HK⟩ : ∃ b, Hid (okC 1 n = b) := ⟨_, rfl⟩
 rw [HK.out]
 obtain ⟨nw, HW⟩ : ∃ b, Hid (shw n = b) := ⟨_, rfl⟩
 rw [HW.out]
 generalize hgm : 10 * many n - 3 = gm
 have hgm2 : 10 * manyL n.kids + 7 = gm := by omega
 have HGM := Lib.hid hgm
 clear hgm
 obtain ⟨rest, HRR⟩ : ∃ b, Hid (isNL n.k 0 n.kids.length n.kids = b) := ⟨_, rfl⟩
 have HOK : Hid (ok = (plainB n true true 1 (-1) && (decide (0 ≤ n.num) && decide (n.num ≤ 1)) && rest)) := by
  show _ = _
  rw [← HK.out, okC_of (by rw [hk.out]; rfl), isN_p1 (text := true) (num := 1) (least := 1) (most := (-1)) (by rw [hk.out]; rfl) (by omega) (by omega) (by rw [hk.out]; decide) (by rw [hk.out]; decide) (by rw [hk.out]; decide) (by rw [hk.out]; decide), HRR.out]
  rfl
 have hmf : ∀ (fn : Fn) (first cap : Array Value) (w : World), (Instr.makeFunc fn first cap).run Tryz.prog w = .ok (.func fn first cap) w := fun _ _ _ _ => rfl
 have b2 : (n.k == 2) = false := by rw [hk.out]; rfl
 have b5 : (n.k == 5) = false := by rw [hk.out]; rfl
 have b4 : (n.k == 4) = true := by rw [hk.out]; rfl
 have b6 : (n.k == 6) = false := by rw [hk.out]; rfl
 have b7 : (n.k == 7) = false := by rw [hk.out]; rfl
 have X0 := Lib.hid (Bx.start n A c hst)
 have hlw := hst.2.lt
 clear hst
 go_enter Tryz.func20, Tryz.ntmps20
 go_wp2_with fail
 refine (plain_any n _ _ _ _ _ _ _ (X0.out.st.env hE).ml).mono ?_
 rintro e w1 ⟨(⟨hq, rfl⟩ | ⟨hq, rfl⟩), hb1⟩
 rotate_left
 ·have X1 := Lib.hid (X0.out.below hb1)
  have Q1 := Lib.hid hq
  clear hq hb1
  unfold noneE
  go_wp2
  exact ⟨rfl, NOut.no X1.out.st X1.out.pk (by rw [HOK.out, Q1.out] <;> simp) (by omega)⟩
 have X1 := Lib.hid (X0.out.below hb1)
 have Q1 := Lib.hid hq
 clear hq hb1
 have q0 := X1.out.blk.cell 0 (.int .i64 n.k) rfl
 have q1 := X1.out.blk.cell 1 (.string n.t) rfl
 have q2 := X1.out.blk.cell 2 (.int .i64 n.num) rfl
 have q3 := X1.out.blk.cell 3 (.slice A n.kids.length c) rfl
 rcases hc : (decide (0 ≤ n.num) && decide (n.num ≤ 1)) with _ | _
 ·have QM := Lib.hid hc
  have hd : decide (0 ≤ n.num) = false ∨ (decide (0 ≤ n.num) = true ∧ decide (n.num ≤ 1) = false) := by revert hc; cases decide (0 ≤ n.num) <;> simp
  clear hc
  rcases hd with d0 | ⟨d0, d1⟩
  all_goals go_wp2_with fail
  all_goals refine (must_no _).mono ?_
  all_goals rintro e w' ⟨rfl, rfl⟩
  all_goals go_wp2
  all_goals exact ⟨rfl, NOut.no X1.out.st X1.out.pk (by rw [HOK.out, Q1.out, QM.out] <;> simp) (by omega)⟩
 have QM := Lib.hid hc
 have hd : decide (0 ≤ n.num) = true ∧ decide (n.num ≤ 1) = true := by simpa only [Bool.and_eq_true] using hc
 obtain ⟨d0, d1⟩ := hd
 clear hc
 go_wp2_with fail
 refine (must_yes _).mono ?_
 rintro e w' ⟨rfl, rfl⟩
 obtain ⟨l, x, bb, oo, Ax, cx, hkl, rfl, hbl, ri, k0, k1, k2, k3, rx⟩ := last_kid HR.out (by have := (plain_len Q1.out).1; omega)
 have hlen : n.kids.length = l.length + 1 := by rw [hkl]; simp
 have RX := Lib.hid rx
 have RI := Lib.hid ri
 have HREST : Hid (rest = (okC 2 x && l.all (okP 8))) := by
  show _ = _
  rw [← HRR.out, hk.out, hkl]
  exact nl_ext l x
 have HSH : Hid (nw = ⟨#[101, 120, 116, 101, 114, 110]⟩ :: (shw x ++ [n.t] ++ rowW (l.map shw) (n.num == 1) ++ [⟨#[59]⟩])) := by
  show _ = _
  rw [← HW.out, shw_eq, hk.out, hkl, List.map_append]
  show ⟨#[101, 120, 116, 101, 114, 110]⟩ :: (nthW (l.map shw ++ [shw x]) ((l.map shw ++ [shw x]).length - 1) ++ [n.t] ++ rowW (l.map shw ++ [shw x]).dropLast (n.num == 1) ++ [⟨#[59]⟩]) = _
  rw [nthW_last, List.dropLast_concat]
 have hml : manyL l + many x = manyL n.kids := by rw [hkl, manyL_append, manyL_one]
 have hposx := many_pos x
 have HLEN := Lib.hid hlen
 have hs := fun w => sl_hi ⟨bb, oo, none⟩ n.kids.length c l.length w (by omega) hcap
 have hwr : wrap64 ((n.kids.length : Int) - 1) = (l.length : Int) := by rw [show ((n.kids.length : Int) - 1) = (l.length : Int) by omega]; exact IntWalk.wrap64_in _ (by unfold maxLen at hlm; omega)
 have hjp : 0 < n.kids.length := by omega
 have hjl : l.length < n.kids.length := by omega
 clear ri rx hkl hlen
 go_wp2_with fail
 refine (psay1 _ X1.out.st (by omega)).mono ?_
 rintro e w2 ⟨rfl, h2, p2⟩
 obtain ⟨ws2, e2⟩ : ∃ l : List ByteArray, l = ws ++ [⟨#[101, 120, 116, 101, 114, 110]⟩] := ⟨_, rfl⟩
 rw [← e2] at h2
 have L2 : ws2.length = ws.length + 1 := by rw [e2]; simp
 have E2 := Lib.hid e2
 have X2 := Lib.hid (X1.out.step h2 p2)
 clear e2 h2 p2 q0 q1 q2 q3 
 have q0 := X2.out.blk.cell 0 (.int .i64 n.k) rfl
 have q1 := X2.out.blk.cell 1 (.string n.t) rfl
 have q2 := X2.out.blk.cell 2 (.int .i64 n.num) rfl
 have q3 := X2.out.blk.cell 3 (.slice (some ⟨bb, oo, none⟩) n.kids.length c) rfl
 have bw := X2.out.st.1
 have z0 := (bw.cell (p := ⟨bb, oo + l.length * 4, none⟩) hbl).trans k0
 have z1 := (bw.cell (p := ⟨bb, oo + l.length * 4 + 1, none⟩) hbl).trans k1
 have z2 := (bw.cell (p := ⟨bb, oo + l.length * 4 + 2, none⟩) hbl).trans k2
 have z3 := (bw.cell (p := ⟨bb, oo + l.length * 4 + 3, none⟩) hbl).trans k3
 clear bw
 go_wp2_with fail
 refine (typ_ok w0 p hE x _ _ _ RX.out X2.out.st (by omega)).mono ?_
 rintro e w3 ⟨ws3, h3, p3, L3, (⟨o3, rfl, e3⟩ | ⟨o3, rfl⟩)⟩
 rotate_left
 ·have X3 := Lib.hid (X2.out.step h3 p3)
  have Q3 := Lib.hid o3
  clear h3 p3 o3
  unfold noneE
  go_wp2
  exact ⟨rfl, NOut.no X3.out.st X3.out.pk (by rw [HOK.out, Q1.out, QM.out, HREST.out, Q3.out] <;> simp) (by omega)⟩
 have X3 := Lib.hid (X2.out.step h3 p3)
 have Q3 := Lib.hid o3
 have E3 := Lib.hid e3
 clear h3 p3 o3 e3 q0 q1 q2 q3 z0 z1 z2 z3
 have q0 := X3.out.blk.cell 0 (.int .i64 n.k) rfl
 have q1 := X3.out.blk.cell 1 (.string n.t) rfl
 have q2 := X3.out.blk.cell 2 (.int .i64 n.num) rfl
 have q3 := X3.out.blk.cell 3 (.slice (some ⟨bb, oo, none⟩) n.kids.length c) rfl
 go_wp2_with fail
 refine (psay1 _ X3.out.st (by omega)).mono ?_
 rintro e w4 ⟨rfl, h4, p4⟩
 obtain ⟨ws4, e4⟩ : ∃ l : List ByteArray, l = ws3 ++ [n.t] := ⟨_, rfl⟩
 rw [← e4] at h4
 have L4 : ws4.length = ws3.length + 1 := by rw [e4]; simp
 have E4 := Lib.hid e4
 have X4 := Lib.hid (X3.out.step h4 p4)
 clear e4 h4 p4 q0 q1 q2 q3 
 have q0 := X4.out.blk.cell 0 (.int .i64 n.k) rfl
 have q1 := X4.out.blk.cell 1 (.string n.t) rfl
 have q2 := X4.out.blk.cell 2 (.int .i64 n.num) rfl
 have q3 := X4.out.blk.cell 3 (.slice (some ⟨bb, oo, none⟩) n.kids.length c) rfl
 go_wp2_with fail
 go_still_tail 10, (by kernel_rfl)
 change wpList _ _ _ _ _ w4.drew
 have X5 := Lib.hid X4.out.drew
 go_wp2_with fail
 refine (pr_list_any 54 (okP 8) shw w0 _ p _ l _ c (n.num == 1) RI.out X5.out.st (by omega) cf_param (fun m hm => param_ok w0 p hE m)).mono ?_
 rintro e w6 ⟨ws6, h6, p6, L6, (⟨o6, rfl, e6⟩ | ⟨o6, rfl⟩)⟩
 rotate_left
 ·have X6 := Lib.hid (X5.out.step h6 p6)
  have Q6 := Lib.hid o6
  clear h6 p6 o6
  unfold noneE
  go_wp2
  exact ⟨rfl, NOut.no X6.out.st X6.out.pk (by rw [HOK.out, Q1.out, QM.out, HREST.out, Q3.out, Q6.out] <;> simp) (by omega)⟩
 have X6 := Lib.hid (X5.out.step h6 p6)
 have Q6 := Lib.hid o6
 have E6 := Lib.hid e6
 clear h6 p6 o6 e6 q0 q1 q2 q3 
 have q0 := X6.out.blk.cell 0 (.int .i64 n.k) rfl
 have q1 := X6.out.blk.cell 1 (.string n.t) rfl
 have q2 := X6.out.blk.cell 2 (.int .i64 n.num) rfl
 have q3 := X6.out.blk.cell 3 (.slice (some ⟨bb, oo, none⟩) n.kids.length c) rfl
 go_wp2_with fail
 refine (psay1 _ X6.out.st (by omega)).mono ?_
 rintro e w7 ⟨rfl, h7, p7⟩
 obtain ⟨ws7, e7⟩ : ∃ l : List ByteArray, l = ws6 ++ [⟨#[59]⟩] := ⟨_, rfl⟩
 rw [← e7] at h7
 have L7 : ws7.length = ws6.length + 1 := by rw [e7]; simp
 have E7 := Lib.hid e7
 have X7 := Lib.hid (X6.out.step h7 p7)
 clear e7 h7 p7 q0 q1 q2 q3 
 have q0 := X7.out.blk.cell 0 (.int .i64 n.k) rfl
 have q1 := X7.out.blk.cell 1 (.string n.t) rfl
 have q2 := X7.out.blk.cell 2 (.int .i64 n.num) rfl
 have q3 := X7.out.blk.cell 3 (.slice (some ⟨bb, oo, none⟩) n.kids.length c) rfl
 go_wp2
 go_end0
 exact NOut.yes2 X7.out.st X7.out.pk (by rw [HOK.out, Q1.out, QM.out, HREST.out, Q3.out, Q6.out] <;> simp) (by rw [E7.out, E6.out, E4.out, E3.out, E2.out, HSH.out]; simp) (by omega)
theorem decl_7 (w0 : World) (p : Nat) (hE : Env w0) (n : Nd) (hk : Hid (n.k = 7)) : LOk 20 (okC 1) shw w0 p n := by
 intro cs w ws hr hst hb
 obtain ⟨A, c, rfl, hR, hcap, hlm, hn64, hts⟩ := hr.four
 have HR := Lib.hid hR
 have hmany := many_eq n
 clear hr hR
 obtain ⟨ok, HK⟩ : ∃ b, Hid (okC 1 n = b) := ⟨_, rfl⟩
 rw [HK.out]
 obtain ⟨nw, HW⟩ : ∃ b, Hid (shw n = b) := ⟨_, rfl⟩
 rw [HW.out]
 generalize hgm : 10 * many n - 3 = gm
 have hgm2 : 10 * manyL n.kids + 7 = gm := by omega
 have HGM := Lib.hid hgm
 clear hgm
 obtain ⟨rest, HRR⟩ : ∃ b, Hid (isNL n.k 0 n.kids.length n.kids = b) := ⟨_, rfl⟩
 have HOK : Hid (ok = (plainB n true true 2 (-1) && (decide (0 ≤ n.num) && decide (n.num ≤ 3)) && rest)) := by
  show _ = _
  rw [← HK.out, okC_of (by rw [hk.out]; rfl), isN_p1 (text := true) (num := 3) (least := 2) (most := (-1)) (by rw [hk.out]; rfl) (by omega) (by omega) (by rw [hk.out]; decide) (by rw [hk.out]; decide) (by rw [hk.out]; decide) (by rw [hk.out]; decide), HRR.out]
  rfl
 have hmf : ∀ (fn : Fn) (first cap : Array Value) (w : World), (Instr.makeFunc fn first cap).run Tryz.prog w = .ok (.func fn first cap) w := fun _ _ _ _ => rfl
 have b2 : (n.k == 2) = false := by rw [hk.out]; rfl
 have b5 : (n.k == 5) = false := by rw [hk.out]; rfl
 have b4 : (n.k == 4) = false := by rw [hk.out]; rfl
 have b6 : (n.k == 6) = false := by rw [hk.out]; rfl
 have b7 : (n.k == 7) = true := by rw [hk.out]; rfl
 have X0 := Lib.hid (Bx.start n A c hst)
 have hlw := hst.2.lt
 clear hst
 go_enter Tryz.func20, Tryz.ntmps20
 go_wp2_with fail
 refine (must_yes _).mono ?_
 rintro e w' ⟨rfl, rfl⟩
 go_wp2_with fail
 refine (plain_any n _ _ _ _ _ _ _ (X0.out.st.env hE).ml).mono ?_
 rintro e w1 ⟨(⟨hq, rfl⟩ | ⟨hq, rfl⟩), hb1⟩
 rotate_left
 ·have X1 := Lib.hid (X0.out.below hb1)
  have Q1 := Lib.hid hq
  clear hq hb1
  unfold noneE
  go_wp2
  exact ⟨rfl, NOut.no X1.out.st X1.out.pk (by rw [HOK.out, Q1.out] <;> simp) (by omega)⟩
 have X1 := Lib.hid (X0.out.below hb1)
 have Q1 := Lib.hid hq
 clear hq hb1
 have q0 := X1.out.blk.cell 0 (.int .i64 n.k) rfl
 have q1 := X1.out.blk.cell 1 (.string n.t) rfl
 have q2 := X1.out.blk.cell 2 (.int .i64 n.num) rfl
 have q3 := X1.out.blk.cell 3 (.slice A n.kids.length c) rfl
 go_wp2_with fail
 refine (static_any w0 _ p _ n.num 3 X1.out.st (by omega)).mono ?_
 rintro e w2 ⟨ws2, h2, p2, L2, (⟨o2, rfl, e2⟩ | ⟨o2, rfl⟩)⟩
 rotate_left
 ·have X2 := Lib.hid (X1.out.step h2 p2)
  have Q2 := Lib.hid o2
  clear h2 p2 o2
  unfold noneE
  go_wp2
  exact ⟨rfl, NOut.no X2.out.st X2.out.pk (by rw [HOK.out, Q1.out, Q2.out] <;> simp) (by omega)⟩
 have X2 := Lib.hid (X1.out.step h2 p2)
 have Q2 := Lib.hid o2
 have E2 := Lib.hid e2
 clear h2 p2 o2 e2 q0 q1 q2 q3 
 have q0 := X2.out.blk.cell 0 (.int .i64 n.k) rfl
 have q1 := X2.out.blk.cell 1 (.string n.t) rfl
 have q2 := X2.out.blk.cell 2 (.int .i64 n.num) rfl
 have q3 := X2.out.blk.cell 3 (.slice A n.kids.length c) rfl
 obtain ⟨l, x, y, bb, oo, Ax, cx, Ay, cy, hkl, rfl, hbl, ri, ⟨k0, k1, k2, k3, rx⟩, ⟨m0, m1, m2, m3, ry⟩⟩ := last_two HR.out (by have := (plain_len Q1.out).1; omega)
 have hlen : n.kids.length = l.length + 2 := by rw [hkl]; simp
 have RX := Lib.hid rx
 have RY := Lib.hid ry
 have RI := Lib.hid ri
 have HREST : Hid (rest = (okC 2 x && l.all (okP 8) && okP 13 y)) := by
  show _ = _
  rw [← HRR.out, hk.out, hkl]
  exact nl_fun l x y
 have HSH : Hid (nw = statW n.num ++ shw x ++ [n.t] ++ rowW (l.map shw) (decide (2 ≤ n.num)) ++ shw y) := by
  show _ = _
  rw [← HW.out, shw_eq, hk.out, hkl, List.map_append]
  show statW n.num ++ nthW (l.map shw ++ [shw x, shw y]) ((l.map shw ++ [shw x, shw y]).length - 2) ++ [n.t] ++ rowW (l.map shw ++ [shw x, shw y]).dropLast.dropLast (decide (2 ≤ n.num)) ++ nthW (l.map shw ++ [shw x, shw y]) ((l.map shw ++ [shw x, shw y]).length - 1) = _
  rw [show l.map shw ++ [shw x, shw y] = (l.map shw ++ [shw x]) ++ [shw y] by simp, nthW_last, List.dropLast_concat, List.dropLast_concat]
  congr 2
  congr 2
  simp [nthW]
 have hml : manyL l + many x + many y = manyL n.kids := by rw [hkl, manyL_append]; simp [manyL]; omega
 have hposx := many_pos x
 have hposy := many_pos y
 have HLEN := Lib.hid hlen
 have hs := fun w => sl_hi ⟨bb, oo, none⟩ n.kids.length c l.length w (by omega) hcap
 have hwr : wrap64 ((n.kids.length : Int) - 1) = (l.length : Int) + 1 := by rw [show ((n.kids.length : Int) - 1) = (l.length : Int) + 1 by omega]; exact IntWalk.wrap64_in _ (by unfold maxLen at hlm; omega)
 have hjp : 0 < n.kids.length := by omega
 have hjl : l.length < n.kids.length := by omega
 have hjl1 : l.length + 1 < n.kids.length := by omega
 have hjl2 : (l.length : Int) + 1 < (n.kids.length : Int) := by omega
 have hw3 := Lib.hid (IntWalk.i64_in (l.length : Int) (by unfold maxLen at hlm; omega))
 have hw2 := Lib.hid (IntWalk.wrap64_in (l.length : Int) (by unfold maxLen at hlm; omega))
 have hj0 : (0 : Int) ≤ (l.length : Int) + 1 := by omega
 have hj00 : (0 : Int) ≤ (l.length : Int) := by omega
 clear ri rx ry hkl hlen
 clear q0 q1 q2 q3
 have q0 := X2.out.blk.cell 0 (.int .i64 n.k) rfl
 have q1 := X2.out.blk.cell 1 (.string n.t) rfl
 have q2 := X2.out.blk.cell 2 (.int .i64 n.num) rfl
 have q3 := X2.out.blk.cell 3 (.slice (some ⟨bb, oo, none⟩) n.kids.length c) rfl
 have bw := X2.out.st.1
 have z0 := (bw.cell (p := ⟨bb, oo + l.length * 4, none⟩) hbl).trans k0
 have z1 := (bw.cell (p := ⟨bb, oo + l.length * 4 + 1, none⟩) hbl).trans k1
 have z2 := (bw.cell (p := ⟨bb, oo + l.length * 4 + 2, none⟩) hbl).trans k2
 have z3 := (bw.cell (p := ⟨bb, oo + l.length * 4 + 3, none⟩) hbl).trans k3
 clear bw
 have hw2' := hw2.out
 go_wp2_with fail
 clear hw2'
 go_wp2_with fail
 refine (typ_ok w0 p hE x _ _ _ RX.out X2.out.st (by omega)).mono ?_
 rintro e w3 ⟨ws3, h3, p3, L3, (⟨o3, rfl, e3⟩ | ⟨o3, rfl⟩)⟩
 rotate_left
 ·have X3 := Lib.hid (X2.out.step h3 p3)
  have Q3 := Lib.hid o3
  clear h3 p3 o3
  unfold noneE
  go_wp2
  exact ⟨rfl, NOut.no X3.out.st X3.out.pk (by rw [HOK.out, Q1.out, Q2.out, HREST.out, Q3.out] <;> simp) (by omega)⟩
 have X3 := Lib.hid (X2.out.step h3 p3)
 have Q3 := Lib.hid o3
 have E3 := Lib.hid e3
 clear h3 p3 o3 e3 q0 q1 q2 q3 z0 z1 z2 z3
 have q0 := X3.out.blk.cell 0 (.int .i64 n.k) rfl
 have q1 := X3.out.blk.cell 1 (.string n.t) rfl
 have q2 := X3.out.blk.cell 2 (.int .i64 n.num) rfl
 have q3 := X3.out.blk.cell 3 (.slice (some ⟨bb, oo, none⟩) n.kids.length c) rfl
 go_wp2_with fail
 refine (psay1 _ X3.out.st (by omega)).mono ?_
 rintro e w4 ⟨rfl, h4, p4⟩
 obtain ⟨ws4, e4⟩ : ∃ l : List ByteArray, l = ws3 ++ [n.t] := ⟨_, rfl⟩
 rw [← e4] at h4
 have L4 : ws4.length = ws3.length + 1 := by rw [e4]; simp
 have E4 := Lib.hid e4
 have X4 := Lib.hid (X3.out.step h4 p4)
 clear e4 h4 p4 q0 q1 q2 q3 
 have q0 := X4.out.blk.cell 0 (.int .i64 n.k) rfl
 have q1 := X4.out.blk.cell 1 (.string n.t) rfl
 have q2 := X4.out.blk.cell 2 (.int .i64 n.num) rfl
 have q3 := X4.out.blk.cell 3 (.slice (some ⟨bb, oo, none⟩) n.kids.length c) rfl
 have hw2' := hw2.out
 have hw3' := hw3.out
 go_wp2_with fail
 go_still_tail 11, (by kernel_rfl)
 change wpList _ _ _ _ _ w4.drew
 have X5 := Lib.hid X4.out.drew
 clear hw2' hw3'
 go_wp2_with fail
 refine (pr_list_any 54 (okP 8) shw w0 _ p _ l _ c (decide (2 ≤ n.num)) RI.out X5.out.st (by omega) cf_param (fun m hm => param_ok w0 p hE m)).mono ?_
 rintro e w6 ⟨ws6, h6, p6, L6, (⟨o6, rfl, e6⟩ | ⟨o6, rfl⟩)⟩
 rotate_left
 ·have X6 := Lib.hid (X5.out.step h6 p6)
  have Q6 := Lib.hid o6
  clear h6 p6 o6
  unfold noneE
  go_wp2
  exact ⟨rfl, NOut.no X6.out.st X6.out.pk (by rw [HOK.out, Q1.out, Q2.out, HREST.out, Q3.out, Q6.out] <;> simp) (by omega)⟩
 have X6 := Lib.hid (X5.out.step h6 p6)
 have Q6 := Lib.hid o6
 have E6 := Lib.hid e6
 clear h6 p6 o6 e6 q0 q1 q2 q3 
 have q0 := X6.out.blk.cell 0 (.int .i64 n.k) rfl
 have q1 := X6.out.blk.cell 1 (.string n.t) rfl
 have q2 := X6.out.blk.cell 2 (.int .i64 n.num) rfl
 have q3 := X6.out.blk.cell 3 (.slice (some ⟨bb, oo, none⟩) n.kids.length c) rfl
 have bw := X6.out.st.1
 have z0 := (bw.cell (p := ⟨bb, oo + (l.length + 1) * 4, none⟩) hbl).trans m0
 have z1 := (bw.cell (p := ⟨bb, oo + (l.length + 1) * 4 + 1, none⟩) hbl).trans m1
 have z2 := (bw.cell (p := ⟨bb, oo + (l.length + 1) * 4 + 2, none⟩) hbl).trans m2
 have z3 := (bw.cell (p := ⟨bb, oo + (l.length + 1) * 4 + 3, none⟩) hbl).trans m3
 clear bw
 go_wp2_with fail
 refine (block_ok w0 p hE y _ _ _ RY.out X6.out.st (by omega)).mono ?_
 rintro e w7 ⟨ws7, h7, p7, L7, (⟨o7, rfl, e7⟩ | ⟨o7, rfl⟩)⟩
 rotate_left
 ·have X7 := Lib.hid (X6.out.step h7 p7)
  have Q7 := Lib.hid o7
  clear h7 p7 o7
  unfold noneE
  go_wp2
  exact ⟨rfl, NOut.no X7.out.st X7.out.pk (by rw [HOK.out, Q1.out, Q2.out, HREST.out, Q3.out, Q6.out, Q7.out] <;> simp) (by omega)⟩
 have X7 := Lib.hid (X6.out.step h7 p7)
 have Q7 := Lib.hid o7
 have E7 := Lib.hid e7
 clear h7 p7 o7 e7 q0 q1 q2 q3 z0 z1 z2 z3
 have q0 := X7.out.blk.cell 0 (.int .i64 n.k) rfl
 have q1 := X7.out.blk.cell 1 (.string n.t) rfl
 have q2 := X7.out.blk.cell 2 (.int .i64 n.num) rfl
 have q3 := X7.out.blk.cell 3 (.slice (some ⟨bb, oo, none⟩) n.kids.length c) rfl
 go_wp2
 go_end0
 exact NOut.yes2 X7.out.st X7.out.pk (by rw [HOK.out, Q1.out, Q2.out, HREST.out, Q3.out, Q6.out, Q7.out] <;> simp) (by rw [E7.out, E6.out, E4.out, E3.out, E2.out, HSH.out]; simp) (by omega)
theorem decl_no (w0 : World) (p : Nat) (hE : Env w0) (n : Nd) (hk : Hid (n.k ≠ 2 ∧ (n.k < 4 ∨ 7 < n.k))) : LOk 20 (okC 1) shw w0 p n := by
 intro cs w ws hr hst hb
 obtain ⟨A, c, rfl, hR, hcap, hlm, hn64, hts⟩ := hr.four
 have HR := Lib.hid hR
 have hmany := many_eq n
 clear hr hR
 obtain ⟨ok, HK⟩ : ∃ b, Hid (okC 1 n = b) := ⟨_, rfl⟩
 rw [HK.out]
 obtain ⟨nw, HW⟩ : ∃ b, Hid (shw n = b) := ⟨_, rfl⟩
 rw [HW.out]
 generalize hgm : 10 * many n - 3 = gm
 have hgm2 : 10 * manyL n.kids + 7 = gm := by omega
 have HGM := Lib.hid hgm
 clear hgm
 have HOK : Hid (ok = false) := by
  show _ = _
  rw [← HK.out]
  unfold okC cls
  have := hk.out
  rw [if_neg (by omega)]
  split
  ·rfl
  ·split
   ·rfl
   ·split <;> rfl
 have b2 : (n.k == 2) = false := by simp; have := hk.out; omega
 have b5 : (n.k == 5) = false := by simp; have := hk.out; omega
 have b4 : (n.k == 4) = false := by simp; have := hk.out; omega
 have b6 : (n.k == 6) = false := by simp; have := hk.out; omega
 have b7 : (n.k == 7) = false := by simp; have := hk.out; omega
 have X0 := Lib.hid (Bx.start n A c hst)
 have hlw := hst.2.lt
 clear hst
 go_enter Tryz.func20, Tryz.ntmps20
 go_wp2_with fail
 refine (must_no _).mono ?_
 rintro e w' ⟨rfl, rfl⟩
 go_wp2
 exact ⟨rfl, NOut.no X0.out.st X0.out.pk HOK.out (by omega)⟩
theorem decl_2 (w0 : World) (p : Nat) (hE : Env w0) (n : Nd) (hk : Hid (n.k = 2)) : LOk 20 (okC 1) shw w0 p n := by
 intro cs w ws hr hst hb
 obtain ⟨A, c, rfl, hR, hcap, hlm, hn64, hts⟩ := hr.four
 have HR := Lib.hid hR
 have hmany := many_eq n
 clear hr hR
 obtain ⟨ok, HK⟩ : ∃ b, Hid (okC 1 n = b) := ⟨_, rfl⟩
 rw [HK.out]
 obtain ⟨nw, HW⟩ : ∃ b, Hid (shw n = b) := ⟨_, rfl⟩
 rw [HW.out]
 generalize hgm : 10 * many n - 3 = gm
 have hgm2 : 10 * manyL n.kids + 7 = gm := by omega
 have HGM := Lib.hid hgm
 clear hgm
 obtain ⟨rest, HRR⟩ : ∃ b, Hid (isNL n.k 0 n.kids.length n.kids = b) := ⟨_, rfl⟩
 have HOK : Hid (ok = (plainB n true false 1 (-1) && rest)) := by
  show _ = _
  rw [← HK.out, okC_of (by rw [hk.out]; rfl), isN_p0 (text := true) (least := 1) (most := (-1)) (by rw [hk.out]; rfl) (by rw [hk.out]; decide) (by rw [hk.out]; decide) (by rw [hk.out]; decide) (by rw [hk.out]; decide), HRR.out]
  rfl
 have hll := manyL_len n.kids
 have HREST : Hid (rest = n.kids.all (okP 3)) := by
  show _ = _
  rw [← HRR.out, hk.out, isNL_okP (p := 3) rfl (by omega) _ _ (fun _ _ _ => rfl)]
 have b2 : (n.k == 2) = true := by rw [hk.out]; rfl
 have b5 : (n.k == 5) = false := by rw [hk.out]; rfl
 have b4 : (n.k == 4) = false := by rw [hk.out]; rfl
 have b6 : (n.k == 6) = false := by rw [hk.out]; rfl
 have b7 : (n.k == 7) = false := by rw [hk.out]; rfl
 have X0 := Lib.hid (Bx.start n A c hst)
 have hlw := hst.2.lt
 clear hst
 go_enter Tryz.func20, Tryz.ntmps20
 go_wp2_with fail
 refine (plain_any n _ _ _ _ _ _ _ (X0.out.st.env hE).ml).mono ?_
 rintro e w1 ⟨(⟨hq, rfl⟩ | ⟨hq, rfl⟩), hb1⟩
 rotate_left
 ·have X1 := Lib.hid (X0.out.below hb1)
  have Q1 := Lib.hid hq
  clear hq hb1
  unfold noneE
  go_wp2
  exact ⟨rfl, NOut.no X1.out.st X1.out.pk (by rw [HOK.out, Q1.out] <;> simp) (by omega)⟩
 have X1 := Lib.hid (X0.out.below hb1)
 have Q1 := Lib.hid hq
 clear hq hb1
 have q0 := X1.out.blk.cell 0 (.int .i64 n.k) rfl
 have q1 := X1.out.blk.cell 1 (.string n.t) rfl
 have q2 := X1.out.blk.cell 2 (.int .i64 n.num) rfl
 have q3 := X1.out.blk.cell 3 (.slice A n.kids.length c) rfl
 go_wp2_with fail
 refine (psay3 _ _ _ X1.out.st (by omega)).mono ?_
 rintro e w2 ⟨rfl, h2, p2⟩
 obtain ⟨ws2, e2⟩ : ∃ l : List ByteArray, l = ws ++ [⟨#[115, 116, 114, 117, 99, 116]⟩, n.t, ⟨#[123]⟩] := ⟨_, rfl⟩
 rw [← e2] at h2
 have L2 : ws2.length = ws.length + 3 := by rw [e2]; simp
 have E2 := Lib.hid e2
 have X2 := Lib.hid (X1.out.step h2 p2)
 clear e2 h2 p2 q0 q1 q2 q3 
 have q0 := X2.out.blk.cell 0 (.int .i64 n.k) rfl
 have q1 := X2.out.blk.cell 1 (.string n.t) rfl
 have q2 := X2.out.blk.cell 2 (.int .i64 n.num) rfl
 have q3 := X2.out.blk.cell 3 (.slice A n.kids.length c) rfl
 have HSH : Hid (nw = [⟨#[115, 116, 114, 117, 99, 116]⟩, n.t, ⟨#[123]⟩] ++ (n.kids.map shw).flatten ++ [⟨#[125]⟩]) := by
  show _ = _
  rw [← HW.out, shw_eq, hk.out]
  rfl
 generalize n.kids = l at *
 go_wp2_with fail
 go_loopw [67] (fun i wr => FieldsRel w0 w p ws [⟨#[115, 116, 114, 117, 99, 116]⟩, n.t, ⟨#[123]⟩] l i wr) (fun i _ => l.length - (intOf i).toNat)
 case atStart => exact ⟨0, ws2, rfl, Nat.zero_le _, Lib.hid ⟨X2.out.st, X2.out.pk, by rw [E2.out]; simp, by simp, by rw [L2]; simp⟩⟩
 case round =>
  obtain ⟨k, ws1, rfl, hk1, HRL⟩ := hrel
  clear X2 L2 E2 q0 q1 q2 q3
  have hle := HRL.out.2.2.2.2
  simp only [List.length_cons, List.length_nil, Nat.zero_add, Nat.reduceAdd] at hle
  have hmt := manyL_take_le l k
  by_cases hlt : k < l.length
  ·have hi : (k : Int) < (l.length : Int) := by omega
   obtain ⟨b, o, cs, hAA, hbl, hc, hrep⟩ := RepNL.at_ l _ HR.out k hlt
   subst hAA
   obtain ⟨A', c', rfl, hkr, -⟩ := hrep.four
   have bw := HRL.out.1.1
   have c0 := (bw.cell (p := ⟨b, o + k * 4 + 0, none⟩) hbl).trans (hc 0 _ rfl)
   have c1 := (bw.cell (p := ⟨b, o + k * 4 + 1, none⟩) hbl).trans (hc 1 _ rfl)
   have c2 := (bw.cell (p := ⟨b, o + k * 4 + 2, none⟩) hbl).trans (hc 2 _ rfl)
   have c3 := (bw.cell (p := ⟨b, o + k * 4 + 3, none⟩) hbl).trans (hc 3 _ rfl)
   rw [Nat.add_zero] at c0
   clear hc bw hbl
   have HT := Lib.hid (manyL_take hlt)
   have HAT := Lib.hid (all_take (okf := okP 3) hlt HRL.out.2.2.2.1)
   have HAF := Lib.hid (all_false (okf := okP 3) hlt)
   have HTS : Hid ((l.take (k + 1)).map shw = (l.take k).map shw ++ [shw l[k]]) := by show _ = _; rw [List.take_succ_eq_append_getElem hlt, List.map_append]; rfl
   have HKR := Lib.hid hkr
   have hmm : manyL (l.take k) + many l[k] ≤ manyL l := by rw [← HT.out]; exact manyL_take_le _ _
   have hpos := many_pos l[k]
   have hmq := many_eq l[k]
   clear hrep hkr
   generalize l[k] = m at *
   have hlw2 := HRL.out.1.2.lt
   have X3 : Hid (Bx w0 p w wr.heap.size m A' c' ws1 (wr.alloc (.cells #[.int .i64 m.k, .string m.t, .int .i64 m.num, .slice A' m.kids.length c'] 24))) := ⟨HRL.out.1.alloc _, HRL.out.2.1.trans_ (PK.alloc_ _ _ hlw2), Blk.new_ _ _ _⟩
   rcases b3 : (m.k == 3) with _ | _
   ·have HF3 : Hid (okP 3 m = false) := by show _ = _; unfold okP; rw [b3]; rfl
    go_wp2_with fail
    refine (must_no _).mono ?_
    rintro e w' ⟨rfl, rfl⟩
    go_wp2
    exact ⟨rfl, NOut.no X3.out.st X3.out.pk (by rw [HOK.out, HREST.out, HAF.out HF3.out]; simp) (by omega)⟩
   ·have hm3 : m.k = 3 := by simpa using b3
    have HFO := Lib.hid (field_ok hm3)
    have HM3 := Lib.hid hm3
    clear hm3
    go_wp2_with fail
    refine (must_yes _).mono ?_
    rintro e w' ⟨rfl, rfl⟩
    go_wp2_with fail
    refine (plain_any m _ _ _ _ _ _ _ (X3.out.st.env hE).ml).mono ?_
    rintro e w4 ⟨(⟨hq, rfl⟩ | ⟨hq, rfl⟩), hb4⟩
    rotate_left
    ·have X4 := Lib.hid (X3.out.below hb4)
     have HF4 : Hid (okP 3 m = false) := by show _ = _; rw [HFO.out, hq]; rfl
     clear hq hb4
     unfold noneE
     go_wp2
     exact ⟨rfl, NOut.no X4.out.st X4.out.pk (by rw [HOK.out, HREST.out, HAF.out HF4.out]; simp) (by omega)⟩
    have X4 := Lib.hid (X3.out.below hb4)
    have Q4 := Lib.hid hq
    clear hq hb4
    obtain ⟨x, hkx⟩ := oneKid Q4.out
    obtain ⟨bb, oo, Ax, cx, hA, hbl, k0, k1, k2, k3, rx⟩ := first_kid HKR.out (by rw [hkx]; rfl : m.kids[0]? = some x)
    subst hA
    have RX := Lib.hid rx
    have hml : many x = manyL m.kids := by rw [hkx, manyL_one]
    have hposx := many_pos x
    have hlenm : m.kids.length = 1 := by rw [hkx]; rfl
    have hjp : 0 < m.kids.length := by omega
    have HKX := Lib.hid hkx
    have HLENM := Lib.hid hlenm
    have HFX : Hid (okP 3 m = okC 2 x) := by
     show _ = _
     rw [HFO.out, Q4.out, HM3.out, HKX.out, Bool.true_and]
     exact nl_c 3 2 x rfl
    have HSM : Hid (shw m = shw x ++ [m.t, ⟨#[59]⟩]) := by
     show _ = _
     rw [shw_eq, HM3.out, HKX.out]
     rfl
    clear rx hkx hlenm
    have q0 := X4.out.blk.cell 0 (.int .i64 m.k) rfl
    have q1 := X4.out.blk.cell 1 (.string m.t) rfl
    have q2 := X4.out.blk.cell 2 (.int .i64 m.num) rfl
    have q3 := X4.out.blk.cell 3 (.slice (some ⟨bb, oo, none⟩) m.kids.length c') rfl
    have bw := X4.out.st.1
    have z0 := (bw.cell (p := ⟨bb, oo + 0 * 4, none⟩) hbl).trans k0
    have z1 := (bw.cell (p := ⟨bb, oo + 0 * 4 + 1, none⟩) hbl).trans k1
    have z2 := (bw.cell (p := ⟨bb, oo + 0 * 4 + 2, none⟩) hbl).trans k2
    have z3 := (bw.cell (p := ⟨bb, oo + 0 * 4 + 3, none⟩) hbl).trans k3
    clear bw k0 k1 k2 k3
    simp only [Nat.zero_mul, Nat.add_zero] at z0 z1 z2 z3
    go_wp2_with fail
    refine (typ_ok w0 p hE x _ _ _ RX.out X4.out.st (by omega)).mono ?_
    rintro e w5 ⟨ws5, h5, p5, L5, (⟨o5, rfl, e5⟩ | ⟨o5, rfl⟩)⟩
    rotate_left
    ·have X5 := Lib.hid (X4.out.step h5 p5)
     have O5 := Lib.hid o5
     clear h5 p5 o5
     unfold noneE
     go_wp2
     exact ⟨rfl, NOut.no X5.out.st X5.out.pk (by rw [HOK.out, HREST.out, HAF.out (HFX.out.trans O5.out)]; simp) (by omega)⟩
    have X5 := Lib.hid (X4.out.step h5 p5)
    have O5 := Lib.hid o5
    have E5 := Lib.hid e5
    clear h5 p5 o5 e5 q0 q1 q2 q3 z0 z1 z2 z3
    have q1 := X5.out.blk.cell 1 (.string m.t) rfl
    go_wp2_with fail
    refine (psay2 _ _ X5.out.st (by omega)).mono ?_
    rintro e w6 ⟨rfl, h6, p6⟩
    have H6 := Lib.hid h6
    have P6 := Lib.hid (X5.out.pk.trans_ p6)
    clear h6 p6 q1
    go_wp2
    go_roundw
    case rel =>
     refine ⟨k + 1, _, by go_num, by omega, Lib.hid ⟨H6.out, P6.out, ?_, HAT.out.trans (HFX.out.trans O5.out), by rw [HT.out]; simp; omega⟩⟩
     rw [E5.out, HRL.out.2.2.1, HTS.out, HSM.out]
     simp
    case measure => (first | (simp [intOf]; done) | (simp [intOf]; omega))
  ·have hi : ¬ (k : Int) < (l.length : Int) := by omega
   have ek : k = l.length := by omega
   have HT1 : Hid (ws1 = ws ++ ([⟨#[115, 116, 114, 117, 99, 116]⟩, n.t, ⟨#[123]⟩] ++ (l.map shw).flatten) ∧ l.all (okP 3) = true) := by
    have h1 := HRL.out.2.2.1
    have h2 := HRL.out.2.2.2.1
    rw [ek, List.take_length] at h1 h2
    exact ⟨h1, h2⟩
   have hle2 : ws1.length ≤ ws.length + 3 + 10 * manyL l := by omega
   clear ek
   go_wp2_with fail
   refine (psay1 _ HRL.out.1 (by omega)).mono ?_
   rintro e w3 ⟨rfl, h3, p3⟩
   have H3 := Lib.hid h3
   have P3 := Lib.hid (HRL.out.2.1.trans_ p3)
   clear h3 p3
   go_wp2
   go_end0
   exact NOut.yes2 H3.out P3.out (by rw [HOK.out, Q1.out, HREST.out, HT1.out.2]; rfl) (by rw [HT1.out.1, HSH.out]; simp) (by simp; omega)
theorem decl_ok (w0 : World) (p : Nat) (hE : Env w0) (n : Nd) : LOk 20 (okC 1) shw w0 p n := by
 by_cases h2 : n.k = 2
 ·exact decl_2 w0 p hE n h2
 by_cases h4 : n.k = 4
 ·exact decl_4 w0 p hE n h4
 by_cases h5 : n.k = 5
 ·exact decl_5 w0 p hE n h5
 by_cases h6 : n.k = 6
 ·exact decl_6 w0 p hE n h6
 by_cases h7 : n.k = 7
 ·exact decl_7 w0 p hE n h7
 exact decl_no w0 p hE n (show n.k ≠ 2 ∧ (n.k < 4 ∨ 7 < n.k) by omega)
end Go.Proofs.YtgegfbopogcjpaaGreatDoor
