/- The reference's reader: statements that begin with a word; The reference's reader: the other statements; The reference's reader: every statement; The reference's reader: every declaration; The law SyntaxParses, whatever the text. -/
import Derived.Test.YtgegfbopogcjpaaGreatDoorQ11
import Derived.Test.YtgegfbopogcjpaaGreatDoorQ16
import Derived.Test.YtgegfbopogcjpaaGreatDoorQ17
import Derived.Test.YtgegfbopogcjpaaGreatDoorQ18
import Derived.Test.YtgegfbopogcjpaaGreatDoorQ22
import Derived.Test.YtgegfbopogcjpaaGreatDoorQ25
namespace Go.Proofs.YtgegfbopogcjpaaGreatDoor
open Go.RowKit
set_option linter.unusedVariables false
set_option linter.unusedSimpArgs false
set_option maxRecDepth 100000
set_option maxHeartbeats 4000000
theorem rst_if (C : RC) (F : Nat) (w : World) (i : Nat) (h : RSt C w i false) (hwet : mbr (statM C.L (F + 1) i) i false ≠ .dry) (HTY : ROk C 43 (typM C.L F)) (HRO : ROk C 99 (roundM C.L (unaryM C.L F))) (HEX : ROk C 79 (exprF C.L F)) (HBL : ROk C 46 (blockM C.L (statM C.L F))) (HSI : ROk C 100 (simpleR0 C.L F)) (h1 : tIs C.L ⟨#[105, 102]⟩ i = true) : Calls Tryz.prog 80 #[.pointer (some ⟨C.p, 0, none⟩)] w (RNode C w (mbr (statM C.L (F + 1) i) i false)) := by
 obtain ⟨R, HR⟩ : ∃ R, Hid (mbr (statM C.L (F + 1) i) i false = R) := ⟨_, rfl⟩
 rw [HR.out] at hwet ⊢
 have HW := Lib.hid hwet
 have hR := HR.out
 rw [statM] at hR
 replace HR := Lib.hid hR
 have HS := Lib.hid (h.st.box 24 #[.int .i64 0, .string ⟨#[]⟩, .int .i64 0, .slice none 0 0])
 clear h hR hwet
 go_enter Tryz.func80, Tryz.ntmps80
 go_upto_region 1 with (fail)
 generalize w.alloc (.cells #[.int .i64 0, .string ⟨#[]⟩, .int .i64 0, .slice none 0 0] 24) = w0 at *
 go_upto_region 2 with (fail)
 replace HS := Lib.hid (HS.out.box 24 #[.int .i64 0, .string ⟨#[]⟩, .int .i64 0, .slice none 0 0])
 generalize w0.alloc (.cells #[.int .i64 0, .string ⟨#[]⟩, .int .i64 0, .slice none 0 0] 24) = w1 at *
 generalize w0.heap.size = n_ at *
 have q2 := HS.out.z.blk.cell 2 (.bool false) rfl
 go_wp2_with fail
 clear q2
 refine (eatY HS.out h1).mono ?_
 clear HS; rintro e w2 ⟨rfl, HS⟩
 replace HR := Lib.hid (mbr_yes (j := i + 1) HR.out h1)
 go_wp2_with fail
 refine (rsubq HRO HS.out (mbr_wet HR.out HW.out)).mono ?_
 clear HS; rintro e w3 ⟨c, j1, b1, Ac, cc, Vc, rfl, HS, hf⟩
 replace HR := Lib.hid (mbr_seq HR.out HW.out hf)
 clear hf
 go_upto_region 6 with (fail)
 replace HS := Lib.hid (HS.out.box 24 #[.int .i64 c.k, .string c.t, .int .i64 c.num, .slice Ac c.kids.length cc])
 generalize w3.alloc (.cells #[.int .i64 c.k, .string c.t, .int .i64 c.num, .slice Ac c.kids.length cc] 24) = w4 at *
 generalize w3.heap.size = bc_ at *
 go_wp2_with fail
 refine (rsubq HBL HS.out (mbr_wet HR.out HW.out)).mono ?_
 clear HS; rintro e w5 ⟨k, j2, b2, Ak, ck, Vk, rfl, HS, hf⟩
 replace HR := Lib.hid (mbr_seq HR.out HW.out hf)
 clear hf
 go_upto_region 7 with (fail)
 replace HS := Lib.hid (HS.out.box 24 #[.int .i64 k.k, .string k.t, .int .i64 k.num, .slice Ak k.kids.length ck])
 generalize w5.alloc (.cells #[.int .i64 k.k, .string k.t, .int .i64 k.num, .slice Ak k.kids.length ck] 24) = w6 at *
 generalize w5.heap.size = bk_ at *
 replace HS := Lib.hid HS.out.f4
 obtain ⟨-, -, -, -, b0, b1, b2, b3⟩ := (HS.out.blk 3 rfl).all4
 obtain ⟨-, -, -, -, c0, c1, c2, c3⟩ := (HS.out.blk 1 rfl).all4
 obtain ⟨f0, f1, f2, f3, g0, g1, g2, g3⟩ := HS.out.one.all4
 have hne := Nat.ne_of_lt HS.out.one.lt
 have hlt := HS.out.one.lt
 go_wp2_with fail
 clear f0 f1 f2 f3 g0 g1 g2 g3 hne hlt b0 b1 b2 b3 c0 c1 c2 c3
 replace HS := Lib.hid (HS.out.putbox (.int .i64 16) (.string ⟨#[]⟩) (.int .i64 0) (.slice (some ⟨w6.heap.size, 0, none⟩) 2 2) 24 #[.int .i64 c.k, .string c.t, .int .i64 c.num, .slice Ac c.kids.length cc, .int .i64 k.k, .string k.t, .int .i64 k.num, .slice Ak k.kids.length ck])
 generalize ((((w6.setCell ⟨n_, 0, none⟩ (.int .i64 16)).setCell ⟨n_, 1, none⟩ (.string ⟨#[]⟩)).setCell ⟨n_, 2, none⟩ (.int .i64 0)).setCell ⟨n_, 3, none⟩ (.slice (some ⟨w6.heap.size, 0, none⟩) 2 2)).alloc (.cells #[.int .i64 c.k, .string c.t, .int .i64 c.num, .slice Ac c.kids.length cc, .int .i64 k.k, .string k.t, .int .i64 k.num, .slice Ak k.kids.length ck] 24) = w7 at *
 generalize w6.heap.size = y_ at *
 replace HS := Lib.hid HS.out.f3
 replace HS := Lib.hid HS.out.f5
 replace HS := Lib.hid HS.out.f2
 replace HS := Lib.hid (HS.out.row2 (x := c) (z := k))
 rcases ht : (!b2 && tIs C.L ⟨#[101, 108, 115, 101]⟩ j2) with _ | _
 ·refine (eatN HS.out ht).mono ?_
  clear HS; rintro e w8 ⟨rfl, HS⟩
  replace HR := Lib.hid (mbr_no HR.out (fun e h' => by rw [h', e] at ht; cases ht))
  clear ht
  replace HS := Lib.hid (HS.out.kids 16 ⟨#[]⟩ 0 i64_0 (Nat.zero_le _))
  replace HS := Lib.hid HS.out.f4
  replace HS := Lib.hid HS.out.f1
  obtain ⟨-, -, -, -, b0, b1, b2, b3⟩ := (HS.out.blk 2 rfl).all4
  obtain ⟨f0, f1, f2, f3, g0, g1, g2, g3⟩ := (HS.out.blk 1 rfl).all4
  go_wp2_with fail
  have hf := rfinO HS.out (mbr_fin HR.out)
  try simp only [List.length_append, List.length_cons, List.length_nil, Nat.zero_add] at hf
  exact bodyPost_ret (v := .agg _) (results_cell4 (fn := Tryz.f80) rfl hf.1 rfl) rfl hf.2
 rw [Bool.and_eq_true, Bool.not_eq_true'] at ht
 obtain ⟨hb, ht⟩ := ht
 subst hb
 refine (eatY HS.out ht).mono ?_
 clear HS; rintro e w8 ⟨rfl, HS⟩
 replace HR := Lib.hid (mbr_yes (j := j2 + 1) HR.out ht)
 clear ht
 go_wp2_with fail
 refine (rsubq HBL HS.out (mbr_wet HR.out HW.out)).mono ?_
 clear HS; rintro e w9 ⟨o, j3, b3, Ao, co, Vo, rfl, HS, hf⟩
 replace HR := Lib.hid (mbr_seq HR.out HW.out hf)
 clear hf
 go_upto_region 10 with (fail)
 replace HS := Lib.hid (HS.out.box 24 #[.int .i64 o.k, .string o.t, .int .i64 o.num, .slice Ao o.kids.length co])
 generalize w9.alloc (.cells #[.int .i64 o.k, .string o.t, .int .i64 o.num, .slice Ao o.kids.length co] 24) = w10 at *
 generalize w9.heap.size = bo_ at *
 obtain ⟨-, -, -, -, b0, b1, b2, b3⟩ := HS.out.one.all4
 have q3 := (HS.out.blk 3 rfl).cell 3 (.slice (some ⟨y_, 0, none⟩) 2 2) rfl
 replace HS := Lib.hid HS.out.f1
 replace HS := Lib.hid HS.out.f2
 have HB := Lib.hid (HS.out.box 24 #[.int .i64 o.k, .string o.t, .int .i64 o.num, .slice Ao o.kids.length co]).f2.f2
 clear HS
 go_wp2_with (at_builtin; refine wpList_push (x := o) HB.out (by first | rfl | simp) (by omega) rfl _ _ rfl rfl rfl ?_)
 clear HB; intro A3 c3 V3 w11 HS
 clear b0 b1 b2 b3 q3
 replace HS := Lib.hid HS.out.f2
 have f3 := HS.out.one.free 3
 have g3 := HS.out.one.cell 3 _ rfl
 go_upto_region 11 with (fail)
 clear f3 g3
 replace HS := Lib.hid (HS.out.put1 3 (.slice A3 (2 + 1) c3))
 simp only [List.setIfInBounds_toArray, List.set_cons_zero, List.set_cons_succ] at HS
 generalize w11.setCell ⟨n_, 3, none⟩ (.slice A3 (2 + 1) c3) = w12 at *
 replace HS := Lib.hid HS.out.f1
 replace HS := Lib.hid (HS.out.kids 16 ⟨#[]⟩ 0 i64_0 (Nat.zero_le _))
 replace HS := Lib.hid HS.out.f5
 replace HS := Lib.hid HS.out.f1
 obtain ⟨-, -, -, -, b0, b1, b2, b3⟩ := (HS.out.blk 2 rfl).all4
 obtain ⟨f0, f1, f2, f3, g0, g1, g2, g3⟩ := (HS.out.blk 1 rfl).all4
 go_wp2_with fail
 have hf := rfinO HS.out (mbr_fin HR.out)
 try simp only [List.length_append, List.length_cons, List.length_nil, Nat.zero_add] at hf
 exact bodyPost_ret (v := .agg _) (results_cell4 (fn := Tryz.f80) rfl hf.1 rfl) rfl hf.2
theorem rst_while (C : RC) (F : Nat) (w : World) (i : Nat) (h : RSt C w i false) (hwet : mbr (statM C.L (F + 1) i) i false ≠ .dry) (HTY : ROk C 43 (typM C.L F)) (HRO : ROk C 99 (roundM C.L (unaryM C.L F))) (HEX : ROk C 79 (exprF C.L F)) (HBL : ROk C 46 (blockM C.L (statM C.L F))) (HSI : ROk C 100 (simpleR0 C.L F)) (h1 : tIs C.L ⟨#[105, 102]⟩ i = false) (h2 : tIs C.L ⟨#[119, 104, 105, 108, 101]⟩ i = true) : Calls Tryz.prog 80 #[.pointer (some ⟨C.p, 0, none⟩)] w (RNode C w (mbr (statM C.L (F + 1) i) i false)) := by
 obtain ⟨R, HR⟩ : ∃ R, Hid (mbr (statM C.L (F + 1) i) i false = R) := ⟨_, rfl⟩
 rw [HR.out] at hwet ⊢
 have HW := Lib.hid hwet
 have hR := HR.out
 rw [statM] at hR
 replace HR := Lib.hid hR
 have HS := Lib.hid (h.st.box 24 #[.int .i64 0, .string ⟨#[]⟩, .int .i64 0, .slice none 0 0])
 clear h hR hwet
 go_enter Tryz.func80, Tryz.ntmps80
 go_upto_region 1 with (fail)
 generalize w.alloc (.cells #[.int .i64 0, .string ⟨#[]⟩, .int .i64 0, .slice none 0 0] 24) = w0 at *
 go_upto_region 2 with (fail)
 replace HS := Lib.hid (HS.out.box 24 #[.int .i64 0, .string ⟨#[]⟩, .int .i64 0, .slice none 0 0])
 generalize w0.alloc (.cells #[.int .i64 0, .string ⟨#[]⟩, .int .i64 0, .slice none 0 0] 24) = w1 at *
 generalize w0.heap.size = n_ at *
 have q2 := HS.out.z.blk.cell 2 (.bool false) rfl
 go_wp2_with fail
 clear q2
 refine (eatN HS.out (by simp [h1])).mono ?_
 clear HS; rintro e w2 ⟨rfl, HS⟩
 replace HR := Lib.hid (mbr_no HR.out (fun _ => by rw [h1]; simp))
 go_wp2_with fail
 refine (eatY HS.out h2).mono ?_
 clear HS; rintro e w3 ⟨rfl, HS⟩
 replace HR := Lib.hid (mbr_yes (j := i + 1) HR.out h2)
 go_wp2_with fail
 refine (rsubq HRO HS.out (mbr_wet HR.out HW.out)).mono ?_
 clear HS; rintro e w4 ⟨c, j1, b1, Ac, cc, Vc, rfl, HS, hf⟩
 replace HR := Lib.hid (mbr_seq HR.out HW.out hf)
 clear hf
 go_upto_region 14 with (fail)
 replace HS := Lib.hid (HS.out.box 24 #[.int .i64 c.k, .string c.t, .int .i64 c.num, .slice Ac c.kids.length cc])
 generalize w4.alloc (.cells #[.int .i64 c.k, .string c.t, .int .i64 c.num, .slice Ac c.kids.length cc] 24) = w5 at *
 generalize w4.heap.size = bc_ at *
 go_wp2_with fail
 refine (rsubq HBL HS.out (mbr_wet HR.out HW.out)).mono ?_
 clear HS; rintro e w6 ⟨k, j2, b2, Ak, ck, Vk, rfl, HS, hf⟩
 replace HR := Lib.hid (mbr_seq HR.out HW.out hf)
 clear hf
 go_upto_region 15 with (fail)
 replace HS := Lib.hid (HS.out.box 24 #[.int .i64 k.k, .string k.t, .int .i64 k.num, .slice Ak k.kids.length ck])
 generalize w6.alloc (.cells #[.int .i64 k.k, .string k.t, .int .i64 k.num, .slice Ak k.kids.length ck] 24) = w7 at *
 generalize w6.heap.size = bk_ at *
 obtain ⟨-, -, -, -, b0, b1, b2, b3⟩ := (HS.out.blk 2 rfl).all4
 obtain ⟨-, -, -, -, c0, c1, c2, c3⟩ := (HS.out.blk 0 rfl).all4
 replace HS := Lib.hid HS.out.f5
 obtain ⟨f0, f1, f2, f3, g0, g1, g2, g3⟩ := HS.out.one.all4
 have hne := Nat.ne_of_lt HS.out.one.lt
 have hlt := HS.out.one.lt
 go_wp2_with fail
 replace HS := Lib.hid (HS.out.putbox (.int .i64 17) (.string ⟨#[]⟩) (.int .i64 0) (.slice (some ⟨w7.heap.size, 0, none⟩) 2 2) 24 #[.int .i64 c.k, .string c.t, .int .i64 c.num, .slice Ac c.kids.length cc, .int .i64 k.k, .string k.t, .int .i64 k.num, .slice Ak k.kids.length ck])
 replace HS := Lib.hid HS.out.f3
 replace HS := Lib.hid HS.out.f5
 replace HS := Lib.hid HS.out.f2
 replace HS := Lib.hid (HS.out.kid2 (x := c) (z := k) 17 ⟨#[]⟩ 0 i64_0 (Nat.zero_le _))
 replace HS := Lib.hid HS.out.f1
 replace HS := Lib.hid HS.out.f1
 have hf := rfinP HS.out rfl (mbr_fin HR.out)
 exact bodyPost_ret (v := .agg _) (results_cell4 (fn := Tryz.f80) rfl hf.1 rfl) rfl hf.2
theorem rst_return (C : RC) (F : Nat) (w : World) (i : Nat) (h : RSt C w i false) (hwet : mbr (statM C.L (F + 1) i) i false ≠ .dry) (HTY : ROk C 43 (typM C.L F)) (HRO : ROk C 99 (roundM C.L (unaryM C.L F))) (HEX : ROk C 79 (exprF C.L F)) (HBL : ROk C 46 (blockM C.L (statM C.L F))) (HSI : ROk C 100 (simpleR0 C.L F)) (h1 : tIs C.L ⟨#[105, 102]⟩ i = false) (h2 : tIs C.L ⟨#[119, 104, 105, 108, 101]⟩ i = false) (h3 : tIs C.L ⟨#[114, 101, 116, 117, 114, 110]⟩ i = true) : Calls Tryz.prog 80 #[.pointer (some ⟨C.p, 0, none⟩)] w (RNode C w (mbr (statM C.L (F + 1) i) i false)) := by
 obtain ⟨R, HR⟩ : ∃ R, Hid (mbr (statM C.L (F + 1) i) i false = R) := ⟨_, rfl⟩
 rw [HR.out] at hwet ⊢
 have HW := Lib.hid hwet
 have hR := HR.out
 rw [statM] at hR
 replace HR := Lib.hid hR
 have HS := Lib.hid (h.st.box 24 #[.int .i64 0, .string ⟨#[]⟩, .int .i64 0, .slice none 0 0])
 clear h hR hwet
 go_enter Tryz.func80, Tryz.ntmps80
 go_upto_region 1 with (fail)
 generalize w.alloc (.cells #[.int .i64 0, .string ⟨#[]⟩, .int .i64 0, .slice none 0 0] 24) = w0 at *
 go_upto_region 2 with (fail)
 replace HS := Lib.hid (HS.out.box 24 #[.int .i64 0, .string ⟨#[]⟩, .int .i64 0, .slice none 0 0])
 generalize w0.alloc (.cells #[.int .i64 0, .string ⟨#[]⟩, .int .i64 0, .slice none 0 0] 24) = w1 at *
 generalize w0.heap.size = n_ at *
 have q2 := HS.out.z.blk.cell 2 (.bool false) rfl
 go_wp2_with fail
 clear q2
 refine (eatN HS.out (by simp [h1])).mono ?_
 clear HS; rintro e w2 ⟨rfl, HS⟩
 replace HR := Lib.hid (mbr_no HR.out (fun _ => by rw [h1]; simp))
 go_wp2_with fail
 refine (eatN HS.out (by simp [h2])).mono ?_
 clear HS; rintro e w3 ⟨rfl, HS⟩
 replace HR := Lib.hid (mbr_no HR.out (fun _ => by rw [h2]; simp))
 go_wp2_with fail
 refine (txtq HS.out 0 (by omega)).mono ?_
 clear HS; rintro e w4 ⟨rfl, HS⟩
 rw [Nat.add_zero]
 go_wp2_with fail
 refine (eatY HS.out h3).mono ?_
 clear HS; rintro e w5 ⟨rfl, HS⟩
 replace HR := Lib.hid (mbr_yes (j := i + 1) HR.out h3)
 go_wp2_with fail
 refine (rsubq HEX HS.out (mbr_wet HR.out HW.out)).mono ?_
 clear HS; rintro e w6 ⟨x, j1, b1, Ax, cx, Vx, rfl, HS, hf⟩
 replace HR := Lib.hid (mbr_seq HR.out HW.out hf)
 clear hf
 go_upto_region 20 with (fail)
 replace HS := Lib.hid (HS.out.box 24 #[.int .i64 x.k, .string x.t, .int .i64 x.num, .slice Ax x.kids.length cx])
 generalize w6.alloc (.cells #[.int .i64 x.k, .string x.t, .int .i64 x.num, .slice Ax x.kids.length cx] 24) = w7 at *
 generalize w6.heap.size = bx_ at *
 replace HS := Lib.hid HS.out.f2
 obtain ⟨-, -, -, -, b0, b1, b2, b3⟩ := (HS.out.blk 1 rfl).all4
 obtain ⟨f0, f1, f2, f3, g0, g1, g2, g3⟩ := HS.out.one.all4
 have hne := Nat.ne_of_lt HS.out.one.lt
 have hlt := HS.out.one.lt
 go_wp2_with fail
 clear f0 f1 f2 f3 g0 g1 g2 g3 hne hlt b0 b1 b2 b3
 replace HS := Lib.hid (HS.out.putbox (.int .i64 18) (.string ⟨#[]⟩) (.int .i64 0) (.slice (some ⟨w7.heap.size, 0, none⟩) 1 1) 24 #[.int .i64 x.k, .string x.t, .int .i64 x.num, .slice Ax x.kids.length cx])
 generalize ((((w7.setCell ⟨n_, 0, none⟩ (.int .i64 18)).setCell ⟨n_, 1, none⟩ (.string ⟨#[]⟩)).setCell ⟨n_, 2, none⟩ (.int .i64 0)).setCell ⟨n_, 3, none⟩ (.slice (some ⟨w7.heap.size, 0, none⟩) 1 1)).alloc (.cells #[.int .i64 x.k, .string x.t, .int .i64 x.num, .slice Ax x.kids.length cx] 24) = w8 at *
 generalize w7.heap.size = y_ at *
 refine (mustq HS.out ⟨#[59]⟩).mono ?_
 clear HS; rintro e w9 ⟨j2, b2, rfl, HS, hf⟩
 replace HR := Lib.hid (mbr_seq HR.out HW.out hf)
 clear hf
 replace HS := Lib.hid HS.out.f3
 replace HS := Lib.hid HS.out.f1
 replace HS := Lib.hid (HS.out.kid1 18 ⟨#[]⟩ 0 i64_0 (Nat.zero_le _))
 replace HS := Lib.hid HS.out.f3
 replace HS := Lib.hid HS.out.f1
 obtain ⟨-, -, -, -, b0, b1, b2, b3⟩ := (HS.out.blk 2 rfl).all4
 obtain ⟨f0, f1, f2, f3, g0, g1, g2, g3⟩ := (HS.out.blk 1 rfl).all4
 go_wp2_with fail
 have hf := rfinO HS.out (mbr_fin HR.out)
 try simp only [List.length_append, List.length_cons, List.length_nil, Nat.zero_add] at hf
 exact bodyPost_ret (v := .agg _) (results_cell4 (fn := Tryz.f80) rfl hf.1 rfl) rfl hf.2
theorem rst_put (C : RC) (F : Nat) (w : World) (i : Nat) (h : RSt C w i false) (hwet : mbr (statM C.L (F + 1) i) i false ≠ .dry) (HTY : ROk C 43 (typM C.L F)) (HRO : ROk C 99 (roundM C.L (unaryM C.L F))) (HEX : ROk C 79 (exprF C.L F)) (HBL : ROk C 46 (blockM C.L (statM C.L F))) (HSI : ROk C 100 (simpleR0 C.L F)) (h1 : tIs C.L ⟨#[105, 102]⟩ i = false) (h2 : tIs C.L ⟨#[119, 104, 105, 108, 101]⟩ i = false) (h3 : tIs C.L ⟨#[114, 101, 116, 117, 114, 110]⟩ i = false) (h4 : tIs C.L ⟨#[112, 117, 116]⟩ i = true) : Calls Tryz.prog 80 #[.pointer (some ⟨C.p, 0, none⟩)] w (RNode C w (mbr (statM C.L (F + 1) i) i false)) := by
 obtain ⟨R, HR⟩ : ∃ R, Hid (mbr (statM C.L (F + 1) i) i false = R) := ⟨_, rfl⟩
 rw [HR.out] at hwet ⊢
 have HW := Lib.hid hwet
 have hR := HR.out
 rw [statM] at hR
 replace HR := Lib.hid hR
 have HS := Lib.hid (h.st.box 24 #[.int .i64 0, .string ⟨#[]⟩, .int .i64 0, .slice none 0 0])
 clear h hR hwet
 go_enter Tryz.func80, Tryz.ntmps80
 go_upto_region 1 with (fail)
 generalize w.alloc (.cells #[.int .i64 0, .string ⟨#[]⟩, .int .i64 0, .slice none 0 0] 24) = w0 at *
 go_upto_region 2 with (fail)
 replace HS := Lib.hid (HS.out.box 24 #[.int .i64 0, .string ⟨#[]⟩, .int .i64 0, .slice none 0 0])
 generalize w0.alloc (.cells #[.int .i64 0, .string ⟨#[]⟩, .int .i64 0, .slice none 0 0] 24) = w1 at *
 generalize w0.heap.size = n_ at *
 have q2 := HS.out.z.blk.cell 2 (.bool false) rfl
 go_wp2_with fail
 clear q2
 refine (eatN HS.out (by simp [h1])).mono ?_
 clear HS; rintro e w2 ⟨rfl, HS⟩
 replace HR := Lib.hid (mbr_no HR.out (fun _ => by rw [h1]; simp))
 go_wp2_with fail
 refine (eatN HS.out (by simp [h2])).mono ?_
 clear HS; rintro e w3 ⟨rfl, HS⟩
 replace HR := Lib.hid (mbr_no HR.out (fun _ => by rw [h2]; simp))
 go_wp2_with fail
 refine (txtq HS.out 0 (by omega)).mono ?_
 clear HS; rintro e w4 ⟨rfl, HS⟩
 rw [Nat.add_zero]
 go_wp2_with fail
 refine (eatN HS.out (by simp [h3])).mono ?_
 clear HS; rintro e w5 ⟨rfl, HS⟩
 replace HR := Lib.hid (mbr_no HR.out (fun _ => by rw [h3]; simp))
 go_wp2_with fail
 refine (eatY HS.out h4).mono ?_
 clear HS; rintro e w6 ⟨rfl, HS⟩
 replace HR := Lib.hid (mbr_yes (j := i + 1) HR.out h4)
 go_wp2_with fail
 refine (rsubq HRO HS.out (mbr_wet HR.out HW.out)).mono ?_
 clear HS; rintro e w7 ⟨x, j1, b1, Ax, cx, Vx, rfl, HS, hf⟩
 replace HR := Lib.hid (mbr_seq HR.out HW.out hf)
 clear hf
 go_upto_region 23 with (fail)
 replace HS := Lib.hid (HS.out.box 24 #[.int .i64 x.k, .string x.t, .int .i64 x.num, .slice Ax x.kids.length cx])
 generalize w7.alloc (.cells #[.int .i64 x.k, .string x.t, .int .i64 x.num, .slice Ax x.kids.length cx] 24) = w8 at *
 generalize w7.heap.size = bx_ at *
 replace HS := Lib.hid HS.out.f2
 obtain ⟨-, -, -, -, b0, b1, b2, b3⟩ := (HS.out.blk 1 rfl).all4
 obtain ⟨f0, f1, f2, f3, g0, g1, g2, g3⟩ := HS.out.one.all4
 have hne := Nat.ne_of_lt HS.out.one.lt
 have hlt := HS.out.one.lt
 go_wp2_with fail
 clear f0 f1 f2 f3 g0 g1 g2 g3 hne hlt b0 b1 b2 b3
 replace HS := Lib.hid (HS.out.putbox (.int .i64 19) (.string ⟨#[]⟩) (.int .i64 0) (.slice (some ⟨w8.heap.size, 0, none⟩) 1 1) 24 #[.int .i64 x.k, .string x.t, .int .i64 x.num, .slice Ax x.kids.length cx])
 generalize ((((w8.setCell ⟨n_, 0, none⟩ (.int .i64 19)).setCell ⟨n_, 1, none⟩ (.string ⟨#[]⟩)).setCell ⟨n_, 2, none⟩ (.int .i64 0)).setCell ⟨n_, 3, none⟩ (.slice (some ⟨w8.heap.size, 0, none⟩) 1 1)).alloc (.cells #[.int .i64 x.k, .string x.t, .int .i64 x.num, .slice Ax x.kids.length cx] 24) = w9 at *
 generalize w8.heap.size = y_ at *
 refine (mustq HS.out ⟨#[59]⟩).mono ?_
 clear HS; rintro e w10 ⟨j2, b2, rfl, HS, hf⟩
 replace HR := Lib.hid (mbr_seq HR.out HW.out hf)
 clear hf
 replace HS := Lib.hid HS.out.f3
 replace HS := Lib.hid HS.out.f1
 replace HS := Lib.hid (HS.out.kid1 19 ⟨#[]⟩ 0 i64_0 (Nat.zero_le _))
 replace HS := Lib.hid HS.out.f3
 replace HS := Lib.hid HS.out.f1
 obtain ⟨-, -, -, -, b0, b1, b2, b3⟩ := (HS.out.blk 2 rfl).all4
 obtain ⟨f0, f1, f2, f3, g0, g1, g2, g3⟩ := (HS.out.blk 1 rfl).all4
 go_wp2_with fail
 have hf := rfinO HS.out (mbr_fin HR.out)
 try simp only [List.length_append, List.length_cons, List.length_nil, Nat.zero_add] at hf
 exact bodyPost_ret (v := .agg _) (results_cell4 (fn := Tryz.f80) rfl hf.1 rfl) rfl hf.2
end Go.Proofs.YtgegfbopogcjpaaGreatDoor
namespace Go.Proofs.YtgegfbopogcjpaaGreatDoor
open Go.RowKit
set_option linter.unusedVariables false
set_option linter.unusedSimpArgs false
set_option maxRecDepth 100000
set_option maxHeartbeats 4000000
theorem rst_bad (C : RC) (m : Nat → Res Nd) (w : World) (i : Nat) (h : RSt C w i true)  : Calls Tryz.prog 80 #[.pointer (some ⟨C.p, 0, none⟩)] w (RNode C w (mbr (m i) i true)) := by
 obtain ⟨R, HR⟩ : ∃ R, Hid (mbr (m i) i true = R) := ⟨_, rfl⟩
 rw [HR.out] at ⊢
 have hR := HR.out
 skip
 replace HR := Lib.hid hR
 have HS := Lib.hid (h.st.box 24 #[.int .i64 0, .string ⟨#[]⟩, .int .i64 0, .slice none 0 0])
 clear h hR
 go_enter Tryz.func80, Tryz.ntmps80
 go_upto_region 1 with (fail)
 generalize w.alloc (.cells #[.int .i64 0, .string ⟨#[]⟩, .int .i64 0, .slice none 0 0] 24) = w0 at *
 go_upto_region 2 with (fail)
 replace HS := Lib.hid (HS.out.box 24 #[.int .i64 0, .string ⟨#[]⟩, .int .i64 0, .slice none 0 0])
 generalize w0.alloc (.cells #[.int .i64 0, .string ⟨#[]⟩, .int .i64 0, .slice none 0 0] 24) = w1 at *
 generalize w0.heap.size = n_ at *
 have q2 := HS.out.z.blk.cell 2 (.bool true) rfl
 replace HS := Lib.hid (HS.out.leaf 0 ⟨#[]⟩ 0 i64_0 (Nat.zero_le _))
 replace HS := Lib.hid HS.out.f2
 replace HS := Lib.hid HS.out.f1
 obtain ⟨-, -, -, -, b0, b1, b2, b3⟩ := (HS.out.blk 2 rfl).all4
 obtain ⟨f0, f1, f2, f3, g0, g1, g2, g3⟩ := (HS.out.blk 1 rfl).all4
 go_wp2_with fail
 have hf := rfinO HS.out (mbr_true HR.out)
 try simp only [List.length_append, List.length_cons, List.length_nil, Nat.zero_add] at hf
 exact bodyPost_ret (v := .agg _) (results_cell4 (fn := Tryz.f80) rfl hf.1 rfl) rfl hf.2
theorem rst_vint (C : RC) (F : Nat) (w : World) (i : Nat) (h : RSt C w i false) (hwet : mbr (statM C.L (F + 1) i) i false ≠ .dry) (HTY : ROk C 43 (typM C.L F)) (HRO : ROk C 99 (roundM C.L (unaryM C.L F))) (HEX : ROk C 79 (exprF C.L F)) (HBL : ROk C 46 (blockM C.L (statM C.L F))) (HSI : ROk C 100 (simpleR0 C.L F)) (h1 : tIs C.L ⟨#[105, 102]⟩ i = false) (h2 : tIs C.L ⟨#[119, 104, 105, 108, 101]⟩ i = false) (h3 : tIs C.L ⟨#[114, 101, 116, 117, 114, 110]⟩ i = false) (h4 : tIs C.L ⟨#[112, 117, 116]⟩ i = false) (v1 : tIs C.L ⟨#[105, 110, 116]⟩ i = true)  (hc : tIn C.L [⟨#[105, 110, 116]⟩, ⟨#[108, 111, 110, 103]⟩, ⟨#[102, 110]⟩] i = true ∨ (tNm C.L i = true ∧ tNm C.L (i + 1) = true)) : Calls Tryz.prog 80 #[.pointer (some ⟨C.p, 0, none⟩)] w (RNode C w (mbr (statM C.L (F + 1) i) i false)) := by
 obtain ⟨R, HR⟩ : ∃ R, Hid (mbr (statM C.L (F + 1) i) i false = R) := ⟨_, rfl⟩
 rw [HR.out] at hwet ⊢
 have HW := Lib.hid hwet
 have hR := HR.out
 rw [statM] at hR
 replace HR := Lib.hid hR
 have HS := Lib.hid (h.st.box 24 #[.int .i64 0, .string ⟨#[]⟩, .int .i64 0, .slice none 0 0])
 clear h hR hwet
 go_enter Tryz.func80, Tryz.ntmps80
 go_upto_region 1 with (fail)
 generalize w.alloc (.cells #[.int .i64 0, .string ⟨#[]⟩, .int .i64 0, .slice none 0 0] 24) = w0 at *
 go_upto_region 2 with (fail)
 replace HS := Lib.hid (HS.out.box 24 #[.int .i64 0, .string ⟨#[]⟩, .int .i64 0, .slice none 0 0])
 generalize w0.alloc (.cells #[.int .i64 0, .string ⟨#[]⟩, .int .i64 0, .slice none 0 0] 24) = w1 at *
 generalize w0.heap.size = n_ at *
 have q2 := HS.out.z.blk.cell 2 (.bool false) rfl
 go_wp2_with fail
 clear q2
 refine (eatN HS.out (by simp [h1])).mono ?_
 clear HS; rintro e w2 ⟨rfl, HS⟩
 replace HR := Lib.hid (mbr_no HR.out (fun _ => by rw [h1]; simp))
 go_wp2_with fail
 refine (eatN HS.out (by simp [h2])).mono ?_
 clear HS; rintro e w3 ⟨rfl, HS⟩
 replace HR := Lib.hid (mbr_no HR.out (fun _ => by rw [h2]; simp))
 go_wp2_with fail
 refine (txtq HS.out 0 (by omega)).mono ?_
 clear HS; rintro e w4 ⟨rfl, HS⟩
 rw [Nat.add_zero]
 have hx0 : ((txR C.L i).toList == [105, 110, 116]) = true := (lit_beq _ _).trans ((txR_is HS.out.z.ok (s := ⟨#[105, 110, 116]⟩) (by decide) _).trans v1)
 generalize txR C.L i = tx at *
 go_wp2_with fail
 refine (eatN HS.out (by simp [h3])).mono ?_
 clear HS; rintro e w5 ⟨rfl, HS⟩
 replace HR := Lib.hid (mbr_no HR.out (fun _ => by rw [h3]; simp))
 go_wp2_with fail
 refine (eatN HS.out (by simp [h4])).mono ?_
 clear HS; rintro e w6 ⟨rfl, HS⟩
 replace HR := Lib.hid (mbr_no HR.out (fun _ => by rw [h4]; simp))
 go_wp2_with fail
 clear hx0
 replace HR := Lib.hid (mbr_yes (j := i) HR.out hc)
 refine (rsubq HTY HS.out (mbr_wet HR.out HW.out)).mono ?_
 clear HS; rintro e w7 ⟨t, j1, b1, At, ct, Vt, rfl, HS, hf⟩
 replace HR := Lib.hid (mbr_seq HR.out HW.out hf)
 clear hf
 go_upto_region 26 with (fail)
 replace HS := Lib.hid (HS.out.box 24 #[.int .i64 t.k, .string t.t, .int .i64 t.num, .slice At t.kids.length ct])
 generalize w7.alloc (.cells #[.int .i64 t.k, .string t.t, .int .i64 t.num, .slice At t.kids.length ct] 24) = w8 at *
 generalize w7.heap.size = bt at *
 go_wp2_with fail
 refine (nmq HS.out).mono ?_
 clear HS; rintro e w9 ⟨x, j2, b2, rfl, hx, HS, hf⟩
 replace HR := Lib.hid (mbr_seq HR.out HW.out hf)
 clear hf
 replace HS := Lib.hid HS.out.f2
 obtain ⟨f0, f1, f2, f3, g0, g1, g2, g3⟩ := HS.out.one.all4
 go_wp2_with fail
 clear f0 f1 f2 f3 g0 g1 g2 g3
 replace HS := Lib.hid (HS.out.put4 (.int .i64 14) (.string x) (.int .i64 0) (.slice none 0 0))
 generalize (((((w9).setCell ⟨n_, 0, none⟩ (.int .i64 14)).setCell ⟨n_, 1, none⟩ (.string x)).setCell ⟨n_, 2, none⟩ (.int .i64 0)).setCell ⟨n_, 3, none⟩ (.slice none 0 0)) = w10 at *
 refine (mustq HS.out ⟨#[61]⟩).mono ?_
 clear HS; rintro e w11 ⟨j3, b3, rfl, HS, hf⟩
 replace HR := Lib.hid (mbr_seq HR.out HW.out hf)
 clear hf
 go_wp2_with fail
 refine (rsubq HEX HS.out (mbr_wet HR.out HW.out)).mono ?_
 clear HS; rintro e w12 ⟨y, j4, b4, Ay, cy, Vy, rfl, HS, hf⟩
 replace HR := Lib.hid (mbr_seq HR.out HW.out hf)
 clear hf
 go_upto_region 29 with (fail)
 replace HS := Lib.hid (HS.out.box 24 #[.int .i64 y.k, .string y.t, .int .i64 y.num, .slice Ay y.kids.length cy])
 generalize w12.alloc (.cells #[.int .i64 y.k, .string y.t, .int .i64 y.num, .slice Ay y.kids.length cy] 24) = w13 at *
 generalize w12.heap.size = by_ at *
 replace HS := Lib.hid HS.out.f2
 obtain ⟨-, -, -, -, b0, b1, b2, b3⟩ := (HS.out.blk 3 rfl).all4
 obtain ⟨-, -, -, -, c0, c1, c2, c3⟩ := (HS.out.blk 1 rfl).all4
 have f3 := HS.out.one.free 3
 have g3 := HS.out.one.cell 3 _ rfl
 have hne := Nat.ne_of_lt HS.out.one.lt
 have hlt := HS.out.one.lt
 go_wp2_with fail
 clear f3 g3 hne hlt b0 b1 b2 b3 c0 c1 c2 c3
 replace HS := Lib.hid (HS.out.putbox1 3 (.slice (some ⟨w13.heap.size, 0, none⟩) 2 2) 24 #[.int .i64 t.k, .string t.t, .int .i64 t.num, .slice At t.kids.length ct, .int .i64 y.k, .string y.t, .int .i64 y.num, .slice Ay y.kids.length cy])
 simp only [List.setIfInBounds_toArray, List.set_cons_zero, List.set_cons_succ] at HS
 generalize (w13.setCell ⟨n_, 3, none⟩ (.slice (some ⟨w13.heap.size, 0, none⟩) 2 2)).alloc (.cells #[.int .i64 t.k, .string t.t, .int .i64 t.num, .slice At t.kids.length ct, .int .i64 y.k, .string y.t, .int .i64 y.num, .slice Ay y.kids.length cy] 24) = w14 at *
 generalize w13.heap.size = m_ at *
 refine (mustq HS.out ⟨#[59]⟩).mono ?_
 clear HS; rintro e w15 ⟨j5, b5, rfl, HS, hf⟩
 replace HR := Lib.hid (mbr_seq HR.out HW.out hf)
 clear hf
 replace HS := Lib.hid HS.out.f3
 replace HS := Lib.hid HS.out.f5
 replace HS := Lib.hid HS.out.f2
 replace HS := Lib.hid (HS.out.kid2 (x := t) (z := y) 14 x 0 i64_0 hx)
 replace HS := Lib.hid HS.out.f4
 replace HS := Lib.hid HS.out.f1
 obtain ⟨-, -, -, -, b0, b1, b2, b3⟩ := (HS.out.blk 2 rfl).all4
 obtain ⟨f0, f1, f2, f3, g0, g1, g2, g3⟩ := (HS.out.blk 1 rfl).all4
 go_wp2_with fail
 have hf := rfinO HS.out (mbr_fin HR.out)
 try simp only [List.length_append, List.length_cons, List.length_nil, Nat.zero_add] at hf
 exact bodyPost_ret (v := .agg _) (results_cell4 (fn := Tryz.f80) rfl hf.1 rfl) rfl hf.2
theorem rst_vlong (C : RC) (F : Nat) (w : World) (i : Nat) (h : RSt C w i false) (hwet : mbr (statM C.L (F + 1) i) i false ≠ .dry) (HTY : ROk C 43 (typM C.L F)) (HRO : ROk C 99 (roundM C.L (unaryM C.L F))) (HEX : ROk C 79 (exprF C.L F)) (HBL : ROk C 46 (blockM C.L (statM C.L F))) (HSI : ROk C 100 (simpleR0 C.L F)) (h1 : tIs C.L ⟨#[105, 102]⟩ i = false) (h2 : tIs C.L ⟨#[119, 104, 105, 108, 101]⟩ i = false) (h3 : tIs C.L ⟨#[114, 101, 116, 117, 114, 110]⟩ i = false) (h4 : tIs C.L ⟨#[112, 117, 116]⟩ i = false) (v1 : tIs C.L ⟨#[105, 110, 116]⟩ i = false) (v2 : tIs C.L ⟨#[108, 111, 110, 103]⟩ i = true)  (hc : tIn C.L [⟨#[105, 110, 116]⟩, ⟨#[108, 111, 110, 103]⟩, ⟨#[102, 110]⟩] i = true ∨ (tNm C.L i = true ∧ tNm C.L (i + 1) = true)) : Calls Tryz.prog 80 #[.pointer (some ⟨C.p, 0, none⟩)] w (RNode C w (mbr (statM C.L (F + 1) i) i false)) := by
 obtain ⟨R, HR⟩ : ∃ R, Hid (mbr (statM C.L (F + 1) i) i false = R) := ⟨_, rfl⟩
 rw [HR.out] at hwet ⊢
 have HW := Lib.hid hwet
 have hR := HR.out
 rw [statM] at hR
 replace HR := Lib.hid hR
 have HS := Lib.hid (h.st.box 24 #[.int .i64 0, .string ⟨#[]⟩, .int .i64 0, .slice none 0 0])
 clear h hR hwet
 go_enter Tryz.func80, Tryz.ntmps80
 go_upto_region 1 with (fail)
 generalize w.alloc (.cells #[.int .i64 0, .string ⟨#[]⟩, .int .i64 0, .slice none 0 0] 24) = w0 at *
 go_upto_region 2 with (fail)
 replace HS := Lib.hid (HS.out.box 24 #[.int .i64 0, .string ⟨#[]⟩, .int .i64 0, .slice none 0 0])
 generalize w0.alloc (.cells #[.int .i64 0, .string ⟨#[]⟩, .int .i64 0, .slice none 0 0] 24) = w1 at *
 generalize w0.heap.size = n_ at *
 have q2 := HS.out.z.blk.cell 2 (.bool false) rfl
 go_wp2_with fail
 clear q2
 refine (eatN HS.out (by simp [h1])).mono ?_
 clear HS; rintro e w2 ⟨rfl, HS⟩
 replace HR := Lib.hid (mbr_no HR.out (fun _ => by rw [h1]; simp))
 go_wp2_with fail
 refine (eatN HS.out (by simp [h2])).mono ?_
 clear HS; rintro e w3 ⟨rfl, HS⟩
 replace HR := Lib.hid (mbr_no HR.out (fun _ => by rw [h2]; simp))
 go_wp2_with fail
 refine (txtq HS.out 0 (by omega)).mono ?_
 clear HS; rintro e w4 ⟨rfl, HS⟩
 rw [Nat.add_zero]
 have hx0 : ((txR C.L i).toList == [105, 110, 116]) = false := (lit_beq _ _).trans ((txR_is HS.out.z.ok (s := ⟨#[105, 110, 116]⟩) (by decide) _).trans v1)
 have hx1 : ((txR C.L i).toList == [108, 111, 110, 103]) = true := (lit_beq _ _).trans ((txR_is HS.out.z.ok (s := ⟨#[108, 111, 110, 103]⟩) (by decide) _).trans v2)
 generalize txR C.L i = tx at *
 go_wp2_with fail
 refine (eatN HS.out (by simp [h3])).mono ?_
 clear HS; rintro e w5 ⟨rfl, HS⟩
 replace HR := Lib.hid (mbr_no HR.out (fun _ => by rw [h3]; simp))
 go_wp2_with fail
 refine (eatN HS.out (by simp [h4])).mono ?_
 clear HS; rintro e w6 ⟨rfl, HS⟩
 replace HR := Lib.hid (mbr_no HR.out (fun _ => by rw [h4]; simp))
 go_wp2_with fail
 clear hx0 hx1
 replace HR := Lib.hid (mbr_yes (j := i) HR.out hc)
 refine (rsubq HTY HS.out (mbr_wet HR.out HW.out)).mono ?_
 clear HS; rintro e w7 ⟨t, j1, b1, At, ct, Vt, rfl, HS, hf⟩
 replace HR := Lib.hid (mbr_seq HR.out HW.out hf)
 clear hf
 go_upto_region 26 with (fail)
 replace HS := Lib.hid (HS.out.box 24 #[.int .i64 t.k, .string t.t, .int .i64 t.num, .slice At t.kids.length ct])
 generalize w7.alloc (.cells #[.int .i64 t.k, .string t.t, .int .i64 t.num, .slice At t.kids.length ct] 24) = w8 at *
 generalize w7.heap.size = bt at *
 go_wp2_with fail
 refine (nmq HS.out).mono ?_
 clear HS; rintro e w9 ⟨x, j2, b2, rfl, hx, HS, hf⟩
 replace HR := Lib.hid (mbr_seq HR.out HW.out hf)
 clear hf
 replace HS := Lib.hid HS.out.f2
 obtain ⟨f0, f1, f2, f3, g0, g1, g2, g3⟩ := HS.out.one.all4
 go_wp2_with fail
 clear f0 f1 f2 f3 g0 g1 g2 g3
 replace HS := Lib.hid (HS.out.put4 (.int .i64 14) (.string x) (.int .i64 0) (.slice none 0 0))
 generalize (((((w9).setCell ⟨n_, 0, none⟩ (.int .i64 14)).setCell ⟨n_, 1, none⟩ (.string x)).setCell ⟨n_, 2, none⟩ (.int .i64 0)).setCell ⟨n_, 3, none⟩ (.slice none 0 0)) = w10 at *
 refine (mustq HS.out ⟨#[61]⟩).mono ?_
 clear HS; rintro e w11 ⟨j3, b3, rfl, HS, hf⟩
 replace HR := Lib.hid (mbr_seq HR.out HW.out hf)
 clear hf
 go_wp2_with fail
 refine (rsubq HEX HS.out (mbr_wet HR.out HW.out)).mono ?_
 clear HS; rintro e w12 ⟨y, j4, b4, Ay, cy, Vy, rfl, HS, hf⟩
 replace HR := Lib.hid (mbr_seq HR.out HW.out hf)
 clear hf
 go_upto_region 29 with (fail)
 replace HS := Lib.hid (HS.out.box 24 #[.int .i64 y.k, .string y.t, .int .i64 y.num, .slice Ay y.kids.length cy])
 generalize w12.alloc (.cells #[.int .i64 y.k, .string y.t, .int .i64 y.num, .slice Ay y.kids.length cy] 24) = w13 at *
 generalize w12.heap.size = by_ at *
 replace HS := Lib.hid HS.out.f2
 obtain ⟨-, -, -, -, b0, b1, b2, b3⟩ := (HS.out.blk 3 rfl).all4
 obtain ⟨-, -, -, -, c0, c1, c2, c3⟩ := (HS.out.blk 1 rfl).all4
 have f3 := HS.out.one.free 3
 have g3 := HS.out.one.cell 3 _ rfl
 have hne := Nat.ne_of_lt HS.out.one.lt
 have hlt := HS.out.one.lt
 go_wp2_with fail
 clear f3 g3 hne hlt b0 b1 b2 b3 c0 c1 c2 c3
 replace HS := Lib.hid (HS.out.putbox1 3 (.slice (some ⟨w13.heap.size, 0, none⟩) 2 2) 24 #[.int .i64 t.k, .string t.t, .int .i64 t.num, .slice At t.kids.length ct, .int .i64 y.k, .string y.t, .int .i64 y.num, .slice Ay y.kids.length cy])
 simp only [List.setIfInBounds_toArray, List.set_cons_zero, List.set_cons_succ] at HS
 generalize (w13.setCell ⟨n_, 3, none⟩ (.slice (some ⟨w13.heap.size, 0, none⟩) 2 2)).alloc (.cells #[.int .i64 t.k, .string t.t, .int .i64 t.num, .slice At t.kids.length ct, .int .i64 y.k, .string y.t, .int .i64 y.num, .slice Ay y.kids.length cy] 24) = w14 at *
 generalize w13.heap.size = m_ at *
 refine (mustq HS.out ⟨#[59]⟩).mono ?_
 clear HS; rintro e w15 ⟨j5, b5, rfl, HS, hf⟩
 replace HR := Lib.hid (mbr_seq HR.out HW.out hf)
 clear hf
 replace HS := Lib.hid HS.out.f3
 replace HS := Lib.hid HS.out.f5
 replace HS := Lib.hid HS.out.f2
 replace HS := Lib.hid (HS.out.kid2 (x := t) (z := y) 14 x 0 i64_0 hx)
 replace HS := Lib.hid HS.out.f4
 replace HS := Lib.hid HS.out.f1
 obtain ⟨-, -, -, -, b0, b1, b2, b3⟩ := (HS.out.blk 2 rfl).all4
 obtain ⟨f0, f1, f2, f3, g0, g1, g2, g3⟩ := (HS.out.blk 1 rfl).all4
 go_wp2_with fail
 have hf := rfinO HS.out (mbr_fin HR.out)
 try simp only [List.length_append, List.length_cons, List.length_nil, Nat.zero_add] at hf
 exact bodyPost_ret (v := .agg _) (results_cell4 (fn := Tryz.f80) rfl hf.1 rfl) rfl hf.2
theorem rst_vfn (C : RC) (F : Nat) (w : World) (i : Nat) (h : RSt C w i false) (hwet : mbr (statM C.L (F + 1) i) i false ≠ .dry) (HTY : ROk C 43 (typM C.L F)) (HRO : ROk C 99 (roundM C.L (unaryM C.L F))) (HEX : ROk C 79 (exprF C.L F)) (HBL : ROk C 46 (blockM C.L (statM C.L F))) (HSI : ROk C 100 (simpleR0 C.L F)) (h1 : tIs C.L ⟨#[105, 102]⟩ i = false) (h2 : tIs C.L ⟨#[119, 104, 105, 108, 101]⟩ i = false) (h3 : tIs C.L ⟨#[114, 101, 116, 117, 114, 110]⟩ i = false) (h4 : tIs C.L ⟨#[112, 117, 116]⟩ i = false) (v1 : tIs C.L ⟨#[105, 110, 116]⟩ i = false) (v2 : tIs C.L ⟨#[108, 111, 110, 103]⟩ i = false) (v3 : tIs C.L ⟨#[102, 110]⟩ i = true)  (hc : tIn C.L [⟨#[105, 110, 116]⟩, ⟨#[108, 111, 110, 103]⟩, ⟨#[102, 110]⟩] i = true ∨ (tNm C.L i = true ∧ tNm C.L (i + 1) = true)) : Calls Tryz.prog 80 #[.pointer (some ⟨C.p, 0, none⟩)] w (RNode C w (mbr (statM C.L (F + 1) i) i false)) := by
 obtain ⟨R, HR⟩ : ∃ R, Hid (mbr (statM C.L (F + 1) i) i false = R) := ⟨_, rfl⟩
 rw [HR.out] at hwet ⊢
 have HW := Lib.hid hwet
 have hR := HR.out
 rw [statM] at hR
 replace HR := Lib.hid hR
 have HS := Lib.hid (h.st.box 24 #[.int .i64 0, .string ⟨#[]⟩, .int .i64 0, .slice none 0 0])
 clear h hR hwet
 go_enter Tryz.func80, Tryz.ntmps80
 go_upto_region 1 with (fail)
 generalize w.alloc (.cells #[.int .i64 0, .string ⟨#[]⟩, .int .i64 0, .slice none 0 0] 24) = w0 at *
 go_upto_region 2 with (fail)
 replace HS := Lib.hid (HS.out.box 24 #[.int .i64 0, .string ⟨#[]⟩, .int .i64 0, .slice none 0 0])
 generalize w0.alloc (.cells #[.int .i64 0, .string ⟨#[]⟩, .int .i64 0, .slice none 0 0] 24) = w1 at *
 generalize w0.heap.size = n_ at *
 have q2 := HS.out.z.blk.cell 2 (.bool false) rfl
 go_wp2_with fail
 clear q2
 refine (eatN HS.out (by simp [h1])).mono ?_
 clear HS; rintro e w2 ⟨rfl, HS⟩
 replace HR := Lib.hid (mbr_no HR.out (fun _ => by rw [h1]; simp))
 go_wp2_with fail
 refine (eatN HS.out (by simp [h2])).mono ?_
 clear HS; rintro e w3 ⟨rfl, HS⟩
 replace HR := Lib.hid (mbr_no HR.out (fun _ => by rw [h2]; simp))
 go_wp2_with fail
 refine (txtq HS.out 0 (by omega)).mono ?_
 clear HS; rintro e w4 ⟨rfl, HS⟩
 rw [Nat.add_zero]
 have hx0 : ((txR C.L i).toList == [105, 110, 116]) = false := (lit_beq _ _).trans ((txR_is HS.out.z.ok (s := ⟨#[105, 110, 116]⟩) (by decide) _).trans v1)
 have hx1 : ((txR C.L i).toList == [108, 111, 110, 103]) = false := (lit_beq _ _).trans ((txR_is HS.out.z.ok (s := ⟨#[108, 111, 110, 103]⟩) (by decide) _).trans v2)
 have hx2 : ((txR C.L i).toList == [102, 110]) = true := (lit_beq _ _).trans ((txR_is HS.out.z.ok (s := ⟨#[102, 110]⟩) (by decide) _).trans v3)
 generalize txR C.L i = tx at *
 go_wp2_with fail
 refine (eatN HS.out (by simp [h3])).mono ?_
 clear HS; rintro e w5 ⟨rfl, HS⟩
 replace HR := Lib.hid (mbr_no HR.out (fun _ => by rw [h3]; simp))
 go_wp2_with fail
 refine (eatN HS.out (by simp [h4])).mono ?_
 clear HS; rintro e w6 ⟨rfl, HS⟩
 replace HR := Lib.hid (mbr_no HR.out (fun _ => by rw [h4]; simp))
 go_wp2_with fail
 clear hx0 hx1 hx2
 replace HR := Lib.hid (mbr_yes (j := i) HR.out hc)
 refine (rsubq HTY HS.out (mbr_wet HR.out HW.out)).mono ?_
 clear HS; rintro e w7 ⟨t, j1, b1, At, ct, Vt, rfl, HS, hf⟩
 replace HR := Lib.hid (mbr_seq HR.out HW.out hf)
 clear hf
 go_upto_region 26 with (fail)
 replace HS := Lib.hid (HS.out.box 24 #[.int .i64 t.k, .string t.t, .int .i64 t.num, .slice At t.kids.length ct])
 generalize w7.alloc (.cells #[.int .i64 t.k, .string t.t, .int .i64 t.num, .slice At t.kids.length ct] 24) = w8 at *
 generalize w7.heap.size = bt at *
 go_wp2_with fail
 refine (nmq HS.out).mono ?_
 clear HS; rintro e w9 ⟨x, j2, b2, rfl, hx, HS, hf⟩
 replace HR := Lib.hid (mbr_seq HR.out HW.out hf)
 clear hf
 replace HS := Lib.hid HS.out.f2
 obtain ⟨f0, f1, f2, f3, g0, g1, g2, g3⟩ := HS.out.one.all4
 go_wp2_with fail
 clear f0 f1 f2 f3 g0 g1 g2 g3
 replace HS := Lib.hid (HS.out.put4 (.int .i64 14) (.string x) (.int .i64 0) (.slice none 0 0))
 generalize (((((w9).setCell ⟨n_, 0, none⟩ (.int .i64 14)).setCell ⟨n_, 1, none⟩ (.string x)).setCell ⟨n_, 2, none⟩ (.int .i64 0)).setCell ⟨n_, 3, none⟩ (.slice none 0 0)) = w10 at *
 refine (mustq HS.out ⟨#[61]⟩).mono ?_
 clear HS; rintro e w11 ⟨j3, b3, rfl, HS, hf⟩
 replace HR := Lib.hid (mbr_seq HR.out HW.out hf)
 clear hf
 go_wp2_with fail
 refine (rsubq HEX HS.out (mbr_wet HR.out HW.out)).mono ?_
 clear HS; rintro e w12 ⟨y, j4, b4, Ay, cy, Vy, rfl, HS, hf⟩
 replace HR := Lib.hid (mbr_seq HR.out HW.out hf)
 clear hf
 go_upto_region 29 with (fail)
 replace HS := Lib.hid (HS.out.box 24 #[.int .i64 y.k, .string y.t, .int .i64 y.num, .slice Ay y.kids.length cy])
 generalize w12.alloc (.cells #[.int .i64 y.k, .string y.t, .int .i64 y.num, .slice Ay y.kids.length cy] 24) = w13 at *
 generalize w12.heap.size = by_ at *
 replace HS := Lib.hid HS.out.f2
 obtain ⟨-, -, -, -, b0, b1, b2, b3⟩ := (HS.out.blk 3 rfl).all4
 obtain ⟨-, -, -, -, c0, c1, c2, c3⟩ := (HS.out.blk 1 rfl).all4
 have f3 := HS.out.one.free 3
 have g3 := HS.out.one.cell 3 _ rfl
 have hne := Nat.ne_of_lt HS.out.one.lt
 have hlt := HS.out.one.lt
 go_wp2_with fail
 clear f3 g3 hne hlt b0 b1 b2 b3 c0 c1 c2 c3
 replace HS := Lib.hid (HS.out.putbox1 3 (.slice (some ⟨w13.heap.size, 0, none⟩) 2 2) 24 #[.int .i64 t.k, .string t.t, .int .i64 t.num, .slice At t.kids.length ct, .int .i64 y.k, .string y.t, .int .i64 y.num, .slice Ay y.kids.length cy])
 simp only [List.setIfInBounds_toArray, List.set_cons_zero, List.set_cons_succ] at HS
 generalize (w13.setCell ⟨n_, 3, none⟩ (.slice (some ⟨w13.heap.size, 0, none⟩) 2 2)).alloc (.cells #[.int .i64 t.k, .string t.t, .int .i64 t.num, .slice At t.kids.length ct, .int .i64 y.k, .string y.t, .int .i64 y.num, .slice Ay y.kids.length cy] 24) = w14 at *
 generalize w13.heap.size = m_ at *
 refine (mustq HS.out ⟨#[59]⟩).mono ?_
 clear HS; rintro e w15 ⟨j5, b5, rfl, HS, hf⟩
 replace HR := Lib.hid (mbr_seq HR.out HW.out hf)
 clear hf
 replace HS := Lib.hid HS.out.f3
 replace HS := Lib.hid HS.out.f5
 replace HS := Lib.hid HS.out.f2
 replace HS := Lib.hid (HS.out.kid2 (x := t) (z := y) 14 x 0 i64_0 hx)
 replace HS := Lib.hid HS.out.f4
 replace HS := Lib.hid HS.out.f1
 obtain ⟨-, -, -, -, b0, b1, b2, b3⟩ := (HS.out.blk 2 rfl).all4
 obtain ⟨f0, f1, f2, f3, g0, g1, g2, g3⟩ := (HS.out.blk 1 rfl).all4
 go_wp2_with fail
 have hf := rfinO HS.out (mbr_fin HR.out)
 try simp only [List.length_append, List.length_cons, List.length_nil, Nat.zero_add] at hf
 exact bodyPost_ret (v := .agg _) (results_cell4 (fn := Tryz.f80) rfl hf.1 rfl) rfl hf.2
theorem rst_vnames (C : RC) (F : Nat) (w : World) (i : Nat) (h : RSt C w i false) (hwet : mbr (statM C.L (F + 1) i) i false ≠ .dry) (HTY : ROk C 43 (typM C.L F)) (HRO : ROk C 99 (roundM C.L (unaryM C.L F))) (HEX : ROk C 79 (exprF C.L F)) (HBL : ROk C 46 (blockM C.L (statM C.L F))) (HSI : ROk C 100 (simpleR0 C.L F)) (h1 : tIs C.L ⟨#[105, 102]⟩ i = false) (h2 : tIs C.L ⟨#[119, 104, 105, 108, 101]⟩ i = false) (h3 : tIs C.L ⟨#[114, 101, 116, 117, 114, 110]⟩ i = false) (h4 : tIs C.L ⟨#[112, 117, 116]⟩ i = false) (v1 : tIs C.L ⟨#[105, 110, 116]⟩ i = false) (v2 : tIs C.L ⟨#[108, 111, 110, 103]⟩ i = false) (v3 : tIs C.L ⟨#[102, 110]⟩ i = false) (n0 : tNm C.L (i + 0) = true) (n1 : tNm C.L (i + 1) = true) (hc : tIn C.L [⟨#[105, 110, 116]⟩, ⟨#[108, 111, 110, 103]⟩, ⟨#[102, 110]⟩] i = true ∨ (tNm C.L i = true ∧ tNm C.L (i + 1) = true)) : Calls Tryz.prog 80 #[.pointer (some ⟨C.p, 0, none⟩)] w (RNode C w (mbr (statM C.L (F + 1) i) i false)) := by
 obtain ⟨R, HR⟩ : ∃ R, Hid (mbr (statM C.L (F + 1) i) i false = R) := ⟨_, rfl⟩
 rw [HR.out] at hwet ⊢
 have HW := Lib.hid hwet
 have hR := HR.out
 rw [statM] at hR
 replace HR := Lib.hid hR
 have HS := Lib.hid (h.st.box 24 #[.int .i64 0, .string ⟨#[]⟩, .int .i64 0, .slice none 0 0])
 clear h hR hwet
 go_enter Tryz.func80, Tryz.ntmps80
 go_upto_region 1 with (fail)
 generalize w.alloc (.cells #[.int .i64 0, .string ⟨#[]⟩, .int .i64 0, .slice none 0 0] 24) = w0 at *
 go_upto_region 2 with (fail)
 replace HS := Lib.hid (HS.out.box 24 #[.int .i64 0, .string ⟨#[]⟩, .int .i64 0, .slice none 0 0])
 generalize w0.alloc (.cells #[.int .i64 0, .string ⟨#[]⟩, .int .i64 0, .slice none 0 0] 24) = w1 at *
 generalize w0.heap.size = n_ at *
 have q2 := HS.out.z.blk.cell 2 (.bool false) rfl
 go_wp2_with fail
 clear q2
 refine (eatN HS.out (by simp [h1])).mono ?_
 clear HS; rintro e w2 ⟨rfl, HS⟩
 replace HR := Lib.hid (mbr_no HR.out (fun _ => by rw [h1]; simp))
 go_wp2_with fail
 refine (eatN HS.out (by simp [h2])).mono ?_
 clear HS; rintro e w3 ⟨rfl, HS⟩
 replace HR := Lib.hid (mbr_no HR.out (fun _ => by rw [h2]; simp))
 go_wp2_with fail
 refine (txtq HS.out 0 (by omega)).mono ?_
 clear HS; rintro e w4 ⟨rfl, HS⟩
 rw [Nat.add_zero]
 have hx0 : ((txR C.L i).toList == [105, 110, 116]) = false := (lit_beq _ _).trans ((txR_is HS.out.z.ok (s := ⟨#[105, 110, 116]⟩) (by decide) _).trans v1)
 have hx1 : ((txR C.L i).toList == [108, 111, 110, 103]) = false := (lit_beq _ _).trans ((txR_is HS.out.z.ok (s := ⟨#[108, 111, 110, 103]⟩) (by decide) _).trans v2)
 have hx2 : ((txR C.L i).toList == [102, 110]) = false := (lit_beq _ _).trans ((txR_is HS.out.z.ok (s := ⟨#[102, 110]⟩) (by decide) _).trans v3)
 generalize txR C.L i = tx at *
 go_wp2_with fail
 refine (eatN HS.out (by simp [h3])).mono ?_
 clear HS; rintro e w5 ⟨rfl, HS⟩
 replace HR := Lib.hid (mbr_no HR.out (fun _ => by rw [h3]; simp))
 go_wp2_with fail
 refine (eatN HS.out (by simp [h4])).mono ?_
 clear HS; rintro e w6 ⟨rfl, HS⟩
 replace HR := Lib.hid (mbr_no HR.out (fun _ => by rw [h4]; simp))
 go_wp2_with fail
 refine (isnq HS.out 0 (by omega) n0).mono ?_
 clear HS; rintro e w7 ⟨rfl, HS⟩
 go_wp2_with fail
 refine (isnq HS.out 1 (by omega) n1).mono ?_
 clear HS; rintro e w8 ⟨rfl, HS⟩
 clear hx0 hx1 hx2
 go_wp2_with fail
 replace HR := Lib.hid (mbr_yes (j := i) HR.out hc)
 refine (rsubq HTY HS.out (mbr_wet HR.out HW.out)).mono ?_
 clear HS; rintro e w9 ⟨t, j1, b1, At, ct, Vt, rfl, HS, hf⟩
 replace HR := Lib.hid (mbr_seq HR.out HW.out hf)
 clear hf
 go_upto_region 26 with (fail)
 replace HS := Lib.hid (HS.out.box 24 #[.int .i64 t.k, .string t.t, .int .i64 t.num, .slice At t.kids.length ct])
 generalize w9.alloc (.cells #[.int .i64 t.k, .string t.t, .int .i64 t.num, .slice At t.kids.length ct] 24) = w10 at *
 generalize w9.heap.size = bt at *
 go_wp2_with fail
 refine (nmq HS.out).mono ?_
 clear HS; rintro e w11 ⟨x, j2, b2, rfl, hx, HS, hf⟩
 replace HR := Lib.hid (mbr_seq HR.out HW.out hf)
 clear hf
 replace HS := Lib.hid HS.out.f2
 obtain ⟨f0, f1, f2, f3, g0, g1, g2, g3⟩ := HS.out.one.all4
 go_wp2_with fail
 clear f0 f1 f2 f3 g0 g1 g2 g3
 replace HS := Lib.hid (HS.out.put4 (.int .i64 14) (.string x) (.int .i64 0) (.slice none 0 0))
 generalize (((((w11).setCell ⟨n_, 0, none⟩ (.int .i64 14)).setCell ⟨n_, 1, none⟩ (.string x)).setCell ⟨n_, 2, none⟩ (.int .i64 0)).setCell ⟨n_, 3, none⟩ (.slice none 0 0)) = w12 at *
 refine (mustq HS.out ⟨#[61]⟩).mono ?_
 clear HS; rintro e w13 ⟨j3, b3, rfl, HS, hf⟩
 replace HR := Lib.hid (mbr_seq HR.out HW.out hf)
 clear hf
 go_wp2_with fail
 refine (rsubq HEX HS.out (mbr_wet HR.out HW.out)).mono ?_
 clear HS; rintro e w14 ⟨y, j4, b4, Ay, cy, Vy, rfl, HS, hf⟩
 replace HR := Lib.hid (mbr_seq HR.out HW.out hf)
 clear hf
 go_upto_region 29 with (fail)
 replace HS := Lib.hid (HS.out.box 24 #[.int .i64 y.k, .string y.t, .int .i64 y.num, .slice Ay y.kids.length cy])
 generalize w14.alloc (.cells #[.int .i64 y.k, .string y.t, .int .i64 y.num, .slice Ay y.kids.length cy] 24) = w15 at *
 generalize w14.heap.size = by_ at *
 replace HS := Lib.hid HS.out.f2
 obtain ⟨-, -, -, -, b0, b1, b2, b3⟩ := (HS.out.blk 3 rfl).all4
 obtain ⟨-, -, -, -, c0, c1, c2, c3⟩ := (HS.out.blk 1 rfl).all4
 have f3 := HS.out.one.free 3
 have g3 := HS.out.one.cell 3 _ rfl
 have hne := Nat.ne_of_lt HS.out.one.lt
 have hlt := HS.out.one.lt
 go_wp2_with fail
 clear f3 g3 hne hlt b0 b1 b2 b3 c0 c1 c2 c3
 replace HS := Lib.hid (HS.out.putbox1 3 (.slice (some ⟨w15.heap.size, 0, none⟩) 2 2) 24 #[.int .i64 t.k, .string t.t, .int .i64 t.num, .slice At t.kids.length ct, .int .i64 y.k, .string y.t, .int .i64 y.num, .slice Ay y.kids.length cy])
 simp only [List.setIfInBounds_toArray, List.set_cons_zero, List.set_cons_succ] at HS
 generalize (w15.setCell ⟨n_, 3, none⟩ (.slice (some ⟨w15.heap.size, 0, none⟩) 2 2)).alloc (.cells #[.int .i64 t.k, .string t.t, .int .i64 t.num, .slice At t.kids.length ct, .int .i64 y.k, .string y.t, .int .i64 y.num, .slice Ay y.kids.length cy] 24) = w16 at *
 generalize w15.heap.size = m_ at *
 refine (mustq HS.out ⟨#[59]⟩).mono ?_
 clear HS; rintro e w17 ⟨j5, b5, rfl, HS, hf⟩
 replace HR := Lib.hid (mbr_seq HR.out HW.out hf)
 clear hf
 replace HS := Lib.hid HS.out.f3
 replace HS := Lib.hid HS.out.f5
 replace HS := Lib.hid HS.out.f2
 replace HS := Lib.hid (HS.out.kid2 (x := t) (z := y) 14 x 0 i64_0 hx)
 replace HS := Lib.hid HS.out.f4
 replace HS := Lib.hid HS.out.f1
 obtain ⟨-, -, -, -, b0, b1, b2, b3⟩ := (HS.out.blk 2 rfl).all4
 obtain ⟨f0, f1, f2, f3, g0, g1, g2, g3⟩ := (HS.out.blk 1 rfl).all4
 go_wp2_with fail
 have hf := rfinO HS.out (mbr_fin HR.out)
 try simp only [List.length_append, List.length_cons, List.length_nil, Nat.zero_add] at hf
 exact bodyPost_ret (v := .agg _) (results_cell4 (fn := Tryz.f80) rfl hf.1 rfl) rfl hf.2
theorem rst_sone (C : RC) (F : Nat) (w : World) (i : Nat) (h : RSt C w i false) (hwet : mbr (statM C.L (F + 1) i) i false ≠ .dry) (HTY : ROk C 43 (typM C.L F)) (HRO : ROk C 99 (roundM C.L (unaryM C.L F))) (HEX : ROk C 79 (exprF C.L F)) (HBL : ROk C 46 (blockM C.L (statM C.L F))) (HSI : ROk C 100 (simpleR0 C.L F)) (h1 : tIs C.L ⟨#[105, 102]⟩ i = false) (h2 : tIs C.L ⟨#[119, 104, 105, 108, 101]⟩ i = false) (h3 : tIs C.L ⟨#[114, 101, 116, 117, 114, 110]⟩ i = false) (h4 : tIs C.L ⟨#[112, 117, 116]⟩ i = false) (v1 : tIs C.L ⟨#[105, 110, 116]⟩ i = false) (v2 : tIs C.L ⟨#[108, 111, 110, 103]⟩ i = false) (v3 : tIs C.L ⟨#[102, 110]⟩ i = false) (n0 : tNm C.L (i + 0) = true) (n1 : tNm C.L (i + 1) = false) (hc : ¬ (tIn C.L [⟨#[105, 110, 116]⟩, ⟨#[108, 111, 110, 103]⟩, ⟨#[102, 110]⟩] i = true ∨ (tNm C.L i = true ∧ tNm C.L (i + 1) = true))) : Calls Tryz.prog 80 #[.pointer (some ⟨C.p, 0, none⟩)] w (RNode C w (mbr (statM C.L (F + 1) i) i false)) := by
 obtain ⟨R, HR⟩ : ∃ R, Hid (mbr (statM C.L (F + 1) i) i false = R) := ⟨_, rfl⟩
 rw [HR.out] at hwet ⊢
 have HW := Lib.hid hwet
 have hR := HR.out
 rw [statM] at hR
 replace HR := Lib.hid hR
 have HS := Lib.hid (h.st.box 24 #[.int .i64 0, .string ⟨#[]⟩, .int .i64 0, .slice none 0 0])
 clear h hR hwet
 go_enter Tryz.func80, Tryz.ntmps80
 go_upto_region 1 with (fail)
 generalize w.alloc (.cells #[.int .i64 0, .string ⟨#[]⟩, .int .i64 0, .slice none 0 0] 24) = w0 at *
 go_upto_region 2 with (fail)
 replace HS := Lib.hid (HS.out.box 24 #[.int .i64 0, .string ⟨#[]⟩, .int .i64 0, .slice none 0 0])
 generalize w0.alloc (.cells #[.int .i64 0, .string ⟨#[]⟩, .int .i64 0, .slice none 0 0] 24) = w1 at *
 generalize w0.heap.size = n_ at *
 have q2 := HS.out.z.blk.cell 2 (.bool false) rfl
 go_wp2_with fail
 clear q2
 refine (eatN HS.out (by simp [h1])).mono ?_
 clear HS; rintro e w2 ⟨rfl, HS⟩
 replace HR := Lib.hid (mbr_no HR.out (fun _ => by rw [h1]; simp))
 go_wp2_with fail
 refine (eatN HS.out (by simp [h2])).mono ?_
 clear HS; rintro e w3 ⟨rfl, HS⟩
 replace HR := Lib.hid (mbr_no HR.out (fun _ => by rw [h2]; simp))
 go_wp2_with fail
 refine (txtq HS.out 0 (by omega)).mono ?_
 clear HS; rintro e w4 ⟨rfl, HS⟩
 rw [Nat.add_zero]
 have hx0 : ((txR C.L i).toList == [105, 110, 116]) = false := (lit_beq _ _).trans ((txR_is HS.out.z.ok (s := ⟨#[105, 110, 116]⟩) (by decide) _).trans v1)
 have hx1 : ((txR C.L i).toList == [108, 111, 110, 103]) = false := (lit_beq _ _).trans ((txR_is HS.out.z.ok (s := ⟨#[108, 111, 110, 103]⟩) (by decide) _).trans v2)
 have hx2 : ((txR C.L i).toList == [102, 110]) = false := (lit_beq _ _).trans ((txR_is HS.out.z.ok (s := ⟨#[102, 110]⟩) (by decide) _).trans v3)
 generalize txR C.L i = tx at *
 go_wp2_with fail
 refine (eatN HS.out (by simp [h3])).mono ?_
 clear HS; rintro e w5 ⟨rfl, HS⟩
 replace HR := Lib.hid (mbr_no HR.out (fun _ => by rw [h3]; simp))
 go_wp2_with fail
 refine (eatN HS.out (by simp [h4])).mono ?_
 clear HS; rintro e w6 ⟨rfl, HS⟩
 replace HR := Lib.hid (mbr_no HR.out (fun _ => by rw [h4]; simp))
 go_wp2_with fail
 refine (isnq HS.out 0 (by omega) n0).mono ?_
 clear HS; rintro e w7 ⟨rfl, HS⟩
 go_wp2_with fail
 refine (isnq HS.out 1 (by omega) n1).mono ?_
 clear HS; rintro e w8 ⟨rfl, HS⟩
 clear hx0 hx1 hx2
 go_wp2_with fail
 replace HR := Lib.hid (mbr_no HR.out (fun _ => hc))
 replace HR := Lib.hid (mbr_eq HR.out (fun _ => simple_eq C.L F i))
 refine (rsubq HSI HS.out (mbr_wet HR.out HW.out)).mono ?_
 clear HS; rintro e w9 ⟨x, j1, b1, Ax, cx, Vx, rfl, HS, hf⟩
 replace HR := Lib.hid (mbr_seq HR.out HW.out hf)
 clear hf
 replace HS := Lib.hid HS.out.f1
 obtain ⟨f0, f1, f2, f3, g0, g1, g2, g3⟩ := HS.out.one.all4
 go_wp2_with fail
 clear f0 f1 f2 f3 g0 g1 g2 g3
 replace HS := Lib.hid (HS.out.put4 (.int .i64 x.k) (.string x.t) (.int .i64 x.num) (.slice Ax x.kids.length cx))
 generalize (((((w9).setCell ⟨n_, 0, none⟩ (.int .i64 x.k)).setCell ⟨n_, 1, none⟩ (.string x.t)).setCell ⟨n_, 2, none⟩ (.int .i64 x.num)).setCell ⟨n_, 3, none⟩ (.slice Ax x.kids.length cx)) = w10 at *
 refine (mustq HS.out ⟨#[59]⟩).mono ?_
 clear HS; rintro e w11 ⟨j2, b2, rfl, HS, hf⟩
 replace HR := Lib.hid (mbr_seq HR.out HW.out hf)
 clear hf
 replace HS := Lib.hid HS.out.f2
 replace HS := Lib.hid HS.out.f2
 obtain ⟨-, -, -, -, b0, b1, b2, b3⟩ := (HS.out.blk 2 rfl).all4
 obtain ⟨f0, f1, f2, f3, g0, g1, g2, g3⟩ := (HS.out.blk 1 rfl).all4
 go_wp2_with fail
 have hf := rfinN HS.out (mbr_fin HR.out)
 exact bodyPost_ret (v := .agg _) (results_cell4 (fn := Tryz.f80) rfl hf.1 rfl) rfl hf.2
theorem rst_snone (C : RC) (F : Nat) (w : World) (i : Nat) (h : RSt C w i false) (hwet : mbr (statM C.L (F + 1) i) i false ≠ .dry) (HTY : ROk C 43 (typM C.L F)) (HRO : ROk C 99 (roundM C.L (unaryM C.L F))) (HEX : ROk C 79 (exprF C.L F)) (HBL : ROk C 46 (blockM C.L (statM C.L F))) (HSI : ROk C 100 (simpleR0 C.L F)) (h1 : tIs C.L ⟨#[105, 102]⟩ i = false) (h2 : tIs C.L ⟨#[119, 104, 105, 108, 101]⟩ i = false) (h3 : tIs C.L ⟨#[114, 101, 116, 117, 114, 110]⟩ i = false) (h4 : tIs C.L ⟨#[112, 117, 116]⟩ i = false) (v1 : tIs C.L ⟨#[105, 110, 116]⟩ i = false) (v2 : tIs C.L ⟨#[108, 111, 110, 103]⟩ i = false) (v3 : tIs C.L ⟨#[102, 110]⟩ i = false) (n0 : tNm C.L (i + 0) = false) (hc : ¬ (tIn C.L [⟨#[105, 110, 116]⟩, ⟨#[108, 111, 110, 103]⟩, ⟨#[102, 110]⟩] i = true ∨ (tNm C.L i = true ∧ tNm C.L (i + 1) = true))) : Calls Tryz.prog 80 #[.pointer (some ⟨C.p, 0, none⟩)] w (RNode C w (mbr (statM C.L (F + 1) i) i false)) := by
 obtain ⟨R, HR⟩ : ∃ R, Hid (mbr (statM C.L (F + 1) i) i false = R) := ⟨_, rfl⟩
 rw [HR.out] at hwet ⊢
 have HW := Lib.hid hwet
 have hR := HR.out
 rw [statM] at hR
 replace HR := Lib.hid hR
 have HS := Lib.hid (h.st.box 24 #[.int .i64 0, .string ⟨#[]⟩, .int .i64 0, .slice none 0 0])
 clear h hR hwet
 go_enter Tryz.func80, Tryz.ntmps80
 go_upto_region 1 with (fail)
 generalize w.alloc (.cells #[.int .i64 0, .string ⟨#[]⟩, .int .i64 0, .slice none 0 0] 24) = w0 at *
 go_upto_region 2 with (fail)
 replace HS := Lib.hid (HS.out.box 24 #[.int .i64 0, .string ⟨#[]⟩, .int .i64 0, .slice none 0 0])
 generalize w0.alloc (.cells #[.int .i64 0, .string ⟨#[]⟩, .int .i64 0, .slice none 0 0] 24) = w1 at *
 generalize w0.heap.size = n_ at *
 have q2 := HS.out.z.blk.cell 2 (.bool false) rfl
 go_wp2_with fail
 clear q2
 refine (eatN HS.out (by simp [h1])).mono ?_
 clear HS; rintro e w2 ⟨rfl, HS⟩
 replace HR := Lib.hid (mbr_no HR.out (fun _ => by rw [h1]; simp))
 go_wp2_with fail
 refine (eatN HS.out (by simp [h2])).mono ?_
 clear HS; rintro e w3 ⟨rfl, HS⟩
 replace HR := Lib.hid (mbr_no HR.out (fun _ => by rw [h2]; simp))
 go_wp2_with fail
 refine (txtq HS.out 0 (by omega)).mono ?_
 clear HS; rintro e w4 ⟨rfl, HS⟩
 rw [Nat.add_zero]
 have hx0 : ((txR C.L i).toList == [105, 110, 116]) = false := (lit_beq _ _).trans ((txR_is HS.out.z.ok (s := ⟨#[105, 110, 116]⟩) (by decide) _).trans v1)
 have hx1 : ((txR C.L i).toList == [108, 111, 110, 103]) = false := (lit_beq _ _).trans ((txR_is HS.out.z.ok (s := ⟨#[108, 111, 110, 103]⟩) (by decide) _).trans v2)
 have hx2 : ((txR C.L i).toList == [102, 110]) = false := (lit_beq _ _).trans ((txR_is HS.out.z.ok (s := ⟨#[102, 110]⟩) (by decide) _).trans v3)
 generalize txR C.L i = tx at *
 go_wp2_with fail
 refine (eatN HS.out (by simp [h3])).mono ?_
 clear HS; rintro e w5 ⟨rfl, HS⟩
 replace HR := Lib.hid (mbr_no HR.out (fun _ => by rw [h3]; simp))
 go_wp2_with fail
 refine (eatN HS.out (by simp [h4])).mono ?_
 clear HS; rintro e w6 ⟨rfl, HS⟩
 replace HR := Lib.hid (mbr_no HR.out (fun _ => by rw [h4]; simp))
 go_wp2_with fail
 refine (isnq HS.out 0 (by omega) n0).mono ?_
 clear HS; rintro e w7 ⟨rfl, HS⟩
 clear hx0 hx1 hx2
 go_wp2_with fail
 replace HR := Lib.hid (mbr_no HR.out (fun _ => hc))
 replace HR := Lib.hid (mbr_eq HR.out (fun _ => simple_eq C.L F i))
 refine (rsubq HSI HS.out (mbr_wet HR.out HW.out)).mono ?_
 clear HS; rintro e w8 ⟨x, j1, b1, Ax, cx, Vx, rfl, HS, hf⟩
 replace HR := Lib.hid (mbr_seq HR.out HW.out hf)
 clear hf
 replace HS := Lib.hid HS.out.f1
 obtain ⟨f0, f1, f2, f3, g0, g1, g2, g3⟩ := HS.out.one.all4
 go_wp2_with fail
 clear f0 f1 f2 f3 g0 g1 g2 g3
 replace HS := Lib.hid (HS.out.put4 (.int .i64 x.k) (.string x.t) (.int .i64 x.num) (.slice Ax x.kids.length cx))
 generalize (((((w8).setCell ⟨n_, 0, none⟩ (.int .i64 x.k)).setCell ⟨n_, 1, none⟩ (.string x.t)).setCell ⟨n_, 2, none⟩ (.int .i64 x.num)).setCell ⟨n_, 3, none⟩ (.slice Ax x.kids.length cx)) = w9 at *
 refine (mustq HS.out ⟨#[59]⟩).mono ?_
 clear HS; rintro e w10 ⟨j2, b2, rfl, HS, hf⟩
 replace HR := Lib.hid (mbr_seq HR.out HW.out hf)
 clear hf
 replace HS := Lib.hid HS.out.f2
 replace HS := Lib.hid HS.out.f2
 obtain ⟨-, -, -, -, b0, b1, b2, b3⟩ := (HS.out.blk 2 rfl).all4
 obtain ⟨f0, f1, f2, f3, g0, g1, g2, g3⟩ := (HS.out.blk 1 rfl).all4
 go_wp2_with fail
 have hf := rfinN HS.out (mbr_fin HR.out)
 exact bodyPost_ret (v := .agg _) (results_cell4 (fn := Tryz.f80) rfl hf.1 rfl) rfl hf.2
end Go.Proofs.YtgegfbopogcjpaaGreatDoor
namespace Go.Proofs.YtgegfbopogcjpaaGreatDoor
open Go.RowKit
set_option linter.unusedVariables false
set_option linter.unusedSimpArgs false
set_option maxRecDepth 100000
theorem rstat_all (C : RC) : ∀ F, ROk C 80 (statM C.L F)
 | 0, w, i, b, h, hwet => by
  cases b
  ·exact absurd rfl hwet
  ·exact rst_bad C (statM C.L 0) w i h
 | F + 1, w, i, true, h, hwet => rst_bad C (statM C.L (F + 1)) w i h
 | F + 1, w, i, false, h, hwet => by
  have HT := rtyp_all C F
  have HE : ROk C 79 (exprF C.L F) := rexpr_of C (runary_all C F)
  have HR : ROk C 99 (roundM C.L (unaryM C.L F)) := rround_of C HE
  have HB := rblock_of C (rstat_all C F)
  have HS := rsimple_of C F
  rcases h1 : tIs C.L ⟨#[105, 102]⟩ i with _ | _
  rotate_left
  ·exact rst_if C F w i h hwet HT HR HE HB HS h1
  rcases h2 : tIs C.L ⟨#[119, 104, 105, 108, 101]⟩ i with _ | _
  rotate_left
  ·exact rst_while C F w i h hwet HT HR HE HB HS h1 h2
  rcases h3 : tIs C.L ⟨#[114, 101, 116, 117, 114, 110]⟩ i with _ | _
  rotate_left
  ·exact rst_return C F w i h hwet HT HR HE HB HS h1 h2 h3
  rcases h4 : tIs C.L ⟨#[112, 117, 116]⟩ i with _ | _
  rotate_left
  ·exact rst_put C F w i h hwet HT HR HE HB HS h1 h2 h3 h4
  rcases v1 : tIs C.L ⟨#[105, 110, 116]⟩ i with _ | _
  rotate_left
  ·exact rst_vint C F w i h hwet HT HR HE HB HS h1 h2 h3 h4 v1 (.inl (by simp [tIn, v1]))
  rcases v2 : tIs C.L ⟨#[108, 111, 110, 103]⟩ i with _ | _
  rotate_left
  ·exact rst_vlong C F w i h hwet HT HR HE HB HS h1 h2 h3 h4 v1 v2 (.inl (by simp [tIn, v2]))
  rcases v3 : tIs C.L ⟨#[102, 110]⟩ i with _ | _
  rotate_left
  ·exact rst_vfn C F w i h hwet HT HR HE HB HS h1 h2 h3 h4 v1 v2 v3 (.inl (by simp [tIn, v3]))
  have hi : ¬ tIn C.L [⟨#[105, 110, 116]⟩, ⟨#[108, 111, 110, 103]⟩, ⟨#[102, 110]⟩] i = true := by simp [tIn, v1, v2, v3]
  rcases n0 : tNm C.L (i + 0) with _ | _
  ·exact rst_snone C F w i h hwet HT HR HE HB HS h1 h2 h3 h4 v1 v2 v3 n0 (fun e => by rcases e with e | e; exact hi e; rw [Nat.add_zero] at n0; rw [n0] at e; cases e.1)
  ·rcases n1 : tNm C.L (i + 1) with _ | _
   ·exact rst_sone C F w i h hwet HT HR HE HB HS h1 h2 h3 h4 v1 v2 v3 n0 n1 (fun e => by rcases e with e | e; exact hi e; rw [n1] at e; cases e.2)
   ·exact rst_vnames C F w i h hwet HT HR HE HB HS h1 h2 h3 h4 v1 v2 v3 n0 n1 (.inr ⟨n0, n1⟩)
end Go.Proofs.YtgegfbopogcjpaaGreatDoor
namespace Go.Proofs.YtgegfbopogcjpaaGreatDoor
open Go.RowKit
set_option linter.unusedVariables false
set_option linter.unusedSimpArgs false
set_option maxRecDepth 100000
theorem rdec_all (C : RC) (F : Nat) (w : World) (i : Nat) (h : RSt C w i false) (hwet : mbr (declM C.L F i) i false ≠ .dry) : Calls Tryz.prog 15 #[.pointer (some ⟨C.p, 0, none⟩)] w (RNode C w (mbr (declM C.L F i) i false)) := by
 have HT := rtyp_all C F
 have HR := rows1_of C F HT
 have HB : ROk C 46 (blockF C.L F) := rblock_of C (rstat_all C F)
 have HN := rnumber_any C
 rcases h1 : tIs C.L ⟨#[115, 116, 114, 117, 99, 116]⟩ i with _ | _
 ·rcases h2 : tIs C.L ⟨#[101, 120, 116, 101, 114, 110]⟩ i with _ | _
  ·rcases h3 : tIs C.L ⟨#[115, 116, 97, 116, 105, 99]⟩ i with _ | _
   ·exact rdec_plain C F w i h hwet HT HR HB HN h1 h2 h3
   ·exact rdec_static C F w i h hwet HT HR HB HN h1 h2 h3
  ·exact rdec_extern C F w i h hwet HT HR HB HN h1 h2
 ·exact rdec_struct C F w i h hwet HT HR HB HN h1
end Go.Proofs.YtgegfbopogcjpaaGreatDoor
namespace Go.Proofs.YtgegfbopogcjpaaGreatDoor
open Go.RowKit
set_option linter.unusedVariables false
set_option linter.unusedSimpArgs false
set_option maxRecDepth 100000
theorem syntaxParses_any (s : ByteArray) (w : World) (hml : ML w) (he : ER w) : Calls Tryz.prog 3 #[.string s] w fun e w' => e = .returned (.bool true) ∧ Below w.heap.size w w' :=
 parses_walk decl_all (fun C F w i h hw => rdec_all C F w i h hw) s w hml he
end Go.Proofs.YtgegfbopogcjpaaGreatDoor
