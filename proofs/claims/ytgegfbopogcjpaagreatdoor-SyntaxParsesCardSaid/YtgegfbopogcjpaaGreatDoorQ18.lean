/- The reference's reader: declarations: functions and variables; The reference's reader: trees in a stretch of blocks; a node laid in the result's cell. -/
import Derived.Test.YtgegfbopogcjpaaGreatDoorQ09
import Derived.Test.YtgegfbopogcjpaaGreatDoorQ17
namespace Go.Proofs.YtgegfbopogcjpaaGreatDoor
open Go.RowKit
set_option linter.unusedVariables false
set_option linter.unusedSimpArgs false
set_option maxRecDepth 100000
set_option maxHeartbeats 4000000
theorem rdec_plain (C : RC) (F : Nat) (w : World) (i : Nat) (h : RSt C w i false) (hwet : mbr (declM C.L F i) i false ≠ .dry) (HTY : ROk C 43 (typM C.L F)) (HRW : ∀ (w : World) (i : Nat) (b : Bool), RSt C w i b → mbr (listM C.L (paramM C.L F) true i) i b ≠ .dry → Calls Tryz.prog 45 #[.pointer (some ⟨C.p, 0, none⟩), .int .i64 1] w (RList C w (mbr (listM C.L (paramM C.L F) true i) i b))) (HBL : ROk C 46 (blockF C.L F)) (HNU : ROk C 47 (numM C.L)) (h1 : tIs C.L ⟨#[115, 116, 114, 117, 99, 116]⟩ i = false) (h2 : tIs C.L ⟨#[101, 120, 116, 101, 114, 110]⟩ i = false) (h3 : tIs C.L ⟨#[115, 116, 97, 116, 105, 99]⟩ i = false) : Calls Tryz.prog 15 #[.pointer (some ⟨C.p, 0, none⟩)] w (RNode C w (mbr (declM C.L F i) i false)) := by
 obtain ⟨R, HR⟩ : ∃ R, Hid (mbr (declM C.L F i) i false = R) := ⟨_, rfl⟩
 rw [HR.out] at hwet ⊢
 have HW := Lib.hid hwet
 have hR := HR.out
 unfold declM at hR
 replace HR := Lib.hid hR
 have HS := Lib.hid (h.st.box 24 #[.int .i64 0, .string ⟨#[]⟩, .int .i64 0, .slice none 0 0])
 clear h hR hwet
 go_enter Tryz.func15, Tryz.ntmps15
 go_wp2_with fail
 generalize w.alloc (.cells #[.int .i64 0, .string ⟨#[]⟩, .int .i64 0, .slice none 0 0] 24) = w0 at *
 refine (eatN HS.out (by simp [h1])).mono ?_
 clear HS; rintro e w1 ⟨rfl, HS⟩
 replace HR := Lib.hid (mbr_no HR.out (fun _ => by rw [h1]; simp))
 go_wp2_with fail
 refine (eatN HS.out (by simp [h2])).mono ?_
 clear HS; rintro e w2 ⟨rfl, HS⟩
 replace HR := Lib.hid (mbr_no HR.out (fun _ => by rw [h2]; simp))
 go_wp2_with fail
 have hR := HR.out
 simp only [h3, if_true, Bool.false_eq_true, if_false] at hR
 refine (eatN HS.out (by simp [h3])).mono ?_
 clear HS; rintro e w3 ⟨rfl, HS⟩
 replace HR := Lib.hid (show mbr _ i false = R from hR)
 clear hR
 go_wp2_with fail
 refine (rsubq HTY HS.out (mbr_wet HR.out HW.out)).mono ?_
 clear HS; rintro e w4 ⟨t, j1, b1, At, ct, Vt, rfl, HS, hf⟩
 replace HR := Lib.hid (mbr_seq HR.out HW.out hf)
 clear hf
 go_wp2_with fail
 replace HS := Lib.hid (HS.out.box 24 #[.int .i64 t.k, .string t.t, .int .i64 t.num, .slice At t.kids.length ct])
 generalize w4.alloc (.cells #[.int .i64 t.k, .string t.t, .int .i64 t.num, .slice At t.kids.length ct] 24) = w5 at *
 generalize w4.heap.size = bt at *
 refine (nmq HS.out).mono ?_
 clear HS; rintro e w6 ⟨x, j2, b2, rfl, hx, HS, hf⟩
 replace HR := Lib.hid (mbr_seq HR.out HW.out hf)
 clear hf
 go_upto_region 15 with (fail)
 replace HS := Lib.hid (HS.out.box 24 #[.int .i64 0, .string x, .int .i64 0, .slice none 0 0])
 generalize w6.alloc (.cells #[.int .i64 0, .string x, .int .i64 0, .slice none 0 0] 24) = w7 at *
 generalize w6.heap.size = bn at *
 go_upto_region 17 with (fail)
 have q2 := HS.out.z.blk.cell 2 (.bool b2) rfl
 rcases b2 with _ | _
 rotate_left
 ·go_upto_region 33 with (fail)
  clear q2
  replace HR := Lib.hid (mbr_no HR.out (fun e => by cases e))
  go_wp2_with fail
  refine (mustq HS.out ⟨#[61]⟩).mono ?_
  clear HS; rintro e w8 ⟨j3, b3, rfl, HS, hf⟩
  replace HR := Lib.hid (mbr_seq HR.out HW.out hf)
  clear hf
  go_wp2_with fail
  rcases ht : (!b3 && tIs C.L ⟨#[45]⟩ j3) with _ | _
  ·refine (eatN HS.out ht).mono ?_
   clear HS; rintro e w9 ⟨rfl, HS⟩
   replace HR := Lib.hid (mbr_eq (r' := (numM C.L j3).bind fun y o => closedM C.L (.mk 6 x (flagN false) [t, y]) o) HR.out (fun hb => (fun (h2 : tIs C.L ⟨#[45]⟩ j3 = false) => by simp only [h2, Bool.false_eq_true, if_false]) (by rw [hb] at ht; simpa using ht)))
   clear ht
   go_wp2_with fail
   refine (rsubq HNU HS.out (mbr_wet HR.out HW.out)).mono ?_
   clear HS; rintro e w10 ⟨y, j4, b4, Ay, cy, Vy, rfl, HS, hf⟩
   have HN := Lib.hid (fun hc => num_fol HS.out.z.ok hf hc)
   replace HR := Lib.hid (mbr_seq HR.out HW.out hf)
   clear hf
   clear HN
   go_upto_region 38 with (fail)
   replace HS := Lib.hid (HS.out.box 24 #[.int .i64 y.k, .string y.t, .int .i64 y.num, .slice Ay y.kids.length cy])
   generalize w10.alloc (.cells #[.int .i64 y.k, .string y.t, .int .i64 y.num, .slice Ay y.kids.length cy] 24) = w11 at *
   generalize w10.heap.size = by_ at *
   replace HS := Lib.hid HS.out.f2
   have f0 := HS.out.one.free 0
   have g0 := HS.out.one.cell 0 _ rfl
   go_upto_region 39 with (fail)
   clear f0 g0
   replace HS := Lib.hid (HS.out.put1 0 (.int .i64 6))
   simp only [List.setIfInBounds_toArray, List.set_cons_zero, List.set_cons_succ] at HS
   generalize w11.setCell ⟨bn, 0, none⟩ (.int .i64 6) = w12 at *
   obtain ⟨-, -, -, -, b0, b1, b2, b3⟩ := (HS.out.blk 3 rfl).all4
   obtain ⟨-, -, -, -, c0, c1, c2, c3⟩ := (HS.out.blk 1 rfl).all4
   have f3 := HS.out.one.free 3
   have g3 := HS.out.one.cell 3 _ rfl
   have hne := Nat.ne_of_lt HS.out.one.lt
   have hlt := HS.out.one.lt
   go_wp2_with fail
   clear f3 g3 hne hlt b0 b1 b2 b3 c0 c1 c2 c3
   replace HS := Lib.hid (HS.out.putbox1 3 (.slice (some ⟨w12.heap.size, 0, none⟩) 2 2) 24 #[.int .i64 t.k, .string t.t, .int .i64 t.num, .slice At t.kids.length ct, .int .i64 y.k, .string y.t, .int .i64 y.num, .slice Ay y.kids.length cy])
   simp only [List.setIfInBounds_toArray, List.set_cons_zero, List.set_cons_succ] at HS
   generalize (w12.setCell ⟨bn, 3, none⟩ (.slice (some ⟨w12.heap.size, 0, none⟩) 2 2)).alloc (.cells #[.int .i64 t.k, .string t.t, .int .i64 t.num, .slice At t.kids.length ct, .int .i64 y.k, .string y.t, .int .i64 y.num, .slice Ay y.kids.length cy] 24) = w13 at *
   generalize w12.heap.size = m_ at *
   refine (mustq HS.out ⟨#[59]⟩).mono ?_
   clear HS; rintro e w14 ⟨j5, b5, rfl, HS, hf⟩
   replace HR := Lib.hid (mbr_seq HR.out HW.out hf)
   clear hf
   replace HS := Lib.hid HS.out.f3
   replace HS := Lib.hid HS.out.f5
   replace HS := Lib.hid HS.out.f2
   replace HS := Lib.hid (HS.out.kid2 (x := t) (z := y) 6 x 0 (by unfold I64; decide) hx)
   replace HS := Lib.hid HS.out.f4
   replace HS := Lib.hid HS.out.f1
   obtain ⟨-, -, -, -, b0, b1, b2, b3⟩ := (HS.out.blk 2 rfl).all4
   obtain ⟨f0, f1, f2, f3, g0, g1, g2, g3⟩ := (HS.out.blk 1 rfl).all4
   go_wp2_with fail
   have hf := rfinO HS.out (mbr_fin HR.out)
   try simp only [List.length_append, List.length_cons, List.length_nil, Nat.zero_add] at hf
   exact bodyPost_ret (v := .agg _) (results_cell4 (fn := Tryz.f15) rfl hf.1 rfl) rfl hf.2
  rw [Bool.and_eq_true, Bool.not_eq_true'] at ht
  obtain ⟨hb, ht⟩ := ht
  subst hb
  refine (eatY HS.out ht).mono ?_
  clear HS; rintro e w9 ⟨rfl, HS⟩
  have hR := HR.out
  simp only [ht, if_true] at hR
  replace HR := Lib.hid (show mbr _ (j3 + 1) false = R from hR)
  clear hR ht
  go_wp2_with fail
  refine (rsubq HNU HS.out (mbr_wet HR.out HW.out)).mono ?_
  clear HS; rintro e w10 ⟨y, j6, b6, Ay, cy, Vy, rfl, HS, hf⟩
  have HN := Lib.hid (fun hc => num_fol HS.out.z.ok hf hc)
  replace HR := Lib.hid (mbr_seq HR.out HW.out hf)
  clear hf
  obtain ⟨N, hN⟩ : ∃ N, IntKind.i64.wrap (-y.num) = N := ⟨_, rfl⟩
  have hI : I64 N := by rw [← hN]; exact i64_wrap _
  replace HR := Lib.hid (mbr_eq (r' := closedM C.L (.mk 6 x (flagN false) [t, .mk y.k y.t N y.kids]) j6) HR.out (fun hb => by rw [← hN, i64_neg (HN.out hb).1 (HN.out hb).2]))
  clear HN
  go_upto_region 38 with (fail)
  clear hN
  replace HS := Lib.hid (HS.out.renum N hI)
  replace HS := Lib.hid (HS.out.box 24 #[.int .i64 y.k, .string y.t, .int .i64 N, .slice Ay y.kids.length cy])
  generalize w10.alloc (.cells #[.int .i64 y.k, .string y.t, .int .i64 N, .slice Ay y.kids.length cy] 24) = w11 at *
  generalize w10.heap.size = by_ at *
  replace HS := Lib.hid HS.out.f2
  have f0 := HS.out.one.free 0
  have g0 := HS.out.one.cell 0 _ rfl
  go_upto_region 39 with (fail)
  clear f0 g0
  replace HS := Lib.hid (HS.out.put1 0 (.int .i64 6))
  simp only [List.setIfInBounds_toArray, List.set_cons_zero, List.set_cons_succ] at HS
  generalize w11.setCell ⟨bn, 0, none⟩ (.int .i64 6) = w12 at *
  obtain ⟨-, -, -, -, b0, b1, b2, b3⟩ := (HS.out.blk 3 rfl).all4
  obtain ⟨-, -, -, -, c0, c1, c2, c3⟩ := (HS.out.blk 1 rfl).all4
  have f3 := HS.out.one.free 3
  have g3 := HS.out.one.cell 3 _ rfl
  have hne := Nat.ne_of_lt HS.out.one.lt
  have hlt := HS.out.one.lt
  go_wp2_with fail
  clear f3 g3 hne hlt b0 b1 b2 b3 c0 c1 c2 c3
  replace HS := Lib.hid (HS.out.putbox1 3 (.slice (some ⟨w12.heap.size, 0, none⟩) 2 2) 24 #[.int .i64 t.k, .string t.t, .int .i64 t.num, .slice At t.kids.length ct, .int .i64 y.k, .string y.t, .int .i64 N, .slice Ay y.kids.length cy])
  simp only [List.setIfInBounds_toArray, List.set_cons_zero, List.set_cons_succ] at HS
  generalize (w12.setCell ⟨bn, 3, none⟩ (.slice (some ⟨w12.heap.size, 0, none⟩) 2 2)).alloc (.cells #[.int .i64 t.k, .string t.t, .int .i64 t.num, .slice At t.kids.length ct, .int .i64 y.k, .string y.t, .int .i64 N, .slice Ay y.kids.length cy] 24) = w13 at *
  generalize w12.heap.size = m_ at *
  refine (mustq HS.out ⟨#[59]⟩).mono ?_
  clear HS; rintro e w14 ⟨j7, b7, rfl, HS, hf⟩
  replace HR := Lib.hid (mbr_seq HR.out HW.out hf)
  clear hf
  replace HS := Lib.hid HS.out.f3
  replace HS := Lib.hid HS.out.f5
  replace HS := Lib.hid HS.out.f2
  replace HS := Lib.hid (HS.out.kid2 (x := t) (z := (.mk y.k y.t N y.kids)) 6 x 0 (by unfold I64; decide) hx)
  replace HS := Lib.hid HS.out.f4
  replace HS := Lib.hid HS.out.f1
  obtain ⟨-, -, -, -, b0, b1, b2, b3⟩ := (HS.out.blk 2 rfl).all4
  obtain ⟨f0, f1, f2, f3, g0, g1, g2, g3⟩ := (HS.out.blk 1 rfl).all4
  go_wp2_with fail
  have hf := rfinO HS.out (mbr_fin HR.out)
  try simp only [List.length_append, List.length_cons, List.length_nil, Nat.zero_add] at hf
  exact bodyPost_ret (v := .agg _) (results_cell4 (fn := Tryz.f15) rfl hf.1 rfl) rfl hf.2
 go_wp2_with fail
 clear q2
 refine (txtq HS.out 0 (by omega)).mono ?_
 clear HS; rintro e w8 ⟨rfl, HS⟩
 rw [Nat.add_zero]
 rcases ht : tIs C.L ⟨#[40]⟩ j2 with _ | _
 ·have hx : ((txR C.L j2).toList == [40]) = false := (lit_beq _ _).trans ((txR_is HS.out.z.ok (s := ⟨#[40]⟩) (by decide) _).trans ht)
  replace HR := Lib.hid (mbr_no HR.out (fun _ => by rw [ht]; simp))
  clear ht
  generalize txR C.L j2 = tx at *
  go_upto_region 33 with (fail)
  clear hx
  go_wp2_with fail
  refine (mustq HS.out ⟨#[61]⟩).mono ?_
  clear HS; rintro e w9 ⟨j8, b8, rfl, HS, hf⟩
  replace HR := Lib.hid (mbr_seq HR.out HW.out hf)
  clear hf
  go_wp2_with fail
  rcases ht : (!b8 && tIs C.L ⟨#[45]⟩ j8) with _ | _
  ·refine (eatN HS.out ht).mono ?_
   clear HS; rintro e w10 ⟨rfl, HS⟩
   replace HR := Lib.hid (mbr_eq (r' := (numM C.L j8).bind fun y o => closedM C.L (.mk 6 x (flagN false) [t, y]) o) HR.out (fun hb => (fun (h2 : tIs C.L ⟨#[45]⟩ j8 = false) => by simp only [h2, Bool.false_eq_true, if_false]) (by rw [hb] at ht; simpa using ht)))
   clear ht
   go_wp2_with fail
   refine (rsubq HNU HS.out (mbr_wet HR.out HW.out)).mono ?_
   clear HS; rintro e w11 ⟨y, j9, b9, Ay, cy, Vy, rfl, HS, hf⟩
   have HN := Lib.hid (fun hc => num_fol HS.out.z.ok hf hc)
   replace HR := Lib.hid (mbr_seq HR.out HW.out hf)
   clear hf
   clear HN
   go_upto_region 38 with (fail)
   replace HS := Lib.hid (HS.out.box 24 #[.int .i64 y.k, .string y.t, .int .i64 y.num, .slice Ay y.kids.length cy])
   generalize w11.alloc (.cells #[.int .i64 y.k, .string y.t, .int .i64 y.num, .slice Ay y.kids.length cy] 24) = w12 at *
   generalize w11.heap.size = by_ at *
   replace HS := Lib.hid HS.out.f2
   have f0 := HS.out.one.free 0
   have g0 := HS.out.one.cell 0 _ rfl
   go_upto_region 39 with (fail)
   clear f0 g0
   replace HS := Lib.hid (HS.out.put1 0 (.int .i64 6))
   simp only [List.setIfInBounds_toArray, List.set_cons_zero, List.set_cons_succ] at HS
   generalize w12.setCell ⟨bn, 0, none⟩ (.int .i64 6) = w13 at *
   obtain ⟨-, -, -, -, b0, b1, b2, b3⟩ := (HS.out.blk 3 rfl).all4
   obtain ⟨-, -, -, -, c0, c1, c2, c3⟩ := (HS.out.blk 1 rfl).all4
   have f3 := HS.out.one.free 3
   have g3 := HS.out.one.cell 3 _ rfl
   have hne := Nat.ne_of_lt HS.out.one.lt
   have hlt := HS.out.one.lt
   go_wp2_with fail
   clear f3 g3 hne hlt b0 b1 b2 b3 c0 c1 c2 c3
   replace HS := Lib.hid (HS.out.putbox1 3 (.slice (some ⟨w13.heap.size, 0, none⟩) 2 2) 24 #[.int .i64 t.k, .string t.t, .int .i64 t.num, .slice At t.kids.length ct, .int .i64 y.k, .string y.t, .int .i64 y.num, .slice Ay y.kids.length cy])
   simp only [List.setIfInBounds_toArray, List.set_cons_zero, List.set_cons_succ] at HS
   generalize (w13.setCell ⟨bn, 3, none⟩ (.slice (some ⟨w13.heap.size, 0, none⟩) 2 2)).alloc (.cells #[.int .i64 t.k, .string t.t, .int .i64 t.num, .slice At t.kids.length ct, .int .i64 y.k, .string y.t, .int .i64 y.num, .slice Ay y.kids.length cy] 24) = w14 at *
   generalize w13.heap.size = m_ at *
   refine (mustq HS.out ⟨#[59]⟩).mono ?_
   clear HS; rintro e w15 ⟨j10, b10, rfl, HS, hf⟩
   replace HR := Lib.hid (mbr_seq HR.out HW.out hf)
   clear hf
   replace HS := Lib.hid HS.out.f3
   replace HS := Lib.hid HS.out.f5
   replace HS := Lib.hid HS.out.f2
   replace HS := Lib.hid (HS.out.kid2 (x := t) (z := y) 6 x 0 (by unfold I64; decide) hx)
   replace HS := Lib.hid HS.out.f4
   replace HS := Lib.hid HS.out.f1
   obtain ⟨-, -, -, -, b0, b1, b2, b3⟩ := (HS.out.blk 2 rfl).all4
   obtain ⟨f0, f1, f2, f3, g0, g1, g2, g3⟩ := (HS.out.blk 1 rfl).all4
   go_wp2_with fail
   have hf := rfinO HS.out (mbr_fin HR.out)
   try simp only [List.length_append, List.length_cons, List.length_nil, Nat.zero_add] at hf
   exact bodyPost_ret (v := .agg _) (results_cell4 (fn := Tryz.f15) rfl hf.1 rfl) rfl hf.2
  rw [Bool.and_eq_true, Bool.not_eq_true'] at ht
  obtain ⟨hb, ht⟩ := ht
  subst hb
  refine (eatY HS.out ht).mono ?_
  clear HS; rintro e w10 ⟨rfl, HS⟩
  have hR := HR.out
  simp only [ht, if_true] at hR
  replace HR := Lib.hid (show mbr _ (j8 + 1) false = R from hR)
  clear hR ht
  go_wp2_with fail
  refine (rsubq HNU HS.out (mbr_wet HR.out HW.out)).mono ?_
  clear HS; rintro e w11 ⟨y, j11, b11, Ay, cy, Vy, rfl, HS, hf⟩
  have HN := Lib.hid (fun hc => num_fol HS.out.z.ok hf hc)
  replace HR := Lib.hid (mbr_seq HR.out HW.out hf)
  clear hf
  obtain ⟨N, hN⟩ : ∃ N, IntKind.i64.wrap (-y.num) = N := ⟨_, rfl⟩
  have hI : I64 N := by rw [← hN]; exact i64_wrap _
  replace HR := Lib.hid (mbr_eq (r' := closedM C.L (.mk 6 x (flagN false) [t, .mk y.k y.t N y.kids]) j11) HR.out (fun hb => by rw [← hN, i64_neg (HN.out hb).1 (HN.out hb).2]))
  clear HN
  go_upto_region 38 with (fail)
  clear hN
  replace HS := Lib.hid (HS.out.renum N hI)
  replace HS := Lib.hid (HS.out.box 24 #[.int .i64 y.k, .string y.t, .int .i64 N, .slice Ay y.kids.length cy])
  generalize w11.alloc (.cells #[.int .i64 y.k, .string y.t, .int .i64 N, .slice Ay y.kids.length cy] 24) = w12 at *
  generalize w11.heap.size = by_ at *
  replace HS := Lib.hid HS.out.f2
  have f0 := HS.out.one.free 0
  have g0 := HS.out.one.cell 0 _ rfl
  go_upto_region 39 with (fail)
  clear f0 g0
  replace HS := Lib.hid (HS.out.put1 0 (.int .i64 6))
  simp only [List.setIfInBounds_toArray, List.set_cons_zero, List.set_cons_succ] at HS
  generalize w12.setCell ⟨bn, 0, none⟩ (.int .i64 6) = w13 at *
  obtain ⟨-, -, -, -, b0, b1, b2, b3⟩ := (HS.out.blk 3 rfl).all4
  obtain ⟨-, -, -, -, c0, c1, c2, c3⟩ := (HS.out.blk 1 rfl).all4
  have f3 := HS.out.one.free 3
  have g3 := HS.out.one.cell 3 _ rfl
  have hne := Nat.ne_of_lt HS.out.one.lt
  have hlt := HS.out.one.lt
  go_wp2_with fail
  clear f3 g3 hne hlt b0 b1 b2 b3 c0 c1 c2 c3
  replace HS := Lib.hid (HS.out.putbox1 3 (.slice (some ⟨w13.heap.size, 0, none⟩) 2 2) 24 #[.int .i64 t.k, .string t.t, .int .i64 t.num, .slice At t.kids.length ct, .int .i64 y.k, .string y.t, .int .i64 N, .slice Ay y.kids.length cy])
  simp only [List.setIfInBounds_toArray, List.set_cons_zero, List.set_cons_succ] at HS
  generalize (w13.setCell ⟨bn, 3, none⟩ (.slice (some ⟨w13.heap.size, 0, none⟩) 2 2)).alloc (.cells #[.int .i64 t.k, .string t.t, .int .i64 t.num, .slice At t.kids.length ct, .int .i64 y.k, .string y.t, .int .i64 N, .slice Ay y.kids.length cy] 24) = w14 at *
  generalize w13.heap.size = m_ at *
  refine (mustq HS.out ⟨#[59]⟩).mono ?_
  clear HS; rintro e w15 ⟨j12, b12, rfl, HS, hf⟩
  replace HR := Lib.hid (mbr_seq HR.out HW.out hf)
  clear hf
  replace HS := Lib.hid HS.out.f3
  replace HS := Lib.hid HS.out.f5
  replace HS := Lib.hid HS.out.f2
  replace HS := Lib.hid (HS.out.kid2 (x := t) (z := (.mk y.k y.t N y.kids)) 6 x 0 (by unfold I64; decide) hx)
  replace HS := Lib.hid HS.out.f4
  replace HS := Lib.hid HS.out.f1
  obtain ⟨-, -, -, -, b0, b1, b2, b3⟩ := (HS.out.blk 2 rfl).all4
  obtain ⟨f0, f1, f2, f3, g0, g1, g2, g3⟩ := (HS.out.blk 1 rfl).all4
  go_wp2_with fail
  have hf := rfinO HS.out (mbr_fin HR.out)
  try simp only [List.length_append, List.length_cons, List.length_nil, Nat.zero_add] at hf
  exact bodyPost_ret (v := .agg _) (results_cell4 (fn := Tryz.f15) rfl hf.1 rfl) rfl hf.2
 have hx : ((txR C.L j2).toList == [40]) = true := (lit_beq _ _).trans ((txR_is HS.out.z.ok (s := ⟨#[40]⟩) (by decide) _).trans ht)
 replace HR := Lib.hid (mbr_yes (j := j2) HR.out ht)
 clear ht
 generalize txR C.L j2 = tx at *
 go_wp2_with fail
 clear hx
 refine ((HRW _ _ _ HS.out.z (mbr_wet HR.out HW.out)).mono fun e W' hr => rrowq HS.out hr).mono ?_
 clear HS; rintro e w9 ⟨ks, d, j13, b13, Aks, cks, Vks, rfl, hnks, HS, hf⟩
 replace HR := Lib.hid (mbr_seq HR.out HW.out hf)
 clear hf
 replace HS := Lib.hid HS.out.f1
 have f0 := HS.out.one.free 0
 have g0 := HS.out.one.cell 0 _ rfl
 go_upto_region 20 with (fail)
 clear f0 g0
 replace HS := Lib.hid (HS.out.put1 0 (.int .i64 4))
 simp only [List.setIfInBounds_toArray, List.set_cons_zero, List.set_cons_succ] at HS
 generalize w9.setCell ⟨bn, 0, none⟩ (.int .i64 4) = w10 at *
 obtain ⟨-, -, -, -, b0, b1, b2, b3⟩ := (HS.out.blk 2 rfl).all4
 replace HS := Lib.hid HS.out.f3
 replace HS := Lib.hid HS.out.f2
 have HB := Lib.hid (HS.out.box 24 #[.int .i64 t.k, .string t.t, .int .i64 t.num, .slice At t.kids.length ct]).f2.f2
 clear HS
 go_wp2_with (at_builtin; refine wpList_push (x := t) HB.out (by first | rfl | simp) (by omega) rfl _ _ rfl rfl rfl ?_)
 clear HB; intro A2 c2 V2 w11 HS
 clear b0 b1 b2 b3
 replace HS := Lib.hid HS.out.f1
 have f3 := HS.out.one.free 3
 have g3 := HS.out.one.cell 3 _ rfl
 go_upto_region 21 with (fail)
 clear f3 g3
 replace HS := Lib.hid (HS.out.put1 3 (.slice A2 (ks.length + 1) c2))
 simp only [List.setIfInBounds_toArray, List.set_cons_zero, List.set_cons_succ] at HS
 generalize w11.setCell ⟨bn, 3, none⟩ (.slice A2 (ks.length + 1) c2) = w12 at *
 rcases d with _ | _
 ·go_upto_region 26 with (fail)
  have f0 := HS.out.one.free 0
  have g0 := HS.out.one.cell 0 _ rfl
  go_wp2_with fail
  clear f0 g0
  replace HS := Lib.hid (HS.out.put1 0 (.int .i64 7))
  simp only [List.setIfInBounds_toArray, List.set_cons_zero, List.set_cons_succ] at HS
  generalize w12.setCell ⟨bn, 0, none⟩ (.int .i64 7) = w13 at *
  refine (rsubq HBL HS.out (mbr_wet HR.out HW.out)).mono ?_
  clear HS; rintro e w14 ⟨b, j14, b14, Ab, cb, Vb, rfl, HS, hf⟩
  replace HR := Lib.hid (mbr_seq HR.out HW.out hf)
  clear hf
  go_upto_region 28 with (fail)
  replace HS := Lib.hid (HS.out.box 24 #[.int .i64 b.k, .string b.t, .int .i64 b.num, .slice Ab b.kids.length cb])
  generalize w14.alloc (.cells #[.int .i64 b.k, .string b.t, .int .i64 b.num, .slice Ab b.kids.length cb] 24) = w15 at *
  generalize w14.heap.size = bb_ at *
  obtain ⟨-, -, -, -, b0, b1, b2, b3⟩ := HS.out.one.all4
  have q3 := (HS.out.blk 2 rfl).cell 3 (.slice A2 (ks.length + 1) c2) rfl
  replace HS := Lib.hid HS.out.f1
  replace HS := Lib.hid HS.out.f3
  have HB := Lib.hid (HS.out.box 24 #[.int .i64 b.k, .string b.t, .int .i64 b.num, .slice Ab b.kids.length cb]).f2.f2
  clear HS
  go_wp2_with (at_builtin; refine wpList_push (x := b) HB.out (by first | rfl | simp) (by omega) rfl _ _ rfl rfl rfl ?_)
  clear HB; intro A3 c3 V3 w16 HS
  clear b0 b1 b2 b3 q3
  replace HS := Lib.hid HS.out.f2
  have f3 := HS.out.one.free 3
  have g3 := HS.out.one.cell 3 _ rfl
  go_upto_region 29 with (fail)
  clear f3 g3
  replace HS := Lib.hid (HS.out.put1 3 (.slice A3 (ks.length + 1 + 1) c3))
  simp only [List.setIfInBounds_toArray, List.set_cons_zero, List.set_cons_succ] at HS
  generalize w16.setCell ⟨bn, 3, none⟩ (.slice A3 (ks.length + 1 + 1) c3) = w17 at *
  replace HS := Lib.hid (by simpa only [List.append_assoc, List.cons_append, List.nil_append] using HS.out)
  replace HS := Lib.hid HS.out.f1
  replace HS := Lib.hid (HS.out.kids 7 x 0 (by unfold I64; decide) hx)
  have hl2 : (ks ++ [t, b]).length = ks.length + 1 + 1 := by simp
  replace HS := Lib.hid HS.out.f4
  replace HS := Lib.hid HS.out.f1
  obtain ⟨-, -, -, -, b0, b1, b2, b3⟩ := (HS.out.blk 2 rfl).all4
  obtain ⟨f0, f1, f2, f3, g0, g1, g2, g3⟩ := (HS.out.blk 1 rfl).all4
  go_wp2_with fail
  have hf := rfinO HS.out (mbr_fin HR.out)
  rw [hl2] at hf
  exact bodyPost_ret (v := .agg _) (results_cell4 (fn := Tryz.f15) rfl hf.1 rfl) rfl hf.2
 have hw : IntKind.i64.wrap (0 + 2) = 2 := by decide
 have h2_ := (HS.out.blk 0 rfl).cell 2 (.int .i64 0) rfl
 have f2 := HS.out.one.free 2
 have g2 := HS.out.one.cell 2 _ rfl
 go_upto_region 26 with (fail)
 clear f2 g2
 replace HS := Lib.hid (HS.out.put1 2 (.int .i64 2))
 simp only [List.setIfInBounds_toArray, List.set_cons_zero, List.set_cons_succ] at HS
 generalize w12.setCell ⟨bn, 2, none⟩ (.int .i64 2) = w13 at *
 clear hw h2_
 have f0 := HS.out.one.free 0
 have g0 := HS.out.one.cell 0 _ rfl
 go_wp2_with fail
 clear f0 g0
 replace HS := Lib.hid (HS.out.put1 0 (.int .i64 7))
 simp only [List.setIfInBounds_toArray, List.set_cons_zero, List.set_cons_succ] at HS
 generalize w13.setCell ⟨bn, 0, none⟩ (.int .i64 7) = w14 at *
 refine (rsubq HBL HS.out (mbr_wet HR.out HW.out)).mono ?_
 clear HS; rintro e w15 ⟨b, j15, b15, Ab, cb, Vb, rfl, HS, hf⟩
 replace HR := Lib.hid (mbr_seq HR.out HW.out hf)
 clear hf
 go_upto_region 28 with (fail)
 replace HS := Lib.hid (HS.out.box 24 #[.int .i64 b.k, .string b.t, .int .i64 b.num, .slice Ab b.kids.length cb])
 generalize w15.alloc (.cells #[.int .i64 b.k, .string b.t, .int .i64 b.num, .slice Ab b.kids.length cb] 24) = w16 at *
 generalize w15.heap.size = bb_ at *
 obtain ⟨-, -, -, -, b0, b1, b2, b3⟩ := HS.out.one.all4
 have q3 := (HS.out.blk 2 rfl).cell 3 (.slice A2 (ks.length + 1) c2) rfl
 replace HS := Lib.hid HS.out.f1
 replace HS := Lib.hid HS.out.f3
 have HB := Lib.hid (HS.out.box 24 #[.int .i64 b.k, .string b.t, .int .i64 b.num, .slice Ab b.kids.length cb]).f2.f2
 clear HS
 go_wp2_with (at_builtin; refine wpList_push (x := b) HB.out (by first | rfl | simp) (by omega) rfl _ _ rfl rfl rfl ?_)
 clear HB; intro A3 c3 V3 w17 HS
 clear b0 b1 b2 b3 q3
 replace HS := Lib.hid HS.out.f2
 have f3 := HS.out.one.free 3
 have g3 := HS.out.one.cell 3 _ rfl
 go_upto_region 29 with (fail)
 clear f3 g3
 replace HS := Lib.hid (HS.out.put1 3 (.slice A3 (ks.length + 1 + 1) c3))
 simp only [List.setIfInBounds_toArray, List.set_cons_zero, List.set_cons_succ] at HS
 generalize w17.setCell ⟨bn, 3, none⟩ (.slice A3 (ks.length + 1 + 1) c3) = w18 at *
 replace HS := Lib.hid (by simpa only [List.append_assoc, List.cons_append, List.nil_append] using HS.out)
 replace HS := Lib.hid HS.out.f1
 replace HS := Lib.hid (HS.out.kids 7 x 2 (by unfold I64; decide) hx)
 have hl2 : (ks ++ [t, b]).length = ks.length + 1 + 1 := by simp
 replace HS := Lib.hid HS.out.f4
 replace HS := Lib.hid HS.out.f1
 obtain ⟨-, -, -, -, b0, b1, b2, b3⟩ := (HS.out.blk 2 rfl).all4
 obtain ⟨f0, f1, f2, f3, g0, g1, g2, g3⟩ := (HS.out.blk 1 rfl).all4
 go_wp2_with fail
 have hf := rfinO HS.out (mbr_fin HR.out)
 rw [hl2] at hf
 exact bodyPost_ret (v := .agg _) (results_cell4 (fn := Tryz.f15) rfl hf.1 rfl) rfl hf.2
theorem rdec_static (C : RC) (F : Nat) (w : World) (i : Nat) (h : RSt C w i false) (hwet : mbr (declM C.L F i) i false ≠ .dry) (HTY : ROk C 43 (typM C.L F)) (HRW : ∀ (w : World) (i : Nat) (b : Bool), RSt C w i b → mbr (listM C.L (paramM C.L F) true i) i b ≠ .dry → Calls Tryz.prog 45 #[.pointer (some ⟨C.p, 0, none⟩), .int .i64 1] w (RList C w (mbr (listM C.L (paramM C.L F) true i) i b))) (HBL : ROk C 46 (blockF C.L F)) (HNU : ROk C 47 (numM C.L)) (h1 : tIs C.L ⟨#[115, 116, 114, 117, 99, 116]⟩ i = false) (h2 : tIs C.L ⟨#[101, 120, 116, 101, 114, 110]⟩ i = false) (h3 : tIs C.L ⟨#[115, 116, 97, 116, 105, 99]⟩ i = true) : Calls Tryz.prog 15 #[.pointer (some ⟨C.p, 0, none⟩)] w (RNode C w (mbr (declM C.L F i) i false)) := by
 obtain ⟨R, HR⟩ : ∃ R, Hid (mbr (declM C.L F i) i false = R) := ⟨_, rfl⟩
 rw [HR.out] at hwet ⊢
 have HW := Lib.hid hwet
 have hR := HR.out
 unfold declM at hR
 replace HR := Lib.hid hR
 have HS := Lib.hid (h.st.box 24 #[.int .i64 0, .string ⟨#[]⟩, .int .i64 0, .slice none 0 0])
 clear h hR hwet
 go_enter Tryz.func15, Tryz.ntmps15
 go_wp2_with fail
 generalize w.alloc (.cells #[.int .i64 0, .string ⟨#[]⟩, .int .i64 0, .slice none 0 0] 24) = w0 at *
 refine (eatN HS.out (by simp [h1])).mono ?_
 clear HS; rintro e w1 ⟨rfl, HS⟩
 replace HR := Lib.hid (mbr_no HR.out (fun _ => by rw [h1]; simp))
 go_wp2_with fail
 refine (eatN HS.out (by simp [h2])).mono ?_
 clear HS; rintro e w2 ⟨rfl, HS⟩
 replace HR := Lib.hid (mbr_no HR.out (fun _ => by rw [h2]; simp))
 go_wp2_with fail
 have hR := HR.out
 simp only [h3, if_true, Bool.false_eq_true, if_false] at hR
 refine (eatY HS.out h3).mono ?_
 clear HS; rintro e w3 ⟨rfl, HS⟩
 replace HR := Lib.hid (show mbr _ (i + 1) false = R from hR)
 clear hR
 go_wp2_with fail
 refine (rsubq HTY HS.out (mbr_wet HR.out HW.out)).mono ?_
 clear HS; rintro e w4 ⟨t, j1, b1, At, ct, Vt, rfl, HS, hf⟩
 replace HR := Lib.hid (mbr_seq HR.out HW.out hf)
 clear hf
 go_wp2_with fail
 replace HS := Lib.hid (HS.out.box 24 #[.int .i64 t.k, .string t.t, .int .i64 t.num, .slice At t.kids.length ct])
 generalize w4.alloc (.cells #[.int .i64 t.k, .string t.t, .int .i64 t.num, .slice At t.kids.length ct] 24) = w5 at *
 generalize w4.heap.size = bt at *
 refine (nmq HS.out).mono ?_
 clear HS; rintro e w6 ⟨x, j2, b2, rfl, hx, HS, hf⟩
 replace HR := Lib.hid (mbr_seq HR.out HW.out hf)
 clear hf
 go_upto_region 15 with (fail)
 replace HS := Lib.hid (HS.out.box 24 #[.int .i64 0, .string x, .int .i64 0, .slice none 0 0])
 generalize w6.alloc (.cells #[.int .i64 0, .string x, .int .i64 0, .slice none 0 0] 24) = w7 at *
 generalize w6.heap.size = bn at *
 have f2 := HS.out.one.free 2
 have g2 := HS.out.one.cell 2 _ rfl
 go_upto_region 17 with (fail)
 clear f2 g2
 replace HS := Lib.hid (HS.out.put1 2 (.int .i64 1))
 simp only [List.setIfInBounds_toArray, List.set_cons_zero, List.set_cons_succ] at HS
 generalize w7.setCell ⟨bn, 2, none⟩ (.int .i64 1) = w8 at *
 have q2 := HS.out.z.blk.cell 2 (.bool b2) rfl
 rcases b2 with _ | _
 rotate_left
 ·go_upto_region 33 with (fail)
  clear q2
  replace HR := Lib.hid (mbr_no HR.out (fun e => by cases e))
  go_wp2_with fail
  refine (mustq HS.out ⟨#[61]⟩).mono ?_
  clear HS; rintro e w9 ⟨j3, b3, rfl, HS, hf⟩
  replace HR := Lib.hid (mbr_seq HR.out HW.out hf)
  clear hf
  go_wp2_with fail
  rcases ht : (!b3 && tIs C.L ⟨#[45]⟩ j3) with _ | _
  ·refine (eatN HS.out ht).mono ?_
   clear HS; rintro e w10 ⟨rfl, HS⟩
   replace HR := Lib.hid (mbr_eq (r' := (numM C.L j3).bind fun y o => closedM C.L (.mk 6 x (flagN true) [t, y]) o) HR.out (fun hb => (fun (h2 : tIs C.L ⟨#[45]⟩ j3 = false) => by simp only [h2, Bool.false_eq_true, if_false]) (by rw [hb] at ht; simpa using ht)))
   clear ht
   go_wp2_with fail
   refine (rsubq HNU HS.out (mbr_wet HR.out HW.out)).mono ?_
   clear HS; rintro e w11 ⟨y, j4, b4, Ay, cy, Vy, rfl, HS, hf⟩
   have HN := Lib.hid (fun hc => num_fol HS.out.z.ok hf hc)
   replace HR := Lib.hid (mbr_seq HR.out HW.out hf)
   clear hf
   clear HN
   go_upto_region 38 with (fail)
   replace HS := Lib.hid (HS.out.box 24 #[.int .i64 y.k, .string y.t, .int .i64 y.num, .slice Ay y.kids.length cy])
   generalize w11.alloc (.cells #[.int .i64 y.k, .string y.t, .int .i64 y.num, .slice Ay y.kids.length cy] 24) = w12 at *
   generalize w11.heap.size = by_ at *
   replace HS := Lib.hid HS.out.f2
   have f0 := HS.out.one.free 0
   have g0 := HS.out.one.cell 0 _ rfl
   go_upto_region 39 with (fail)
   clear f0 g0
   replace HS := Lib.hid (HS.out.put1 0 (.int .i64 6))
   simp only [List.setIfInBounds_toArray, List.set_cons_zero, List.set_cons_succ] at HS
   generalize w12.setCell ⟨bn, 0, none⟩ (.int .i64 6) = w13 at *
   obtain ⟨-, -, -, -, b0, b1, b2, b3⟩ := (HS.out.blk 3 rfl).all4
   obtain ⟨-, -, -, -, c0, c1, c2, c3⟩ := (HS.out.blk 1 rfl).all4
   have f3 := HS.out.one.free 3
   have g3 := HS.out.one.cell 3 _ rfl
   have hne := Nat.ne_of_lt HS.out.one.lt
   have hlt := HS.out.one.lt
   go_wp2_with fail
   clear f3 g3 hne hlt b0 b1 b2 b3 c0 c1 c2 c3
   replace HS := Lib.hid (HS.out.putbox1 3 (.slice (some ⟨w13.heap.size, 0, none⟩) 2 2) 24 #[.int .i64 t.k, .string t.t, .int .i64 t.num, .slice At t.kids.length ct, .int .i64 y.k, .string y.t, .int .i64 y.num, .slice Ay y.kids.length cy])
   simp only [List.setIfInBounds_toArray, List.set_cons_zero, List.set_cons_succ] at HS
   generalize (w13.setCell ⟨bn, 3, none⟩ (.slice (some ⟨w13.heap.size, 0, none⟩) 2 2)).alloc (.cells #[.int .i64 t.k, .string t.t, .int .i64 t.num, .slice At t.kids.length ct, .int .i64 y.k, .string y.t, .int .i64 y.num, .slice Ay y.kids.length cy] 24) = w14 at *
   generalize w13.heap.size = m_ at *
   refine (mustq HS.out ⟨#[59]⟩).mono ?_
   clear HS; rintro e w15 ⟨j5, b5, rfl, HS, hf⟩
   replace HR := Lib.hid (mbr_seq HR.out HW.out hf)
   clear hf
   replace HS := Lib.hid HS.out.f3
   replace HS := Lib.hid HS.out.f5
   replace HS := Lib.hid HS.out.f2
   replace HS := Lib.hid (HS.out.kid2 (x := t) (z := y) 6 x 1 (by unfold I64; decide) hx)
   replace HS := Lib.hid HS.out.f4
   replace HS := Lib.hid HS.out.f1
   obtain ⟨-, -, -, -, b0, b1, b2, b3⟩ := (HS.out.blk 2 rfl).all4
   obtain ⟨f0, f1, f2, f3, g0, g1, g2, g3⟩ := (HS.out.blk 1 rfl).all4
   go_wp2_with fail
   have hf := rfinO HS.out (mbr_fin HR.out)
   try simp only [List.length_append, List.length_cons, List.length_nil, Nat.zero_add] at hf
   exact bodyPost_ret (v := .agg _) (results_cell4 (fn := Tryz.f15) rfl hf.1 rfl) rfl hf.2
  rw [Bool.and_eq_true, Bool.not_eq_true'] at ht
  obtain ⟨hb, ht⟩ := ht
  subst hb
  refine (eatY HS.out ht).mono ?_
  clear HS; rintro e w10 ⟨rfl, HS⟩
  have hR := HR.out
  simp only [ht, if_true] at hR
  replace HR := Lib.hid (show mbr _ (j3 + 1) false = R from hR)
  clear hR ht
  go_wp2_with fail
  refine (rsubq HNU HS.out (mbr_wet HR.out HW.out)).mono ?_
  clear HS; rintro e w11 ⟨y, j6, b6, Ay, cy, Vy, rfl, HS, hf⟩
  have HN := Lib.hid (fun hc => num_fol HS.out.z.ok hf hc)
  replace HR := Lib.hid (mbr_seq HR.out HW.out hf)
  clear hf
  obtain ⟨N, hN⟩ : ∃ N, IntKind.i64.wrap (-y.num) = N := ⟨_, rfl⟩
  have hI : I64 N := by rw [← hN]; exact i64_wrap _
  replace HR := Lib.hid (mbr_eq (r' := closedM C.L (.mk 6 x (flagN true) [t, .mk y.k y.t N y.kids]) j6) HR.out (fun hb => by rw [← hN, i64_neg (HN.out hb).1 (HN.out hb).2]))
  clear HN
  go_upto_region 38 with (fail)
  clear hN
  replace HS := Lib.hid (HS.out.renum N hI)
  replace HS := Lib.hid (HS.out.box 24 #[.int .i64 y.k, .string y.t, .int .i64 N, .slice Ay y.kids.length cy])
  generalize w11.alloc (.cells #[.int .i64 y.k, .string y.t, .int .i64 N, .slice Ay y.kids.length cy] 24) = w12 at *
  generalize w11.heap.size = by_ at *
  replace HS := Lib.hid HS.out.f2
  have f0 := HS.out.one.free 0
  have g0 := HS.out.one.cell 0 _ rfl
  go_upto_region 39 with (fail)
  clear f0 g0
  replace HS := Lib.hid (HS.out.put1 0 (.int .i64 6))
  simp only [List.setIfInBounds_toArray, List.set_cons_zero, List.set_cons_succ] at HS
  generalize w12.setCell ⟨bn, 0, none⟩ (.int .i64 6) = w13 at *
  obtain ⟨-, -, -, -, b0, b1, b2, b3⟩ := (HS.out.blk 3 rfl).all4
  obtain ⟨-, -, -, -, c0, c1, c2, c3⟩ := (HS.out.blk 1 rfl).all4
  have f3 := HS.out.one.free 3
  have g3 := HS.out.one.cell 3 _ rfl
  have hne := Nat.ne_of_lt HS.out.one.lt
  have hlt := HS.out.one.lt
  go_wp2_with fail
  clear f3 g3 hne hlt b0 b1 b2 b3 c0 c1 c2 c3
  replace HS := Lib.hid (HS.out.putbox1 3 (.slice (some ⟨w13.heap.size, 0, none⟩) 2 2) 24 #[.int .i64 t.k, .string t.t, .int .i64 t.num, .slice At t.kids.length ct, .int .i64 y.k, .string y.t, .int .i64 N, .slice Ay y.kids.length cy])
  simp only [List.setIfInBounds_toArray, List.set_cons_zero, List.set_cons_succ] at HS
  generalize (w13.setCell ⟨bn, 3, none⟩ (.slice (some ⟨w13.heap.size, 0, none⟩) 2 2)).alloc (.cells #[.int .i64 t.k, .string t.t, .int .i64 t.num, .slice At t.kids.length ct, .int .i64 y.k, .string y.t, .int .i64 N, .slice Ay y.kids.length cy] 24) = w14 at *
  generalize w13.heap.size = m_ at *
  refine (mustq HS.out ⟨#[59]⟩).mono ?_
  clear HS; rintro e w15 ⟨j7, b7, rfl, HS, hf⟩
  replace HR := Lib.hid (mbr_seq HR.out HW.out hf)
  clear hf
  replace HS := Lib.hid HS.out.f3
  replace HS := Lib.hid HS.out.f5
  replace HS := Lib.hid HS.out.f2
  replace HS := Lib.hid (HS.out.kid2 (x := t) (z := (.mk y.k y.t N y.kids)) 6 x 1 (by unfold I64; decide) hx)
  replace HS := Lib.hid HS.out.f4
  replace HS := Lib.hid HS.out.f1
  obtain ⟨-, -, -, -, b0, b1, b2, b3⟩ := (HS.out.blk 2 rfl).all4
  obtain ⟨f0, f1, f2, f3, g0, g1, g2, g3⟩ := (HS.out.blk 1 rfl).all4
  go_wp2_with fail
  have hf := rfinO HS.out (mbr_fin HR.out)
  try simp only [List.length_append, List.length_cons, List.length_nil, Nat.zero_add] at hf
  exact bodyPost_ret (v := .agg _) (results_cell4 (fn := Tryz.f15) rfl hf.1 rfl) rfl hf.2
 go_wp2_with fail
 clear q2
 refine (txtq HS.out 0 (by omega)).mono ?_
 clear HS; rintro e w9 ⟨rfl, HS⟩
 rw [Nat.add_zero]
 rcases ht : tIs C.L ⟨#[40]⟩ j2 with _ | _
 ·have hx : ((txR C.L j2).toList == [40]) = false := (lit_beq _ _).trans ((txR_is HS.out.z.ok (s := ⟨#[40]⟩) (by decide) _).trans ht)
  replace HR := Lib.hid (mbr_no HR.out (fun _ => by rw [ht]; simp))
  clear ht
  generalize txR C.L j2 = tx at *
  go_upto_region 33 with (fail)
  clear hx
  go_wp2_with fail
  refine (mustq HS.out ⟨#[61]⟩).mono ?_
  clear HS; rintro e w10 ⟨j8, b8, rfl, HS, hf⟩
  replace HR := Lib.hid (mbr_seq HR.out HW.out hf)
  clear hf
  go_wp2_with fail
  rcases ht : (!b8 && tIs C.L ⟨#[45]⟩ j8) with _ | _
  ·refine (eatN HS.out ht).mono ?_
   clear HS; rintro e w11 ⟨rfl, HS⟩
   replace HR := Lib.hid (mbr_eq (r' := (numM C.L j8).bind fun y o => closedM C.L (.mk 6 x (flagN true) [t, y]) o) HR.out (fun hb => (fun (h2 : tIs C.L ⟨#[45]⟩ j8 = false) => by simp only [h2, Bool.false_eq_true, if_false]) (by rw [hb] at ht; simpa using ht)))
   clear ht
   go_wp2_with fail
   refine (rsubq HNU HS.out (mbr_wet HR.out HW.out)).mono ?_
   clear HS; rintro e w12 ⟨y, j9, b9, Ay, cy, Vy, rfl, HS, hf⟩
   have HN := Lib.hid (fun hc => num_fol HS.out.z.ok hf hc)
   replace HR := Lib.hid (mbr_seq HR.out HW.out hf)
   clear hf
   clear HN
   go_upto_region 38 with (fail)
   replace HS := Lib.hid (HS.out.box 24 #[.int .i64 y.k, .string y.t, .int .i64 y.num, .slice Ay y.kids.length cy])
   generalize w12.alloc (.cells #[.int .i64 y.k, .string y.t, .int .i64 y.num, .slice Ay y.kids.length cy] 24) = w13 at *
   generalize w12.heap.size = by_ at *
   replace HS := Lib.hid HS.out.f2
   have f0 := HS.out.one.free 0
   have g0 := HS.out.one.cell 0 _ rfl
   go_upto_region 39 with (fail)
   clear f0 g0
   replace HS := Lib.hid (HS.out.put1 0 (.int .i64 6))
   simp only [List.setIfInBounds_toArray, List.set_cons_zero, List.set_cons_succ] at HS
   generalize w13.setCell ⟨bn, 0, none⟩ (.int .i64 6) = w14 at *
   obtain ⟨-, -, -, -, b0, b1, b2, b3⟩ := (HS.out.blk 3 rfl).all4
   obtain ⟨-, -, -, -, c0, c1, c2, c3⟩ := (HS.out.blk 1 rfl).all4
   have f3 := HS.out.one.free 3
   have g3 := HS.out.one.cell 3 _ rfl
   have hne := Nat.ne_of_lt HS.out.one.lt
   have hlt := HS.out.one.lt
   go_wp2_with fail
   clear f3 g3 hne hlt b0 b1 b2 b3 c0 c1 c2 c3
   replace HS := Lib.hid (HS.out.putbox1 3 (.slice (some ⟨w14.heap.size, 0, none⟩) 2 2) 24 #[.int .i64 t.k, .string t.t, .int .i64 t.num, .slice At t.kids.length ct, .int .i64 y.k, .string y.t, .int .i64 y.num, .slice Ay y.kids.length cy])
   simp only [List.setIfInBounds_toArray, List.set_cons_zero, List.set_cons_succ] at HS
   generalize (w14.setCell ⟨bn, 3, none⟩ (.slice (some ⟨w14.heap.size, 0, none⟩) 2 2)).alloc (.cells #[.int .i64 t.k, .string t.t, .int .i64 t.num, .slice At t.kids.length ct, .int .i64 y.k, .string y.t, .int .i64 y.num, .slice Ay y.kids.length cy] 24) = w15 at *
   generalize w14.heap.size = m_ at *
   refine (mustq HS.out ⟨#[59]⟩).mono ?_
   clear HS; rintro e w16 ⟨j10, b10, rfl, HS, hf⟩
   replace HR := Lib.hid (mbr_seq HR.out HW.out hf)
   clear hf
   replace HS := Lib.hid HS.out.f3
   replace HS := Lib.hid HS.out.f5
   replace HS := Lib.hid HS.out.f2
   replace HS := Lib.hid (HS.out.kid2 (x := t) (z := y) 6 x 1 (by unfold I64; decide) hx)
   replace HS := Lib.hid HS.out.f4
   replace HS := Lib.hid HS.out.f1
   obtain ⟨-, -, -, -, b0, b1, b2, b3⟩ := (HS.out.blk 2 rfl).all4
   obtain ⟨f0, f1, f2, f3, g0, g1, g2, g3⟩ := (HS.out.blk 1 rfl).all4
   go_wp2_with fail
   have hf := rfinO HS.out (mbr_fin HR.out)
   try simp only [List.length_append, List.length_cons, List.length_nil, Nat.zero_add] at hf
   exact bodyPost_ret (v := .agg _) (results_cell4 (fn := Tryz.f15) rfl hf.1 rfl) rfl hf.2
  rw [Bool.and_eq_true, Bool.not_eq_true'] at ht
  obtain ⟨hb, ht⟩ := ht
  subst hb
  refine (eatY HS.out ht).mono ?_
  clear HS; rintro e w11 ⟨rfl, HS⟩
  have hR := HR.out
  simp only [ht, if_true] at hR
  replace HR := Lib.hid (show mbr _ (j8 + 1) false = R from hR)
  clear hR ht
  go_wp2_with fail
  refine (rsubq HNU HS.out (mbr_wet HR.out HW.out)).mono ?_
  clear HS; rintro e w12 ⟨y, j11, b11, Ay, cy, Vy, rfl, HS, hf⟩
  have HN := Lib.hid (fun hc => num_fol HS.out.z.ok hf hc)
  replace HR := Lib.hid (mbr_seq HR.out HW.out hf)
  clear hf
  obtain ⟨N, hN⟩ : ∃ N, IntKind.i64.wrap (-y.num) = N := ⟨_, rfl⟩
  have hI : I64 N := by rw [← hN]; exact i64_wrap _
  replace HR := Lib.hid (mbr_eq (r' := closedM C.L (.mk 6 x (flagN true) [t, .mk y.k y.t N y.kids]) j11) HR.out (fun hb => by rw [← hN, i64_neg (HN.out hb).1 (HN.out hb).2]))
  clear HN
  go_upto_region 38 with (fail)
  clear hN
  replace HS := Lib.hid (HS.out.renum N hI)
  replace HS := Lib.hid (HS.out.box 24 #[.int .i64 y.k, .string y.t, .int .i64 N, .slice Ay y.kids.length cy])
  generalize w12.alloc (.cells #[.int .i64 y.k, .string y.t, .int .i64 N, .slice Ay y.kids.length cy] 24) = w13 at *
  generalize w12.heap.size = by_ at *
  replace HS := Lib.hid HS.out.f2
  have f0 := HS.out.one.free 0
  have g0 := HS.out.one.cell 0 _ rfl
  go_upto_region 39 with (fail)
  clear f0 g0
  replace HS := Lib.hid (HS.out.put1 0 (.int .i64 6))
  simp only [List.setIfInBounds_toArray, List.set_cons_zero, List.set_cons_succ] at HS
  generalize w13.setCell ⟨bn, 0, none⟩ (.int .i64 6) = w14 at *
  obtain ⟨-, -, -, -, b0, b1, b2, b3⟩ := (HS.out.blk 3 rfl).all4
  obtain ⟨-, -, -, -, c0, c1, c2, c3⟩ := (HS.out.blk 1 rfl).all4
  have f3 := HS.out.one.free 3
  have g3 := HS.out.one.cell 3 _ rfl
  have hne := Nat.ne_of_lt HS.out.one.lt
  have hlt := HS.out.one.lt
  go_wp2_with fail
  clear f3 g3 hne hlt b0 b1 b2 b3 c0 c1 c2 c3
  replace HS := Lib.hid (HS.out.putbox1 3 (.slice (some ⟨w14.heap.size, 0, none⟩) 2 2) 24 #[.int .i64 t.k, .string t.t, .int .i64 t.num, .slice At t.kids.length ct, .int .i64 y.k, .string y.t, .int .i64 N, .slice Ay y.kids.length cy])
  simp only [List.setIfInBounds_toArray, List.set_cons_zero, List.set_cons_succ] at HS
  generalize (w14.setCell ⟨bn, 3, none⟩ (.slice (some ⟨w14.heap.size, 0, none⟩) 2 2)).alloc (.cells #[.int .i64 t.k, .string t.t, .int .i64 t.num, .slice At t.kids.length ct, .int .i64 y.k, .string y.t, .int .i64 N, .slice Ay y.kids.length cy] 24) = w15 at *
  generalize w14.heap.size = m_ at *
  refine (mustq HS.out ⟨#[59]⟩).mono ?_
  clear HS; rintro e w16 ⟨j12, b12, rfl, HS, hf⟩
  replace HR := Lib.hid (mbr_seq HR.out HW.out hf)
  clear hf
  replace HS := Lib.hid HS.out.f3
  replace HS := Lib.hid HS.out.f5
  replace HS := Lib.hid HS.out.f2
  replace HS := Lib.hid (HS.out.kid2 (x := t) (z := (.mk y.k y.t N y.kids)) 6 x 1 (by unfold I64; decide) hx)
  replace HS := Lib.hid HS.out.f4
  replace HS := Lib.hid HS.out.f1
  obtain ⟨-, -, -, -, b0, b1, b2, b3⟩ := (HS.out.blk 2 rfl).all4
  obtain ⟨f0, f1, f2, f3, g0, g1, g2, g3⟩ := (HS.out.blk 1 rfl).all4
  go_wp2_with fail
  have hf := rfinO HS.out (mbr_fin HR.out)
  try simp only [List.length_append, List.length_cons, List.length_nil, Nat.zero_add] at hf
  exact bodyPost_ret (v := .agg _) (results_cell4 (fn := Tryz.f15) rfl hf.1 rfl) rfl hf.2
 have hx : ((txR C.L j2).toList == [40]) = true := (lit_beq _ _).trans ((txR_is HS.out.z.ok (s := ⟨#[40]⟩) (by decide) _).trans ht)
 replace HR := Lib.hid (mbr_yes (j := j2) HR.out ht)
 clear ht
 generalize txR C.L j2 = tx at *
 go_wp2_with fail
 clear hx
 refine ((HRW _ _ _ HS.out.z (mbr_wet HR.out HW.out)).mono fun e W' hr => rrowq HS.out hr).mono ?_
 clear HS; rintro e w10 ⟨ks, d, j13, b13, Aks, cks, Vks, rfl, hnks, HS, hf⟩
 replace HR := Lib.hid (mbr_seq HR.out HW.out hf)
 clear hf
 replace HS := Lib.hid HS.out.f1
 have f0 := HS.out.one.free 0
 have g0 := HS.out.one.cell 0 _ rfl
 go_upto_region 20 with (fail)
 clear f0 g0
 replace HS := Lib.hid (HS.out.put1 0 (.int .i64 4))
 simp only [List.setIfInBounds_toArray, List.set_cons_zero, List.set_cons_succ] at HS
 generalize w10.setCell ⟨bn, 0, none⟩ (.int .i64 4) = w11 at *
 obtain ⟨-, -, -, -, b0, b1, b2, b3⟩ := (HS.out.blk 2 rfl).all4
 replace HS := Lib.hid HS.out.f3
 replace HS := Lib.hid HS.out.f2
 have HB := Lib.hid (HS.out.box 24 #[.int .i64 t.k, .string t.t, .int .i64 t.num, .slice At t.kids.length ct]).f2.f2
 clear HS
 go_wp2_with (at_builtin; refine wpList_push (x := t) HB.out (by first | rfl | simp) (by omega) rfl _ _ rfl rfl rfl ?_)
 clear HB; intro A2 c2 V2 w12 HS
 clear b0 b1 b2 b3
 replace HS := Lib.hid HS.out.f1
 have f3 := HS.out.one.free 3
 have g3 := HS.out.one.cell 3 _ rfl
 go_upto_region 21 with (fail)
 clear f3 g3
 replace HS := Lib.hid (HS.out.put1 3 (.slice A2 (ks.length + 1) c2))
 simp only [List.setIfInBounds_toArray, List.set_cons_zero, List.set_cons_succ] at HS
 generalize w12.setCell ⟨bn, 3, none⟩ (.slice A2 (ks.length + 1) c2) = w13 at *
 rcases d with _ | _
 ·go_upto_region 26 with (fail)
  have f0 := HS.out.one.free 0
  have g0 := HS.out.one.cell 0 _ rfl
  go_wp2_with fail
  clear f0 g0
  replace HS := Lib.hid (HS.out.put1 0 (.int .i64 7))
  simp only [List.setIfInBounds_toArray, List.set_cons_zero, List.set_cons_succ] at HS
  generalize w13.setCell ⟨bn, 0, none⟩ (.int .i64 7) = w14 at *
  refine (rsubq HBL HS.out (mbr_wet HR.out HW.out)).mono ?_
  clear HS; rintro e w15 ⟨b, j14, b14, Ab, cb, Vb, rfl, HS, hf⟩
  replace HR := Lib.hid (mbr_seq HR.out HW.out hf)
  clear hf
  go_upto_region 28 with (fail)
  replace HS := Lib.hid (HS.out.box 24 #[.int .i64 b.k, .string b.t, .int .i64 b.num, .slice Ab b.kids.length cb])
  generalize w15.alloc (.cells #[.int .i64 b.k, .string b.t, .int .i64 b.num, .slice Ab b.kids.length cb] 24) = w16 at *
  generalize w15.heap.size = bb_ at *
  obtain ⟨-, -, -, -, b0, b1, b2, b3⟩ := HS.out.one.all4
  have q3 := (HS.out.blk 2 rfl).cell 3 (.slice A2 (ks.length + 1) c2) rfl
  replace HS := Lib.hid HS.out.f1
  replace HS := Lib.hid HS.out.f3
  have HB := Lib.hid (HS.out.box 24 #[.int .i64 b.k, .string b.t, .int .i64 b.num, .slice Ab b.kids.length cb]).f2.f2
  clear HS
  go_wp2_with (at_builtin; refine wpList_push (x := b) HB.out (by first | rfl | simp) (by omega) rfl _ _ rfl rfl rfl ?_)
  clear HB; intro A3 c3 V3 w17 HS
  clear b0 b1 b2 b3 q3
  replace HS := Lib.hid HS.out.f2
  have f3 := HS.out.one.free 3
  have g3 := HS.out.one.cell 3 _ rfl
  go_upto_region 29 with (fail)
  clear f3 g3
  replace HS := Lib.hid (HS.out.put1 3 (.slice A3 (ks.length + 1 + 1) c3))
  simp only [List.setIfInBounds_toArray, List.set_cons_zero, List.set_cons_succ] at HS
  generalize w17.setCell ⟨bn, 3, none⟩ (.slice A3 (ks.length + 1 + 1) c3) = w18 at *
  replace HS := Lib.hid (by simpa only [List.append_assoc, List.cons_append, List.nil_append] using HS.out)
  replace HS := Lib.hid HS.out.f1
  replace HS := Lib.hid (HS.out.kids 7 x 1 (by unfold I64; decide) hx)
  have hl2 : (ks ++ [t, b]).length = ks.length + 1 + 1 := by simp
  replace HS := Lib.hid HS.out.f4
  replace HS := Lib.hid HS.out.f1
  obtain ⟨-, -, -, -, b0, b1, b2, b3⟩ := (HS.out.blk 2 rfl).all4
  obtain ⟨f0, f1, f2, f3, g0, g1, g2, g3⟩ := (HS.out.blk 1 rfl).all4
  go_wp2_with fail
  have hf := rfinO HS.out (mbr_fin HR.out)
  rw [hl2] at hf
  exact bodyPost_ret (v := .agg _) (results_cell4 (fn := Tryz.f15) rfl hf.1 rfl) rfl hf.2
 have hw : IntKind.i64.wrap (1 + 2) = 3 := by decide
 have h2_ := (HS.out.blk 0 rfl).cell 2 (.int .i64 1) rfl
 have f2 := HS.out.one.free 2
 have g2 := HS.out.one.cell 2 _ rfl
 go_upto_region 26 with (fail)
 clear f2 g2
 replace HS := Lib.hid (HS.out.put1 2 (.int .i64 3))
 simp only [List.setIfInBounds_toArray, List.set_cons_zero, List.set_cons_succ] at HS
 generalize w13.setCell ⟨bn, 2, none⟩ (.int .i64 3) = w14 at *
 clear hw h2_
 have f0 := HS.out.one.free 0
 have g0 := HS.out.one.cell 0 _ rfl
 go_wp2_with fail
 clear f0 g0
 replace HS := Lib.hid (HS.out.put1 0 (.int .i64 7))
 simp only [List.setIfInBounds_toArray, List.set_cons_zero, List.set_cons_succ] at HS
 generalize w14.setCell ⟨bn, 0, none⟩ (.int .i64 7) = w15 at *
 refine (rsubq HBL HS.out (mbr_wet HR.out HW.out)).mono ?_
 clear HS; rintro e w16 ⟨b, j15, b15, Ab, cb, Vb, rfl, HS, hf⟩
 replace HR := Lib.hid (mbr_seq HR.out HW.out hf)
 clear hf
 go_upto_region 28 with (fail)
 replace HS := Lib.hid (HS.out.box 24 #[.int .i64 b.k, .string b.t, .int .i64 b.num, .slice Ab b.kids.length cb])
 generalize w16.alloc (.cells #[.int .i64 b.k, .string b.t, .int .i64 b.num, .slice Ab b.kids.length cb] 24) = w17 at *
 generalize w16.heap.size = bb_ at *
 obtain ⟨-, -, -, -, b0, b1, b2, b3⟩ := HS.out.one.all4
 have q3 := (HS.out.blk 2 rfl).cell 3 (.slice A2 (ks.length + 1) c2) rfl
 replace HS := Lib.hid HS.out.f1
 replace HS := Lib.hid HS.out.f3
 have HB := Lib.hid (HS.out.box 24 #[.int .i64 b.k, .string b.t, .int .i64 b.num, .slice Ab b.kids.length cb]).f2.f2
 clear HS
 go_wp2_with (at_builtin; refine wpList_push (x := b) HB.out (by first | rfl | simp) (by omega) rfl _ _ rfl rfl rfl ?_)
 clear HB; intro A3 c3 V3 w18 HS
 clear b0 b1 b2 b3 q3
 replace HS := Lib.hid HS.out.f2
 have f3 := HS.out.one.free 3
 have g3 := HS.out.one.cell 3 _ rfl
 go_upto_region 29 with (fail)
 clear f3 g3
 replace HS := Lib.hid (HS.out.put1 3 (.slice A3 (ks.length + 1 + 1) c3))
 simp only [List.setIfInBounds_toArray, List.set_cons_zero, List.set_cons_succ] at HS
 generalize w18.setCell ⟨bn, 3, none⟩ (.slice A3 (ks.length + 1 + 1) c3) = w19 at *
 replace HS := Lib.hid (by simpa only [List.append_assoc, List.cons_append, List.nil_append] using HS.out)
 replace HS := Lib.hid HS.out.f1
 replace HS := Lib.hid (HS.out.kids 7 x 3 (by unfold I64; decide) hx)
 have hl2 : (ks ++ [t, b]).length = ks.length + 1 + 1 := by simp
 replace HS := Lib.hid HS.out.f4
 replace HS := Lib.hid HS.out.f1
 obtain ⟨-, -, -, -, b0, b1, b2, b3⟩ := (HS.out.blk 2 rfl).all4
 obtain ⟨f0, f1, f2, f3, g0, g1, g2, g3⟩ := (HS.out.blk 1 rfl).all4
 go_wp2_with fail
 have hf := rfinO HS.out (mbr_fin HR.out)
 rw [hl2] at hf
 exact bodyPost_ret (v := .agg _) (results_cell4 (fn := Tryz.f15) rfl hf.1 rfl) rfl hf.2
end Go.Proofs.YtgegfbopogcjpaaGreatDoor
namespace Go.Proofs.YtgegfbopogcjpaaGreatDoor
open Go.RowKit
set_option linter.unusedVariables false
set_option linter.unusedSimpArgs false
set_option maxRecDepth 100000
set_option maxHeartbeats 1000000
abbrev Btw (B E : Nat) : Nat → Prop := fun b => B ≤ b ∧ b < E
theorem RepV.mvI {B E p : Nat} {w w' : World} {n : Nd} {cs : List Value} (h : RepV (Btw B E) w n cs) (hg : Mv p w w') (hp : p < B ∨ E ≤ p) : RepV (Btw B E) w' n cs :=
 RepV.keep hg.size (fun b hv hlt => ⟨hg.block b hlt (fun e => by injection e with e; have h1 := hv.1; have h2 := hv.2; omega), hv⟩) _ _ h
theorem RepV.belI {B E : Nat} {w w' : World} {n : Nd} {cs : List Value} (h : RepV (Btw B E) w n cs) (hb : Below w.heap.size w w') : RepV (Btw B E) w' n cs :=
 RepV.keep hb.size (fun b hv hlt => ⟨hb.block b hlt, hv⟩) _ _ h
theorem RepV.toI {B E : Nat} {w : World} {n : Nd} {cs : List Value} (h : RepV (From B) w n cs) (hE : E = w.heap.size) : RepV (Btw B E) w n cs :=
 RepV.keep (Nat.le_refl _) (fun b hv hlt => ⟨rfl, hv, by omega⟩) _ _ h
theorem RepV.ofI {B E : Nat} {V : Nat → Prop} {w : World} {n : Nd} {cs : List Value} (h : RepV (Btw B E) w n cs) (hV : ∀ b, B ≤ b → b < E → V b) : RepV V w n cs :=
 RepV.keep (Nat.le_refl _) (fun b hv hlt => ⟨rfl, hV b hv.1 hv.2⟩) _ _ h
theorem RepVL.ofI {B E : Nat} {V : Nat → Prop} {w : World} {n : List Nd} {A : Option Addr} (h : RepVL (Btw B E) w n A) (hV : ∀ b, B ≤ b → b < E → V b) : RepVL V w n A :=
 RepVL.keep (Nat.le_refl _) (fun b hv hlt => ⟨rfl, hV b hv.1 hv.2⟩) _ _ h
theorem Acc.toI {B E : Nat} {w : World} {v : Value} {ks : List Nd} (h : Acc B w v ks) (hE : E = w.heap.size) : AccV (Btw B E) B w v ks := by
 obtain ⟨xs, h1, ho⟩ := h
 refine ⟨xs, RepCs.keep (Nat.le_refl _) (fun b hv hlt => ⟨rfl, ⟨hv.1, by omega⟩, hv.2⟩) _ _ h1, fun g e => ?_, ho⟩
 have := ho.lt g e
 exact ⟨this.1, by omega⟩
theorem AccV.ofI {B E : Nat} {w : World} {v : Value} {ks : List Nd} (h : AccV (Btw B E) B w v ks) : Acc B w v ks := by
 obtain ⟨xs, h1, h2, ho⟩ := h
 exact ⟨xs, RepCs.keep (Nat.le_refl _) (fun b hv hlt => ⟨rfl, hv.1.1, hv.2⟩) _ _ h1, ho⟩
theorem AccV.mvI {B E p : Nat} {w w' : World} {v : Value} {ks : List Nd} (h : AccV (Btw B E) B w v ks) (hg : Mv p w w') (hp : p < B ∨ E ≤ p) : AccV (Btw B E) B w' v ks :=
 h.mvG hg (fun b hv e => by have h1 := hv.1; have h2 := hv.2; omega)
theorem fin_nodeR {C : RC} {w W : World} {i0 : Nat} {b0 : Bool} (h0 : RSt C w i0 b0) {n : Nd} {A : Option Addr} {c r0 j : Nat} {b : Bool} {V : Nat → Prop} {R : Res Nd} {a0 a1 a2 a3 : Value} (k : Blk W r0 24 #[a0, a1, a2, a3]) (h : RSt C W j b) (m : Mv C.p w W) (h1 : w.heap.size ≤ r0)
 (hr : RepV V W n [.int .i64 n.k, .string n.t, .int .i64 n.num, .slice A n.kids.length c]) (hV : ∀ b, V b → w.heap.size ≤ b ∧ b ≠ r0) (hf : Fol R n j b) :
 Blk ((((W.setCell ⟨r0, 0, none⟩ (.int .i64 n.k)).setCell ⟨r0, 1, none⟩ (.string n.t)).setCell ⟨r0, 2, none⟩ (.int .i64 n.num)).setCell ⟨r0, 3, none⟩ (.slice A n.kids.length c)) r0 24 #[.int .i64 n.k, .string n.t, .int .i64 n.num, .slice A n.kids.length c] ∧
 RNode C w R (.returned (.agg #[.int .i64 n.k, .string n.t, .int .i64 n.num, .slice A n.kids.length c])) ((((W.setCell ⟨r0, 0, none⟩ (.int .i64 n.k)).setCell ⟨r0, 1, none⟩ (.string n.t)).setCell ⟨r0, 2, none⟩ (.int .i64 n.num)).setCell ⟨r0, 3, none⟩ (.slice A n.kids.length c)) := by
 have hm := put4_mv W r0 (.int .i64 n.k) (.string n.t) (.int .i64 n.num) (.slice A n.kids.length c)
 exact ⟨blk_put4 k _ _ _ _, n, A, c, j, b, rfl, RepV.keep hm.size (fun b hv hlt => ⟨hm.block b hlt (fun e => by injection e with e; exact (hV b hv).2 e), (hV b hv).1⟩) _ _ hr, RSt.put h0 h m h1 hm, m.put h1 hm, hf⟩
theorem leafV {V : Nat → Prop} {w : World} {k num : Int} {t : ByteArray} (hn : I64 num) (ht : t.size ≤ maxLen) : RepV V w (.mk k t num []) [.int .i64 k, .string t, .int .i64 num, .slice none 0 0] := by
 refine RepV.of (kids := []) ?_ (by simp) (by simp) hn ht
 unfold RepVL
 trivial
theorem eat_yes {b x : Bool} (h : (!b && x) = true) : b = false ∧ x = true := by cases b <;> cases x <;> simp_all
theorem eat_no {b x : Bool} (h : (!b && x) = false) : b = false → ¬ x = true := by cases b <;> cases x <;> simp_all
theorem nm_max {s : ByteArray} (h : s.size ≤ 16) : s.size ≤ maxLen := by unfold maxLen; omega
theorem RSt.push {C : RC} {w w1 w2 : World} {i k : Nat} {b b' : Bool} {v : Value} {n : Nat} {xs : List Value} {e : TypeId} {s : Nat} {o : Obj} {B : Nat} (h0 : RSt C w i b') (h : RSt C w1 k b) (hm : Mv C.p w w1) (hB : w.heap.size ≤ B) (ho : w1.ownsRow B e s v n xs) (hg : (w1.alloc o).grownBy w2 v.ownBlock) : RSt C w2 k b ∧ Mv C.p w w2 := by
 have hm2 := mv_push hm hB ho hg
 refine ⟨h0.go hm2 ((h.blk.alloc o).grown hg (fun e' => ?_)) h.at_, hm2⟩
 have := (ho.lt _ e'.symm).1
 have := h0.lt
 omega
end Go.Proofs.YtgegfbopogcjpaaGreatDoor
