/- The parser: statements: return, put, a variable; The parser: statements: what begins with a name; The parser: every statement; The parser: every declaration. -/
import Derived.Test.YtgegfbopogcjpaaGreatDoorQ17
import Derived.Test.YtgegfbopogcjpaaGreatDoorQ18
import Derived.Test.YtgegfbopogcjpaaGreatDoorQ20
import Derived.Test.YtgegfbopogcjpaaGreatDoorQ21
namespace Go.Proofs.YtgegfbopogcjpaaGreatDoor
open Go.RowKit
set_option linter.unusedVariables false
set_option linter.unusedSimpArgs false
set_option maxRecDepth 100000
set_option maxHeartbeats 4000000
theorem stat_return (C : PC) (F : Nat) (w : World) (i : Nat) (h : PSt C w i) (hwet : statM C.L (F + 1) i ≠ .dry) (HBL : POk C 33 (blockM C.L (statM C.L F))) (HEX : POk C 93 (exprF C.L F)) (HRD : POk C 91 (roundM C.L (unaryM C.L F))) (HTY : POk C 29 (typM C.L F)) (h1 : tIs C.L ⟨#[105, 102]⟩ i = false) (h2 : tIs C.L ⟨#[119, 104, 105, 108, 101]⟩ i = false) (h3 : tIs C.L ⟨#[114, 101, 116, 117, 114, 110]⟩ i = true) : Calls Tryz.prog 73 #[.pointer (some ⟨C.p, 0, none⟩)] w (NodeOut C w (statM C.L (F + 1) i)) := by
 obtain ⟨R, HR⟩ : ∃ R, Hid (statM C.L (F + 1) i = R) := ⟨_, rfl⟩
 rw [HR.out] at hwet ⊢
 have HW := Lib.hid hwet
 have hR := HR.out
 rw [statM] at hR
 replace HR := Lib.hid hR
 have HS := Lib.hid (h.st.box 24 #[.int .i64 0, .string ⟨#[]⟩, .int .i64 0, .slice none 0 0])
 clear h hR hwet
 go_enter Tryz.func73, Tryz.ntmps73
 go_wp2_with fail
 generalize w.alloc (.cells #[.int .i64 0, .string ⟨#[]⟩, .int .i64 0, .slice none 0 0] 24) = w0 at *
 refine (haveN HS.out h1).mono ?_
 clear HS; rintro e w1 ⟨rfl, HS⟩
 replace HR := ifN HR.out h1
 go_wp2_with fail
 refine (haveN HS.out h2).mono ?_
 clear HS; rintro e w2 ⟨rfl, HS⟩
 replace HR := ifN HR.out h2
 go_wp2_with fail
 refine (haveY HS.out h3).mono ?_
 clear HS; rintro e w3 ⟨rfl, HS⟩
 replace HR := ifY HR.out h3
 go_wp2_with fail
 refine (subq HEX HS.out (bindW HR.out HW.out)).mono ?_
 clear HS; rintro e w4 (⟨k, hr, rfl, m⟩ | ⟨x, j2, Ax, cx, Vx, hr, rfl, HS⟩)
 ·go_wp2; exact ⟨rfl, badO (bindB HR.out hr) m⟩
 replace HR := bindO HR.out hr
 clear hr
 go_wp2_with fail
 replace HS := Lib.hid (HS.out.box 24 #[.int .i64 x.k, .string x.t, .int .i64 x.num, .slice Ax x.kids.length cx])
 generalize w4.alloc (.cells #[.int .i64 x.k, .string x.t, .int .i64 x.num, .slice Ax x.kids.length cx] 24) = w5 at *
 generalize w4.heap.size = by_ at *
 refine (nodeq HS.out 18 ⟨#[]⟩ (some ⟨by_, 0, none⟩) 1 1).mono ?_
 clear HS; rintro e w6 ⟨rfl, HS⟩
 go_wp2_with fail
 refine (closedq HS.out 18 ⟨#[]⟩ 0 (some ⟨by_, 0, none⟩) 1 1).mono ?_
 clear HS; rintro e w7 (⟨hr, rfl, m⟩ | ⟨hr, rfl, HS⟩)
 ·go_wp2; exact ⟨rfl, badO (bindB HR.out hr) m⟩
 replace HR := bindO HR.out hr
 clear hr
 replace HS := Lib.hid HS.out.f1
 replace HS := Lib.hid HS.out.f1
 replace HS := Lib.hid (HS.out.kid1 (x := x) 18 ⟨#[]⟩ 0 i64_0 (Nat.zero_le _))
 replace HS := Lib.hid HS.out.f1
 replace HS := Lib.hid HS.out.f1
 obtain ⟨f0, f1, f2, f3, g0, g1, g2, g3⟩ := (HS.out.blk 1 rfl).all4
 go_wp2_with fail
 have hf := finO HS.out HR
 try simp only [List.length_append, List.length_cons, List.length_nil, Nat.zero_add] at hf
 exact bodyPost_ret (v := .agg _) (results_cell4 (fn := Tryz.f73) rfl hf.1 rfl) rfl hf.2
theorem stat_put (C : PC) (F : Nat) (w : World) (i : Nat) (h : PSt C w i) (hwet : statM C.L (F + 1) i ≠ .dry) (HBL : POk C 33 (blockM C.L (statM C.L F))) (HEX : POk C 93 (exprF C.L F)) (HRD : POk C 91 (roundM C.L (unaryM C.L F))) (HTY : POk C 29 (typM C.L F)) (h1 : tIs C.L ⟨#[105, 102]⟩ i = false) (h2 : tIs C.L ⟨#[119, 104, 105, 108, 101]⟩ i = false) (h3 : tIs C.L ⟨#[114, 101, 116, 117, 114, 110]⟩ i = false) (h4 : tIs C.L ⟨#[112, 117, 116]⟩ i = true) : Calls Tryz.prog 73 #[.pointer (some ⟨C.p, 0, none⟩)] w (NodeOut C w (statM C.L (F + 1) i)) := by
 obtain ⟨R, HR⟩ : ∃ R, Hid (statM C.L (F + 1) i = R) := ⟨_, rfl⟩
 rw [HR.out] at hwet ⊢
 have HW := Lib.hid hwet
 have hR := HR.out
 rw [statM] at hR
 replace HR := Lib.hid hR
 have HS := Lib.hid (h.st.box 24 #[.int .i64 0, .string ⟨#[]⟩, .int .i64 0, .slice none 0 0])
 clear h hR hwet
 go_enter Tryz.func73, Tryz.ntmps73
 go_wp2_with fail
 generalize w.alloc (.cells #[.int .i64 0, .string ⟨#[]⟩, .int .i64 0, .slice none 0 0] 24) = w0 at *
 refine (haveN HS.out h1).mono ?_
 clear HS; rintro e w1 ⟨rfl, HS⟩
 replace HR := ifN HR.out h1
 go_wp2_with fail
 refine (haveN HS.out h2).mono ?_
 clear HS; rintro e w2 ⟨rfl, HS⟩
 replace HR := ifN HR.out h2
 go_wp2_with fail
 refine (haveN HS.out h3).mono ?_
 clear HS; rintro e w3 ⟨rfl, HS⟩
 replace HR := ifN HR.out h3
 go_wp2_with fail
 refine (haveY HS.out h4).mono ?_
 clear HS; rintro e w4 ⟨rfl, HS⟩
 replace HR := ifY HR.out h4
 go_wp2_with fail
 refine (subq HRD HS.out (bindW HR.out HW.out)).mono ?_
 clear HS; rintro e w5 (⟨k, hr, rfl, m⟩ | ⟨x, j2, Ax, cx, Vx, hr, rfl, HS⟩)
 ·go_wp2; exact ⟨rfl, badO (bindB HR.out hr) m⟩
 replace HR := bindO HR.out hr
 clear hr
 go_wp2_with fail
 replace HS := Lib.hid (HS.out.box 24 #[.int .i64 x.k, .string x.t, .int .i64 x.num, .slice Ax x.kids.length cx])
 generalize w5.alloc (.cells #[.int .i64 x.k, .string x.t, .int .i64 x.num, .slice Ax x.kids.length cx] 24) = w6 at *
 generalize w5.heap.size = by_ at *
 refine (nodeq HS.out 19 ⟨#[]⟩ (some ⟨by_, 0, none⟩) 1 1).mono ?_
 clear HS; rintro e w7 ⟨rfl, HS⟩
 go_wp2_with fail
 refine (closedq HS.out 19 ⟨#[]⟩ 0 (some ⟨by_, 0, none⟩) 1 1).mono ?_
 clear HS; rintro e w8 (⟨hr, rfl, m⟩ | ⟨hr, rfl, HS⟩)
 ·go_wp2; exact ⟨rfl, badO (bindB HR.out hr) m⟩
 replace HR := bindO HR.out hr
 clear hr
 replace HS := Lib.hid HS.out.f1
 replace HS := Lib.hid HS.out.f1
 replace HS := Lib.hid (HS.out.kid1 (x := x) 19 ⟨#[]⟩ 0 i64_0 (Nat.zero_le _))
 replace HS := Lib.hid HS.out.f1
 replace HS := Lib.hid HS.out.f1
 obtain ⟨f0, f1, f2, f3, g0, g1, g2, g3⟩ := (HS.out.blk 1 rfl).all4
 go_wp2_with fail
 have hf := finO HS.out HR
 try simp only [List.length_append, List.length_cons, List.length_nil, Nat.zero_add] at hf
 exact bodyPost_ret (v := .agg _) (results_cell4 (fn := Tryz.f73) rfl hf.1 rfl) rfl hf.2
theorem stat_var1 (C : PC) (F : Nat) (w : World) (i : Nat) (h : PSt C w i) (hwet : statM C.L (F + 1) i ≠ .dry) (HBL : POk C 33 (blockM C.L (statM C.L F))) (HEX : POk C 93 (exprF C.L F)) (HRD : POk C 91 (roundM C.L (unaryM C.L F))) (HTY : POk C 29 (typM C.L F)) (h1 : tIs C.L ⟨#[105, 102]⟩ i = false) (h2 : tIs C.L ⟨#[119, 104, 105, 108, 101]⟩ i = false) (h3 : tIs C.L ⟨#[114, 101, 116, 117, 114, 110]⟩ i = false) (h4 : tIs C.L ⟨#[112, 117, 116]⟩ i = false) (hin : tIn C.L [⟨#[105, 110, 116]⟩, ⟨#[108, 111, 110, 103]⟩, ⟨#[102, 110]⟩] i = true) (hc : tIn C.L [⟨#[105, 110, 116]⟩, ⟨#[108, 111, 110, 103]⟩, ⟨#[102, 110]⟩] i = true ∨ (tNm C.L i = true ∧ tNm C.L (i + 1) = true)) : Calls Tryz.prog 73 #[.pointer (some ⟨C.p, 0, none⟩)] w (NodeOut C w (statM C.L (F + 1) i)) := by
 obtain ⟨R, HR⟩ : ∃ R, Hid (statM C.L (F + 1) i = R) := ⟨_, rfl⟩
 rw [HR.out] at hwet ⊢
 have HW := Lib.hid hwet
 have hR := HR.out
 rw [statM] at hR
 replace HR := Lib.hid hR
 have HS := Lib.hid (h.st.box 24 #[.int .i64 0, .string ⟨#[]⟩, .int .i64 0, .slice none 0 0])
 clear h hR hwet
 go_enter Tryz.func73, Tryz.ntmps73
 go_wp2_with fail
 generalize w.alloc (.cells #[.int .i64 0, .string ⟨#[]⟩, .int .i64 0, .slice none 0 0] 24) = w0 at *
 refine (haveN HS.out h1).mono ?_
 clear HS; rintro e w1 ⟨rfl, HS⟩
 replace HR := ifN HR.out h1
 go_wp2_with fail
 refine (haveN HS.out h2).mono ?_
 clear HS; rintro e w2 ⟨rfl, HS⟩
 replace HR := ifN HR.out h2
 go_wp2_with fail
 refine (haveN HS.out h3).mono ?_
 clear HS; rintro e w3 ⟨rfl, HS⟩
 replace HR := ifN HR.out h3
 go_wp2_with fail
 refine (haveN HS.out h4).mono ?_
 clear HS; rintro e w4 ⟨rfl, HS⟩
 replace HR := ifN HR.out h4
 go_wp2_with fail
 refine (inq HS.out hin).mono ?_
 clear HS; rintro e w5 ⟨rfl, HS⟩
 go_wp2_with fail
 have hR := HR.out
 rw [if_pos hc] at hR
 replace HR := Lib.hid hR
 clear hR
 refine (subq HTY HS.out (bindW HR.out HW.out)).mono ?_
 clear HS; rintro e w6 (⟨k, hr, rfl, m⟩ | ⟨t, j, At, ct, Vt, hr, rfl, HS⟩)
 ·go_wp2; exact ⟨rfl, badO (bindB HR.out hr) m⟩
 replace HR := bindO HR.out hr
 clear hr
 go_wp2_with fail
 replace HS := Lib.hid (HS.out.box 24 #[.int .i64 t.k, .string t.t, .int .i64 t.num, .slice At t.kids.length ct])
 generalize w6.alloc (.cells #[.int .i64 t.k, .string t.t, .int .i64 t.num, .slice At t.kids.length ct] 24) = w7 at *
 generalize w6.heap.size = bt at *
 go_wp2_with fail
 refine (nameq HS.out).mono ?_
 clear HS; rintro e w8 (⟨hr, rfl, m⟩ | ⟨x, hr, hx, rfl, HS⟩)
 ·go_wp2; exact ⟨rfl, badO (bindB HR.out hr) m⟩
 replace HR := bindO HR.out hr
 clear hr
 go_wp2_with fail
 refine (needq HS.out ⟨#[61]⟩).mono ?_
 clear HS; rintro e w9 (⟨hr, rfl, m⟩ | ⟨hr, rfl, HS⟩)
 ·go_wp2; exact ⟨rfl, badO (bindB HR.out hr) m⟩
 replace HR := bindO HR.out hr
 clear hr
 go_wp2_with fail
 replace HS := Lib.hid (HS.out.below (Below.refl _ _).drew)
 refine wp_region_held_drew (S := fun _ => True) (by kernel_rfl) trivial (fun _ => ?_)
 generalize w9.drew = w10 at *
 (refine wpAnyH_take (i := 0) (v := ?_) rfl (by kernel_rfl) (by kernel_rfl) (by kernel_rfl) (fun _ _ _ h => h) (Or.inl ⟨by rfl, ?_⟩) (by assumption) ?_; rotate_left; · ((intro w hSw; (try dsimp only at hSw); go_simp) <;> with_reducible rfl); (try simp only [List.getElem_toArray, List.getElem_cons_succ, List.getElem_cons_zero, Act.put, List.setIfInBounds_toArray, List.set_cons_zero, List.set_cons_succ])); (refine wpAnyH_take (i := 1) (v := ?_) rfl (by kernel_rfl) (by kernel_rfl) (by kernel_rfl) (fun _ _ _ h => h) (Or.inl ⟨by rfl, ?_⟩) (by assumption) ?_; rotate_left; · ((intro w hSw; (try dsimp only at hSw); go_simp) <;> with_reducible rfl); (try simp only [List.getElem_toArray, List.getElem_cons_succ, List.getElem_cons_zero, Act.put, List.setIfInBounds_toArray, List.set_cons_zero, List.set_cons_succ])); (refine wpAnyH_take (i := 3) (v := ?_) rfl (by kernel_rfl) (by kernel_rfl) (by kernel_rfl) (fun _ _ _ h => h) (Or.inl ⟨by rfl, ?_⟩) (by assumption) ?_; rotate_left; · ((intro w hSw; (try dsimp only at hSw); go_simp) <;> with_reducible rfl); (try simp only [List.getElem_toArray, List.getElem_cons_succ, List.getElem_cons_zero, Act.put, List.setIfInBounds_toArray, List.set_cons_zero, List.set_cons_succ]))
 replace HS := Lib.hid HS.out.f2
 replace HS := Lib.hid HS.out.f1
 replace HS := Lib.hid HS.out.f2
 refine wpAnyH_grp [⟨2, some 84, []⟩, ⟨4, some 86, []⟩] 4 (fun vs W => ∃ y Ay cy Vy jy, Hid (SP C w W (altq (vs 4) ((j + 1) + 1) jy) (ifq (vs 4) (nd Vy y Ay cy) ++ [nd Vt t At ct, bx bt 24 #[.int .i64 t.k, .string t.t, .int .i64 t.num, .slice At t.kids.length ct], bx w.heap.size 24 #[.int .i64 0, .string ⟨#[]⟩, .int .i64 0, .slice none 0 0]])) ∧ OV (vs 2) (.agg #[.int .i64 t.k, .string t.t, .int .i64 t.num, .slice At t.kids.length ct]) ∧ OP (vs 4) (fun q_ => q_ = .agg #[.int .i64 y.k, .string y.t, .int .i64 y.num, .slice Ay y.kids.length cy] ∧ exprF C.L F ((j + 1) + 1) = .ok y jy)) (by rfl) (by kernel_rfl) ⟨.mk 0 ⟨#[]⟩ 0 [], none, 0, fun _ => False, 0, HS, OP.no _ rfl, OP.no _ rfl⟩ (fun _ _ _ => trivial) ⟨?_, ?_, trivial⟩ ?_
 ·clear HS; refine ⟨_, rfl, fun vs W h2 hd hn ⟨y, Ay, cy, Vy, jy, HS, e2, e4⟩ => ?_⟩
  obtain ⟨-, -, -, -, b0, b1, b2, b3⟩ := Blk.all4 (HS.out.ok (bx bt 24 #[.int .i64 t.k, .string t.t, .int .i64 t.num, .slice At t.kids.length ct]) (by simp))
  simp only [actG, old, Option.getD_some]; (try simp only [List.getElem_toArray, List.getElem_cons_succ, List.getElem_cons_zero, Act.put, List.setIfInBounds_toArray, List.set_cons_zero, List.set_cons_succ]); intro K hK
  go_simp
  clear b0 b1 b2 b3
  exact hK.out _ _ ⟨y, Ay, cy, Vy, jy, HS, OP.is rfl, e4⟩
 ·clear HS; refine ⟨_, rfl, fun vs W h4 hd hn ⟨y, Ay, cy, Vy, jy, HS, e2, e4⟩ => ?_⟩
  rw [h4] at HS
  simp only [actG, old, Option.getD_some]; (try simp only [List.getElem_toArray, List.getElem_cons_succ, List.getElem_cons_zero, Act.put, List.setIfInBounds_toArray, List.set_cons_zero, List.set_cons_succ]); intro K hK
  go_simp
  refine (subq HEX HS.out (bindW HR.out HW.out)).mono ?_
  clear HS; rintro e W (⟨k, hr, rfl, m⟩ | ⟨y, jy, Ay, cy, Vy, hr, rfl, HS⟩)
  ·go_wp2; exact ⟨rfl, badO (bindB HR.out hr) m⟩
  exact hK.out _ _ ⟨y, Ay, cy, Vy, jy, HS, e2, OP.is ⟨rfl, hr⟩⟩
 clear HS; intro vs W ⟨y, Ay, cy, Vy, jy, HS, e2, e4⟩ hall
 obtain ⟨⟨v2, h2⟩, ⟨v4, h4⟩, -⟩ := hall
 obtain rfl := e2 _ h2
 obtain ⟨rfl, hr⟩ := e4 _ h4
 rw [h4] at HS
 simp only [altq_some, ifq, List.cons_append, List.nil_append] at HS
 simp only [actG, lisG, old, h2, h4, Option.getD_some, Option.isSome_some, if_true, List.length_cons, List.length_nil]; (try simp only [List.getElem_toArray, List.getElem_cons_succ, List.getElem_cons_zero, Act.put, List.setIfInBounds_toArray, List.set_cons_zero, List.set_cons_succ])
 clear h2 e2 h4 e4 vs
 obtain ⟨w11, rfl⟩ : ∃ x, x = W := ⟨_, rfl⟩
 replace HR := bindO HR.out hr
 clear hr
 refine wpAnyH_ready (rs := [5]) (by kernel_rfl) (by simp) (AllReadyH.cons rfl (fun K hK => ?_) AllReadyH.nil)
 go_simp
 replace HS := Lib.hid (HS.out.box 24 #[.int .i64 t.k, .string t.t, .int .i64 t.num, .slice At t.kids.length ct, .int .i64 y.k, .string y.t, .int .i64 y.num, .slice Ay y.kids.length cy])
 generalize w11.alloc (.cells #[.int .i64 t.k, .string t.t, .int .i64 t.num, .slice At t.kids.length ct, .int .i64 y.k, .string y.t, .int .i64 y.num, .slice Ay y.kids.length cy] 24) = w12 at *
 generalize w11.heap.size = by_ at *
 refine hK.out _ _ trivial (fun _ => ?_)
 clear hK K
 (try simp only [List.getElem_toArray, List.getElem_cons_succ, List.getElem_cons_zero, Act.put, List.setIfInBounds_toArray, List.set_cons_zero, List.set_cons_succ])
 refine wpAnyH_ready (rs := [6]) (by kernel_rfl) (by simp) (AllReadyH.cons rfl (fun K hK => ?_) AllReadyH.nil)
 go_simp
 refine (nodeq HS.out 14 x (some ⟨by_, 0, none⟩) 2 2).mono ?_
 clear HS; rintro e w13 ⟨rfl, HS⟩
 refine hK.out _ _ trivial (fun _ => ?_)
 clear hK K
 (try simp only [List.getElem_toArray, List.getElem_cons_succ, List.getElem_cons_zero, Act.put, List.setIfInBounds_toArray, List.set_cons_zero, List.set_cons_succ])
 refine wpAnyH_ready (rs := [7]) (by kernel_rfl) (by simp) (AllReadyH.cons rfl (fun K hK => ?_) AllReadyH.nil)
 go_simp
 refine (closedq HS.out 14 x 0 (some ⟨by_, 0, none⟩) 2 2).mono ?_
 clear HS; rintro e w14 (⟨hr, rfl, m⟩ | ⟨hr, rfl, HS⟩)
 ·go_wp2; exact ⟨rfl, badO (bindB HR.out hr) m⟩
 replace HR := bindO HR.out hr
 clear hr
 refine hK.out _ _ trivial (fun _ => ?_)
 clear hK K
 (try simp only [List.getElem_toArray, List.getElem_cons_succ, List.getElem_cons_zero, Act.put, List.setIfInBounds_toArray, List.set_cons_zero, List.set_cons_succ])
 refine wpAnyH_ready (rs := [8]) (by kernel_rfl) (by simp) (AllReadyH.cons rfl (fun K hK => ?_) AllReadyH.nil)
 replace HS := Lib.hid HS.out.f4
 obtain ⟨f0, f1, f2, f3, g0, g1, g2, g3⟩ := HS.out.one.all4
 go_wp2_with fail
 clear f0 f1 f2 f3 g0 g1 g2 g3
 replace HS := Lib.hid (HS.out.put4 (.int .i64 14) (.string x) (.int .i64 0) (.slice (some ⟨by_, 0, none⟩) 2 2))
 generalize (((((w14).setCell ⟨w.heap.size, 0, none⟩ (.int .i64 14)).setCell ⟨w.heap.size, 1, none⟩ (.string x)).setCell ⟨w.heap.size, 2, none⟩ (.int .i64 0)).setCell ⟨w.heap.size, 3, none⟩ (.slice (some ⟨by_, 0, none⟩) 2 2)) = w15 at *
 refine hK.out _ _ trivial (fun _ => ?_)
 clear hK K
 (try simp only [List.getElem_toArray, List.getElem_cons_succ, List.getElem_cons_zero, Act.put, List.setIfInBounds_toArray, List.set_cons_zero, List.set_cons_succ])
 replace HS := Lib.hid HS.out.f2
 replace HS := Lib.hid HS.out.f3
 replace HS := Lib.hid HS.out.f3
 replace HS := Lib.hid (HS.out.kid2 (x := t) (z := y) 14 x 0 i64_0 hx)
 refine wpAnyH_done (by kernel_rfl) ?_ _
 go_wp2_with fail
 replace HS := Lib.hid HS.out.f1
 replace HS := Lib.hid HS.out.f1
 have hf := finP HS.out rfl HR
 exact bodyPost_ret (v := .agg _) (results_cell4 (fn := Tryz.f73) rfl hf.1 rfl) rfl hf.2
theorem stat_var2 (C : PC) (F : Nat) (w : World) (i : Nat) (h : PSt C w i) (hwet : statM C.L (F + 1) i ≠ .dry) (HBL : POk C 33 (blockM C.L (statM C.L F))) (HEX : POk C 93 (exprF C.L F)) (HRD : POk C 91 (roundM C.L (unaryM C.L F))) (HTY : POk C 29 (typM C.L F)) (h1 : tIs C.L ⟨#[105, 102]⟩ i = false) (h2 : tIs C.L ⟨#[119, 104, 105, 108, 101]⟩ i = false) (h3 : tIs C.L ⟨#[114, 101, 116, 117, 114, 110]⟩ i = false) (h4 : tIs C.L ⟨#[112, 117, 116]⟩ i = false) (hin : tIn C.L [⟨#[105, 110, 116]⟩, ⟨#[108, 111, 110, 103]⟩, ⟨#[102, 110]⟩] i = false) (n0 : tNm C.L (i + 0) = true) (n1 : tNm C.L (i + 1) = true) (hc : tIn C.L [⟨#[105, 110, 116]⟩, ⟨#[108, 111, 110, 103]⟩, ⟨#[102, 110]⟩] i = true ∨ (tNm C.L i = true ∧ tNm C.L (i + 1) = true)) : Calls Tryz.prog 73 #[.pointer (some ⟨C.p, 0, none⟩)] w (NodeOut C w (statM C.L (F + 1) i)) := by
 obtain ⟨R, HR⟩ : ∃ R, Hid (statM C.L (F + 1) i = R) := ⟨_, rfl⟩
 rw [HR.out] at hwet ⊢
 have HW := Lib.hid hwet
 have hR := HR.out
 rw [statM] at hR
 replace HR := Lib.hid hR
 have HS := Lib.hid (h.st.box 24 #[.int .i64 0, .string ⟨#[]⟩, .int .i64 0, .slice none 0 0])
 clear h hR hwet
 go_enter Tryz.func73, Tryz.ntmps73
 go_wp2_with fail
 generalize w.alloc (.cells #[.int .i64 0, .string ⟨#[]⟩, .int .i64 0, .slice none 0 0] 24) = w0 at *
 refine (haveN HS.out h1).mono ?_
 clear HS; rintro e w1 ⟨rfl, HS⟩
 replace HR := ifN HR.out h1
 go_wp2_with fail
 refine (haveN HS.out h2).mono ?_
 clear HS; rintro e w2 ⟨rfl, HS⟩
 replace HR := ifN HR.out h2
 go_wp2_with fail
 refine (haveN HS.out h3).mono ?_
 clear HS; rintro e w3 ⟨rfl, HS⟩
 replace HR := ifN HR.out h3
 go_wp2_with fail
 refine (haveN HS.out h4).mono ?_
 clear HS; rintro e w4 ⟨rfl, HS⟩
 replace HR := ifN HR.out h4
 go_wp2_with fail
 refine (inq HS.out hin).mono ?_
 clear HS; rintro e w5 ⟨rfl, HS⟩
 go_wp2_with fail
 refine (namedq HS.out 0 (by omega) n0).mono ?_
 clear HS; rintro e w6 ⟨rfl, HS⟩
 go_wp2_with fail
 refine (namedq HS.out 1 (by omega) n1).mono ?_
 clear HS; rintro e w7 ⟨rfl, HS⟩
 go_wp2_with fail
 have hR := HR.out
 rw [if_pos hc] at hR
 replace HR := Lib.hid hR
 clear hR
 refine (subq HTY HS.out (bindW HR.out HW.out)).mono ?_
 clear HS; rintro e w8 (⟨k, hr, rfl, m⟩ | ⟨t, j, At, ct, Vt, hr, rfl, HS⟩)
 ·go_wp2; exact ⟨rfl, badO (bindB HR.out hr) m⟩
 replace HR := bindO HR.out hr
 clear hr
 go_wp2_with fail
 replace HS := Lib.hid (HS.out.box 24 #[.int .i64 t.k, .string t.t, .int .i64 t.num, .slice At t.kids.length ct])
 generalize w8.alloc (.cells #[.int .i64 t.k, .string t.t, .int .i64 t.num, .slice At t.kids.length ct] 24) = w9 at *
 generalize w8.heap.size = bt at *
 go_wp2_with fail
 refine (nameq HS.out).mono ?_
 clear HS; rintro e w10 (⟨hr, rfl, m⟩ | ⟨x, hr, hx, rfl, HS⟩)
 ·go_wp2; exact ⟨rfl, badO (bindB HR.out hr) m⟩
 replace HR := bindO HR.out hr
 clear hr
 go_wp2_with fail
 refine (needq HS.out ⟨#[61]⟩).mono ?_
 clear HS; rintro e w11 (⟨hr, rfl, m⟩ | ⟨hr, rfl, HS⟩)
 ·go_wp2; exact ⟨rfl, badO (bindB HR.out hr) m⟩
 replace HR := bindO HR.out hr
 clear hr
 go_wp2_with fail
 replace HS := Lib.hid (HS.out.below (Below.refl _ _).drew)
 refine wp_region_held_drew (S := fun _ => True) (by kernel_rfl) trivial (fun _ => ?_)
 generalize w11.drew = w12 at *
 (refine wpAnyH_take (i := 0) (v := ?_) rfl (by kernel_rfl) (by kernel_rfl) (by kernel_rfl) (fun _ _ _ h => h) (Or.inl ⟨by rfl, ?_⟩) (by assumption) ?_; rotate_left; · ((intro w hSw; (try dsimp only at hSw); go_simp) <;> with_reducible rfl); (try simp only [List.getElem_toArray, List.getElem_cons_succ, List.getElem_cons_zero, Act.put, List.setIfInBounds_toArray, List.set_cons_zero, List.set_cons_succ])); (refine wpAnyH_take (i := 1) (v := ?_) rfl (by kernel_rfl) (by kernel_rfl) (by kernel_rfl) (fun _ _ _ h => h) (Or.inl ⟨by rfl, ?_⟩) (by assumption) ?_; rotate_left; · ((intro w hSw; (try dsimp only at hSw); go_simp) <;> with_reducible rfl); (try simp only [List.getElem_toArray, List.getElem_cons_succ, List.getElem_cons_zero, Act.put, List.setIfInBounds_toArray, List.set_cons_zero, List.set_cons_succ])); (refine wpAnyH_take (i := 3) (v := ?_) rfl (by kernel_rfl) (by kernel_rfl) (by kernel_rfl) (fun _ _ _ h => h) (Or.inl ⟨by rfl, ?_⟩) (by assumption) ?_; rotate_left; · ((intro w hSw; (try dsimp only at hSw); go_simp) <;> with_reducible rfl); (try simp only [List.getElem_toArray, List.getElem_cons_succ, List.getElem_cons_zero, Act.put, List.setIfInBounds_toArray, List.set_cons_zero, List.set_cons_succ]))
 replace HS := Lib.hid HS.out.f2
 replace HS := Lib.hid HS.out.f1
 replace HS := Lib.hid HS.out.f2
 refine wpAnyH_grp [⟨2, some 84, []⟩, ⟨4, some 86, []⟩] 4 (fun vs W => ∃ y Ay cy Vy jy, Hid (SP C w W (altq (vs 4) ((j + 1) + 1) jy) (ifq (vs 4) (nd Vy y Ay cy) ++ [nd Vt t At ct, bx bt 24 #[.int .i64 t.k, .string t.t, .int .i64 t.num, .slice At t.kids.length ct], bx w.heap.size 24 #[.int .i64 0, .string ⟨#[]⟩, .int .i64 0, .slice none 0 0]])) ∧ OV (vs 2) (.agg #[.int .i64 t.k, .string t.t, .int .i64 t.num, .slice At t.kids.length ct]) ∧ OP (vs 4) (fun q_ => q_ = .agg #[.int .i64 y.k, .string y.t, .int .i64 y.num, .slice Ay y.kids.length cy] ∧ exprF C.L F ((j + 1) + 1) = .ok y jy)) (by rfl) (by kernel_rfl) ⟨.mk 0 ⟨#[]⟩ 0 [], none, 0, fun _ => False, 0, HS, OP.no _ rfl, OP.no _ rfl⟩ (fun _ _ _ => trivial) ⟨?_, ?_, trivial⟩ ?_
 ·clear HS; refine ⟨_, rfl, fun vs W h2 hd hn ⟨y, Ay, cy, Vy, jy, HS, e2, e4⟩ => ?_⟩
  obtain ⟨-, -, -, -, b0, b1, b2, b3⟩ := Blk.all4 (HS.out.ok (bx bt 24 #[.int .i64 t.k, .string t.t, .int .i64 t.num, .slice At t.kids.length ct]) (by simp))
  simp only [actG, old, Option.getD_some]; (try simp only [List.getElem_toArray, List.getElem_cons_succ, List.getElem_cons_zero, Act.put, List.setIfInBounds_toArray, List.set_cons_zero, List.set_cons_succ]); intro K hK
  go_simp
  clear b0 b1 b2 b3
  exact hK.out _ _ ⟨y, Ay, cy, Vy, jy, HS, OP.is rfl, e4⟩
 ·clear HS; refine ⟨_, rfl, fun vs W h4 hd hn ⟨y, Ay, cy, Vy, jy, HS, e2, e4⟩ => ?_⟩
  rw [h4] at HS
  simp only [actG, old, Option.getD_some]; (try simp only [List.getElem_toArray, List.getElem_cons_succ, List.getElem_cons_zero, Act.put, List.setIfInBounds_toArray, List.set_cons_zero, List.set_cons_succ]); intro K hK
  go_simp
  refine (subq HEX HS.out (bindW HR.out HW.out)).mono ?_
  clear HS; rintro e W (⟨k, hr, rfl, m⟩ | ⟨y, jy, Ay, cy, Vy, hr, rfl, HS⟩)
  ·go_wp2; exact ⟨rfl, badO (bindB HR.out hr) m⟩
  exact hK.out _ _ ⟨y, Ay, cy, Vy, jy, HS, e2, OP.is ⟨rfl, hr⟩⟩
 clear HS; intro vs W ⟨y, Ay, cy, Vy, jy, HS, e2, e4⟩ hall
 obtain ⟨⟨v2, h2⟩, ⟨v4, h4⟩, -⟩ := hall
 obtain rfl := e2 _ h2
 obtain ⟨rfl, hr⟩ := e4 _ h4
 rw [h4] at HS
 simp only [altq_some, ifq, List.cons_append, List.nil_append] at HS
 simp only [actG, lisG, old, h2, h4, Option.getD_some, Option.isSome_some, if_true, List.length_cons, List.length_nil]; (try simp only [List.getElem_toArray, List.getElem_cons_succ, List.getElem_cons_zero, Act.put, List.setIfInBounds_toArray, List.set_cons_zero, List.set_cons_succ])
 clear h2 e2 h4 e4 vs
 obtain ⟨w13, rfl⟩ : ∃ x, x = W := ⟨_, rfl⟩
 replace HR := bindO HR.out hr
 clear hr
 refine wpAnyH_ready (rs := [5]) (by kernel_rfl) (by simp) (AllReadyH.cons rfl (fun K hK => ?_) AllReadyH.nil)
 go_simp
 replace HS := Lib.hid (HS.out.box 24 #[.int .i64 t.k, .string t.t, .int .i64 t.num, .slice At t.kids.length ct, .int .i64 y.k, .string y.t, .int .i64 y.num, .slice Ay y.kids.length cy])
 generalize w13.alloc (.cells #[.int .i64 t.k, .string t.t, .int .i64 t.num, .slice At t.kids.length ct, .int .i64 y.k, .string y.t, .int .i64 y.num, .slice Ay y.kids.length cy] 24) = w14 at *
 generalize w13.heap.size = by_ at *
 refine hK.out _ _ trivial (fun _ => ?_)
 clear hK K
 (try simp only [List.getElem_toArray, List.getElem_cons_succ, List.getElem_cons_zero, Act.put, List.setIfInBounds_toArray, List.set_cons_zero, List.set_cons_succ])
 refine wpAnyH_ready (rs := [6]) (by kernel_rfl) (by simp) (AllReadyH.cons rfl (fun K hK => ?_) AllReadyH.nil)
 go_simp
 refine (nodeq HS.out 14 x (some ⟨by_, 0, none⟩) 2 2).mono ?_
 clear HS; rintro e w15 ⟨rfl, HS⟩
 refine hK.out _ _ trivial (fun _ => ?_)
 clear hK K
 (try simp only [List.getElem_toArray, List.getElem_cons_succ, List.getElem_cons_zero, Act.put, List.setIfInBounds_toArray, List.set_cons_zero, List.set_cons_succ])
 refine wpAnyH_ready (rs := [7]) (by kernel_rfl) (by simp) (AllReadyH.cons rfl (fun K hK => ?_) AllReadyH.nil)
 go_simp
 refine (closedq HS.out 14 x 0 (some ⟨by_, 0, none⟩) 2 2).mono ?_
 clear HS; rintro e w16 (⟨hr, rfl, m⟩ | ⟨hr, rfl, HS⟩)
 ·go_wp2; exact ⟨rfl, badO (bindB HR.out hr) m⟩
 replace HR := bindO HR.out hr
 clear hr
 refine hK.out _ _ trivial (fun _ => ?_)
 clear hK K
 (try simp only [List.getElem_toArray, List.getElem_cons_succ, List.getElem_cons_zero, Act.put, List.setIfInBounds_toArray, List.set_cons_zero, List.set_cons_succ])
 refine wpAnyH_ready (rs := [8]) (by kernel_rfl) (by simp) (AllReadyH.cons rfl (fun K hK => ?_) AllReadyH.nil)
 replace HS := Lib.hid HS.out.f4
 obtain ⟨f0, f1, f2, f3, g0, g1, g2, g3⟩ := HS.out.one.all4
 go_wp2_with fail
 clear f0 f1 f2 f3 g0 g1 g2 g3
 replace HS := Lib.hid (HS.out.put4 (.int .i64 14) (.string x) (.int .i64 0) (.slice (some ⟨by_, 0, none⟩) 2 2))
 generalize (((((w16).setCell ⟨w.heap.size, 0, none⟩ (.int .i64 14)).setCell ⟨w.heap.size, 1, none⟩ (.string x)).setCell ⟨w.heap.size, 2, none⟩ (.int .i64 0)).setCell ⟨w.heap.size, 3, none⟩ (.slice (some ⟨by_, 0, none⟩) 2 2)) = w17 at *
 refine hK.out _ _ trivial (fun _ => ?_)
 clear hK K
 (try simp only [List.getElem_toArray, List.getElem_cons_succ, List.getElem_cons_zero, Act.put, List.setIfInBounds_toArray, List.set_cons_zero, List.set_cons_succ])
 replace HS := Lib.hid HS.out.f2
 replace HS := Lib.hid HS.out.f3
 replace HS := Lib.hid HS.out.f3
 replace HS := Lib.hid (HS.out.kid2 (x := t) (z := y) 14 x 0 i64_0 hx)
 refine wpAnyH_done (by kernel_rfl) ?_ _
 go_wp2_with fail
 replace HS := Lib.hid HS.out.f1
 replace HS := Lib.hid HS.out.f1
 have hf := finP HS.out rfl HR
 exact bodyPost_ret (v := .agg _) (results_cell4 (fn := Tryz.f73) rfl hf.1 rfl) rfl hf.2
end Go.Proofs.YtgegfbopogcjpaaGreatDoor
namespace Go.Proofs.YtgegfbopogcjpaaGreatDoor
open Go.RowKit
set_option linter.unusedVariables false
set_option linter.unusedSimpArgs false
set_option maxRecDepth 100000
set_option maxHeartbeats 4000000
def SiRel (C : PC) (F : Nat) (R : Res Nd) (w : World) (bt gk : Nat) (cd : Value) (wr : World) : Prop :=
 ∃ (called : Bool) (x : Nd) (A : Option Addr) (c : Nat) (V : Nat → Prop) (j : Nat), cd = .bool called ∧ Hid (SP C w wr j [nd V x A c, bx bt 24 #[.int .i64 x.k, .string x.t, .int .i64 x.num, .slice A x.kids.length c], bx w.heap.size 24 #[.int .i64 0, .string ⟨#[]⟩, .int .i64 0, .slice none 0 0]]) ∧ Hid (simpleM C.L F gk called x j = R)
theorem stat_none (C : PC) (F : Nat) (w : World) (i : Nat) (h : PSt C w i) (hwet : statM C.L (F + 1) i ≠ .dry) (HBL : POk C 33 (blockM C.L (statM C.L F))) (HEX : POk C 93 (exprF C.L F)) (HRD : POk C 91 (roundM C.L (unaryM C.L F))) (HTY : POk C 29 (typM C.L F)) (h1 : tIs C.L ⟨#[105, 102]⟩ i = false) (h2 : tIs C.L ⟨#[119, 104, 105, 108, 101]⟩ i = false) (h3 : tIs C.L ⟨#[114, 101, 116, 117, 114, 110]⟩ i = false) (h4 : tIs C.L ⟨#[112, 117, 116]⟩ i = false) (hin : tIn C.L [⟨#[105, 110, 116]⟩, ⟨#[108, 111, 110, 103]⟩, ⟨#[102, 110]⟩] i = false) (n0 : tNm C.L (i + 0) = false) (hc : ¬ (tIn C.L [⟨#[105, 110, 116]⟩, ⟨#[108, 111, 110, 103]⟩, ⟨#[102, 110]⟩] i = true ∨ (tNm C.L i = true ∧ tNm C.L (i + 1) = true))) : Calls Tryz.prog 73 #[.pointer (some ⟨C.p, 0, none⟩)] w (NodeOut C w (statM C.L (F + 1) i)) := by
 obtain ⟨R, HR⟩ : ∃ R, Hid (statM C.L (F + 1) i = R) := ⟨_, rfl⟩
 rw [HR.out] at hwet ⊢
 have HW := Lib.hid hwet
 have hR := HR.out
 rw [statM] at hR
 replace HR := Lib.hid hR
 have HS := Lib.hid (h.st.box 24 #[.int .i64 0, .string ⟨#[]⟩, .int .i64 0, .slice none 0 0])
 clear h hR hwet
 go_enter Tryz.func73, Tryz.ntmps73
 go_wp2_with fail
 generalize w.alloc (.cells #[.int .i64 0, .string ⟨#[]⟩, .int .i64 0, .slice none 0 0] 24) = w0 at *
 refine (haveN HS.out h1).mono ?_
 clear HS; rintro e w1 ⟨rfl, HS⟩
 replace HR := ifN HR.out h1
 go_wp2_with fail
 refine (haveN HS.out h2).mono ?_
 clear HS; rintro e w2 ⟨rfl, HS⟩
 replace HR := ifN HR.out h2
 go_wp2_with fail
 refine (haveN HS.out h3).mono ?_
 clear HS; rintro e w3 ⟨rfl, HS⟩
 replace HR := ifN HR.out h3
 go_wp2_with fail
 refine (haveN HS.out h4).mono ?_
 clear HS; rintro e w4 ⟨rfl, HS⟩
 replace HR := ifN HR.out h4
 go_wp2_with fail
 refine (inq HS.out hin).mono ?_
 clear HS; rintro e w5 ⟨rfl, HS⟩
 go_wp2_with fail
 refine (namedq HS.out 0 (by omega) n0).mono ?_
 clear HS; rintro e w6 ⟨rfl, HS⟩
 go_wp2_with fail
 have hR := HR.out
 rw [if_neg hc] at hR
 replace HR := Lib.hid hR
 clear hR
 refine (nameq HS.out).mono ?_
 clear HS; rintro e w7 (⟨hr, rfl, m⟩ | ⟨x, hr, hx, rfl, HS⟩)
 ·go_wp2; exact ⟨rfl, badO (bindB HR.out hr) m⟩
 rw [Nat.add_zero] at n0
 unfold nameM at hr
 rw [n0] at hr
 cases hr
theorem stat_simple (C : PC) (F : Nat) (w : World) (i : Nat) (h : PSt C w i) (hwet : statM C.L (F + 1) i ≠ .dry) (HBL : POk C 33 (blockM C.L (statM C.L F))) (HEX : POk C 93 (exprF C.L F)) (HRD : POk C 91 (roundM C.L (unaryM C.L F))) (HTY : POk C 29 (typM C.L F)) (h1 : tIs C.L ⟨#[105, 102]⟩ i = false) (h2 : tIs C.L ⟨#[119, 104, 105, 108, 101]⟩ i = false) (h3 : tIs C.L ⟨#[114, 101, 116, 117, 114, 110]⟩ i = false) (h4 : tIs C.L ⟨#[112, 117, 116]⟩ i = false) (hin : tIn C.L [⟨#[105, 110, 116]⟩, ⟨#[108, 111, 110, 103]⟩, ⟨#[102, 110]⟩] i = false) (n0 : tNm C.L (i + 0) = true) (n1 : tNm C.L (i + 1) = false) (hc : ¬ (tIn C.L [⟨#[105, 110, 116]⟩, ⟨#[108, 111, 110, 103]⟩, ⟨#[102, 110]⟩] i = true ∨ (tNm C.L i = true ∧ tNm C.L (i + 1) = true))) : Calls Tryz.prog 73 #[.pointer (some ⟨C.p, 0, none⟩)] w (NodeOut C w (statM C.L (F + 1) i)) := by
 obtain ⟨R, HR⟩ : ∃ R, Hid (statM C.L (F + 1) i = R) := ⟨_, rfl⟩
 rw [HR.out] at hwet ⊢
 have HW := Lib.hid hwet
 have hR := HR.out
 rw [statM] at hR
 replace HR := Lib.hid hR
 have HS := Lib.hid (h.st.box 24 #[.int .i64 0, .string ⟨#[]⟩, .int .i64 0, .slice none 0 0])
 clear h hR hwet
 go_enter Tryz.func73, Tryz.ntmps73
 go_wp2_with fail
 generalize w.alloc (.cells #[.int .i64 0, .string ⟨#[]⟩, .int .i64 0, .slice none 0 0] 24) = w0 at *
 refine (haveN HS.out h1).mono ?_
 clear HS; rintro e w1 ⟨rfl, HS⟩
 replace HR := ifN HR.out h1
 go_wp2_with fail
 refine (haveN HS.out h2).mono ?_
 clear HS; rintro e w2 ⟨rfl, HS⟩
 replace HR := ifN HR.out h2
 go_wp2_with fail
 refine (haveN HS.out h3).mono ?_
 clear HS; rintro e w3 ⟨rfl, HS⟩
 replace HR := ifN HR.out h3
 go_wp2_with fail
 refine (haveN HS.out h4).mono ?_
 clear HS; rintro e w4 ⟨rfl, HS⟩
 replace HR := ifN HR.out h4
 go_wp2_with fail
 refine (inq HS.out hin).mono ?_
 clear HS; rintro e w5 ⟨rfl, HS⟩
 go_wp2_with fail
 refine (namedq HS.out 0 (by omega) n0).mono ?_
 clear HS; rintro e w6 ⟨rfl, HS⟩
 go_wp2_with fail
 refine (namedq HS.out 1 (by omega) n1).mono ?_
 clear HS; rintro e w7 ⟨rfl, HS⟩
 go_wp2_with fail
 have hR := HR.out
 rw [if_neg hc] at hR
 replace HR := Lib.hid hR
 clear hR
 refine (nameq HS.out).mono ?_
 clear HS; rintro e w8 (⟨hr, rfl, m⟩ | ⟨nm, hr, hnm, rfl, HS⟩)
 ·go_wp2; exact ⟨rfl, badO (bindB HR.out hr) m⟩
 replace HR := bindO HR.out hr
 clear hr
 go_wp2_with fail
 refine (nodeq HS.out 23 nm none 0 0).mono ?_
 clear HS; rintro e w9 ⟨rfl, HS⟩
 go_wp2_with fail
 replace HS := Lib.hid (HS.out.box 24 #[.int .i64 23, .string nm, .int .i64 0, .slice none 0 0])
 generalize w9.alloc (.cells #[.int .i64 23, .string nm, .int .i64 0, .slice none 0 0] 24) = w10 at *
 generalize w9.heap.size = bt at *
 go_wp2_with fail
 replace HS := Lib.hid (HS.out.leaf 23 nm 0 i64_0 hnm)
 go_loopg [8] (C.L.length + 1) (fun gk cd wr => SiRel C F R w bt gk cd wr)
 case atStart => exact ⟨false, .mk 23 nm 0 [], none, 0, _, (i + 1), rfl, HS, HR⟩
 case round =>
  clear HS HR; obtain ⟨called, x, Ax, cx, Vx, j, rfl, HS, HR⟩ := hrel
  cases gk with
  | zero => exact absurd (show Res.dry = R from HR.out) (fun e => HW.out e.symm)
  | succ g =>
  have hR := HR.out
  rw [simpleM] at hR
  replace HR := Lib.hid hR
  clear hR
  obtain ⟨w100, rfl⟩ : ∃ x, x = wr := ⟨_, rfl⟩
  go_wp2_with fail
  rcases ht : tIs C.L ⟨#[46]⟩ j with _ | _
  ·refine (haveN HS.out ht).mono ?_
   clear HS; rintro e w101 ⟨rfl, HS⟩
   replace HR := ifN HR.out ht
   go_wp2_with fail
   clear ht
   rcases ht : tIs C.L ⟨#[40]⟩ j with _ | _
   ·refine (isq HS.out ht).mono ?_
    clear HS; rintro e w102 ⟨rfl, HS⟩
    replace HR := ifN HR.out ht
    clear ht
    rcases called with _ | _
    ·have hR := HR.out
     simp only [true_and] at hR
     replace HR := Lib.hid hR
     clear hR
     go_wp2_with fail
     rcases ht : tIs C.L ⟨#[61]⟩ j with _ | _
     ·refine (haveN HS.out ht).mono ?_
      clear HS; rintro e w103 ⟨rfl, HS⟩
      replace HR := ifN HR.out ht
      clear ht
      by_cases hk : x.k = 25
      ·have hR := HR.out
       rw [if_pos hk] at hR
       replace HR := Lib.hid hR
       clear hR
       obtain ⟨xk, xt, xn, xl⟩ := x
       have hk : xk = 25 := hk
       subst hk
       simp only [Nd.k, Nd.t, Nd.num, Nd.kids] at HS
       obtain ⟨-, -, -, -, b0, b1, b2, b3⟩ := (HS.out.blk 1 rfl).all4
       go_wp2_with fail
       clear b0 b1 b2 b3
       replace HS := Lib.hid (HS.out.box 24 #[.int .i64 25, .string xt, .int .i64 xn, .slice Ax xl.length cx])
       generalize w103.alloc (.cells #[.int .i64 25, .string xt, .int .i64 xn, .slice Ax xl.length cx] 24) = w104 at *
       generalize w103.heap.size = by_ at *
       refine (nodeq HS.out 20 ⟨#[]⟩ (some ⟨by_, 0, none⟩) 1 1).mono ?_
       clear HS; rintro e w105 ⟨rfl, HS⟩
       go_wp2_with fail
       refine (closedq HS.out 20 ⟨#[]⟩ 0 (some ⟨by_, 0, none⟩) 1 1).mono ?_
       clear HS; rintro e w106 (⟨hr, rfl, m⟩ | ⟨hr, rfl, HS⟩)
       ·go_wp2; exact ⟨rfl, badO (bindB HR.out hr) m⟩
       replace HR := bindO HR.out hr
       clear hr
       replace HS := Lib.hid HS.out.f1
       replace HS := Lib.hid HS.out.f1
       replace HS := Lib.hid (HS.out.kid1 (x := .mk 25 xt xn xl) 20 ⟨#[]⟩ 0 i64_0 (Nat.zero_le _))
       replace HS := Lib.hid HS.out.f2
       replace HS := Lib.hid HS.out.f1
       obtain ⟨f0, f1, f2, f3, g0, g1, g2, g3⟩ := (HS.out.blk 1 rfl).all4
       go_wp2_with fail
       have hf := finO HS.out HR
       try simp only [List.length_append, List.length_cons, List.length_nil, Nat.zero_add] at hf
       exact bodyPost_ret (v := .agg _) (results_cell4 (fn := Tryz.f73) rfl hf.1 rfl) rfl hf.2
      have hR := HR.out
      rw [if_neg hk] at hR
      replace HR := Lib.hid hR
      clear hR
      have hd : (x.k == 25) = false := by simpa using hk
      obtain ⟨-, -, -, -, b0, b1, b2, b3⟩ := (HS.out.blk 1 rfl).all4
      go_wp2_with fail
      clear b0 b1 b2 b3
      clear hd hk
      refine (fail_any C _ _ HS.out.z).mono ?_
      rintro e w104 ⟨he, hb⟩
      obtain rfl : e = badP C j := he
      have m := HS.out.mv.trans_ (mv_below (p := C.p) hb)
      go_wp2; exact ⟨rfl, badO HR.out m⟩
     refine (haveY HS.out ht).mono ?_
     clear HS; rintro e w103 ⟨rfl, HS⟩
     replace HR := ifY HR.out ht
     clear ht
     go_wp2_with fail
     replace HS := Lib.hid (HS.out.below (Below.refl _ _).drew)
     refine wp_region_held_drew (S := fun _ => True) (by kernel_rfl) trivial (fun _ => ?_)
     generalize w103.drew = w104 at *
     (refine wpAnyH_take (i := 0) (v := ?_) rfl (by kernel_rfl) (by kernel_rfl) (by kernel_rfl) (fun _ _ _ h => h) (Or.inl ⟨by rfl, ?_⟩) (by assumption) ?_; rotate_left; · ((intro w hSw; (try dsimp only at hSw); go_simp) <;> with_reducible rfl); (try simp only [List.getElem_toArray, List.getElem_cons_succ, List.getElem_cons_zero, Act.put, List.setIfInBounds_toArray, List.set_cons_zero, List.set_cons_succ])); (refine wpAnyH_take (i := 2) (v := ?_) rfl (by kernel_rfl) (by kernel_rfl) (by kernel_rfl) (fun _ _ _ h => h) (Or.inl ⟨by rfl, ?_⟩) (by assumption) ?_; rotate_left; · ((intro w hSw; (try dsimp only at hSw); go_simp) <;> with_reducible rfl); (try simp only [List.getElem_toArray, List.getElem_cons_succ, List.getElem_cons_zero, Act.put, List.setIfInBounds_toArray, List.set_cons_zero, List.set_cons_succ]))
     replace HS := Lib.hid HS.out.f2
     replace HS := Lib.hid HS.out.f2
     replace HS := Lib.hid HS.out.f2
     refine wpAnyH_grp [⟨1, some 118, []⟩, ⟨3, some 120, []⟩] 4 (fun vs W => ∃ y Ay cy Vy jy, Hid (SP C w W (altq (vs 3) (j + 1) jy) (ifq (vs 3) (nd Vy y Ay cy) ++ [nd Vx x Ax cx, bx bt 24 #[.int .i64 x.k, .string x.t, .int .i64 x.num, .slice Ax x.kids.length cx], bx w.heap.size 24 #[.int .i64 0, .string ⟨#[]⟩, .int .i64 0, .slice none 0 0]])) ∧ OV (vs 1) (.agg #[.int .i64 x.k, .string x.t, .int .i64 x.num, .slice Ax x.kids.length cx]) ∧ OP (vs 3) (fun q_ => q_ = .agg #[.int .i64 y.k, .string y.t, .int .i64 y.num, .slice Ay y.kids.length cy] ∧ exprF C.L F (j + 1) = .ok y jy)) (by rfl) (by kernel_rfl) ⟨.mk 0 ⟨#[]⟩ 0 [], none, 0, fun _ => False, 0, HS, OP.no _ rfl, OP.no _ rfl⟩ (fun _ _ _ => trivial) ⟨?_, ?_, trivial⟩ ?_
     ·clear HS; refine ⟨_, rfl, fun vs W h1 hd hn ⟨y, Ay, cy, Vy, jy, HS, e1, e3⟩ => ?_⟩
      obtain ⟨-, -, -, -, b0, b1, b2, b3⟩ := Blk.all4 (HS.out.ok (bx bt 24 #[.int .i64 x.k, .string x.t, .int .i64 x.num, .slice Ax x.kids.length cx]) (by simp))
      simp only [actG, old, Option.getD_some]; (try simp only [List.getElem_toArray, List.getElem_cons_succ, List.getElem_cons_zero, Act.put, List.setIfInBounds_toArray, List.set_cons_zero, List.set_cons_succ]); intro K hK
      go_simp
      clear b0 b1 b2 b3
      exact hK.out _ _ ⟨y, Ay, cy, Vy, jy, HS, OP.is rfl, e3⟩
     ·clear HS; refine ⟨_, rfl, fun vs W h3 hd hn ⟨y, Ay, cy, Vy, jy, HS, e1, e3⟩ => ?_⟩
      rw [h3] at HS
      simp only [actG, old, Option.getD_some]; (try simp only [List.getElem_toArray, List.getElem_cons_succ, List.getElem_cons_zero, Act.put, List.setIfInBounds_toArray, List.set_cons_zero, List.set_cons_succ]); intro K hK
      go_simp
      refine (subq HEX HS.out (bindW HR.out HW.out)).mono ?_
      clear HS; rintro e W (⟨k, hr, rfl, m⟩ | ⟨y, jy, Ay, cy, Vy, hr, rfl, HS⟩)
      ·go_wp2; exact ⟨rfl, badO (bindB HR.out hr) m⟩
      exact hK.out _ _ ⟨y, Ay, cy, Vy, jy, HS, e1, OP.is ⟨rfl, hr⟩⟩
     clear HS; intro vs W ⟨y, Ay, cy, Vy, jy, HS, e1, e3⟩ hall
     obtain ⟨⟨v1, h1⟩, ⟨v3, h3⟩, -⟩ := hall
     obtain rfl := e1 _ h1
     obtain ⟨rfl, hr⟩ := e3 _ h3
     rw [h3] at HS
     simp only [altq_some, ifq, List.cons_append, List.nil_append] at HS
     simp only [actG, lisG, old, h1, h3, Option.getD_some, Option.isSome_some, if_true, List.length_cons, List.length_nil]; (try simp only [List.getElem_toArray, List.getElem_cons_succ, List.getElem_cons_zero, Act.put, List.setIfInBounds_toArray, List.set_cons_zero, List.set_cons_succ])
     clear h1 e1 h3 e3 vs
     obtain ⟨w105, rfl⟩ : ∃ x, x = W := ⟨_, rfl⟩
     replace HR := bindO HR.out hr
     clear hr
     refine wpAnyH_ready (rs := [4]) (by kernel_rfl) (by simp) (AllReadyH.cons rfl (fun K hK => ?_) AllReadyH.nil)
     go_simp
     replace HS := Lib.hid (HS.out.box 24 #[.int .i64 x.k, .string x.t, .int .i64 x.num, .slice Ax x.kids.length cx, .int .i64 y.k, .string y.t, .int .i64 y.num, .slice Ay y.kids.length cy])
     generalize w105.alloc (.cells #[.int .i64 x.k, .string x.t, .int .i64 x.num, .slice Ax x.kids.length cx, .int .i64 y.k, .string y.t, .int .i64 y.num, .slice Ay y.kids.length cy] 24) = w106 at *
     generalize w105.heap.size = by_ at *
     refine hK.out _ _ trivial (fun _ => ?_)
     clear hK K
     (try simp only [List.getElem_toArray, List.getElem_cons_succ, List.getElem_cons_zero, Act.put, List.setIfInBounds_toArray, List.set_cons_zero, List.set_cons_succ])
     refine wpAnyH_ready (rs := [5]) (by kernel_rfl) (by simp) (AllReadyH.cons rfl (fun K hK => ?_) AllReadyH.nil)
     go_simp
     refine (nodeq HS.out 15 ⟨#[]⟩ (some ⟨by_, 0, none⟩) 2 2).mono ?_
     clear HS; rintro e w107 ⟨rfl, HS⟩
     refine hK.out _ _ trivial (fun _ => ?_)
     clear hK K
     (try simp only [List.getElem_toArray, List.getElem_cons_succ, List.getElem_cons_zero, Act.put, List.setIfInBounds_toArray, List.set_cons_zero, List.set_cons_succ])
     refine wpAnyH_ready (rs := [6]) (by kernel_rfl) (by simp) (AllReadyH.cons rfl (fun K hK => ?_) AllReadyH.nil)
     go_simp
     refine (closedq HS.out 15 ⟨#[]⟩ 0 (some ⟨by_, 0, none⟩) 2 2).mono ?_
     clear HS; rintro e w108 (⟨hr, rfl, m⟩ | ⟨hr, rfl, HS⟩)
     ·go_wp2; exact ⟨rfl, badO (bindB HR.out hr) m⟩
     replace HR := bindO HR.out hr
     clear hr
     refine hK.out _ _ trivial (fun _ => ?_)
     clear hK K
     (try simp only [List.getElem_toArray, List.getElem_cons_succ, List.getElem_cons_zero, Act.put, List.setIfInBounds_toArray, List.set_cons_zero, List.set_cons_succ])
     refine wpAnyH_ready (rs := [7]) (by kernel_rfl) (by simp) (AllReadyH.cons rfl (fun K hK => ?_) AllReadyH.nil)
     replace HS := Lib.hid HS.out.f4
     obtain ⟨f0, f1, f2, f3, g0, g1, g2, g3⟩ := HS.out.one.all4
     go_wp2_with fail
     clear f0 f1 f2 f3 g0 g1 g2 g3
     replace HS := Lib.hid (HS.out.put4 (.int .i64 15) (.string ⟨#[]⟩) (.int .i64 0) (.slice (some ⟨by_, 0, none⟩) 2 2))
     generalize (((((w108).setCell ⟨w.heap.size, 0, none⟩ (.int .i64 15)).setCell ⟨w.heap.size, 1, none⟩ (.string ⟨#[]⟩)).setCell ⟨w.heap.size, 2, none⟩ (.int .i64 0)).setCell ⟨w.heap.size, 3, none⟩ (.slice (some ⟨by_, 0, none⟩) 2 2)) = w109 at *
     refine hK.out _ _ trivial (fun _ => ?_)
     clear hK K
     (try simp only [List.getElem_toArray, List.getElem_cons_succ, List.getElem_cons_zero, Act.put, List.setIfInBounds_toArray, List.set_cons_zero, List.set_cons_succ])
     replace HS := Lib.hid HS.out.f2
     replace HS := Lib.hid HS.out.f3
     replace HS := Lib.hid HS.out.f3
     replace HS := Lib.hid (HS.out.kid2 (x := x) (z := y) 15 ⟨#[]⟩ 0 i64_0 (Nat.zero_le _))
     refine wpAnyH_done (by kernel_rfl) ?_ _
     go_wp2_with fail
     replace HS := Lib.hid HS.out.f1
     replace HS := Lib.hid HS.out.f1
     have hf := finP HS.out rfl HR
     exact bodyPost_ret (v := .agg _) (results_cell4 (fn := Tryz.f73) rfl hf.1 rfl) rfl hf.2
    have hR := HR.out
    simp only [Bool.true_eq_false, false_and, if_false] at hR
    replace HR := Lib.hid hR
    clear hR
    by_cases hk : x.k = 25
    ·have hR := HR.out
     rw [if_pos hk] at hR
     replace HR := Lib.hid hR
     clear hR
     obtain ⟨xk, xt, xn, xl⟩ := x
     have hk : xk = 25 := hk
     subst hk
     simp only [Nd.k, Nd.t, Nd.num, Nd.kids] at HS
     obtain ⟨-, -, -, -, b0, b1, b2, b3⟩ := (HS.out.blk 1 rfl).all4
     go_wp2_with fail
     clear b0 b1 b2 b3
     replace HS := Lib.hid (HS.out.box 24 #[.int .i64 25, .string xt, .int .i64 xn, .slice Ax xl.length cx])
     generalize w102.alloc (.cells #[.int .i64 25, .string xt, .int .i64 xn, .slice Ax xl.length cx] 24) = w103 at *
     generalize w102.heap.size = by_ at *
     refine (nodeq HS.out 20 ⟨#[]⟩ (some ⟨by_, 0, none⟩) 1 1).mono ?_
     clear HS; rintro e w104 ⟨rfl, HS⟩
     go_wp2_with fail
     refine (closedq HS.out 20 ⟨#[]⟩ 0 (some ⟨by_, 0, none⟩) 1 1).mono ?_
     clear HS; rintro e w105 (⟨hr, rfl, m⟩ | ⟨hr, rfl, HS⟩)
     ·go_wp2; exact ⟨rfl, badO (bindB HR.out hr) m⟩
     replace HR := bindO HR.out hr
     clear hr
     replace HS := Lib.hid HS.out.f1
     replace HS := Lib.hid HS.out.f1
     replace HS := Lib.hid (HS.out.kid1 (x := .mk 25 xt xn xl) 20 ⟨#[]⟩ 0 i64_0 (Nat.zero_le _))
     replace HS := Lib.hid HS.out.f2
     replace HS := Lib.hid HS.out.f1
     obtain ⟨f0, f1, f2, f3, g0, g1, g2, g3⟩ := (HS.out.blk 1 rfl).all4
     go_wp2_with fail
     have hf := finO HS.out HR
     try simp only [List.length_append, List.length_cons, List.length_nil, Nat.zero_add] at hf
     exact bodyPost_ret (v := .agg _) (results_cell4 (fn := Tryz.f73) rfl hf.1 rfl) rfl hf.2
    have hR := HR.out
    rw [if_neg hk] at hR
    replace HR := Lib.hid hR
    clear hR
    have hd : (x.k == 25) = false := by simpa using hk
    obtain ⟨-, -, -, -, b0, b1, b2, b3⟩ := (HS.out.blk 1 rfl).all4
    go_wp2_with fail
    clear b0 b1 b2 b3
    clear hd hk
    refine (fail_any C _ _ HS.out.z).mono ?_
    rintro e w103 ⟨he, hb⟩
    obtain rfl : e = badP C j := he
    have m := HS.out.mv.trans_ (mv_below (p := C.p) hb)
    go_wp2; exact ⟨rfl, badO HR.out m⟩
   refine (isq HS.out ht).mono ?_
   clear HS; rintro e w102 ⟨rfl, HS⟩
   replace HR := ifY HR.out ht
   clear ht
   obtain ⟨-, -, -, -, b0, b1, b2, b3⟩ := (HS.out.blk 1 rfl).all4
   go_wp2_with fail
   clear b0 b1 b2 b3
   refine (callq (u := unaryM C.L F) HEX HS.out (bindW HR.out HW.out)).mono ?_
   clear HS; rintro e w103 (⟨k, hr, rfl, m⟩ | ⟨ks, j2, A2, c2, V2, hr, rfl, HS⟩)
   ·go_wp2; exact ⟨rfl, badO (bindB HR.out hr) m⟩
   replace HR := bindO HR.out hr
   clear hr
   replace HS := Lib.hid HS.out.f1
   obtain ⟨f0, f1, f2, f3, g0, g1, g2, g3⟩ := HS.out.one.all4
   go_wp2_with fail
   clear f0 f1 f2 f3 g0 g1 g2 g3
   replace HS := Lib.hid (HS.out.put4 (.int .i64 25) (.string ⟨#[]⟩) (.int .i64 0) (.slice A2 (ks.length + 1) c2))
   generalize (((((w103).setCell ⟨bt, 0, none⟩ (.int .i64 25)).setCell ⟨bt, 1, none⟩ (.string ⟨#[]⟩)).setCell ⟨bt, 2, none⟩ (.int .i64 0)).setCell ⟨bt, 3, none⟩ (.slice A2 (ks.length + 1) c2)) = w104 at *
   replace HS := Lib.hid HS.out.f2
   replace HS := Lib.hid HS.out.f1
   replace HS := Lib.hid HS.out.f2
   go_wp2_with fail
   go_roundg g
   case measure => omega
   case rel => exact ⟨true, .mk 25 ⟨#[]⟩ 0 (x :: ks), A2, c2, _, j2, rfl, HS, HR⟩
  refine (haveY HS.out ht).mono ?_
  clear HS; rintro e w101 ⟨rfl, HS⟩
  replace HR := ifY HR.out ht
  go_wp2_with fail
  clear ht
  replace HS := Lib.hid (HS.out.below (Below.refl _ _).drew)
  refine wp_region_held_drew (S := fun _ => True) (by kernel_rfl) trivial (fun _ => ?_)
  generalize w101.drew = w102 at *
  (refine wpAnyH_take (i := 0) (v := ?_) rfl (by kernel_rfl) (by kernel_rfl) (by kernel_rfl) (fun _ _ _ h => h) (Or.inl ⟨by rfl, ?_⟩) (by assumption) ?_; rotate_left; · ((intro w hSw; (try dsimp only at hSw); go_simp) <;> with_reducible rfl); (try simp only [List.getElem_toArray, List.getElem_cons_succ, List.getElem_cons_zero, Act.put, List.setIfInBounds_toArray, List.set_cons_zero, List.set_cons_succ]))
  replace HS := Lib.hid HS.out.f2
  replace HS := Lib.hid HS.out.f2
  replace HS := Lib.hid HS.out.f2
  refine wpAnyH_grp [⟨1, some 99, []⟩, ⟨2, some 100, []⟩, ⟨3, some 101, [2]⟩, ⟨4, some 102, [1, 3]⟩] 1 (fun vs W => ∃ nm2 y, Hid (SP C w W (posq (vs 1) (j + 1)) (ifq (vs 3) (bx y 24 #[.int .i64 x.k, .string x.t, .int .i64 x.num, .slice Ax x.kids.length cx]) ++ [nd Vx x Ax cx, bx bt 24 #[.int .i64 x.k, .string x.t, .int .i64 x.num, .slice Ax x.kids.length cx], bx w.heap.size 24 #[.int .i64 0, .string ⟨#[]⟩, .int .i64 0, .slice none 0 0]])) ∧ OP (vs 1) (fun q_ => q_ = .string nm2 ∧ nameM C.L (j + 1) = .ok nm2 ((j + 1) + 1) ∧ nm2.size ≤ maxLen) ∧ OV (vs 2) (.agg #[.int .i64 x.k, .string x.t, .int .i64 x.num, .slice Ax x.kids.length cx]) ∧ OV (vs 3) (.slice (some ⟨y, 0, none⟩) 1 1) ∧ OV (vs 4) (.agg #[.int .i64 24, .string nm2, .int .i64 0, .slice (some ⟨y, 0, none⟩) 1 1])) (by rfl) (by kernel_rfl) ⟨⟨#[]⟩, 0, HS, OP.no _ rfl, OP.no _ rfl, OP.no _ rfl, OP.no _ rfl⟩ (fun _ _ _ => trivial) ⟨?_, ?_, ?_, ?_, trivial⟩ ?_
  ·clear HS; refine ⟨_, rfl, fun vs W h1 hd hn ⟨nm2, y, HS, e1, e2, e3, e4⟩ => ?_⟩
   rw [h1] at HS
   simp only [actG, old, Option.getD_some]; (try simp only [List.getElem_toArray, List.getElem_cons_succ, List.getElem_cons_zero, Act.put, List.setIfInBounds_toArray, List.set_cons_zero, List.set_cons_succ]); intro K hK
   go_simp
   refine (nameq (i := (j + 1)) HS.out).mono ?_
   clear HS; rintro e W (⟨hr, rfl, m⟩ | ⟨nm2, hr, hs, rfl, HS⟩)
   ·go_wp2; exact ⟨rfl, badO (bindB HR.out hr) m⟩
   exact hK.out _ _ ⟨nm2, y, HS, OP.is ⟨rfl, hr, hs⟩, e2, e3, OP.no _ hn.2.2.2.1⟩
  ·clear HS; refine ⟨_, rfl, fun vs W h2 hd hn ⟨nm2, y, HS, e1, e2, e3, e4⟩ => ?_⟩
   obtain ⟨-, -, -, -, b0, b1, b2, b3⟩ := Blk.all4 (HS.out.ok (bx bt 24 #[.int .i64 x.k, .string x.t, .int .i64 x.num, .slice Ax x.kids.length cx]) (by simp))
   simp only [actG, old, Option.getD_some]; (try simp only [List.getElem_toArray, List.getElem_cons_succ, List.getElem_cons_zero, Act.put, List.setIfInBounds_toArray, List.set_cons_zero, List.set_cons_succ]); intro K hK
   go_simp
   clear b0 b1 b2 b3
   exact hK.out _ _ ⟨nm2, y, HS, e1, OP.is rfl, OP.no _ hn.2.2.1, e4⟩
  ·clear HS; refine ⟨_, rfl, fun vs W h3 hd hn ⟨nm2, y, HS, e1, e2, e3, e4⟩ => ?_⟩
   obtain ⟨⟨v2, h2⟩, -⟩ := hd
   obtain rfl := e2 _ h2
   rw [h3] at HS
   simp only [actG, old, h2, Option.getD_some]; (try simp only [List.getElem_toArray, List.getElem_cons_succ, List.getElem_cons_zero, Act.put, List.setIfInBounds_toArray, List.set_cons_zero, List.set_cons_succ]); intro K hK
   go_simp
   exact hK.out _ _ ⟨nm2, W.heap.size, (HS.out.box 24 #[.int .i64 x.k, .string x.t, .int .i64 x.num, .slice Ax x.kids.length cx]), e1, e2, OP.is rfl, OP.no _ hn.2.2.2.1⟩
  ·clear HS; refine ⟨_, rfl, fun vs W h4 hd hn ⟨nm2, y, HS, e1, e2, e3, e4⟩ => ?_⟩
   obtain ⟨⟨v1, h1⟩, ⟨v3, h3⟩, -⟩ := hd
   obtain ⟨rfl, -, -⟩ := e1 _ h1
   obtain rfl := e3 _ h3
   simp only [actG, old, h1, h3, Option.getD_some]; (try simp only [List.getElem_toArray, List.getElem_cons_succ, List.getElem_cons_zero, Act.put, List.setIfInBounds_toArray, List.set_cons_zero, List.set_cons_succ]); intro K hK
   go_simp
   refine (nodeq HS.out _ _ _ _ _).mono ?_
   clear HS; rintro e W ⟨rfl, HS⟩
   exact hK.out _ _ ⟨nm2, y, HS, e1, e2, e3, OP.is rfl⟩
  clear HS; intro vs W ⟨nm2, y, HS, e1, e2, e3, e4⟩ hall
  obtain ⟨⟨v1, h1⟩, ⟨v2, h2⟩, ⟨v3, h3⟩, ⟨v4, h4⟩, -⟩ := hall
  obtain ⟨rfl, hr, hnm2⟩ := e1 _ h1
  obtain rfl := e2 _ h2
  obtain rfl := e3 _ h3
  obtain rfl := e4 _ h4
  rw [h1, h3] at HS
  simp only [posq, ifq, List.cons_append, List.nil_append] at HS
  simp only [actG, lisG, old, h1, h2, h3, h4, Option.getD_some, Option.isSome_some, if_true, List.length_cons, List.length_nil]; (try simp only [List.getElem_toArray, List.getElem_cons_succ, List.getElem_cons_zero, Act.put, List.setIfInBounds_toArray, List.set_cons_zero, List.set_cons_succ])
  clear h1 e1 h2 e2 h3 e3 h4 e4 vs
  obtain ⟨w103, rfl⟩ : ∃ x, x = W := ⟨_, rfl⟩
  replace HR := bindO HR.out hr
  clear hr
  refine wpAnyH_ready (rs := [5]) (by kernel_rfl) (by simp) (AllReadyH.cons rfl (fun K hK => ?_) AllReadyH.nil)
  replace HS := Lib.hid HS.out.f2
  obtain ⟨f0, f1, f2, f3, g0, g1, g2, g3⟩ := HS.out.one.all4
  go_wp2_with fail
  clear f0 f1 f2 f3 g0 g1 g2 g3
  replace HS := Lib.hid (HS.out.put4 (.int .i64 24) (.string nm2) (.int .i64 0) (.slice (some ⟨y, 0, none⟩) 1 1))
  generalize (((((w103).setCell ⟨bt, 0, none⟩ (.int .i64 24)).setCell ⟨bt, 1, none⟩ (.string nm2)).setCell ⟨bt, 2, none⟩ (.int .i64 0)).setCell ⟨bt, 3, none⟩ (.slice (some ⟨y, 0, none⟩) 1 1)) = w104 at *
  refine hK.out _ _ trivial (fun _ => ?_)
  clear hK K
  (try simp only [List.getElem_toArray, List.getElem_cons_succ, List.getElem_cons_zero, Act.put, List.setIfInBounds_toArray, List.set_cons_zero, List.set_cons_succ])
  refine wpAnyH_done (by kernel_rfl) ?_ _
  replace HS := Lib.hid HS.out.f2
  replace HS := Lib.hid HS.out.f2
  replace HS := Lib.hid (HS.out.kid1 (x := x) 24 nm2 0 i64_0 hnm2)
  replace HS := Lib.hid HS.out.f2
  replace HS := Lib.hid HS.out.f2
  replace HS := Lib.hid HS.out.f2
  go_wp2_with fail
  go_roundg g
  case measure => omega
  case rel => exact ⟨called, .mk 24 nm2 0 [x], some ⟨y, 0, none⟩, 1, _, ((j + 1) + 1), rfl, HS, HR⟩
end Go.Proofs.YtgegfbopogcjpaaGreatDoor
namespace Go.Proofs.YtgegfbopogcjpaaGreatDoor
open Go.RowKit
set_option linter.unusedVariables false
set_option linter.unusedSimpArgs false
set_option maxRecDepth 100000
set_option maxHeartbeats 4000000
theorem stat_step (C : PC) (F : Nat) (HBL : POk C 33 (blockM C.L (statM C.L F))) (HEX : POk C 93 (exprF C.L F)) (HRD : POk C 91 (roundM C.L (unaryM C.L F))) (HTY : POk C 29 (typM C.L F)) (w : World) (i : Nat) (h : PSt C w i) (hwet : statM C.L (F + 1) i ≠ .dry) : Calls Tryz.prog 73 #[.pointer (some ⟨C.p, 0, none⟩)] w (NodeOut C w (statM C.L (F + 1) i)) := by
 rcases h1 : tIs C.L ⟨#[105, 102]⟩ i with _ | _
 rotate_left
 ·exact stat_if C F w i h hwet HBL HEX HRD HTY h1
 rcases h2 : tIs C.L ⟨#[119, 104, 105, 108, 101]⟩ i with _ | _
 rotate_left
 ·exact stat_while C F w i h hwet HBL HEX HRD HTY h1 h2
 rcases h3 : tIs C.L ⟨#[114, 101, 116, 117, 114, 110]⟩ i with _ | _
 rotate_left
 ·exact stat_return C F w i h hwet HBL HEX HRD HTY h1 h2 h3
 rcases h4 : tIs C.L ⟨#[112, 117, 116]⟩ i with _ | _
 rotate_left
 ·exact stat_put C F w i h hwet HBL HEX HRD HTY h1 h2 h3 h4
 rcases hin : tIn C.L [⟨#[105, 110, 116]⟩, ⟨#[108, 111, 110, 103]⟩, ⟨#[102, 110]⟩] i with _ | _
 rotate_left
 ·exact stat_var1 C F w i h hwet HBL HEX HRD HTY h1 h2 h3 h4 hin (.inl hin)
 have hi : ¬ tIn C.L [⟨#[105, 110, 116]⟩, ⟨#[108, 111, 110, 103]⟩, ⟨#[102, 110]⟩] i = true := by rw [hin]; simp
 rcases n0 : tNm C.L (i + 0) with _ | _
 ·exact stat_none C F w i h hwet HBL HEX HRD HTY h1 h2 h3 h4 hin n0 (fun e => by rcases e with e | e; exact hi e; rw [Nat.add_zero] at n0; rw [n0] at e; cases e.1)
 ·rcases n1 : tNm C.L (i + 1) with _ | _
  ·exact stat_simple C F w i h hwet HBL HEX HRD HTY h1 h2 h3 h4 hin n0 n1 (fun e => by rcases e with e | e; exact hi e; rw [n1] at e; cases e.2)
  ·exact stat_var2 C F w i h hwet HBL HEX HRD HTY h1 h2 h3 h4 hin n0 n1 (.inr ⟨n0, n1⟩)
end Go.Proofs.YtgegfbopogcjpaaGreatDoor
namespace Go.Proofs.YtgegfbopogcjpaaGreatDoor
open Go.RowKit
set_option linter.unusedVariables false
set_option linter.unusedSimpArgs false
set_option maxRecDepth 100000
theorem stat_all (C : PC) : ∀ F, POk C 73 (statM C.L F)
 | 0, w, i, h, hwet => absurd rfl hwet
 | F + 1, w, i, h, hwet => stat_step C F (block_of C (stat_all C F)) (expr_all C F) (round_all C F) (typ_all C F) w i h hwet
theorem decl_all (C : PC) (F : Nat) : POk C 12 (declM C.L F) := by
 intro w i h hwet
 have HT := typ_all C F
 have HP := param_all C F
 have HB : POk C 33 (blockF C.L F) := block_of C (stat_all C F)
 rcases h1 : tIs C.L ⟨#[115, 116, 114, 117, 99, 116]⟩ i with _ | _
 ·rcases h2 : tIs C.L ⟨#[101, 120, 116, 101, 114, 110]⟩ i with _ | _
  ·exact decl_neither C F w i h hwet HT HP HB h1 h2
  ·exact decl_extern C F w i h hwet HT HP HB h1 h2
 ·exact decl_struct C F w i h hwet HT HP HB h1
end Go.Proofs.YtgegfbopogcjpaaGreatDoor
