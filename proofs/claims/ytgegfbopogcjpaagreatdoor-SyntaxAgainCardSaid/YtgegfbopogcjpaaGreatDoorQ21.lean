/- The parser: types, parameters, blocks; The parser: statements: if, while. -/
import Derived.Test.YtgegfbopogcjpaaGreatDoorQ17
namespace Go.Proofs.YtgegfbopogcjpaaGreatDoor
open Go.RowKit
set_option linter.unusedVariables false
set_option linter.unusedSimpArgs false
set_option maxRecDepth 100000
set_option maxHeartbeats 4000000
theorem typ_int (C : PC) (F : Nat) (w : World) (i : Nat) (h : PSt C w i) (hwet : typM C.L (F + 1) i ≠ .dry) (HX : POk C 29 (typM C.L F)) (h1 : tIs C.L ⟨#[105, 110, 116]⟩ i = true) : Calls Tryz.prog 29 #[.pointer (some ⟨C.p, 0, none⟩)] w (NodeOut C w (typM C.L (F + 1) i)) := by
 obtain ⟨R, HR⟩ : ∃ R, Hid (typM C.L (F + 1) i = R) := ⟨_, rfl⟩
 rw [HR.out] at hwet ⊢
 have HW := Lib.hid hwet
 have hR := HR.out
 rw [typM] at hR
 replace HR := Lib.hid hR
 have HS := Lib.hid (h.st.box 24 #[.int .i64 0, .string ⟨#[]⟩, .int .i64 0, .slice none 0 0])
 clear h hR hwet
 go_enter Tryz.func29, Tryz.ntmps29
 go_wp2_with fail
 generalize w.alloc (.cells #[.int .i64 0, .string ⟨#[]⟩, .int .i64 0, .slice none 0 0] 24) = w0 at *
 refine (haveY HS.out h1).mono ?_
 clear HS; rintro e w1 ⟨rfl, HS⟩
 replace HR := ifY HR.out h1
 go_wp2_with fail
 refine (nodeq HS.out 9 ⟨#[]⟩ none 0 0).mono ?_
 clear HS; rintro e w2 ⟨rfl, HS⟩
 replace HS := Lib.hid (HS.out.leaf 9 ⟨#[]⟩ 0 i64_0 (Nat.zero_le _))
 replace HS := Lib.hid HS.out.f1
 replace HS := Lib.hid HS.out.f1
 obtain ⟨f0, f1, f2, f3, g0, g1, g2, g3⟩ := (HS.out.blk 1 rfl).all4
 go_wp2_with fail
 have hf := finO HS.out HR
 try simp only [List.length_append, List.length_cons, List.length_nil, Nat.zero_add] at hf
 exact bodyPost_ret (v := .agg _) (results_cell4 (fn := Tryz.f29) rfl hf.1 rfl) rfl hf.2
theorem typ_long (C : PC) (F : Nat) (w : World) (i : Nat) (h : PSt C w i) (hwet : typM C.L (F + 1) i ≠ .dry) (HX : POk C 29 (typM C.L F)) (h1 : tIs C.L ⟨#[105, 110, 116]⟩ i = false) (h2 : tIs C.L ⟨#[108, 111, 110, 103]⟩ i = true) : Calls Tryz.prog 29 #[.pointer (some ⟨C.p, 0, none⟩)] w (NodeOut C w (typM C.L (F + 1) i)) := by
 obtain ⟨R, HR⟩ : ∃ R, Hid (typM C.L (F + 1) i = R) := ⟨_, rfl⟩
 rw [HR.out] at hwet ⊢
 have HW := Lib.hid hwet
 have hR := HR.out
 rw [typM] at hR
 replace HR := Lib.hid hR
 have HS := Lib.hid (h.st.box 24 #[.int .i64 0, .string ⟨#[]⟩, .int .i64 0, .slice none 0 0])
 clear h hR hwet
 go_enter Tryz.func29, Tryz.ntmps29
 go_wp2_with fail
 generalize w.alloc (.cells #[.int .i64 0, .string ⟨#[]⟩, .int .i64 0, .slice none 0 0] 24) = w0 at *
 refine (haveN HS.out h1).mono ?_
 clear HS; rintro e w1 ⟨rfl, HS⟩
 replace HR := ifN HR.out h1
 go_wp2_with fail
 refine (haveY HS.out h2).mono ?_
 clear HS; rintro e w2 ⟨rfl, HS⟩
 replace HR := ifY HR.out h2
 go_wp2_with fail
 refine (nodeq HS.out 10 ⟨#[]⟩ none 0 0).mono ?_
 clear HS; rintro e w3 ⟨rfl, HS⟩
 replace HS := Lib.hid (HS.out.leaf 10 ⟨#[]⟩ 0 i64_0 (Nat.zero_le _))
 replace HS := Lib.hid HS.out.f1
 replace HS := Lib.hid HS.out.f1
 obtain ⟨f0, f1, f2, f3, g0, g1, g2, g3⟩ := (HS.out.blk 1 rfl).all4
 go_wp2_with fail
 have hf := finO HS.out HR
 try simp only [List.length_append, List.length_cons, List.length_nil, Nat.zero_add] at hf
 exact bodyPost_ret (v := .agg _) (results_cell4 (fn := Tryz.f29) rfl hf.1 rfl) rfl hf.2
theorem typ_fn (C : PC) (F : Nat) (w : World) (i : Nat) (h : PSt C w i) (hwet : typM C.L (F + 1) i ≠ .dry) (HX : POk C 29 (typM C.L F)) (h1 : tIs C.L ⟨#[105, 110, 116]⟩ i = false) (h2 : tIs C.L ⟨#[108, 111, 110, 103]⟩ i = false) (h3 : tIs C.L ⟨#[102, 110]⟩ i = true) : Calls Tryz.prog 29 #[.pointer (some ⟨C.p, 0, none⟩)] w (NodeOut C w (typM C.L (F + 1) i)) := by
 obtain ⟨R, HR⟩ : ∃ R, Hid (typM C.L (F + 1) i = R) := ⟨_, rfl⟩
 rw [HR.out] at hwet ⊢
 have HW := Lib.hid hwet
 have hR := HR.out
 rw [typM] at hR
 replace HR := Lib.hid hR
 have HS := Lib.hid (h.st.box 24 #[.int .i64 0, .string ⟨#[]⟩, .int .i64 0, .slice none 0 0])
 clear h hR hwet
 go_enter Tryz.func29, Tryz.ntmps29
 go_wp2_with fail
 generalize w.alloc (.cells #[.int .i64 0, .string ⟨#[]⟩, .int .i64 0, .slice none 0 0] 24) = w0 at *
 refine (haveN HS.out h1).mono ?_
 clear HS; rintro e w1 ⟨rfl, HS⟩
 replace HR := ifN HR.out h1
 go_wp2_with fail
 refine (haveN HS.out h2).mono ?_
 clear HS; rintro e w2 ⟨rfl, HS⟩
 replace HR := ifN HR.out h2
 go_wp2_with fail
 refine (haveY HS.out h3).mono ?_
 clear HS; rintro e w3 ⟨rfl, HS⟩
 replace HR := ifY HR.out h3
 go_wp2_with fail
 refine (listq (cf_fn Tryz.func29 (by kernel_rfl) (by kernel_rfl)) HX HS.out (bindW HR.out HW.out)).mono ?_
 clear HS; rintro e w4 (⟨k, hr, rfl, m⟩ | ⟨ks, d, j1, Aks, cks, Vks, hr, hnks, rfl, HS⟩)
 ·go_wp2; exact ⟨rfl, badO (bindB HR.out hr) m⟩
 replace HR := bindO HR.out hr
 clear hr
 go_wp2_with fail
 refine (flag_any d _).mono ?_
 rintro e wf ⟨rfl, rfl⟩
 go_wp2_with fail
 refine (subq HX HS.out (bindW HR.out HW.out)).mono ?_
 clear HS; rintro e w5 (⟨k, hr, rfl, m⟩ | ⟨r, j2, Ar, cr, Vr, hr, rfl, HS⟩)
 ·go_wp2; exact ⟨rfl, badO (bindB HR.out hr) m⟩
 replace HR := bindO HR.out hr
 clear hr
 replace HS := Lib.hid HS.out.f1
 have HB := Lib.hid (HS.out.box 24 #[.int .i64 r.k, .string r.t, .int .i64 r.num, .slice Ar r.kids.length cr]).f2.f2
 clear HS
 go_wp2_with (at_builtin; refine wpList_push (x := r) HB.out (by first | rfl | simp) (by omega) rfl _ _ rfl rfl rfl ?_)
 clear HB; intro A2 c2 V2 w6 HS
 replace HS := Lib.hid (HS.out.kids 12 ⟨#[]⟩ (flagN d) (i64_flag d) (Nat.zero_le _))
 replace HS := Lib.hid HS.out.f1
 replace HS := Lib.hid HS.out.f1
 obtain ⟨f0, f1, f2, f3, g0, g1, g2, g3⟩ := (HS.out.blk 1 rfl).all4
 go_wp2_with fail
 have hf := finO HS.out HR
 try simp only [List.length_append, List.length_cons, List.length_nil, Nat.zero_add] at hf
 exact bodyPost_ret (v := .agg _) (results_cell4 (fn := Tryz.f29) rfl hf.1 rfl) rfl hf.2
theorem typ_name (C : PC) (F : Nat) (w : World) (i : Nat) (h : PSt C w i) (hwet : typM C.L (F + 1) i ≠ .dry) (HX : POk C 29 (typM C.L F)) (h1 : tIs C.L ⟨#[105, 110, 116]⟩ i = false) (h2 : tIs C.L ⟨#[108, 111, 110, 103]⟩ i = false) (h3 : tIs C.L ⟨#[102, 110]⟩ i = false) : Calls Tryz.prog 29 #[.pointer (some ⟨C.p, 0, none⟩)] w (NodeOut C w (typM C.L (F + 1) i)) := by
 obtain ⟨R, HR⟩ : ∃ R, Hid (typM C.L (F + 1) i = R) := ⟨_, rfl⟩
 rw [HR.out] at hwet ⊢
 have HW := Lib.hid hwet
 have hR := HR.out
 rw [typM] at hR
 replace HR := Lib.hid hR
 have HS := Lib.hid (h.st.box 24 #[.int .i64 0, .string ⟨#[]⟩, .int .i64 0, .slice none 0 0])
 clear h hR hwet
 go_enter Tryz.func29, Tryz.ntmps29
 go_wp2_with fail
 generalize w.alloc (.cells #[.int .i64 0, .string ⟨#[]⟩, .int .i64 0, .slice none 0 0] 24) = w0 at *
 refine (haveN HS.out h1).mono ?_
 clear HS; rintro e w1 ⟨rfl, HS⟩
 replace HR := ifN HR.out h1
 go_wp2_with fail
 refine (haveN HS.out h2).mono ?_
 clear HS; rintro e w2 ⟨rfl, HS⟩
 replace HR := ifN HR.out h2
 go_wp2_with fail
 refine (haveN HS.out h3).mono ?_
 clear HS; rintro e w3 ⟨rfl, HS⟩
 replace HR := ifN HR.out h3
 go_wp2_with fail
 refine (nameq HS.out).mono ?_
 clear HS; rintro e w4 (⟨hr, rfl, m⟩ | ⟨nm, hr, hnm, rfl, HS⟩)
 ·go_wp2; exact ⟨rfl, badO (bindB HR.out hr) m⟩
 replace HR := bindO HR.out hr
 clear hr
 go_wp2_with fail
 refine (nodeq HS.out 11 nm none 0 0).mono ?_
 clear HS; rintro e w5 ⟨rfl, HS⟩
 replace HS := Lib.hid (HS.out.leaf 11 nm 0 i64_0 hnm)
 replace HS := Lib.hid HS.out.f1
 replace HS := Lib.hid HS.out.f1
 obtain ⟨f0, f1, f2, f3, g0, g1, g2, g3⟩ := (HS.out.blk 1 rfl).all4
 go_wp2_with fail
 have hf := finO HS.out HR
 try simp only [List.length_append, List.length_cons, List.length_nil, Nat.zero_add] at hf
 exact bodyPost_ret (v := .agg _) (results_cell4 (fn := Tryz.f29) rfl hf.1 rfl) rfl hf.2
theorem typ_all (C : PC) : ∀ F, POk C 29 (typM C.L F)
 | 0, w, i, h, hwet => absurd rfl hwet
 | F + 1, w, i, h, hwet => by
  have HX := typ_all C F
  rcases h1 : tIs C.L ⟨#[105, 110, 116]⟩ i with _ | _
  rotate_left
  ·exact typ_int C F w i h hwet HX h1
  rcases h2 : tIs C.L ⟨#[108, 111, 110, 103]⟩ i with _ | _
  rotate_left
  ·exact typ_long C F w i h hwet HX h1 h2
  rcases h3 : tIs C.L ⟨#[102, 110]⟩ i with _ | _
  rotate_left
  ·exact typ_fn C F w i h hwet HX h1 h2 h3
  ·exact typ_name C F w i h hwet HX h1 h2 h3
theorem param_0 (C : PC) (F : Nat) (w : World) (i : Nat) (h : PSt C w i) (hwet : paramM C.L F i ≠ .dry) (HX : POk C 29 (typM C.L F))  : Calls Tryz.prog 31 #[.pointer (some ⟨C.p, 0, none⟩)] w (NodeOut C w (paramM C.L F i)) := by
 obtain ⟨R, HR⟩ : ∃ R, Hid (paramM C.L F i = R) := ⟨_, rfl⟩
 rw [HR.out] at hwet ⊢
 have HW := Lib.hid hwet
 have hR := HR.out
 unfold paramM at hR
 replace HR := Lib.hid hR
 have HS := Lib.hid (h.st.box 24 #[.int .i64 0, .string ⟨#[]⟩, .int .i64 0, .slice none 0 0])
 clear h hR hwet
 go_enter Tryz.func31, Tryz.ntmps31
 go_wp2_with fail
 generalize w.alloc (.cells #[.int .i64 0, .string ⟨#[]⟩, .int .i64 0, .slice none 0 0] 24) = w0 at *
 refine (subq HX HS.out (bindW HR.out HW.out)).mono ?_
 clear HS; rintro e w1 (⟨k, hr, rfl, m⟩ | ⟨t, j, At, ct, Vt, hr, rfl, HS⟩)
 ·go_wp2; exact ⟨rfl, badO (bindB HR.out hr) m⟩
 replace HR := bindO HR.out hr
 clear hr
 go_wp2_with fail
 replace HS := Lib.hid (HS.out.box 24 #[.int .i64 t.k, .string t.t, .int .i64 t.num, .slice At t.kids.length ct])
 generalize w1.alloc (.cells #[.int .i64 t.k, .string t.t, .int .i64 t.num, .slice At t.kids.length ct] 24) = w2 at *
 generalize w1.heap.size = bt at *
 replace HS := Lib.hid (HS.out.below (Below.refl _ _).drew)
 refine wp_region_held_drew (S := fun _ => True) (by kernel_rfl) trivial (fun _ => ?_)
 generalize w2.drew = w3 at *
 (refine wpAnyH_take (i := 0) (v := ?_) rfl (by kernel_rfl) (by kernel_rfl) (by kernel_rfl) (fun _ _ _ h => h) (Or.inl ⟨by rfl, ?_⟩) (by assumption) ?_; rotate_left; · ((intro w hSw; (try dsimp only at hSw); go_simp) <;> with_reducible rfl); (try simp only [List.getElem_toArray, List.getElem_cons_succ, List.getElem_cons_zero, Act.put, List.setIfInBounds_toArray, List.set_cons_zero, List.set_cons_succ]))
 replace HS := Lib.hid HS.out.f2
 replace HS := Lib.hid HS.out.f1
 replace HS := Lib.hid HS.out.f2
 refine wpAnyH_grp [⟨1, some 7, []⟩, ⟨2, some 8, []⟩, ⟨3, some 9, [2]⟩, ⟨4, some 10, [1, 3]⟩] 1 (fun vs W => ∃ nm y, Hid (SP C w W (posq (vs 1) j) (ifq (vs 3) (bx y 24 #[.int .i64 t.k, .string t.t, .int .i64 t.num, .slice At t.kids.length ct]) ++ [nd Vt t At ct, bx bt 24 #[.int .i64 t.k, .string t.t, .int .i64 t.num, .slice At t.kids.length ct], bx w.heap.size 24 #[.int .i64 0, .string ⟨#[]⟩, .int .i64 0, .slice none 0 0]])) ∧ OP (vs 1) (fun q_ => q_ = .string nm ∧ nameM C.L j = .ok nm (j + 1) ∧ nm.size ≤ maxLen) ∧ OV (vs 2) (.agg #[.int .i64 t.k, .string t.t, .int .i64 t.num, .slice At t.kids.length ct]) ∧ OV (vs 3) (.slice (some ⟨y, 0, none⟩) 1 1) ∧ OV (vs 4) (.agg #[.int .i64 8, .string nm, .int .i64 0, .slice (some ⟨y, 0, none⟩) 1 1])) (by rfl) (by kernel_rfl) ⟨⟨#[]⟩, 0, HS, OP.no _ rfl, OP.no _ rfl, OP.no _ rfl, OP.no _ rfl⟩ (fun _ _ _ => trivial) ⟨?_, ?_, ?_, ?_, trivial⟩ ?_
 ·clear HS; refine ⟨_, rfl, fun vs W h1 hd hn ⟨nm, y, HS, e1, e2, e3, e4⟩ => ?_⟩
  rw [h1] at HS
  simp only [actG, old, Option.getD_some]; (try simp only [List.getElem_toArray, List.getElem_cons_succ, List.getElem_cons_zero, Act.put, List.setIfInBounds_toArray, List.set_cons_zero, List.set_cons_succ]); intro K hK
  go_simp
  refine (nameq (i := j) HS.out).mono ?_
  clear HS; rintro e W (⟨hr, rfl, m⟩ | ⟨nm, hr, hs, rfl, HS⟩)
  ·go_wp2; exact ⟨rfl, badO (bindB HR.out hr) m⟩
  exact hK.out _ _ ⟨nm, y, HS, OP.is ⟨rfl, hr, hs⟩, e2, e3, OP.no _ hn.2.2.2.1⟩
 ·clear HS; refine ⟨_, rfl, fun vs W h2 hd hn ⟨nm, y, HS, e1, e2, e3, e4⟩ => ?_⟩
  obtain ⟨-, -, -, -, b0, b1, b2, b3⟩ := Blk.all4 (HS.out.ok (bx bt 24 #[.int .i64 t.k, .string t.t, .int .i64 t.num, .slice At t.kids.length ct]) (by simp))
  simp only [actG, old, Option.getD_some]; (try simp only [List.getElem_toArray, List.getElem_cons_succ, List.getElem_cons_zero, Act.put, List.setIfInBounds_toArray, List.set_cons_zero, List.set_cons_succ]); intro K hK
  go_simp
  clear b0 b1 b2 b3
  exact hK.out _ _ ⟨nm, y, HS, e1, OP.is rfl, OP.no _ hn.2.2.1, e4⟩
 ·clear HS; refine ⟨_, rfl, fun vs W h3 hd hn ⟨nm, y, HS, e1, e2, e3, e4⟩ => ?_⟩
  obtain ⟨⟨v2, h2⟩, -⟩ := hd
  obtain rfl := e2 _ h2
  rw [h3] at HS
  simp only [actG, old, h2, Option.getD_some]; (try simp only [List.getElem_toArray, List.getElem_cons_succ, List.getElem_cons_zero, Act.put, List.setIfInBounds_toArray, List.set_cons_zero, List.set_cons_succ]); intro K hK
  go_simp
  exact hK.out _ _ ⟨nm, W.heap.size, (HS.out.box 24 #[.int .i64 t.k, .string t.t, .int .i64 t.num, .slice At t.kids.length ct]), e1, e2, OP.is rfl, OP.no _ hn.2.2.2.1⟩
 ·clear HS; refine ⟨_, rfl, fun vs W h4 hd hn ⟨nm, y, HS, e1, e2, e3, e4⟩ => ?_⟩
  obtain ⟨⟨v1, h1⟩, ⟨v3, h3⟩, -⟩ := hd
  obtain ⟨rfl, -, -⟩ := e1 _ h1
  obtain rfl := e3 _ h3
  simp only [actG, old, h1, h3, Option.getD_some]; (try simp only [List.getElem_toArray, List.getElem_cons_succ, List.getElem_cons_zero, Act.put, List.setIfInBounds_toArray, List.set_cons_zero, List.set_cons_succ]); intro K hK
  go_simp
  refine (nodeq HS.out _ _ _ _ _).mono ?_
  clear HS; rintro e W ⟨rfl, HS⟩
  exact hK.out _ _ ⟨nm, y, HS, e1, e2, e3, OP.is rfl⟩
 clear HS; intro vs W ⟨nm, y, HS, e1, e2, e3, e4⟩ hall
 obtain ⟨⟨v1, h1⟩, ⟨v2, h2⟩, ⟨v3, h3⟩, ⟨v4, h4⟩, -⟩ := hall
 obtain ⟨rfl, hr, hnm⟩ := e1 _ h1
 obtain rfl := e2 _ h2
 obtain rfl := e3 _ h3
 obtain rfl := e4 _ h4
 rw [h1, h3] at HS
 simp only [posq, ifq, List.cons_append, List.nil_append] at HS
 simp only [actG, lisG, old, h1, h2, h3, h4, Option.getD_some, Option.isSome_some, if_true, List.length_cons, List.length_nil]; (try simp only [List.getElem_toArray, List.getElem_cons_succ, List.getElem_cons_zero, Act.put, List.setIfInBounds_toArray, List.set_cons_zero, List.set_cons_succ])
 clear h1 e1 h2 e2 h3 e3 h4 e4 vs
 obtain ⟨w4, rfl⟩ : ∃ x, x = W := ⟨_, rfl⟩
 replace HR := bindO HR.out hr
 clear hr
 refine wpAnyH_ready (rs := [5]) (by kernel_rfl) (by simp) (AllReadyH.cons rfl (fun K hK => ?_) AllReadyH.nil)
 replace HS := Lib.hid HS.out.f3
 obtain ⟨f0, f1, f2, f3, g0, g1, g2, g3⟩ := HS.out.one.all4
 go_wp2_with fail
 clear f0 f1 f2 f3 g0 g1 g2 g3
 replace HS := Lib.hid (HS.out.put4 (.int .i64 8) (.string nm) (.int .i64 0) (.slice (some ⟨y, 0, none⟩) 1 1))
 generalize (((((w4).setCell ⟨w.heap.size, 0, none⟩ (.int .i64 8)).setCell ⟨w.heap.size, 1, none⟩ (.string nm)).setCell ⟨w.heap.size, 2, none⟩ (.int .i64 0)).setCell ⟨w.heap.size, 3, none⟩ (.slice (some ⟨y, 0, none⟩) 1 1)) = w5 at *
 refine hK.out _ _ trivial (fun _ => ?_)
 clear hK K
 (try simp only [List.getElem_toArray, List.getElem_cons_succ, List.getElem_cons_zero, Act.put, List.setIfInBounds_toArray, List.set_cons_zero, List.set_cons_succ])
 replace HS := Lib.hid HS.out.f2
 replace HS := Lib.hid HS.out.f2
 replace HS := Lib.hid (HS.out.kid1 (x := t) 8 nm 0 i64_0 hnm)
 refine wpAnyH_done (by kernel_rfl) ?_ _
 go_wp2_with fail
 replace HS := Lib.hid HS.out.f1
 replace HS := Lib.hid HS.out.f1
 have hf := finP HS.out rfl HR
 exact bodyPost_ret (v := .agg _) (results_cell4 (fn := Tryz.f31) rfl hf.1 rfl) rfl hf.2
theorem param_all (C : PC) (F : Nat) : POk C 31 (paramM C.L F) := fun w i h hw => param_0 C F w i h hw (typ_all C F)
def BlRel (C : PC) (st : Nat → Res Nd) (R : Res Nd) (w : World) (bt gk : Nat) (wr : World) : Prop :=
 ∃ (l : List Nd) (A : Option Addr) (c : Nat) (V : Nat → Prop) (j : Nat), Hid (SP C w wr j [rw_ w.heap.size V l A c, bx bt 24 #[.int .i64 13, .string ⟨#[]⟩, .int .i64 0, .slice A l.length c], bx w.heap.size 24 #[.int .i64 0, .string ⟨#[]⟩, .int .i64 0, .slice none 0 0]]) ∧ Hid (blkM C.L st gk l j = R) ∧ l.length + gk ≤ C.L.length + 1
theorem block_of0 (C : PC) {st : Nat → Res Nd} (w : World) (i : Nat) (h : PSt C w i) (hwet : blockM C.L st i ≠ .dry) (HX : POk C 73 st) : Calls Tryz.prog 33 #[.pointer (some ⟨C.p, 0, none⟩)] w (NodeOut C w (blockM C.L st i)) := by
 obtain ⟨R, HR⟩ : ∃ R, Hid (blockM C.L st i = R) := ⟨_, rfl⟩
 rw [HR.out] at hwet ⊢
 have HW := Lib.hid hwet
 have hR := HR.out
 unfold blockM at hR
 replace HR := Lib.hid hR
 have HS := Lib.hid (h.st.box 24 #[.int .i64 0, .string ⟨#[]⟩, .int .i64 0, .slice none 0 0])
 clear h hR hwet
 go_enter Tryz.func33, Tryz.ntmps33
 go_wp2_with fail
 generalize w.alloc (.cells #[.int .i64 0, .string ⟨#[]⟩, .int .i64 0, .slice none 0 0] 24) = w0 at *
 refine (needq HS.out ⟨#[123]⟩).mono ?_
 clear HS; rintro e w1 (⟨hr, rfl, m⟩ | ⟨hr, rfl, HS⟩)
 ·go_wp2; exact ⟨rfl, badO (bindB HR.out hr) m⟩
 replace HR := bindO HR.out hr
 clear hr
 go_wp2_with fail
 refine (nodeq HS.out 13 ⟨#[]⟩ none 0 0).mono ?_
 clear HS; rintro e w2 ⟨rfl, HS⟩
 go_wp2_with fail
 replace HS := Lib.hid (HS.out.box 24 #[.int .i64 13, .string ⟨#[]⟩, .int .i64 0, .slice none 0 0])
 generalize w2.alloc (.cells #[.int .i64 13, .string ⟨#[]⟩, .int .i64 0, .slice none 0 0] 24) = w3 at *
 generalize w2.heap.size = bt at *
 have hlen := HS.out.z.len
 go_loopg [] (C.L.length + 1) (fun gk wr => BlRel C st R w bt gk wr)
 case atStart => exact ⟨[], none, 0, _, (i + 1), HS.out.row0, HR, by simp⟩
 case round =>
  clear HS HR; obtain ⟨l, Al, cl, Vl, j, HS, HR, hc⟩ := hrel
  cases gk with
  | zero => exact absurd (show Res.dry = R from HR.out) (fun e => HW.out e.symm)
  | succ g =>
  have hR := HR.out
  rw [blkM] at hR
  replace HR := Lib.hid hR
  clear hR
  obtain ⟨w100, rfl⟩ : ∃ x, x = wr := ⟨_, rfl⟩
  go_wp2_with fail
  rcases ht : tIs C.L ⟨#[125]⟩ j with _ | _
  rotate_left
  ·refine (haveY HS.out ht).mono ?_
   clear HS; rintro e w101 ⟨rfl, HS⟩
   replace HR := ifY HR.out ht
   clear ht
   replace HS := Lib.hid (HS.out.kids 13 ⟨#[]⟩ 0 i64_0 (Nat.zero_le _))
   replace HS := Lib.hid HS.out.f2
   replace HS := Lib.hid HS.out.f1
   obtain ⟨-, -, -, -, b0, b1, b2, b3⟩ := (HS.out.blk 2 rfl).all4
   obtain ⟨f0, f1, f2, f3, g0, g1, g2, g3⟩ := (HS.out.blk 1 rfl).all4
   go_wp2_with fail
   have hf := finO HS.out HR
   try simp only [List.length_append, List.length_cons, List.length_nil, Nat.zero_add] at hf
   exact bodyPost_ret (v := .agg _) (results_cell4 (fn := Tryz.f33) rfl hf.1 rfl) rfl hf.2
  refine (haveN HS.out ht).mono ?_
  clear HS; rintro e w101 ⟨rfl, HS⟩
  replace HR := ifN HR.out ht
  clear ht
  go_wp2_with fail
  replace HS := Lib.hid (HS.out.below (Below.refl _ _).drew)
  refine wp_region_held_drew (S := fun _ => True) (by kernel_rfl) trivial (fun _ => ?_)
  generalize w101.drew = w102 at *
  (refine wpAnyH_take (i := 0) (v := ?_) rfl (by kernel_rfl) (by kernel_rfl) (by kernel_rfl) (fun _ _ _ h => h) (Or.inl ⟨by rfl, ?_⟩) (by assumption) ?_; rotate_left; · ((intro w hSw; (try dsimp only at hSw); go_simp) <;> with_reducible rfl); (try simp only [List.getElem_toArray, List.getElem_cons_succ, List.getElem_cons_zero, Act.put, List.setIfInBounds_toArray, List.set_cons_zero, List.set_cons_succ])); (refine wpAnyH_take (i := 2) (v := ?_) rfl (by kernel_rfl) (by kernel_rfl) (by kernel_rfl) (fun _ _ _ h => h) (Or.inl ⟨by rfl, ?_⟩) (by assumption) ?_; rotate_left; · ((intro w hSw; (try dsimp only at hSw); go_simp) <;> with_reducible rfl); (try simp only [List.getElem_toArray, List.getElem_cons_succ, List.getElem_cons_zero, Act.put, List.setIfInBounds_toArray, List.set_cons_zero, List.set_cons_succ]))
  replace HS := Lib.hid HS.out.f2
  replace HS := Lib.hid HS.out.f2
  replace HS := Lib.hid HS.out.f2
  refine wpAnyH_grp [⟨1, some 11, []⟩, ⟨4, some 14, [3]⟩, ⟨3, some 13, []⟩] 3 (fun vs W => ∃ x Ax cx Vx jx by_, Hid (SP C w W (altq (vs 3) j jx) (ifq (vs 4) (bx by_ 24 #[.int .i64 x.k, .string x.t, .int .i64 x.num, .slice Ax x.kids.length cx]) ++ (ifq (vs 3) (nd Vx x Ax cx) ++ [rw_ w.heap.size Vl l Al cl, bx bt 24 #[.int .i64 13, .string ⟨#[]⟩, .int .i64 0, .slice Al l.length cl], bx w.heap.size 24 #[.int .i64 0, .string ⟨#[]⟩, .int .i64 0, .slice none 0 0]]))) ∧ OV (vs 1) (.slice Al l.length cl) ∧ OV (vs 4) (.slice (some ⟨by_, 0, none⟩) 1 1) ∧ OP (vs 3) (fun q_ => q_ = .agg #[.int .i64 x.k, .string x.t, .int .i64 x.num, .slice Ax x.kids.length cx] ∧ st j = .ok x jx)) (by rfl) (by kernel_rfl) ⟨.mk 0 ⟨#[]⟩ 0 [], none, 0, fun _ => False, 0, 0, HS, OP.no _ rfl, OP.no _ rfl, OP.no _ rfl⟩ (fun _ _ _ => trivial) ⟨?_, ?_, ?_, trivial⟩ ?_
  ·clear HS; refine ⟨_, rfl, fun vs W h1 hd hn ⟨x, Ax, cx, Vx, jx, by_, HS, e1, e4, e3⟩ => ?_⟩
   obtain ⟨-, -, -, -, b0, b1, b2, b3⟩ := Blk.all4 (HS.out.ok (bx bt 24 #[.int .i64 13, .string ⟨#[]⟩, .int .i64 0, .slice Al l.length cl]) (by simp))
   simp only [actG, old, Option.getD_some]; (try simp only [List.getElem_toArray, List.getElem_cons_succ, List.getElem_cons_zero, Act.put, List.setIfInBounds_toArray, List.set_cons_zero, List.set_cons_succ]); intro K hK
   go_simp
   clear b0 b1 b2 b3
   exact hK.out _ _ ⟨x, Ax, cx, Vx, jx, by_, HS, OP.is rfl, e4, e3⟩
  ·clear HS; refine ⟨_, rfl, fun vs W h4 hd hn ⟨x, Ax, cx, Vx, jx, by_, HS, e1, e4, e3⟩ => ?_⟩
   obtain ⟨⟨v3, h3⟩, -⟩ := hd
   obtain ⟨rfl, -⟩ := e3 _ h3
   rw [h4] at HS
   simp only [actG, old, h3, Option.getD_some]; (try simp only [List.getElem_toArray, List.getElem_cons_succ, List.getElem_cons_zero, Act.put, List.setIfInBounds_toArray, List.set_cons_zero, List.set_cons_succ]); intro K hK
   go_simp
   exact hK.out _ _ ⟨x, Ax, cx, Vx, jx, W.heap.size, (HS.out.box 24 #[.int .i64 x.k, .string x.t, .int .i64 x.num, .slice Ax x.kids.length cx]), e1, OP.is rfl, e3⟩
  ·clear HS; refine ⟨_, rfl, fun vs W h3 hd hn ⟨x, Ax, cx, Vx, jx, by_, HS, e1, e4, e3⟩ => ?_⟩
   rw [h3, show vs 4 = none from hn.2.1] at HS
   simp only [actG, old, Option.getD_some]; (try simp only [List.getElem_toArray, List.getElem_cons_succ, List.getElem_cons_zero, Act.put, List.setIfInBounds_toArray, List.set_cons_zero, List.set_cons_succ]); intro K hK
   go_simp
   refine (subq HX HS.out (bindW HR.out HW.out)).mono ?_
   clear HS; rintro e W (⟨k, hr, rfl, m⟩ | ⟨x, jx, Ax, cx, Vx, hr, rfl, HS⟩)
   ·go_wp2; exact ⟨rfl, badO (bindB HR.out hr) m⟩
   exact hK.out _ _ ⟨x, Ax, cx, Vx, jx, by_, (by rw [show upd vs 3 _ 4 = none from hn.2.1]; exact HS), e1, OP.no _ hn.2.1, OP.is ⟨rfl, hr⟩⟩
  clear HS; intro vs W ⟨x, Ax, cx, Vx, jx, by_, HS, e1, e4, e3⟩ hall
  obtain ⟨⟨v1, h1⟩, ⟨v4, h4⟩, ⟨v3, h3⟩, -⟩ := hall
  obtain rfl := e1 _ h1
  obtain rfl := e4 _ h4
  obtain ⟨rfl, hr⟩ := e3 _ h3
  rw [h4, h3] at HS
  simp only [altq_some, ifq, List.cons_append, List.nil_append] at HS
  simp only [actG, lisG, old, h1, h4, h3, Option.getD_some, Option.isSome_some, if_true, List.length_cons, List.length_nil]; (try simp only [List.getElem_toArray, List.getElem_cons_succ, List.getElem_cons_zero, Act.put, List.setIfInBounds_toArray, List.set_cons_zero, List.set_cons_succ])
  clear h1 e1 h4 e4 h3 e3 vs
  obtain ⟨w103, rfl⟩ : ∃ x, x = W := ⟨_, rfl⟩
  replace HR := bindO HR.out hr
  clear hr
  replace HS := Lib.hid HS.out.f1
  replace HS := Lib.hid HS.out.f2
  refine wpAnyH_ready (rs := [5]) (by kernel_rfl) (by simp) (AllReadyH.cons rfl (fun K hK => ?_) AllReadyH.nil)
  rw [if_pos (by rfl)]
  refine oper_push HS.out (show l.length = l.length from rfl) (by omega) _ _ rfl rfl rfl ?_
  clear HS; intro A2 c2 V2 w104 HS
  refine hK.out _ _ trivial (fun _ => ?_)
  clear hK K
  (try simp only [List.getElem_toArray, List.getElem_cons_succ, List.getElem_cons_zero, Act.put, List.setIfInBounds_toArray, List.set_cons_zero, List.set_cons_succ])
  (refine wpAnyH_take (i := 6) (v := ?_) rfl (by kernel_rfl) (by kernel_rfl) (by kernel_rfl) (fun _ _ _ h => h) (Or.inl ⟨by rfl, ?_⟩) (by assumption) ?_; rotate_left; · ((intro w hSw; (try dsimp only at hSw); go_simp) <;> with_reducible rfl); (try simp only [List.getElem_toArray, List.getElem_cons_succ, List.getElem_cons_zero, Act.put, List.setIfInBounds_toArray, List.set_cons_zero, List.set_cons_succ]))
  refine wpAnyH_ready (rs := [7]) (by kernel_rfl) (by simp) (AllReadyH.cons rfl (fun K hK => ?_) AllReadyH.nil)
  replace HS := Lib.hid HS.out.f1
  have f3 := HS.out.one.free 3
  have g3 := HS.out.one.cell 3 _ rfl
  skip
  go_simp
  clear f3 g3
  replace HS := Lib.hid (HS.out.put1 3 (.slice A2 (l.length + 1) c2))
  generalize w104.setCell ⟨bt, 3, none⟩ (.slice A2 (l.length + 1) c2) = w105 at *
  refine hK.out _ _ trivial (fun _ => ?_)
  clear hK K
  (try simp only [List.getElem_toArray, List.getElem_cons_succ, List.getElem_cons_zero, Act.put, List.setIfInBounds_toArray, List.set_cons_zero, List.set_cons_succ])
  refine wpAnyH_done (by kernel_rfl) ?_ _
  replace HS := Lib.hid HS.out.f2
  replace HS := Lib.hid HS.out.f1
  replace HS := Lib.hid HS.out.f2
  go_wp2_with fail
  go_roundg g
  case measure => omega
  case rel => exact ⟨_, A2, c2, V2, jx, (by have h := HS.out; rw [show l.length + 1 = (l ++ [x]).length by simp] at h; exact h), HR, by simp; omega⟩
theorem block_of (C : PC) {st : Nat → Res Nd} (HX : POk C 73 st) : POk C 33 (blockM C.L st) := fun w i h hw => block_of0 C w i h hw HX
end Go.Proofs.YtgegfbopogcjpaaGreatDoor
namespace Go.Proofs.YtgegfbopogcjpaaGreatDoor
open Go.RowKit
set_option linter.unusedVariables false
set_option linter.unusedSimpArgs false
set_option maxRecDepth 100000
set_option maxHeartbeats 4000000
theorem stat_if (C : PC) (F : Nat) (w : World) (i : Nat) (h : PSt C w i) (hwet : statM C.L (F + 1) i ≠ .dry) (HBL : POk C 33 (blockM C.L (statM C.L F))) (HEX : POk C 93 (exprF C.L F)) (HRD : POk C 91 (roundM C.L (unaryM C.L F))) (HTY : POk C 29 (typM C.L F)) (h1 : tIs C.L ⟨#[105, 102]⟩ i = true) : Calls Tryz.prog 73 #[.pointer (some ⟨C.p, 0, none⟩)] w (NodeOut C w (statM C.L (F + 1) i)) := by
 obtain ⟨R, HR⟩ : ∃ R, Hid (statM C.L (F + 1) i = R) := ⟨_, rfl⟩
 rw [HR.out] at hwet ⊢
 have HW := Lib.hid hwet
 have hR := HR.out
 rw [statM] at hR
 replace HR := Lib.hid hR
 have HS := Lib.hid (h.st.box 24 #[.int .i64 0, .string ⟨#[]⟩, .int .i64 0, .slice none 0 0])
 clear h hR hwet
 go_enter Tryz.func73, Tryz.ntmps73
 go_wp2_with fail
 generalize w.alloc (.cells #[.int .i64 0, .string ⟨#[]⟩, .int .i64 0, .slice none 0 0] 24) = w0 at *
 refine (haveY HS.out h1).mono ?_
 clear HS; rintro e w1 ⟨rfl, HS⟩
 replace HR := ifY HR.out h1
 go_wp2_with fail
 refine (subq HRD HS.out (bindW HR.out HW.out)).mono ?_
 clear HS; rintro e w2 (⟨k, hr, rfl, m⟩ | ⟨c, j1, Ac, cc, Vc, hr, rfl, HS⟩)
 ·go_wp2; exact ⟨rfl, badO (bindB HR.out hr) m⟩
 replace HR := bindO HR.out hr
 clear hr
 go_wp2_with fail
 replace HS := Lib.hid (HS.out.box 24 #[.int .i64 c.k, .string c.t, .int .i64 c.num, .slice Ac c.kids.length cc])
 generalize w2.alloc (.cells #[.int .i64 c.k, .string c.t, .int .i64 c.num, .slice Ac c.kids.length cc] 24) = w3 at *
 generalize w2.heap.size = y at *
 refine (nodeq HS.out 16 ⟨#[]⟩ (some ⟨y, 0, none⟩) 1 1).mono ?_
 clear HS; rintro e w4 ⟨rfl, HS⟩
 go_wp2_with fail
 replace HS := Lib.hid (HS.out.box 24 #[.int .i64 16, .string ⟨#[]⟩, .int .i64 0, .slice (some ⟨y, 0, none⟩) 1 1])
 generalize w4.alloc (.cells #[.int .i64 16, .string ⟨#[]⟩, .int .i64 0, .slice (some ⟨y, 0, none⟩) 1 1] 24) = w5 at *
 generalize w4.heap.size = bt at *
 go_wp2_with fail
 replace HS := Lib.hid HS.out.f2
 replace HS := Lib.hid HS.out.f2
 replace HS := Lib.hid HS.out.row1
 obtain ⟨V1, hV1⟩ : ∃ x : Nat → Prop, x = (fun b => b = y ∨ Vc b) := ⟨_, rfl⟩
 rw [← hV1] at HS
 clear hV1
 replace HS := Lib.hid (HS.out.below (Below.refl _ _).drew)
 refine wp_region_held_drew (S := fun _ => True) (by kernel_rfl) trivial (fun _ => ?_)
 generalize w5.drew = w6 at *
 (refine wpAnyH_take (i := 0) (v := ?_) rfl (by kernel_rfl) (by kernel_rfl) (by kernel_rfl) (fun _ _ _ h => h) (Or.inl ⟨by rfl, ?_⟩) (by assumption) ?_; rotate_left; · ((intro w hSw; (try dsimp only at hSw); go_simp) <;> with_reducible rfl); (try simp only [List.getElem_toArray, List.getElem_cons_succ, List.getElem_cons_zero, Act.put, List.setIfInBounds_toArray, List.set_cons_zero, List.set_cons_succ])); (refine wpAnyH_take (i := 2) (v := ?_) rfl (by kernel_rfl) (by kernel_rfl) (by kernel_rfl) (fun _ _ _ h => h) (Or.inl ⟨by rfl, ?_⟩) (by assumption) ?_; rotate_left; · ((intro w hSw; (try dsimp only at hSw); go_simp) <;> with_reducible rfl); (try simp only [List.getElem_toArray, List.getElem_cons_succ, List.getElem_cons_zero, Act.put, List.setIfInBounds_toArray, List.set_cons_zero, List.set_cons_succ]))
 replace HS := Lib.hid HS.out.f2
 replace HS := Lib.hid HS.out.f2
 replace HS := Lib.hid HS.out.f2
 refine wpAnyH_grp [⟨1, some 17, []⟩, ⟨4, some 20, [3]⟩, ⟨3, some 19, []⟩] 3 (fun vs W => ∃ b Ab cb Vb jb by_, Hid (SP C w W (altq (vs 3) j1 jb) (ifq (vs 4) (bx by_ 24 #[.int .i64 b.k, .string b.t, .int .i64 b.num, .slice Ab b.kids.length cb]) ++ (ifq (vs 3) (nd Vb b Ab cb) ++ [rw_ w.heap.size V1 [c] (some ⟨y, 0, none⟩) 1, bx bt 24 #[.int .i64 16, .string ⟨#[]⟩, .int .i64 0, .slice (some ⟨y, 0, none⟩) 1 1], bx w.heap.size 24 #[.int .i64 0, .string ⟨#[]⟩, .int .i64 0, .slice none 0 0]]))) ∧ OV (vs 1) (.slice (some ⟨y, 0, none⟩) 1 1) ∧ OV (vs 4) (.slice (some ⟨by_, 0, none⟩) 1 1) ∧ OP (vs 3) (fun q_ => q_ = .agg #[.int .i64 b.k, .string b.t, .int .i64 b.num, .slice Ab b.kids.length cb] ∧ blockM C.L (statM C.L F) j1 = .ok b jb)) (by rfl) (by kernel_rfl) ⟨.mk 0 ⟨#[]⟩ 0 [], none, 0, fun _ => False, 0, 0, HS, OP.no _ rfl, OP.no _ rfl, OP.no _ rfl⟩ (fun _ _ _ => trivial) ⟨?_, ?_, ?_, trivial⟩ ?_
 ·clear HS; refine ⟨_, rfl, fun vs W h1 hd hn ⟨b, Ab, cb, Vb, jb, by_, HS, e1, e4, e3⟩ => ?_⟩
  obtain ⟨-, -, -, -, b0, b1, b2, b3⟩ := Blk.all4 (HS.out.ok (bx bt 24 #[.int .i64 16, .string ⟨#[]⟩, .int .i64 0, .slice (some ⟨y, 0, none⟩) 1 1]) (by simp))
  simp only [actG, old, Option.getD_some]; (try simp only [List.getElem_toArray, List.getElem_cons_succ, List.getElem_cons_zero, Act.put, List.setIfInBounds_toArray, List.set_cons_zero, List.set_cons_succ]); intro K hK
  go_simp
  clear b0 b1 b2 b3
  exact hK.out _ _ ⟨b, Ab, cb, Vb, jb, by_, HS, OP.is rfl, e4, e3⟩
 ·clear HS; refine ⟨_, rfl, fun vs W h4 hd hn ⟨b, Ab, cb, Vb, jb, by_, HS, e1, e4, e3⟩ => ?_⟩
  obtain ⟨⟨v3, h3⟩, -⟩ := hd
  obtain ⟨rfl, -⟩ := e3 _ h3
  rw [h4] at HS
  simp only [actG, old, h3, Option.getD_some]; (try simp only [List.getElem_toArray, List.getElem_cons_succ, List.getElem_cons_zero, Act.put, List.setIfInBounds_toArray, List.set_cons_zero, List.set_cons_succ]); intro K hK
  go_simp
  exact hK.out _ _ ⟨b, Ab, cb, Vb, jb, W.heap.size, (HS.out.box 24 #[.int .i64 b.k, .string b.t, .int .i64 b.num, .slice Ab b.kids.length cb]), e1, OP.is rfl, e3⟩
 ·clear HS; refine ⟨_, rfl, fun vs W h3 hd hn ⟨b, Ab, cb, Vb, jb, by_, HS, e1, e4, e3⟩ => ?_⟩
  rw [h3, show vs 4 = none from hn.2.1] at HS
  simp only [actG, old, Option.getD_some]; (try simp only [List.getElem_toArray, List.getElem_cons_succ, List.getElem_cons_zero, Act.put, List.setIfInBounds_toArray, List.set_cons_zero, List.set_cons_succ]); intro K hK
  go_simp
  refine (subq HBL HS.out (bindW HR.out HW.out)).mono ?_
  clear HS; rintro e W (⟨k, hr, rfl, m⟩ | ⟨b, jb, Ab, cb, Vb, hr, rfl, HS⟩)
  ·go_wp2; exact ⟨rfl, badO (bindB HR.out hr) m⟩
  exact hK.out _ _ ⟨b, Ab, cb, Vb, jb, by_, (by rw [show upd vs 3 _ 4 = none from hn.2.1]; exact HS), e1, OP.no _ hn.2.1, OP.is ⟨rfl, hr⟩⟩
 clear HS; intro vs W ⟨b, Ab, cb, Vb, jb, by_, HS, e1, e4, e3⟩ hall
 obtain ⟨⟨v1, h1⟩, ⟨v4, h4⟩, ⟨v3, h3⟩, -⟩ := hall
 obtain rfl := e1 _ h1
 obtain rfl := e4 _ h4
 obtain ⟨rfl, hr⟩ := e3 _ h3
 rw [h4, h3] at HS
 simp only [altq_some, ifq, List.cons_append, List.nil_append] at HS
 simp only [actG, lisG, old, h1, h4, h3, Option.getD_some, Option.isSome_some, if_true, List.length_cons, List.length_nil]; (try simp only [List.getElem_toArray, List.getElem_cons_succ, List.getElem_cons_zero, Act.put, List.setIfInBounds_toArray, List.set_cons_zero, List.set_cons_succ])
 clear h1 e1 h4 e4 h3 e3 vs
 obtain ⟨w7, rfl⟩ : ∃ x, x = W := ⟨_, rfl⟩
 replace HR := bindO HR.out hr
 clear hr
 replace HS := Lib.hid HS.out.f1
 replace HS := Lib.hid HS.out.f2
 refine wpAnyH_ready (rs := [5]) (by kernel_rfl) (by simp) (AllReadyH.cons rfl (fun K hK => ?_) AllReadyH.nil)
 rw [if_pos (by rfl)]
 refine oper_push HS.out (show [c].length = 1 from rfl) (by omega) _ _ rfl rfl rfl ?_
 clear HS; intro A2 c2 V2 w8 HS
 refine hK.out _ _ trivial (fun _ => ?_)
 clear hK K
 (try simp only [List.getElem_toArray, List.getElem_cons_succ, List.getElem_cons_zero, Act.put, List.setIfInBounds_toArray, List.set_cons_zero, List.set_cons_succ])
 (refine wpAnyH_take (i := 6) (v := ?_) rfl (by kernel_rfl) (by kernel_rfl) (by kernel_rfl) (fun _ _ _ h => h) (Or.inl ⟨by rfl, ?_⟩) (by assumption) ?_; rotate_left; · ((intro w hSw; (try dsimp only at hSw); go_simp) <;> with_reducible rfl); (try simp only [List.getElem_toArray, List.getElem_cons_succ, List.getElem_cons_zero, Act.put, List.setIfInBounds_toArray, List.set_cons_zero, List.set_cons_succ]))
 refine wpAnyH_ready (rs := [7]) (by kernel_rfl) (by simp) (AllReadyH.cons rfl (fun K hK => ?_) AllReadyH.nil)
 replace HS := Lib.hid HS.out.f1
 have f3 := HS.out.one.free 3
 have g3 := HS.out.one.cell 3 _ rfl
 skip
 go_simp
 clear f3 g3
 replace HS := Lib.hid (HS.out.put1 3 (.slice A2 (1 + 1) c2))
 generalize w8.setCell ⟨bt, 3, none⟩ (.slice A2 (1 + 1) c2) = w9 at *
 refine hK.out _ _ trivial (fun _ => ?_)
 clear hK K
 (try simp only [List.getElem_toArray, List.getElem_cons_succ, List.getElem_cons_zero, Act.put, List.setIfInBounds_toArray, List.set_cons_zero, List.set_cons_succ])
 refine wpAnyH_done (by kernel_rfl) ?_ _
 go_wp2_with fail
 rcases ht : tIs C.L ⟨#[101, 108, 115, 101]⟩ jb with _ | _
 ·refine (haveN HS.out ht).mono ?_
  clear HS; rintro e w10 ⟨rfl, HS⟩
  replace HR := ifN HR.out ht
  clear ht
  replace HS := Lib.hid HS.out.f1
  replace HS := Lib.hid (HS.out.kids 16 ⟨#[]⟩ 0 i64_0 (Nat.zero_le _))
  replace HS := Lib.hid HS.out.f2
  replace HS := Lib.hid HS.out.f1
  obtain ⟨-, -, -, -, b0, b1, b2, b3⟩ := (HS.out.blk 2 rfl).all4
  obtain ⟨f0, f1, f2, f3, g0, g1, g2, g3⟩ := (HS.out.blk 1 rfl).all4
  go_wp2_with fail
  have hf := finO HS.out HR
  try simp only [List.length_append, List.length_cons, List.length_nil, Nat.zero_add] at hf
  exact bodyPost_ret (v := .agg _) (results_cell4 (fn := Tryz.f73) rfl hf.1 rfl) rfl hf.2
 refine (haveY HS.out ht).mono ?_
 clear HS; rintro e w10 ⟨rfl, HS⟩
 replace HR := ifY HR.out ht
 clear ht
 go_wp2_with fail
 replace HS := Lib.hid (HS.out.below (Below.refl _ _).drew)
 refine wp_region_held_drew (S := fun _ => True) (by kernel_rfl) trivial (fun _ => ?_)
 generalize w10.drew = w11 at *
 (refine wpAnyH_take (i := 0) (v := ?_) rfl (by kernel_rfl) (by kernel_rfl) (by kernel_rfl) (fun _ _ _ h => h) (Or.inl ⟨by rfl, ?_⟩) (by assumption) ?_; rotate_left; · ((intro w hSw; (try dsimp only at hSw); go_simp) <;> with_reducible rfl); (try simp only [List.getElem_toArray, List.getElem_cons_succ, List.getElem_cons_zero, Act.put, List.setIfInBounds_toArray, List.set_cons_zero, List.set_cons_succ])); (refine wpAnyH_take (i := 2) (v := ?_) rfl (by kernel_rfl) (by kernel_rfl) (by kernel_rfl) (fun _ _ _ h => h) (Or.inl ⟨by rfl, ?_⟩) (by assumption) ?_; rotate_left; · ((intro w hSw; (try dsimp only at hSw); go_simp) <;> with_reducible rfl); (try simp only [List.getElem_toArray, List.getElem_cons_succ, List.getElem_cons_zero, Act.put, List.setIfInBounds_toArray, List.set_cons_zero, List.set_cons_succ]))
 replace HS := Lib.hid HS.out.f2
 replace HS := Lib.hid HS.out.f1
 replace HS := Lib.hid HS.out.f2
 refine wpAnyH_grp [⟨1, some 26, []⟩, ⟨4, some 29, [3]⟩, ⟨3, some 28, []⟩] 3 (fun vs W => ∃ o Ao co Vo jo by_, Hid (SP C w W (altq (vs 3) (jb + 1) jo) (ifq (vs 4) (bx by_ 24 #[.int .i64 o.k, .string o.t, .int .i64 o.num, .slice Ao o.kids.length co]) ++ (ifq (vs 3) (nd Vo o Ao co) ++ [rw_ w.heap.size V2 ([c] ++ [b]) A2 c2, bx bt 24 #[.int .i64 16, .string ⟨#[]⟩, .int .i64 0, .slice A2 (1 + 1) c2], bx w.heap.size 24 #[.int .i64 0, .string ⟨#[]⟩, .int .i64 0, .slice none 0 0]]))) ∧ OV (vs 1) (.slice A2 (1 + 1) c2) ∧ OV (vs 4) (.slice (some ⟨by_, 0, none⟩) 1 1) ∧ OP (vs 3) (fun q_ => q_ = .agg #[.int .i64 o.k, .string o.t, .int .i64 o.num, .slice Ao o.kids.length co] ∧ blockM C.L (statM C.L F) (jb + 1) = .ok o jo)) (by rfl) (by kernel_rfl) ⟨.mk 0 ⟨#[]⟩ 0 [], none, 0, fun _ => False, 0, 0, HS, OP.no _ rfl, OP.no _ rfl, OP.no _ rfl⟩ (fun _ _ _ => trivial) ⟨?_, ?_, ?_, trivial⟩ ?_
 ·clear HS; refine ⟨_, rfl, fun vs W h1 hd hn ⟨o, Ao, co, Vo, jo, by_, HS, e1, e4, e3⟩ => ?_⟩
  obtain ⟨-, -, -, -, b0, b1, b2, b3⟩ := Blk.all4 (HS.out.ok (bx bt 24 #[.int .i64 16, .string ⟨#[]⟩, .int .i64 0, .slice A2 (1 + 1) c2]) (by simp))
  simp only [actG, old, Option.getD_some]; (try simp only [List.getElem_toArray, List.getElem_cons_succ, List.getElem_cons_zero, Act.put, List.setIfInBounds_toArray, List.set_cons_zero, List.set_cons_succ]); intro K hK
  go_simp
  clear b0 b1 b2 b3
  exact hK.out _ _ ⟨o, Ao, co, Vo, jo, by_, HS, OP.is rfl, e4, e3⟩
 ·clear HS; refine ⟨_, rfl, fun vs W h4 hd hn ⟨o, Ao, co, Vo, jo, by_, HS, e1, e4, e3⟩ => ?_⟩
  obtain ⟨⟨v3, h3⟩, -⟩ := hd
  obtain ⟨rfl, -⟩ := e3 _ h3
  rw [h4] at HS
  simp only [actG, old, h3, Option.getD_some]; (try simp only [List.getElem_toArray, List.getElem_cons_succ, List.getElem_cons_zero, Act.put, List.setIfInBounds_toArray, List.set_cons_zero, List.set_cons_succ]); intro K hK
  go_simp
  exact hK.out _ _ ⟨o, Ao, co, Vo, jo, W.heap.size, (HS.out.box 24 #[.int .i64 o.k, .string o.t, .int .i64 o.num, .slice Ao o.kids.length co]), e1, OP.is rfl, e3⟩
 ·clear HS; refine ⟨_, rfl, fun vs W h3 hd hn ⟨o, Ao, co, Vo, jo, by_, HS, e1, e4, e3⟩ => ?_⟩
  rw [h3, show vs 4 = none from hn.2.1] at HS
  simp only [actG, old, Option.getD_some]; (try simp only [List.getElem_toArray, List.getElem_cons_succ, List.getElem_cons_zero, Act.put, List.setIfInBounds_toArray, List.set_cons_zero, List.set_cons_succ]); intro K hK
  go_simp
  refine (subq HBL HS.out (bindW HR.out HW.out)).mono ?_
  clear HS; rintro e W (⟨k, hr, rfl, m⟩ | ⟨o, jo, Ao, co, Vo, hr, rfl, HS⟩)
  ·go_wp2; exact ⟨rfl, badO (bindB HR.out hr) m⟩
  exact hK.out _ _ ⟨o, Ao, co, Vo, jo, by_, (by rw [show upd vs 3 _ 4 = none from hn.2.1]; exact HS), e1, OP.no _ hn.2.1, OP.is ⟨rfl, hr⟩⟩
 clear HS; intro vs W ⟨o, Ao, co, Vo, jo, by_, HS, e1, e4, e3⟩ hall
 obtain ⟨⟨v1, h1⟩, ⟨v4, h4⟩, ⟨v3, h3⟩, -⟩ := hall
 obtain rfl := e1 _ h1
 obtain rfl := e4 _ h4
 obtain ⟨rfl, hr⟩ := e3 _ h3
 rw [h4, h3] at HS
 simp only [altq_some, ifq, List.cons_append, List.nil_append] at HS
 simp only [actG, lisG, old, h1, h4, h3, Option.getD_some, Option.isSome_some, if_true, List.length_cons, List.length_nil]; (try simp only [List.getElem_toArray, List.getElem_cons_succ, List.getElem_cons_zero, Act.put, List.setIfInBounds_toArray, List.set_cons_zero, List.set_cons_succ])
 clear h1 e1 h4 e4 h3 e3 vs
 obtain ⟨w12, rfl⟩ : ∃ x, x = W := ⟨_, rfl⟩
 replace HR := bindO HR.out hr
 clear hr
 replace HS := Lib.hid HS.out.f1
 replace HS := Lib.hid HS.out.f2
 refine wpAnyH_ready (rs := [5]) (by kernel_rfl) (by simp) (AllReadyH.cons rfl (fun K hK => ?_) AllReadyH.nil)
 rw [if_pos (by rfl)]
 refine oper_push HS.out (show ([c] ++ [b]).length = (1 + 1) from rfl) (by omega) _ _ rfl rfl rfl ?_
 clear HS; intro A3 c3 V3 w13 HS
 refine hK.out _ _ trivial (fun _ => ?_)
 clear hK K
 (try simp only [List.getElem_toArray, List.getElem_cons_succ, List.getElem_cons_zero, Act.put, List.setIfInBounds_toArray, List.set_cons_zero, List.set_cons_succ])
 (refine wpAnyH_take (i := 6) (v := ?_) rfl (by kernel_rfl) (by kernel_rfl) (by kernel_rfl) (fun _ _ _ h => h) (Or.inl ⟨by rfl, ?_⟩) (by assumption) ?_; rotate_left; · ((intro w hSw; (try dsimp only at hSw); go_simp) <;> with_reducible rfl); (try simp only [List.getElem_toArray, List.getElem_cons_succ, List.getElem_cons_zero, Act.put, List.setIfInBounds_toArray, List.set_cons_zero, List.set_cons_succ]))
 refine wpAnyH_ready (rs := [7]) (by kernel_rfl) (by simp) (AllReadyH.cons rfl (fun K hK => ?_) AllReadyH.nil)
 replace HS := Lib.hid HS.out.f1
 have f3 := HS.out.one.free 3
 have g3 := HS.out.one.cell 3 _ rfl
 skip
 go_simp
 clear f3 g3
 replace HS := Lib.hid (HS.out.put1 3 (.slice A3 ((1 + 1) + 1) c3))
 generalize w13.setCell ⟨bt, 3, none⟩ (.slice A3 ((1 + 1) + 1) c3) = w14 at *
 refine hK.out _ _ trivial (fun _ => ?_)
 clear hK K
 (try simp only [List.getElem_toArray, List.getElem_cons_succ, List.getElem_cons_zero, Act.put, List.setIfInBounds_toArray, List.set_cons_zero, List.set_cons_succ])
 refine wpAnyH_done (by kernel_rfl) ?_ _
 replace HS := Lib.hid HS.out.f1
 replace HS := Lib.hid (HS.out.kids 16 ⟨#[]⟩ 0 i64_0 (Nat.zero_le _))
 replace HS := Lib.hid HS.out.f2
 replace HS := Lib.hid HS.out.f1
 obtain ⟨-, -, -, -, b0, b1, b2, b3⟩ := (HS.out.blk 2 rfl).all4
 obtain ⟨f0, f1, f2, f3, g0, g1, g2, g3⟩ := (HS.out.blk 1 rfl).all4
 go_wp2_with fail
 have hf := finO HS.out HR
 try simp only [List.length_append, List.length_cons, List.length_nil, Nat.zero_add] at hf
 exact bodyPost_ret (v := .agg _) (results_cell4 (fn := Tryz.f73) rfl hf.1 rfl) rfl hf.2
theorem stat_while (C : PC) (F : Nat) (w : World) (i : Nat) (h : PSt C w i) (hwet : statM C.L (F + 1) i ≠ .dry) (HBL : POk C 33 (blockM C.L (statM C.L F))) (HEX : POk C 93 (exprF C.L F)) (HRD : POk C 91 (roundM C.L (unaryM C.L F))) (HTY : POk C 29 (typM C.L F)) (h1 : tIs C.L ⟨#[105, 102]⟩ i = false) (h2 : tIs C.L ⟨#[119, 104, 105, 108, 101]⟩ i = true) : Calls Tryz.prog 73 #[.pointer (some ⟨C.p, 0, none⟩)] w (NodeOut C w (statM C.L (F + 1) i)) := by
 obtain ⟨R, HR⟩ : ∃ R, Hid (statM C.L (F + 1) i = R) := ⟨_, rfl⟩
 rw [HR.out] at hwet ⊢
 have HW := Lib.hid hwet
 have hR := HR.out
 rw [statM] at hR
 replace HR := Lib.hid hR
 have HS := Lib.hid (h.st.box 24 #[.int .i64 0, .string ⟨#[]⟩, .int .i64 0, .slice none 0 0])
 clear h hR hwet
 go_enter Tryz.func73, Tryz.ntmps73
 go_wp2_with fail
 generalize w.alloc (.cells #[.int .i64 0, .string ⟨#[]⟩, .int .i64 0, .slice none 0 0] 24) = w0 at *
 refine (haveN HS.out h1).mono ?_
 clear HS; rintro e w1 ⟨rfl, HS⟩
 replace HR := ifN HR.out h1
 go_wp2_with fail
 refine (haveY HS.out h2).mono ?_
 clear HS; rintro e w2 ⟨rfl, HS⟩
 replace HR := ifY HR.out h2
 go_wp2_with fail
 refine (subq HRD HS.out (bindW HR.out HW.out)).mono ?_
 clear HS; rintro e w3 (⟨k, hr, rfl, m⟩ | ⟨c, j1, Ac, cc, Vc, hr, rfl, HS⟩)
 ·go_wp2; exact ⟨rfl, badO (bindB HR.out hr) m⟩
 replace HR := bindO HR.out hr
 clear hr
 go_wp2_with fail
 replace HS := Lib.hid (HS.out.box 24 #[.int .i64 c.k, .string c.t, .int .i64 c.num, .slice Ac c.kids.length cc])
 generalize w3.alloc (.cells #[.int .i64 c.k, .string c.t, .int .i64 c.num, .slice Ac c.kids.length cc] 24) = w4 at *
 generalize w3.heap.size = y at *
 refine (nodeq HS.out 17 ⟨#[]⟩ (some ⟨y, 0, none⟩) 1 1).mono ?_
 clear HS; rintro e w5 ⟨rfl, HS⟩
 go_wp2_with fail
 replace HS := Lib.hid (HS.out.box 24 #[.int .i64 17, .string ⟨#[]⟩, .int .i64 0, .slice (some ⟨y, 0, none⟩) 1 1])
 generalize w5.alloc (.cells #[.int .i64 17, .string ⟨#[]⟩, .int .i64 0, .slice (some ⟨y, 0, none⟩) 1 1] 24) = w6 at *
 generalize w5.heap.size = bt at *
 go_wp2_with fail
 replace HS := Lib.hid HS.out.f2
 replace HS := Lib.hid HS.out.f2
 replace HS := Lib.hid HS.out.row1
 obtain ⟨V1, hV1⟩ : ∃ x : Nat → Prop, x = (fun b => b = y ∨ Vc b) := ⟨_, rfl⟩
 rw [← hV1] at HS
 clear hV1
 replace HS := Lib.hid (HS.out.below (Below.refl _ _).drew)
 refine wp_region_held_drew (S := fun _ => True) (by kernel_rfl) trivial (fun _ => ?_)
 generalize w6.drew = w7 at *
 (refine wpAnyH_take (i := 0) (v := ?_) rfl (by kernel_rfl) (by kernel_rfl) (by kernel_rfl) (fun _ _ _ h => h) (Or.inl ⟨by rfl, ?_⟩) (by assumption) ?_; rotate_left; · ((intro w hSw; (try dsimp only at hSw); go_simp) <;> with_reducible rfl); (try simp only [List.getElem_toArray, List.getElem_cons_succ, List.getElem_cons_zero, Act.put, List.setIfInBounds_toArray, List.set_cons_zero, List.set_cons_succ])); (refine wpAnyH_take (i := 2) (v := ?_) rfl (by kernel_rfl) (by kernel_rfl) (by kernel_rfl) (fun _ _ _ h => h) (Or.inl ⟨by rfl, ?_⟩) (by assumption) ?_; rotate_left; · ((intro w hSw; (try dsimp only at hSw); go_simp) <;> with_reducible rfl); (try simp only [List.getElem_toArray, List.getElem_cons_succ, List.getElem_cons_zero, Act.put, List.setIfInBounds_toArray, List.set_cons_zero, List.set_cons_succ]))
 replace HS := Lib.hid HS.out.f2
 replace HS := Lib.hid HS.out.f2
 replace HS := Lib.hid HS.out.f2
 refine wpAnyH_grp [⟨1, some 41, []⟩, ⟨4, some 44, [3]⟩, ⟨3, some 43, []⟩] 3 (fun vs W => ∃ b Ab cb Vb jb by_, Hid (SP C w W (altq (vs 3) j1 jb) (ifq (vs 4) (bx by_ 24 #[.int .i64 b.k, .string b.t, .int .i64 b.num, .slice Ab b.kids.length cb]) ++ (ifq (vs 3) (nd Vb b Ab cb) ++ [rw_ w.heap.size V1 [c] (some ⟨y, 0, none⟩) 1, bx bt 24 #[.int .i64 17, .string ⟨#[]⟩, .int .i64 0, .slice (some ⟨y, 0, none⟩) 1 1], bx w.heap.size 24 #[.int .i64 0, .string ⟨#[]⟩, .int .i64 0, .slice none 0 0]]))) ∧ OV (vs 1) (.slice (some ⟨y, 0, none⟩) 1 1) ∧ OV (vs 4) (.slice (some ⟨by_, 0, none⟩) 1 1) ∧ OP (vs 3) (fun q_ => q_ = .agg #[.int .i64 b.k, .string b.t, .int .i64 b.num, .slice Ab b.kids.length cb] ∧ blockM C.L (statM C.L F) j1 = .ok b jb)) (by rfl) (by kernel_rfl) ⟨.mk 0 ⟨#[]⟩ 0 [], none, 0, fun _ => False, 0, 0, HS, OP.no _ rfl, OP.no _ rfl, OP.no _ rfl⟩ (fun _ _ _ => trivial) ⟨?_, ?_, ?_, trivial⟩ ?_
 ·clear HS; refine ⟨_, rfl, fun vs W h1 hd hn ⟨b, Ab, cb, Vb, jb, by_, HS, e1, e4, e3⟩ => ?_⟩
  obtain ⟨-, -, -, -, b0, b1, b2, b3⟩ := Blk.all4 (HS.out.ok (bx bt 24 #[.int .i64 17, .string ⟨#[]⟩, .int .i64 0, .slice (some ⟨y, 0, none⟩) 1 1]) (by simp))
  simp only [actG, old, Option.getD_some]; (try simp only [List.getElem_toArray, List.getElem_cons_succ, List.getElem_cons_zero, Act.put, List.setIfInBounds_toArray, List.set_cons_zero, List.set_cons_succ]); intro K hK
  go_simp
  clear b0 b1 b2 b3
  exact hK.out _ _ ⟨b, Ab, cb, Vb, jb, by_, HS, OP.is rfl, e4, e3⟩
 ·clear HS; refine ⟨_, rfl, fun vs W h4 hd hn ⟨b, Ab, cb, Vb, jb, by_, HS, e1, e4, e3⟩ => ?_⟩
  obtain ⟨⟨v3, h3⟩, -⟩ := hd
  obtain ⟨rfl, -⟩ := e3 _ h3
  rw [h4] at HS
  simp only [actG, old, h3, Option.getD_some]; (try simp only [List.getElem_toArray, List.getElem_cons_succ, List.getElem_cons_zero, Act.put, List.setIfInBounds_toArray, List.set_cons_zero, List.set_cons_succ]); intro K hK
  go_simp
  exact hK.out _ _ ⟨b, Ab, cb, Vb, jb, W.heap.size, (HS.out.box 24 #[.int .i64 b.k, .string b.t, .int .i64 b.num, .slice Ab b.kids.length cb]), e1, OP.is rfl, e3⟩
 ·clear HS; refine ⟨_, rfl, fun vs W h3 hd hn ⟨b, Ab, cb, Vb, jb, by_, HS, e1, e4, e3⟩ => ?_⟩
  rw [h3, show vs 4 = none from hn.2.1] at HS
  simp only [actG, old, Option.getD_some]; (try simp only [List.getElem_toArray, List.getElem_cons_succ, List.getElem_cons_zero, Act.put, List.setIfInBounds_toArray, List.set_cons_zero, List.set_cons_succ]); intro K hK
  go_simp
  refine (subq HBL HS.out (bindW HR.out HW.out)).mono ?_
  clear HS; rintro e W (⟨k, hr, rfl, m⟩ | ⟨b, jb, Ab, cb, Vb, hr, rfl, HS⟩)
  ·go_wp2; exact ⟨rfl, badO (bindB HR.out hr) m⟩
  exact hK.out _ _ ⟨b, Ab, cb, Vb, jb, by_, (by rw [show upd vs 3 _ 4 = none from hn.2.1]; exact HS), e1, OP.no _ hn.2.1, OP.is ⟨rfl, hr⟩⟩
 clear HS; intro vs W ⟨b, Ab, cb, Vb, jb, by_, HS, e1, e4, e3⟩ hall
 obtain ⟨⟨v1, h1⟩, ⟨v4, h4⟩, ⟨v3, h3⟩, -⟩ := hall
 obtain rfl := e1 _ h1
 obtain rfl := e4 _ h4
 obtain ⟨rfl, hr⟩ := e3 _ h3
 rw [h4, h3] at HS
 simp only [altq_some, ifq, List.cons_append, List.nil_append] at HS
 simp only [actG, lisG, old, h1, h4, h3, Option.getD_some, Option.isSome_some, if_true, List.length_cons, List.length_nil]; (try simp only [List.getElem_toArray, List.getElem_cons_succ, List.getElem_cons_zero, Act.put, List.setIfInBounds_toArray, List.set_cons_zero, List.set_cons_succ])
 clear h1 e1 h4 e4 h3 e3 vs
 obtain ⟨w8, rfl⟩ : ∃ x, x = W := ⟨_, rfl⟩
 replace HR := bindO HR.out hr
 clear hr
 replace HS := Lib.hid HS.out.f1
 replace HS := Lib.hid HS.out.f2
 refine wpAnyH_ready (rs := [5]) (by kernel_rfl) (by simp) (AllReadyH.cons rfl (fun K hK => ?_) AllReadyH.nil)
 rw [if_pos (by rfl)]
 refine oper_push HS.out (show [c].length = 1 from rfl) (by omega) _ _ rfl rfl rfl ?_
 clear HS; intro A2 c2 V2 w9 HS
 refine hK.out _ _ trivial (fun _ => ?_)
 clear hK K
 (try simp only [List.getElem_toArray, List.getElem_cons_succ, List.getElem_cons_zero, Act.put, List.setIfInBounds_toArray, List.set_cons_zero, List.set_cons_succ])
 (refine wpAnyH_take (i := 6) (v := ?_) rfl (by kernel_rfl) (by kernel_rfl) (by kernel_rfl) (fun _ _ _ h => h) (Or.inl ⟨by rfl, ?_⟩) (by assumption) ?_; rotate_left; · ((intro w hSw; (try dsimp only at hSw); go_simp) <;> with_reducible rfl); (try simp only [List.getElem_toArray, List.getElem_cons_succ, List.getElem_cons_zero, Act.put, List.setIfInBounds_toArray, List.set_cons_zero, List.set_cons_succ]))
 refine wpAnyH_ready (rs := [7]) (by kernel_rfl) (by simp) (AllReadyH.cons rfl (fun K hK => ?_) AllReadyH.nil)
 replace HS := Lib.hid HS.out.f1
 have f3 := HS.out.one.free 3
 have g3 := HS.out.one.cell 3 _ rfl
 skip
 go_simp
 clear f3 g3
 replace HS := Lib.hid (HS.out.put1 3 (.slice A2 (1 + 1) c2))
 generalize w9.setCell ⟨bt, 3, none⟩ (.slice A2 (1 + 1) c2) = w10 at *
 refine hK.out _ _ trivial (fun _ => ?_)
 clear hK K
 (try simp only [List.getElem_toArray, List.getElem_cons_succ, List.getElem_cons_zero, Act.put, List.setIfInBounds_toArray, List.set_cons_zero, List.set_cons_succ])
 refine wpAnyH_done (by kernel_rfl) ?_ _
 replace HS := Lib.hid HS.out.f1
 replace HS := Lib.hid (HS.out.kids 17 ⟨#[]⟩ 0 i64_0 (Nat.zero_le _))
 replace HS := Lib.hid HS.out.f2
 replace HS := Lib.hid HS.out.f1
 obtain ⟨-, -, -, -, b0, b1, b2, b3⟩ := (HS.out.blk 2 rfl).all4
 obtain ⟨f0, f1, f2, f3, g0, g1, g2, g3⟩ := (HS.out.blk 1 rfl).all4
 go_wp2_with fail
 have hf := finO HS.out HR
 try simp only [List.length_append, List.length_cons, List.length_nil, Nat.zero_add] at hf
 exact bodyPost_ret (v := .agg _) (results_cell4 (fn := Tryz.f73) rfl hf.1 rfl) rfl hf.2
end Go.Proofs.YtgegfbopogcjpaaGreatDoor
