/- The parser: declarations: functions and variables; The parser: declarations: struct; The parser: an operation's number; The parser: what serves its chains. -/
import Derived.Test.YtgegfbopogcjpaaGreatDoorQ08
import Derived.Test.YtgegfbopogcjpaaGreatDoorQ15
import Derived.Test.YtgegfbopogcjpaaGreatDoorQ16
import Derived.Test.YtgegfbopogcjpaaGreatDoorQ17
namespace Go.Proofs.YtgegfbopogcjpaaGreatDoor
open Go.RowKit
set_option linter.unusedVariables false
set_option linter.unusedSimpArgs false
set_option maxRecDepth 100000
set_option maxHeartbeats 4000000
theorem decl_neither (C : PC) (F : Nat) (w : World) (i : Nat) (h : PSt C w i) (hwet : declM C.L F i ≠ .dry) (HTY : POk C 29 (typM C.L F)) (HPA : POk C 31 (paramM C.L F)) (HBL : POk C 33 (blockF C.L F)) (h1 : tIs C.L ⟨#[115, 116, 114, 117, 99, 116]⟩ i = false) (h2 : tIs C.L ⟨#[101, 120, 116, 101, 114, 110]⟩ i = false) : Calls Tryz.prog 12 #[.pointer (some ⟨C.p, 0, none⟩)] w (NodeOut C w (declM C.L F i)) := by
 obtain ⟨R, HR⟩ : ∃ R, Hid (declM C.L F i = R) := ⟨_, rfl⟩
 rw [HR.out] at hwet ⊢
 have HW := Lib.hid hwet
 have hR := HR.out
 unfold declM at hR
 replace HR := Lib.hid hR
 have HS := Lib.hid (h.st.box 24 #[.int .i64 0, .string ⟨#[]⟩, .int .i64 0, .slice none 0 0])
 clear h hR hwet
 go_enter Tryz.func12, Tryz.ntmps12
 go_wp2_with fail
 generalize w.alloc (.cells #[.int .i64 0, .string ⟨#[]⟩, .int .i64 0, .slice none 0 0] 24) = w0 at *
 refine (haveN HS.out h1).mono ?_
 clear HS; rintro e w1 ⟨rfl, HS⟩
 replace HR := ifN HR.out h1
 go_wp2_with fail
 refine (haveN HS.out h2).mono ?_
 clear HS; rintro e w2 ⟨rfl, HS⟩
 replace HR := ifN HR.out h2
 go_wp2_with fail
 refine (haveG HS.out ⟨#[115, 116, 97, 116, 105, 99]⟩).mono ?_
 clear HS; rintro e w3 ⟨rfl, HS⟩
 generalize tIs C.L ⟨#[115, 116, 97, 116, 105, 99]⟩ i = st at *
 go_wp2_with fail
 refine (flag_any st _).mono ?_
 rintro e w4 ⟨rfl, rfl⟩
 generalize (if st = true then i + 1 else i) = i0 at *
 go_wp2_with fail
 refine (subq HTY HS.out (bindW HR.out HW.out)).mono ?_
 clear HS; rintro e w4 (⟨k, hr, rfl, m⟩ | ⟨t, j, At, ct, Vt, hr, rfl, HS⟩)
 ·go_wp2; exact ⟨rfl, badO (bindB HR.out hr) m⟩
 replace HR := bindO HR.out hr
 clear hr
 go_wp2_with fail
 replace HS := Lib.hid (HS.out.box 24 #[.int .i64 t.k, .string t.t, .int .i64 t.num, .slice At t.kids.length ct])
 generalize w4.alloc (.cells #[.int .i64 t.k, .string t.t, .int .i64 t.num, .slice At t.kids.length ct] 24) = w5 at *
 generalize w4.heap.size = bt at *
 refine (nameq HS.out).mono ?_
 clear HS; rintro e w6 (⟨hr, rfl, m⟩ | ⟨x, hr, hx, rfl, HS⟩)
 ·go_wp2; exact ⟨rfl, badO (bindB HR.out hr) m⟩
 replace HR := bindO HR.out hr
 clear hr
 go_wp2_with fail
 rcases ht : tIs C.L ⟨#[40]⟩ (j + 1) with _ | _
 ·refine (isq HS.out ht).mono ?_
  clear HS; rintro e w7 ⟨rfl, HS⟩
  replace HR := ifN HR.out ht
  go_wp2_with fail
  clear ht
  refine (needq HS.out ⟨#[61]⟩).mono ?_
  clear HS; rintro e w8 (⟨hr, rfl, m⟩ | ⟨hr, rfl, HS⟩)
  ·go_wp2; exact ⟨rfl, badO (bindB HR.out hr) m⟩
  replace HR := bindO HR.out hr
  clear hr
  go_wp2_with fail
  rcases ht : tIs C.L ⟨#[45]⟩ ((j + 1) + 1) with _ | _
  ·refine (haveN HS.out ht).mono ?_
   clear HS; rintro e w9 ⟨rfl, HS⟩
   have hR := HR.out
   simp only [ht, if_true, Bool.false_eq_true, if_false] at hR
   replace HR := Lib.hid hR
   clear hR ht
   go_wp2_with fail
   have HN := Lib.hid (fun x o e => num_pos HS.out (j := ((j + 1) + 1)) (x := x) (o := o) e)
   refine (subq (number_any C) HS.out (bindW HR.out HW.out)).mono ?_
   clear HS; rintro e w10 (⟨k, hr, rfl, m⟩ | ⟨y, o, Ay, cy, Vy, hr, rfl, HS⟩)
   ·go_wp2; exact ⟨rfl, badO (bindB HR.out hr) m⟩
   have hy := HN.out _ _ hr
   replace HR := bindO HR.out hr
   clear hr
   go_wp2_with fail
   replace HS := Lib.hid (HS.out.box 24 #[.int .i64 y.k, .string y.t, .int .i64 y.num, .slice Ay y.kids.length cy])
   generalize w10.alloc (.cells #[.int .i64 y.k, .string y.t, .int .i64 y.num, .slice Ay y.kids.length cy] 24) = w11 at *
   generalize w10.heap.size = by_ at *
   refine (needq HS.out ⟨#[59]⟩).mono ?_
   clear HS; rintro e w12 (⟨hr, rfl, m⟩ | ⟨hr, rfl, HS⟩)
   ·go_wp2; exact ⟨rfl, badO (bindB HR.out hr) m⟩
   replace HR := bindO HR.out hr
   clear hr
   obtain ⟨-, -, -, -, b0, b1, b2, b3⟩ := (HS.out.blk 2 rfl).all4
   obtain ⟨-, -, -, -, c0, c1, c2, c3⟩ := (HS.out.blk 0 rfl).all4
   replace HS := Lib.hid HS.out.f4
   obtain ⟨f0, f1, f2, f3, g0, g1, g2, g3⟩ := HS.out.one.all4
   have hne := Nat.ne_of_lt HS.out.one.lt
   have hlt := HS.out.one.lt
   go_wp2_with fail
   replace HS := Lib.hid (HS.out.putbox (.int .i64 6) (.string x) (.int .i64 (flagN st)) (.slice (some ⟨w12.heap.size, 0, none⟩) 2 2) 24 #[.int .i64 t.k, .string t.t, .int .i64 t.num, .slice At t.kids.length ct, .int .i64 y.k, .string y.t, .int .i64 y.num, .slice Ay y.kids.length cy])
   replace HS := Lib.hid HS.out.f3
   replace HS := Lib.hid HS.out.f5
   replace HS := Lib.hid HS.out.f2
   replace HS := Lib.hid (HS.out.kid2 (x := t) (z := y) 6 x (flagN st) (i64_flag st) hx)
   replace HS := Lib.hid HS.out.f1
   replace HS := Lib.hid HS.out.f1
   have hf := finP HS.out rfl HR
   exact bodyPost_ret (v := .agg _) (results_cell4 (fn := Tryz.f12) rfl hf.1 rfl) rfl hf.2
  refine (haveY HS.out ht).mono ?_
  clear HS; rintro e w9 ⟨rfl, HS⟩
  have hR := HR.out
  simp only [ht, if_true, Bool.false_eq_true, if_false] at hR
  replace HR := Lib.hid hR
  clear hR ht
  go_wp2_with fail
  have HN := Lib.hid (fun x o e => num_pos HS.out (j := (((j + 1) + 1) + 1)) (x := x) (o := o) e)
  refine (subq (number_any C) HS.out (bindW HR.out HW.out)).mono ?_
  clear HS; rintro e w10 (⟨k, hr, rfl, m⟩ | ⟨y, o, Ay, cy, Vy, hr, rfl, HS⟩)
  ·go_wp2; exact ⟨rfl, badO (bindB HR.out hr) m⟩
  have hy := HN.out _ _ hr
  replace HR := bindO HR.out hr
  clear hr
  have hw : IntKind.i64.wrap (-y.num) = -y.num := IntWalk.i64_in _ (by have h1 := hy.1; have h2 := hy.2; unfold I64 at h2; omega)
  go_wp2_with fail
  clear hw
  replace HS := Lib.hid (HS.out.renum (-y.num) (by have h1 := hy.1; have h2 := hy.2; unfold I64 at *; omega))
  replace HS := Lib.hid (HS.out.box 24 #[.int .i64 y.k, .string y.t, .int .i64 (-y.num), .slice Ay y.kids.length cy])
  generalize w10.alloc (.cells #[.int .i64 y.k, .string y.t, .int .i64 (-y.num), .slice Ay y.kids.length cy] 24) = w11 at *
  generalize w10.heap.size = by_ at *
  refine (needq HS.out ⟨#[59]⟩).mono ?_
  clear HS; rintro e w12 (⟨hr, rfl, m⟩ | ⟨hr, rfl, HS⟩)
  ·go_wp2; exact ⟨rfl, badO (bindB HR.out hr) m⟩
  replace HR := bindO HR.out hr
  clear hr
  obtain ⟨-, -, -, -, b0, b1, b2, b3⟩ := (HS.out.blk 2 rfl).all4
  obtain ⟨-, -, -, -, c0, c1, c2, c3⟩ := (HS.out.blk 0 rfl).all4
  replace HS := Lib.hid HS.out.f4
  obtain ⟨f0, f1, f2, f3, g0, g1, g2, g3⟩ := HS.out.one.all4
  have hne := Nat.ne_of_lt HS.out.one.lt
  have hlt := HS.out.one.lt
  go_wp2_with fail
  replace HS := Lib.hid (HS.out.putbox (.int .i64 6) (.string x) (.int .i64 (flagN st)) (.slice (some ⟨w12.heap.size, 0, none⟩) 2 2) 24 #[.int .i64 t.k, .string t.t, .int .i64 t.num, .slice At t.kids.length ct, .int .i64 y.k, .string y.t, .int .i64 (-y.num), .slice Ay y.kids.length cy])
  replace HS := Lib.hid HS.out.f3
  replace HS := Lib.hid HS.out.f5
  replace HS := Lib.hid HS.out.f2
  replace HS := Lib.hid (HS.out.kid2 (x := t) (z := (.mk y.k y.t (-y.num) y.kids)) 6 x (flagN st) (i64_flag st) hx)
  replace HS := Lib.hid HS.out.f1
  replace HS := Lib.hid HS.out.f1
  have hf := finP HS.out rfl HR
  exact bodyPost_ret (v := .agg _) (results_cell4 (fn := Tryz.f12) rfl hf.1 rfl) rfl hf.2
 refine (isq HS.out ht).mono ?_
 clear HS; rintro e w7 ⟨rfl, HS⟩
 replace HR := ifY HR.out ht
 go_wp2_with fail
 clear ht
 refine (listq (cf_fn rfl (by kernel_rfl) (by kernel_rfl)) HPA HS.out (bindW HR.out HW.out)).mono ?_
 clear HS; rintro e w8 (⟨k, hr, rfl, m⟩ | ⟨ks, d, q, Aks, cks, Vks, hr, hnks, rfl, HS⟩)
 ·go_wp2; exact ⟨rfl, badO (bindB HR.out hr) m⟩
 replace HR := bindO HR.out hr
 clear hr
 obtain ⟨-, -, -, -, b0, b1, b2, b3⟩ := (HS.out.blk 1 rfl).all4
 replace HS := Lib.hid HS.out.f2
 replace HS := Lib.hid HS.out.f1
 replace HS := Lib.hid HS.out.f1
 replace HS := Lib.hid HS.out.f1
 have HB := Lib.hid (HS.out.box 24 #[.int .i64 t.k, .string t.t, .int .i64 t.num, .slice At t.kids.length ct]).f2.f2
 clear HS
 go_wp2_with (at_builtin; refine wpList_push (x := t) HB.out (by first | rfl | simp) (by omega) rfl _ _ rfl rfl rfl ?_)
 clear HB; intro A2 c2 V2 w9 HS
 clear b0 b1 b2 b3
 have hw1 : IntKind.i64.wrap (2 * flagN d) = 2 * flagN d := by cases d <;> rfl
 have hw2 : IntKind.i64.wrap (flagN st + 2 * flagN d) = flagN st + 2 * flagN d := by cases d <;> cases st <;> rfl
 go_wp2_with fail
 refine (flag_any d _).mono ?_
 rintro e w10 ⟨rfl, rfl⟩
 go_wp2_with fail
 refine (subq HBL HS.out (bindW HR.out HW.out)).mono ?_
 clear HS; rintro e w10 (⟨k, hr, rfl, m⟩ | ⟨b, o, Ab, cb, Vb, hr, rfl, HS⟩)
 ·go_wp2; exact ⟨rfl, badO (bindB HR.out hr) m⟩
 replace HR := bindO HR.out hr
 clear hr
 have hl1 : (ks ++ [t]).length ≤ 8000 := by simp; omega
 replace HS := Lib.hid HS.out.f1
 replace HS := Lib.hid HS.out.f1
 replace HS := Lib.hid HS.out.f1
 have HB := Lib.hid (HS.out.box 24 #[.int .i64 b.k, .string b.t, .int .i64 b.num, .slice Ab b.kids.length cb]).f2.f2
 clear HS
 go_wp2_with (at_builtin; refine wpList_push (x := b) HB.out (by first | rfl | simp) (by omega) rfl _ _ rfl rfl rfl ?_)
 clear HB; intro A3 c3 V3 w11 HS
 replace HS := Lib.hid (by simpa only [List.append_assoc, List.cons_append, List.nil_append] using HS.out)
 replace HS := Lib.hid (HS.out.kids 7 x (flagN st + 2 * flagN d) (by unfold I64; cases d <;> cases st <;> decide) hx)
 replace HS := Lib.hid HS.out.f2
 replace HS := Lib.hid HS.out.f1
 obtain ⟨f0, f1, f2, f3, g0, g1, g2, g3⟩ := (HS.out.blk 1 rfl).all4
 go_wp2_with fail
 have hf := finO HS.out HR
 try simp only [List.length_append, List.length_cons, List.length_nil, Nat.zero_add] at hf
 exact bodyPost_ret (v := .agg _) (results_cell4 (fn := Tryz.f12) rfl hf.1 rfl) rfl hf.2
end Go.Proofs.YtgegfbopogcjpaaGreatDoor
namespace Go.Proofs.YtgegfbopogcjpaaGreatDoor
open Go.RowKit
set_option linter.unusedVariables false
set_option linter.unusedSimpArgs false
set_option maxRecDepth 100000
set_option maxHeartbeats 4000000
def FlRel (C : PC) (F : Nat) (nm : ByteArray) (R : Res Nd) (w : World) (bt gk : Nat) (wr : World) : Prop :=
 ∃ (l : List Nd) (A : Option Addr) (c : Nat) (V : Nat → Prop) (j : Nat), Hid (SP C w wr j [rw_ w.heap.size V l A c, bx bt 24 #[.int .i64 2, .string nm, .int .i64 0, .slice A l.length c], bx w.heap.size 24 #[.int .i64 0, .string ⟨#[]⟩, .int .i64 0, .slice none 0 0]]) ∧ Hid ((fieldsM C.L F gk l j).bind (fun l m => .ok (.mk 2 nm 0 l) m) = R) ∧ l.length + gk ≤ C.L.length + 1
theorem decl_struct (C : PC) (F : Nat) (w : World) (i : Nat) (h : PSt C w i) (hwet : declM C.L F i ≠ .dry) (HTY : POk C 29 (typM C.L F)) (HPA : POk C 31 (paramM C.L F)) (HBL : POk C 33 (blockF C.L F)) (h1 : tIs C.L ⟨#[115, 116, 114, 117, 99, 116]⟩ i = true) : Calls Tryz.prog 12 #[.pointer (some ⟨C.p, 0, none⟩)] w (NodeOut C w (declM C.L F i)) := by
 obtain ⟨R, HR⟩ : ∃ R, Hid (declM C.L F i = R) := ⟨_, rfl⟩
 rw [HR.out] at hwet ⊢
 have HW := Lib.hid hwet
 have hR := HR.out
 unfold declM at hR
 replace HR := Lib.hid hR
 have HS := Lib.hid (h.st.box 24 #[.int .i64 0, .string ⟨#[]⟩, .int .i64 0, .slice none 0 0])
 clear h hR hwet
 go_enter Tryz.func12, Tryz.ntmps12
 go_wp2_with fail
 generalize w.alloc (.cells #[.int .i64 0, .string ⟨#[]⟩, .int .i64 0, .slice none 0 0] 24) = w0 at *
 refine (haveY HS.out h1).mono ?_
 clear HS; rintro e w1 ⟨rfl, HS⟩
 replace HR := ifY HR.out h1
 go_wp2_with fail
 refine (nameq HS.out).mono ?_
 clear HS; rintro e w2 (⟨hr, rfl, m⟩ | ⟨nm, hr, hnm, rfl, HS⟩)
 ·go_wp2; exact ⟨rfl, badO (bindB HR.out hr) m⟩
 replace HR := bindO HR.out hr
 clear hr
 go_wp2_with fail
 refine (nodeq HS.out 2 nm none 0 0).mono ?_
 clear HS; rintro e w3 ⟨rfl, HS⟩
 go_wp2_with fail
 replace HS := Lib.hid (HS.out.box 24 #[.int .i64 2, .string nm, .int .i64 0, .slice none 0 0])
 generalize w3.alloc (.cells #[.int .i64 2, .string nm, .int .i64 0, .slice none 0 0] 24) = w4 at *
 generalize w3.heap.size = bt at *
 refine (needq HS.out ⟨#[123]⟩).mono ?_
 clear HS; rintro e w5 (⟨hr, rfl, m⟩ | ⟨hr, rfl, HS⟩)
 ·go_wp2; exact ⟨rfl, badO (bindB HR.out hr) m⟩
 replace HR := bindO HR.out hr
 clear hr
 go_wp2_with fail
 have hlen := HS.out.z.len
 go_loopg [] (C.L.length + 1) (fun gk wr => FlRel C F nm R w bt gk wr)
 case atStart => exact ⟨[], none, 0, _, (((i + 1) + 1) + 1), HS.out.row0, HR, by simp⟩
 case round =>
  obtain ⟨l, Al, cl, Vl, j, HS, HR, hc⟩ := hrel
  cases gk with
  | zero => exact absurd (show Res.dry = R from HR.out) (fun e => HW.out e.symm)
  | succ g =>
  have hR := HR.out
  rw [fieldsM] at hR
  replace HR := Lib.hid hR
  clear hR
  obtain ⟨w100, rfl⟩ : ∃ x, x = wr := ⟨_, rfl⟩
  have b3 := HS.out.f1.one.cell 3 (.slice Al l.length cl) rfl
  by_cases hl : l = []
  ·have hd : ((l.length : Int) == 0) = true := by simp [hl]
   have hR := HR.out
   rw [if_neg (fun h => h.1 hl)] at hR
   simp only [Res.assoc_] at hR
   replace HR := Lib.hid hR
   clear hR hl
   go_wp2_with fail
   clear hd b3
   refine (subq HTY HS.out (bindW HR.out HW.out)).mono ?_
   clear HS; rintro e w101 (⟨k, hr, rfl, m⟩ | ⟨t, j2, At, ct, Vt, hr, rfl, HS⟩)
   ·go_wp2; exact ⟨rfl, badO (bindB HR.out hr) m⟩
   replace HR := bindO HR.out hr
   clear hr
   go_wp2_with fail
   replace HS := Lib.hid (HS.out.box 24 #[.int .i64 t.k, .string t.t, .int .i64 t.num, .slice At t.kids.length ct])
   generalize w101.alloc (.cells #[.int .i64 t.k, .string t.t, .int .i64 t.num, .slice At t.kids.length ct] 24) = w102 at *
   generalize w101.heap.size = b4 at *
   replace HS := Lib.hid (HS.out.below (Below.refl _ _).drew)
   refine wp_region_held_drew (S := fun _ => True) (by kernel_rfl) trivial (fun _ => ?_)
   generalize w102.drew = w103 at *
   (refine wpAnyH_take (i := 0) (v := ?_) rfl (by kernel_rfl) (by kernel_rfl) (by kernel_rfl) (fun _ _ _ h => h) (Or.inl ⟨by rfl, ?_⟩) (by assumption) ?_; rotate_left; · ((intro w hSw; (try dsimp only at hSw); go_simp) <;> with_reducible rfl); (try simp only [List.getElem_toArray, List.getElem_cons_succ, List.getElem_cons_zero, Act.put, List.setIfInBounds_toArray, List.set_cons_zero, List.set_cons_succ])); (refine wpAnyH_take (i := 2) (v := ?_) rfl (by kernel_rfl) (by kernel_rfl) (by kernel_rfl) (fun _ _ _ h => h) (Or.inl ⟨by rfl, ?_⟩) (by assumption) ?_; rotate_left; · ((intro w hSw; (try dsimp only at hSw); go_simp) <;> with_reducible rfl); (try simp only [List.getElem_toArray, List.getElem_cons_succ, List.getElem_cons_zero, Act.put, List.setIfInBounds_toArray, List.set_cons_zero, List.set_cons_succ]))
   replace HS := Lib.hid HS.out.f4
   replace HS := Lib.hid HS.out.f1
   replace HS := Lib.hid HS.out.f4
   replace HS := Lib.hid HS.out.f3
   replace HS := Lib.hid HS.out.f4
   refine wpAnyH_grp [⟨1, some 37, []⟩, ⟨3, some 39, []⟩, ⟨4, some 40, []⟩, ⟨5, some 41, [4]⟩, ⟨6, some 42, [3, 4, 5]⟩, ⟨7, some 43, [3, 4, 5, 6]⟩] 3 (fun vs W => ∃ x y y2, Hid (SP C w W (posq (vs 3) j2) (ifq (vs 5) (bx y 24 #[.int .i64 t.k, .string t.t, .int .i64 t.num, .slice At t.kids.length ct]) ++ (ifq (vs 7) (bx y2 24 #[.int .i64 3, .string x, .int .i64 0, .slice (some ⟨y, 0, none⟩) 1 1]) ++ [rw_ w.heap.size Vl l Al cl, nd Vt t At ct, bx bt 24 #[.int .i64 2, .string nm, .int .i64 0, .slice Al l.length cl], bx b4 24 #[.int .i64 t.k, .string t.t, .int .i64 t.num, .slice At t.kids.length ct], bx w.heap.size 24 #[.int .i64 0, .string ⟨#[]⟩, .int .i64 0, .slice none 0 0]]))) ∧ OV (vs 1) (.slice Al l.length cl) ∧ OP (vs 3) (fun q_ => q_ = .string x ∧ nameM C.L j2 = .ok x (j2 + 1) ∧ x.size ≤ maxLen) ∧ OV (vs 4) (.agg #[.int .i64 t.k, .string t.t, .int .i64 t.num, .slice At t.kids.length ct]) ∧ OV (vs 5) (.slice (some ⟨y, 0, none⟩) 1 1) ∧ OV (vs 6) (.agg #[.int .i64 3, .string x, .int .i64 0, .slice (some ⟨y, 0, none⟩) 1 1]) ∧ OV (vs 7) (.slice (some ⟨y2, 0, none⟩) 1 1)) (by rfl) (by kernel_rfl) ⟨⟨#[]⟩, 0, 0, HS, OP.no _ rfl, OP.no _ rfl, OP.no _ rfl, OP.no _ rfl, OP.no _ rfl, OP.no _ rfl⟩ (fun _ _ _ => trivial) ⟨?_, ?_, ?_, ?_, ?_, ?_, trivial⟩ ?_
   ·clear HS; refine ⟨_, rfl, fun vs W h1 hd hn ⟨x, y, y2, HS, e1, e3, e4, e5, e6, e7⟩ => ?_⟩
    obtain ⟨-, -, -, -, b0, b1, b2, b3⟩ := Blk.all4 (HS.out.ok (bx bt 24 #[.int .i64 2, .string nm, .int .i64 0, .slice Al l.length cl]) (by simp))
    simp only [actG, old, Option.getD_some]; (try simp only [List.getElem_toArray, List.getElem_cons_succ, List.getElem_cons_zero, Act.put, List.setIfInBounds_toArray, List.set_cons_zero, List.set_cons_succ]); intro K hK
    go_simp
    clear b0 b1 b2 b3
    exact hK.out _ _ ⟨x, y, y2, HS, OP.is rfl, e3, e4, e5, e6, e7⟩
   ·clear HS; refine ⟨_, rfl, fun vs W h3 hd hn ⟨x, y, y2, HS, e1, e3, e4, e5, e6, e7⟩ => ?_⟩
    rw [h3, show vs 7 = none from hn.2.2.2.2.2.1] at HS
    simp only [actG, old, Option.getD_some]; (try simp only [List.getElem_toArray, List.getElem_cons_succ, List.getElem_cons_zero, Act.put, List.setIfInBounds_toArray, List.set_cons_zero, List.set_cons_succ]); intro K hK
    go_simp
    refine (nameq (i := j2) HS.out).mono ?_
    clear HS; rintro e W (⟨hr, rfl, m⟩ | ⟨x, hr, hs, rfl, HS⟩)
    ·go_wp2; exact ⟨rfl, badO (bindB HR.out hr) m⟩
    exact hK.out _ _ ⟨x, y, y2, (by rw [show upd vs 3 _ 7 = none from hn.2.2.2.2.2.1]; exact HS), e1, OP.is ⟨rfl, hr, hs⟩, e4, e5, OP.no _ hn.2.2.2.2.1, OP.no _ hn.2.2.2.2.2.1⟩
   ·clear HS; refine ⟨_, rfl, fun vs W h4 hd hn ⟨x, y, y2, HS, e1, e3, e4, e5, e6, e7⟩ => ?_⟩
    obtain ⟨-, -, -, -, b0, b1, b2, b3⟩ := Blk.all4 (HS.out.ok (bx b4 24 #[.int .i64 t.k, .string t.t, .int .i64 t.num, .slice At t.kids.length ct]) (by simp))
    simp only [actG, old, Option.getD_some]; (try simp only [List.getElem_toArray, List.getElem_cons_succ, List.getElem_cons_zero, Act.put, List.setIfInBounds_toArray, List.set_cons_zero, List.set_cons_succ]); intro K hK
    go_simp
    clear b0 b1 b2 b3
    exact hK.out _ _ ⟨x, y, y2, HS, e1, e3, OP.is rfl, OP.no _ hn.2.2.2.1, OP.no _ hn.2.2.2.2.1, OP.no _ hn.2.2.2.2.2.1⟩
   ·clear HS; refine ⟨_, rfl, fun vs W h5 hd hn ⟨x, y, y2, HS, e1, e3, e4, e5, e6, e7⟩ => ?_⟩
    obtain ⟨⟨v4, h4⟩, -⟩ := hd
    obtain rfl := e4 _ h4
    rw [h5, show vs 7 = none from hn.2.2.2.2.2.1] at HS
    simp only [actG, old, h4, Option.getD_some]; (try simp only [List.getElem_toArray, List.getElem_cons_succ, List.getElem_cons_zero, Act.put, List.setIfInBounds_toArray, List.set_cons_zero, List.set_cons_succ]); intro K hK
    go_simp
    exact hK.out _ _ ⟨x, W.heap.size, y2, (by rw [show upd vs 5 _ 7 = none from hn.2.2.2.2.2.1]; exact HS.out.box 24 #[.int .i64 t.k, .string t.t, .int .i64 t.num, .slice At t.kids.length ct]), e1, e3, e4, OP.is rfl, OP.no _ hn.2.2.2.2.1, OP.no _ hn.2.2.2.2.2.1⟩
   ·clear HS; refine ⟨_, rfl, fun vs W h6 hd hn ⟨x, y, y2, HS, e1, e3, e4, e5, e6, e7⟩ => ?_⟩
    obtain ⟨⟨v3, h3⟩, ⟨v4, h4⟩, ⟨v5, h5⟩, -⟩ := hd
    obtain ⟨rfl, -, -⟩ := e3 _ h3
    obtain rfl := e4 _ h4
    obtain rfl := e5 _ h5
    simp only [actG, old, h3, h4, h5, Option.getD_some]; (try simp only [List.getElem_toArray, List.getElem_cons_succ, List.getElem_cons_zero, Act.put, List.setIfInBounds_toArray, List.set_cons_zero, List.set_cons_succ]); intro K hK
    go_simp
    refine (nodeq HS.out _ _ _ _ _).mono ?_
    clear HS; rintro e W ⟨rfl, HS⟩
    exact hK.out _ _ ⟨x, y, y2, HS, e1, e3, e4, e5, OP.is rfl, OP.no _ hn.2.2.2.2.2.1⟩
   ·clear HS; refine ⟨_, rfl, fun vs W h7 hd hn ⟨x, y, y2, HS, e1, e3, e4, e5, e6, e7⟩ => ?_⟩
    obtain ⟨⟨v3, h3⟩, ⟨v4, h4⟩, ⟨v5, h5⟩, ⟨v6, h6⟩, -⟩ := hd
    obtain ⟨rfl, -, -⟩ := e3 _ h3
    obtain rfl := e4 _ h4
    obtain rfl := e5 _ h5
    obtain rfl := e6 _ h6
    rw [h7] at HS
    simp only [actG, old, h3, h4, h5, h6, Option.getD_some]; (try simp only [List.getElem_toArray, List.getElem_cons_succ, List.getElem_cons_zero, Act.put, List.setIfInBounds_toArray, List.set_cons_zero, List.set_cons_succ]); intro K hK
    go_simp
    exact hK.out _ _ ⟨x, y, W.heap.size, ((HS.out.box 24 #[.int .i64 3, .string x, .int .i64 0, .slice (some ⟨y, 0, none⟩) 1 1]).perm List.perm_middle.symm), e1, e3, e4, e5, e6, OP.is rfl⟩
   clear HS; intro vs W ⟨x, y, y2, HS, e1, e3, e4, e5, e6, e7⟩ hall
   obtain ⟨⟨v1, h1⟩, ⟨v3, h3⟩, ⟨v4, h4⟩, ⟨v5, h5⟩, ⟨v6, h6⟩, ⟨v7, h7⟩, -⟩ := hall
   obtain rfl := e1 _ h1
   obtain ⟨rfl, hr, hx⟩ := e3 _ h3
   obtain rfl := e4 _ h4
   obtain rfl := e5 _ h5
   obtain rfl := e6 _ h6
   obtain rfl := e7 _ h7
   rw [h3, h5, h7] at HS
   simp only [posq, ifq, List.cons_append, List.nil_append] at HS
   simp only [actG, lisG, old, h1, h3, h4, h5, h6, h7, Option.getD_some, Option.isSome_some, if_true, List.length_cons, List.length_nil]; (try simp only [List.getElem_toArray, List.getElem_cons_succ, List.getElem_cons_zero, Act.put, List.setIfInBounds_toArray, List.set_cons_zero, List.set_cons_succ])
   clear h1 e1 h3 e3 h4 e4 h5 e5 h6 e6 h7 e7 vs
   obtain ⟨w104, rfl⟩ : ∃ x, x = W := ⟨_, rfl⟩
   replace HR := bindO HR.out hr
   clear hr
   replace HS := Lib.hid HS.out.f3
   replace HS := Lib.hid HS.out.f1
   replace HS := Lib.hid (HS.out.kid1 3 x 0 i64_0 hx)
   replace HS := Lib.hid HS.out.f1
   replace HS := Lib.hid HS.out.f1
   replace HS := Lib.hid HS.out.f2
   refine wpAnyH_ready (rs := [8]) (by kernel_rfl) (by simp) (AllReadyH.cons rfl (fun K hK => ?_) AllReadyH.nil)
   rw [if_pos (by rfl)]
   refine oper_push HS.out rfl (by omega) _ _ rfl rfl rfl ?_
   clear HS; intro A2 c2 V2 w105 HS
   refine hK.out _ _ trivial (fun _ => ?_)
   clear hK K
   (try simp only [List.getElem_toArray, List.getElem_cons_succ, List.getElem_cons_zero, Act.put, List.setIfInBounds_toArray, List.set_cons_zero, List.set_cons_succ])
   (refine wpAnyH_take (i := 9) (v := ?_) rfl (by kernel_rfl) (by kernel_rfl) (by kernel_rfl) (fun _ _ _ h => h) (Or.inl ⟨by rfl, ?_⟩) (by assumption) ?_; rotate_left; · ((intro w hSw; (try dsimp only at hSw); go_simp) <;> with_reducible rfl); (try simp only [List.getElem_toArray, List.getElem_cons_succ, List.getElem_cons_zero, Act.put, List.setIfInBounds_toArray, List.set_cons_zero, List.set_cons_succ]))
   refine wpAnyH_ready (rs := [10]) (by kernel_rfl) (by simp) (AllReadyH.cons rfl (fun K hK => ?_) AllReadyH.nil)
   replace HS := Lib.hid HS.out.f1
   have f3 := HS.out.one.free 3
   have g3 := HS.out.one.cell 3 _ rfl
   skip
   go_simp
   clear f3 g3
   replace HS := Lib.hid (HS.out.put1 3 (.slice A2 (l.length + 1) c2))
   generalize w105.setCell ⟨bt, 3, none⟩ (.slice A2 (l.length + 1) c2) = w106 at *
   refine hK.out _ _ trivial (fun _ => ?_)
   clear hK K
   (try simp only [List.getElem_toArray, List.getElem_cons_succ, List.getElem_cons_zero, Act.put, List.setIfInBounds_toArray, List.set_cons_zero, List.set_cons_succ])
   refine wpAnyH_done (by kernel_rfl) ?_ _
   go_wp2_with fail
   refine (needq HS.out ⟨#[59]⟩).mono ?_
   clear HS; rintro e w107 (⟨hr, rfl, m⟩ | ⟨hr, rfl, HS⟩)
   ·go_wp2; exact ⟨rfl, badO (bindB HR.out hr) m⟩
   replace HR := bindO HR.out hr
   clear hr
   replace HS := Lib.hid HS.out.f3
   replace HS := Lib.hid HS.out.f1
   replace HS := Lib.hid HS.out.f2
   replace HS := Lib.hid HS.out.k3
   go_wp2_with fail
   go_roundg g
   case measure => omega
   case rel => exact ⟨_, A2, c2, V2, _, (by have h := HS.out; rw [show l.length + 1 = (l ++ [Nd.mk 3 x 0 [t]]).length by simp] at h; exact h), HR, by simp; omega⟩
  have hd : ((l.length : Int) == 0) = false := by simpa using hl
  go_wp2_with fail
  clear hd
  rcases ht : tIs C.L ⟨#[125]⟩ j with _ | _
  ·refine (isq HS.out ht).mono ?_
   clear HS; rintro e w101 ⟨rfl, HS⟩
   have hR := HR.out
   rw [if_neg (fun h => by rw [ht] at h; cases h.2)] at hR
   simp only [Res.assoc_] at hR
   replace HR := Lib.hid hR
   clear hR ht b3 hl
   go_wp2_with fail
   refine (subq HTY HS.out (bindW HR.out HW.out)).mono ?_
   clear HS; rintro e w102 (⟨k, hr, rfl, m⟩ | ⟨t, j2, At, ct, Vt, hr, rfl, HS⟩)
   ·go_wp2; exact ⟨rfl, badO (bindB HR.out hr) m⟩
   replace HR := bindO HR.out hr
   clear hr
   go_wp2_with fail
   replace HS := Lib.hid (HS.out.box 24 #[.int .i64 t.k, .string t.t, .int .i64 t.num, .slice At t.kids.length ct])
   generalize w102.alloc (.cells #[.int .i64 t.k, .string t.t, .int .i64 t.num, .slice At t.kids.length ct] 24) = w103 at *
   generalize w102.heap.size = b4 at *
   replace HS := Lib.hid (HS.out.below (Below.refl _ _).drew)
   refine wp_region_held_drew (S := fun _ => True) (by kernel_rfl) trivial (fun _ => ?_)
   generalize w103.drew = w104 at *
   (refine wpAnyH_take (i := 0) (v := ?_) rfl (by kernel_rfl) (by kernel_rfl) (by kernel_rfl) (fun _ _ _ h => h) (Or.inl ⟨by rfl, ?_⟩) (by assumption) ?_; rotate_left; · ((intro w hSw; (try dsimp only at hSw); go_simp) <;> with_reducible rfl); (try simp only [List.getElem_toArray, List.getElem_cons_succ, List.getElem_cons_zero, Act.put, List.setIfInBounds_toArray, List.set_cons_zero, List.set_cons_succ])); (refine wpAnyH_take (i := 2) (v := ?_) rfl (by kernel_rfl) (by kernel_rfl) (by kernel_rfl) (fun _ _ _ h => h) (Or.inl ⟨by rfl, ?_⟩) (by assumption) ?_; rotate_left; · ((intro w hSw; (try dsimp only at hSw); go_simp) <;> with_reducible rfl); (try simp only [List.getElem_toArray, List.getElem_cons_succ, List.getElem_cons_zero, Act.put, List.setIfInBounds_toArray, List.set_cons_zero, List.set_cons_succ]))
   replace HS := Lib.hid HS.out.f4
   replace HS := Lib.hid HS.out.f1
   replace HS := Lib.hid HS.out.f4
   replace HS := Lib.hid HS.out.f3
   replace HS := Lib.hid HS.out.f4
   refine wpAnyH_grp [⟨1, some 37, []⟩, ⟨3, some 39, []⟩, ⟨4, some 40, []⟩, ⟨5, some 41, [4]⟩, ⟨6, some 42, [3, 4, 5]⟩, ⟨7, some 43, [3, 4, 5, 6]⟩] 3 (fun vs W => ∃ x y y2, Hid (SP C w W (posq (vs 3) j2) (ifq (vs 5) (bx y 24 #[.int .i64 t.k, .string t.t, .int .i64 t.num, .slice At t.kids.length ct]) ++ (ifq (vs 7) (bx y2 24 #[.int .i64 3, .string x, .int .i64 0, .slice (some ⟨y, 0, none⟩) 1 1]) ++ [rw_ w.heap.size Vl l Al cl, nd Vt t At ct, bx bt 24 #[.int .i64 2, .string nm, .int .i64 0, .slice Al l.length cl], bx b4 24 #[.int .i64 t.k, .string t.t, .int .i64 t.num, .slice At t.kids.length ct], bx w.heap.size 24 #[.int .i64 0, .string ⟨#[]⟩, .int .i64 0, .slice none 0 0]]))) ∧ OV (vs 1) (.slice Al l.length cl) ∧ OP (vs 3) (fun q_ => q_ = .string x ∧ nameM C.L j2 = .ok x (j2 + 1) ∧ x.size ≤ maxLen) ∧ OV (vs 4) (.agg #[.int .i64 t.k, .string t.t, .int .i64 t.num, .slice At t.kids.length ct]) ∧ OV (vs 5) (.slice (some ⟨y, 0, none⟩) 1 1) ∧ OV (vs 6) (.agg #[.int .i64 3, .string x, .int .i64 0, .slice (some ⟨y, 0, none⟩) 1 1]) ∧ OV (vs 7) (.slice (some ⟨y2, 0, none⟩) 1 1)) (by rfl) (by kernel_rfl) ⟨⟨#[]⟩, 0, 0, HS, OP.no _ rfl, OP.no _ rfl, OP.no _ rfl, OP.no _ rfl, OP.no _ rfl, OP.no _ rfl⟩ (fun _ _ _ => trivial) ⟨?_, ?_, ?_, ?_, ?_, ?_, trivial⟩ ?_
   ·clear HS; refine ⟨_, rfl, fun vs W h1 hd hn ⟨x, y, y2, HS, e1, e3, e4, e5, e6, e7⟩ => ?_⟩
    obtain ⟨-, -, -, -, b0, b1, b2, b3⟩ := Blk.all4 (HS.out.ok (bx bt 24 #[.int .i64 2, .string nm, .int .i64 0, .slice Al l.length cl]) (by simp))
    simp only [actG, old, Option.getD_some]; (try simp only [List.getElem_toArray, List.getElem_cons_succ, List.getElem_cons_zero, Act.put, List.setIfInBounds_toArray, List.set_cons_zero, List.set_cons_succ]); intro K hK
    go_simp
    clear b0 b1 b2 b3
    exact hK.out _ _ ⟨x, y, y2, HS, OP.is rfl, e3, e4, e5, e6, e7⟩
   ·clear HS; refine ⟨_, rfl, fun vs W h3 hd hn ⟨x, y, y2, HS, e1, e3, e4, e5, e6, e7⟩ => ?_⟩
    rw [h3, show vs 7 = none from hn.2.2.2.2.2.1] at HS
    simp only [actG, old, Option.getD_some]; (try simp only [List.getElem_toArray, List.getElem_cons_succ, List.getElem_cons_zero, Act.put, List.setIfInBounds_toArray, List.set_cons_zero, List.set_cons_succ]); intro K hK
    go_simp
    refine (nameq (i := j2) HS.out).mono ?_
    clear HS; rintro e W (⟨hr, rfl, m⟩ | ⟨x, hr, hs, rfl, HS⟩)
    ·go_wp2; exact ⟨rfl, badO (bindB HR.out hr) m⟩
    exact hK.out _ _ ⟨x, y, y2, (by rw [show upd vs 3 _ 7 = none from hn.2.2.2.2.2.1]; exact HS), e1, OP.is ⟨rfl, hr, hs⟩, e4, e5, OP.no _ hn.2.2.2.2.1, OP.no _ hn.2.2.2.2.2.1⟩
   ·clear HS; refine ⟨_, rfl, fun vs W h4 hd hn ⟨x, y, y2, HS, e1, e3, e4, e5, e6, e7⟩ => ?_⟩
    obtain ⟨-, -, -, -, b0, b1, b2, b3⟩ := Blk.all4 (HS.out.ok (bx b4 24 #[.int .i64 t.k, .string t.t, .int .i64 t.num, .slice At t.kids.length ct]) (by simp))
    simp only [actG, old, Option.getD_some]; (try simp only [List.getElem_toArray, List.getElem_cons_succ, List.getElem_cons_zero, Act.put, List.setIfInBounds_toArray, List.set_cons_zero, List.set_cons_succ]); intro K hK
    go_simp
    clear b0 b1 b2 b3
    exact hK.out _ _ ⟨x, y, y2, HS, e1, e3, OP.is rfl, OP.no _ hn.2.2.2.1, OP.no _ hn.2.2.2.2.1, OP.no _ hn.2.2.2.2.2.1⟩
   ·clear HS; refine ⟨_, rfl, fun vs W h5 hd hn ⟨x, y, y2, HS, e1, e3, e4, e5, e6, e7⟩ => ?_⟩
    obtain ⟨⟨v4, h4⟩, -⟩ := hd
    obtain rfl := e4 _ h4
    rw [h5, show vs 7 = none from hn.2.2.2.2.2.1] at HS
    simp only [actG, old, h4, Option.getD_some]; (try simp only [List.getElem_toArray, List.getElem_cons_succ, List.getElem_cons_zero, Act.put, List.setIfInBounds_toArray, List.set_cons_zero, List.set_cons_succ]); intro K hK
    go_simp
    exact hK.out _ _ ⟨x, W.heap.size, y2, (by rw [show upd vs 5 _ 7 = none from hn.2.2.2.2.2.1]; exact HS.out.box 24 #[.int .i64 t.k, .string t.t, .int .i64 t.num, .slice At t.kids.length ct]), e1, e3, e4, OP.is rfl, OP.no _ hn.2.2.2.2.1, OP.no _ hn.2.2.2.2.2.1⟩
   ·clear HS; refine ⟨_, rfl, fun vs W h6 hd hn ⟨x, y, y2, HS, e1, e3, e4, e5, e6, e7⟩ => ?_⟩
    obtain ⟨⟨v3, h3⟩, ⟨v4, h4⟩, ⟨v5, h5⟩, -⟩ := hd
    obtain ⟨rfl, -, -⟩ := e3 _ h3
    obtain rfl := e4 _ h4
    obtain rfl := e5 _ h5
    simp only [actG, old, h3, h4, h5, Option.getD_some]; (try simp only [List.getElem_toArray, List.getElem_cons_succ, List.getElem_cons_zero, Act.put, List.setIfInBounds_toArray, List.set_cons_zero, List.set_cons_succ]); intro K hK
    go_simp
    refine (nodeq HS.out _ _ _ _ _).mono ?_
    clear HS; rintro e W ⟨rfl, HS⟩
    exact hK.out _ _ ⟨x, y, y2, HS, e1, e3, e4, e5, OP.is rfl, OP.no _ hn.2.2.2.2.2.1⟩
   ·clear HS; refine ⟨_, rfl, fun vs W h7 hd hn ⟨x, y, y2, HS, e1, e3, e4, e5, e6, e7⟩ => ?_⟩
    obtain ⟨⟨v3, h3⟩, ⟨v4, h4⟩, ⟨v5, h5⟩, ⟨v6, h6⟩, -⟩ := hd
    obtain ⟨rfl, -, -⟩ := e3 _ h3
    obtain rfl := e4 _ h4
    obtain rfl := e5 _ h5
    obtain rfl := e6 _ h6
    rw [h7] at HS
    simp only [actG, old, h3, h4, h5, h6, Option.getD_some]; (try simp only [List.getElem_toArray, List.getElem_cons_succ, List.getElem_cons_zero, Act.put, List.setIfInBounds_toArray, List.set_cons_zero, List.set_cons_succ]); intro K hK
    go_simp
    exact hK.out _ _ ⟨x, y, W.heap.size, ((HS.out.box 24 #[.int .i64 3, .string x, .int .i64 0, .slice (some ⟨y, 0, none⟩) 1 1]).perm List.perm_middle.symm), e1, e3, e4, e5, e6, OP.is rfl⟩
   clear HS; intro vs W ⟨x, y, y2, HS, e1, e3, e4, e5, e6, e7⟩ hall
   obtain ⟨⟨v1, h1⟩, ⟨v3, h3⟩, ⟨v4, h4⟩, ⟨v5, h5⟩, ⟨v6, h6⟩, ⟨v7, h7⟩, -⟩ := hall
   obtain rfl := e1 _ h1
   obtain ⟨rfl, hr, hx⟩ := e3 _ h3
   obtain rfl := e4 _ h4
   obtain rfl := e5 _ h5
   obtain rfl := e6 _ h6
   obtain rfl := e7 _ h7
   rw [h3, h5, h7] at HS
   simp only [posq, ifq, List.cons_append, List.nil_append] at HS
   simp only [actG, lisG, old, h1, h3, h4, h5, h6, h7, Option.getD_some, Option.isSome_some, if_true, List.length_cons, List.length_nil]; (try simp only [List.getElem_toArray, List.getElem_cons_succ, List.getElem_cons_zero, Act.put, List.setIfInBounds_toArray, List.set_cons_zero, List.set_cons_succ])
   clear h1 e1 h3 e3 h4 e4 h5 e5 h6 e6 h7 e7 vs
   obtain ⟨w105, rfl⟩ : ∃ x, x = W := ⟨_, rfl⟩
   replace HR := bindO HR.out hr
   clear hr
   replace HS := Lib.hid HS.out.f3
   replace HS := Lib.hid HS.out.f1
   replace HS := Lib.hid (HS.out.kid1 3 x 0 i64_0 hx)
   replace HS := Lib.hid HS.out.f1
   replace HS := Lib.hid HS.out.f1
   replace HS := Lib.hid HS.out.f2
   refine wpAnyH_ready (rs := [8]) (by kernel_rfl) (by simp) (AllReadyH.cons rfl (fun K hK => ?_) AllReadyH.nil)
   rw [if_pos (by rfl)]
   refine oper_push HS.out rfl (by omega) _ _ rfl rfl rfl ?_
   clear HS; intro A2 c2 V2 w106 HS
   refine hK.out _ _ trivial (fun _ => ?_)
   clear hK K
   (try simp only [List.getElem_toArray, List.getElem_cons_succ, List.getElem_cons_zero, Act.put, List.setIfInBounds_toArray, List.set_cons_zero, List.set_cons_succ])
   (refine wpAnyH_take (i := 9) (v := ?_) rfl (by kernel_rfl) (by kernel_rfl) (by kernel_rfl) (fun _ _ _ h => h) (Or.inl ⟨by rfl, ?_⟩) (by assumption) ?_; rotate_left; · ((intro w hSw; (try dsimp only at hSw); go_simp) <;> with_reducible rfl); (try simp only [List.getElem_toArray, List.getElem_cons_succ, List.getElem_cons_zero, Act.put, List.setIfInBounds_toArray, List.set_cons_zero, List.set_cons_succ]))
   refine wpAnyH_ready (rs := [10]) (by kernel_rfl) (by simp) (AllReadyH.cons rfl (fun K hK => ?_) AllReadyH.nil)
   replace HS := Lib.hid HS.out.f1
   have f3 := HS.out.one.free 3
   have g3 := HS.out.one.cell 3 _ rfl
   skip
   go_simp
   clear f3 g3
   replace HS := Lib.hid (HS.out.put1 3 (.slice A2 (l.length + 1) c2))
   generalize w106.setCell ⟨bt, 3, none⟩ (.slice A2 (l.length + 1) c2) = w107 at *
   refine hK.out _ _ trivial (fun _ => ?_)
   clear hK K
   (try simp only [List.getElem_toArray, List.getElem_cons_succ, List.getElem_cons_zero, Act.put, List.setIfInBounds_toArray, List.set_cons_zero, List.set_cons_succ])
   refine wpAnyH_done (by kernel_rfl) ?_ _
   go_wp2_with fail
   refine (needq HS.out ⟨#[59]⟩).mono ?_
   clear HS; rintro e w108 (⟨hr, rfl, m⟩ | ⟨hr, rfl, HS⟩)
   ·go_wp2; exact ⟨rfl, badO (bindB HR.out hr) m⟩
   replace HR := bindO HR.out hr
   clear hr
   replace HS := Lib.hid HS.out.f3
   replace HS := Lib.hid HS.out.f1
   replace HS := Lib.hid HS.out.f2
   replace HS := Lib.hid HS.out.k3
   go_wp2_with fail
   go_roundg g
   case measure => omega
   case rel => exact ⟨_, A2, c2, V2, _, (by have h := HS.out; rw [show l.length + 1 = (l ++ [Nd.mk 3 x 0 [t]]).length by simp] at h; exact h), HR, by simp; omega⟩
  refine (isq HS.out ht).mono ?_
  clear HS; rintro e w101 ⟨rfl, HS⟩
  have hR := HR.out
  rw [if_pos ⟨hl, ht⟩] at hR
  replace HR := Lib.hid hR
  clear hR b3
  go_wp2_with fail
  refine (needq HS.out ⟨#[125]⟩).mono ?_
  unfold needM; rw [ht]
  clear HS; rintro e w102 (⟨hr, -⟩ | ⟨-, rfl, HS⟩)
  ·cases hr
  replace HS := Lib.hid (HS.out.kids 2 nm 0 i64_0 hnm)
  replace HS := Lib.hid HS.out.f2
  replace HS := Lib.hid HS.out.f1
  obtain ⟨-, -, -, -, b0, b1, b2, b3⟩ := (HS.out.blk 2 rfl).all4
  obtain ⟨f0, f1, f2, f3, g0, g1, g2, g3⟩ := (HS.out.blk 1 rfl).all4
  go_wp2_with fail
  have hf := finO HS.out HR
  try simp only [List.length_append, List.length_cons, List.length_nil, Nat.zero_add] at hf
  exact bodyPost_ret (v := .agg _) (results_cell4 (fn := Tryz.f12) rfl hf.1 rfl) rfl hf.2
end Go.Proofs.YtgegfbopogcjpaaGreatDoor
namespace Go.Proofs.YtgegfbopogcjpaaGreatDoor
open Go.RowKit
set_option linter.unusedVariables false
set_option linter.unusedSimpArgs false
set_option maxRecDepth 100000
set_option maxHeartbeats 1000000
theorem lit_beq (s : ByteArray) (l : List UInt8) : (s.toList == l) = decide (s = ⟨l.toArray⟩) := by
 rw [Bool.eq_iff_iff, beq_iff_eq, decide_eq_true_eq, ByteArray.toList_eq]
 constructor
 ·intro h; subst h; rfl
 ·intro h; subst h; rfl
theorem eq_of_beq {s : ByteArray} {l : List UInt8} (h : (s.toList == l) = true) : s = ⟨l.toArray⟩ := by rw [lit_beq] at h; simpa using h
theorem ne_of_beq {s : ByteArray} {l : List UInt8} (h : (s.toList == l) = false) : ¬ s = ⟨l.toArray⟩ := by rw [lit_beq] at h; simpa using h
theorem op_any (s : ByteArray) (w : World) : Calls Tryz.prog 117 #[.string s] w fun e w' => e = .returned (.int .i64 (opOf s)) ∧ w = w' := by
 obtain ⟨R, HR⟩ : ∃ R, Hid (opOf s = R) := ⟨_, rfl⟩
 rw [HR.out]
 have hR := HR.out
 unfold opOf at hR
 replace HR := Lib.hid hR
 clear hR
 go_enter Tryz.func117, Tryz.ntmps117
 rcases hk0 : (s.toList == [61, 61]) with _ | _
 ·have hR := HR.out
  rw [if_neg (ne_of_beq hk0)] at hR
  replace HR := Lib.hid hR
  clear hR
  rcases hk1 : (s.toList == [60]) with _ | _
  ·have hR := HR.out
   rw [if_neg (ne_of_beq hk1)] at hR
   replace HR := Lib.hid hR
   clear hR
   rcases hk2 : (s.toList == [43]) with _ | _
   ·have hR := HR.out
    rw [if_neg (ne_of_beq hk2)] at hR
    replace HR := Lib.hid hR
    clear hR
    rcases hk3 : (s.toList == [45]) with _ | _
    ·have hR := HR.out
     rw [if_neg (ne_of_beq hk3)] at hR
     replace HR := Lib.hid hR
     clear hR
     rcases hk4 : (s.toList == [124]) with _ | _
     ·have hR := HR.out
      rw [if_neg (ne_of_beq hk4)] at hR
      replace HR := Lib.hid hR
      clear hR
      rcases hk5 : (s.toList == [94]) with _ | _
      ·have hR := HR.out
       rw [if_neg (ne_of_beq hk5)] at hR
       replace HR := Lib.hid hR
       clear hR
       rcases hk6 : (s.toList == [42]) with _ | _
       ·have hR := HR.out
        rw [if_neg (ne_of_beq hk6)] at hR
        replace HR := Lib.hid hR
        clear hR
        rcases hk7 : (s.toList == [47]) with _ | _
        ·have hR := HR.out
         rw [if_neg (ne_of_beq hk7)] at hR
         replace HR := Lib.hid hR
         clear hR
         rcases hk8 : (s.toList == [37]) with _ | _
         ·have hR := HR.out
          rw [if_neg (ne_of_beq hk8)] at hR
          replace HR := Lib.hid hR
          clear hR
          go_wp2_with fail
          go_ret
          exact ⟨by rw [← HR.out]; rfl, rfl⟩
         ·have hR := HR.out
          rw [if_pos (eq_of_beq hk8)] at hR
          replace HR := Lib.hid hR
          clear hR
          go_wp2_with fail
          go_ret
          exact ⟨by rw [← HR.out]; rfl, rfl⟩
        ·have hR := HR.out
         rw [if_pos (eq_of_beq hk7)] at hR
         replace HR := Lib.hid hR
         clear hR
         go_wp2_with fail
         go_ret
         exact ⟨by rw [← HR.out]; rfl, rfl⟩
       ·have hR := HR.out
        rw [if_pos (eq_of_beq hk6)] at hR
        replace HR := Lib.hid hR
        clear hR
        go_wp2_with fail
        go_ret
        exact ⟨by rw [← HR.out]; rfl, rfl⟩
      ·have hR := HR.out
       rw [if_pos (eq_of_beq hk5)] at hR
       replace HR := Lib.hid hR
       clear hR
       go_wp2_with fail
       go_ret
       exact ⟨by rw [← HR.out]; rfl, rfl⟩
     ·have hR := HR.out
      rw [if_pos (eq_of_beq hk4)] at hR
      replace HR := Lib.hid hR
      clear hR
      go_wp2_with fail
      go_ret
      exact ⟨by rw [← HR.out]; rfl, rfl⟩
    ·have hR := HR.out
     rw [if_pos (eq_of_beq hk3)] at hR
     replace HR := Lib.hid hR
     clear hR
     go_wp2_with fail
     go_ret
     exact ⟨by rw [← HR.out]; rfl, rfl⟩
   ·have hR := HR.out
    rw [if_pos (eq_of_beq hk2)] at hR
    replace HR := Lib.hid hR
    clear hR
    go_wp2_with fail
    go_ret
    exact ⟨by rw [← HR.out]; rfl, rfl⟩
  ·have hR := HR.out
   rw [if_pos (eq_of_beq hk1)] at hR
   replace HR := Lib.hid hR
   clear hR
   go_wp2_with fail
   go_ret
   exact ⟨by rw [← HR.out]; rfl, rfl⟩
 ·have hR := HR.out
  rw [if_pos (eq_of_beq hk0)] at hR
  replace HR := Lib.hid hR
  clear hR
  go_wp2_with fail
  go_ret
  exact ⟨by rw [← HR.out]; rfl, rfl⟩
end Go.Proofs.YtgegfbopogcjpaaGreatDoor
namespace Go.Proofs.YtgegfbopogcjpaaGreatDoor
open Go.RowKit
set_option linter.unusedVariables false
set_option linter.unusedSimpArgs false
set_option maxRecDepth 100000
set_option maxHeartbeats 1000000
theorem i64_op (s : ByteArray) : I64 (opOf s) := by
 unfold opOf I64
 repeat' split
 all_goals omega
theorem tok_field1 (a b d : Value) (w : World) : Sem.run Tryz.prog (Instr.field 50 (.agg #[a, b, d]) 1) w = .ok b w := rfl
theorem tokV_text (C : PC) (j : Nat) : ∃ a, tokV C j = #[a, .string (tTx C.L j), .int .i64 (posAt C j)] := by
 unfold tokV posAt tTx
 rcases C.L[j]? with _ | t
 ·exact ⟨_, rfl⟩
 ·exact ⟨_, rfl⟩
theorem SL.mv {C : PC} {w w' : World} {i : Nat} {ts : List ByteArray} {A : Option Addr} (h : SL w ts A) (hs : PSt C w i) (hg : Mv C.p w w') : SL w' ts A := by
 intro j hj
 obtain ⟨b, o, e, hlt, hc⟩ := h j hj
 refine ⟨b, o, e, Nat.lt_of_lt_of_le hlt hg.size, (hg.cell_ hlt (fun e2 => ?_)).trans hc⟩
 subst e2
 have hb := hs.blk
 unfold Blk at hb
 simp only [World.cell?, hb] at hc
 rcases hoj : o + j with _ | _ | _ | k <;> rw [hoj] at hc <;> simp at hc
theorem tIn_lt {L : List Tok} {ss : List ByteArray} {i : Nat} (h : tIn L ss i = true) : i < L.length := by
 unfold tIn at h
 rw [List.any_eq_true] at h
 obtain ⟨s, -, hs⟩ := h
 exact tIs_lt hs
end Go.Proofs.YtgegfbopogcjpaaGreatDoor
