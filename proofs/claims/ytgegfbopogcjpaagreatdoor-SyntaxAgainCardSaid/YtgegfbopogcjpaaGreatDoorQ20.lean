/- The parser: what a post expression begins with; The parser: unary expressions, and so all. -/
import Derived.Test.YtgegfbopogcjpaaGreatDoorQ08
import Derived.Test.YtgegfbopogcjpaaGreatDoorQ17
import Derived.Test.YtgegfbopogcjpaaGreatDoorQ19
namespace Go.Proofs.YtgegfbopogcjpaaGreatDoor
open Go.RowKit
set_option linter.unusedVariables false
set_option linter.unusedSimpArgs false
set_option maxRecDepth 100000
set_option maxHeartbeats 4000000
def MkRel (C : PC) (u : Nat → Res Nd) (nm : ByteArray) (R : Res Nd) (w : World) (bt gk : Nat) (wr : World) : Prop :=
 ∃ (l : List Nd) (A : Option Addr) (c : Nat) (V : Nat → Prop) (j : Nat), Hid (SP C w wr j [rw_ w.heap.size V l A c, bx bt 24 #[.int .i64 27, .string nm, .int .i64 0, .slice A l.length c], bx w.heap.size 24 #[.int .i64 0, .string ⟨#[]⟩, .int .i64 0, .slice none 0 0]]) ∧ Hid ((madeM C.L u gk l j).bind (fun l j => .ok (.mk 27 nm 0 l) j) = R) ∧ l.length + gk ≤ C.L.length + 1
theorem fst_paren (C : PC) {u : Nat → Res Nd} (w : World) (i : Nat) (h : PSt C w i) (hwet : firstM C.L u i ≠ .dry) (HX : POk C 93 (exprM C.L u)) (HRD : POk C 91 (roundM C.L u))  (h1 : tIs C.L ⟨#[40]⟩ i = true)  : Calls Tryz.prog 164 #[.pointer (some ⟨C.p, 0, none⟩)] w (NodeOut C w (firstM C.L u i)) := by
 obtain ⟨R, HR⟩ : ∃ R, Hid (firstM C.L u i = R) := ⟨_, rfl⟩
 rw [HR.out] at hwet ⊢
 have HW := Lib.hid hwet
 have hR := HR.out
 unfold firstM at hR
 replace HR := Lib.hid hR
 have HS := Lib.hid (h.st.box 24 #[.int .i64 0, .string ⟨#[]⟩, .int .i64 0, .slice none 0 0])
 clear h hR hwet
 go_enter Tryz.func164, Tryz.ntmps164
 go_wp2_with fail
 have hz : (w.alloc (.cells #[.int .i64 0, .string ⟨#[]⟩, .int .i64 0, .slice none 0 0] 24)).heap.size = w.heap.size + 1 := by simp
 generalize w.alloc (.cells #[.int .i64 0, .string ⟨#[]⟩, .int .i64 0, .slice none 0 0] 24) = w0 at *
 rw [← hz]
 clear hz
 refine (isq HS.out h1).mono ?_
 clear HS; rintro e w1 ⟨rfl, HS⟩
 replace HR := ifY HR.out h1
 go_wp2_with fail
 refine (subq HRD HS.out (fun e => HW.out (HR.out.symm.trans e))).mono ?_
 clear HS; rintro e w2 (⟨k, hr, rfl, m⟩ | ⟨x, j, Ax, cx, Vx, hr, rfl, HS⟩)
 ·go_wp2; exact ⟨rfl, badO (hr.symm.trans HR.out) m⟩
 replace HR := Lib.hid (hr.symm.trans HR.out)
 clear hr
 replace HS := Lib.hid HS.out.f1
 replace HS := Lib.hid HS.out.f1
 obtain ⟨f0, f1, f2, f3, g0, g1, g2, g3⟩ := (HS.out.blk 1 rfl).all4
 go_wp2_with fail
 have hf := finX HS.out HR
 exact bodyPost_ret (v := .agg _) (results_cell4 (fn := Tryz.f164) rfl hf.1 rfl) rfl hf.2
theorem fst_addr (C : PC) {u : Nat → Res Nd} (w : World) (i : Nat) (h : PSt C w i) (hwet : firstM C.L u i ≠ .dry) (HX : POk C 93 (exprM C.L u)) (HRD : POk C 91 (roundM C.L u)) (h1 : tIs C.L ⟨#[40]⟩ i = false) (h2 : tIs C.L ⟨#[38]⟩ i = true)  : Calls Tryz.prog 164 #[.pointer (some ⟨C.p, 0, none⟩)] w (NodeOut C w (firstM C.L u i)) := by
 obtain ⟨R, HR⟩ : ∃ R, Hid (firstM C.L u i = R) := ⟨_, rfl⟩
 rw [HR.out] at hwet ⊢
 have HW := Lib.hid hwet
 have hR := HR.out
 unfold firstM at hR
 replace HR := Lib.hid hR
 have HS := Lib.hid (h.st.box 24 #[.int .i64 0, .string ⟨#[]⟩, .int .i64 0, .slice none 0 0])
 clear h hR hwet
 go_enter Tryz.func164, Tryz.ntmps164
 go_wp2_with fail
 have hz : (w.alloc (.cells #[.int .i64 0, .string ⟨#[]⟩, .int .i64 0, .slice none 0 0] 24)).heap.size = w.heap.size + 1 := by simp
 generalize w.alloc (.cells #[.int .i64 0, .string ⟨#[]⟩, .int .i64 0, .slice none 0 0] 24) = w0 at *
 rw [← hz]
 clear hz
 refine (isq HS.out h1).mono ?_
 clear HS; rintro e w1 ⟨rfl, HS⟩
 replace HR := ifN HR.out h1
 go_wp2_with fail
 refine (haveY HS.out h2).mono ?_
 clear HS; rintro e w2 ⟨rfl, HS⟩
 replace HR := ifY HR.out h2
 go_wp2_with fail
 refine (nameq HS.out).mono ?_
 clear HS; rintro e w3 (⟨hr, rfl, m⟩ | ⟨nm, hr, hnm, rfl, HS⟩)
 ·go_wp2; exact ⟨rfl, badO (bindB HR.out hr) m⟩
 replace HR := bindO HR.out hr
 clear hr
 go_wp2_with fail
 refine (nodeq HS.out 26 nm none 0 0).mono ?_
 clear HS; rintro e w4 ⟨rfl, HS⟩
 replace HS := Lib.hid (HS.out.leaf 26 nm 0 i64_0 hnm)
 replace HS := Lib.hid HS.out.f1
 replace HS := Lib.hid HS.out.f1
 obtain ⟨f0, f1, f2, f3, g0, g1, g2, g3⟩ := (HS.out.blk 1 rfl).all4
 go_wp2_with fail
 have hf := finO HS.out HR
 try simp only [List.length_append, List.length_cons, List.length_nil, Nat.zero_add] at hf
 exact bodyPost_ret (v := .agg _) (results_cell4 (fn := Tryz.f164) rfl hf.1 rfl) rfl hf.2
theorem fst_int (C : PC) {u : Nat → Res Nd} (w : World) (i : Nat) (h : PSt C w i) (hwet : firstM C.L u i ≠ .dry) (HX : POk C 93 (exprM C.L u)) (HRD : POk C 91 (roundM C.L u)) (h1 : tIs C.L ⟨#[40]⟩ i = false) (h2 : tIs C.L ⟨#[38]⟩ i = false) (h3 : tIs C.L ⟨#[105, 110, 116]⟩ i = true)  : Calls Tryz.prog 164 #[.pointer (some ⟨C.p, 0, none⟩)] w (NodeOut C w (firstM C.L u i)) := by
 obtain ⟨R, HR⟩ : ∃ R, Hid (firstM C.L u i = R) := ⟨_, rfl⟩
 rw [HR.out] at hwet ⊢
 have HW := Lib.hid hwet
 have hR := HR.out
 unfold firstM at hR
 replace HR := Lib.hid hR
 have HS := Lib.hid (h.st.box 24 #[.int .i64 0, .string ⟨#[]⟩, .int .i64 0, .slice none 0 0])
 clear h hR hwet
 go_enter Tryz.func164, Tryz.ntmps164
 go_wp2_with fail
 have hz : (w.alloc (.cells #[.int .i64 0, .string ⟨#[]⟩, .int .i64 0, .slice none 0 0] 24)).heap.size = w.heap.size + 1 := by simp
 generalize w.alloc (.cells #[.int .i64 0, .string ⟨#[]⟩, .int .i64 0, .slice none 0 0] 24) = w0 at *
 rw [← hz]
 clear hz
 refine (isq HS.out h1).mono ?_
 clear HS; rintro e w1 ⟨rfl, HS⟩
 replace HR := ifN HR.out h1
 go_wp2_with fail
 refine (haveN HS.out h2).mono ?_
 clear HS; rintro e w2 ⟨rfl, HS⟩
 replace HR := ifN HR.out h2
 go_wp2_with fail
 refine (haveY HS.out h3).mono ?_
 clear HS; rintro e w3 ⟨rfl, HS⟩
 replace HR := ifY HR.out h3
 go_wp2_with fail
 refine (subq HRD HS.out (bindW HR.out HW.out)).mono ?_
 clear HS; rintro e w4 (⟨k, hr, rfl, m⟩ | ⟨x, j, Ax, cx, Vx, hr, rfl, HS⟩)
 ·go_wp2; exact ⟨rfl, badO (bindB HR.out hr) m⟩
 replace HR := bindO HR.out hr
 clear hr
 go_wp2_with fail
 replace HS := Lib.hid (HS.out.box 24 #[.int .i64 x.k, .string x.t, .int .i64 x.num, .slice Ax x.kids.length cx])
 generalize w4.alloc (.cells #[.int .i64 x.k, .string x.t, .int .i64 x.num, .slice Ax x.kids.length cx] 24) = w5 at *
 generalize w4.heap.size = by_ at *
 refine (nodeq HS.out 30 ⟨#[]⟩ (some ⟨by_, 0, none⟩) 1 1).mono ?_
 clear HS; rintro e w6 ⟨rfl, HS⟩
 replace HS := Lib.hid HS.out.f1
 replace HS := Lib.hid HS.out.f1
 replace HS := Lib.hid (HS.out.kid1 (x := x) 30 ⟨#[]⟩ 0 i64_0 (Nat.zero_le _))
 replace HS := Lib.hid HS.out.f1
 replace HS := Lib.hid HS.out.f1
 obtain ⟨f0, f1, f2, f3, g0, g1, g2, g3⟩ := (HS.out.blk 1 rfl).all4
 go_wp2_with fail
 have hf := finO HS.out HR
 try simp only [List.length_append, List.length_cons, List.length_nil, Nat.zero_add] at hf
 exact bodyPost_ret (v := .agg _) (results_cell4 (fn := Tryz.f164) rfl hf.1 rfl) rfl hf.2
theorem fst_long (C : PC) {u : Nat → Res Nd} (w : World) (i : Nat) (h : PSt C w i) (hwet : firstM C.L u i ≠ .dry) (HX : POk C 93 (exprM C.L u)) (HRD : POk C 91 (roundM C.L u)) (h1 : tIs C.L ⟨#[40]⟩ i = false) (h2 : tIs C.L ⟨#[38]⟩ i = false) (h3 : tIs C.L ⟨#[105, 110, 116]⟩ i = false) (h4 : tIs C.L ⟨#[108, 111, 110, 103]⟩ i = true)  : Calls Tryz.prog 164 #[.pointer (some ⟨C.p, 0, none⟩)] w (NodeOut C w (firstM C.L u i)) := by
 obtain ⟨R, HR⟩ : ∃ R, Hid (firstM C.L u i = R) := ⟨_, rfl⟩
 rw [HR.out] at hwet ⊢
 have HW := Lib.hid hwet
 have hR := HR.out
 unfold firstM at hR
 replace HR := Lib.hid hR
 have HS := Lib.hid (h.st.box 24 #[.int .i64 0, .string ⟨#[]⟩, .int .i64 0, .slice none 0 0])
 clear h hR hwet
 go_enter Tryz.func164, Tryz.ntmps164
 go_wp2_with fail
 have hz : (w.alloc (.cells #[.int .i64 0, .string ⟨#[]⟩, .int .i64 0, .slice none 0 0] 24)).heap.size = w.heap.size + 1 := by simp
 generalize w.alloc (.cells #[.int .i64 0, .string ⟨#[]⟩, .int .i64 0, .slice none 0 0] 24) = w0 at *
 rw [← hz]
 clear hz
 refine (isq HS.out h1).mono ?_
 clear HS; rintro e w1 ⟨rfl, HS⟩
 replace HR := ifN HR.out h1
 go_wp2_with fail
 refine (haveN HS.out h2).mono ?_
 clear HS; rintro e w2 ⟨rfl, HS⟩
 replace HR := ifN HR.out h2
 go_wp2_with fail
 refine (haveN HS.out h3).mono ?_
 clear HS; rintro e w3 ⟨rfl, HS⟩
 replace HR := ifN HR.out h3
 go_wp2_with fail
 refine (haveY HS.out h4).mono ?_
 clear HS; rintro e w4 ⟨rfl, HS⟩
 replace HR := ifY HR.out h4
 go_wp2_with fail
 refine (subq HRD HS.out (bindW HR.out HW.out)).mono ?_
 clear HS; rintro e w5 (⟨k, hr, rfl, m⟩ | ⟨x, j, Ax, cx, Vx, hr, rfl, HS⟩)
 ·go_wp2; exact ⟨rfl, badO (bindB HR.out hr) m⟩
 replace HR := bindO HR.out hr
 clear hr
 go_wp2_with fail
 replace HS := Lib.hid (HS.out.box 24 #[.int .i64 x.k, .string x.t, .int .i64 x.num, .slice Ax x.kids.length cx])
 generalize w5.alloc (.cells #[.int .i64 x.k, .string x.t, .int .i64 x.num, .slice Ax x.kids.length cx] 24) = w6 at *
 generalize w5.heap.size = by_ at *
 refine (nodeq HS.out 31 ⟨#[]⟩ (some ⟨by_, 0, none⟩) 1 1).mono ?_
 clear HS; rintro e w7 ⟨rfl, HS⟩
 replace HS := Lib.hid HS.out.f1
 replace HS := Lib.hid HS.out.f1
 replace HS := Lib.hid (HS.out.kid1 (x := x) 31 ⟨#[]⟩ 0 i64_0 (Nat.zero_le _))
 replace HS := Lib.hid HS.out.f1
 replace HS := Lib.hid HS.out.f1
 obtain ⟨f0, f1, f2, f3, g0, g1, g2, g3⟩ := (HS.out.blk 1 rfl).all4
 go_wp2_with fail
 have hf := finO HS.out HR
 try simp only [List.length_append, List.length_cons, List.length_nil, Nat.zero_add] at hf
 exact bodyPost_ret (v := .agg _) (results_cell4 (fn := Tryz.f164) rfl hf.1 rfl) rfl hf.2
theorem fst_count (C : PC) {u : Nat → Res Nd} (w : World) (i : Nat) (h : PSt C w i) (hwet : firstM C.L u i ≠ .dry) (HX : POk C 93 (exprM C.L u)) (HRD : POk C 91 (roundM C.L u)) (h1 : tIs C.L ⟨#[40]⟩ i = false) (h2 : tIs C.L ⟨#[38]⟩ i = false) (h3 : tIs C.L ⟨#[105, 110, 116]⟩ i = false) (h4 : tIs C.L ⟨#[108, 111, 110, 103]⟩ i = false) (h5 : tIs C.L ⟨#[99, 111, 117, 110, 116]⟩ i = true)  : Calls Tryz.prog 164 #[.pointer (some ⟨C.p, 0, none⟩)] w (NodeOut C w (firstM C.L u i)) := by
 obtain ⟨R, HR⟩ : ∃ R, Hid (firstM C.L u i = R) := ⟨_, rfl⟩
 rw [HR.out] at hwet ⊢
 have HW := Lib.hid hwet
 have hR := HR.out
 unfold firstM at hR
 replace HR := Lib.hid hR
 have HS := Lib.hid (h.st.box 24 #[.int .i64 0, .string ⟨#[]⟩, .int .i64 0, .slice none 0 0])
 clear h hR hwet
 go_enter Tryz.func164, Tryz.ntmps164
 go_wp2_with fail
 have hz : (w.alloc (.cells #[.int .i64 0, .string ⟨#[]⟩, .int .i64 0, .slice none 0 0] 24)).heap.size = w.heap.size + 1 := by simp
 generalize w.alloc (.cells #[.int .i64 0, .string ⟨#[]⟩, .int .i64 0, .slice none 0 0] 24) = w0 at *
 rw [← hz]
 clear hz
 refine (isq HS.out h1).mono ?_
 clear HS; rintro e w1 ⟨rfl, HS⟩
 replace HR := ifN HR.out h1
 go_wp2_with fail
 refine (haveN HS.out h2).mono ?_
 clear HS; rintro e w2 ⟨rfl, HS⟩
 replace HR := ifN HR.out h2
 go_wp2_with fail
 refine (haveN HS.out h3).mono ?_
 clear HS; rintro e w3 ⟨rfl, HS⟩
 replace HR := ifN HR.out h3
 go_wp2_with fail
 refine (haveN HS.out h4).mono ?_
 clear HS; rintro e w4 ⟨rfl, HS⟩
 replace HR := ifN HR.out h4
 go_wp2_with fail
 refine (haveY HS.out h5).mono ?_
 clear HS; rintro e w5 ⟨rfl, HS⟩
 replace HR := ifY HR.out h5
 go_wp2_with fail
 refine (nodeq HS.out 33 ⟨#[]⟩ none 0 0).mono ?_
 clear HS; rintro e w6 ⟨rfl, HS⟩
 replace HS := Lib.hid (HS.out.leaf 33 ⟨#[]⟩ 0 i64_0 (Nat.zero_le _))
 replace HS := Lib.hid HS.out.f1
 replace HS := Lib.hid HS.out.f1
 obtain ⟨f0, f1, f2, f3, g0, g1, g2, g3⟩ := (HS.out.blk 1 rfl).all4
 go_wp2_with fail
 have hf := finO HS.out HR
 try simp only [List.length_append, List.length_cons, List.length_nil, Nat.zero_add] at hf
 exact bodyPost_ret (v := .agg _) (results_cell4 (fn := Tryz.f164) rfl hf.1 rfl) rfl hf.2
theorem fst_extra (C : PC) {u : Nat → Res Nd} (w : World) (i : Nat) (h : PSt C w i) (hwet : firstM C.L u i ≠ .dry) (HX : POk C 93 (exprM C.L u)) (HRD : POk C 91 (roundM C.L u)) (h1 : tIs C.L ⟨#[40]⟩ i = false) (h2 : tIs C.L ⟨#[38]⟩ i = false) (h3 : tIs C.L ⟨#[105, 110, 116]⟩ i = false) (h4 : tIs C.L ⟨#[108, 111, 110, 103]⟩ i = false) (h5 : tIs C.L ⟨#[99, 111, 117, 110, 116]⟩ i = false) (h6 : tIs C.L ⟨#[101, 120, 116, 114, 97]⟩ i = true)  : Calls Tryz.prog 164 #[.pointer (some ⟨C.p, 0, none⟩)] w (NodeOut C w (firstM C.L u i)) := by
 obtain ⟨R, HR⟩ : ∃ R, Hid (firstM C.L u i = R) := ⟨_, rfl⟩
 rw [HR.out] at hwet ⊢
 have HW := Lib.hid hwet
 have hR := HR.out
 unfold firstM at hR
 replace HR := Lib.hid hR
 have HS := Lib.hid (h.st.box 24 #[.int .i64 0, .string ⟨#[]⟩, .int .i64 0, .slice none 0 0])
 clear h hR hwet
 go_enter Tryz.func164, Tryz.ntmps164
 go_wp2_with fail
 have hz : (w.alloc (.cells #[.int .i64 0, .string ⟨#[]⟩, .int .i64 0, .slice none 0 0] 24)).heap.size = w.heap.size + 1 := by simp
 generalize w.alloc (.cells #[.int .i64 0, .string ⟨#[]⟩, .int .i64 0, .slice none 0 0] 24) = w0 at *
 rw [← hz]
 clear hz
 refine (isq HS.out h1).mono ?_
 clear HS; rintro e w1 ⟨rfl, HS⟩
 replace HR := ifN HR.out h1
 go_wp2_with fail
 refine (haveN HS.out h2).mono ?_
 clear HS; rintro e w2 ⟨rfl, HS⟩
 replace HR := ifN HR.out h2
 go_wp2_with fail
 refine (haveN HS.out h3).mono ?_
 clear HS; rintro e w3 ⟨rfl, HS⟩
 replace HR := ifN HR.out h3
 go_wp2_with fail
 refine (haveN HS.out h4).mono ?_
 clear HS; rintro e w4 ⟨rfl, HS⟩
 replace HR := ifN HR.out h4
 go_wp2_with fail
 refine (haveN HS.out h5).mono ?_
 clear HS; rintro e w5 ⟨rfl, HS⟩
 replace HR := ifN HR.out h5
 go_wp2_with fail
 refine (haveY HS.out h6).mono ?_
 clear HS; rintro e w6 ⟨rfl, HS⟩
 replace HR := ifY HR.out h6
 go_wp2_with fail
 refine (subq HRD HS.out (bindW HR.out HW.out)).mono ?_
 clear HS; rintro e w7 (⟨k, hr, rfl, m⟩ | ⟨x, j, Ax, cx, Vx, hr, rfl, HS⟩)
 ·go_wp2; exact ⟨rfl, badO (bindB HR.out hr) m⟩
 replace HR := bindO HR.out hr
 clear hr
 go_wp2_with fail
 replace HS := Lib.hid (HS.out.box 24 #[.int .i64 x.k, .string x.t, .int .i64 x.num, .slice Ax x.kids.length cx])
 generalize w7.alloc (.cells #[.int .i64 x.k, .string x.t, .int .i64 x.num, .slice Ax x.kids.length cx] 24) = w8 at *
 generalize w7.heap.size = by_ at *
 refine (nodeq HS.out 34 ⟨#[]⟩ (some ⟨by_, 0, none⟩) 1 1).mono ?_
 clear HS; rintro e w9 ⟨rfl, HS⟩
 replace HS := Lib.hid HS.out.f1
 replace HS := Lib.hid HS.out.f1
 replace HS := Lib.hid (HS.out.kid1 (x := x) 34 ⟨#[]⟩ 0 i64_0 (Nat.zero_le _))
 replace HS := Lib.hid HS.out.f1
 replace HS := Lib.hid HS.out.f1
 obtain ⟨f0, f1, f2, f3, g0, g1, g2, g3⟩ := (HS.out.blk 1 rfl).all4
 go_wp2_with fail
 have hf := finO HS.out HR
 try simp only [List.length_append, List.length_cons, List.length_nil, Nat.zero_add] at hf
 exact bodyPost_ret (v := .agg _) (results_cell4 (fn := Tryz.f164) rfl hf.1 rfl) rfl hf.2
theorem fst_num (C : PC) {u : Nat → Res Nd} (w : World) (i : Nat) (h : PSt C w i) (hwet : firstM C.L u i ≠ .dry) (HX : POk C 93 (exprM C.L u)) (HRD : POk C 91 (roundM C.L u)) (h1 : tIs C.L ⟨#[40]⟩ i = false) (h2 : tIs C.L ⟨#[38]⟩ i = false) (h3 : tIs C.L ⟨#[105, 110, 116]⟩ i = false) (h4 : tIs C.L ⟨#[108, 111, 110, 103]⟩ i = false) (h5 : tIs C.L ⟨#[99, 111, 117, 110, 116]⟩ i = false) (h6 : tIs C.L ⟨#[101, 120, 116, 114, 97]⟩ i = false) (n0 : tNm C.L (i + 0) = false) : Calls Tryz.prog 164 #[.pointer (some ⟨C.p, 0, none⟩)] w (NodeOut C w (firstM C.L u i)) := by
 obtain ⟨R, HR⟩ : ∃ R, Hid (firstM C.L u i = R) := ⟨_, rfl⟩
 rw [HR.out] at hwet ⊢
 have HW := Lib.hid hwet
 have hR := HR.out
 unfold firstM at hR
 replace HR := Lib.hid hR
 have HS := Lib.hid (h.st.box 24 #[.int .i64 0, .string ⟨#[]⟩, .int .i64 0, .slice none 0 0])
 clear h hR hwet
 go_enter Tryz.func164, Tryz.ntmps164
 go_wp2_with fail
 have hz : (w.alloc (.cells #[.int .i64 0, .string ⟨#[]⟩, .int .i64 0, .slice none 0 0] 24)).heap.size = w.heap.size + 1 := by simp
 generalize w.alloc (.cells #[.int .i64 0, .string ⟨#[]⟩, .int .i64 0, .slice none 0 0] 24) = w0 at *
 rw [← hz]
 clear hz
 refine (isq HS.out h1).mono ?_
 clear HS; rintro e w1 ⟨rfl, HS⟩
 replace HR := ifN HR.out h1
 go_wp2_with fail
 refine (haveN HS.out h2).mono ?_
 clear HS; rintro e w2 ⟨rfl, HS⟩
 replace HR := ifN HR.out h2
 go_wp2_with fail
 refine (haveN HS.out h3).mono ?_
 clear HS; rintro e w3 ⟨rfl, HS⟩
 replace HR := ifN HR.out h3
 go_wp2_with fail
 refine (haveN HS.out h4).mono ?_
 clear HS; rintro e w4 ⟨rfl, HS⟩
 replace HR := ifN HR.out h4
 go_wp2_with fail
 refine (haveN HS.out h5).mono ?_
 clear HS; rintro e w5 ⟨rfl, HS⟩
 replace HR := ifN HR.out h5
 go_wp2_with fail
 refine (haveN HS.out h6).mono ?_
 clear HS; rintro e w6 ⟨rfl, HS⟩
 replace HR := ifN HR.out h6
 go_wp2_with fail
 refine (namedq HS.out 0 (by omega) n0).mono ?_
 clear HS; rintro e w7 ⟨rfl, HS⟩
 replace HR := ifN HR.out n0
 go_wp2_with fail
 refine (subq (number_any C) HS.out (fun e => HW.out (HR.out.symm.trans e))).mono ?_
 clear HS; rintro e w8 (⟨k, hr, rfl, m⟩ | ⟨x, j, Ax, cx, Vx, hr, rfl, HS⟩)
 ·go_wp2; exact ⟨rfl, badO (hr.symm.trans HR.out) m⟩
 replace HR := Lib.hid (hr.symm.trans HR.out)
 clear hr
 replace HS := Lib.hid HS.out.f1
 replace HS := Lib.hid HS.out.f1
 obtain ⟨f0, f1, f2, f3, g0, g1, g2, g3⟩ := (HS.out.blk 1 rfl).all4
 go_wp2_with fail
 have hf := finX HS.out HR
 exact bodyPost_ret (v := .agg _) (results_cell4 (fn := Tryz.f164) rfl hf.1 rfl) rfl hf.2
theorem fst_word (C : PC) {u : Nat → Res Nd} (w : World) (i : Nat) (h : PSt C w i) (hwet : firstM C.L u i ≠ .dry) (HX : POk C 93 (exprM C.L u)) (HRD : POk C 91 (roundM C.L u)) (h1 : tIs C.L ⟨#[40]⟩ i = false) (h2 : tIs C.L ⟨#[38]⟩ i = false) (h3 : tIs C.L ⟨#[105, 110, 116]⟩ i = false) (h4 : tIs C.L ⟨#[108, 111, 110, 103]⟩ i = false) (h5 : tIs C.L ⟨#[99, 111, 117, 110, 116]⟩ i = false) (h6 : tIs C.L ⟨#[101, 120, 116, 114, 97]⟩ i = false) (n0 : tNm C.L (i + 0) = true) (hb : tIs C.L ⟨#[123]⟩ (i + 1) = false) : Calls Tryz.prog 164 #[.pointer (some ⟨C.p, 0, none⟩)] w (NodeOut C w (firstM C.L u i)) := by
 obtain ⟨R, HR⟩ : ∃ R, Hid (firstM C.L u i = R) := ⟨_, rfl⟩
 rw [HR.out] at hwet ⊢
 have HW := Lib.hid hwet
 have hR := HR.out
 unfold firstM at hR
 replace HR := Lib.hid hR
 have HS := Lib.hid (h.st.box 24 #[.int .i64 0, .string ⟨#[]⟩, .int .i64 0, .slice none 0 0])
 clear h hR hwet
 go_enter Tryz.func164, Tryz.ntmps164
 go_wp2_with fail
 have hz : (w.alloc (.cells #[.int .i64 0, .string ⟨#[]⟩, .int .i64 0, .slice none 0 0] 24)).heap.size = w.heap.size + 1 := by simp
 generalize w.alloc (.cells #[.int .i64 0, .string ⟨#[]⟩, .int .i64 0, .slice none 0 0] 24) = w0 at *
 rw [← hz]
 clear hz
 refine (isq HS.out h1).mono ?_
 clear HS; rintro e w1 ⟨rfl, HS⟩
 replace HR := ifN HR.out h1
 go_wp2_with fail
 refine (haveN HS.out h2).mono ?_
 clear HS; rintro e w2 ⟨rfl, HS⟩
 replace HR := ifN HR.out h2
 go_wp2_with fail
 refine (haveN HS.out h3).mono ?_
 clear HS; rintro e w3 ⟨rfl, HS⟩
 replace HR := ifN HR.out h3
 go_wp2_with fail
 refine (haveN HS.out h4).mono ?_
 clear HS; rintro e w4 ⟨rfl, HS⟩
 replace HR := ifN HR.out h4
 go_wp2_with fail
 refine (haveN HS.out h5).mono ?_
 clear HS; rintro e w5 ⟨rfl, HS⟩
 replace HR := ifN HR.out h5
 go_wp2_with fail
 refine (haveN HS.out h6).mono ?_
 clear HS; rintro e w6 ⟨rfl, HS⟩
 replace HR := ifN HR.out h6
 go_wp2_with fail
 refine (namedq HS.out 0 (by omega) n0).mono ?_
 clear HS; rintro e w7 ⟨rfl, HS⟩
 replace HR := ifY HR.out n0
 go_wp2_with fail
 refine (nameq HS.out).mono ?_
 clear HS; rintro e w8 (⟨hr, rfl, m⟩ | ⟨nm, hr, hnm, rfl, HS⟩)
 ·exact absurd hr (by unfold nameM; rw [show tNm C.L i = true from n0, if_pos rfl]; intro e; cases e)
 unfold nameM at hr
 rw [show tNm C.L i = true from n0, if_pos rfl] at hr
 injection hr with hr
 rw [hr] at HR
 clear hr
 go_wp2_with fail
 refine (haveN HS.out hb).mono ?_
 clear HS; rintro e w9 ⟨rfl, HS⟩
 replace HR := ifN HR.out hb
 go_wp2_with fail
 refine (nodeq HS.out 23 nm none 0 0).mono ?_
 clear HS; rintro e w10 ⟨rfl, HS⟩
 replace HS := Lib.hid (HS.out.leaf 23 nm 0 i64_0 hnm)
 replace HS := Lib.hid HS.out.f1
 replace HS := Lib.hid HS.out.f1
 obtain ⟨f0, f1, f2, f3, g0, g1, g2, g3⟩ := (HS.out.blk 1 rfl).all4
 go_wp2_with fail
 have hf := finO HS.out HR
 try simp only [List.length_append, List.length_cons, List.length_nil, Nat.zero_add] at hf
 exact bodyPost_ret (v := .agg _) (results_cell4 (fn := Tryz.f164) rfl hf.1 rfl) rfl hf.2
theorem fst_made (C : PC) {u : Nat → Res Nd} (w : World) (i : Nat) (h : PSt C w i) (hwet : firstM C.L u i ≠ .dry) (HX : POk C 93 (exprM C.L u)) (HRD : POk C 91 (roundM C.L u)) (h1 : tIs C.L ⟨#[40]⟩ i = false) (h2 : tIs C.L ⟨#[38]⟩ i = false) (h3 : tIs C.L ⟨#[105, 110, 116]⟩ i = false) (h4 : tIs C.L ⟨#[108, 111, 110, 103]⟩ i = false) (h5 : tIs C.L ⟨#[99, 111, 117, 110, 116]⟩ i = false) (h6 : tIs C.L ⟨#[101, 120, 116, 114, 97]⟩ i = false) (n0 : tNm C.L (i + 0) = true) (hb : tIs C.L ⟨#[123]⟩ (i + 1) = true) : Calls Tryz.prog 164 #[.pointer (some ⟨C.p, 0, none⟩)] w (NodeOut C w (firstM C.L u i)) := by
 obtain ⟨R, HR⟩ : ∃ R, Hid (firstM C.L u i = R) := ⟨_, rfl⟩
 rw [HR.out] at hwet ⊢
 have HW := Lib.hid hwet
 have hR := HR.out
 unfold firstM at hR
 replace HR := Lib.hid hR
 have HS := Lib.hid (h.st.box 24 #[.int .i64 0, .string ⟨#[]⟩, .int .i64 0, .slice none 0 0])
 clear h hR hwet
 go_enter Tryz.func164, Tryz.ntmps164
 go_wp2_with fail
 have hz : (w.alloc (.cells #[.int .i64 0, .string ⟨#[]⟩, .int .i64 0, .slice none 0 0] 24)).heap.size = w.heap.size + 1 := by simp
 generalize w.alloc (.cells #[.int .i64 0, .string ⟨#[]⟩, .int .i64 0, .slice none 0 0] 24) = w0 at *
 rw [← hz]
 clear hz
 refine (isq HS.out h1).mono ?_
 clear HS; rintro e w1 ⟨rfl, HS⟩
 replace HR := ifN HR.out h1
 go_wp2_with fail
 refine (haveN HS.out h2).mono ?_
 clear HS; rintro e w2 ⟨rfl, HS⟩
 replace HR := ifN HR.out h2
 go_wp2_with fail
 refine (haveN HS.out h3).mono ?_
 clear HS; rintro e w3 ⟨rfl, HS⟩
 replace HR := ifN HR.out h3
 go_wp2_with fail
 refine (haveN HS.out h4).mono ?_
 clear HS; rintro e w4 ⟨rfl, HS⟩
 replace HR := ifN HR.out h4
 go_wp2_with fail
 refine (haveN HS.out h5).mono ?_
 clear HS; rintro e w5 ⟨rfl, HS⟩
 replace HR := ifN HR.out h5
 go_wp2_with fail
 refine (haveN HS.out h6).mono ?_
 clear HS; rintro e w6 ⟨rfl, HS⟩
 replace HR := ifN HR.out h6
 go_wp2_with fail
 refine (namedq HS.out 0 (by omega) n0).mono ?_
 clear HS; rintro e w7 ⟨rfl, HS⟩
 replace HR := ifY HR.out n0
 go_wp2_with fail
 refine (nameq HS.out).mono ?_
 clear HS; rintro e w8 (⟨hr, rfl, m⟩ | ⟨nm, hr, hnm, rfl, HS⟩)
 ·exact absurd hr (by unfold nameM; rw [show tNm C.L i = true from n0, if_pos rfl]; intro e; cases e)
 unfold nameM at hr
 rw [show tNm C.L i = true from n0, if_pos rfl] at hr
 injection hr with hr
 rw [hr] at HR
 clear hr
 go_wp2_with fail
 refine (haveY HS.out hb).mono ?_
 clear HS; rintro e w9 ⟨rfl, HS⟩
 replace HR := ifY HR.out hb
 go_wp2_with fail
 refine (nodeq HS.out 27 nm none 0 0).mono ?_
 clear HS; rintro e w10 ⟨rfl, HS⟩
 go_wp2_with fail
 replace HS := Lib.hid (HS.out.box 24 #[.int .i64 27, .string nm, .int .i64 0, .slice none 0 0])
 generalize w10.alloc (.cells #[.int .i64 27, .string nm, .int .i64 0, .slice none 0 0] 24) = w11 at *
 generalize w10.heap.size = bt at *
 have hlen := HS.out.z.len
 go_loopg [] (C.L.length + 1) (fun gk wr => MkRel C u nm R w bt gk wr)
 case atStart => exact ⟨[], none, 0, _, ((i + 1) + 1), HS.out.row0, HR, by simp⟩
 case round =>
  clear HS HR; obtain ⟨l, Al, cl, Vl, j, HS, HR, hc⟩ := hrel
  cases gk with
  | zero => exact absurd (show Res.dry = R from HR.out) (fun e => HW.out e.symm)
  | succ g =>
  have hR := HR.out
  rw [madeM] at hR
  replace HR := Lib.hid hR
  clear hR
  obtain ⟨w100, rfl⟩ : ∃ x, x = wr := ⟨_, rfl⟩
  by_cases hA : l = [] ∧ tIs C.L ⟨#[125]⟩ j = true
  ·have hR := HR.out
   rw [if_pos hA] at hR
   replace HR := Lib.hid hR
   clear hR
   obtain ⟨rfl, hp⟩ := hA
   go_wp2_with fail
   refine (isq HS.out hp).mono ?_
   clear HS; rintro e w101 ⟨rfl, HS⟩
   have b3 := HS.out.f1.one.cell 3 (.slice Al 0 cl) rfl
   go_wp2_with fail
   clear b3
   refine (needq HS.out ⟨#[125]⟩).mono ?_
   unfold needM; rw [if_pos hp]
   clear HS; rintro e w102 (⟨hr, -⟩ | ⟨-, rfl, HS⟩)
   ·cases hr
   replace HS := Lib.hid (HS.out.kids 27 nm 0 i64_0 hnm)
   replace HS := Lib.hid HS.out.f2
   replace HS := Lib.hid HS.out.f1
   obtain ⟨-, -, -, -, b0, b1, b2, b3⟩ := (HS.out.blk 2 rfl).all4
   obtain ⟨f0, f1, f2, f3, g0, g1, g2, g3⟩ := (HS.out.blk 1 rfl).all4
   go_wp2_with fail
   have hf := finO HS.out HR
   try simp only [List.length_append, List.length_cons, List.length_nil, Nat.zero_add] at hf
   exact bodyPost_ret (v := .agg _) (results_cell4 (fn := Tryz.f164) rfl hf.1 rfl) rfl hf.2
  have hR := HR.out
  rw [if_neg hA] at hR
  simp only [Res.assoc_] at hR
  replace HR := Lib.hid hR
  clear hR
  have HE : (tIs C.L ⟨#[125]⟩ j = false) ∨ (tIs C.L ⟨#[125]⟩ j = true ∧ decide ((0 : Int) < (l.length : Int)) = true ∧ decide (0 < l.length) = true) := by
   rcases hp : tIs C.L ⟨#[125]⟩ j with _ | _
   ·exact .inl rfl
   ·have : 0 < l.length := by
     rcases l with _ | ⟨a, l⟩
     ·exact absurd ⟨rfl, hp⟩ hA
     ·simp
    exact .inr ⟨rfl, by rw [decide_eq_true_eq]; omega, by rw [decide_eq_true_eq]; omega⟩
  clear hA
  rcases HE with hp | ⟨hp, hk1, hk2⟩
  all_goals
   go_wp2_with fail
   refine (isq HS.out hp).mono ?_
   clear HS; rintro e w101 ⟨rfl, HS⟩
   have b3 := HS.out.f1.one.cell 3 (.slice Al l.length cl) rfl
   go_wp2_with fail
   clear hp b3
   try clear hk1 hk2
   replace HS := Lib.hid (HS.out.below (Below.refl _ _).drew)
   refine wp_region_held_drew (S := fun _ => True) (by kernel_rfl) trivial (fun _ => ?_)
   generalize w101.drew = w102 at *
   (refine wpAnyH_take (i := 0) (v := ?_) rfl (by kernel_rfl) (by kernel_rfl) (by kernel_rfl) (fun _ _ _ h => h) (Or.inl ⟨by rfl, ?_⟩) (by assumption) ?_; rotate_left; · ((intro w hSw; (try dsimp only at hSw); go_simp) <;> with_reducible rfl); (try simp only [List.getElem_toArray, List.getElem_cons_succ, List.getElem_cons_zero, Act.put, List.setIfInBounds_toArray, List.set_cons_zero, List.set_cons_succ])); (refine wpAnyH_take (i := 2) (v := ?_) rfl (by kernel_rfl) (by kernel_rfl) (by kernel_rfl) (fun _ _ _ h => h) (Or.inl ⟨by rfl, ?_⟩) (by assumption) ?_; rotate_left; · ((intro w hSw; (try dsimp only at hSw); go_simp) <;> with_reducible rfl); (try simp only [List.getElem_toArray, List.getElem_cons_succ, List.getElem_cons_zero, Act.put, List.setIfInBounds_toArray, List.set_cons_zero, List.set_cons_succ]))
   replace HS := Lib.hid HS.out.f2
   replace HS := Lib.hid HS.out.f2
   replace HS := Lib.hid HS.out.f2
   refine wpAnyH_grp [⟨1, some 65, []⟩, ⟨4, some 68, [3]⟩, ⟨3, some 67, []⟩] 3 (fun vs W => ∃ x Ax cx Vx jx by_, Hid (SP C w W (altq (vs 3) j jx) (ifq (vs 4) (bx by_ 24 #[.int .i64 x.k, .string x.t, .int .i64 x.num, .slice Ax x.kids.length cx]) ++ (ifq (vs 3) (nd Vx x Ax cx) ++ [rw_ w.heap.size Vl l Al cl, bx bt 24 #[.int .i64 27, .string nm, .int .i64 0, .slice Al l.length cl], bx w.heap.size 24 #[.int .i64 0, .string ⟨#[]⟩, .int .i64 0, .slice none 0 0]]))) ∧ OV (vs 1) (.slice Al l.length cl) ∧ OV (vs 4) (.slice (some ⟨by_, 0, none⟩) 1 1) ∧ OP (vs 3) (fun q_ => q_ = .agg #[.int .i64 x.k, .string x.t, .int .i64 x.num, .slice Ax x.kids.length cx] ∧ exprM C.L u j = .ok x jx)) (by rfl) (by kernel_rfl) ⟨.mk 0 ⟨#[]⟩ 0 [], none, 0, fun _ => False, 0, 0, HS, OP.no _ rfl, OP.no _ rfl, OP.no _ rfl⟩ (fun _ _ _ => trivial) ⟨?_, ?_, ?_, trivial⟩ ?_
   ·clear HS; refine ⟨_, rfl, fun vs W h1 hd hn ⟨x, Ax, cx, Vx, jx, by_, HS, e1, e4, e3⟩ => ?_⟩
    obtain ⟨-, -, -, -, b0, b1, b2, b3⟩ := Blk.all4 (HS.out.ok (bx bt 24 #[.int .i64 27, .string nm, .int .i64 0, .slice Al l.length cl]) (by simp))
    simp only [actG, old, Option.getD_some]; (try simp only [List.getElem_toArray, List.getElem_cons_succ, List.getElem_cons_zero, Act.put, List.setIfInBounds_toArray, List.set_cons_zero, List.set_cons_succ]); intro K hK
    go_simp
    clear b0 b1 b2 b3
    exact hK.out _ _ ⟨x, Ax, cx, Vx, jx, by_, HS, OP.is rfl, e4, e3⟩
   ·clear HS; refine ⟨_, rfl, fun vs W h4 hd hn ⟨x, Ax, cx, Vx, jx, by_, HS, e1, e4, e3⟩ => ?_⟩
    obtain ⟨⟨v3, h3⟩, -⟩ := hd
    obtain ⟨rfl, -⟩ := e3 _ h3
    rw [h4] at HS
    simp only [actG, old, h3, Option.getD_some]; (try simp only [List.getElem_toArray, List.getElem_cons_succ, List.getElem_cons_zero, Act.put, List.setIfInBounds_toArray, List.set_cons_zero, List.set_cons_succ]); intro K hK
    go_simp
    exact hK.out _ _ ⟨x, Ax, cx, Vx, jx, W.heap.size, (HS.out.box 24 #[.int .i64 x.k, .string x.t, .int .i64 x.num, .slice Ax x.kids.length cx]), e1, OP.is rfl, e3⟩
   ·clear HS; refine ⟨_, rfl, fun vs W h3 hd hn ⟨x, Ax, cx, Vx, jx, by_, HS, e1, e4, e3⟩ => ?_⟩
    rw [h3, show vs 4 = none from hn.2.1] at HS
    simp only [actG, old, Option.getD_some]; (try simp only [List.getElem_toArray, List.getElem_cons_succ, List.getElem_cons_zero, Act.put, List.setIfInBounds_toArray, List.set_cons_zero, List.set_cons_succ]); intro K hK
    go_simp
    refine (subq HX HS.out (bindW HR.out HW.out)).mono ?_
    clear HS; rintro e W (⟨k, hr, rfl, m⟩ | ⟨x, jx, Ax, cx, Vx, hr, rfl, HS⟩)
    ·go_wp2; exact ⟨rfl, badO (bindB HR.out hr) m⟩
    exact hK.out _ _ ⟨x, Ax, cx, Vx, jx, by_, (by rw [show upd vs 3 _ 4 = none from hn.2.1]; exact HS), e1, OP.no _ hn.2.1, OP.is ⟨rfl, hr⟩⟩
   clear HS; intro vs W ⟨x, Ax, cx, Vx, jx, by_, HS, e1, e4, e3⟩ hall
   obtain ⟨⟨v1, h1⟩, ⟨v4, h4⟩, ⟨v3, h3⟩, -⟩ := hall
   obtain rfl := e1 _ h1
   obtain rfl := e4 _ h4
   obtain ⟨rfl, hr⟩ := e3 _ h3
   rw [h4, h3] at HS
   simp only [altq_some, ifq, List.cons_append, List.nil_append] at HS
   simp only [actG, lisG, old, h1, h4, h3, Option.getD_some, Option.isSome_some, if_true, List.length_cons, List.length_nil]; (try simp only [List.getElem_toArray, List.getElem_cons_succ, List.getElem_cons_zero, Act.put, List.setIfInBounds_toArray, List.set_cons_zero, List.set_cons_succ])
   clear h1 e1 h4 e4 h3 e3 vs
   obtain ⟨w103, rfl⟩ : ∃ x, x = W := ⟨_, rfl⟩
   replace HR := bindO HR.out hr
   clear hr
   replace HS := Lib.hid HS.out.f1
   replace HS := Lib.hid HS.out.f2
   refine wpAnyH_ready (rs := [5]) (by kernel_rfl) (by simp) (AllReadyH.cons rfl (fun K hK => ?_) AllReadyH.nil)
   rw [if_pos (by rfl)]
   refine oper_push HS.out (show l.length = l.length from rfl) (by omega) _ _ rfl rfl rfl ?_
   clear HS; intro A2 c2 V2 w104 HS
   refine hK.out _ _ trivial (fun _ => ?_)
   clear hK K
   (try simp only [List.getElem_toArray, List.getElem_cons_succ, List.getElem_cons_zero, Act.put, List.setIfInBounds_toArray, List.set_cons_zero, List.set_cons_succ])
   (refine wpAnyH_take (i := 6) (v := ?_) rfl (by kernel_rfl) (by kernel_rfl) (by kernel_rfl) (fun _ _ _ h => h) (Or.inl ⟨by rfl, ?_⟩) (by assumption) ?_; rotate_left; · ((intro w hSw; (try dsimp only at hSw); go_simp) <;> with_reducible rfl); (try simp only [List.getElem_toArray, List.getElem_cons_succ, List.getElem_cons_zero, Act.put, List.setIfInBounds_toArray, List.set_cons_zero, List.set_cons_succ]))
   refine wpAnyH_ready (rs := [7]) (by kernel_rfl) (by simp) (AllReadyH.cons rfl (fun K hK => ?_) AllReadyH.nil)
   replace HS := Lib.hid HS.out.f1
   have f3 := HS.out.one.free 3
   have g3 := HS.out.one.cell 3 _ rfl
   skip
   go_simp
   clear f3 g3
   replace HS := Lib.hid (HS.out.put1 3 (.slice A2 (l.length + 1) c2))
   generalize w104.setCell ⟨bt, 3, none⟩ (.slice A2 (l.length + 1) c2) = w105 at *
   refine hK.out _ _ trivial (fun _ => ?_)
   clear hK K
   (try simp only [List.getElem_toArray, List.getElem_cons_succ, List.getElem_cons_zero, Act.put, List.setIfInBounds_toArray, List.set_cons_zero, List.set_cons_succ])
   refine wpAnyH_done (by kernel_rfl) ?_ _
   go_wp2_with fail
   rcases hcm : tIs C.L ⟨#[44]⟩ jx with _ | _
   ·refine (haveN HS.out hcm).mono ?_
    clear HS; rintro e w106 ⟨rfl, HS⟩
    have hR := HR.out
    rw [hcm] at hR
    simp only [if_true, Bool.false_eq_true, if_false, Res.assoc_] at hR
    replace HR := Lib.hid hR
    clear hR
    clear hcm
    go_wp2_with fail
    refine (needq HS.out ⟨#[125]⟩).mono ?_
    clear HS; rintro e w107 (⟨hr, rfl, m⟩ | ⟨hr, rfl, HS⟩)
    ·go_wp2; exact ⟨rfl, badO (bindB HR.out hr) m⟩
    replace HR := bindO HR.out hr
    clear hr
    replace HS := Lib.hid HS.out.f1
    replace HS := Lib.hid (HS.out.kids 27 nm 0 i64_0 hnm)
    replace HS := Lib.hid HS.out.f2
    replace HS := Lib.hid HS.out.f1
    obtain ⟨-, -, -, -, b0, b1, b2, b3⟩ := (HS.out.blk 2 rfl).all4
    obtain ⟨f0, f1, f2, f3, g0, g1, g2, g3⟩ := (HS.out.blk 1 rfl).all4
    go_wp2_with fail
    have hf := finO HS.out HR
    try simp only [List.length_append, List.length_cons, List.length_nil, Nat.zero_add] at hf
    exact bodyPost_ret (v := .agg _) (results_cell4 (fn := Tryz.f164) rfl hf.1 rfl) rfl hf.2
   refine (haveY HS.out hcm).mono ?_
   clear HS; rintro e w106 ⟨rfl, HS⟩
   have hR := HR.out
   rw [hcm] at hR
   simp only [if_true, Bool.false_eq_true, if_false, Res.assoc_] at hR
   replace HR := Lib.hid hR
   clear hR
   clear hcm
   go_wp2_with fail
   replace HS := Lib.hid HS.out.f2
   replace HS := Lib.hid HS.out.f1
   replace HS := Lib.hid HS.out.f2
   go_roundg g
   case measure => omega
   case rel => exact ⟨_, A2, c2, V2, (jx + 1), (by have h := HS.out; rw [show l.length + 1 = (l ++ [x]).length by simp] at h; exact h), HR, by simp; omega⟩
theorem first_of (C : PC) {u : Nat → Res Nd} (HX : POk C 93 (exprM C.L u)) (HRD : POk C 91 (roundM C.L u)) : POk C 164 (firstM C.L u) := by
 intro w i h hw
 rcases h1 : tIs C.L ⟨#[40]⟩ i with _ | _
 rotate_left
 ·exact fst_paren C w i h hw HX HRD h1
 rcases h2 : tIs C.L ⟨#[38]⟩ i with _ | _
 rotate_left
 ·exact fst_addr C w i h hw HX HRD h1 h2
 rcases h3 : tIs C.L ⟨#[105, 110, 116]⟩ i with _ | _
 rotate_left
 ·exact fst_int C w i h hw HX HRD h1 h2 h3
 rcases h4 : tIs C.L ⟨#[108, 111, 110, 103]⟩ i with _ | _
 rotate_left
 ·exact fst_long C w i h hw HX HRD h1 h2 h3 h4
 rcases h5 : tIs C.L ⟨#[99, 111, 117, 110, 116]⟩ i with _ | _
 rotate_left
 ·exact fst_count C w i h hw HX HRD h1 h2 h3 h4 h5
 rcases h6 : tIs C.L ⟨#[101, 120, 116, 114, 97]⟩ i with _ | _
 rotate_left
 ·exact fst_extra C w i h hw HX HRD h1 h2 h3 h4 h5 h6
 rcases n0 : tNm C.L (i + 0) with _ | _
 ·exact fst_num C w i h hw HX HRD h1 h2 h3 h4 h5 h6 n0
 rcases hb : tIs C.L ⟨#[123]⟩ (i + 1) with _ | _
 ·exact fst_word C w i h hw HX HRD h1 h2 h3 h4 h5 h6 n0 hb
 ·exact fst_made C w i h hw HX HRD h1 h2 h3 h4 h5 h6 n0 hb
end Go.Proofs.YtgegfbopogcjpaaGreatDoor
namespace Go.Proofs.YtgegfbopogcjpaaGreatDoor
open Go.RowKit
set_option linter.unusedVariables false
set_option linter.unusedSimpArgs false
set_option maxRecDepth 100000
set_option maxHeartbeats 4000000
def PoRel (C : PC) (u : Nat → Res Nd) (R : Res Nd) (w : World) (bt gk : Nat) (wr : World) : Prop :=
 ∃ (x : Nd) (A : Option Addr) (c : Nat) (V : Nat → Prop) (j : Nat), Hid (SP C w wr j [nd V x A c, bx bt 24 #[.int .i64 x.k, .string x.t, .int .i64 x.num, .slice A x.kids.length c], bx w.heap.size 24 #[.int .i64 0, .string ⟨#[]⟩, .int .i64 0, .slice none 0 0]]) ∧ Hid (postM C.L u gk x j = R)
theorem unary_neg (C : PC) (F : Nat) (w : World) (i : Nat) (h : PSt C w i) (hwet : unaryM C.L (F + 1) i ≠ .dry) (HX : POk C 158 (unaryM C.L F)) (h1 : tIs C.L ⟨#[45]⟩ i = true) : Calls Tryz.prog 158 #[.pointer (some ⟨C.p, 0, none⟩)] w (NodeOut C w (unaryM C.L (F + 1) i)) := by
 obtain ⟨R, HR⟩ : ∃ R, Hid (unaryM C.L (F + 1) i = R) := ⟨_, rfl⟩
 rw [HR.out] at hwet ⊢
 have HW := Lib.hid hwet
 have hR := HR.out
 rw [unaryM] at hR
 replace HR := Lib.hid hR
 have HS := Lib.hid (h.st.box 24 #[.int .i64 0, .string ⟨#[]⟩, .int .i64 0, .slice none 0 0])
 clear h hR hwet
 go_enter Tryz.func158, Tryz.ntmps158
 go_wp2_with fail
 generalize w.alloc (.cells #[.int .i64 0, .string ⟨#[]⟩, .int .i64 0, .slice none 0 0] 24) = w0 at *
 refine (haveY HS.out h1).mono ?_
 clear HS; rintro e w1 ⟨rfl, HS⟩
 replace HR := ifY HR.out h1
 go_wp2_with fail
 refine (subq HX HS.out (bindW HR.out HW.out)).mono ?_
 clear HS; rintro e w2 (⟨k, hr, rfl, m⟩ | ⟨x, j, Ax, cx, Vx, hr, rfl, HS⟩)
 ·go_wp2; exact ⟨rfl, badO (bindB HR.out hr) m⟩
 replace HR := bindO HR.out hr
 clear hr
 go_wp2_with fail
 replace HS := Lib.hid (HS.out.box 24 #[.int .i64 x.k, .string x.t, .int .i64 x.num, .slice Ax x.kids.length cx])
 generalize w2.alloc (.cells #[.int .i64 x.k, .string x.t, .int .i64 x.num, .slice Ax x.kids.length cx] 24) = w3 at *
 generalize w2.heap.size = by_ at *
 refine (nodeq HS.out 28 ⟨#[]⟩ (some ⟨by_, 0, none⟩) 1 1).mono ?_
 clear HS; rintro e w4 ⟨rfl, HS⟩
 replace HS := Lib.hid HS.out.f1
 replace HS := Lib.hid HS.out.f1
 replace HS := Lib.hid (HS.out.kid1 (x := x) 28 ⟨#[]⟩ 0 i64_0 (Nat.zero_le _))
 replace HS := Lib.hid HS.out.f1
 replace HS := Lib.hid HS.out.f1
 obtain ⟨f0, f1, f2, f3, g0, g1, g2, g3⟩ := (HS.out.blk 1 rfl).all4
 go_wp2_with fail
 have hf := finO HS.out HR
 try simp only [List.length_append, List.length_cons, List.length_nil, Nat.zero_add] at hf
 exact bodyPost_ret (v := .agg _) (results_cell4 (fn := Tryz.f158) rfl hf.1 rfl) rfl hf.2
theorem unary_not (C : PC) (F : Nat) (w : World) (i : Nat) (h : PSt C w i) (hwet : unaryM C.L (F + 1) i ≠ .dry) (HX : POk C 158 (unaryM C.L F)) (h1 : tIs C.L ⟨#[45]⟩ i = false) (h2 : tIs C.L ⟨#[33]⟩ i = true) : Calls Tryz.prog 158 #[.pointer (some ⟨C.p, 0, none⟩)] w (NodeOut C w (unaryM C.L (F + 1) i)) := by
 obtain ⟨R, HR⟩ : ∃ R, Hid (unaryM C.L (F + 1) i = R) := ⟨_, rfl⟩
 rw [HR.out] at hwet ⊢
 have HW := Lib.hid hwet
 have hR := HR.out
 rw [unaryM] at hR
 replace HR := Lib.hid hR
 have HS := Lib.hid (h.st.box 24 #[.int .i64 0, .string ⟨#[]⟩, .int .i64 0, .slice none 0 0])
 clear h hR hwet
 go_enter Tryz.func158, Tryz.ntmps158
 go_wp2_with fail
 generalize w.alloc (.cells #[.int .i64 0, .string ⟨#[]⟩, .int .i64 0, .slice none 0 0] 24) = w0 at *
 refine (haveN HS.out h1).mono ?_
 clear HS; rintro e w1 ⟨rfl, HS⟩
 replace HR := ifN HR.out h1
 go_wp2_with fail
 refine (haveY HS.out h2).mono ?_
 clear HS; rintro e w2 ⟨rfl, HS⟩
 replace HR := ifY HR.out h2
 go_wp2_with fail
 refine (subq HX HS.out (bindW HR.out HW.out)).mono ?_
 clear HS; rintro e w3 (⟨k, hr, rfl, m⟩ | ⟨x, j, Ax, cx, Vx, hr, rfl, HS⟩)
 ·go_wp2; exact ⟨rfl, badO (bindB HR.out hr) m⟩
 replace HR := bindO HR.out hr
 clear hr
 go_wp2_with fail
 replace HS := Lib.hid (HS.out.box 24 #[.int .i64 x.k, .string x.t, .int .i64 x.num, .slice Ax x.kids.length cx])
 generalize w3.alloc (.cells #[.int .i64 x.k, .string x.t, .int .i64 x.num, .slice Ax x.kids.length cx] 24) = w4 at *
 generalize w3.heap.size = by_ at *
 refine (nodeq HS.out 29 ⟨#[]⟩ (some ⟨by_, 0, none⟩) 1 1).mono ?_
 clear HS; rintro e w5 ⟨rfl, HS⟩
 replace HS := Lib.hid HS.out.f1
 replace HS := Lib.hid HS.out.f1
 replace HS := Lib.hid (HS.out.kid1 (x := x) 29 ⟨#[]⟩ 0 i64_0 (Nat.zero_le _))
 replace HS := Lib.hid HS.out.f1
 replace HS := Lib.hid HS.out.f1
 obtain ⟨f0, f1, f2, f3, g0, g1, g2, g3⟩ := (HS.out.blk 1 rfl).all4
 go_wp2_with fail
 have hf := finO HS.out HR
 try simp only [List.length_append, List.length_cons, List.length_nil, Nat.zero_add] at hf
 exact bodyPost_ret (v := .agg _) (results_cell4 (fn := Tryz.f158) rfl hf.1 rfl) rfl hf.2
theorem unary_post (C : PC) (F : Nat) (w : World) (i : Nat) (h : PSt C w i) (hwet : unaryM C.L (F + 1) i ≠ .dry) (HEX : POk C 93 (exprM C.L (unaryM C.L F))) (HFI : POk C 164 (firstM C.L (unaryM C.L F))) (h1 : tIs C.L ⟨#[45]⟩ i = false) (h2 : tIs C.L ⟨#[33]⟩ i = false) : Calls Tryz.prog 158 #[.pointer (some ⟨C.p, 0, none⟩)] w (NodeOut C w (unaryM C.L (F + 1) i)) := by
 obtain ⟨R, HR⟩ : ∃ R, Hid (unaryM C.L (F + 1) i = R) := ⟨_, rfl⟩
 rw [HR.out] at hwet ⊢
 have HW := Lib.hid hwet
 have hR := HR.out
 rw [unaryM] at hR
 replace HR := Lib.hid hR
 have HS := Lib.hid (h.st.box 24 #[.int .i64 0, .string ⟨#[]⟩, .int .i64 0, .slice none 0 0])
 clear h hR hwet
 go_enter Tryz.func158, Tryz.ntmps158
 go_wp2_with fail
 generalize w.alloc (.cells #[.int .i64 0, .string ⟨#[]⟩, .int .i64 0, .slice none 0 0] 24) = w0 at *
 refine (haveN HS.out h1).mono ?_
 clear HS; rintro e w1 ⟨rfl, HS⟩
 replace HR := ifN HR.out h1
 go_wp2_with fail
 refine (haveN HS.out h2).mono ?_
 clear HS; rintro e w2 ⟨rfl, HS⟩
 replace HR := ifN HR.out h2
 go_wp2_with fail
 refine (subq HFI HS.out (bindW HR.out HW.out)).mono ?_
 clear HS; rintro e w3 (⟨k, hr, rfl, m⟩ | ⟨x, j0, Ax, cx, Vx, hr, rfl, HS⟩)
 ·go_wp2; exact ⟨rfl, badO (bindB HR.out hr) m⟩
 replace HR := bindO HR.out hr
 clear hr
 go_wp2_with fail
 replace HS := Lib.hid (HS.out.box 24 #[.int .i64 x.k, .string x.t, .int .i64 x.num, .slice Ax x.kids.length cx])
 generalize w3.alloc (.cells #[.int .i64 x.k, .string x.t, .int .i64 x.num, .slice Ax x.kids.length cx] 24) = w4 at *
 generalize w3.heap.size = bt at *
 go_loopg [] (C.L.length + 1) (fun gk wr => PoRel C (unaryM C.L F) R w bt gk wr)
 case atStart => exact ⟨x, Ax, cx, _, j0, HS.out.f1, HR⟩
 case round =>
  clear HS HR; obtain ⟨x, Ax, cx, Vx, j, HS, HR⟩ := hrel
  cases gk with
  | zero => exact absurd (show Res.dry = R from HR.out) (fun e => HW.out e.symm)
  | succ g =>
  have hR := HR.out
  rw [postM] at hR
  replace HR := Lib.hid hR
  clear hR
  obtain ⟨w100, rfl⟩ : ∃ x, x = wr := ⟨_, rfl⟩
  go_wp2_with fail
  rcases ht : tIs C.L ⟨#[46]⟩ j with _ | _
  ·refine (haveN HS.out ht).mono ?_
   clear HS; rintro e w101 ⟨rfl, HS⟩
   replace HR := ifN HR.out ht
   go_wp2_with fail
   clear ht
   rcases ht : tIs C.L ⟨#[40]⟩ j with _ | _
   ·refine (isq HS.out ht).mono ?_
    clear HS; rintro e w102 ⟨rfl, HS⟩
    replace HR := ifN HR.out ht
    clear ht
    replace HS := Lib.hid HS.out.f2
    replace HS := Lib.hid HS.out.f1
    obtain ⟨-, -, -, -, b0, b1, b2, b3⟩ := (HS.out.blk 2 rfl).all4
    obtain ⟨f0, f1, f2, f3, g0, g1, g2, g3⟩ := (HS.out.blk 1 rfl).all4
    go_wp2_with fail
    have hf := finX HS.out HR
    exact bodyPost_ret (v := .agg _) (results_cell4 (fn := Tryz.f158) rfl hf.1 rfl) rfl hf.2
   refine (isq HS.out ht).mono ?_
   clear HS; rintro e w102 ⟨rfl, HS⟩
   replace HR := ifY HR.out ht
   clear ht
   obtain ⟨-, -, -, -, b0, b1, b2, b3⟩ := (HS.out.blk 1 rfl).all4
   go_wp2_with fail
   clear b0 b1 b2 b3
   refine (callq (u := unaryM C.L F) HEX HS.out (bindW HR.out HW.out)).mono ?_
   clear HS; rintro e w103 (⟨k, hr, rfl, m⟩ | ⟨ks, j2, A2, c2, V2, hr, rfl, HS⟩)
   ·go_wp2; exact ⟨rfl, badO (bindB HR.out hr) m⟩
   replace HR := bindO HR.out hr
   clear hr
   replace HS := Lib.hid HS.out.f1
   obtain ⟨f0, f1, f2, f3, g0, g1, g2, g3⟩ := HS.out.one.all4
   go_wp2_with fail
   clear f0 f1 f2 f3 g0 g1 g2 g3
   replace HS := Lib.hid (HS.out.put4 (.int .i64 25) (.string ⟨#[]⟩) (.int .i64 0) (.slice A2 (ks.length + 1) c2))
   generalize (((((w103).setCell ⟨bt, 0, none⟩ (.int .i64 25)).setCell ⟨bt, 1, none⟩ (.string ⟨#[]⟩)).setCell ⟨bt, 2, none⟩ (.int .i64 0)).setCell ⟨bt, 3, none⟩ (.slice A2 (ks.length + 1) c2)) = w104 at *
   replace HS := Lib.hid HS.out.f2
   replace HS := Lib.hid HS.out.f1
   replace HS := Lib.hid HS.out.f2
   go_wp2_with fail
   go_roundg g
   case measure => omega
   case rel => exact ⟨.mk 25 ⟨#[]⟩ 0 (x :: ks), A2, c2, _, j2, HS, HR⟩
  refine (haveY HS.out ht).mono ?_
  clear HS; rintro e w101 ⟨rfl, HS⟩
  replace HR := ifY HR.out ht
  go_wp2_with fail
  clear ht
  replace HS := Lib.hid (HS.out.below (Below.refl _ _).drew)
  refine wp_region_held_drew (S := fun _ => True) (by kernel_rfl) trivial (fun _ => ?_)
  generalize w101.drew = w102 at *
  (refine wpAnyH_take (i := 0) (v := ?_) rfl (by kernel_rfl) (by kernel_rfl) (by kernel_rfl) (fun _ _ _ h => h) (Or.inl ⟨by rfl, ?_⟩) (by assumption) ?_; rotate_left; · ((intro w hSw; (try dsimp only at hSw); go_simp) <;> with_reducible rfl); (try simp only [List.getElem_toArray, List.getElem_cons_succ, List.getElem_cons_zero, Act.put, List.setIfInBounds_toArray, List.set_cons_zero, List.set_cons_succ]))
  replace HS := Lib.hid HS.out.f2
  replace HS := Lib.hid HS.out.f2
  replace HS := Lib.hid HS.out.f2
  refine wpAnyH_grp [⟨1, some 25, []⟩, ⟨2, some 26, []⟩, ⟨3, some 27, [2]⟩, ⟨4, some 28, [1, 3]⟩] 1 (fun vs W => ∃ nm2 y, Hid (SP C w W (posq (vs 1) (j + 1)) (ifq (vs 3) (bx y 24 #[.int .i64 x.k, .string x.t, .int .i64 x.num, .slice Ax x.kids.length cx]) ++ [nd Vx x Ax cx, bx bt 24 #[.int .i64 x.k, .string x.t, .int .i64 x.num, .slice Ax x.kids.length cx], bx w.heap.size 24 #[.int .i64 0, .string ⟨#[]⟩, .int .i64 0, .slice none 0 0]])) ∧ OP (vs 1) (fun q_ => q_ = .string nm2 ∧ nameM C.L (j + 1) = .ok nm2 ((j + 1) + 1) ∧ nm2.size ≤ maxLen) ∧ OV (vs 2) (.agg #[.int .i64 x.k, .string x.t, .int .i64 x.num, .slice Ax x.kids.length cx]) ∧ OV (vs 3) (.slice (some ⟨y, 0, none⟩) 1 1) ∧ OV (vs 4) (.agg #[.int .i64 24, .string nm2, .int .i64 0, .slice (some ⟨y, 0, none⟩) 1 1])) (by rfl) (by kernel_rfl) ⟨⟨#[]⟩, 0, HS, OP.no _ rfl, OP.no _ rfl, OP.no _ rfl, OP.no _ rfl⟩ (fun _ _ _ => trivial) ⟨?_, ?_, ?_, ?_, trivial⟩ ?_
  ·clear HS; refine ⟨_, rfl, fun vs W h1 hd hn ⟨nm2, y, HS, e1, e2, e3, e4⟩ => ?_⟩
   rw [h1] at HS
   simp only [actG, old, Option.getD_some]; (try simp only [List.getElem_toArray, List.getElem_cons_succ, List.getElem_cons_zero, Act.put, List.setIfInBounds_toArray, List.set_cons_zero, List.set_cons_succ]); intro K hK
   go_simp
   refine (nameq (i := (j + 1)) HS.out).mono ?_
   clear HS; rintro e W (⟨hr, rfl, m⟩ | ⟨nm2, hr, hs, rfl, HS⟩)
   ·go_wp2; exact ⟨rfl, badO (bindB HR.out hr) m⟩
   exact hK.out _ _ ⟨nm2, y, HS, OP.is ⟨rfl, hr, hs⟩, e2, e3, OP.no _ hn.2.2.2.1⟩
  ·clear HS; refine ⟨_, rfl, fun vs W h2 hd hn ⟨nm2, y, HS, e1, e2, e3, e4⟩ => ?_⟩
   obtain ⟨-, -, -, -, b0, b1, b2, b3⟩ := Blk.all4 (HS.out.ok (bx bt 24 #[.int .i64 x.k, .string x.t, .int .i64 x.num, .slice Ax x.kids.length cx]) (by simp))
   simp only [actG, old, Option.getD_some]; (try simp only [List.getElem_toArray, List.getElem_cons_succ, List.getElem_cons_zero, Act.put, List.setIfInBounds_toArray, List.set_cons_zero, List.set_cons_succ]); intro K hK
   go_simp
   clear b0 b1 b2 b3
   exact hK.out _ _ ⟨nm2, y, HS, e1, OP.is rfl, OP.no _ hn.2.2.1, e4⟩
  ·clear HS; refine ⟨_, rfl, fun vs W h3 hd hn ⟨nm2, y, HS, e1, e2, e3, e4⟩ => ?_⟩
   obtain ⟨⟨v2, h2⟩, -⟩ := hd
   obtain rfl := e2 _ h2
   rw [h3] at HS
   simp only [actG, old, h2, Option.getD_some]; (try simp only [List.getElem_toArray, List.getElem_cons_succ, List.getElem_cons_zero, Act.put, List.setIfInBounds_toArray, List.set_cons_zero, List.set_cons_succ]); intro K hK
   go_simp
   exact hK.out _ _ ⟨nm2, W.heap.size, (HS.out.box 24 #[.int .i64 x.k, .string x.t, .int .i64 x.num, .slice Ax x.kids.length cx]), e1, e2, OP.is rfl, OP.no _ hn.2.2.2.1⟩
  ·clear HS; refine ⟨_, rfl, fun vs W h4 hd hn ⟨nm2, y, HS, e1, e2, e3, e4⟩ => ?_⟩
   obtain ⟨⟨v1, h1⟩, ⟨v3, h3⟩, -⟩ := hd
   obtain ⟨rfl, -, -⟩ := e1 _ h1
   obtain rfl := e3 _ h3
   simp only [actG, old, h1, h3, Option.getD_some]; (try simp only [List.getElem_toArray, List.getElem_cons_succ, List.getElem_cons_zero, Act.put, List.setIfInBounds_toArray, List.set_cons_zero, List.set_cons_succ]); intro K hK
   go_simp
   refine (nodeq HS.out _ _ _ _ _).mono ?_
   clear HS; rintro e W ⟨rfl, HS⟩
   exact hK.out _ _ ⟨nm2, y, HS, e1, e2, e3, OP.is rfl⟩
  clear HS; intro vs W ⟨nm2, y, HS, e1, e2, e3, e4⟩ hall
  obtain ⟨⟨v1, h1⟩, ⟨v2, h2⟩, ⟨v3, h3⟩, ⟨v4, h4⟩, -⟩ := hall
  obtain ⟨rfl, hr, hnm2⟩ := e1 _ h1
  obtain rfl := e2 _ h2
  obtain rfl := e3 _ h3
  obtain rfl := e4 _ h4
  rw [h1, h3] at HS
  simp only [posq, ifq, List.cons_append, List.nil_append] at HS
  simp only [actG, lisG, old, h1, h2, h3, h4, Option.getD_some, Option.isSome_some, if_true, List.length_cons, List.length_nil]; (try simp only [List.getElem_toArray, List.getElem_cons_succ, List.getElem_cons_zero, Act.put, List.setIfInBounds_toArray, List.set_cons_zero, List.set_cons_succ])
  clear h1 e1 h2 e2 h3 e3 h4 e4 vs
  obtain ⟨w103, rfl⟩ : ∃ x, x = W := ⟨_, rfl⟩
  replace HR := bindO HR.out hr
  clear hr
  refine wpAnyH_ready (rs := [5]) (by kernel_rfl) (by simp) (AllReadyH.cons rfl (fun K hK => ?_) AllReadyH.nil)
  replace HS := Lib.hid HS.out.f2
  obtain ⟨f0, f1, f2, f3, g0, g1, g2, g3⟩ := HS.out.one.all4
  go_wp2_with fail
  clear f0 f1 f2 f3 g0 g1 g2 g3
  replace HS := Lib.hid (HS.out.put4 (.int .i64 24) (.string nm2) (.int .i64 0) (.slice (some ⟨y, 0, none⟩) 1 1))
  generalize (((((w103).setCell ⟨bt, 0, none⟩ (.int .i64 24)).setCell ⟨bt, 1, none⟩ (.string nm2)).setCell ⟨bt, 2, none⟩ (.int .i64 0)).setCell ⟨bt, 3, none⟩ (.slice (some ⟨y, 0, none⟩) 1 1)) = w104 at *
  refine hK.out _ _ trivial (fun _ => ?_)
  clear hK K
  (try simp only [List.getElem_toArray, List.getElem_cons_succ, List.getElem_cons_zero, Act.put, List.setIfInBounds_toArray, List.set_cons_zero, List.set_cons_succ])
  refine wpAnyH_done (by kernel_rfl) ?_ _
  replace HS := Lib.hid HS.out.f2
  replace HS := Lib.hid HS.out.f2
  replace HS := Lib.hid (HS.out.kid1 (x := x) 24 nm2 0 i64_0 hnm2)
  replace HS := Lib.hid HS.out.f2
  replace HS := Lib.hid HS.out.f2
  replace HS := Lib.hid HS.out.f2
  go_wp2_with fail
  go_roundg g
  case measure => omega
  case rel => exact ⟨.mk 24 nm2 0 [x], some ⟨y, 0, none⟩, 1, _, ((j + 1) + 1), HS, HR⟩
theorem unary_all (C : PC) : ∀ F, POk C 158 (unaryM C.L F)
 | 0, w, i, h, hwet => absurd rfl hwet
 | F + 1, w, i, h, hwet => by
  have HX := unary_all C F
  have HEX := expr_of C (sum_of C (product_of C HX))
  have HFI := first_of C HEX (round_of C HEX)
  rcases h1 : tIs C.L ⟨#[45]⟩ i with _ | _
  rotate_left
  ·exact unary_neg C F w i h hwet HX h1
  rcases h2 : tIs C.L ⟨#[33]⟩ i with _ | _
  rotate_left
  ·exact unary_not C F w i h hwet HX h1 h2
  ·exact unary_post C F w i h hwet HEX HFI h1 h2
theorem expr_all (C : PC) (F : Nat) : POk C 93 (exprF C.L F) := expr_of C (sum_of C (product_of C (unary_all C F)))
theorem round_all (C : PC) (F : Nat) : POk C 91 (roundM C.L (unaryM C.L F)) := round_of C (expr_all C F)
end Go.Proofs.YtgegfbopogcjpaaGreatDoor
