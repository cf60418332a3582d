/- The parser: chains, products, sums, expressions. -/
import Derived.Test.YtgegfbopogcjpaaGreatDoorQ17
import Derived.Test.YtgegfbopogcjpaaGreatDoorQ18
import Derived.Deep.Cut
namespace Go.Proofs.YtgegfbopogcjpaaGreatDoor
open Go.RowKit
set_option linter.unusedVariables false
set_option linter.unusedSimpArgs false
set_option maxRecDepth 100000
set_option maxHeartbeats 4000000
def ChRel (C : PC) (part : Nat → Res Nd) (ss : List ByteArray) (R : Res Nd) (w : World) (bt gk : Nat) (wr : World) : Prop :=
 ∃ (x : Nd) (A : Option Addr) (c : Nat) (V : Nat → Prop) (j : Nat), Hid (SP C w wr j [nd V x A c, bx bt 24 #[.int .i64 x.k, .string x.t, .int .i64 x.num, .slice A x.kids.length c], bx w.heap.size 24 #[.int .i64 0, .string ⟨#[]⟩, .int .i64 0, .slice none 0 0]]) ∧ Hid (chainM C.L part ss gk x j = R)
theorem chain_of (C : PC) (fp : FuncId) (part : Nat → Res Nd) (hcf : Runs fp) (HX : POk C fp part) (ss : List ByteArray) (As : Option Addr) (cs : Nat) (hcs : ss.length ≤ cs) (hn10 : ss.length ≤ 10) (w : World) (i : Nat) (h : PSt C w i) (hsl : SL w ss As)
 (hwet : (part i).bind (fun x j => chainM C.L part ss (C.L.length + 1) x j) ≠ .dry) :
 Calls Tryz.prog 139 #[.pointer (some ⟨C.p, 0, none⟩), .func (.func fp) #[.pointer (some ⟨C.p, 0, none⟩)] #[], .slice As ss.length cs] w (NodeOut C w ((part i).bind (fun x j => chainM C.L part ss (C.L.length + 1) x j))) := by
 unfold Runs at hcf
 have HSL := Lib.hid hsl
 have H0 := Lib.hid h
 obtain ⟨R, HR⟩ : ∃ R, Hid ((part i).bind (fun x j => chainM C.L part ss (C.L.length + 1) x j) = R) := ⟨_, rfl⟩
 rw [HR.out] at hwet ⊢
 have HW := Lib.hid hwet
 have HS := Lib.hid (h.st.box 24 #[.int .i64 0, .string ⟨#[]⟩, .int .i64 0, .slice none 0 0])
 clear h hsl hwet
 go_enter Tryz.func139, Tryz.ntmps139
 go_wp2_with fail
 generalize w.alloc (.cells #[.int .i64 0, .string ⟨#[]⟩, .int .i64 0, .slice none 0 0] 24) = w0 at *
 refine (subq HX HS.out (bindW HR.out HW.out)).mono ?_
 clear HS; rintro e w1 (⟨k, hr, rfl, m⟩ | ⟨x, j0, Ax, cx, Vx, hr, rfl, HS⟩)
 ·go_wp2; exact ⟨rfl, badO (bindB HR.out hr) m⟩
 replace HR := bindO HR.out hr
 clear hr
 go_wp2_with fail
 replace HS := Lib.hid (HS.out.box 24 #[.int .i64 x.k, .string x.t, .int .i64 x.num, .slice Ax x.kids.length cx])
 generalize w1.alloc (.cells #[.int .i64 x.k, .string x.t, .int .i64 x.num, .slice Ax x.kids.length cx] 24) = w2 at *
 generalize w1.heap.size = bt at *
 go_loopg [] (C.L.length + 1) (fun gk wr => ChRel C part ss R w bt gk wr)
 case atStart => exact ⟨x, Ax, cx, _, j0, HS.out.f1, HR⟩
 case round =>
  clear HS HR; obtain ⟨x, Ax, cx, Vx, j, HS, HR⟩ := hrel
  cases gk with
  | zero => exact absurd (show Res.dry = R from HR.out) (fun e => HW.out e.symm)
  | succ g =>
  have hR := HR.out
  rw [chainM] at hR
  replace HR := Lib.hid hR
  clear hR
  obtain ⟨w100, rfl⟩ : ∃ x, x = wr := ⟨_, rfl⟩
  have IS := Lib.hid (is_any0 ss As cs C _ _ HS.out.z (HSL.out.mv H0.out HS.out.mv) hcs hn10)
  rcases ht : tIn C.L ss j with _ | _
  ·rw [ht] at IS
   replace HR := ifN HR.out ht
   clear ht
   go_wp2_with fail
   refine IS.out.mono ?_
   rintro e w101 ⟨rfl, hb⟩
   replace HS := Lib.hid (HS.out.below hb)
   clear IS hb
   replace HS := Lib.hid HS.out.f2
   replace HS := Lib.hid HS.out.f1
   obtain ⟨-, -, -, -, b0, b1, b2, b3⟩ := (HS.out.blk 2 rfl).all4
   obtain ⟨f0, f1, f2, f3, g0, g1, g2, g3⟩ := (HS.out.blk 1 rfl).all4
   go_wp2_with fail
   have hf := finX HS.out HR
   exact bodyPost_ret (v := .agg _) (results_cell4 (fn := Tryz.f139) rfl hf.1 rfl) rfl hf.2
  rw [ht] at IS
  replace HR := ifY HR.out ht
  have hjl := tIn_lt ht
  clear ht
  go_wp2_with fail
  refine IS.out.mono ?_
  rintro e w101 ⟨rfl, hb⟩
  replace HS := Lib.hid (HS.out.below hb)
  clear IS hb
  go_wp2_with fail
  have PK := Lib.hid (peek_any C _ _ 0 HS.out.z (by omega))
  obtain ⟨ta, hT⟩ := tokV_text C j
  unfold PeekOut at PK
  rw [Nat.add_zero, hT] at PK
  clear hT
  generalize tTx C.L j = TX at *
  generalize posAt C j = TP at *
  refine PK.out.mono ?_
  rintro e w102 ⟨rfl, hb⟩
  replace HS := Lib.hid (HS.out.below hb)
  clear PK hb
  go_wp2_with fail
  rw [tok_field1]
  go_wp2_with fail
  refine (op_any TX _).mono ?_
  rintro e w_ ⟨rfl, rfl⟩
  have hopi := i64_op TX
  generalize opOf TX = op at *
  have q1 := HS.out.z.blk.cell 1 (.int .i64 (j : Int)) rfl
  have f1 := HS.out.z.blk.free 1
  have hln := HS.out.z.len
  have hw1 : IntKind.i64.wrap ((j : Int) + 1) = (j : Int) + 1 := IntWalk.i64_in _ (by omega)
  have hS : SP C w (w102.setCell ⟨C.p, 1, none⟩ (.int .i64 ((j : Int) + 1))) (j + 1) _ := HS.out.mv1 (by omega)
  go_wp2_with fail
  clear q1 f1 hw1 HS
  have HS := Lib.hid hS
  clear hS
  generalize w102.setCell ⟨C.p, 1, none⟩ (.int .i64 ((j : Int) + 1)) = w103 at *
  replace HS := Lib.hid (HS.out.below (Below.refl _ _).drew)
  refine wp_region_held_drew (S := fun _ => True) (by kernel_rfl) trivial (fun _ => ?_)
  generalize w103.drew = w104 at *
  (refine wpAnyH_take (i := 1) (v := ?_) rfl (by kernel_rfl) (by kernel_rfl) (by kernel_rfl) (fun _ _ _ h => h) (Or.inl ⟨by rfl, ?_⟩) (by assumption) ?_; rotate_left; · ((intro w hSw; (try dsimp only at hSw); go_simp) <;> with_reducible rfl); (try simp only [List.getElem_toArray, List.getElem_cons_succ, List.getElem_cons_zero, Act.put, List.setIfInBounds_toArray, List.set_cons_zero, List.set_cons_succ]))
  replace HS := Lib.hid HS.out.f2
  replace HS := Lib.hid HS.out.f2
  replace HS := Lib.hid HS.out.f2
  refine wpAnyH_grp [⟨0, some 25, []⟩, ⟨2, some 27, []⟩] 3 (fun vs W => ∃ y Ay cy Vy jy, Hid (SP C w W (altq (vs 2) (j + 1) jy) (ifq (vs 2) (nd Vy y Ay cy) ++ [nd Vx x Ax cx, bx bt 24 #[.int .i64 x.k, .string x.t, .int .i64 x.num, .slice Ax x.kids.length cx], bx w.heap.size 24 #[.int .i64 0, .string ⟨#[]⟩, .int .i64 0, .slice none 0 0]])) ∧ OV (vs 0) (.agg #[.int .i64 x.k, .string x.t, .int .i64 x.num, .slice Ax x.kids.length cx]) ∧ OP (vs 2) (fun q_ => q_ = .agg #[.int .i64 y.k, .string y.t, .int .i64 y.num, .slice Ay y.kids.length cy] ∧ part (j + 1) = .ok y jy)) (by rfl) (by kernel_rfl) ⟨.mk 0 ⟨#[]⟩ 0 [], none, 0, fun _ => False, 0, HS, OP.no _ rfl, OP.no _ rfl⟩ (fun _ _ _ => trivial) ⟨?_, ?_, trivial⟩ ?_
  ·clear HS; refine ⟨_, rfl, fun vs W h0 hd hn ⟨y, Ay, cy, Vy, jy, HS, e0, e2⟩ => ?_⟩
   obtain ⟨-, -, -, -, b0, b1, b2, b3⟩ := Blk.all4 (HS.out.ok (bx bt 24 #[.int .i64 x.k, .string x.t, .int .i64 x.num, .slice Ax x.kids.length cx]) (by simp))
   simp only [actG, old, Option.getD_some]; (try simp only [List.getElem_toArray, List.getElem_cons_succ, List.getElem_cons_zero, Act.put, List.setIfInBounds_toArray, List.set_cons_zero, List.set_cons_succ]); intro K hK
   go_simp
   clear b0 b1 b2 b3
   exact hK.out _ _ ⟨y, Ay, cy, Vy, jy, HS, OP.is rfl, e2⟩
  ·clear HS; refine ⟨_, rfl, fun vs W h2 hd hn ⟨y, Ay, cy, Vy, jy, HS, e0, e2⟩ => ?_⟩
   rw [h2] at HS
   simp only [actG, old, Option.getD_some]; (try simp only [List.getElem_toArray, List.getElem_cons_succ, List.getElem_cons_zero, Act.put, List.setIfInBounds_toArray, List.set_cons_zero, List.set_cons_succ]); intro K hK
   go_simp
   refine (subq HX HS.out (bindW HR.out HW.out)).mono ?_
   clear HS; rintro e W (⟨k, hr, rfl, m⟩ | ⟨y, jy, Ay, cy, Vy, hr, rfl, HS⟩)
   ·go_wp2; exact ⟨rfl, badO (bindB HR.out hr) m⟩
   exact hK.out _ _ ⟨y, Ay, cy, Vy, jy, HS, e0, OP.is ⟨rfl, hr⟩⟩
  clear HS; intro vs W ⟨y, Ay, cy, Vy, jy, HS, e0, e2⟩ hall
  obtain ⟨⟨v0, h0⟩, ⟨v2, h2⟩, -⟩ := hall
  obtain rfl := e0 _ h0
  obtain ⟨rfl, hr⟩ := e2 _ h2
  rw [h2] at HS
  simp only [altq_some, ifq, List.cons_append, List.nil_append] at HS
  simp only [actG, lisG, old, h0, h2, Option.getD_some, Option.isSome_some, if_true, List.length_cons, List.length_nil]; (try simp only [List.getElem_toArray, List.getElem_cons_succ, List.getElem_cons_zero, Act.put, List.setIfInBounds_toArray, List.set_cons_zero, List.set_cons_succ])
  clear h0 e0 h2 e2 vs
  obtain ⟨w105, rfl⟩ : ∃ x, x = W := ⟨_, rfl⟩
  replace HR := bindO HR.out hr
  clear hr
  refine wpAnyH_ready (rs := [3]) (by kernel_rfl) (by simp) (AllReadyH.cons rfl (fun K hK => ?_) AllReadyH.nil)
  go_simp
  replace HS := Lib.hid (HS.out.box 24 #[.int .i64 x.k, .string x.t, .int .i64 x.num, .slice Ax x.kids.length cx, .int .i64 y.k, .string y.t, .int .i64 y.num, .slice Ay y.kids.length cy])
  generalize w105.alloc (.cells #[.int .i64 x.k, .string x.t, .int .i64 x.num, .slice Ax x.kids.length cx, .int .i64 y.k, .string y.t, .int .i64 y.num, .slice Ay y.kids.length cy] 24) = w106 at *
  generalize w105.heap.size = by_ at *
  refine hK.out _ _ trivial (fun _ => ?_)
  clear hK K
  (try simp only [List.getElem_toArray, List.getElem_cons_succ, List.getElem_cons_zero, Act.put, List.setIfInBounds_toArray, List.set_cons_zero, List.set_cons_succ])
  refine wpAnyH_ready (rs := [4]) (by kernel_rfl) (by simp) (AllReadyH.cons rfl (fun K hK => ?_) AllReadyH.nil)
  go_simp
  refine (nodeq HS.out 32 ⟨#[]⟩ (some ⟨by_, 0, none⟩) 2 2).mono ?_
  clear HS; rintro e w107 ⟨rfl, HS⟩
  refine hK.out _ _ trivial (fun _ => ?_)
  clear hK K
  (try simp only [List.getElem_toArray, List.getElem_cons_succ, List.getElem_cons_zero, Act.put, List.setIfInBounds_toArray, List.set_cons_zero, List.set_cons_succ])
  refine wpAnyH_ready (rs := [5]) (by kernel_rfl) (by simp) (AllReadyH.cons rfl (fun K hK => ?_) AllReadyH.nil)
  replace HS := Lib.hid HS.out.f3
  obtain ⟨f0, f1, f2, f3, g0, g1, g2, g3⟩ := HS.out.one.all4
  go_wp2_with fail
  clear f0 f1 f2 f3 g0 g1 g2 g3
  replace HS := Lib.hid (HS.out.put4 (.int .i64 32) (.string ⟨#[]⟩) (.int .i64 0) (.slice (some ⟨by_, 0, none⟩) 2 2))
  generalize (((((w107).setCell ⟨bt, 0, none⟩ (.int .i64 32)).setCell ⟨bt, 1, none⟩ (.string ⟨#[]⟩)).setCell ⟨bt, 2, none⟩ (.int .i64 0)).setCell ⟨bt, 3, none⟩ (.slice (some ⟨by_, 0, none⟩) 2 2)) = w108 at *
  refine hK.out _ _ trivial (fun _ => ?_)
  clear hK K
  (try simp only [List.getElem_toArray, List.getElem_cons_succ, List.getElem_cons_zero, Act.put, List.setIfInBounds_toArray, List.set_cons_zero, List.set_cons_succ])
  refine wpAnyH_done (by kernel_rfl) ?_ _
  have f2 := HS.out.one.free 2
  have g2 := HS.out.one.cell 2 _ rfl
  go_wp2_with fail
  clear f2 g2
  replace HS := Lib.hid (HS.out.put1 2 (.int .i64 op))
  simp only [List.setIfInBounds_toArray, List.set_cons_zero, List.set_cons_succ] at HS
  generalize w108.setCell ⟨bt, 2, none⟩ (.int .i64 op) = w109 at *
  replace HS := Lib.hid HS.out.f2
  replace HS := Lib.hid HS.out.f3
  replace HS := Lib.hid HS.out.f3
  replace HS := Lib.hid (HS.out.kid2 (x := x) (z := y) 32 ⟨#[]⟩ op hopi (Nat.zero_le _))
  replace HS := Lib.hid HS.out.f2
  replace HS := Lib.hid HS.out.f2
  replace HS := Lib.hid HS.out.f2
  go_roundg g
  case measure => omega
  case rel => exact ⟨.mk 32 ⟨#[]⟩ op [x, y], some ⟨by_, 0, none⟩, 2, _, jy, HS, HR⟩
theorem chainq {C : PC} {w W : World} {i : Nat} {l : List Rc} (fp : FuncId) (part : Nat → Res Nd) (hcf : Runs fp) (HX : POk C fp part) (h : SP C w W i l) (a b c d : ByteArray) (hw : (part i).bind (fun x j => chainM C.L part [a, b, c, d] (C.L.length + 1) x j) ≠ .dry) :
 Calls Tryz.prog 139 #[.pointer (some ⟨C.p, 0, none⟩), .func (.func fp) #[.pointer (some ⟨C.p, 0, none⟩)] #[], .slice (some ⟨W.heap.size, 0, none⟩) 4 4] (W.alloc (.cells #[.string a, .string b, .string c, .string d] 9)) fun e W' => (∃ k, (part i).bind (fun x j => chainM C.L part [a, b, c, d] (C.L.length + 1) x j) = .bad k ∧ e = badP C k ∧ Mv C.p w W') ∨ (∃ x j A c2 V, (part i).bind (fun x j => chainM C.L part [a, b, c, d] (C.L.length + 1) x j) = .ok x j ∧ e = .returned (.agg #[.int .i64 x.k, .string x.t, .int .i64 x.num, .slice A x.kids.length c2]) ∧ Hid (SP C w W' j (nd V x A c2 :: l))) := by
 have hb : Below W.heap.size W (W.alloc (.cells #[.string a, .string b, .string c, .string d] 9)) := (Below.refl _ _).alloc (Nat.le_refl _) _
 have h1 := h.below hb
 refine (chain_of C fp part hcf HX [a, b, c, d] _ 4 (by simp) (by simp) _ i h1.z (SL_of W [a, b, c, d]) hw).mono ?_
 rcases hm : (part i).bind (fun x j => chainM C.L part [a, b, c, d] (C.L.length + 1) x j) with ⟨x, j⟩ | k | _
 ·rintro e W' ⟨A, c2, rfl, hr, h', m'⟩
  exact .inr ⟨x, j, A, c2, fun y => (W.alloc (.cells #[.string a, .string b, .string c, .string d] 9)).heap.size ≤ y ∧ y < W'.heap.size, rfl, rfl, h1.add (h1.to m' h') (RepV.keep (Nat.le_refl _) (fun y hv hlt => ⟨rfl, hv, hlt⟩) _ _ hr) fun y hy => hy⟩
 ·rintro e W' ⟨rfl, m'⟩
  exact .inl ⟨k, rfl, rfl, h1.mv.trans_ m'⟩
 ·exact absurd hm hw
theorem isq2 {C : PC} {w W : World} {i : Nat} {l : List Rc} (h : SP C w W i l) {a s : ByteArray} {b : Bool} (ht : tIn C.L [a, s] i = b) : Calls Tryz.prog 28 #[.pointer (some ⟨C.p, 0, none⟩), .slice (some ⟨W.heap.size, 0, none⟩) 2 2] (W.alloc (.cells #[.string a, .string s] 9)) fun e W' => e = .returned (.bool b) ∧ Hid (SP C w W' i l) := by
 have hb : Below W.heap.size W (W.alloc (.cells #[.string a, .string s] 9)) := (Below.refl _ _).alloc (Nat.le_refl _) _
 refine (is_any0 [a, s] _ 2 C _ i (h.below hb).z (SL_of W [a, s]) (by simp) (by simp)).mono ?_
 rw [ht]
 rintro e W' ⟨rfl, hb2⟩
 exact ⟨rfl, (h.below hb).below hb2⟩
theorem product_of0 (C : PC) {u : Nat → Res Nd} (w : World) (i : Nat) (h : PSt C w i) (hwet : productM C.L u i ≠ .dry) (HX : POk C 158 u) : Calls Tryz.prog 140 #[.pointer (some ⟨C.p, 0, none⟩)] w (NodeOut C w (productM C.L u i)) := by
 obtain ⟨R, HR⟩ : ∃ R, Hid (productM C.L u i = R) := ⟨_, rfl⟩
 rw [HR.out] at hwet ⊢
 have HW := Lib.hid hwet
 have hR := HR.out
 unfold productM at hR
 replace HR := Lib.hid hR
 have HS := Lib.hid (h.st.box 24 #[.int .i64 0, .string ⟨#[]⟩, .int .i64 0, .slice none 0 0])
 clear h hR hwet
 go_enter Tryz.func140, Tryz.ntmps140
 go_wp2_with fail
 have hz : (w.alloc (.cells #[.int .i64 0, .string ⟨#[]⟩, .int .i64 0, .slice none 0 0] 24)).heap.size = w.heap.size + 1 := by simp
 generalize w.alloc (.cells #[.int .i64 0, .string ⟨#[]⟩, .int .i64 0, .slice none 0 0] 24) = w0 at *
 rw [← hz]
 clear hz
 refine (chainq _ _ (cf_fn Tryz.func158 (by kernel_rfl) (by kernel_rfl)) HX HS.out ⟨#[42]⟩ ⟨#[47]⟩ ⟨#[37]⟩ ⟨#[38]⟩ (fun e => HW.out (HR.out.symm.trans e))).mono ?_
 clear HS; rintro e w1 (⟨k, hr, rfl, m⟩ | ⟨x, j, Ax, cx, Vx, hr, rfl, HS⟩)
 ·go_wp2; exact ⟨rfl, badO (hr.symm.trans HR.out) m⟩
 replace HR := Lib.hid (hr.symm.trans HR.out)
 clear hr
 replace HS := Lib.hid HS.out.f1
 replace HS := Lib.hid HS.out.f1
 obtain ⟨f0, f1, f2, f3, g0, g1, g2, g3⟩ := (HS.out.blk 1 rfl).all4
 go_wp2_with fail
 have hf := finX HS.out HR
 exact bodyPost_ret (v := .agg _) (results_cell4 (fn := Tryz.f140) rfl hf.1 rfl) rfl hf.2
theorem product_of (C : PC) {u : Nat → Res Nd} (HX : POk C 158 u) : POk C 140 (productM C.L u) := fun w i h hw => product_of0 C w i h hw HX
theorem sum_of0 (C : PC) {u : Nat → Res Nd} (w : World) (i : Nat) (h : PSt C w i) (hwet : sumM C.L u i ≠ .dry) (HX : POk C 140 (productM C.L u)) : Calls Tryz.prog 116 #[.pointer (some ⟨C.p, 0, none⟩)] w (NodeOut C w (sumM C.L u i)) := by
 obtain ⟨R, HR⟩ : ∃ R, Hid (sumM C.L u i = R) := ⟨_, rfl⟩
 rw [HR.out] at hwet ⊢
 have HW := Lib.hid hwet
 have hR := HR.out
 unfold sumM at hR
 replace HR := Lib.hid hR
 have HS := Lib.hid (h.st.box 24 #[.int .i64 0, .string ⟨#[]⟩, .int .i64 0, .slice none 0 0])
 clear h hR hwet
 go_enter Tryz.func116, Tryz.ntmps116
 go_wp2_with fail
 have hz : (w.alloc (.cells #[.int .i64 0, .string ⟨#[]⟩, .int .i64 0, .slice none 0 0] 24)).heap.size = w.heap.size + 1 := by simp
 generalize w.alloc (.cells #[.int .i64 0, .string ⟨#[]⟩, .int .i64 0, .slice none 0 0] 24) = w0 at *
 rw [← hz]
 clear hz
 refine (chainq _ _ (cf_fn Tryz.func140 (by kernel_rfl) (by kernel_rfl)) HX HS.out ⟨#[43]⟩ ⟨#[45]⟩ ⟨#[124]⟩ ⟨#[94]⟩ (fun e => HW.out (HR.out.symm.trans e))).mono ?_
 clear HS; rintro e w1 (⟨k, hr, rfl, m⟩ | ⟨x, j, Ax, cx, Vx, hr, rfl, HS⟩)
 ·go_wp2; exact ⟨rfl, badO (hr.symm.trans HR.out) m⟩
 replace HR := Lib.hid (hr.symm.trans HR.out)
 clear hr
 replace HS := Lib.hid HS.out.f1
 replace HS := Lib.hid HS.out.f1
 obtain ⟨f0, f1, f2, f3, g0, g1, g2, g3⟩ := (HS.out.blk 1 rfl).all4
 go_wp2_with fail
 have hf := finX HS.out HR
 exact bodyPost_ret (v := .agg _) (results_cell4 (fn := Tryz.f116) rfl hf.1 rfl) rfl hf.2
theorem sum_of (C : PC) {u : Nat → Res Nd} (HX : POk C 140 (productM C.L u)) : POk C 116 (sumM C.L u) := fun w i h hw => sum_of0 C w i h hw HX
theorem expr_of0 (C : PC) {u : Nat → Res Nd} (w : World) (i : Nat) (h : PSt C w i) (hwet : exprM C.L u i ≠ .dry) (HX : POk C 116 (sumM C.L u)) : Calls Tryz.prog 93 #[.pointer (some ⟨C.p, 0, none⟩)] w (NodeOut C w (exprM C.L u i)) := by
 obtain ⟨R, HR⟩ : ∃ R, Hid (exprM C.L u i = R) := ⟨_, rfl⟩
 rw [HR.out] at hwet ⊢
 have HW := Lib.hid hwet
 have hR := HR.out
 unfold exprM at hR
 replace HR := Lib.hid hR
 have HS := Lib.hid (h.st.box 24 #[.int .i64 0, .string ⟨#[]⟩, .int .i64 0, .slice none 0 0])
 clear h hR hwet
 go_enter Tryz.func93, Tryz.ntmps93
 go_wp2_with fail
 generalize w.alloc (.cells #[.int .i64 0, .string ⟨#[]⟩, .int .i64 0, .slice none 0 0] 24) = w0 at *
 refine (subq HX HS.out (bindW HR.out HW.out)).mono ?_
 clear HS; rintro e w1 (⟨k, hr, rfl, m⟩ | ⟨x, j, Ax, cx, Vx, hr, rfl, HS⟩)
 ·go_wp2; exact ⟨rfl, badO (bindB HR.out hr) m⟩
 replace HR := bindO HR.out hr
 clear hr
 go_wp2_with fail
 replace HS := Lib.hid (HS.out.box 24 #[.int .i64 x.k, .string x.t, .int .i64 x.num, .slice Ax x.kids.length cx])
 have hz : (w1.alloc (.cells #[.int .i64 x.k, .string x.t, .int .i64 x.num, .slice Ax x.kids.length cx] 24)).heap.size = w1.heap.size + 1 := by simp
 generalize w1.alloc (.cells #[.int .i64 x.k, .string x.t, .int .i64 x.num, .slice Ax x.kids.length cx] 24) = w2 at *
 rw [← hz]
 clear hz
 generalize w1.heap.size = bt at *
 rcases ht : tIn C.L [⟨#[61, 61]⟩, ⟨#[60]⟩] j with _ | _
 ·refine (isq2 HS.out ht).mono ?_
  clear HS; rintro e w3 ⟨rfl, HS⟩
  replace HR := ifN HR.out ht
  clear ht
  replace HS := Lib.hid HS.out.f2
  replace HS := Lib.hid HS.out.f2
  obtain ⟨-, -, -, -, b0, b1, b2, b3⟩ := (HS.out.blk 2 rfl).all4
  obtain ⟨f0, f1, f2, f3, g0, g1, g2, g3⟩ := (HS.out.blk 1 rfl).all4
  go_wp2_with fail
  have hf := finX HS.out HR
  exact bodyPost_ret (v := .agg _) (results_cell4 (fn := Tryz.f93) rfl hf.1 rfl) rfl hf.2
 refine (isq2 HS.out ht).mono ?_
 clear HS; rintro e w3 ⟨rfl, HS⟩
 replace HR := ifY HR.out ht
 have hjl := tIn_lt ht
 clear ht
 go_wp2_with fail
 have PK := Lib.hid (peek_any C _ _ 0 HS.out.z (by omega))
 obtain ⟨ta, hT⟩ := tokV_text C j
 unfold PeekOut at PK
 rw [Nat.add_zero, hT] at PK
 clear hT
 generalize tTx C.L j = TX at *
 generalize posAt C j = TP at *
 refine PK.out.mono ?_
 rintro e w4 ⟨rfl, hb⟩
 replace HS := Lib.hid (HS.out.below hb)
 clear PK hb
 go_wp2_with fail
 rw [tok_field1]
 go_wp2_with fail
 refine (op_any TX _).mono ?_
 rintro e w_ ⟨rfl, rfl⟩
 have hopi := i64_op TX
 generalize opOf TX = op at *
 have q1 := HS.out.z.blk.cell 1 (.int .i64 (j : Int)) rfl
 have f1 := HS.out.z.blk.free 1
 have hln := HS.out.z.len
 have hw1 : IntKind.i64.wrap ((j : Int) + 1) = (j : Int) + 1 := IntWalk.i64_in _ (by omega)
 have hS : SP C w (w4.setCell ⟨C.p, 1, none⟩ (.int .i64 ((j : Int) + 1))) (j + 1) _ := HS.out.mv1 (by omega)
 go_wp2_with fail
 clear q1 f1 hw1 HS
 have HS := Lib.hid hS
 clear hS
 generalize w4.setCell ⟨C.p, 1, none⟩ (.int .i64 ((j : Int) + 1)) = w5 at *
 replace HS := Lib.hid (HS.out.below (Below.refl _ _).drew)
 refine wp_region_held_drew (S := fun _ => True) (by kernel_rfl) trivial (fun _ => ?_)
 generalize w5.drew = w6 at *
 (refine wpAnyH_take (i := 1) (v := ?_) rfl (by kernel_rfl) (by kernel_rfl) (by kernel_rfl) (fun _ _ _ h => h) (Or.inl ⟨by rfl, ?_⟩) (by assumption) ?_; rotate_left; · ((intro w hSw; (try dsimp only at hSw); go_simp) <;> with_reducible rfl); (try simp only [List.getElem_toArray, List.getElem_cons_succ, List.getElem_cons_zero, Act.put, List.setIfInBounds_toArray, List.set_cons_zero, List.set_cons_succ]))
 replace HS := Lib.hid HS.out.f2
 replace HS := Lib.hid HS.out.f1
 replace HS := Lib.hid HS.out.f2
 refine wpAnyH_grp [⟨0, some 21, []⟩, ⟨2, some 23, []⟩] 3 (fun vs W => ∃ y Ay cy Vy jy, Hid (SP C w W (altq (vs 2) (j + 1) jy) (ifq (vs 2) (nd Vy y Ay cy) ++ [nd Vx x Ax cx, bx bt 24 #[.int .i64 x.k, .string x.t, .int .i64 x.num, .slice Ax x.kids.length cx], bx w.heap.size 24 #[.int .i64 0, .string ⟨#[]⟩, .int .i64 0, .slice none 0 0]])) ∧ OV (vs 0) (.agg #[.int .i64 x.k, .string x.t, .int .i64 x.num, .slice Ax x.kids.length cx]) ∧ OP (vs 2) (fun q_ => q_ = .agg #[.int .i64 y.k, .string y.t, .int .i64 y.num, .slice Ay y.kids.length cy] ∧ sumM C.L u (j + 1) = .ok y jy)) (by rfl) (by kernel_rfl) ⟨.mk 0 ⟨#[]⟩ 0 [], none, 0, fun _ => False, 0, HS, OP.no _ rfl, OP.no _ rfl⟩ (fun _ _ _ => trivial) ⟨?_, ?_, trivial⟩ ?_
 ·clear HS; refine ⟨_, rfl, fun vs W h0 hd hn ⟨y, Ay, cy, Vy, jy, HS, e0, e2⟩ => ?_⟩
  obtain ⟨-, -, -, -, b0, b1, b2, b3⟩ := Blk.all4 (HS.out.ok (bx bt 24 #[.int .i64 x.k, .string x.t, .int .i64 x.num, .slice Ax x.kids.length cx]) (by simp))
  simp only [actG, old, Option.getD_some]; (try simp only [List.getElem_toArray, List.getElem_cons_succ, List.getElem_cons_zero, Act.put, List.setIfInBounds_toArray, List.set_cons_zero, List.set_cons_succ]); intro K hK
  go_simp
  clear b0 b1 b2 b3
  exact hK.out _ _ ⟨y, Ay, cy, Vy, jy, HS, OP.is rfl, e2⟩
 ·clear HS; refine ⟨_, rfl, fun vs W h2 hd hn ⟨y, Ay, cy, Vy, jy, HS, e0, e2⟩ => ?_⟩
  rw [h2] at HS
  simp only [actG, old, Option.getD_some]; (try simp only [List.getElem_toArray, List.getElem_cons_succ, List.getElem_cons_zero, Act.put, List.setIfInBounds_toArray, List.set_cons_zero, List.set_cons_succ]); intro K hK
  go_simp
  refine (subq HX HS.out (bindW HR.out HW.out)).mono ?_
  clear HS; rintro e W (⟨k, hr, rfl, m⟩ | ⟨y, jy, Ay, cy, Vy, hr, rfl, HS⟩)
  ·go_wp2; exact ⟨rfl, badO (bindB HR.out hr) m⟩
  exact hK.out _ _ ⟨y, Ay, cy, Vy, jy, HS, e0, OP.is ⟨rfl, hr⟩⟩
 clear HS; intro vs W ⟨y, Ay, cy, Vy, jy, HS, e0, e2⟩ hall
 obtain ⟨⟨v0, h0⟩, ⟨v2, h2⟩, -⟩ := hall
 obtain rfl := e0 _ h0
 obtain ⟨rfl, hr⟩ := e2 _ h2
 rw [h2] at HS
 simp only [altq_some, ifq, List.cons_append, List.nil_append] at HS
 simp only [actG, lisG, old, h0, h2, Option.getD_some, Option.isSome_some, if_true, List.length_cons, List.length_nil]; (try simp only [List.getElem_toArray, List.getElem_cons_succ, List.getElem_cons_zero, Act.put, List.setIfInBounds_toArray, List.set_cons_zero, List.set_cons_succ])
 clear h0 e0 h2 e2 vs
 obtain ⟨w7, rfl⟩ : ∃ x, x = W := ⟨_, rfl⟩
 replace HR := bindO HR.out hr
 clear hr
 refine wpAnyH_ready (rs := [3]) (by kernel_rfl) (by simp) (AllReadyH.cons rfl (fun K hK => ?_) AllReadyH.nil)
 go_simp
 replace HS := Lib.hid (HS.out.box 24 #[.int .i64 x.k, .string x.t, .int .i64 x.num, .slice Ax x.kids.length cx, .int .i64 y.k, .string y.t, .int .i64 y.num, .slice Ay y.kids.length cy])
 generalize w7.alloc (.cells #[.int .i64 x.k, .string x.t, .int .i64 x.num, .slice Ax x.kids.length cx, .int .i64 y.k, .string y.t, .int .i64 y.num, .slice Ay y.kids.length cy] 24) = w8 at *
 generalize w7.heap.size = by_ at *
 refine hK.out _ _ trivial (fun _ => ?_)
 clear hK K
 (try simp only [List.getElem_toArray, List.getElem_cons_succ, List.getElem_cons_zero, Act.put, List.setIfInBounds_toArray, List.set_cons_zero, List.set_cons_succ])
 refine wpAnyH_ready (rs := [4]) (by kernel_rfl) (by simp) (AllReadyH.cons rfl (fun K hK => ?_) AllReadyH.nil)
 go_simp
 refine (nodeq HS.out 32 ⟨#[]⟩ (some ⟨by_, 0, none⟩) 2 2).mono ?_
 clear HS; rintro e w9 ⟨rfl, HS⟩
 refine hK.out _ _ trivial (fun _ => ?_)
 clear hK K
 (try simp only [List.getElem_toArray, List.getElem_cons_succ, List.getElem_cons_zero, Act.put, List.setIfInBounds_toArray, List.set_cons_zero, List.set_cons_succ])
 refine wpAnyH_ready (rs := [5]) (by kernel_rfl) (by simp) (AllReadyH.cons rfl (fun K hK => ?_) AllReadyH.nil)
 replace HS := Lib.hid HS.out.f3
 obtain ⟨f0, f1, f2, f3, g0, g1, g2, g3⟩ := HS.out.one.all4
 go_wp2_with fail
 clear f0 f1 f2 f3 g0 g1 g2 g3
 replace HS := Lib.hid (HS.out.put4 (.int .i64 32) (.string ⟨#[]⟩) (.int .i64 0) (.slice (some ⟨by_, 0, none⟩) 2 2))
 generalize (((((w9).setCell ⟨bt, 0, none⟩ (.int .i64 32)).setCell ⟨bt, 1, none⟩ (.string ⟨#[]⟩)).setCell ⟨bt, 2, none⟩ (.int .i64 0)).setCell ⟨bt, 3, none⟩ (.slice (some ⟨by_, 0, none⟩) 2 2)) = w10 at *
 refine hK.out _ _ trivial (fun _ => ?_)
 clear hK K
 (try simp only [List.getElem_toArray, List.getElem_cons_succ, List.getElem_cons_zero, Act.put, List.setIfInBounds_toArray, List.set_cons_zero, List.set_cons_succ])
 refine wpAnyH_done (by kernel_rfl) ?_ _
 have f2 := HS.out.one.free 2
 have g2 := HS.out.one.cell 2 _ rfl
 go_upto_region 7 with (fail)
 clear f2 g2
 replace HS := Lib.hid (HS.out.put1 2 (.int .i64 op))
 simp only [List.setIfInBounds_toArray, List.set_cons_zero, List.set_cons_succ] at HS
 generalize w10.setCell ⟨bt, 2, none⟩ (.int .i64 op) = w11 at *
 replace HS := Lib.hid HS.out.f2
 replace HS := Lib.hid HS.out.f3
 replace HS := Lib.hid HS.out.f3
 replace HS := Lib.hid (HS.out.kid2 (x := x) (z := y) 32 ⟨#[]⟩ op hopi (Nat.zero_le _))
 replace HS := Lib.hid HS.out.f2
 replace HS := Lib.hid HS.out.f1
 obtain ⟨-, -, -, -, b0, b1, b2, b3⟩ := (HS.out.blk 2 rfl).all4
 obtain ⟨f0, f1, f2, f3, g0, g1, g2, g3⟩ := (HS.out.blk 1 rfl).all4
 go_wp2_with fail
 have hf := finO HS.out HR
 try simp only [List.length_append, List.length_cons, List.length_nil, Nat.zero_add] at hf
 exact bodyPost_ret (v := .agg _) (results_cell4 (fn := Tryz.f93) rfl hf.1 rfl) rfl hf.2
theorem expr_of (C : PC) {u : Nat → Res Nd} (HX : POk C 116 (sumM C.L u)) : POk C 93 (exprM C.L u) := fun w i h hw => expr_of0 C w i h hw HX
theorem round_of0 (C : PC) {u : Nat → Res Nd} (w : World) (i : Nat) (h : PSt C w i) (hwet : roundM C.L u i ≠ .dry) (HX : POk C 93 (exprM C.L u)) : Calls Tryz.prog 91 #[.pointer (some ⟨C.p, 0, none⟩)] w (NodeOut C w (roundM C.L u i)) := by
 obtain ⟨R, HR⟩ : ∃ R, Hid (roundM C.L u i = R) := ⟨_, rfl⟩
 rw [HR.out] at hwet ⊢
 have HW := Lib.hid hwet
 have hR := HR.out
 unfold roundM at hR
 replace HR := Lib.hid hR
 have HS := Lib.hid (h.st.box 24 #[.int .i64 0, .string ⟨#[]⟩, .int .i64 0, .slice none 0 0])
 clear h hR hwet
 go_enter Tryz.func91, Tryz.ntmps91
 go_wp2_with fail
 generalize w.alloc (.cells #[.int .i64 0, .string ⟨#[]⟩, .int .i64 0, .slice none 0 0] 24) = w0 at *
 refine (needq HS.out ⟨#[40]⟩).mono ?_
 clear HS; rintro e w1 (⟨hr, rfl, m⟩ | ⟨hr, rfl, HS⟩)
 ·go_wp2; exact ⟨rfl, badO (bindB HR.out hr) m⟩
 replace HR := bindO HR.out hr
 clear hr
 go_wp2_with fail
 refine (subq HX HS.out (bindW HR.out HW.out)).mono ?_
 clear HS; rintro e w2 (⟨k, hr, rfl, m⟩ | ⟨x, j, Ax, cx, Vx, hr, rfl, HS⟩)
 ·go_wp2; exact ⟨rfl, badO (bindB HR.out hr) m⟩
 replace HR := bindO HR.out hr
 clear hr
 go_wp2_with fail
 replace HS := Lib.hid (HS.out.box 24 #[.int .i64 x.k, .string x.t, .int .i64 x.num, .slice Ax x.kids.length cx])
 generalize w2.alloc (.cells #[.int .i64 x.k, .string x.t, .int .i64 x.num, .slice Ax x.kids.length cx] 24) = w3 at *
 generalize w2.heap.size = bx_ at *
 refine (needq HS.out ⟨#[41]⟩).mono ?_
 clear HS; rintro e w4 (⟨hr, rfl, m⟩ | ⟨hr, rfl, HS⟩)
 ·go_wp2; exact ⟨rfl, badO (bindB HR.out hr) m⟩
 replace HR := bindO HR.out hr
 clear hr
 replace HS := Lib.hid HS.out.f2
 replace HS := Lib.hid HS.out.f2
 obtain ⟨-, -, -, -, b0, b1, b2, b3⟩ := (HS.out.blk 2 rfl).all4
 obtain ⟨f0, f1, f2, f3, g0, g1, g2, g3⟩ := (HS.out.blk 1 rfl).all4
 go_wp2_with fail
 have hf := finX HS.out HR
 exact bodyPost_ret (v := .agg _) (results_cell4 (fn := Tryz.f91) rfl hf.1 rfl) rfl hf.2
theorem round_of (C : PC) {u : Nat → Res Nd} (HX : POk C 93 (exprM C.L u)) : POk C 91 (roundM C.L u) := fun w i h hw => round_of0 C w i h hw HX
end Go.Proofs.YtgegfbopogcjpaaGreatDoor
