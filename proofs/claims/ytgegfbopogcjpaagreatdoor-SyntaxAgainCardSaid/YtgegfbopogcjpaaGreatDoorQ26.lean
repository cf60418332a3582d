/- syntax.Parse; The reference's Same: of two that are the same node. -/
import Derived.Test.YtgegfbopogcjpaaGreatDoorQ05
import Derived.Test.YtgegfbopogcjpaaGreatDoorQ17
import Derived.Test.YtgegfbopogcjpaaGreatDoorQ25
import Derived.Deep.Cut
namespace Go.Proofs.YtgegfbopogcjpaaGreatDoor
open Go.RowKit
set_option linter.unusedVariables false
set_option linter.unusedSimpArgs false
set_option maxRecDepth 100000
set_option maxHeartbeats 2000000
abbrev SU (C : PC) (w W : World) (i : Nat) (l : List Rc) : Prop := St (fun j W' => PSt C W' j) C.p (GU w C.p) w W i l
def PaRel (C : PC) (w : World) (F : Nat) (R : Res Nd) (gk : Nat) (wr : World) : Prop :=
 ∃ (ks : List Nd) (A : Option Addr) (c : Nat) (V : Nat → Prop) (i : Nat), Hid (SU C w wr i [rw_ w.heap.size V ks A c, bx w.heap.size 24 #[.int .i64 1, .string ⟨#[]⟩, .int .i64 0, .slice A ks.length c], bx (w.heap.size + 1) 27 #[.int .i64 0, .int .i64 0]]) ∧ Hid (unitM C.L F gk ks i = R) ∧ ks.length + gk ≤ C.L.length + 1
theorem parse_any (hd : ∀ C F, POk C 12 (declM C.L F)) (s : ByteArray) (w : World) (hml : ML w) (he : ER w) : Calls Tryz.prog 6 #[.string s] w (PaOut s w) := by
 have K1 := Lib.hid ((Blk.new_ w 24 #[.int .i64 0, .string ⟨#[]⟩, .int .i64 0, .slice none 0 0]).alloc (.cells #[.int .i64 0, .int .i64 0] 27))
 have K2 : Hid (Blk ((w.alloc (.cells #[.int .i64 0, .string ⟨#[]⟩, .int .i64 0, .slice none 0 0] 24)).alloc (.cells #[.int .i64 0, .int .i64 0] 27)) (w.heap.size + 1) 27 #[.int .i64 0, .int .i64 0]) := by
  have := Blk.new_ (w.alloc (.cells #[.int .i64 0, .string ⟨#[]⟩, .int .i64 0, .slice none 0 0] 24)) 27 #[.int .i64 0, .int .i64 0]
  rwa [World.size_alloc] at this
 have B0 : Hid (Below w.heap.size w ((w.alloc (.cells #[.int .i64 0, .string ⟨#[]⟩, .int .i64 0, .slice none 0 0] 24)).alloc (.cells #[.int .i64 0, .int .i64 0] 27))) := Lib.hid (((Below.refl _ _).alloc (Nat.le_refl _) _).alloc (by simp) _)
 have HML := Lib.hid hml
 have HE := Lib.hid he
 have HD := Lib.hid hd
 obtain ⟨P, HPP⟩ : ∃ P, Hid (parseOf s = P) := ⟨_, rfl⟩
 unfold PaOut
 rw [HPP.out]
 clear hml he hd
 go_enter_defers Tryz.func6, Tryz.ntmps6
 go_wp2_with fail
 generalize ((w.alloc (.cells #[.int .i64 0, .string ⟨#[]⟩, .int .i64 0, .slice none 0 0] 24)).alloc (.cells #[.int .i64 0, .int .i64 0] 27)) = w0 at *
 refine (scan_any s w0 (HE.out.keep B0.out)).mono ?_
 rintro e w1 ⟨A, c, rfl, hrow, hb1⟩
 replace K1 := Lib.hid (K1.out.below hb1)
 replace K2 := Lib.hid (K2.out.below hb1)
 replace B0 := Lib.hid (below_trans B0.out (Nat.le_refl _) hb1)
 have hrow2 : Row w1 A ((lexOf s).l.flatMap tkV) := hrow
 have HROW := Lib.hid hrow2
 have HLEN := Lib.hid (lexOf_len s).1
 have HOKT := Lib.hid (lexOf_ok s)
 have HFP := Lib.hid (lexOf_p (s := s))
 obtain ⟨R, HR⟩ : ∃ R, Hid (unitR (lexOf s).l = R) := ⟨_, rfl⟩
 have HW : Hid (R ≠ .dry) := by show _ ≠ _; rw [← HR.out]; exact unit_wet _
 have HP : Hid (parseOf s = paOf (lexOf s).e (lexOf s).p (lexOf s).l s.size R) := by show _ = _; rw [← HR.out]; rfl
 rw [HPP.out] at HP
 clear hrow hrow2 hb1 HPP
 generalize (lexOf s).l = L at *
 generalize (lexOf s).e = E at *
 obtain ⟨FP, hFP⟩ : ∃ x : Nat, (lexOf s).p = x := ⟨_, rfl⟩
 rw [hFP] at HP HFP ⊢
 clear hFP
 have hr1b : w.heap.size + 1 < w1.heap.size := K2.out.lt
 have k0 := K2.out.free 0
 have k1 := K2.out.free 1
 have l0 := K2.out.cell 0 (.int .i64 0) rfl
 have l1 := K2.out.cell 1 (.int .i64 0) rfl
 have hne1 : w.heap.size ≠ w.heap.size + 1 := by omega
 have hne2 : w.heap.size + 1 ≠ w.heap.size := by omega
 obtain ⟨f0, f1, f2, f3, g0, g1, g2, g3⟩ := K1.out.all4
 by_cases hE : E = 0
 ·have HOK := Lib.hid (HOKT.out hE)
  obtain ⟨rfl, hs4⟩ := HFP.out hE
  subst hE
  clear HOKT HFP f0 f1 f2 f3 g0 g1 g2 g3
  go_upto_region 6 with (fail)
  clear k0 k1 l0 l1
  have m1 := (put1_mv w1 (w.heap.size + 1) 0 (.int .i64 0))
  have m2 := (put1_mv (w1.setCell ⟨w.heap.size + 1, 0, none⟩ (.int .i64 0)) (w.heap.size + 1) 1 (.int .i64 0))
  have K20 := K2
  replace K1 := Lib.hid (m2.blk (m1.blk K1.out hne1) hne1)
  replace K2 := Lib.hid ((K2.out.set_ 0 (.int .i64 0)).set_ 1 (.int .i64 0))
  simp only [List.setIfInBounds_toArray, List.set_cons_zero, List.set_cons_succ] at K2
  replace B0 := Lib.hid ((B0.out.setCell (p := ⟨w.heap.size + 1, 0, none⟩) (by show w.heap.size ≤ w.heap.size + 1; omega) (.int .i64 0)).setCell (p := ⟨w.heap.size + 1, 1, none⟩) (by show w.heap.size ≤ w.heap.size + 1; omega) (.int .i64 0))
  have HRW2 : Hid (Row ((w1.setCell ⟨w.heap.size + 1, 0, none⟩ (.int .i64 0)).setCell ⟨w.heap.size + 1, 1, none⟩ (.int .i64 0)) A (L.flatMap tkV)) := by
   have hb : L.flatMap tkV ≠ [] → ∀ b o, A = some ⟨b, o, none⟩ → b ≠ w.heap.size + 1 := fun hne b o e => row_box HROW.out HOK.out (tk_ne hne) K20.out fault_zero b o e
   exact (HROW.out.grown_ m1 hb).grown_ m2 hb
  clear m1 m2 K20 HROW
  generalize hW0 : (w1.setCell ⟨w.heap.size + 1, 0, none⟩ (.int .i64 0)).setCell ⟨w.heap.size + 1, 1, none⟩ (.int .i64 0) = W0 at *
  have hsz : w1.heap.size = W0.heap.size := by rw [← hW0]; simp [World.setCell]
  rw [hsz]
  obtain ⟨C, HC⟩ : ∃ C : PC, C = ⟨W0.heap.size, A, c, L, s.size⟩ := ⟨_, rfl⟩
  have HS : Hid (SU C w (W0.alloc (.cells #[.slice A L.length c, .int .i64 0, .int .i64 (s.size : Int)] 42)) 0 [rw_ w.heap.size (fun _ => False) [] none 0, bx w.heap.size 24 #[.int .i64 0, .string ⟨#[]⟩, .int .i64 0, .slice none 0 0], bx (w.heap.size + 1) 27 #[.int .i64 0, .int .i64 0]]) := by
   rw [HC]; exact uni_st B0.out K1.out K2.out HRW2.out HOK.out HLEN.out hs4 HML.out
  have hpC : W0.heap.size = C.p := by rw [HC]
  have hCL : C.L = L := by rw [HC]
  have hCE : C.E = s.size := by rw [HC]
  have hwp : w.heap.size + 1 < C.p := by rw [← hpC]; exact K2.out.lt
  rw [hpC]
  subst hCL
  have hlen := HLEN.out
  clear K1 K2 B0 HRW2 HOK HLEN HML HE hsz hr1b
  generalize W0.alloc (.cells #[.slice A C.L.length c, .int .i64 0, .int .i64 (s.size : Int)] 42) = w2 at *
  clear hW0 hpC HC
  replace HS := Lib.hid HS.out.f1
  have f0 := HS.out.one.free 0
  have g0 := HS.out.one.cell 0 _ rfl
  go_wp2_with fail
  clear f0 g0
  replace HS := Lib.hid (HS.out.put1 0 (.int .i64 1)).f1
  generalize w2.setCell ⟨w.heap.size, 0, none⟩ (.int .i64 1) = w3 at *
  have HR0 : Hid (unitM C.L (C.L.length + 1) (C.L.length + 1) [] 0 = R) := HR.out
  clear HR
  go_loopg [] (C.L.length + 1) (fun gk wr => PaRel C w (C.L.length + 1) R gk wr)
  case atStart => exact ⟨[], none, 0, _, 0, HS, HR0, by simp⟩
  case round =>
   clear HS HR0
   obtain ⟨ks, Ak, ck, Vk, i, HS, HR, hc⟩ := hrel
   cases gk with
   | zero => exact absurd (show Res.dry = R from HR.out) (fun e => HW.out e.symm)
   | succ g =>
   have hR := HR.out
   rw [unitM] at hR
   replace HR := Lib.hid hR
   clear hR
   have q1 := HS.out.z.blk.cell 1 (.int .i64 (i : Int)) rfl
   by_cases hi : i < C.L.length
   ·have d1 : (i : Int) < (C.L.length : Int) := by omega
    have hR := HR.out
    rw [if_pos hi] at hR
    replace HR := Lib.hid hR
    clear hR
    go_wp2_with fail
    replace HS := Lib.hid (HS.out.below (Below.refl _ _).drew)
    refine wp_region_held_drew (S := fun _ => True) (by kernel_rfl) trivial (fun _ => ?_)
    clear q1
    generalize wr.drew = w4 at *
    refine wpAnyH_grp [⟨0, some 31, []⟩, ⟨1, some 32, [0]⟩, ⟨2, some 33, []⟩, ⟨3, some 34, [2]⟩, ⟨4, some 35, [0, 1]⟩, ⟨5, some 36, []⟩] 5 (fun vs W => ∃ x j Ax cx Vx y, Hid (SU C w W (altq (vs 3) i j) (ifq (vs 3) (nd Vx x Ax cx) ++ (ifq (vs 5) (bx y 24 #[.int .i64 0, .string ⟨#[]⟩, .int .i64 0, .slice none 0 0]) ++ [rw_ w.heap.size Vk ks Ak ck, bx w.heap.size 24 #[.int .i64 1, .string ⟨#[]⟩, .int .i64 0, .slice Ak ks.length ck], bx (w.heap.size + 1) 27 #[.int .i64 0, .int .i64 0]]))) ∧ OV (vs 0) (.pointer (some ⟨w.heap.size, 3, none⟩)) ∧ OV (vs 1) (.slice Ak ks.length ck) ∧ OV (vs 2) (.pointer (some ⟨C.p, 0, none⟩)) ∧ OP (vs 3) (fun u => u = .agg #[.int .i64 x.k, .string x.t, .int .i64 x.num, .slice Ax x.kids.length cx] ∧ declM C.L (C.L.length + 1) i = .ok x j) ∧ OV (vs 4) (.int .i64 (ks.length : Int)) ∧ OV (vs 5) (.slice (some ⟨y, 0, none⟩) 1 1)) (by rfl) (by kernel_rfl) ⟨nd0, 0, none, 0, fun _ => False, 0, HS, OP.no _ rfl, OP.no _ rfl, OP.no _ rfl, OP.no _ rfl, OP.no _ rfl, OP.no _ rfl⟩ (fun _ _ _ => trivial) ⟨?_, ?_, ?_, ?_, ?_, ?_, trivial⟩ ?_
    ·clear HS; refine ⟨_, rfl, fun vs W h0 hd hn ⟨x, j, Ax, cx, Vx, y, HS, e0, e1, e2, e3, e4, e5⟩ => ?_⟩
     simp only [actG, old, Option.getD_some]; (try simp only [List.getElem_toArray, List.getElem_cons_succ, List.getElem_cons_zero, Act.put, List.setIfInBounds_toArray, List.set_cons_zero, List.set_cons_succ]); intro K hK
     go_simp
     exact hK.out _ _ ⟨x, j, Ax, cx, Vx, y, HS, OP.is rfl, OP.no _ hn.2.1, e2, e3, OP.no _ hn.2.2.2.2.1, e5⟩
    ·clear HS; refine ⟨_, rfl, fun vs W h1 hd hn ⟨x, j, Ax, cx, Vx, y, HS, e0, e1, e2, e3, e4, e5⟩ => ?_⟩
     obtain ⟨⟨v0, h0⟩, -⟩ := hd
     obtain rfl := e0 _ h0
     have b3 := Blk.cell (show Blk W w.heap.size 24 #[.int .i64 1, .string ⟨#[]⟩, .int .i64 0, .slice Ak ks.length ck] from HS.out.ok (bx w.heap.size 24 #[.int .i64 1, .string ⟨#[]⟩, .int .i64 0, .slice Ak ks.length ck]) (by simp)) 3 (.slice Ak ks.length ck) rfl
     simp only [actG, old, h0, Option.getD_some]; (try simp only [List.getElem_toArray, List.getElem_cons_succ, List.getElem_cons_zero, Act.put, List.setIfInBounds_toArray, List.set_cons_zero, List.set_cons_succ]); intro K hK
     go_simp
     exact hK.out _ _ ⟨x, j, Ax, cx, Vx, y, HS, e0, OP.is rfl, e2, e3, OP.no _ hn.2.2.2.2.1, e5⟩
    ·clear HS; refine ⟨_, rfl, fun vs W h2 hd hn ⟨x, j, Ax, cx, Vx, y, HS, e0, e1, e2, e3, e4, e5⟩ => ?_⟩
     simp only [actG, old, Option.getD_some]; (try simp only [List.getElem_toArray, List.getElem_cons_succ, List.getElem_cons_zero, Act.put, List.setIfInBounds_toArray, List.set_cons_zero, List.set_cons_succ]); intro K hK
     go_simp
     exact hK.out _ _ ⟨x, j, Ax, cx, Vx, y, HS, e0, e1, OP.is rfl, OP.no _ hn.2.2.2.1, e4, e5⟩
    ·clear HS; refine ⟨_, rfl, fun vs W h3 hd hn ⟨x, j, Ax, cx, Vx, y, HS, e0, e1, e2, e3, e4, e5⟩ => ?_⟩
     obtain ⟨⟨v2, h2⟩, -⟩ := hd
     obtain rfl := e2 _ h2
     have hbb : Blk W w.heap.size 24 #[.int .i64 1, .string ⟨#[]⟩, .int .i64 0, .slice Ak ks.length ck] := HS.out.ok (bx w.heap.size 24 #[.int .i64 1, .string ⟨#[]⟩, .int .i64 0, .slice Ak ks.length ck]) (by simp)
     have hbf : Blk W (w.heap.size + 1) 27 #[.int .i64 0, .int .i64 0] := HS.out.ok (bx (w.heap.size + 1) 27 #[.int .i64 0, .int .i64 0]) (by simp)
     have HBB := Lib.hid hbb
     have HBF := Lib.hid hbf
     clear hbb hbf
     rw [h3] at HS
     simp only [actG, old, h2, Option.getD_some]; (try simp only [List.getElem_toArray, List.getElem_cons_succ, List.getElem_cons_zero, Act.put, List.setIfInBounds_toArray, List.set_cons_zero, List.set_cons_succ]); intro K hK
     go_simp
     have hwet := bindW HR.out HW.out
     refine (HD.out C (C.L.length + 1) W i HS.out.z hwet).mono ?_
     rcases hm : declM C.L (C.L.length + 1) i with ⟨x', j'⟩ | k | _
     ·rintro e W' ⟨A', c', rfl, hr, h', m'⟩
      exact hK.out _ _ ⟨x', j', A', c', fun b => W.heap.size ≤ b ∧ b < W'.heap.size, y, HS.out.add (r := nd _ x' A' c') (HS.out.to m' h') (RepV.keep (Nat.le_refl _) (fun b hv hlt => ⟨rfl, hv, hlt⟩) _ _ hr) (fun b hb => hb), e0, e1, e2, OP.is ⟨rfl, hm⟩, e4, e5⟩
     ·rintro e W' ⟨he, m'⟩
      have hmv := HS.out.mv.trans_ m'
      have K1 := Lib.hid (m'.blk HBB.out (by omega))
      have K2 := Lib.hid (m'.blk HBF.out (by omega))
      have HB2 : Hid (Below w.heap.size w W') := ⟨hmv.os, hmv.tape, hmv.output, hmv.size, fun b hb => hmv.block b hb (fun e => by injection e with e; omega)⟩
      have hR := bindB HR.out hm
      have HP2 := Lib.hid HP.out
      rw [← hR] at HP2
      have HP3 : Hid (P = ⟨nd0, 2, match C.L[k]? with | some t => t.p | none => s.size⟩) := HP2.out
      have HQ : Hid (((P.p : Nat) : Int) = posAt C k) := by
       show _ = _
       rw [HP3.out]
       unfold posAt
       rw [hCE]
       rcases C.L[k]? with _ | t <;> rfl
      unfold badE at he
      subst he
      clear hmv m' hm hR HP2
      generalize posAt C k = q at *
      go_wp2
      exact leaveU_bad _ K1.out K2.out HB2.out rfl rfl (by rw [HP3.out]) (by rw [HP3.out]) HQ.out
     ·exact absurd hm hwet
    ·clear HS; refine ⟨_, rfl, fun vs W h4 hd hn ⟨x, j, Ax, cx, Vx, y, HS, e0, e1, e2, e3, e4, e5⟩ => ?_⟩
     obtain ⟨⟨v0, h0⟩, ⟨v1, h1⟩, -⟩ := hd
     obtain rfl := e0 _ h0
     obtain rfl := e1 _ h1
     simp only [actG, old, h0, h1, Option.getD_some]; (try simp only [List.getElem_toArray, List.getElem_cons_succ, List.getElem_cons_zero, Act.put, List.setIfInBounds_toArray, List.set_cons_zero, List.set_cons_succ]); intro K hK
     go_simp
     exact hK.out _ _ ⟨x, j, Ax, cx, Vx, y, HS, e0, e1, e2, e3, OP.is rfl, e5⟩
    ·clear HS; refine ⟨_, rfl, fun vs W h5 hd hn ⟨x, j, Ax, cx, Vx, y, HS, e0, e1, e2, e3, e4, e5⟩ => ?_⟩
     rw [h5] at HS
     simp only [actG, old, Option.getD_some]; (try simp only [List.getElem_toArray, List.getElem_cons_succ, List.getElem_cons_zero, Act.put, List.setIfInBounds_toArray, List.set_cons_zero, List.set_cons_succ]); intro K hK
     go_simp
     exact hK.out _ _ ⟨x, j, Ax, cx, Vx, W.heap.size, (HS.out.box 24 #[.int .i64 0, .string ⟨#[]⟩, .int .i64 0, .slice none 0 0]).perm List.perm_middle.symm, e0, e1, e2, e3, e4, OP.is rfl⟩
    clear HS; intro vs W ⟨x, j, Ax, cx, Vx, y, HS, e0, e1, e2, e3, e4, e5⟩ hall
    obtain ⟨⟨v0, h0⟩, ⟨v1, h1⟩, ⟨v2, h2⟩, ⟨v3, h3⟩, ⟨v4, h4⟩, ⟨v5, h5⟩, -⟩ := hall
    obtain rfl := e0 _ h0
    obtain rfl := e1 _ h1
    obtain rfl := e2 _ h2
    obtain ⟨rfl, hr⟩ := e3 _ h3
    obtain rfl := e4 _ h4
    obtain rfl := e5 _ h5
    rw [h3, h5] at HS
    simp only [altq_some, ifq_some, List.cons_append, List.nil_append] at HS
    simp only [actG, lisG, old, h0, h1, h2, h3, h4, h5, Option.getD_some, Option.isSome_some, if_true, List.length_cons, List.length_nil]; (try simp only [List.getElem_toArray, List.getElem_cons_succ, List.getElem_cons_zero, Act.put, List.setIfInBounds_toArray, List.set_cons_zero, List.set_cons_succ])
    clear h0 e0 h2 e2 h1 e1 h3 e3 h4 e4 h5 e5 vs
    obtain ⟨w5, rfl⟩ : ∃ x, x = W := ⟨_, rfl⟩
    replace HR := bindO HR.out hr
    clear hr
    replace HS := Lib.hid (HS.out.f2.f2.f1.leaf 0 ⟨#[]⟩ 0 i64_0 (Nat.zero_le _)).f1
    refine wpAnyH_ready (rs := [6]) (by kernel_rfl) (by simp) (AllReadyH.cons rfl (fun K hK => ?_) AllReadyH.nil)
    rw [if_pos (by rfl)]
    refine oper_push (x := nd0) HS.out rfl (by omega) _ _ rfl rfl rfl ?_
    clear HS; intro A3 c2 V2 w6 HS
    obtain ⟨gg, rfl, -⟩ := HS.out.rowform (by simp)
    refine hK.out _ _ trivial (fun _ => ?_)
    clear hK K
    (try simp only [List.getElem_toArray, List.getElem_cons_succ, List.getElem_cons_zero, Act.put, List.setIfInBounds_toArray, List.set_cons_zero, List.set_cons_succ])
    have i1 : (0 : Int) ≤ (ks.length : Int) := by omega
    have i2 : (ks.length : Int) < (ks.length : Int) + 1 := by omega
    refine wpAnyH_grp [⟨7, some 38, []⟩, ⟨8, none, [7]⟩, ⟨9, some 39, []⟩, ⟨10, none, [9]⟩] 0 (fun vs W => Hid (SU C w W j (altq (vs 8) [rw_ w.heap.size V2 (ks ++ [nd0]) (some ⟨gg, 0, none⟩) c2, nd Vx x Ax cx] [rw_ w.heap.size (fun b => V2 b ∨ Vx b) (ks ++ [x]) (some ⟨gg, 0, none⟩) c2] ++ (altq (vs 10) [bx w.heap.size 24 #[.int .i64 1, .string ⟨#[]⟩, .int .i64 0, .slice Ak ks.length ck]] [bx w.heap.size 24 #[.int .i64 1, .string ⟨#[]⟩, .int .i64 0, .slice (some ⟨gg, 0, none⟩) (ks.length + 1) c2]] ++ [bx (w.heap.size + 1) 27 #[.int .i64 0, .int .i64 0]]))) ∧ OV (vs 7) (.pointer (some ⟨gg, ks.length * 4, none⟩)) ∧ OV (vs 9) (.pointer (some ⟨w.heap.size, 3, none⟩))) (by rfl) (by kernel_rfl) ⟨HS, OP.no _ rfl, OP.no _ rfl⟩ (fun _ _ _ => trivial) ⟨?_, ?_, ?_, ?_, trivial⟩ ?_
    ·clear HS; refine ⟨_, rfl, fun vs W h7 hd hn ⟨HS, e7, e9⟩ => ?_⟩
     simp only [actG, old, Option.getD_some]; (try simp only [List.getElem_toArray, List.getElem_cons_succ, List.getElem_cons_zero, Act.put, List.setIfInBounds_toArray, List.set_cons_zero, List.set_cons_succ]); intro K hK
     go_simp
     exact hK.out _ _ ⟨HS, OP.is rfl, e9⟩
    ·clear HS; refine ⟨_, rfl, fun vs W h8 hd hn ⟨HS, e7, e9⟩ => ?_⟩
     obtain ⟨⟨v7, h7⟩, -⟩ := hd
     obtain rfl := e7 _ h7
     rw [h8] at HS
     obtain ⟨y0, y1, y2, y3, f0, f1, f2, f3, g0, g1, g2, g3⟩ := HS.out.rowfacts
     simp only [actG, old, h7, Option.getD_some]; (try simp only [List.getElem_toArray, List.getElem_cons_succ, List.getElem_cons_zero, Act.put, List.setIfInBounds_toArray, List.set_cons_zero, List.set_cons_succ]); intro K hK
     go_simp
     exact hK.out undef _ ⟨HS.out.rowset, e7, e9⟩
    ·clear HS; refine ⟨_, rfl, fun vs W h9 hd hn ⟨HS, e7, e9⟩ => ?_⟩
     simp only [actG, old, Option.getD_some]; (try simp only [List.getElem_toArray, List.getElem_cons_succ, List.getElem_cons_zero, Act.put, List.setIfInBounds_toArray, List.set_cons_zero, List.set_cons_succ]); intro K hK
     go_simp
     exact hK.out _ _ ⟨HS, e7, OP.is rfl⟩
    ·clear HS; refine ⟨_, rfl, fun vs W h10 hd hn ⟨HS, e7, e9⟩ => ?_⟩
     obtain ⟨⟨v9, h9⟩, -⟩ := hd
     obtain rfl := e9 _ h9
     rw [h10] at HS
     have H2 := Lib.hid (HS.out.perm List.perm_middle)
     have f3 := H2.out.one.free 3
     have g3 := H2.out.one.cell 3 (.slice Ak ks.length ck) rfl
     simp only [actG, old, h9, Option.getD_some]; (try simp only [List.getElem_toArray, List.getElem_cons_succ, List.getElem_cons_zero, Act.put, List.setIfInBounds_toArray, List.set_cons_zero, List.set_cons_succ]); intro K hK
     go_simp
     exact hK.out undef _ ⟨(H2.out.put1 3 (.slice (some ⟨gg, 0, none⟩) (ks.length + 1) c2)).perm List.perm_middle.symm, e7, e9⟩
    clear HS; intro vs W ⟨HS, e7, e9⟩ hall
    obtain ⟨⟨v7, h7⟩, ⟨v8, h8⟩, ⟨v9, h9⟩, ⟨v10, h10⟩, -⟩ := hall
    obtain rfl := e7 _ h7
    obtain rfl := e9 _ h9
    rw [h8, h10] at HS
    simp only [altq_some, List.cons_append, List.nil_append] at HS
    simp only [actG, lisG, old, h7, h8, h9, h10, Option.getD_some, Option.isSome_some, if_true, List.length_cons, List.length_nil]; (try simp only [List.getElem_toArray, List.getElem_cons_succ, List.getElem_cons_zero, Act.put, List.setIfInBounds_toArray, List.set_cons_zero, List.set_cons_succ])
    clear h7 e7 h8 h9 e9 h10 vs
    obtain ⟨w7, rfl⟩ : ∃ x, x = W := ⟨_, rfl⟩
    refine wpAnyH_done (by kernel_rfl) ?_ _
    go_wp2_with fail
    go_roundg g
    case measure => omega
    case rel => exact ⟨_, _, c2, _, _, (by have h := HS.out; rw [show ks.length + 1 = (ks ++ [x]).length by simp] at h; exact h), HR, by simp; omega⟩
   ·have d1 : ¬ (i : Int) < (C.L.length : Int) := by omega
    have hR := HR.out
    rw [if_neg hi] at hR
    replace HR := Lib.hid hR
    clear hR
    have HS2 := Lib.hid (HS.out.kids 1 ⟨#[]⟩ 0 i64_0 (Nat.zero_le _))
    have HS3 := Lib.hid (HS2.out.box 3 #[.int .i64 0]).f2
    obtain ⟨f0, f1, f2, f3, g0, g1, g2, g3⟩ := HS3.out.one.all4
    have hb1 : Below wr.heap.size wr (wr.alloc (.cells #[.int .i64 0] 3)) := (Below.refl _ _).alloc (Nat.le_refl _) _
    have HWE := Lib.hid (weigh_any wr (.mk 1 ⟨#[]⟩ 0 ks) (cN (.mk 1 ⟨#[]⟩ 0 ks) Ak ck) (wr.alloc (.cells #[.int .i64 0] 3)) wr.heap.size 0 1 (RepV.rep _ _ HS2.out.one) hb1 (Nat.le_refl _) (Blk.new_ _ _ _) (by omega) (by omega) (by omega) (by omega))
    go_wp2_with fail
    clear f0 f1 f2 f3 g0 g1 g2 g3 hb1 q1
    refine HWE.out.mono ?_
    rintro e w5 ⟨gr, hcase⟩
    rw [wOk_fits] at hcase
    replace HS3 := Lib.hid ((HS3.out.f1.lose (show Mv wr.heap.size _ w5 from gr)))
    clear HS HS2 HWE gr
    rcases hcase with ⟨hfit, rfl, -⟩ | ⟨hfit, rfl⟩
    ·have HP2 : Hid (P = ⟨.mk 1 ⟨#[]⟩ 0 ks, 0, 0⟩) := by
      show _ = _
      rw [HP.out, ← HR.out]
      unfold paOf
      rw [if_neg (by simp)]
      simp only
      rw [if_pos hfit]
     obtain ⟨f0, f1, f2, f3, g0, g1, g2, g3⟩ := HS3.out.one.all4
     have hf := HS3.out.f2.one
     have HBF : Hid (Blk w5 (w.heap.size + 1) 27 #[.int .i64 0, .int .i64 0]) := hf
     have k0 := HBF.out.free 0
     have k1 := HBF.out.free 1
     have l0 := HBF.out.cell 0 (.int .i64 0) rfl
     have l1 := HBF.out.cell 1 (.int .i64 0) rfl
     clear hf hfit
     go_wp2_with fail
     go_region
     go_wp2_with fail
     have H9 := (((HS3.out.put4 (.int .i64 1) (.string ⟨#[]⟩) (.int .i64 0) (.slice Ak ks.length ck)).f2.put1 0 (.int .i64 0)).put1 1 (.int .i64 0)).below (Below.refl _ _).drew
     exact leaveU_ok (n := .mk 1 ⟨#[]⟩ 0 ks) (A := Ak) (c := ck) _ H9.f1.one rfl H9.one (mv_low H9.mv (by omega)) rfl rfl (by rw [HP2.out]) (by rw [HP2.out]) (by rw [HP2.out]; rfl) (RepV.rep _ _ H9.f2.one)
    ·have HP2 : Hid (P = ⟨nd0, 1, 0⟩) := by
      show _ = _
      rw [HP.out, ← HR.out]
      unfold paOf
      rw [if_neg (by simp)]
      simp only
      rw [if_neg (by rw [hfit]; simp)]
     obtain ⟨f0, f1, f2, f3, g0, g1, g2, g3⟩ := HS3.out.one.all4
     have hf := HS3.out.f2.one
     have HBF : Hid (Blk w5 (w.heap.size + 1) 27 #[.int .i64 0, .int .i64 0]) := hf
     have k0 := HBF.out.free 0
     have k1 := HBF.out.free 1
     have l0 := HBF.out.cell 0 (.int .i64 0) rfl
     have l1 := HBF.out.cell 1 (.int .i64 0) rfl
     clear hf hfit
     go_wp2_with fail
     have H9 := ((HS3.out.put4 (.int .i64 0) (.string ⟨#[]⟩) (.int .i64 0) (.slice none 0 0)).f2.put1 0 (.int .i64 1)).put1 1 (.int .i64 0)
     exact leaveU_ok (n := nd0) _ H9.f1.one rfl H9.one (mv_low H9.mv (by omega)) rfl rfl (by rw [HP2.out]) (by rw [HP2.out]) (by rw [HP2.out]; rfl) (repN_zero _)
 ·have hE2 : (E == 0) = false := by simpa using hE
  go_wp2_with fail
  go_region
  go_wp2_with fail
  have hP : P = ⟨nd0, E, FP⟩ := by rw [HP.out]; unfold paOf; rw [if_pos hE]
  have KN := (Blk.far (Blk.far (blk_put4 (Blk.far (Blk.far K1.out (p := ⟨w.heap.size + 1, 0, none⟩) hne1 (.int .i64 E)) (p := ⟨w.heap.size + 1, 1, none⟩) hne1 (.int .i64 (FP : Int))) (.int .i64 0) (.string ⟨#[]⟩) (.int .i64 0) (.slice none 0 0)) (p := ⟨w.heap.size + 1, 0, none⟩) hne1 (.int .i64 E)) (p := ⟨w.heap.size + 1, 1, none⟩) hne1 (.int .i64 (FP : Int)))
  have KF := (((Blk.far (Blk.far (Blk.far (Blk.far ((K2.out.set_ 0 (.int .i64 E)).set_ 1 (.int .i64 (FP : Int))) (p := ⟨w.heap.size, 0, none⟩) hne2 (.int .i64 0)) (p := ⟨w.heap.size, 1, none⟩) hne2 (.string ⟨#[]⟩)) (p := ⟨w.heap.size, 2, none⟩) hne2 (.int .i64 0)) (p := ⟨w.heap.size, 3, none⟩) hne2 (.slice none 0 0)).set_ 0 (.int .i64 E)).set_ 1 (.int .i64 (FP : Int)))
  have BF := Below.drew (Below.setCell (Below.setCell (Below.setCell (Below.setCell (Below.setCell (Below.setCell (Below.setCell (Below.setCell B0.out (p := ⟨w.heap.size + 1, 0, none⟩) (by show w.heap.size ≤ w.heap.size + 1; omega) (.int .i64 E)) (p := ⟨w.heap.size + 1, 1, none⟩) (by show w.heap.size ≤ w.heap.size + 1; omega) (.int .i64 (FP : Int))) (p := ⟨w.heap.size, 0, none⟩) (by show w.heap.size ≤ w.heap.size; omega) (.int .i64 0)) (p := ⟨w.heap.size, 1, none⟩) (by show w.heap.size ≤ w.heap.size; omega) (.string ⟨#[]⟩)) (p := ⟨w.heap.size, 2, none⟩) (by show w.heap.size ≤ w.heap.size; omega) (.int .i64 0)) (p := ⟨w.heap.size, 3, none⟩) (by show w.heap.size ≤ w.heap.size; omega) (.slice none 0 0)) (p := ⟨w.heap.size + 1, 0, none⟩) (by show w.heap.size ≤ w.heap.size + 1; omega) (.int .i64 E)) (p := ⟨w.heap.size + 1, 1, none⟩) (by show w.heap.size ≤ w.heap.size + 1; omega) (.int .i64 (FP : Int)))
  exact ⟨_, results_par (by kernel_rfl) (Blk.drw KN) (Blk.drw KF) rfl rfl, none, 0, by rw [hP]; rfl, by rw [hP]; exact repN_zero _, BF⟩
end Go.Proofs.YtgegfbopogcjpaaGreatDoor
namespace Go.Proofs.YtgegfbopogcjpaaGreatDoor
open Go.RowKit
set_option linter.unusedVariables false
set_option linter.unusedSimpArgs false
set_option maxRecDepth 100000
set_option maxHeartbeats 2000000
def SameRel (n : Nd) (A A2 : Option Addr) (c c2 : Nat) (w : World) (i : Value) (wr : World) : Prop :=
 ∃ j : Nat, i = .int .i64 j ∧ j ≤ n.kids.length ∧ Hid (Below w.heap.size w wr ∧ Blk wr w.heap.size 24 #[.int .i64 n.k, .string n.t, .int .i64 n.num, .slice A n.kids.length c] ∧ Blk wr (w.heap.size + 1) 24 #[.int .i64 n.k, .string n.t, .int .i64 n.num, .slice A2 n.kids.length c2])
theorem same_all : ∀ (N : Nat) (n : Nd), many n ≤ N → ∀ (cs ds : List Value) (w : World), RepN w n cs → RepN w n ds →
 Calls Tryz.prog 8 #[.agg cs.toArray, .agg ds.toArray] w fun e w' => e = .returned (.bool true) ∧ Below w.heap.size w w'
 | 0, n, h => absurd h (by have := many_pos n; omega)
 | N + 1, n, hN => by
  intro cs ds w hr hr2
  have IH := Lib.hid (fun m (hm : m ∈ n.kids) => same_all N m (by have := many_kid hm; omega))
  obtain ⟨A, c, rfl, hR, hcap, hlm, hn64, hts⟩ := hr.four
  obtain ⟨A2, c2, rfl, hR2, hcap2, -, -, -⟩ := hr2.four
  have HR := Lib.hid hR
  have HR2 := Lib.hid hR2
  clear hr hR hr2 hR2 hN
  have hl9 : n.kids.length ≤ 9223372036854775807 := by unfold maxLen at hlm; omega
  have X0 : Hid (Below w.heap.size w ((w.alloc (.cells #[.int .i64 n.k, .string n.t, .int .i64 n.num, .slice A n.kids.length c] 24)).alloc (.cells #[.int .i64 n.k, .string n.t, .int .i64 n.num, .slice A2 n.kids.length c2] 24))) := by show Below _ _ _; exact ((Below.refl _ _).alloc (Nat.le_refl _) _).alloc (by simp) _
  have X1 : Hid (Blk ((w.alloc (.cells #[.int .i64 n.k, .string n.t, .int .i64 n.num, .slice A n.kids.length c] 24)).alloc (.cells #[.int .i64 n.k, .string n.t, .int .i64 n.num, .slice A2 n.kids.length c2] 24)) w.heap.size 24 #[.int .i64 n.k, .string n.t, .int .i64 n.num, .slice A n.kids.length c]) := (Blk.new_ _ _ _).alloc _
  have X2 : Hid (Blk ((w.alloc (.cells #[.int .i64 n.k, .string n.t, .int .i64 n.num, .slice A n.kids.length c] 24)).alloc (.cells #[.int .i64 n.k, .string n.t, .int .i64 n.num, .slice A2 n.kids.length c2] 24)) (w.heap.size + 1) 24 #[.int .i64 n.k, .string n.t, .int .i64 n.num, .slice A2 n.kids.length c2]) := by
   have := Blk.new_ (w.alloc (.cells #[.int .i64 n.k, .string n.t, .int .i64 n.num, .slice A n.kids.length c] 24)) 24 #[.int .i64 n.k, .string n.t, .int .i64 n.num, .slice A2 n.kids.length c2]
   rwa [World.size_alloc] at this
  go_enter Tryz.func8, Tryz.ntmps8
  go_upto_region 1 with (fail)
  generalize (w.alloc (.cells #[.int .i64 n.k, .string n.t, .int .i64 n.num, .slice A n.kids.length c] 24)).alloc (.cells #[.int .i64 n.k, .string n.t, .int .i64 n.num, .slice A2 n.kids.length c2] 24) = w0 at *
  have a0 := X1.out.cell 0 _ rfl
  have a1 := X1.out.cell 1 _ rfl
  have a2 := X1.out.cell 2 _ rfl
  have a3 := X1.out.cell 3 _ rfl
  have b0 := X2.out.cell 0 _ rfl
  have b1 := X2.out.cell 1 _ rfl
  have b2 := X2.out.cell 2 _ rfl
  have b3 := X2.out.cell 3 _ rfl
  go_wp2_with fail
  clear a0 a1 a2 a3 b0 b1 b2 b3
  go_loopw [5] (fun i wr => SameRel n A A2 c c2 w i wr) (fun i _ => n.kids.length - (intOf i).toNat)
  case atStart => exact ⟨0, rfl, Nat.zero_le _, Lib.hid ⟨X0.out, X1.out, X2.out⟩⟩
  case round =>
   obtain ⟨j, rfl, hj, HX⟩ := hrel
   have a3 := HX.out.2.1.cell 3 (.slice A n.kids.length c) rfl
   have b3 := HX.out.2.2.cell 3 (.slice A2 n.kids.length c2) rfl
   by_cases hlt : j < n.kids.length
   ·have hi : (j : Int) < (n.kids.length : Int) := by omega
    have d1 : decide ((j : Int) < (n.kids.length : Int)) = true := by simpa using hi
    obtain ⟨b, o, cs, hA, hbl, hc, hrep⟩ := RepNL.at_ n.kids _ HR.out j hlt
    subst hA
    obtain ⟨A', c', rfl, -⟩ := hrep.four
    obtain ⟨bb, oo, ds, hA, hbl2, hc2, hrep2⟩ := RepNL.at_ n.kids _ HR2.out j hlt
    subst hA
    obtain ⟨A'', c'', rfl, -⟩ := hrep2.four
    have bw := HX.out.1
    have z0 := (bw.cell (p := ⟨b, o + j * 4 + 0, none⟩) hbl).trans (hc 0 _ rfl)
    have z1 := (bw.cell (p := ⟨b, o + j * 4 + 1, none⟩) hbl).trans (hc 1 _ rfl)
    have z2 := (bw.cell (p := ⟨b, o + j * 4 + 2, none⟩) hbl).trans (hc 2 _ rfl)
    have z3 := (bw.cell (p := ⟨b, o + j * 4 + 3, none⟩) hbl).trans (hc 3 _ rfl)
    have y0 := (bw.cell (p := ⟨bb, oo + j * 4 + 0, none⟩) hbl2).trans (hc2 0 _ rfl)
    have y1 := (bw.cell (p := ⟨bb, oo + j * 4 + 1, none⟩) hbl2).trans (hc2 1 _ rfl)
    have y2 := (bw.cell (p := ⟨bb, oo + j * 4 + 2, none⟩) hbl2).trans (hc2 2 _ rfl)
    have y3 := (bw.cell (p := ⟨bb, oo + j * 4 + 3, none⟩) hbl2).trans (hc2 3 _ rfl)
    rw [Nat.add_zero] at z0 y0
    have HREP := Lib.hid (RepN.keep bw _ _ hrep)
    have HREP2 := Lib.hid (RepN.keep bw _ _ hrep2)
    have HI := Lib.hid (IH.out _ (List.getElem_mem hlt))
    have hsz := bw.size
    have i1 : (0 : Int) ≤ (j : Int) := by omega
    clear hc hc2 bw hrep hrep2
    generalize n.kids[j] = x at *
    have hz0 : w.heap.size < wr.heap.size := HX.out.2.1.lt
    have hz1 : w.heap.size + 1 < wr.heap.size := HX.out.2.2.lt
    have hz2 : b < wr.heap.size := by omega
    have hz3 : bb < wr.heap.size := by omega
    go_wp2_with fail
    have hdr : Below wr.heap.size wr wr.drew := (Below.refl _ _).drew
    refine wp_region_held_drew (S := fun W => W.cell? ⟨w.heap.size, 3, none⟩ = some (.slice (some ⟨b, o, none⟩) n.kids.length c) ∧ W.cell? ⟨w.heap.size + 1, 3, none⟩ = some (.slice (some ⟨bb, oo, none⟩) n.kids.length c2) ∧ W.cell? ⟨b, o + j * 4, none⟩ = some (.int .i64 x.k) ∧ W.cell? ⟨b, o + j * 4 + 1, none⟩ = some (.string x.t) ∧ W.cell? ⟨b, o + j * 4 + 2, none⟩ = some (.int .i64 x.num) ∧ W.cell? ⟨b, o + j * 4 + 3, none⟩ = some (.slice A' x.kids.length c') ∧ W.cell? ⟨bb, oo + j * 4, none⟩ = some (.int .i64 x.k) ∧ W.cell? ⟨bb, oo + j * 4 + 1, none⟩ = some (.string x.t) ∧ W.cell? ⟨bb, oo + j * 4 + 2, none⟩ = some (.int .i64 x.num) ∧ W.cell? ⟨bb, oo + j * 4 + 3, none⟩ = some (.slice A'' x.kids.length c'')) (by kernel_rfl) ⟨a3, b3, z0, z1, z2, z3, y0, y1, y2, y3⟩ (fun hHeld => ?_)
    (refine wpAnyH_take (i := 0) (v := ?_) rfl (by kernel_rfl) (by kernel_rfl) (by kernel_rfl) (fun _ _ _ h => h) (Or.inl ⟨by rfl, ?_⟩) (by assumption) ?_; rotate_left; · ((intro w hSw; (try dsimp only at hSw); go_simp) <;> with_reducible rfl); (try simp only [List.getElem_toArray, List.getElem_cons_succ, List.getElem_cons_zero, Act.put, List.setIfInBounds_toArray, List.set_cons_zero, List.set_cons_succ])); (refine wpAnyH_take (i := 1) (v := ?_) rfl (by kernel_rfl) (by kernel_rfl) (by kernel_rfl) (fun _ _ _ h => h) (Or.inl ⟨by rfl, ?_⟩) (by assumption) ?_; rotate_left; · ((intro w hSw; (try dsimp only at hSw); go_simp) <;> with_reducible rfl); (try simp only [List.getElem_toArray, List.getElem_cons_succ, List.getElem_cons_zero, Act.put, List.setIfInBounds_toArray, List.set_cons_zero, List.set_cons_succ])); (refine wpAnyH_take (i := 2) (v := ?_) rfl (by kernel_rfl) (by kernel_rfl) (by kernel_rfl) (fun _ _ _ h => h) (Or.inl ⟨by rfl, ?_⟩) (by assumption) ?_; rotate_left; · ((intro w hSw; (try dsimp only at hSw); go_simp) <;> with_reducible rfl); (try simp only [List.getElem_toArray, List.getElem_cons_succ, List.getElem_cons_zero, Act.put, List.setIfInBounds_toArray, List.set_cons_zero, List.set_cons_succ])); (refine wpAnyH_take (i := 3) (v := ?_) rfl (by kernel_rfl) (by kernel_rfl) (by kernel_rfl) (fun _ _ _ h => h) (Or.inl ⟨by rfl, ?_⟩) (by assumption) ?_; rotate_left; · ((intro w hSw; (try dsimp only at hSw); go_simp) <;> with_reducible rfl); (try simp only [List.getElem_toArray, List.getElem_cons_succ, List.getElem_cons_zero, Act.put, List.setIfInBounds_toArray, List.set_cons_zero, List.set_cons_succ])); (refine wpAnyH_take (i := 4) (v := ?_) rfl (by kernel_rfl) (by kernel_rfl) (by kernel_rfl) (fun _ _ _ h => h) (Or.inl ⟨by rfl, ?_⟩) (by assumption) ?_; rotate_left; · ((intro w hSw; (try dsimp only at hSw); go_simp) <;> with_reducible rfl); (try simp only [List.getElem_toArray, List.getElem_cons_succ, List.getElem_cons_zero, Act.put, List.setIfInBounds_toArray, List.set_cons_zero, List.set_cons_succ])); (refine wpAnyH_take (i := 5) (v := ?_) rfl (by kernel_rfl) (by kernel_rfl) (by kernel_rfl) (fun _ _ _ h => h) (Or.inl ⟨by rfl, ?_⟩) (by assumption) ?_; rotate_left; · ((intro w hSw; (try dsimp only at hSw); go_simp) <;> with_reducible rfl); (try simp only [List.getElem_toArray, List.getElem_cons_succ, List.getElem_cons_zero, Act.put, List.setIfInBounds_toArray, List.set_cons_zero, List.set_cons_succ])); (refine wpAnyH_take (i := 6) (v := ?_) rfl (by kernel_rfl) (by kernel_rfl) (by kernel_rfl) (fun _ _ _ h => h) (Or.inl ⟨by rfl, ?_⟩) (by assumption) ?_; rotate_left; · ((intro w hSw; (try dsimp only at hSw); go_simp) <;> with_reducible rfl); (try simp only [List.getElem_toArray, List.getElem_cons_succ, List.getElem_cons_zero, Act.put, List.setIfInBounds_toArray, List.set_cons_zero, List.set_cons_succ])); (refine wpAnyH_take (i := 7) (v := ?_) rfl (by kernel_rfl) (by kernel_rfl) (by kernel_rfl) (fun _ _ _ h => h) (Or.inl ⟨by rfl, ?_⟩) (by assumption) ?_; rotate_left; · ((intro w hSw; (try dsimp only at hSw); go_simp) <;> with_reducible rfl); (try simp only [List.getElem_toArray, List.getElem_cons_succ, List.getElem_cons_zero, Act.put, List.setIfInBounds_toArray, List.set_cons_zero, List.set_cons_succ])); (refine wpAnyH_take (i := 8) (v := ?_) rfl (by kernel_rfl) (by kernel_rfl) (by kernel_rfl) (fun _ _ _ h => h) (Or.inl ⟨by rfl, ?_⟩) (by assumption) ?_; rotate_left; · ((intro w hSw; (try dsimp only at hSw); go_simp) <;> with_reducible rfl); (try simp only [List.getElem_toArray, List.getElem_cons_succ, List.getElem_cons_zero, Act.put, List.setIfInBounds_toArray, List.set_cons_zero, List.set_cons_succ])); (refine wpAnyH_take (i := 9) (v := ?_) rfl (by kernel_rfl) (by kernel_rfl) (by kernel_rfl) (fun _ _ _ h => h) (Or.inl ⟨by rfl, ?_⟩) (by assumption) ?_; rotate_left; · ((intro w hSw; (try dsimp only at hSw); go_simp) <;> with_reducible rfl); (try simp only [List.getElem_toArray, List.getElem_cons_succ, List.getElem_cons_zero, Act.put, List.setIfInBounds_toArray, List.set_cons_zero, List.set_cons_succ]))
    refine wpAnyH_ready (rs := [10]) (by kernel_rfl) (by simp) (AllReadyH.cons rfl (fun K hK => ?_) AllReadyH.nil)
    clear hHeld
    go_simp
    refine (HI.out _ _ _ (RepN.keep hdr _ _ HREP.out) (RepN.keep hdr _ _ HREP2.out)).mono ?_
    rintro e w5 ⟨rfl, hb5⟩
    have hb6 : Below wr.heap.size wr w5 := hdr.trans hb5
    have key : ∀ (p : Addr) (v : Value), p.block < wr.heap.size → wr.cell? p = some v → w5.cell? p = some v := fun p v hp h => (hb6.cell hp).trans h
    refine hK.out _ _ ⟨key _ _ hz0 a3, key _ _ hz1 b3, key _ _ hz2 z0, key _ _ hz2 z1, key _ _ hz2 z2, key _ _ hz2 z3, key _ _ hz3 y0, key _ _ hz3 y1, key _ _ hz3 y2, key _ _ hz3 y3⟩ (fun hHeld => ?_)
    clear hK K
    (try simp only [List.getElem_toArray, List.getElem_cons_succ, List.getElem_cons_zero, Act.put, List.setIfInBounds_toArray, List.set_cons_zero, List.set_cons_succ])
    (refine wpAnyH_take (i := 11) (v := ?_) rfl (by kernel_rfl) (by kernel_rfl) (by kernel_rfl) (fun _ _ _ h => h) (Or.inl ⟨by rfl, ?_⟩) (by assumption) ?_; rotate_left; · ((intro w hSw; (try dsimp only at hSw); go_simp) <;> with_reducible rfl); (try simp only [List.getElem_toArray, List.getElem_cons_succ, List.getElem_cons_zero, Act.put, List.setIfInBounds_toArray, List.set_cons_zero, List.set_cons_succ]))
    refine wpAnyH_done (by kernel_rfl) ?_ _
    have HX2 : Hid (Below w.heap.size w w5 ∧ Blk w5 w.heap.size 24 #[.int .i64 n.k, .string n.t, .int .i64 n.num, .slice (some ⟨b, o, none⟩) n.kids.length c] ∧ Blk w5 (w.heap.size + 1) 24 #[.int .i64 n.k, .string n.t, .int .i64 n.num, .slice (some ⟨bb, oo, none⟩) n.kids.length c2]) :=
     ⟨below_trans HX.out.1 (Nat.le_refl _) hb6, HX.out.2.1.below hb6, HX.out.2.2.below hb6⟩
    clear hHeld hb5 hb6 key hdr
    go_wp2
    go_roundw
    case rel => exact ⟨j + 1, by go_num, by omega, HX2⟩
    case measure => (first | (simp [intOf]; done) | (simp [intOf]; omega))
   ·have hi : ¬ (j : Int) < (n.kids.length : Int) := by omega
    have d1 : decide ((j : Int) < (n.kids.length : Int)) = false := by simpa using hi
    go_wp2
    go_ret
    exact ⟨rfl, HX.out.1⟩
theorem same_any (n : Nd) (cs ds : List Value) (w : World) (h1 : RepN w n cs) (h2 : RepN w n ds) : Calls Tryz.prog 8 #[.agg cs.toArray, .agg ds.toArray] w fun e w' => e = .returned (.bool true) ∧ Below w.heap.size w w' :=
 same_all _ n (Nat.le_refl _) cs ds w h1 h2
end Go.Proofs.YtgegfbopogcjpaaGreatDoor
