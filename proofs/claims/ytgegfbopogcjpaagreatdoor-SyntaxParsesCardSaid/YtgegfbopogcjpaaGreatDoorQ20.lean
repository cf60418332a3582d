/- The reference's reader: parameters, expressions in parentheses, blocks; The reference's tables: what a kind may have, its class, the signs, what a kid is to be. -/
import Derived.Test.YtgegfbopogcjpaaGreatDoorQ01
import Derived.Test.YtgegfbopogcjpaaGreatDoorQ02
import Derived.Test.YtgegfbopogcjpaaGreatDoorQ10
import Derived.Test.YtgegfbopogcjpaaGreatDoorQ19
import Derived.Deep.QuietTactic
import Derived.BigQuiet
import Derived.WalkLawsBesides
import Derived.IntWalk
namespace Go.Proofs.YtgegfbopogcjpaaGreatDoor
open Go.RowKit
set_option linter.unusedVariables false
set_option linter.unusedSimpArgs false
set_option maxRecDepth 100000
set_option maxHeartbeats 2000000
theorem Res.bind_assoc {α β γ : Type} (r : Res α) (f : α → Nat → Res β) (g : β → Nat → Res γ) : (r.bind f).bind g = r.bind fun a j => (f a j).bind g := by cases r <;> rfl
theorem paramM_eq (L : List Tok) (F i : Nat) : paramM L F i = (typM L F i).bind fun t j => (nameM L j).bind fun s k => .ok (.mk 8 s 0 [t]) k := rfl
theorem rows1_of (C : RC) (F : Nat) (hf : ROk C 43 (typM C.L F)) : ∀ (w : World) (i : Nat) (b : Bool), RSt C w i b → mbr (listM C.L (paramM C.L F) true i) i b ≠ .dry → Calls Tryz.prog 45 #[.pointer (some ⟨C.p, 0, none⟩), .int .i64 1] w (RList C w (mbr (listM C.L (paramM C.L F) true i) i b)) := by
 intro w i b h hwet
 have HF := Lib.hid hf
 clear hf
 obtain ⟨R, HR⟩ : ∃ R, Hid (mbr (listM C.L (paramM C.L F) true i) i b = R) := ⟨_, rfl⟩
 rw [HR.out] at hwet ⊢
 have HW := Lib.hid hwet
 have hlw := h.lt
 have hlen := h.len
 have hR := HR.out
 unfold listM at hR
 replace HR := Lib.hid hR
 clear hR hwet
 suffices key : ∀ w0 : World, w.heap.size ≤ w0.heap.size → RSt C w0 i b → Mv C.p w w0 → Calls Tryz.prog 45 #[.pointer (some ⟨C.p, 0, none⟩), .int .i64 1] w0 (RList C w R) from key w (Nat.le_refl _) h (Mv.refl_ _ _)
 intro w0 hsz0 hs0 hm0
 have H0 := Lib.hid h
 have HS := Lib.hid hs0
 have HM := Lib.hid hm0
 clear h hs0 hm0
 go_enter Tryz.func45, Tryz.ntmps45
 go_wp2_with fail
 refine (must_any C _ _ b ⟨#[40]⟩ HS.out (by decide)).mono ?_
 rintro e w1 ⟨j1, b1, rfl, h', m', hf⟩
 replace HR := Lib.hid (mbr_seq HR.out HW.out hf)
 clear hf
 have hsz1 := m'.size
 replace HS := Lib.hid h'
 replace HM := Lib.hid (HM.out.trans_ m')
 clear m'
 clear h'
 go_wp2_with fail
 rcases ht : (!b1 && tIs C.L ⟨#[41]⟩ j1) with _ | _
 ·have HV := Lib.hid (eat_any C _ _ b1 ⟨#[41]⟩ HS.out (by decide))
  rw [ht] at HV
  unfold EatOut at HV
  have HT := Lib.hid (eat_no ht)
  clear ht
  refine HV.out.mono ?_
  rintro e w2 ⟨rfl, h', m'⟩
  clear HV
  have hsz2 := m'.size
  replace HS := Lib.hid (show RSt C w2 j1 b1 by simpa using h')
  replace HM := Lib.hid (HM.out.trans_ m')
  clear m'
  clear h'
  go_wp2_with fail
  go_loopg [6, 7, 8] (C.L.length + 1) (fun gk v d mv wr => RowRel C (paramM C.L F) true R w gk v d mv wr)
  case atStart => exact ⟨[], none, 0, j1, b1, true, false, rfl, rfl, rfl, Lib.hid ⟨Acc.nil_ _ _, HS.out, HM.out, by simp, fun _ => ⟨rfl, fun _ => HT.out, HR.out⟩, fun e => by cases e⟩⟩
  case round =>
   obtain ⟨ks, A, c, j, b, mo, dd, rfl, rfl, rfl, HX⟩ := hrel
   clear HS HM HR HT
   have HS := Lib.hid HX.out.2.1
   have HM := Lib.hid HX.out.2.2.1
   have ACks := Lib.hid HX.out.1
   have hcn : ks.length ≤ 4001 := by have h1 := HX.out.2.2.2.1; have h2 := hlen; omega
   have hszr := HM.out.size
   have hcb := HS.out.blk.cell 2 (.bool b) rfl
   cases mo with
   | false =>
    have HR := Lib.hid (HX.out.2.2.2.2.2 rfl)
    clear HX
    go_wp2_with fail
    refine (must_any C _ _ b ⟨#[41]⟩ HS.out (by decide)).mono ?_
    rintro e w101 ⟨j51, b51, rfl, h', m', hf⟩
    replace HR := Lib.hid (mbr_seq HR.out HW.out hf)
    clear hf
    have hsz101 := m'.size
    replace ACks := Lib.hid (ACks.out.mv m' (by omega))
    replace HS := Lib.hid h'
    replace HM := Lib.hid (HM.out.trans_ m')
    clear m'
    clear h'
    go_wp2
    refine bodyPost_ret (v := .tuple #[.slice A (ks : List Nd).length c, .bool dd]) (by simp [results, Tryz.results45, go_sem]) rfl ?_
    exact ⟨ks, dd, A, c, _, _, rfl, ACks.out, hcn, HS.out, HM.out, mbr_fin HR.out⟩
   | true =>
    obtain ⟨hd, hfst, hR⟩ := HX.out.2.2.2.2.1 rfl
    subst hd
    cases b with
    | true =>
     have HR : Hid (mbr ((needM C.L ⟨#[41]⟩ j).bind fun _ k => .ok (ks, false) k) j true = R) := Lib.hid (mbr_any hR)
     clear HX hR hfst
     go_wp2_with fail
     refine (must_any C _ _ true ⟨#[41]⟩ HS.out (by decide)).mono ?_
     rintro e w101 ⟨j51, b51, rfl, h', m', hf⟩
     replace HR := Lib.hid (mbr_seq HR.out HW.out hf)
     clear hf
     have hsz101 := m'.size
     replace ACks := Lib.hid (ACks.out.mv m' (by omega))
     replace HS := Lib.hid h'
     replace HM := Lib.hid (HM.out.trans_ m')
     clear m'
     clear h'
     go_wp2
     refine bodyPost_ret (v := .tuple #[.slice A (ks : List Nd).length c, .bool false]) (by simp [results, Tryz.results45, go_sem]) rfl ?_
     exact ⟨ks, false, A, c, _, _, rfl, ACks.out, hcn, HS.out, HM.out, mbr_fin HR.out⟩
    | false =>
     cases gk with
     | zero => exact absurd (show Res.dry = R from hR) (fun e => HW.out e.symm)
     | succ g =>
     have hcnt : ks.length + (g + 1) ≤ C.L.length + 1 := by have := HX.out.2.2.2.1; simpa using this
     rw [itemsM, if_neg (fun h => hfst h.1 rfl h.2)] at hR
     have HR := Lib.hid hR
     clear HX hR hfst
     go_wp2_with fail
     rcases ht : (!false && tIs C.L ⟨#[46, 46, 46]⟩ j) with _ | _
     ·have HV := Lib.hid (eat_any C _ _ false ⟨#[46, 46, 46]⟩ HS.out (by decide))
      rw [ht] at HV
      unfold EatOut at HV
      replace HR := Lib.hid (mbr_no HR.out (fun e h => eat_no ht e h.2))
      clear ht
      refine HV.out.mono ?_
      rintro e w101 ⟨rfl, h', m'⟩
      clear HV
      have hsz101 := m'.size
      replace ACks := Lib.hid (ACks.out.mv m' (by omega))
      replace HS := Lib.hid (show RSt C w101 j false by simpa using h')
      replace HM := Lib.hid (HM.out.trans_ m')
      clear m'
      clear h'
      replace ACks := Lib.hid (ACks.out.toI (E := w101.heap.size) rfl)
      have HLTks : Hid (∀ g, (Value.slice A (ks).length c).ownBlock = some g → g < w101.heap.size) := by
       obtain ⟨ys, _, _, hoy⟩ := ACks.out
       exact fun g e => (hoy.lt g e).2
      go_upto_region 12 with (fail)
      have KX := Blk.new_ w101 24 #[.int .i64 0, .string ⟨#[]⟩, .int .i64 0, .slice none 0 0]
      have hb : Below w101.heap.size w101 (w101.alloc (.cells #[.int .i64 0, .string ⟨#[]⟩, .int .i64 0, .slice none 0 0] 24)) := by (repeat (first | with_reducible assumption | with_reducible exact Below.refl _ _ | (refine Below.setCell ?_ (by first | omega | (simp; done) | (simp; omega)) _) | (refine Below.drewN_ ?_ _) | (refine Below.drew ?_) | (refine Below.alloc ?_ (by first | omega | (simp; done) | (simp; omega)) _)))
      have hbzbt : w101.heap.size < (w101.alloc (.cells #[.int .i64 0, .string ⟨#[]⟩, .int .i64 0, .slice none 0 0] 24)).heap.size := KX.lt
      have hsz102 := hb.size
      replace ACks := Lib.hid (ACks.out.belowG hb)
      replace HS := Lib.hid (HS.out.below hb)
      replace HM := Lib.hid (HM.out.below_ hb)
      clear hb
      have BT := Lib.hid KX
      clear KX
      have HBSbt : Hid ((w101.alloc (.cells #[.int .i64 0, .string ⟨#[]⟩, .int .i64 0, .slice none 0 0] 24)).heap.size = w101.heap.size + 1) := by show _ = _; simp
      generalize (w101.alloc (.cells #[.int .i64 0, .string ⟨#[]⟩, .int .i64 0, .slice none 0 0] 24)) = w102 at *
      obtain ⟨bt, hbwbt⟩ : ∃ x, x = w101.heap.size := ⟨_, rfl⟩
      rw [← hbwbt] at BT
      have hbvbt : w101.heap.size ≤ bt := by omega
      have hbxbt : bt < w102.heap.size := by omega
      rw [← hbwbt]
      clear hbwbt
      have hR := HR.out
      rw [paramM_eq] at hR
      simp only [Res.bind_assoc, Res.bind_ok] at hR
      replace HR := Lib.hid hR
      clear hR
      go_wp2_with fail
      have hpt := HS.out.lt
      refine (HF.out _ _ false HS.out (mbr_wet HR.out HW.out)).mono ?_
      rintro e w103 ⟨⟨tk, tt, tn, tl⟩, At, ct, j51, b51, rfl, hrep, h', m', hf⟩
      replace HR := Lib.hid (mbr_seq HR.out HW.out hf)
      simp only [Nd.k, Nd.t, Nd.num, Nd.kids] at hrep ⊢
      have REPt := Lib.hid (hrep.toI (E := w103.heap.size) rfl)
      clear hf hrep
      have hsz103 := m'.size
      replace ACks := Lib.hid (ACks.out.mvI m' (Or.inl (by omega)))
      replace BT := Lib.hid (m'.blk BT.out (by omega))
      replace HS := Lib.hid h'
      replace HM := Lib.hid (HM.out.trans_ m')
      clear m'
      clear h'
      go_upto_region 18 with (fail)
      have KX := Blk.new_ w103 24 #[.int .i64 tk, .string tt, .int .i64 tn, .slice At tl.length ct]
      have hb : Below w103.heap.size w103 (w103.alloc (.cells #[.int .i64 tk, .string tt, .int .i64 tn, .slice At tl.length ct] 24)) := by (repeat (first | with_reducible assumption | with_reducible exact Below.refl _ _ | (refine Below.setCell ?_ (by first | omega | (simp; done) | (simp; omega)) _) | (refine Below.drewN_ ?_ _) | (refine Below.drew ?_) | (refine Below.alloc ?_ (by first | omega | (simp; done) | (simp; omega)) _)))
      have hbzy0 : w103.heap.size < (w103.alloc (.cells #[.int .i64 tk, .string tt, .int .i64 tn, .slice At tl.length ct] 24)).heap.size := KX.lt
      have hsz104 := hb.size
      replace ACks := Lib.hid (ACks.out.belowG hb)
      replace BT := Lib.hid (BT.out.below hb)
      replace REPt := Lib.hid (REPt.out.belI hb)
      replace HS := Lib.hid (HS.out.below hb)
      replace HM := Lib.hid (HM.out.below_ hb)
      clear hb
      have Y0 := Lib.hid KX
      clear KX
      have HBSy0 : Hid ((w103.alloc (.cells #[.int .i64 tk, .string tt, .int .i64 tn, .slice At tl.length ct] 24)).heap.size = w103.heap.size + 1) := by show _ = _; simp
      generalize (w103.alloc (.cells #[.int .i64 tk, .string tt, .int .i64 tn, .slice At tl.length ct] 24)) = w104 at *
      obtain ⟨y0, hbwy0⟩ : ∃ x, x = w103.heap.size := ⟨_, rfl⟩
      rw [← hbwy0] at Y0
      have hbvy0 : w103.heap.size ≤ y0 := by omega
      have hbxy0 : y0 < w104.heap.size := by omega
      rw [← hbwy0]
      clear hbwy0
      have hb : Below w104.heap.size w104 w104.drew := (Below.refl _ _).drew
      have hsz105 := hb.size
      replace ACks := Lib.hid (ACks.out.belowG hb)
      replace BT := Lib.hid (BT.out.below hb)
      replace REPt := Lib.hid (REPt.out.belI hb)
      replace Y0 := Lib.hid (Y0.out.below hb)
      replace HS := Lib.hid (HS.out.below hb)
      replace HM := Lib.hid (HM.out.below_ hb)
      clear hb
      refine wp_region_held_drew (S := (fun W => (W.cell? ⟨y0, 0, none⟩ = some (.int .i64 tk) ∧ W.cell? ⟨y0, 1, none⟩ = some (.string tt) ∧ W.cell? ⟨y0, 2, none⟩ = some (.int .i64 tn) ∧ W.cell? ⟨y0, 3, none⟩ = some (.slice At tl.length ct)))) (by kernel_rfl) ⟨Y0.out.cell 0 (.int .i64 tk) rfl, Y0.out.cell 1 (.string tt) rfl, Y0.out.cell 2 (.int .i64 tn) rfl, Y0.out.cell 3 (.slice At tl.length ct) rfl⟩ (fun hHeld => ?_)
      generalize w104.drew = w105 at *
      ((refine wpAnyH_take (i := 0) (v := ?_) rfl (by kernel_rfl) (by kernel_rfl) (by kernel_rfl) (fun _ _ _ h => h) (Or.inl ⟨by rfl, ?_⟩) (by assumption) ?_; rotate_left; · ((intro w hSw; (try dsimp only at hSw); go_simp) <;> with_reducible rfl); (try simp only [List.getElem_toArray, List.getElem_cons_succ, List.getElem_cons_zero, Act.put, List.setIfInBounds_toArray, List.set_cons_zero, List.set_cons_succ])))
      ((refine wpAnyH_take (i := 2) (v := ?_) rfl (by kernel_rfl) (by kernel_rfl) (by kernel_rfl) (fun _ _ _ h => h) (Or.inl ⟨by rfl, ?_⟩) (by assumption) ?_; rotate_left; · ((intro w hSw; (try dsimp only at hSw); go_simp) <;> with_reducible rfl); (try simp only [List.getElem_toArray, List.getElem_cons_succ, List.getElem_cons_zero, Act.put, List.setIfInBounds_toArray, List.set_cons_zero, List.set_cons_succ])))
      refine wpAnyH_ready (rs := [1, 3]) (by kernel_rfl) (by simp) (AllReadyH.cons rfl (fun K hK => ?_) (AllReadyH.cons rfl (fun K hK => ?_) AllReadyH.nil))
      ·go_simp
       refine (nameRd_any C _ _ b51 HS.out).mono ?_
       rintro e w106 ⟨nm, j52, b52, rfl, hsz, h', m', hf⟩
       have hnm := nm_max hsz
       replace HR := Lib.hid (mbr_seq HR.out HW.out hf)
       clear hf hsz
       have hsz106 := m'.size
       replace ACks := Lib.hid (ACks.out.mvI m' (Or.inl (by omega)))
       replace BT := Lib.hid (m'.blk BT.out (by omega))
       replace REPt := Lib.hid (REPt.out.mvI m' (Or.inl (by omega)))
       replace Y0 := Lib.hid (m'.blk Y0.out (by omega))
       replace HS := Lib.hid h'
       replace HM := Lib.hid (HM.out.trans_ m')
       clear m'
       clear h'
       refine hK.out _ _ ⟨Y0.out.cell 0 (.int .i64 tk) rfl, Y0.out.cell 1 (.string tt) rfl, Y0.out.cell 2 (.int .i64 tn) rfl, Y0.out.cell 3 (.slice At tl.length ct) rfl⟩ (fun hHeld => ?_)
       clear hK K
       (try simp only [List.getElem_toArray, List.getElem_cons_succ, List.getElem_cons_zero, Act.put, List.setIfInBounds_toArray, List.set_cons_zero, List.set_cons_succ])
       refine wpAnyH_ready (rs := [3]) (by kernel_rfl) (by simp) (AllReadyH.cons rfl (fun K hK => ?_) AllReadyH.nil)
       go_simp
       have KX := Blk.new_ w106 24 #[.int .i64 tk, .string tt, .int .i64 tn, .slice At tl.length ct]
       have hb : Below w106.heap.size w106 (w106.alloc (.cells #[.int .i64 tk, .string tt, .int .i64 tn, .slice At tl.length ct] 24)) := by (repeat (first | with_reducible assumption | with_reducible exact Below.refl _ _ | (refine Below.setCell ?_ (by first | omega | (simp; done) | (simp; omega)) _) | (refine Below.drewN_ ?_ _) | (refine Below.drew ?_) | (refine Below.alloc ?_ (by first | omega | (simp; done) | (simp; omega)) _)))
       have hbzby_ : w106.heap.size < (w106.alloc (.cells #[.int .i64 tk, .string tt, .int .i64 tn, .slice At tl.length ct] 24)).heap.size := KX.lt
       have hsz107 := hb.size
       replace ACks := Lib.hid (ACks.out.belowG hb)
       replace BT := Lib.hid (BT.out.below hb)
       replace REPt := Lib.hid (REPt.out.belI hb)
       replace Y0 := Lib.hid (Y0.out.below hb)
       replace HS := Lib.hid (HS.out.below hb)
       replace HM := Lib.hid (HM.out.below_ hb)
       clear hb
       have BY := Lib.hid KX
       clear KX
       have HBSby_ : Hid ((w106.alloc (.cells #[.int .i64 tk, .string tt, .int .i64 tn, .slice At tl.length ct] 24)).heap.size = w106.heap.size + 1) := by show _ = _; simp
       generalize (w106.alloc (.cells #[.int .i64 tk, .string tt, .int .i64 tn, .slice At tl.length ct] 24)) = w107 at *
       obtain ⟨by_, hbwby_⟩ : ∃ x, x = w106.heap.size := ⟨_, rfl⟩
       rw [← hbwby_] at BY
       have hbvby_ : w106.heap.size ≤ by_ := by omega
       have hbxby_ : by_ < w107.heap.size := by omega
       rw [← hbwby_]
       clear hbwby_
       refine hK.out _ _ ⟨Y0.out.cell 0 (.int .i64 tk) rfl, Y0.out.cell 1 (.string tt) rfl, Y0.out.cell 2 (.int .i64 tn) rfl, Y0.out.cell 3 (.slice At tl.length ct) rfl⟩ (fun hHeld => ?_)
       clear hK K
       (try simp only [List.getElem_toArray, List.getElem_cons_succ, List.getElem_cons_zero, Act.put, List.setIfInBounds_toArray, List.set_cons_zero, List.set_cons_succ])
       ((refine wpAnyH_take (i := 4) (v := ?_) rfl (by kernel_rfl) (by kernel_rfl) (by kernel_rfl) (fun _ _ _ h => h) (Or.inl ⟨by rfl, ?_⟩) (by assumption) ?_; rotate_left; · ((intro w hSw; (try dsimp only at hSw); go_simp) <;> with_reducible rfl); (try simp only [List.getElem_toArray, List.getElem_cons_succ, List.getElem_cons_zero, Act.put, List.setIfInBounds_toArray, List.set_cons_zero, List.set_cons_succ])))
       refine wpAnyH_ready (rs := [5]) (by kernel_rfl) (by simp) (AllReadyH.cons rfl (fun K hK => ?_) AllReadyH.nil)
       have f0 := BT.out.free 0
       have g0 := BT.out.cell 0 (.int .i64 0) rfl
       have f1 := BT.out.free 1
       have g1 := BT.out.cell 1 (.string ⟨#[]⟩) rfl
       have f2 := BT.out.free 2
       have g2 := BT.out.cell 2 (.int .i64 0) rfl
       have f3 := BT.out.free 3
       have g3 := BT.out.cell 3 (.slice none 0 0) rfl
       go_simp
       clear f0 f1 f2 f3 g0 g1 g2 g3
       have m' := put4_mv w107 bt (.int .i64 8) (.string nm) (.int .i64 0) (.slice (some ⟨by_, 0, none⟩) 1 1)
       have hbt := blk_put4 BT.out (.int .i64 8) (.string nm) (.int .i64 0) (.slice (some ⟨by_, 0, none⟩) 1 1)
       have REPx := Lib.hid ((one_kidV (V := Btw w102.heap.size w107.heap.size) (k := 8) (t := nm) (x := (Nd.mk tk tt tn tl)) BY.out (REPt.out.ofI fun b h1 h2 => ⟨h1, by omega⟩) ⟨by omega, by omega⟩ hnm).mvI m' (by omega))
       have hsz108 := m'.size
       replace HS := Lib.hid (RSt.put H0.out HS.out HM.out (by omega) m')
       replace HM := Lib.hid (HM.out.put (by omega) m')
       replace ACks := Lib.hid (ACks.out.mvI m' (by omega))
       replace BT := Lib.hid hbt
       replace REPt := Lib.hid (REPt.out.mvI m' (by omega))
       replace Y0 := Lib.hid (m'.blk Y0.out (by omega))
       replace BY := Lib.hid (m'.blk BY.out (by omega))
       clear m' hbt
       generalize (((((w107).setCell ⟨bt, 0, none⟩ (.int .i64 8)).setCell ⟨bt, 1, none⟩ (.string nm)).setCell ⟨bt, 2, none⟩ (.int .i64 0)).setCell ⟨bt, 3, none⟩ (.slice (some ⟨by_, 0, none⟩) 1 1)) = w108 at *
       refine hK.out _ _ ⟨Y0.out.cell 0 (.int .i64 tk) rfl, Y0.out.cell 1 (.string tt) rfl, Y0.out.cell 2 (.int .i64 tn) rfl, Y0.out.cell 3 (.slice At tl.length ct) rfl⟩ (fun hHeld => ?_)
       clear hK K
       (try simp only [List.getElem_toArray, List.getElem_cons_succ, List.getElem_cons_zero, Act.put, List.setIfInBounds_toArray, List.set_cons_zero, List.set_cons_succ])
       refine wpAnyH_done (by kernel_rfl) ?_ _
       clear hHeld
       clear BY Y0 REPt
       have bBT0 := BT.out.cell 0 (.int .i64 8) rfl
       have bBT1 := BT.out.cell 1 (.string nm) rfl
       have bBT2 := BT.out.cell 2 (.int .i64 0) rfl
       have bBT3 := BT.out.cell 3 (.slice (some ⟨by_, 0, none⟩) 1 1) rfl
       clear BT
       replace ACks := Lib.hid ACks.out.ofI
       obtain ⟨xs, hcs, ho⟩ := ACks.out
       have HCS := Lib.hid hcs
       have HO := Lib.hid ho
       clear hcs ho
       obtain ⟨i0, hi0, hz0, hz1, hz2⟩ := info_parts info_nodes
       go_wp2_with (at_builtin; refine wpList_append_own_at _ rfl _ _ 22 rfl w.heap.size 24 i0 (.agg #[.int .i64 0, .string ⟨#[]⟩, .int .i64 0, .slice none 0 0]) 4 56 Tryz.underlying22 hi0 hz0 hz1 hz2 rfl (by decide) _ _ _ rfl (HO.out.alloc _) ⟨w108.heap.size, 0, none⟩ 1 1 [.int .i64 8, .string nm, .int .i64 0, .slice (some ⟨by_, 0, none⟩) 1 1] rfl rfl ?c1x1 ?c2x1 ?c3x1 ?c4x1 ?c5x1 ?_)
       try (case c1x1 => exact World.news_of_block (cs := #[.int .i64 8, .string nm, .int .i64 0, .slice (some ⟨by_, 0, none⟩) 1 1]) (t := 24) (fr := (0, 0)) (heap_new rfl))
       case c2x1 => simp [Value.oneCell']
       case c3x1 => first | (unfold maxLen; omega) | (unfold maxLen; simp; done) | (unfold maxLen; simp; omega)
       try (case c4x1 => first | omega | (simp; done) | (simp; omega))
       case c5x1 => first | omega | (simp; done) | (simp; omega)
       intro v109 w109 hown hg _ hob
       have HP := RSt.push H0.out HS.out HM.out (by omega) HO.out hg
       have hacc := acc_pushI HCS.out REPx.out (by omega) (fun g e => Nat.lt_of_lt_of_le (HLTks.out g e) (by omega)) hown hg (by simpa using hob)
       have hsz109 : w108.heap.size + 1 ≤ w109.heap.size := by have := hg.size; simpa using this
       obtain ⟨Aw109, cw109, rfl, -⟩ := Row.of_own hown
       replace HS := Lib.hid HP.1
       replace HM := Lib.hid HP.2
       replace ACks := Lib.hid hacc
       clear hown hg hob hacc HP HO HCS HLTks REPx hi0 hz0 hz1 hz2
       go_wp2_with fail
       rcases ht : (!b52 && tIs C.L ⟨#[44]⟩ j52) with _ | _
       ·have HV := Lib.hid (eat_any C _ _ b52 ⟨#[44]⟩ HS.out (by decide))
        rw [ht] at HV
        unfold EatOut at HV
        replace HR := Lib.hid (mbr_no HR.out (eat_no ht))
        clear ht
        refine HV.out.mono ?_
        rintro e w110 ⟨rfl, h', m'⟩
        clear HV
        have hsz110 := m'.size
        replace ACks := Lib.hid (ACks.out.mv m' (by omega))
        replace HS := Lib.hid (show RSt C w110 j52 b52 by simpa using h')
        replace HM := Lib.hid (HM.out.trans_ m')
        clear m'
        clear h'
        go_wp2_with fail
        go_roundg g
        case measure => omega
        case rel => exact ⟨ks ++ [.mk 8 nm 0 [.mk tk tt tn tl]], Aw109, cw109, j52, b52, false, false, by simp, rfl, rfl, Lib.hid ⟨by simpa using ACks.out, HS.out, HM.out, by simp; omega, (fun e => by cases e), (fun _ => HR.out)⟩⟩
       have HV := Lib.hid (eat_any C _ _ b52 ⟨#[44]⟩ HS.out (by decide))
       rw [ht] at HV
       unfold EatOut at HV
       obtain ⟨hb, hyt⟩ := eat_yes ht
       clear ht
       cases hb
       replace HR := Lib.hid (mbr_yes (j := j52 + 1) HR.out hyt)
       clear hyt
       refine HV.out.mono ?_
       rintro e w110 ⟨rfl, h', m'⟩
       clear HV
       have hsz110 := m'.size
       replace ACks := Lib.hid (ACks.out.mv m' (by omega))
       replace HS := Lib.hid (show RSt C w110 (j52 + 1) false by simpa using h')
       replace HM := Lib.hid (HM.out.trans_ m')
       clear m'
       clear h'
       go_wp2_with fail
       go_roundg g
       case measure => omega
       case rel => exact ⟨ks ++ [.mk 8 nm 0 [.mk tk tt tn tl]], Aw109, cw109, (j52 + 1), false, true, false, by simp, rfl, rfl, Lib.hid ⟨by simpa using ACks.out, HS.out, HM.out, by simp; omega, (fun _ => ⟨rfl, fun e => by simp at e, HR.out⟩), (fun e => by cases e)⟩⟩
      go_simp
      have KX := Blk.new_ w105 24 #[.int .i64 tk, .string tt, .int .i64 tn, .slice At tl.length ct]
      have hb : Below w105.heap.size w105 (w105.alloc (.cells #[.int .i64 tk, .string tt, .int .i64 tn, .slice At tl.length ct] 24)) := by (repeat (first | with_reducible assumption | with_reducible exact Below.refl _ _ | (refine Below.setCell ?_ (by first | omega | (simp; done) | (simp; omega)) _) | (refine Below.drewN_ ?_ _) | (refine Below.drew ?_) | (refine Below.alloc ?_ (by first | omega | (simp; done) | (simp; omega)) _)))
      have hbzby_ : w105.heap.size < (w105.alloc (.cells #[.int .i64 tk, .string tt, .int .i64 tn, .slice At tl.length ct] 24)).heap.size := KX.lt
      have hsz106 := hb.size
      replace ACks := Lib.hid (ACks.out.belowG hb)
      replace BT := Lib.hid (BT.out.below hb)
      replace REPt := Lib.hid (REPt.out.belI hb)
      replace Y0 := Lib.hid (Y0.out.below hb)
      replace HS := Lib.hid (HS.out.below hb)
      replace HM := Lib.hid (HM.out.below_ hb)
      clear hb
      have BY := Lib.hid KX
      clear KX
      have HBSby_ : Hid ((w105.alloc (.cells #[.int .i64 tk, .string tt, .int .i64 tn, .slice At tl.length ct] 24)).heap.size = w105.heap.size + 1) := by show _ = _; simp
      generalize (w105.alloc (.cells #[.int .i64 tk, .string tt, .int .i64 tn, .slice At tl.length ct] 24)) = w106 at *
      obtain ⟨by_, hbwby_⟩ : ∃ x, x = w105.heap.size := ⟨_, rfl⟩
      rw [← hbwby_] at BY
      have hbvby_ : w105.heap.size ≤ by_ := by omega
      have hbxby_ : by_ < w106.heap.size := by omega
      rw [← hbwby_]
      clear hbwby_
      refine hK.out _ _ ⟨Y0.out.cell 0 (.int .i64 tk) rfl, Y0.out.cell 1 (.string tt) rfl, Y0.out.cell 2 (.int .i64 tn) rfl, Y0.out.cell 3 (.slice At tl.length ct) rfl⟩ (fun hHeld => ?_)
      clear hK K
      (try simp only [List.getElem_toArray, List.getElem_cons_succ, List.getElem_cons_zero, Act.put, List.setIfInBounds_toArray, List.set_cons_zero, List.set_cons_succ])
      refine wpAnyH_ready (rs := [1]) (by kernel_rfl) (by simp) (AllReadyH.cons rfl (fun K hK => ?_) AllReadyH.nil)
      go_simp
      refine (nameRd_any C _ _ b51 HS.out).mono ?_
      rintro e w107 ⟨nm, j52, b52, rfl, hsz, h', m', hf⟩
      have hnm := nm_max hsz
      replace HR := Lib.hid (mbr_seq HR.out HW.out hf)
      clear hf hsz
      have hsz107 := m'.size
      replace ACks := Lib.hid (ACks.out.mvI m' (Or.inl (by omega)))
      replace BT := Lib.hid (m'.blk BT.out (by omega))
      replace REPt := Lib.hid (REPt.out.mvI m' (Or.inl (by omega)))
      replace Y0 := Lib.hid (m'.blk Y0.out (by omega))
      replace BY := Lib.hid (m'.blk BY.out (by omega))
      replace HS := Lib.hid h'
      replace HM := Lib.hid (HM.out.trans_ m')
      clear m'
      clear h'
      refine hK.out _ _ ⟨Y0.out.cell 0 (.int .i64 tk) rfl, Y0.out.cell 1 (.string tt) rfl, Y0.out.cell 2 (.int .i64 tn) rfl, Y0.out.cell 3 (.slice At tl.length ct) rfl⟩ (fun hHeld => ?_)
      clear hK K
      (try simp only [List.getElem_toArray, List.getElem_cons_succ, List.getElem_cons_zero, Act.put, List.setIfInBounds_toArray, List.set_cons_zero, List.set_cons_succ])
      ((refine wpAnyH_take (i := 4) (v := ?_) rfl (by kernel_rfl) (by kernel_rfl) (by kernel_rfl) (fun _ _ _ h => h) (Or.inl ⟨by rfl, ?_⟩) (by assumption) ?_; rotate_left; · ((intro w hSw; (try dsimp only at hSw); go_simp) <;> with_reducible rfl); (try simp only [List.getElem_toArray, List.getElem_cons_succ, List.getElem_cons_zero, Act.put, List.setIfInBounds_toArray, List.set_cons_zero, List.set_cons_succ])))
      refine wpAnyH_ready (rs := [5]) (by kernel_rfl) (by simp) (AllReadyH.cons rfl (fun K hK => ?_) AllReadyH.nil)
      have f0 := BT.out.free 0
      have g0 := BT.out.cell 0 (.int .i64 0) rfl
      have f1 := BT.out.free 1
      have g1 := BT.out.cell 1 (.string ⟨#[]⟩) rfl
      have f2 := BT.out.free 2
      have g2 := BT.out.cell 2 (.int .i64 0) rfl
      have f3 := BT.out.free 3
      have g3 := BT.out.cell 3 (.slice none 0 0) rfl
      go_simp
      clear f0 f1 f2 f3 g0 g1 g2 g3
      have m' := put4_mv w107 bt (.int .i64 8) (.string nm) (.int .i64 0) (.slice (some ⟨by_, 0, none⟩) 1 1)
      have hbt := blk_put4 BT.out (.int .i64 8) (.string nm) (.int .i64 0) (.slice (some ⟨by_, 0, none⟩) 1 1)
      have REPx := Lib.hid ((one_kidV (V := Btw w102.heap.size w107.heap.size) (k := 8) (t := nm) (x := (Nd.mk tk tt tn tl)) BY.out (REPt.out.ofI fun b h1 h2 => ⟨h1, by omega⟩) ⟨by omega, by omega⟩ hnm).mvI m' (by omega))
      have hsz108 := m'.size
      replace HS := Lib.hid (RSt.put H0.out HS.out HM.out (by omega) m')
      replace HM := Lib.hid (HM.out.put (by omega) m')
      replace ACks := Lib.hid (ACks.out.mvI m' (by omega))
      replace BT := Lib.hid hbt
      replace REPt := Lib.hid (REPt.out.mvI m' (by omega))
      replace Y0 := Lib.hid (m'.blk Y0.out (by omega))
      replace BY := Lib.hid (m'.blk BY.out (by omega))
      clear m' hbt
      generalize (((((w107).setCell ⟨bt, 0, none⟩ (.int .i64 8)).setCell ⟨bt, 1, none⟩ (.string nm)).setCell ⟨bt, 2, none⟩ (.int .i64 0)).setCell ⟨bt, 3, none⟩ (.slice (some ⟨by_, 0, none⟩) 1 1)) = w108 at *
      refine hK.out _ _ ⟨Y0.out.cell 0 (.int .i64 tk) rfl, Y0.out.cell 1 (.string tt) rfl, Y0.out.cell 2 (.int .i64 tn) rfl, Y0.out.cell 3 (.slice At tl.length ct) rfl⟩ (fun hHeld => ?_)
      clear hK K
      (try simp only [List.getElem_toArray, List.getElem_cons_succ, List.getElem_cons_zero, Act.put, List.setIfInBounds_toArray, List.set_cons_zero, List.set_cons_succ])
      refine wpAnyH_done (by kernel_rfl) ?_ _
      clear hHeld
      clear BY Y0 REPt
      have bBT0 := BT.out.cell 0 (.int .i64 8) rfl
      have bBT1 := BT.out.cell 1 (.string nm) rfl
      have bBT2 := BT.out.cell 2 (.int .i64 0) rfl
      have bBT3 := BT.out.cell 3 (.slice (some ⟨by_, 0, none⟩) 1 1) rfl
      clear BT
      replace ACks := Lib.hid ACks.out.ofI
      obtain ⟨xs, hcs, ho⟩ := ACks.out
      have HCS := Lib.hid hcs
      have HO := Lib.hid ho
      clear hcs ho
      obtain ⟨i0, hi0, hz0, hz1, hz2⟩ := info_parts info_nodes
      go_wp2_with (at_builtin; refine wpList_append_own_at _ rfl _ _ 22 rfl w.heap.size 24 i0 (.agg #[.int .i64 0, .string ⟨#[]⟩, .int .i64 0, .slice none 0 0]) 4 56 Tryz.underlying22 hi0 hz0 hz1 hz2 rfl (by decide) _ _ _ rfl (HO.out.alloc _) ⟨w108.heap.size, 0, none⟩ 1 1 [.int .i64 8, .string nm, .int .i64 0, .slice (some ⟨by_, 0, none⟩) 1 1] rfl rfl ?c1x2 ?c2x2 ?c3x2 ?c4x2 ?c5x2 ?_)
      try (case c1x2 => exact World.news_of_block (cs := #[.int .i64 8, .string nm, .int .i64 0, .slice (some ⟨by_, 0, none⟩) 1 1]) (t := 24) (fr := (0, 0)) (heap_new rfl))
      case c2x2 => simp [Value.oneCell']
      case c3x2 => first | (unfold maxLen; omega) | (unfold maxLen; simp; done) | (unfold maxLen; simp; omega)
      try (case c4x2 => first | omega | (simp; done) | (simp; omega))
      case c5x2 => first | omega | (simp; done) | (simp; omega)
      intro v109 w109 hown hg _ hob
      have HP := RSt.push H0.out HS.out HM.out (by omega) HO.out hg
      have hacc := acc_pushI HCS.out REPx.out (by omega) (fun g e => Nat.lt_of_lt_of_le (HLTks.out g e) (by omega)) hown hg (by simpa using hob)
      have hsz109 : w108.heap.size + 1 ≤ w109.heap.size := by have := hg.size; simpa using this
      obtain ⟨Aw109, cw109, rfl, -⟩ := Row.of_own hown
      replace HS := Lib.hid HP.1
      replace HM := Lib.hid HP.2
      replace ACks := Lib.hid hacc
      clear hown hg hob hacc HP HO HCS HLTks REPx hi0 hz0 hz1 hz2
      go_wp2_with fail
      rcases ht : (!b52 && tIs C.L ⟨#[44]⟩ j52) with _ | _
      ·have HV := Lib.hid (eat_any C _ _ b52 ⟨#[44]⟩ HS.out (by decide))
       rw [ht] at HV
       unfold EatOut at HV
       replace HR := Lib.hid (mbr_no HR.out (eat_no ht))
       clear ht
       refine HV.out.mono ?_
       rintro e w110 ⟨rfl, h', m'⟩
       clear HV
       have hsz110 := m'.size
       replace ACks := Lib.hid (ACks.out.mv m' (by omega))
       replace HS := Lib.hid (show RSt C w110 j52 b52 by simpa using h')
       replace HM := Lib.hid (HM.out.trans_ m')
       clear m'
       clear h'
       go_wp2_with fail
       go_roundg g
       case measure => omega
       case rel => exact ⟨ks ++ [.mk 8 nm 0 [.mk tk tt tn tl]], Aw109, cw109, j52, b52, false, false, by simp, rfl, rfl, Lib.hid ⟨by simpa using ACks.out, HS.out, HM.out, by simp; omega, (fun e => by cases e), (fun _ => HR.out)⟩⟩
      have HV := Lib.hid (eat_any C _ _ b52 ⟨#[44]⟩ HS.out (by decide))
      rw [ht] at HV
      unfold EatOut at HV
      obtain ⟨hb, hyt⟩ := eat_yes ht
      clear ht
      cases hb
      replace HR := Lib.hid (mbr_yes (j := j52 + 1) HR.out hyt)
      clear hyt
      refine HV.out.mono ?_
      rintro e w110 ⟨rfl, h', m'⟩
      clear HV
      have hsz110 := m'.size
      replace ACks := Lib.hid (ACks.out.mv m' (by omega))
      replace HS := Lib.hid (show RSt C w110 (j52 + 1) false by simpa using h')
      replace HM := Lib.hid (HM.out.trans_ m')
      clear m'
      clear h'
      go_wp2_with fail
      go_roundg g
      case measure => omega
      case rel => exact ⟨ks ++ [.mk 8 nm 0 [.mk tk tt tn tl]], Aw109, cw109, (j52 + 1), false, true, false, by simp, rfl, rfl, Lib.hid ⟨by simpa using ACks.out, HS.out, HM.out, by simp; omega, (fun _ => ⟨rfl, fun e => by simp at e, HR.out⟩), (fun e => by cases e)⟩⟩
     have HV := Lib.hid (eat_any C _ _ false ⟨#[46, 46, 46]⟩ HS.out (by decide))
     rw [ht] at HV
     unfold EatOut at HV
     obtain ⟨hb, hyt⟩ := eat_yes ht
     clear ht
     cases hb
     replace HR := Lib.hid (mbr_yes (j := j + 1) HR.out (by simp [hyt]))
     clear hyt
     refine HV.out.mono ?_
     rintro e w101 ⟨rfl, h', m'⟩
     clear HV
     have hsz101 := m'.size
     replace ACks := Lib.hid (ACks.out.mv m' (by omega))
     replace HS := Lib.hid (show RSt C w101 (j + 1) false by simpa using h')
     replace HM := Lib.hid (HM.out.trans_ m')
     clear m'
     clear h'
     go_wp2_with fail
     go_roundg g
     case measure => omega
     case rel => exact ⟨ks, A, c, (j + 1), false, false, true, by simp, rfl, rfl, Lib.hid ⟨by simpa using ACks.out, HS.out, HM.out, by simp; omega, (fun e => by cases e), (fun _ => HR.out)⟩⟩
 have HV := Lib.hid (eat_any C _ _ b1 ⟨#[41]⟩ HS.out (by decide))
 rw [ht] at HV
 unfold EatOut at HV
 obtain ⟨hb, hyt⟩ := eat_yes ht
 clear ht
 cases hb
 have HT := Lib.hid hyt
 clear hyt
 refine HV.out.mono ?_
 rintro e w2 ⟨rfl, h', m'⟩
 clear HV
 have hsz2 := m'.size
 replace HS := Lib.hid (show RSt C w2 (j1 + 1) false by simpa using h')
 replace HM := Lib.hid (HM.out.trans_ m')
 clear m'
 clear h'
 have hR := HR.out
 rw [itemsM, if_pos ⟨rfl, HT.out⟩] at hR
 replace HR := Lib.hid hR
 clear hR HT
 go_wp2
 refine bodyPost_ret (v := .tuple #[.slice none ([] : List Nd).length 0, .bool false]) (by simp [results, Tryz.results45, go_sem]) rfl ?_
 exact ⟨[], false, none, 0, _, _, rfl, Acc.nil_ _ _, by simp, HS.out, HM.out, mbr_fin HR.out⟩
end Go.Proofs.YtgegfbopogcjpaaGreatDoor
namespace Go.Proofs.YtgegfbopogcjpaaGreatDoor
open Go.RowKit
set_option linter.unusedVariables false
set_option linter.unusedSimpArgs false
set_option maxRecDepth 100000
set_option maxHeartbeats 1000000
def sgI : Nat → ByteArray
 | 0 => ⟨#[61, 61]⟩
 | 1 => ⟨#[60]⟩
 | 2 => ⟨#[43]⟩
 | 3 => ⟨#[45]⟩
 | 4 => ⟨#[124]⟩
 | 5 => ⟨#[94]⟩
 | 6 => ⟨#[42]⟩
 | 7 => ⟨#[47]⟩
 | 8 => ⟨#[37]⟩
 | 9 => ⟨#[38]⟩
 | _ => ⟨#[]⟩
def opI : Nat → Int
 | 0 => 12
 | 1 => 10
 | 2 => 1
 | 3 => 2
 | 4 => 8
 | 5 => 9
 | 6 => 3
 | 7 => 5
 | 8 => 6
 | 9 => 7
 | _ => 0
def kI (i : Nat) : Int := if i < 2 then 0 else if i < 6 then 1 else 2
theorem ten (P : Nat → Prop) (h0 : P 0) (h1 : P 1) (h2 : P 2) (h3 : P 3) (h4 : P 4) (h5 : P 5) (h6 : P 6) (h7 : P 7) (h8 : P 8) (h9 : P 9) : ∀ i, i < 10 → P i
 | 0, _ => h0
 | 1, _ => h1
 | 2, _ => h2
 | 3, _ => h3
 | 4, _ => h4
 | 5, _ => h5
 | 6, _ => h6
 | 7, _ => h7
 | 8, _ => h8
 | 9, _ => h9
 | i + 10, h => absurd h (by omega)
def signIx (s : ByteArray) : Nat → Option Nat
 | 0 => none
 | f + 1 => if sgI (9 - f) = s then some (9 - f) else signIx s f
def signR (s : ByteArray) : Int × Int := match signIx s 10 with
 | some i => (kI i, opI i)
 | none => (-1, 0)
theorem sgI_inj : ∀ i, i < 10 → ∀ j, j < 10 → sgI i = sgI j → i = j :=
 ten _ (ten _ (by decide) (by decide) (by decide) (by decide) (by decide) (by decide) (by decide) (by decide) (by decide) (by decide))
  (ten _ (by decide) (by decide) (by decide) (by decide) (by decide) (by decide) (by decide) (by decide) (by decide) (by decide))
  (ten _ (by decide) (by decide) (by decide) (by decide) (by decide) (by decide) (by decide) (by decide) (by decide) (by decide))
  (ten _ (by decide) (by decide) (by decide) (by decide) (by decide) (by decide) (by decide) (by decide) (by decide) (by decide))
  (ten _ (by decide) (by decide) (by decide) (by decide) (by decide) (by decide) (by decide) (by decide) (by decide) (by decide))
  (ten _ (by decide) (by decide) (by decide) (by decide) (by decide) (by decide) (by decide) (by decide) (by decide) (by decide))
  (ten _ (by decide) (by decide) (by decide) (by decide) (by decide) (by decide) (by decide) (by decide) (by decide) (by decide))
  (ten _ (by decide) (by decide) (by decide) (by decide) (by decide) (by decide) (by decide) (by decide) (by decide) (by decide))
  (ten _ (by decide) (by decide) (by decide) (by decide) (by decide) (by decide) (by decide) (by decide) (by decide) (by decide))
  (ten _ (by decide) (by decide) (by decide) (by decide) (by decide) (by decide) (by decide) (by decide) (by decide) (by decide))
theorem signIx_none : ∀ (f : Nat) (s : ByteArray), f ≤ 10 → (∀ j, 10 - f ≤ j → j < 10 → sgI j ≠ s) → signIx s f = none
 | 0, s, _, _ => rfl
 | f + 1, s, hf, h => by
  rw [signIx, if_neg (h (9 - f) (by omega) (by omega))]
  exact signIx_none f s (by omega) (fun j h1 h2 => h j (by omega) h2)
theorem signIx_at : ∀ (f i : Nat) (s : ByteArray), f ≤ 10 → 10 - f ≤ i → i < 10 → sgI i = s → (∀ j, 10 - f ≤ j → j < i → sgI j ≠ s) → signIx s f = some i
 | 0, i, s, _, h1, h2, _, _ => by omega
 | f + 1, i, s, hf, h1, h2, h3, h4 => by
  rw [signIx]
  by_cases he : 9 - f = i
  ·rw [if_pos (by rw [he]; exact h3), he]
  ·rw [if_neg (h4 (9 - f) (by omega) (by omega))]
   exact signIx_at f i s (by omega) (by omega) h2 h3 (fun j ha hb => h4 j (by omega) hb)
theorem signR_at {s : ByteArray} {i : Nat} (hi : i < 10) (h : sgI i = s) (hb : ∀ j, j < i → sgI j ≠ s) : signR s = (kI i, opI i) := by
 unfold signR
 rw [signIx_at 10 i s (Nat.le_refl _) (by omega) hi h (fun j _ hj => hb j hj)]
theorem signR_no {s : ByteArray} (h : ∀ j, j < 10 → sgI j ≠ s) : signR s = (-1, 0) := by
 unfold signR
 rw [signIx_none 10 s (Nat.le_refl _) (fun j _ hj => h j hj)]
theorem signR_sg : ∀ i, i < 10 → signR (sgI i) = (kI i, opI i) := fun i hi => signR_at hi rfl (fun j hj he => by
 have := sgI_inj j (by omega) i hi he
 omega)
def signsA : Array Value := #[.string ⟨#[61, 61]⟩, .string ⟨#[60]⟩, .string ⟨#[43]⟩, .string ⟨#[45]⟩, .string ⟨#[124]⟩, .string ⟨#[94]⟩, .string ⟨#[42]⟩, .string ⟨#[47]⟩, .string ⟨#[37]⟩, .string ⟨#[38]⟩]
def opsA : Array Value := #[.int .i64 12, .int .i64 10, .int .i64 1, .int .i64 2, .int .i64 8, .int .i64 9, .int .i64 3, .int .i64 5, .int .i64 6, .int .i64 7]
theorem signsA_at : ∀ i, i < 10 → signsA[i]? = some (.string (sgI i)) := ten _ rfl rfl rfl rfl rfl rfl rfl rfl rfl rfl
theorem opsA_at : ∀ i, i < 10 → opsA[i]? = some (.int .i64 (opI i)) := ten _ rfl rfl rfl rfl rfl rfl rfl rfl rfl rfl
def SignRel (s : ByteArray) (w : World) (b0 : Nat) (i : Value) (wr : World) : Prop :=
 ∃ j : Nat, i = .int .i64 j ∧ j ≤ 10 ∧ Hid ((∀ k, k < j → sgI k ≠ s) ∧ Below w.heap.size w wr ∧ Blk wr b0 9 signsA ∧ Blk wr (b0 + 1) 2 opsA)
def SignOut (s : ByteArray) (w : World) (e : Ending) (w' : World) : Prop := e = .returned (.tuple #[.int .i64 (signR s).1, .int .i64 (signR s).2]) ∧ Below w.heap.size w w'
theorem signB_any (s : ByteArray) (w : World) : Calls Tryz.prog 126 #[.string s] w (SignOut s w) := by
 have K1 := Lib.hid ((Blk.new_ w 9 signsA).alloc (.cells opsA 2))
 have K2 : Hid (Blk ((w.alloc (.cells signsA 9)).alloc (.cells opsA 2)) (w.heap.size + 1) 2 opsA) := by
  have := Blk.new_ (w.alloc (.cells signsA 9)) 2 opsA
  rwa [World.size_alloc] at this
 go_enter Tryz.func126, Tryz.ntmps126
 go_wp2_with fail
 go_loopw [6] (fun i wr => SignRel s w w.heap.size i wr) (fun i _ => 10 - (intOf i).toNat)
 case atStart =>
  exact ⟨0, rfl, by omega, Lib.hid ⟨fun k hk => by omega, by (repeat (first | with_reducible assumption | with_reducible exact Below.refl _ _ | (refine Below.setCell ?_ (by first | omega | (simp; done) | (simp; omega)) _) | (refine Below.drewN_ ?_ _) | (refine Below.drew ?_) | (refine Below.alloc ?_ (by first | omega | (simp; done) | (simp; omega)) _))), K1.out, K2.out⟩⟩
 case round =>
  obtain ⟨j, rfl, hj, HX⟩ := hrel
  clear K1 K2
  by_cases hlt : j < 10
  ·have hi : (j : Int) < 10 := by omega
   have z1 := HX.out.2.2.1.cell j (.string (sgI j)) (signsA_at j hlt)
   have z2 := HX.out.2.2.2.cell j (.int .i64 (opI j)) (opsA_at j hlt)
   have HB := Lib.hid HX.out.2.1
   rcases heq : ((sgI j).toList == s.toList) with _ | _
   ·have HN : Hid (sgI j ≠ s) := by show _ ≠ _; intro e; rw [(n6_str_beq_iff' _ _).2 e] at heq; cases heq
    go_wp2
    go_roundw
    case rel => exact ⟨j + 1, by go_num, by omega, Lib.hid ⟨fun k hk => by
     by_cases hkj : k = j
     ·subst hkj; exact HN.out
     ·exact HX.out.1 k (by omega), HX.out.2⟩⟩
    case measure => (first | (simp [intOf]; done) | (simp [intOf]; omega))
   ·have hse : sgI j = s := (n6_str_beq_iff' _ _).1 heq
    have HS : Hid (signR s = (kI j, opI j)) := signR_at hlt hse HX.out.1
    have HK : Hid (kI j = if j < 2 then 0 else if j < 6 then 1 else 2) := rfl
    clear hse
    generalize opI j = op at *
    by_cases h2 : j < 2
    ·have d1 : decide ((j : Int) < 2) = true := by rw [decide_eq_true_eq]; omega
     have d2 : (j : Int) < 2 := by omega
     go_wp2_with fail
     go_quiet (fail)
     go_wp2_with fail
     go_ret2
     exact ⟨by rw [HS.out, HK.out, if_pos h2]; rfl, Below.drewN_ HB.out _⟩
    ·have d1 : decide ((j : Int) < 2) = false := by rw [decide_eq_false_iff_not]; omega
     have d2 : ¬ (j : Int) < 2 := by omega
     by_cases h6 : j < 6
     ·have d3 : decide ((j : Int) < 6) = true := by rw [decide_eq_true_eq]; omega
      have d4 : (j : Int) < 6 := by omega
      go_wp2_with fail
      go_quiet (fail)
      go_wp2_with fail
      go_ret2
      exact ⟨by rw [HS.out, HK.out, if_neg h2, if_pos h6]; rfl, Below.drewN_ HB.out _⟩
     ·have d3 : decide ((j : Int) < 6) = false := by rw [decide_eq_false_iff_not]; omega
      have d4 : ¬ (j : Int) < 6 := by omega
      go_wp2_with fail
      go_quiet (fail)
      go_wp2_with fail
      go_ret2
      exact ⟨by rw [HS.out, HK.out, if_neg h2, if_neg h6]; rfl, Below.drewN_ HB.out _⟩
  ·have hi : ¬ (j : Int) < 10 := by omega
   have ej : j = 10 := by omega
   have HS : Hid (signR s = (-1, 0)) := signR_no (fun k hk => HX.out.1 k (by omega))
   have HB := Lib.hid HX.out.2.1
   clear ej
   go_wp2
   go_ret2
   exact ⟨by rw [HS.out]; rfl, HB.out⟩
end Go.Proofs.YtgegfbopogcjpaaGreatDoor
