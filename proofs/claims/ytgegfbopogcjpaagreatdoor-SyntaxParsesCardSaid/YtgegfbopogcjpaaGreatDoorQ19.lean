/- The reference's reader: types; The reference's reader: expressions in parentheses, blocks. -/
import Derived.Test.YtgegfbopogcjpaaGreatDoorQ17
import Derived.Test.YtgegfbopogcjpaaGreatDoorQ18
import Derived.Deep.Cut
namespace Go.Proofs.YtgegfbopogcjpaaGreatDoor
open Go.RowKit
set_option linter.unusedVariables false
set_option linter.unusedSimpArgs false
set_option maxRecDepth 100000
set_option maxHeartbeats 2000000
theorem acc_pushI {B B1 E : Nat} {w w' : World} {v v' : Value} {ks : List Nd} {xs : List Value} {x : Nd} {cs : List Value} {o : Obj} (h1 : RepCs (FromBut B v.ownBlock) w ks xs) (hx : RepV (Btw B1 E) w x cs) (hB1 : B ≤ B1)
 (hlt : ∀ g, v.ownBlock = some g → g < B1) (hown : w'.ownsRow B 24 4 v' (ks.length + 1) (xs ++ cs))
 (hg : (w.alloc o).grownBy w' v.ownBlock) (hb : v'.ownBlock = v.ownBlock ∨ v'.ownBlock = some (w.heap.size + 1)) : Acc B w' v' (ks ++ [x]) :=
 acc_push h1 (hx.ofI fun b h _ => h) hB1 hlt hown hg hb
theorem accV_pushG {V0 V V1 : Nat → Prop} {B : Nat} {w w' : World} {v v' : Value} {ks : List Nd} {xs : List Value} {x : Nd} {cs : List Value} {o : Obj} (h1 : RepCs (fun b => V0 b ∧ some b ≠ v.ownBlock) w ks xs) (hx : RepV V1 w x cs)
 (hvo : ∀ g, v.ownBlock = some g → V0 g) (hxo : ∀ b, V1 b → ∀ g, v.ownBlock = some g → b ≠ g) (hV0 : ∀ b, V0 b → V b) (hV1 : ∀ b, V1 b → V b) (hVn : ∀ b, w.heap.size ≤ b → V b)
 (hown : w'.ownsRow B 24 4 v' (ks.length + 1) (xs ++ cs)) (hg : (w.alloc o).grownBy w' v.ownBlock) (hb : v'.ownBlock = v.ownBlock ∨ v'.ownBlock = some (w.heap.size + 1)) : AccV V B w' v' (ks ++ [x]) := by
 have hal : (w.alloc o).heap.size = w.heap.size + 1 := by simp
 have hsz := hg.size
 have h2 : RepCs (fun b => V b ∧ some b ≠ v.ownBlock) w ks xs := RepCs.keep (Nat.le_refl _) (fun b hv _ => ⟨rfl, hV0 b hv.1, hv.2⟩) _ _ h1
 have hx2 : RepV (fun b => V b ∧ some b ≠ v.ownBlock) w x cs := RepV.keep (Nat.le_refl _) (fun b hv _ => ⟨rfl, hV1 b hv, fun e => hxo b hv b e.symm rfl⟩) _ _ hx
 refine ⟨xs ++ cs, RepCs.keep (w := w) (V := fun b => V b ∧ some b ≠ v.ownBlock) (by omega) (fun b hvb hlt => ⟨(hg.block b (by omega) hvb.2).trans (Below.heap_alloc w o b hlt), hvb.1, ?_⟩) _ _ (RepCs.snoc hx2 ks xs h2), fun g e => ?_, by rw [List.length_append, List.length_singleton]; exact hown⟩
 ·rcases hb with hb | hb
  ·rw [hb] at e; exact hV0 g (hvo g e)
  ·rw [hb] at e; injection e with e; exact hVn g (by omega)
 ·rcases hb with hb | hb
  ·rw [hb]; exact hvb.2
  ·rw [hb]; intro e; injection e with e; omega
theorem mbr_any {α : Type} {r r' : Res α} {i : Nat} {R : Res α} (h : mbr r i true = R) : mbr r' i true = R := h
def RowRel (C : RC) (m : Nat → Res Nd) (many : Bool) (R : Res (List Nd × Bool)) (w : World) (gk : Nat) (v d mv : Value) (wr : World) : Prop :=
 ∃ (ks : List Nd) (A : Option Addr) (c i : Nat) (b mo dd : Bool), v = .slice A ks.length c ∧ d = .bool dd ∧ mv = .bool mo ∧ Hid (Acc w.heap.size wr (.slice A ks.length c) ks ∧ RSt C wr i b ∧ Mv C.p w wr ∧ ks.length + (if mo = true then gk else 0) ≤ C.L.length + 1 ∧
  (mo = true → dd = false ∧ (ks = [] → b = false → ¬ tIs C.L ⟨#[41]⟩ i = true) ∧ mbr (itemsM C.L m many gk ks i) i b = R) ∧
  (mo = false → mbr ((needM C.L ⟨#[41]⟩ i).bind fun _ k => .ok (ks, dd) k) i b = R))
theorem rows0_of (C : RC) {m : Nat → Res Nd} (hf : ROk C 43 m) : ∀ (w : World) (i : Nat) (b : Bool), RSt C w i b → mbr (listM C.L m true i) i b ≠ .dry → Calls Tryz.prog 45 #[.pointer (some ⟨C.p, 0, none⟩), .int .i64 0] w (RList C w (mbr (listM C.L m true i) i b)) := by
 intro w i b h hwet
 have HF := Lib.hid hf
 clear hf
 obtain ⟨R, HR⟩ : ∃ R, Hid (mbr (listM C.L m true i) i b = R) := ⟨_, rfl⟩
 rw [HR.out] at hwet ⊢
 have HW := Lib.hid hwet
 have hlw := h.lt
 have hlen := h.len
 have hR := HR.out
 unfold listM at hR
 replace HR := Lib.hid hR
 clear hR hwet
 suffices key : ∀ w0 : World, w.heap.size ≤ w0.heap.size → RSt C w0 i b → Mv C.p w w0 → Calls Tryz.prog 45 #[.pointer (some ⟨C.p, 0, none⟩), .int .i64 0] w0 (RList C w R) from key w (Nat.le_refl _) h (Mv.refl_ _ _)
 intro w0 hsz0 hs0 hm0
 have H0 := Lib.hid h
 have HS := Lib.hid hs0
 have HM := Lib.hid hm0
 clear h hs0 hm0
 go_enter Tryz.func45, Tryz.ntmps45
 go_wp2_with fail
 refine (must_any C _ _ b ⟨#[40]⟩ HS.out (by decide)).mono ?_
 rintro e w1 ⟨j1, b1, rfl, h', m', hf⟩
 replace HR := Lib.hid (mbr_seq HR.out HW.out hf)
 clear hf
 have hsz1 := m'.size
 replace HS := Lib.hid h'
 replace HM := Lib.hid (HM.out.trans_ m')
 clear m'
 clear h'
 go_wp2_with fail
 rcases ht : (!b1 && tIs C.L ⟨#[41]⟩ j1) with _ | _
 ·have HV := Lib.hid (eat_any C _ _ b1 ⟨#[41]⟩ HS.out (by decide))
  rw [ht] at HV
  unfold EatOut at HV
  have HT := Lib.hid (eat_no ht)
  clear ht
  refine HV.out.mono ?_
  rintro e w2 ⟨rfl, h', m'⟩
  clear HV
  have hsz2 := m'.size
  replace HS := Lib.hid (show RSt C w2 j1 b1 by simpa using h')
  replace HM := Lib.hid (HM.out.trans_ m')
  clear m'
  clear h'
  go_wp2_with fail
  go_loopg [6, 7, 8] (C.L.length + 1) (fun gk v d mv wr => RowRel C m true R w gk v d mv wr)
  case atStart => exact ⟨[], none, 0, j1, b1, true, false, rfl, rfl, rfl, Lib.hid ⟨Acc.nil_ _ _, HS.out, HM.out, by simp, fun _ => ⟨rfl, fun _ => HT.out, HR.out⟩, fun e => by cases e⟩⟩
  case round =>
   obtain ⟨ks, A, c, j, b, mo, dd, rfl, rfl, rfl, HX⟩ := hrel
   clear HS HM HR HT
   have HS := Lib.hid HX.out.2.1
   have HM := Lib.hid HX.out.2.2.1
   have ACks := Lib.hid HX.out.1
   have hcn : ks.length ≤ 4001 := by have h1 := HX.out.2.2.2.1; have h2 := hlen; omega
   have hszr := HM.out.size
   have hcb := HS.out.blk.cell 2 (.bool b) rfl
   cases mo with
   | false =>
    have HR := Lib.hid (HX.out.2.2.2.2.2 rfl)
    clear HX
    go_wp2_with fail
    refine (must_any C _ _ b ⟨#[41]⟩ HS.out (by decide)).mono ?_
    rintro e w101 ⟨j51, b51, rfl, h', m', hf⟩
    replace HR := Lib.hid (mbr_seq HR.out HW.out hf)
    clear hf
    have hsz101 := m'.size
    replace ACks := Lib.hid (ACks.out.mv m' (by omega))
    replace HS := Lib.hid h'
    replace HM := Lib.hid (HM.out.trans_ m')
    clear m'
    clear h'
    go_wp2
    refine bodyPost_ret (v := .tuple #[.slice A (ks : List Nd).length c, .bool dd]) (by simp [results, Tryz.results45, go_sem]) rfl ?_
    exact ⟨ks, dd, A, c, _, _, rfl, ACks.out, hcn, HS.out, HM.out, mbr_fin HR.out⟩
   | true =>
    obtain ⟨hd, hfst, hR⟩ := HX.out.2.2.2.2.1 rfl
    subst hd
    cases b with
    | true =>
     have HR : Hid (mbr ((needM C.L ⟨#[41]⟩ j).bind fun _ k => .ok (ks, false) k) j true = R) := Lib.hid (mbr_any hR)
     clear HX hR hfst
     go_wp2_with fail
     refine (must_any C _ _ true ⟨#[41]⟩ HS.out (by decide)).mono ?_
     rintro e w101 ⟨j51, b51, rfl, h', m', hf⟩
     replace HR := Lib.hid (mbr_seq HR.out HW.out hf)
     clear hf
     have hsz101 := m'.size
     replace ACks := Lib.hid (ACks.out.mv m' (by omega))
     replace HS := Lib.hid h'
     replace HM := Lib.hid (HM.out.trans_ m')
     clear m'
     clear h'
     go_wp2
     refine bodyPost_ret (v := .tuple #[.slice A (ks : List Nd).length c, .bool false]) (by simp [results, Tryz.results45, go_sem]) rfl ?_
     exact ⟨ks, false, A, c, _, _, rfl, ACks.out, hcn, HS.out, HM.out, mbr_fin HR.out⟩
    | false =>
     cases gk with
     | zero => exact absurd (show Res.dry = R from hR) (fun e => HW.out e.symm)
     | succ g =>
     have hcnt : ks.length + (g + 1) ≤ C.L.length + 1 := by have := HX.out.2.2.2.1; simpa using this
     rw [itemsM, if_neg (fun h => hfst h.1 rfl h.2)] at hR
     have HR := Lib.hid hR
     clear HX hR hfst
     go_wp2_with fail
     rcases ht : (!false && tIs C.L ⟨#[46, 46, 46]⟩ j) with _ | _
     ·have HV := Lib.hid (eat_any C _ _ false ⟨#[46, 46, 46]⟩ HS.out (by decide))
      rw [ht] at HV
      unfold EatOut at HV
      replace HR := Lib.hid (mbr_no HR.out (fun e h => eat_no ht e h.2))
      clear ht
      refine HV.out.mono ?_
      rintro e w101 ⟨rfl, h', m'⟩
      clear HV
      have hsz101 := m'.size
      replace ACks := Lib.hid (ACks.out.mv m' (by omega))
      replace HS := Lib.hid (show RSt C w101 j false by simpa using h')
      replace HM := Lib.hid (HM.out.trans_ m')
      clear m'
      clear h'
      replace ACks := Lib.hid (ACks.out.toI (E := w101.heap.size) rfl)
      have HLTks : Hid (∀ g, (Value.slice A (ks).length c).ownBlock = some g → g < w101.heap.size) := by
       obtain ⟨ys, _, _, hoy⟩ := ACks.out
       exact fun g e => (hoy.lt g e).2
      go_upto_region 12 with (fail)
      have KX := Blk.new_ w101 24 #[.int .i64 0, .string ⟨#[]⟩, .int .i64 0, .slice none 0 0]
      have hb : Below w101.heap.size w101 (w101.alloc (.cells #[.int .i64 0, .string ⟨#[]⟩, .int .i64 0, .slice none 0 0] 24)) := by (repeat (first | with_reducible assumption | with_reducible exact Below.refl _ _ | (refine Below.setCell ?_ (by first | omega | (simp; done) | (simp; omega)) _) | (refine Below.drewN_ ?_ _) | (refine Below.drew ?_) | (refine Below.alloc ?_ (by first | omega | (simp; done) | (simp; omega)) _)))
      have hbzbt : w101.heap.size < (w101.alloc (.cells #[.int .i64 0, .string ⟨#[]⟩, .int .i64 0, .slice none 0 0] 24)).heap.size := KX.lt
      have hsz102 := hb.size
      replace ACks := Lib.hid (ACks.out.belowG hb)
      replace HS := Lib.hid (HS.out.below hb)
      replace HM := Lib.hid (HM.out.below_ hb)
      clear hb
      have BT := Lib.hid KX
      clear KX
      have HBSbt : Hid ((w101.alloc (.cells #[.int .i64 0, .string ⟨#[]⟩, .int .i64 0, .slice none 0 0] 24)).heap.size = w101.heap.size + 1) := by show _ = _; simp
      generalize (w101.alloc (.cells #[.int .i64 0, .string ⟨#[]⟩, .int .i64 0, .slice none 0 0] 24)) = w102 at *
      obtain ⟨bt, hbwbt⟩ : ∃ x, x = w101.heap.size := ⟨_, rfl⟩
      rw [← hbwbt] at BT
      have hbvbt : w101.heap.size ≤ bt := by omega
      have hbxbt : bt < w102.heap.size := by omega
      rw [← hbwbt]
      clear hbwbt
      go_wp2_with fail
      have hpx := HS.out.lt
      refine (HF.out _ _ false HS.out (mbr_wet HR.out HW.out)).mono ?_
      rintro e w103 ⟨⟨xk, xt, xn, xl⟩, Ax, cx, j51, b51, rfl, hrep, h', m', hf⟩
      replace HR := Lib.hid (mbr_seq HR.out HW.out hf)
      simp only [Nd.k, Nd.t, Nd.num, Nd.kids] at hrep ⊢
      have REPx := Lib.hid (hrep.toI (E := w103.heap.size) rfl)
      clear hf hrep
      have hsz103 := m'.size
      replace ACks := Lib.hid (ACks.out.mvI m' (Or.inl (by omega)))
      replace BT := Lib.hid (m'.blk BT.out (by omega))
      replace HS := Lib.hid h'
      replace HM := Lib.hid (HM.out.trans_ m')
      clear m'
      clear h'
      have f0 := BT.out.free 0
      have g0 := BT.out.cell 0 (.int .i64 0) rfl
      have f1 := BT.out.free 1
      have g1 := BT.out.cell 1 (.string ⟨#[]⟩) rfl
      have f2 := BT.out.free 2
      have g2 := BT.out.cell 2 (.int .i64 0) rfl
      have f3 := BT.out.free 3
      have g3 := BT.out.cell 3 (.slice none 0 0) rfl
      go_upto_region 19 with (fail)
      clear f0 f1 f2 f3 g0 g1 g2 g3
      have m' := put4_mv w103 bt (.int .i64 xk) (.string xt) (.int .i64 xn) (.slice Ax xl.length cx)
      have hbt := blk_put4 BT.out (.int .i64 xk) (.string xt) (.int .i64 xn) (.slice Ax xl.length cx)
      have hsz104 := m'.size
      replace HS := Lib.hid (RSt.put H0.out HS.out HM.out (by omega) m')
      replace HM := Lib.hid (HM.out.put (by omega) m')
      replace ACks := Lib.hid (ACks.out.mvI m' (by omega))
      replace BT := Lib.hid hbt
      replace REPx := Lib.hid (REPx.out.mvI m' (by omega))
      clear m' hbt
      generalize (((((w103).setCell ⟨bt, 0, none⟩ (.int .i64 xk)).setCell ⟨bt, 1, none⟩ (.string xt)).setCell ⟨bt, 2, none⟩ (.int .i64 xn)).setCell ⟨bt, 3, none⟩ (.slice Ax xl.length cx)) = w104 at *
      have bBT0 := BT.out.cell 0 (.int .i64 xk) rfl
      have bBT1 := BT.out.cell 1 (.string xt) rfl
      have bBT2 := BT.out.cell 2 (.int .i64 xn) rfl
      have bBT3 := BT.out.cell 3 (.slice Ax xl.length cx) rfl
      clear BT
      replace ACks := Lib.hid ACks.out.ofI
      obtain ⟨xs, hcs, ho⟩ := ACks.out
      have HCS := Lib.hid hcs
      have HO := Lib.hid ho
      clear hcs ho
      obtain ⟨i0, hi0, hz0, hz1, hz2⟩ := info_parts info_nodes
      go_wp2_with (at_builtin; refine wpList_append_own_at _ rfl _ _ 22 rfl w.heap.size 24 i0 (.agg #[.int .i64 0, .string ⟨#[]⟩, .int .i64 0, .slice none 0 0]) 4 56 Tryz.underlying22 hi0 hz0 hz1 hz2 rfl (by decide) _ _ _ rfl (HO.out.alloc _) ⟨w104.heap.size, 0, none⟩ 1 1 [.int .i64 xk, .string xt, .int .i64 xn, .slice Ax xl.length cx] rfl rfl ?c1x1 ?c2x1 ?c3x1 ?c4x1 ?c5x1 ?_)
      try (case c1x1 => exact World.news_of_block (cs := #[.int .i64 xk, .string xt, .int .i64 xn, .slice Ax xl.length cx]) (t := 24) (fr := (0, 0)) (heap_new rfl))
      case c2x1 => simp [Value.oneCell']
      case c3x1 => first | (unfold maxLen; omega) | (unfold maxLen; simp; done) | (unfold maxLen; simp; omega)
      try (case c4x1 => first | omega | (simp; done) | (simp; omega))
      case c5x1 => first | omega | (simp; done) | (simp; omega)
      intro v105 w105 hown hg _ hob
      have HP := RSt.push H0.out HS.out HM.out (by omega) HO.out hg
      have hacc := acc_pushI HCS.out REPx.out (by omega) (fun g e => Nat.lt_of_lt_of_le (HLTks.out g e) (by omega)) hown hg (by simpa using hob)
      have hsz105 : w104.heap.size + 1 ≤ w105.heap.size := by have := hg.size; simpa using this
      obtain ⟨Aw105, cw105, rfl, -⟩ := Row.of_own hown
      replace HS := Lib.hid HP.1
      replace HM := Lib.hid HP.2
      replace ACks := Lib.hid hacc
      clear hown hg hob hacc HP HO HCS HLTks REPx hi0 hz0 hz1 hz2
      go_wp2_with fail
      rcases ht : (!b51 && tIs C.L ⟨#[44]⟩ j51) with _ | _
      ·have HV := Lib.hid (eat_any C _ _ b51 ⟨#[44]⟩ HS.out (by decide))
       rw [ht] at HV
       unfold EatOut at HV
       replace HR := Lib.hid (mbr_no HR.out (eat_no ht))
       clear ht
       refine HV.out.mono ?_
       rintro e w106 ⟨rfl, h', m'⟩
       clear HV
       have hsz106 := m'.size
       replace ACks := Lib.hid (ACks.out.mv m' (by omega))
       replace HS := Lib.hid (show RSt C w106 j51 b51 by simpa using h')
       replace HM := Lib.hid (HM.out.trans_ m')
       clear m'
       clear h'
       go_wp2_with fail
       go_roundg g
       case measure => omega
       case rel => exact ⟨ks ++ [Nd.mk xk xt xn xl], Aw105, cw105, j51, b51, false, false, by simp, rfl, rfl, Lib.hid ⟨by simpa using ACks.out, HS.out, HM.out, by simp; omega, (fun e => by cases e), (fun _ => HR.out)⟩⟩
      have HV := Lib.hid (eat_any C _ _ b51 ⟨#[44]⟩ HS.out (by decide))
      rw [ht] at HV
      unfold EatOut at HV
      obtain ⟨hb, hyt⟩ := eat_yes ht
      clear ht
      cases hb
      replace HR := Lib.hid (mbr_yes (j := j51 + 1) HR.out hyt)
      clear hyt
      refine HV.out.mono ?_
      rintro e w106 ⟨rfl, h', m'⟩
      clear HV
      have hsz106 := m'.size
      replace ACks := Lib.hid (ACks.out.mv m' (by omega))
      replace HS := Lib.hid (show RSt C w106 (j51 + 1) false by simpa using h')
      replace HM := Lib.hid (HM.out.trans_ m')
      clear m'
      clear h'
      go_wp2_with fail
      go_roundg g
      case measure => omega
      case rel => exact ⟨ks ++ [Nd.mk xk xt xn xl], Aw105, cw105, (j51 + 1), false, true, false, by simp, rfl, rfl, Lib.hid ⟨by simpa using ACks.out, HS.out, HM.out, by simp; omega, (fun _ => ⟨rfl, fun e => by simp at e, HR.out⟩), (fun e => by cases e)⟩⟩
     have HV := Lib.hid (eat_any C _ _ false ⟨#[46, 46, 46]⟩ HS.out (by decide))
     rw [ht] at HV
     unfold EatOut at HV
     obtain ⟨hb, hyt⟩ := eat_yes ht
     clear ht
     cases hb
     replace HR := Lib.hid (mbr_yes (j := j + 1) HR.out (by simp [hyt]))
     clear hyt
     refine HV.out.mono ?_
     rintro e w101 ⟨rfl, h', m'⟩
     clear HV
     have hsz101 := m'.size
     replace ACks := Lib.hid (ACks.out.mv m' (by omega))
     replace HS := Lib.hid (show RSt C w101 (j + 1) false by simpa using h')
     replace HM := Lib.hid (HM.out.trans_ m')
     clear m'
     clear h'
     go_wp2_with fail
     go_roundg g
     case measure => omega
     case rel => exact ⟨ks, A, c, (j + 1), false, false, true, by simp, rfl, rfl, Lib.hid ⟨by simpa using ACks.out, HS.out, HM.out, by simp; omega, (fun e => by cases e), (fun _ => HR.out)⟩⟩
 have HV := Lib.hid (eat_any C _ _ b1 ⟨#[41]⟩ HS.out (by decide))
 rw [ht] at HV
 unfold EatOut at HV
 obtain ⟨hb, hyt⟩ := eat_yes ht
 clear ht
 cases hb
 have HT := Lib.hid hyt
 clear hyt
 refine HV.out.mono ?_
 rintro e w2 ⟨rfl, h', m'⟩
 clear HV
 have hsz2 := m'.size
 replace HS := Lib.hid (show RSt C w2 (j1 + 1) false by simpa using h')
 replace HM := Lib.hid (HM.out.trans_ m')
 clear m'
 clear h'
 have hR := HR.out
 rw [itemsM, if_pos ⟨rfl, HT.out⟩] at hR
 replace HR := Lib.hid hR
 clear hR HT
 go_wp2
 refine bodyPost_ret (v := .tuple #[.slice none ([] : List Nd).length 0, .bool false]) (by simp [results, Tryz.results45, go_sem]) rfl ?_
 exact ⟨[], false, none, 0, _, _, rfl, Acc.nil_ _ _, by simp, HS.out, HM.out, mbr_fin HR.out⟩
theorem rtyp_bad (C : RC) (F : Nat) (w : World) (i : Nat) (h : RSt C w i true) : Calls Tryz.prog 43 #[.pointer (some ⟨C.p, 0, none⟩)] w (RNode C w (mbr (typM C.L F i) i true)) := by
 obtain ⟨R, HR⟩ : ∃ R, Hid (mbr ((nameM C.L i).bind fun s j => .ok (Nd.mk 11 s 0 []) j) i true = R) := ⟨_, rfl⟩
 rw [show mbr (typM C.L F i) i true = R from HR.out]
 have HW : Hid (R ≠ .dry) := by show _ ≠ _; rw [← HR.out]; intro e; cases e
 have hwet : True := trivial
 clear hwet
 have hlw := h.lt
 have hlen := h.len
 have hr0 : w.heap.size ≠ C.p := by omega
 have hb0 : Below w.heap.size w (w.alloc (.cells #[.int .i64 0, .string ⟨#[]⟩, .int .i64 0, .slice none 0 0] 24)) := by (repeat (first | with_reducible assumption | with_reducible exact Below.refl _ _ | (refine Below.setCell ?_ (by first | omega | (simp; done) | (simp; omega)) _) | (refine Below.drewN_ ?_ _) | (refine Below.drew ?_) | (refine Below.alloc ?_ (by first | omega | (simp; done) | (simp; omega)) _)))
 have H0 := Lib.hid h
 have HS := Lib.hid (h.below hb0)
 have HM : Hid (Mv C.p w (w.alloc (.cells #[.int .i64 0, .string ⟨#[]⟩, .int .i64 0, .slice none 0 0] 24))) := mv_below hb0
 have KR := Lib.hid (Blk.new_ w 24 #[.int .i64 0, .string ⟨#[]⟩, .int .i64 0, .slice none 0 0])
 have hsz0 : w.heap.size < (w.alloc (.cells #[.int .i64 0, .string ⟨#[]⟩, .int .i64 0, .slice none 0 0] 24)).heap.size := KR.out.lt
 clear h hb0
 go_enter Tryz.func43, Tryz.ntmps43
 go_wp2_with fail
 generalize (w.alloc (.cells #[.int .i64 0, .string ⟨#[]⟩, .int .i64 0, .slice none 0 0] 24)) = w0 at *
 go_wp2_with fail
 have HV := Lib.hid (eat_any C _ _ true ⟨#[105, 110, 116]⟩ HS.out (by decide))
 simp only [Bool.not_true, Bool.false_and] at HV
 unfold EatOut at HV
 refine HV.out.mono ?_
 rintro e w1 ⟨rfl, h', m'⟩
 clear HV
 have hsz1 := m'.size
 replace KR := Lib.hid (m'.blk KR.out (by omega))
 replace HS := Lib.hid (show RSt C w1 i true by simpa using h')
 replace HM := Lib.hid (HM.out.trans_ m')
 clear m'
 clear h'
 go_wp2_with fail
 have HV := Lib.hid (eat_any C _ _ true ⟨#[108, 111, 110, 103]⟩ HS.out (by decide))
 simp only [Bool.not_true, Bool.false_and] at HV
 unfold EatOut at HV
 refine HV.out.mono ?_
 rintro e w2 ⟨rfl, h', m'⟩
 clear HV
 have hsz2 := m'.size
 replace KR := Lib.hid (m'.blk KR.out (by omega))
 replace HS := Lib.hid (show RSt C w2 i true by simpa using h')
 replace HM := Lib.hid (HM.out.trans_ m')
 clear m'
 clear h'
 go_wp2_with fail
 have HV := Lib.hid (eat_any C _ _ true ⟨#[102, 110]⟩ HS.out (by decide))
 simp only [Bool.not_true, Bool.false_and] at HV
 unfold EatOut at HV
 refine HV.out.mono ?_
 rintro e w3 ⟨rfl, h', m'⟩
 clear HV
 have hsz3 := m'.size
 replace KR := Lib.hid (m'.blk KR.out (by omega))
 replace HS := Lib.hid (show RSt C w3 i true by simpa using h')
 replace HM := Lib.hid (HM.out.trans_ m')
 clear m'
 clear h'
 go_wp2_with fail
 refine (nameRd_any C _ _ true HS.out).mono ?_
 rintro e w4 ⟨nm, j1, b1, rfl, hsz, h', m', hf⟩
 have hnm := nm_max hsz
 replace HR := Lib.hid (mbr_seq HR.out HW.out hf)
 clear hf hsz
 have hsz4 := m'.size
 replace KR := Lib.hid (m'.blk KR.out (by omega))
 replace HS := Lib.hid h'
 replace HM := Lib.hid (HM.out.trans_ m')
 clear m'
 clear h'
 have f0 := KR.out.free 0
 have f1 := KR.out.free 1
 have f2 := KR.out.free 2
 have f3 := KR.out.free 3
 have g0 := KR.out.cell 0 (.int .i64 0) rfl
 have g1 := KR.out.cell 1 (.string ⟨#[]⟩) rfl
 have g2 := KR.out.cell 2 (.int .i64 0) rfl
 have g3 := KR.out.cell 3 (.slice none 0 0) rfl
 go_wp2_with fail
 have hf := fin_nodeR H0.out (n := .mk 11 nm 0 []) (A := none) (c := 0) (r0 := w.heap.size) (C := C) (w := w) KR.out HS.out HM.out (Nat.le_refl _) (leafV (V := fun _ => False) i64_0 hnm) (fun b h => h.elim) (mbr_fin HR.out)
 simp only [Nd.k, Nd.t, Nd.num, Nd.kids, List.length_append, List.length_cons, List.length_nil, Nat.zero_add] at hf
 exact bodyPost_ret (v := .agg _) (results_cell4 (fn := Tryz.f43) rfl hf.1 rfl) rfl (by exact hf.2)
theorem rtyp_all (C : RC) : ∀ F, ROk C 43 (typM C.L F)
 | 0, w, i, b, h, hwet => by
  cases b
  ·exact absurd rfl hwet
  ·exact rtyp_bad C 0 w i h
 | F + 1, w, i, b, h, hwet => by
  have IH := Lib.hid (rtyp_all C F)
  have RW := Lib.hid (rows0_of C (rtyp_all C F))
  obtain ⟨R, HR⟩ : ∃ R, Hid (mbr (typM C.L (F + 1) i) i b = R) := ⟨_, rfl⟩
  rw [HR.out] at hwet ⊢
  have HW := Lib.hid hwet
  have hR := HR.out
  rw [typM] at hR
  replace HR := Lib.hid hR
  clear hR
  clear hwet
  have hlw := h.lt
  have hlen := h.len
  have hr0 : w.heap.size ≠ C.p := by omega
  have hb0 : Below w.heap.size w (w.alloc (.cells #[.int .i64 0, .string ⟨#[]⟩, .int .i64 0, .slice none 0 0] 24)) := by (repeat (first | with_reducible assumption | with_reducible exact Below.refl _ _ | (refine Below.setCell ?_ (by first | omega | (simp; done) | (simp; omega)) _) | (refine Below.drewN_ ?_ _) | (refine Below.drew ?_) | (refine Below.alloc ?_ (by first | omega | (simp; done) | (simp; omega)) _)))
  have H0 := Lib.hid h
  have HS := Lib.hid (h.below hb0)
  have HM : Hid (Mv C.p w (w.alloc (.cells #[.int .i64 0, .string ⟨#[]⟩, .int .i64 0, .slice none 0 0] 24))) := mv_below hb0
  have KR := Lib.hid (Blk.new_ w 24 #[.int .i64 0, .string ⟨#[]⟩, .int .i64 0, .slice none 0 0])
  have hsz0 : w.heap.size < (w.alloc (.cells #[.int .i64 0, .string ⟨#[]⟩, .int .i64 0, .slice none 0 0] 24)).heap.size := KR.out.lt
  clear h hb0
  go_enter Tryz.func43, Tryz.ntmps43
  go_wp2_with fail
  generalize (w.alloc (.cells #[.int .i64 0, .string ⟨#[]⟩, .int .i64 0, .slice none 0 0] 24)) = w0 at *
  go_wp2_with fail
  rcases ht : (!b && tIs C.L ⟨#[105, 110, 116]⟩ i) with _ | _
  ·have HV := Lib.hid (eat_any C _ _ b ⟨#[105, 110, 116]⟩ HS.out (by decide))
   rw [ht] at HV
   unfold EatOut at HV
   replace HR := Lib.hid (mbr_no HR.out (eat_no ht))
   clear ht
   refine HV.out.mono ?_
   rintro e w1 ⟨rfl, h', m'⟩
   clear HV
   have hsz1 := m'.size
   replace KR := Lib.hid (m'.blk KR.out (by omega))
   replace HS := Lib.hid (show RSt C w1 i b by simpa using h')
   replace HM := Lib.hid (HM.out.trans_ m')
   clear m'
   clear h'
   go_wp2_with fail
   rcases ht : (!b && tIs C.L ⟨#[108, 111, 110, 103]⟩ i) with _ | _
   ·have HV := Lib.hid (eat_any C _ _ b ⟨#[108, 111, 110, 103]⟩ HS.out (by decide))
    rw [ht] at HV
    unfold EatOut at HV
    replace HR := Lib.hid (mbr_no HR.out (eat_no ht))
    clear ht
    refine HV.out.mono ?_
    rintro e w2 ⟨rfl, h', m'⟩
    clear HV
    have hsz2 := m'.size
    replace KR := Lib.hid (m'.blk KR.out (by omega))
    replace HS := Lib.hid (show RSt C w2 i b by simpa using h')
    replace HM := Lib.hid (HM.out.trans_ m')
    clear m'
    clear h'
    go_wp2_with fail
    rcases ht : (!b && tIs C.L ⟨#[102, 110]⟩ i) with _ | _
    ·have HV := Lib.hid (eat_any C _ _ b ⟨#[102, 110]⟩ HS.out (by decide))
     rw [ht] at HV
     unfold EatOut at HV
     replace HR := Lib.hid (mbr_no HR.out (eat_no ht))
     clear ht
     refine HV.out.mono ?_
     rintro e w3 ⟨rfl, h', m'⟩
     clear HV
     have hsz3 := m'.size
     replace KR := Lib.hid (m'.blk KR.out (by omega))
     replace HS := Lib.hid (show RSt C w3 i b by simpa using h')
     replace HM := Lib.hid (HM.out.trans_ m')
     clear m'
     clear h'
     go_wp2_with fail
     refine (nameRd_any C _ _ b HS.out).mono ?_
     rintro e w4 ⟨nm, j1, b1, rfl, hsz, h', m', hf⟩
     have hnm := nm_max hsz
     replace HR := Lib.hid (mbr_seq HR.out HW.out hf)
     clear hf hsz
     have hsz4 := m'.size
     replace KR := Lib.hid (m'.blk KR.out (by omega))
     replace HS := Lib.hid h'
     replace HM := Lib.hid (HM.out.trans_ m')
     clear m'
     clear h'
     have f0 := KR.out.free 0
     have f1 := KR.out.free 1
     have f2 := KR.out.free 2
     have f3 := KR.out.free 3
     have g0 := KR.out.cell 0 (.int .i64 0) rfl
     have g1 := KR.out.cell 1 (.string ⟨#[]⟩) rfl
     have g2 := KR.out.cell 2 (.int .i64 0) rfl
     have g3 := KR.out.cell 3 (.slice none 0 0) rfl
     go_wp2_with fail
     have hf := fin_nodeR H0.out (n := .mk 11 nm 0 []) (A := none) (c := 0) (r0 := w.heap.size) (C := C) (w := w) KR.out HS.out HM.out (Nat.le_refl _) (leafV (V := fun _ => False) i64_0 hnm) (fun b h => h.elim) (mbr_fin HR.out)
     simp only [Nd.k, Nd.t, Nd.num, Nd.kids, List.length_append, List.length_cons, List.length_nil, Nat.zero_add] at hf
     exact bodyPost_ret (v := .agg _) (results_cell4 (fn := Tryz.f43) rfl hf.1 rfl) rfl (by exact hf.2)
    have HV := Lib.hid (eat_any C _ _ b ⟨#[102, 110]⟩ HS.out (by decide))
    rw [ht] at HV
    unfold EatOut at HV
    obtain ⟨hb, hyt⟩ := eat_yes ht
    clear ht
    cases hb
    replace HR := Lib.hid (mbr_yes (j := i + 1) HR.out hyt)
    clear hyt
    refine HV.out.mono ?_
    rintro e w3 ⟨rfl, h', m'⟩
    clear HV
    have hsz3 := m'.size
    replace KR := Lib.hid (m'.blk KR.out (by omega))
    replace HS := Lib.hid (show RSt C w3 (i + 1) false by simpa using h')
    replace HM := Lib.hid (HM.out.trans_ m')
    clear m'
    clear h'
    go_wp2_with fail
    have hpks := HS.out.lt
    refine (RW.out _ _ false HS.out (mbr_wet HR.out HW.out)).mono ?_
    rintro e w4 ⟨ks, d, Aks, cks, j1, b1, rfl, hacc, hcnks, h', m', hf⟩
    replace HR := Lib.hid (mbr_seq HR.out HW.out hf)
    have ACks := Lib.hid (hacc.toI (E := w4.heap.size) rfl)
    clear hf hacc
    have hsz4 := m'.size
    replace KR := Lib.hid (m'.blk KR.out (by omega))
    replace HS := Lib.hid h'
    replace HM := Lib.hid (HM.out.trans_ m')
    clear m'
    clear h'
    have HLTks : Hid (∀ g, (Value.slice Aks (ks).length cks).ownBlock = some g → g < w4.heap.size) := by
     obtain ⟨ys, _, _, hoy⟩ := ACks.out
     exact fun g e => (hoy.lt g e).2
    go_upto_region 9 with (fail)
    have KX := Blk.new_ w4 24 #[.int .i64 12, .string ⟨#[]⟩, .int .i64 0, .slice none 0 0]
    have hb : Below w4.heap.size w4 (w4.alloc (.cells #[.int .i64 12, .string ⟨#[]⟩, .int .i64 0, .slice none 0 0] 24)) := by (repeat (first | with_reducible assumption | with_reducible exact Below.refl _ _ | (refine Below.setCell ?_ (by first | omega | (simp; done) | (simp; omega)) _) | (refine Below.drewN_ ?_ _) | (refine Below.drew ?_) | (refine Below.alloc ?_ (by first | omega | (simp; done) | (simp; omega)) _)))
    have hbzbt : w4.heap.size < (w4.alloc (.cells #[.int .i64 12, .string ⟨#[]⟩, .int .i64 0, .slice none 0 0] 24)).heap.size := KX.lt
    have hsz5 := hb.size
    replace KR := Lib.hid (KR.out.below hb)
    replace ACks := Lib.hid (ACks.out.belowG hb)
    replace HS := Lib.hid (HS.out.below hb)
    replace HM := Lib.hid (HM.out.below_ hb)
    clear hb
    have BT := Lib.hid KX
    clear KX
    have HBSbt : Hid ((w4.alloc (.cells #[.int .i64 12, .string ⟨#[]⟩, .int .i64 0, .slice none 0 0] 24)).heap.size = w4.heap.size + 1) := by show _ = _; simp
    generalize (w4.alloc (.cells #[.int .i64 12, .string ⟨#[]⟩, .int .i64 0, .slice none 0 0] 24)) = w5 at *
    obtain ⟨bt, hbwbt⟩ : ∃ x, x = w4.heap.size := ⟨_, rfl⟩
    rw [← hbwbt] at BT
    have hbvbt : w4.heap.size ≤ bt := by omega
    have hbxbt : bt < w5.heap.size := by omega
    rw [← hbwbt]
    clear hbwbt
    rcases d with _ | _
    ·have hR := HR.out
     rw [show flagN (ks, false).2 = 0 from rfl] at hR
     replace HR := Lib.hid hR
     clear hR
     go_upto_region 11 with (fail)
     rcases b1 with _ | _
     ·have q2 := HS.out.blk.cell 2 (.bool false) rfl
      go_wp2_with fail
      have hpr := HS.out.lt
      refine (IH.out _ _ false HS.out (mbr_wet HR.out HW.out)).mono ?_
      rintro e w6 ⟨⟨rk, rt, rn, rl⟩, Ar, cr, j2, b2, rfl, hrep, h', m', hf⟩
      replace HR := Lib.hid (mbr_seq HR.out HW.out hf)
      simp only [Nd.k, Nd.t, Nd.num, Nd.kids] at hrep ⊢
      have REPr := Lib.hid (hrep.toI (E := w6.heap.size) rfl)
      clear hf hrep
      have hsz6 := m'.size
      replace KR := Lib.hid (m'.blk KR.out (by omega))
      replace ACks := Lib.hid (ACks.out.mvI m' (Or.inl (by omega)))
      replace BT := Lib.hid (m'.blk BT.out (by omega))
      replace HS := Lib.hid h'
      replace HM := Lib.hid (HM.out.trans_ m')
      clear m'
      clear h'
      go_upto_region 13 with (fail)
      have KX := Blk.new_ w6 24 #[.int .i64 rk, .string rt, .int .i64 rn, .slice Ar rl.length cr]
      have hb : Below w6.heap.size w6 (w6.alloc (.cells #[.int .i64 rk, .string rt, .int .i64 rn, .slice Ar rl.length cr] 24)) := by (repeat (first | with_reducible assumption | with_reducible exact Below.refl _ _ | (refine Below.setCell ?_ (by first | omega | (simp; done) | (simp; omega)) _) | (refine Below.drewN_ ?_ _) | (refine Below.drew ?_) | (refine Below.alloc ?_ (by first | omega | (simp; done) | (simp; omega)) _)))
      have hbzbr : w6.heap.size < (w6.alloc (.cells #[.int .i64 rk, .string rt, .int .i64 rn, .slice Ar rl.length cr] 24)).heap.size := KX.lt
      have hsz7 := hb.size
      replace KR := Lib.hid (KR.out.below hb)
      replace ACks := Lib.hid (ACks.out.belowG hb)
      replace BT := Lib.hid (BT.out.below hb)
      replace REPr := Lib.hid (REPr.out.belI hb)
      replace HS := Lib.hid (HS.out.below hb)
      replace HM := Lib.hid (HM.out.below_ hb)
      clear hb
      have BR := Lib.hid KX
      clear KX
      have HBSbr : Hid ((w6.alloc (.cells #[.int .i64 rk, .string rt, .int .i64 rn, .slice Ar rl.length cr] 24)).heap.size = w6.heap.size + 1) := by show _ = _; simp
      generalize (w6.alloc (.cells #[.int .i64 rk, .string rt, .int .i64 rn, .slice Ar rl.length cr] 24)) = w7 at *
      obtain ⟨br, hbwbr⟩ : ∃ x, x = w6.heap.size := ⟨_, rfl⟩
      rw [← hbwbr] at BR
      have hbvbr : w6.heap.size ≤ br := by omega
      have hbxbr : br < w7.heap.size := by omega
      rw [← hbwbr]
      clear hbwbr
      have bBR0 := BR.out.cell 0 (.int .i64 rk) rfl
      have bBR1 := BR.out.cell 1 (.string rt) rfl
      have bBR2 := BR.out.cell 2 (.int .i64 rn) rfl
      have bBR3 := BR.out.cell 3 (.slice Ar rl.length cr) rfl
      obtain ⟨xs, hcs, hvo, ho⟩ := ACks.out
      have HVO := Lib.hid hvo
      clear hvo
      have HCS := Lib.hid hcs
      have HO := Lib.hid ho
      clear hcs ho
      obtain ⟨i0, hi0, hz0, hz1, hz2⟩ := info_parts info_nodes
      go_wp2_with (at_builtin; refine wpList_append_own_at _ rfl _ _ 22 rfl w3.heap.size 24 i0 (.agg #[.int .i64 0, .string ⟨#[]⟩, .int .i64 0, .slice none 0 0]) 4 56 Tryz.underlying22 hi0 hz0 hz1 hz2 rfl (by decide) _ _ _ rfl (HO.out.alloc _) ⟨w7.heap.size, 0, none⟩ 1 1 [.int .i64 rk, .string rt, .int .i64 rn, .slice Ar rl.length cr] rfl rfl ?c1x2 ?c2x2 ?c3x2 ?c4x2 ?c5x2 ?_)
      try (case c1x2 => exact World.news_of_block (cs := #[.int .i64 rk, .string rt, .int .i64 rn, .slice Ar rl.length cr]) (t := 24) (fr := (0, 0)) (heap_new rfl))
      case c2x2 => simp [Value.oneCell']
      case c3x2 => first | (unfold maxLen; omega) | (unfold maxLen; simp; done) | (unfold maxLen; simp; omega)
      try (case c4x2 => first | omega | (simp; done) | (simp; omega))
      case c5x2 => first | omega | (simp; done) | (simp; omega)
      intro v8 w8 hown hg _ hob
      have HP := RSt.push H0.out HS.out HM.out (by omega) HO.out hg
      have hacc := accV_pushG (V := (fun b => w3.heap.size ≤ b ∧ b ≠ bt)) HCS.out REPr.out HVO.out (fun b h g e => by have h1 := h.1; have h2 := h.2; have h3 := HLTks.out g e; have h4 := HVO.out g e; have h5 := h4.1; have h6 := h4.2; omega) (fun b h => by have h1 := h.1; have h2 := h.2; exact ⟨by omega, by omega⟩) (fun b h => by have h1 := h.1; have h2 := h.2; exact ⟨by omega, by omega⟩) (fun b h => ⟨by omega, by omega⟩) hown hg (by simpa using hob)
      have hsz8 : w7.heap.size + 1 ≤ w8.heap.size := by have := hg.size; simpa using this
      have hKR := (KR.out.alloc (.cells #[.int .i64 rk, .string rt, .int .i64 rn, .slice Ar rl.length cr] 24)).grown hg (by intro e; have h1 := HO.out.lt _ e.symm; have h2 := HLTks.out _ e.symm; omega)
      have hBT := (BT.out.alloc (.cells #[.int .i64 rk, .string rt, .int .i64 rn, .slice Ar rl.length cr] 24)).grown hg (by intro e; have h1 := HO.out.lt _ e.symm; have h2 := HLTks.out _ e.symm; omega)
      have hBR := (BR.out.alloc (.cells #[.int .i64 rk, .string rt, .int .i64 rn, .slice Ar rl.length cr] 24)).grown hg (by intro e; have h1 := HO.out.lt _ e.symm; have h2 := HLTks.out _ e.symm; omega)
      obtain ⟨Aw8, cw8, rfl, -⟩ := Row.of_own hown
      replace HS := Lib.hid HP.1
      replace HM := Lib.hid HP.2
      replace ACks := Lib.hid hacc
      replace KR := Lib.hid hKR
      clear hKR
      replace BT := Lib.hid hBT
      clear hBT
      replace BR := Lib.hid hBR
      clear hBR
      clear hown hg hob hacc HP HO HCS HLTks HVO REPr hi0 hz0 hz1 hz2
      have f3 := BT.out.free 3
      have g3 := BT.out.cell 3 (.slice none 0 0) rfl
      go_upto_region 14 with (fail)
      clear f3 g3
      have m' := put1_mv w8 bt 3 (.slice Aw8 (ks.length + 1) cw8)
      have hbt := BT.out.set_ 3 (.slice Aw8 (ks.length + 1) cw8)
      have hsz9 := m'.size
      replace HS := Lib.hid (RSt.put H0.out HS.out HM.out (by omega) m')
      replace HM := Lib.hid (HM.out.put (by omega) m')
      replace KR := Lib.hid (m'.blk KR.out (by omega))
      replace ACks := Lib.hid (ACks.out.mvG m' (fun b h => by have h1 := h.1; have h2 := h.2; omega))
      replace BT := Lib.hid hbt
      replace BR := Lib.hid (m'.blk BR.out (by omega))
      clear m' hbt
      generalize w8.setCell ⟨bt, 3, none⟩ (.slice Aw8 (ks.length + 1) cw8) = w9 at *
      obtain ⟨Aq, cq, hvq, hv1, hv2, hv3⟩ := ACks.out.kids (by simp)
      injection hvq with e1 e2 e3
      subst e1 e3
      clear e2
      have HV1 : Hid (RepVL (fun b => w3.heap.size ≤ b ∧ b ≠ w.heap.size) w9 (ks ++ [Nd.mk rk rt rn rl]) Aw8) := RepVL.keep (Nat.le_refl _) (fun b hv hlt => ⟨rfl, hv.1, by have h1 := hv.1; omega⟩) _ _ hv1
      have HV2 := Lib.hid hv2
      have HV3 := Lib.hid hv3
      clear hv1 hv2 hv3
      have bBT0 := BT.out.cell 0 (.int .i64 12) rfl
      have bBT1 := BT.out.cell 1 (.string ⟨#[]⟩) rfl
      have bBT2 := BT.out.cell 2 (.int .i64 0) rfl
      have bBT3 := BT.out.cell 3 (.slice Aw8 (ks.length + 1) cw8) rfl
      have f0 := KR.out.free 0
      have f1 := KR.out.free 1
      have f2 := KR.out.free 2
      have f3 := KR.out.free 3
      have g0 := KR.out.cell 0 (.int .i64 0) rfl
      have g1 := KR.out.cell 1 (.string ⟨#[]⟩) rfl
      have g2 := KR.out.cell 2 (.int .i64 0) rfl
      have g3 := KR.out.cell 3 (.slice none 0 0) rfl
      go_wp2_with fail
      have hf := fin_nodeR H0.out (n := .mk 12 ⟨#[]⟩ 0 (ks ++ [Nd.mk rk rt rn rl])) (A := Aw8) (c := cw8) (r0 := w.heap.size) (C := C) (w := w) KR.out HS.out HM.out (Nat.le_refl _) (RepV.of HV1.out HV2.out HV3.out (by unfold I64; omega) (Nat.zero_le _)) (fun b h => ⟨by omega, h.2⟩) (mbr_fin HR.out)
      simp only [Nd.k, Nd.t, Nd.num, Nd.kids, List.length_append, List.length_cons, List.length_nil, Nat.zero_add] at hf
      exact bodyPost_ret (v := .agg _) (results_cell4 (fn := Tryz.f43) rfl hf.1 rfl) rfl (by exact hf.2)
     ·have q2 := HS.out.blk.cell 2 (.bool true) rfl
      have bBT0 := BT.out.cell 0 (.int .i64 12) rfl
      have bBT1 := BT.out.cell 1 (.string ⟨#[]⟩) rfl
      have bBT2 := BT.out.cell 2 (.int .i64 0) rfl
      have bBT3 := BT.out.cell 3 (.slice none 0 0) rfl
      have f0 := KR.out.free 0
      have f1 := KR.out.free 1
      have f2 := KR.out.free 2
      have f3 := KR.out.free 3
      have g0 := KR.out.cell 0 (.int .i64 0) rfl
      have g1 := KR.out.cell 1 (.string ⟨#[]⟩) rfl
      have g2 := KR.out.cell 2 (.int .i64 0) rfl
      have g3 := KR.out.cell 3 (.slice none 0 0) rfl
      go_wp2_with fail
      have hf := fin_nodeR H0.out (n := .mk 12 ⟨#[]⟩ 0 []) (A := none) (c := 0) (r0 := w.heap.size) (C := C) (w := w) KR.out HS.out HM.out (Nat.le_refl _) (leafV (V := fun _ => False) (by unfold I64; omega) (Nat.zero_le _)) (fun b h => h.elim) (mbr_true HR.out)
      simp only [Nd.k, Nd.t, Nd.num, Nd.kids, List.length_append, List.length_cons, List.length_nil, Nat.zero_add] at hf
      exact bodyPost_ret (v := .agg _) (results_cell4 (fn := Tryz.f43) rfl hf.1 rfl) rfl (by exact hf.2)
    ·have hR := HR.out
     rw [show flagN (ks, true).2 = 1 from rfl] at hR
     replace HR := Lib.hid hR
     clear hR
     have f2 := BT.out.free 2
     have g2 := BT.out.cell 2 (.int .i64 0) rfl
     go_upto_region 11 with (fail)
     clear f2 g2
     have m' := put1_mv w5 bt 2 (.int .i64 1)
     have hbt := BT.out.set_ 2 (.int .i64 1)
     have hsz6 := m'.size
     replace HS := Lib.hid (RSt.put H0.out HS.out HM.out (by omega) m')
     replace HM := Lib.hid (HM.out.put (by omega) m')
     replace KR := Lib.hid (m'.blk KR.out (by omega))
     replace ACks := Lib.hid (ACks.out.mvI m' (by omega))
     replace BT := Lib.hid hbt
     clear m' hbt
     generalize w5.setCell ⟨bt, 2, none⟩ (.int .i64 1) = w6 at *
     rcases b1 with _ | _
     ·have q2 := HS.out.blk.cell 2 (.bool false) rfl
      go_wp2_with fail
      have hpr := HS.out.lt
      refine (IH.out _ _ false HS.out (mbr_wet HR.out HW.out)).mono ?_
      rintro e w7 ⟨⟨rk, rt, rn, rl⟩, Ar, cr, j2, b2, rfl, hrep, h', m', hf⟩
      replace HR := Lib.hid (mbr_seq HR.out HW.out hf)
      simp only [Nd.k, Nd.t, Nd.num, Nd.kids] at hrep ⊢
      have REPr := Lib.hid (hrep.toI (E := w7.heap.size) rfl)
      clear hf hrep
      have hsz7 := m'.size
      replace KR := Lib.hid (m'.blk KR.out (by omega))
      replace ACks := Lib.hid (ACks.out.mvI m' (Or.inl (by omega)))
      replace BT := Lib.hid (m'.blk BT.out (by omega))
      replace HS := Lib.hid h'
      replace HM := Lib.hid (HM.out.trans_ m')
      clear m'
      clear h'
      go_upto_region 13 with (fail)
      have KX := Blk.new_ w7 24 #[.int .i64 rk, .string rt, .int .i64 rn, .slice Ar rl.length cr]
      have hb : Below w7.heap.size w7 (w7.alloc (.cells #[.int .i64 rk, .string rt, .int .i64 rn, .slice Ar rl.length cr] 24)) := by (repeat (first | with_reducible assumption | with_reducible exact Below.refl _ _ | (refine Below.setCell ?_ (by first | omega | (simp; done) | (simp; omega)) _) | (refine Below.drewN_ ?_ _) | (refine Below.drew ?_) | (refine Below.alloc ?_ (by first | omega | (simp; done) | (simp; omega)) _)))
      have hbzbr : w7.heap.size < (w7.alloc (.cells #[.int .i64 rk, .string rt, .int .i64 rn, .slice Ar rl.length cr] 24)).heap.size := KX.lt
      have hsz8 := hb.size
      replace KR := Lib.hid (KR.out.below hb)
      replace ACks := Lib.hid (ACks.out.belowG hb)
      replace BT := Lib.hid (BT.out.below hb)
      replace REPr := Lib.hid (REPr.out.belI hb)
      replace HS := Lib.hid (HS.out.below hb)
      replace HM := Lib.hid (HM.out.below_ hb)
      clear hb
      have BR := Lib.hid KX
      clear KX
      have HBSbr : Hid ((w7.alloc (.cells #[.int .i64 rk, .string rt, .int .i64 rn, .slice Ar rl.length cr] 24)).heap.size = w7.heap.size + 1) := by show _ = _; simp
      generalize (w7.alloc (.cells #[.int .i64 rk, .string rt, .int .i64 rn, .slice Ar rl.length cr] 24)) = w8 at *
      obtain ⟨br, hbwbr⟩ : ∃ x, x = w7.heap.size := ⟨_, rfl⟩
      rw [← hbwbr] at BR
      have hbvbr : w7.heap.size ≤ br := by omega
      have hbxbr : br < w8.heap.size := by omega
      rw [← hbwbr]
      clear hbwbr
      have bBR0 := BR.out.cell 0 (.int .i64 rk) rfl
      have bBR1 := BR.out.cell 1 (.string rt) rfl
      have bBR2 := BR.out.cell 2 (.int .i64 rn) rfl
      have bBR3 := BR.out.cell 3 (.slice Ar rl.length cr) rfl
      obtain ⟨xs, hcs, hvo, ho⟩ := ACks.out
      have HVO := Lib.hid hvo
      clear hvo
      have HCS := Lib.hid hcs
      have HO := Lib.hid ho
      clear hcs ho
      obtain ⟨i0, hi0, hz0, hz1, hz2⟩ := info_parts info_nodes
      go_wp2_with (at_builtin; refine wpList_append_own_at _ rfl _ _ 22 rfl w3.heap.size 24 i0 (.agg #[.int .i64 0, .string ⟨#[]⟩, .int .i64 0, .slice none 0 0]) 4 56 Tryz.underlying22 hi0 hz0 hz1 hz2 rfl (by decide) _ _ _ rfl (HO.out.alloc _) ⟨w8.heap.size, 0, none⟩ 1 1 [.int .i64 rk, .string rt, .int .i64 rn, .slice Ar rl.length cr] rfl rfl ?c1x3 ?c2x3 ?c3x3 ?c4x3 ?c5x3 ?_)
      try (case c1x3 => exact World.news_of_block (cs := #[.int .i64 rk, .string rt, .int .i64 rn, .slice Ar rl.length cr]) (t := 24) (fr := (0, 0)) (heap_new rfl))
      case c2x3 => simp [Value.oneCell']
      case c3x3 => first | (unfold maxLen; omega) | (unfold maxLen; simp; done) | (unfold maxLen; simp; omega)
      try (case c4x3 => first | omega | (simp; done) | (simp; omega))
      case c5x3 => first | omega | (simp; done) | (simp; omega)
      intro v9 w9 hown hg _ hob
      have HP := RSt.push H0.out HS.out HM.out (by omega) HO.out hg
      have hacc := accV_pushG (V := (fun b => w3.heap.size ≤ b ∧ b ≠ bt)) HCS.out REPr.out HVO.out (fun b h g e => by have h1 := h.1; have h2 := h.2; have h3 := HLTks.out g e; have h4 := HVO.out g e; have h5 := h4.1; have h6 := h4.2; omega) (fun b h => by have h1 := h.1; have h2 := h.2; exact ⟨by omega, by omega⟩) (fun b h => by have h1 := h.1; have h2 := h.2; exact ⟨by omega, by omega⟩) (fun b h => ⟨by omega, by omega⟩) hown hg (by simpa using hob)
      have hsz9 : w8.heap.size + 1 ≤ w9.heap.size := by have := hg.size; simpa using this
      have hKR := (KR.out.alloc (.cells #[.int .i64 rk, .string rt, .int .i64 rn, .slice Ar rl.length cr] 24)).grown hg (by intro e; have h1 := HO.out.lt _ e.symm; have h2 := HLTks.out _ e.symm; omega)
      have hBT := (BT.out.alloc (.cells #[.int .i64 rk, .string rt, .int .i64 rn, .slice Ar rl.length cr] 24)).grown hg (by intro e; have h1 := HO.out.lt _ e.symm; have h2 := HLTks.out _ e.symm; omega)
      have hBR := (BR.out.alloc (.cells #[.int .i64 rk, .string rt, .int .i64 rn, .slice Ar rl.length cr] 24)).grown hg (by intro e; have h1 := HO.out.lt _ e.symm; have h2 := HLTks.out _ e.symm; omega)
      obtain ⟨Aw9, cw9, rfl, -⟩ := Row.of_own hown
      replace HS := Lib.hid HP.1
      replace HM := Lib.hid HP.2
      replace ACks := Lib.hid hacc
      replace KR := Lib.hid hKR
      clear hKR
      replace BT := Lib.hid hBT
      clear hBT
      replace BR := Lib.hid hBR
      clear hBR
      clear hown hg hob hacc HP HO HCS HLTks HVO REPr hi0 hz0 hz1 hz2
      have f3 := BT.out.free 3
      have g3 := BT.out.cell 3 (.slice none 0 0) rfl
      go_upto_region 14 with (fail)
      clear f3 g3
      have m' := put1_mv w9 bt 3 (.slice Aw9 (ks.length + 1) cw9)
      have hbt := BT.out.set_ 3 (.slice Aw9 (ks.length + 1) cw9)
      have hsz10 := m'.size
      replace HS := Lib.hid (RSt.put H0.out HS.out HM.out (by omega) m')
      replace HM := Lib.hid (HM.out.put (by omega) m')
      replace KR := Lib.hid (m'.blk KR.out (by omega))
      replace ACks := Lib.hid (ACks.out.mvG m' (fun b h => by have h1 := h.1; have h2 := h.2; omega))
      replace BT := Lib.hid hbt
      replace BR := Lib.hid (m'.blk BR.out (by omega))
      clear m' hbt
      generalize w9.setCell ⟨bt, 3, none⟩ (.slice Aw9 (ks.length + 1) cw9) = w10 at *
      obtain ⟨Aq, cq, hvq, hv1, hv2, hv3⟩ := ACks.out.kids (by simp)
      injection hvq with e1 e2 e3
      subst e1 e3
      clear e2
      have HV1 : Hid (RepVL (fun b => w3.heap.size ≤ b ∧ b ≠ w.heap.size) w10 (ks ++ [Nd.mk rk rt rn rl]) Aw9) := RepVL.keep (Nat.le_refl _) (fun b hv hlt => ⟨rfl, hv.1, by have h1 := hv.1; omega⟩) _ _ hv1
      have HV2 := Lib.hid hv2
      have HV3 := Lib.hid hv3
      clear hv1 hv2 hv3
      have bBT0 := BT.out.cell 0 (.int .i64 12) rfl
      have bBT1 := BT.out.cell 1 (.string ⟨#[]⟩) rfl
      have bBT2 := BT.out.cell 2 (.int .i64 1) rfl
      have bBT3 := BT.out.cell 3 (.slice Aw9 (ks.length + 1) cw9) rfl
      have f0 := KR.out.free 0
      have f1 := KR.out.free 1
      have f2 := KR.out.free 2
      have f3 := KR.out.free 3
      have g0 := KR.out.cell 0 (.int .i64 0) rfl
      have g1 := KR.out.cell 1 (.string ⟨#[]⟩) rfl
      have g2 := KR.out.cell 2 (.int .i64 0) rfl
      have g3 := KR.out.cell 3 (.slice none 0 0) rfl
      go_wp2_with fail
      have hf := fin_nodeR H0.out (n := .mk 12 ⟨#[]⟩ 1 (ks ++ [Nd.mk rk rt rn rl])) (A := Aw9) (c := cw9) (r0 := w.heap.size) (C := C) (w := w) KR.out HS.out HM.out (Nat.le_refl _) (RepV.of HV1.out HV2.out HV3.out (by unfold I64; omega) (Nat.zero_le _)) (fun b h => ⟨by omega, h.2⟩) (mbr_fin HR.out)
      simp only [Nd.k, Nd.t, Nd.num, Nd.kids, List.length_append, List.length_cons, List.length_nil, Nat.zero_add] at hf
      exact bodyPost_ret (v := .agg _) (results_cell4 (fn := Tryz.f43) rfl hf.1 rfl) rfl (by exact hf.2)
     ·have q2 := HS.out.blk.cell 2 (.bool true) rfl
      have bBT0 := BT.out.cell 0 (.int .i64 12) rfl
      have bBT1 := BT.out.cell 1 (.string ⟨#[]⟩) rfl
      have bBT2 := BT.out.cell 2 (.int .i64 1) rfl
      have bBT3 := BT.out.cell 3 (.slice none 0 0) rfl
      have f0 := KR.out.free 0
      have f1 := KR.out.free 1
      have f2 := KR.out.free 2
      have f3 := KR.out.free 3
      have g0 := KR.out.cell 0 (.int .i64 0) rfl
      have g1 := KR.out.cell 1 (.string ⟨#[]⟩) rfl
      have g2 := KR.out.cell 2 (.int .i64 0) rfl
      have g3 := KR.out.cell 3 (.slice none 0 0) rfl
      go_wp2_with fail
      have hf := fin_nodeR H0.out (n := .mk 12 ⟨#[]⟩ 1 []) (A := none) (c := 0) (r0 := w.heap.size) (C := C) (w := w) KR.out HS.out HM.out (Nat.le_refl _) (leafV (V := fun _ => False) (by unfold I64; omega) (Nat.zero_le _)) (fun b h => h.elim) (mbr_true HR.out)
      simp only [Nd.k, Nd.t, Nd.num, Nd.kids, List.length_append, List.length_cons, List.length_nil, Nat.zero_add] at hf
      exact bodyPost_ret (v := .agg _) (results_cell4 (fn := Tryz.f43) rfl hf.1 rfl) rfl (by exact hf.2)
   have HV := Lib.hid (eat_any C _ _ b ⟨#[108, 111, 110, 103]⟩ HS.out (by decide))
   rw [ht] at HV
   unfold EatOut at HV
   obtain ⟨hb, hyt⟩ := eat_yes ht
   clear ht
   cases hb
   replace HR := Lib.hid (mbr_yes (j := i + 1) HR.out hyt)
   clear hyt
   refine HV.out.mono ?_
   rintro e w2 ⟨rfl, h', m'⟩
   clear HV
   have hsz2 := m'.size
   replace KR := Lib.hid (m'.blk KR.out (by omega))
   replace HS := Lib.hid (show RSt C w2 (i + 1) false by simpa using h')
   replace HM := Lib.hid (HM.out.trans_ m')
   clear m'
   clear h'
   have f0 := KR.out.free 0
   have f1 := KR.out.free 1
   have f2 := KR.out.free 2
   have f3 := KR.out.free 3
   have g0 := KR.out.cell 0 (.int .i64 0) rfl
   have g1 := KR.out.cell 1 (.string ⟨#[]⟩) rfl
   have g2 := KR.out.cell 2 (.int .i64 0) rfl
   have g3 := KR.out.cell 3 (.slice none 0 0) rfl
   go_wp2_with fail
   have hf := fin_nodeR H0.out (n := .mk 10 ⟨#[]⟩ 0 []) (A := none) (c := 0) (r0 := w.heap.size) (C := C) (w := w) KR.out HS.out HM.out (Nat.le_refl _) (leafV (V := fun _ => False) i64_0 (Nat.zero_le _)) (fun b h => h.elim) (mbr_fin HR.out)
   simp only [Nd.k, Nd.t, Nd.num, Nd.kids, List.length_append, List.length_cons, List.length_nil, Nat.zero_add] at hf
   exact bodyPost_ret (v := .agg _) (results_cell4 (fn := Tryz.f43) rfl hf.1 rfl) rfl (by exact hf.2)
  have HV := Lib.hid (eat_any C _ _ b ⟨#[105, 110, 116]⟩ HS.out (by decide))
  rw [ht] at HV
  unfold EatOut at HV
  obtain ⟨hb, hyt⟩ := eat_yes ht
  clear ht
  cases hb
  replace HR := Lib.hid (mbr_yes (j := i + 1) HR.out hyt)
  clear hyt
  refine HV.out.mono ?_
  rintro e w1 ⟨rfl, h', m'⟩
  clear HV
  have hsz1 := m'.size
  replace KR := Lib.hid (m'.blk KR.out (by omega))
  replace HS := Lib.hid (show RSt C w1 (i + 1) false by simpa using h')
  replace HM := Lib.hid (HM.out.trans_ m')
  clear m'
  clear h'
  have f0 := KR.out.free 0
  have f1 := KR.out.free 1
  have f2 := KR.out.free 2
  have f3 := KR.out.free 3
  have g0 := KR.out.cell 0 (.int .i64 0) rfl
  have g1 := KR.out.cell 1 (.string ⟨#[]⟩) rfl
  have g2 := KR.out.cell 2 (.int .i64 0) rfl
  have g3 := KR.out.cell 3 (.slice none 0 0) rfl
  go_wp2_with fail
  have hf := fin_nodeR H0.out (n := .mk 9 ⟨#[]⟩ 0 []) (A := none) (c := 0) (r0 := w.heap.size) (C := C) (w := w) KR.out HS.out HM.out (Nat.le_refl _) (leafV (V := fun _ => False) i64_0 (Nat.zero_le _)) (fun b h => h.elim) (mbr_fin HR.out)
  simp only [Nd.k, Nd.t, Nd.num, Nd.kids, List.length_append, List.length_cons, List.length_nil, Nat.zero_add] at hf
  exact bodyPost_ret (v := .agg _) (results_cell4 (fn := Tryz.f43) rfl hf.1 rfl) rfl (by exact hf.2)
end Go.Proofs.YtgegfbopogcjpaaGreatDoor
namespace Go.Proofs.YtgegfbopogcjpaaGreatDoor
open Go.RowKit
set_option linter.unusedVariables false
set_option linter.unusedSimpArgs false
set_option maxRecDepth 100000
set_option maxHeartbeats 4000000
theorem rround_of0 (C : RC) {u : Nat → Res Nd} (w : World) (i : Nat) (b : Bool) (h : RSt C w i b) (hwet : mbr (roundM C.L u i) i b ≠ .dry) (hf_ : ROk C 79 (exprM C.L u)) : Calls Tryz.prog 99 #[.pointer (some ⟨C.p, 0, none⟩)] w (RNode C w (mbr (roundM C.L u i) i b)) := by
 obtain ⟨R, HR⟩ : ∃ R, Hid (mbr (roundM C.L u i) i b = R) := ⟨_, rfl⟩
 rw [HR.out] at hwet ⊢
 have HW := Lib.hid hwet
 have hR := HR.out
 unfold roundM at hR
 replace HR := Lib.hid hR
 have HS := Lib.hid (h.st.box 24 #[.int .i64 0, .string ⟨#[]⟩, .int .i64 0, .slice none 0 0])
 clear h hR hwet
 go_enter Tryz.func99, Tryz.ntmps99
 go_wp2_with fail
 generalize w.alloc (.cells #[.int .i64 0, .string ⟨#[]⟩, .int .i64 0, .slice none 0 0] 24) = w0 at *
 refine (mustq HS.out ⟨#[40]⟩).mono ?_
 clear HS; rintro e w1 ⟨j1, b1, rfl, HS, hf⟩
 replace HR := Lib.hid (mbr_seq HR.out HW.out hf)
 clear hf
 go_wp2_with fail
 refine (rsubq hf_ HS.out (mbr_wet HR.out HW.out)).mono ?_
 clear HS; rintro e w2 ⟨x, j2, b2, Ax, cx, Vx, rfl, HS, hf⟩
 replace HR := Lib.hid (mbr_seq HR.out HW.out hf)
 clear hf
 go_upto_region 3 with (fail)
 replace HS := Lib.hid (HS.out.box 24 #[.int .i64 x.k, .string x.t, .int .i64 x.num, .slice Ax x.kids.length cx])
 generalize w2.alloc (.cells #[.int .i64 x.k, .string x.t, .int .i64 x.num, .slice Ax x.kids.length cx] 24) = w3 at *
 generalize w2.heap.size = bx_ at *
 go_wp2_with fail
 refine (mustq HS.out ⟨#[41]⟩).mono ?_
 clear HS; rintro e w4 ⟨j3, b3, rfl, HS, hf⟩
 replace HR := Lib.hid (mbr_seq HR.out HW.out hf)
 clear hf
 replace HS := Lib.hid HS.out.f2
 replace HS := Lib.hid HS.out.f2
 obtain ⟨-, -, -, -, b0, b1, b2, b3⟩ := (HS.out.blk 2 rfl).all4
 obtain ⟨f0, f1, f2, f3, g0, g1, g2, g3⟩ := (HS.out.blk 1 rfl).all4
 go_wp2_with fail
 have hf := rfinN HS.out (mbr_fin HR.out)
 exact bodyPost_ret (v := .agg _) (results_cell4 (fn := Tryz.f99) rfl hf.1 rfl) rfl hf.2
theorem rround_of (C : RC) {u : Nat → Res Nd} (hf_ : ROk C 79 (exprM C.L u)) : ROk C 99 (roundM C.L u) := fun w i b h hw => rround_of0 C w i b h hw hf_
def BkRel (C : RC) (st : Nat → Res Nd) (R : Res Nd) (w : World) (bt gk : Nat) (wr : World) : Prop :=
 ∃ (l : List Nd) (A : Option Addr) (c : Nat) (V : Nat → Prop) (j : Nat) (b : Bool), Hid (SD C w wr j b [rw_ w.heap.size V l A c, bx bt 24 #[.int .i64 13, .string ⟨#[]⟩, .int .i64 0, .slice A l.length c], bx w.heap.size 24 #[.int .i64 0, .string ⟨#[]⟩, .int .i64 0, .slice none 0 0]]) ∧ Hid (mbr (blkM C.L st gk l j) j b = R) ∧ l.length + gk ≤ C.L.length + 1
theorem rblock_of0 (C : RC) {st : Nat → Res Nd} (w : World) (i : Nat) (b : Bool) (h : RSt C w i b) (hwet : mbr (blockM C.L st i) i b ≠ .dry) (hf_ : ROk C 80 st) : Calls Tryz.prog 46 #[.pointer (some ⟨C.p, 0, none⟩)] w (RNode C w (mbr (blockM C.L st i) i b)) := by
 obtain ⟨R, HR⟩ : ∃ R, Hid (mbr (blockM C.L st i) i b = R) := ⟨_, rfl⟩
 rw [HR.out] at hwet ⊢
 have HW := Lib.hid hwet
 have hR := HR.out
 unfold blockM at hR
 replace HR := Lib.hid hR
 have HS := Lib.hid (h.st.box 24 #[.int .i64 0, .string ⟨#[]⟩, .int .i64 0, .slice none 0 0])
 clear h hR hwet
 go_enter Tryz.func46, Tryz.ntmps46
 go_upto_region 1 with (fail)
 generalize w.alloc (.cells #[.int .i64 0, .string ⟨#[]⟩, .int .i64 0, .slice none 0 0] 24) = w0 at *
 go_upto_region 2 with (fail)
 replace HS := Lib.hid (HS.out.box 24 #[.int .i64 13, .string ⟨#[]⟩, .int .i64 0, .slice none 0 0])
 generalize w0.alloc (.cells #[.int .i64 13, .string ⟨#[]⟩, .int .i64 0, .slice none 0 0] 24) = w1 at *
 generalize w0.heap.size = bt at *
 go_wp2_with fail
 refine (mustq HS.out ⟨#[123]⟩).mono ?_
 clear HS; rintro e w2 ⟨j1, b1, rfl, HS, hf⟩
 replace HR := Lib.hid (mbr_seq HR.out HW.out hf)
 clear hf
 go_wp2_with fail
 have hlen := HS.out.z.len
 go_loopg [] (C.L.length + 1) (fun gk wr => BkRel C st R w bt gk wr)
 case atStart => exact ⟨[], none, 0, _, j1, b1, HS.out.row0, HR, by simp⟩
 case round =>
  clear HS HR; obtain ⟨l, Al, cl, Vl, j, b, HS, HR, hc⟩ := hrel
  have q2 := HS.out.z.blk.cell 2 (.bool b) rfl
  obtain ⟨w100, rfl⟩ : ∃ x, x = wr := ⟨_, rfl⟩
  rcases b with _ | _
  rotate_left
  ·replace HS := Lib.hid (HS.out.kids 13 ⟨#[]⟩ 0 i64_0 (Nat.zero_le _))
   replace HS := Lib.hid HS.out.f2
   replace HS := Lib.hid HS.out.f1
   obtain ⟨-, -, -, -, b0, b1, b2, b3⟩ := (HS.out.blk 2 rfl).all4
   obtain ⟨f0, f1, f2, f3, g0, g1, g2, g3⟩ := (HS.out.blk 1 rfl).all4
   go_wp2_with fail
   have hf := rfinO HS.out (mbr_true HR.out)
   try simp only [List.length_append, List.length_cons, List.length_nil, Nat.zero_add] at hf
   exact bodyPost_ret (v := .agg _) (results_cell4 (fn := Tryz.f46) rfl hf.1 rfl) rfl hf.2
  cases gk with
  | zero => exact absurd (show Res.dry = R from HR.out) (fun e => HW.out e.symm)
  | succ g =>
  have hR := HR.out
  rw [blkM] at hR
  replace HR := Lib.hid hR
  clear hR
  go_wp2_with fail
  clear q2
  rcases ht : tIs C.L ⟨#[125]⟩ j with _ | _
  rotate_left
  ·refine (eatY HS.out ht).mono ?_
   clear HS; rintro e w101 ⟨rfl, HS⟩
   replace HR := Lib.hid (mbr_yes (j := j + 1) HR.out ht)
   replace HS := Lib.hid (HS.out.kids 13 ⟨#[]⟩ 0 i64_0 (Nat.zero_le _))
   replace HS := Lib.hid HS.out.f2
   replace HS := Lib.hid HS.out.f1
   obtain ⟨-, -, -, -, b0, b1, b2, b3⟩ := (HS.out.blk 2 rfl).all4
   obtain ⟨f0, f1, f2, f3, g0, g1, g2, g3⟩ := (HS.out.blk 1 rfl).all4
   go_wp2_with fail
   have hf := rfinO HS.out (mbr_fin HR.out)
   try simp only [List.length_append, List.length_cons, List.length_nil, Nat.zero_add] at hf
   exact bodyPost_ret (v := .agg _) (results_cell4 (fn := Tryz.f46) rfl hf.1 rfl) rfl hf.2
  refine (eatN HS.out (by simp [ht])).mono ?_
  clear HS; rintro e w101 ⟨rfl, HS⟩
  replace HR := Lib.hid (mbr_no HR.out (fun _ => by rw [ht]; simp))
  go_wp2_with fail
  refine (rsubq hf_ HS.out (mbr_wet HR.out HW.out)).mono ?_
  clear HS; rintro e w102 ⟨x, j2, b2, Ax, cx, Vx, rfl, HS, hf⟩
  replace HR := Lib.hid (mbr_seq HR.out HW.out hf)
  clear hf
  clear ht
  go_upto_region 5 with (fail)
  replace HS := Lib.hid (HS.out.box 24 #[.int .i64 x.k, .string x.t, .int .i64 x.num, .slice Ax x.kids.length cx])
  generalize w102.alloc (.cells #[.int .i64 x.k, .string x.t, .int .i64 x.num, .slice Ax x.kids.length cx] 24) = w103 at *
  generalize w102.heap.size = bx_ at *
  obtain ⟨-, -, -, -, b0, b1, b2, b3⟩ := HS.out.one.all4
  have q3 := (HS.out.blk 3 rfl).cell 3 (.slice Al l.length cl) rfl
  replace HS := Lib.hid HS.out.f1
  replace HS := Lib.hid HS.out.f2
  have HB := Lib.hid (HS.out.box 24 #[.int .i64 x.k, .string x.t, .int .i64 x.num, .slice Ax x.kids.length cx]).f2.f2
  clear HS
  go_wp2_with (at_builtin; refine wpList_push (x := x) HB.out (by first | rfl | simp) (by omega) rfl _ _ rfl rfl rfl ?_)
  clear HB; intro A2 c2 V2 w104 HS
  clear b0 b1 b2 b3 q3
  replace HS := Lib.hid HS.out.f2
  have f3 := HS.out.one.free 3
  have g3 := HS.out.one.cell 3 _ rfl
  go_wp2_with fail
  clear f3 g3
  replace HS := Lib.hid (HS.out.put1 3 (.slice A2 (l.length + 1) c2))
  simp only [List.setIfInBounds_toArray, List.set_cons_zero, List.set_cons_succ] at HS
  generalize w104.setCell ⟨bt, 3, none⟩ (.slice A2 (l.length + 1) c2) = w105 at *
  replace HS := Lib.hid HS.out.f3
  replace HS := Lib.hid HS.out.f1
  replace HS := Lib.hid HS.out.f2
  replace HS := Lib.hid HS.out.k3
  go_roundg g
  case measure => omega
  case rel => exact ⟨_, A2, c2, V2, _, _, (by have h := HS.out; rw [show l.length + 1 = (l ++ [x]).length by simp] at h; exact h), HR, by simp; omega⟩
theorem rblock_of (C : RC) {st : Nat → Res Nd} (hf_ : ROk C 80 st) : ROk C 46 (blockM C.L st) := fun w i b h hw => rblock_of0 C w i b h hw hf_
end Go.Proofs.YtgegfbopogcjpaaGreatDoor
