/- The reference's reader: arguments; what a post expression begins with. -/
import Derived.Test.YtgegfbopogcjpaaGreatDoorQ22
namespace Go.Proofs.YtgegfbopogcjpaaGreatDoor
open Go.RowKit
set_option linter.unusedVariables false
set_option linter.unusedSimpArgs false
set_option maxRecDepth 100000
set_option maxHeartbeats 4000000
theorem rows2_of (C : RC) {m : Nat → Res Nd} (hf : ROk C 79 m) : ∀ (w : World) (i : Nat) (b : Bool), RSt C w i b → mbr (listM C.L m false i) i b ≠ .dry → Calls Tryz.prog 45 #[.pointer (some ⟨C.p, 0, none⟩), .int .i64 2] w (RList C w (mbr (listM C.L m false i) i b)) := by
 intro w i b h hwet
 have HF := Lib.hid hf
 clear hf
 obtain ⟨R, HR⟩ : ∃ R, Hid (mbr (listM C.L m false i) i b = R) := ⟨_, rfl⟩
 rw [HR.out] at hwet ⊢
 have HW := Lib.hid hwet
 have hlw := h.lt
 have hlen := h.len
 have hR := HR.out
 unfold listM at hR
 replace HR := Lib.hid hR
 clear hR hwet
 suffices key : ∀ w0 : World, w.heap.size ≤ w0.heap.size → RSt C w0 i b → Mv C.p w w0 → Calls Tryz.prog 45 #[.pointer (some ⟨C.p, 0, none⟩), .int .i64 2] w0 (RList C w R) from key w (Nat.le_refl _) h (Mv.refl_ _ _)
 intro w0 hsz0 hs0 hm0
 have H0 := Lib.hid h
 have HS := Lib.hid hs0
 have HM := Lib.hid hm0
 clear h hs0 hm0
 go_enter Tryz.func45, Tryz.ntmps45
 go_wp2_with fail
 refine (must_any C _ _ b ⟨#[40]⟩ HS.out (by decide)).mono ?_
 rintro e w1 ⟨j1, b1, rfl, h', m', hf⟩
 replace HR := Lib.hid (mbr_seq HR.out HW.out hf)
 clear hf
 have hsz1 := m'.size
 replace HS := Lib.hid h'
 replace HM := Lib.hid (HM.out.trans_ m')
 clear m'
 clear h'
 go_wp2_with fail
 rcases ht : (!b1 && tIs C.L ⟨#[41]⟩ j1) with _ | _
 ·have HV := Lib.hid (eat_any C _ _ b1 ⟨#[41]⟩ HS.out (by decide))
  rw [ht] at HV
  unfold EatOut at HV
  have HT := Lib.hid (eat_no ht)
  clear ht
  refine HV.out.mono ?_
  rintro e w2 ⟨rfl, h', m'⟩
  clear HV
  have hsz2 := m'.size
  replace HS := Lib.hid (show RSt C w2 j1 b1 by simpa using h')
  replace HM := Lib.hid (HM.out.trans_ m')
  clear m'
  clear h'
  go_wp2_with fail
  go_loopg [6, 7, 8] (C.L.length + 1) (fun gk v d mv wr => RowRel C m false R w gk v d mv wr)
  case atStart => exact ⟨[], none, 0, j1, b1, true, false, rfl, rfl, rfl, Lib.hid ⟨Acc.nil_ _ _, HS.out, HM.out, by simp, fun _ => ⟨rfl, fun _ => HT.out, HR.out⟩, fun e => by cases e⟩⟩
  case round =>
   obtain ⟨ks, A, c, j, b, mo, dd, rfl, rfl, rfl, HX⟩ := hrel
   clear HS HM HR HT
   have HS := Lib.hid HX.out.2.1
   have HM := Lib.hid HX.out.2.2.1
   have ACks := Lib.hid HX.out.1
   have hcn : ks.length ≤ 4001 := by have h1 := HX.out.2.2.2.1; have h2 := hlen; omega
   have hszr := HM.out.size
   have hcb := HS.out.blk.cell 2 (.bool b) rfl
   cases mo with
   | false =>
    have HR := Lib.hid (HX.out.2.2.2.2.2 rfl)
    clear HX
    go_wp2_with fail
    refine (must_any C _ _ b ⟨#[41]⟩ HS.out (by decide)).mono ?_
    rintro e w101 ⟨j51, b51, rfl, h', m', hf⟩
    replace HR := Lib.hid (mbr_seq HR.out HW.out hf)
    clear hf
    have hsz101 := m'.size
    replace ACks := Lib.hid (ACks.out.mv m' (by omega))
    replace HS := Lib.hid h'
    replace HM := Lib.hid (HM.out.trans_ m')
    clear m'
    clear h'
    go_wp2
    refine bodyPost_ret (v := .tuple #[.slice A (ks : List Nd).length c, .bool dd]) (by simp [results, Tryz.results45, go_sem]) rfl ?_
    exact ⟨ks, dd, A, c, _, _, rfl, ACks.out, hcn, HS.out, HM.out, mbr_fin HR.out⟩
   | true =>
    obtain ⟨hd, hfst, hR⟩ := HX.out.2.2.2.2.1 rfl
    subst hd
    cases b with
    | true =>
     have HR : Hid (mbr ((needM C.L ⟨#[41]⟩ j).bind fun _ k => .ok (ks, false) k) j true = R) := Lib.hid (mbr_any hR)
     clear HX hR hfst
     go_wp2_with fail
     refine (must_any C _ _ true ⟨#[41]⟩ HS.out (by decide)).mono ?_
     rintro e w101 ⟨j51, b51, rfl, h', m', hf⟩
     replace HR := Lib.hid (mbr_seq HR.out HW.out hf)
     clear hf
     have hsz101 := m'.size
     replace ACks := Lib.hid (ACks.out.mv m' (by omega))
     replace HS := Lib.hid h'
     replace HM := Lib.hid (HM.out.trans_ m')
     clear m'
     clear h'
     go_wp2
     refine bodyPost_ret (v := .tuple #[.slice A (ks : List Nd).length c, .bool false]) (by simp [results, Tryz.results45, go_sem]) rfl ?_
     exact ⟨ks, false, A, c, _, _, rfl, ACks.out, hcn, HS.out, HM.out, mbr_fin HR.out⟩
    | false =>
     cases gk with
     | zero => exact absurd (show Res.dry = R from hR) (fun e => HW.out e.symm)
     | succ g =>
     have hcnt : ks.length + (g + 1) ≤ C.L.length + 1 := by have := HX.out.2.2.2.1; simpa using this
     rw [itemsM, if_neg (fun h => hfst h.1 rfl h.2)] at hR
     have HR := Lib.hid hR
     clear HX hR hfst
     replace HR := Lib.hid (mbr_no HR.out (fun _ h => by cases h.1))
     replace ACks := Lib.hid (ACks.out.toI (E := wr.heap.size) rfl)
     have HLTks : Hid (∀ g, (Value.slice A (ks).length c).ownBlock = some g → g < wr.heap.size) := by
      obtain ⟨ys, _, _, hoy⟩ := ACks.out
      exact fun g e => (hoy.lt g e).2
     go_upto_region 12 with (fail)
     have KX := Blk.new_ wr 24 #[.int .i64 0, .string ⟨#[]⟩, .int .i64 0, .slice none 0 0]
     have hb : Below wr.heap.size wr (wr.alloc (.cells #[.int .i64 0, .string ⟨#[]⟩, .int .i64 0, .slice none 0 0] 24)) := by (repeat (first | with_reducible assumption | with_reducible exact Below.refl _ _ | (refine Below.setCell ?_ (by first | omega | (simp; done) | (simp; omega)) _) | (refine Below.drewN_ ?_ _) | (refine Below.drew ?_) | (refine Below.alloc ?_ (by first | omega | (simp; done) | (simp; omega)) _)))
     have hbzbt : wr.heap.size < (wr.alloc (.cells #[.int .i64 0, .string ⟨#[]⟩, .int .i64 0, .slice none 0 0] 24)).heap.size := KX.lt
     have hsz101 := hb.size
     replace ACks := Lib.hid (ACks.out.belowG hb)
     replace HS := Lib.hid (HS.out.below hb)
     replace HM := Lib.hid (HM.out.below_ hb)
     clear hb
     have BT := Lib.hid KX
     clear KX
     have HBSbt : Hid ((wr.alloc (.cells #[.int .i64 0, .string ⟨#[]⟩, .int .i64 0, .slice none 0 0] 24)).heap.size = wr.heap.size + 1) := by show _ = _; simp
     generalize (wr.alloc (.cells #[.int .i64 0, .string ⟨#[]⟩, .int .i64 0, .slice none 0 0] 24)) = w101 at *
     obtain ⟨bt, hbwbt⟩ : ∃ x, x = wr.heap.size := ⟨_, rfl⟩
     rw [← hbwbt] at BT
     have hbvbt : wr.heap.size ≤ bt := by omega
     have hbxbt : bt < w101.heap.size := by omega
     rw [← hbwbt]
     clear hbwbt
     go_wp2_with fail
     have hpx := HS.out.lt
     refine (HF.out _ _ false HS.out (mbr_wet HR.out HW.out)).mono ?_
     rintro e w102 ⟨⟨xk, xt, xn, xl⟩, Ax, cx, j51, b51, rfl, hrep, h', m', hf⟩
     replace HR := Lib.hid (mbr_seq HR.out HW.out hf)
     simp only [Nd.k, Nd.t, Nd.num, Nd.kids] at hrep ⊢
     have REPx := Lib.hid (hrep.toI (E := w102.heap.size) rfl)
     clear hf hrep
     have hsz102 := m'.size
     replace ACks := Lib.hid (ACks.out.mvI m' (Or.inl (by omega)))
     replace BT := Lib.hid (m'.blk BT.out (by omega))
     replace HS := Lib.hid h'
     replace HM := Lib.hid (HM.out.trans_ m')
     clear m'
     clear h'
     have f0 := BT.out.free 0
     have g0 := BT.out.cell 0 (.int .i64 0) rfl
     have f1 := BT.out.free 1
     have g1 := BT.out.cell 1 (.string ⟨#[]⟩) rfl
     have f2 := BT.out.free 2
     have g2 := BT.out.cell 2 (.int .i64 0) rfl
     have f3 := BT.out.free 3
     have g3 := BT.out.cell 3 (.slice none 0 0) rfl
     go_upto_region 19 with (fail)
     clear f0 f1 f2 f3 g0 g1 g2 g3
     have m' := put4_mv w102 bt (.int .i64 xk) (.string xt) (.int .i64 xn) (.slice Ax xl.length cx)
     have hbt := blk_put4 BT.out (.int .i64 xk) (.string xt) (.int .i64 xn) (.slice Ax xl.length cx)
     have hsz103 := m'.size
     replace HS := Lib.hid (RSt.put H0.out HS.out HM.out (by omega) m')
     replace HM := Lib.hid (HM.out.put (by omega) m')
     replace ACks := Lib.hid (ACks.out.mvI m' (by omega))
     replace BT := Lib.hid hbt
     replace REPx := Lib.hid (REPx.out.mvI m' (by omega))
     clear m' hbt
     generalize (((((w102).setCell ⟨bt, 0, none⟩ (.int .i64 xk)).setCell ⟨bt, 1, none⟩ (.string xt)).setCell ⟨bt, 2, none⟩ (.int .i64 xn)).setCell ⟨bt, 3, none⟩ (.slice Ax xl.length cx)) = w103 at *
     have bBT0 := BT.out.cell 0 (.int .i64 xk) rfl
     have bBT1 := BT.out.cell 1 (.string xt) rfl
     have bBT2 := BT.out.cell 2 (.int .i64 xn) rfl
     have bBT3 := BT.out.cell 3 (.slice Ax xl.length cx) rfl
     clear BT
     replace ACks := Lib.hid ACks.out.ofI
     obtain ⟨xs, hcs, ho⟩ := ACks.out
     have HCS := Lib.hid hcs
     have HO := Lib.hid ho
     clear hcs ho
     obtain ⟨i0, hi0, hz0, hz1, hz2⟩ := info_parts info_nodes
     go_wp2_with (at_builtin; refine wpList_append_own_at _ rfl _ _ 22 rfl w.heap.size 24 i0 (.agg #[.int .i64 0, .string ⟨#[]⟩, .int .i64 0, .slice none 0 0]) 4 56 Tryz.underlying22 hi0 hz0 hz1 hz2 rfl (by decide) _ _ _ rfl (HO.out.alloc _) ⟨w103.heap.size, 0, none⟩ 1 1 [.int .i64 xk, .string xt, .int .i64 xn, .slice Ax xl.length cx] rfl rfl ?c1x1 ?c2x1 ?c3x1 ?c4x1 ?c5x1 ?_)
     try (case c1x1 => exact World.news_of_block (cs := #[.int .i64 xk, .string xt, .int .i64 xn, .slice Ax xl.length cx]) (t := 24) (fr := (0, 0)) (heap_new rfl))
     case c2x1 => simp [Value.oneCell']
     case c3x1 => first | (unfold maxLen; omega) | (unfold maxLen; simp; done) | (unfold maxLen; simp; omega)
     try (case c4x1 => first | omega | (simp; done) | (simp; omega))
     case c5x1 => first | omega | (simp; done) | (simp; omega)
     intro v104 w104 hown hg _ hob
     have HP := RSt.push H0.out HS.out HM.out (by omega) HO.out hg
     have hacc := acc_pushI HCS.out REPx.out (by omega) (fun g e => Nat.lt_of_lt_of_le (HLTks.out g e) (by omega)) hown hg (by simpa using hob)
     have hsz104 : w103.heap.size + 1 ≤ w104.heap.size := by have := hg.size; simpa using this
     obtain ⟨Aw104, cw104, rfl, -⟩ := Row.of_own hown
     replace HS := Lib.hid HP.1
     replace HM := Lib.hid HP.2
     replace ACks := Lib.hid hacc
     clear hown hg hob hacc HP HO HCS HLTks REPx hi0 hz0 hz1 hz2
     go_wp2_with fail
     rcases ht : (!b51 && tIs C.L ⟨#[44]⟩ j51) with _ | _
     ·have HV := Lib.hid (eat_any C _ _ b51 ⟨#[44]⟩ HS.out (by decide))
      rw [ht] at HV
      unfold EatOut at HV
      replace HR := Lib.hid (mbr_no HR.out (eat_no ht))
      clear ht
      refine HV.out.mono ?_
      rintro e w105 ⟨rfl, h', m'⟩
      clear HV
      have hsz105 := m'.size
      replace ACks := Lib.hid (ACks.out.mv m' (by omega))
      replace HS := Lib.hid (show RSt C w105 j51 b51 by simpa using h')
      replace HM := Lib.hid (HM.out.trans_ m')
      clear m'
      clear h'
      go_wp2_with fail
      go_roundg g
      case measure => omega
      case rel => exact ⟨ks ++ [Nd.mk xk xt xn xl], Aw104, cw104, j51, b51, false, false, by simp, rfl, rfl, Lib.hid ⟨by simpa using ACks.out, HS.out, HM.out, by simp; omega, (fun e => by cases e), (fun _ => HR.out)⟩⟩
     have HV := Lib.hid (eat_any C _ _ b51 ⟨#[44]⟩ HS.out (by decide))
     rw [ht] at HV
     unfold EatOut at HV
     obtain ⟨hb, hyt⟩ := eat_yes ht
     clear ht
     cases hb
     replace HR := Lib.hid (mbr_yes (j := j51 + 1) HR.out hyt)
     clear hyt
     refine HV.out.mono ?_
     rintro e w105 ⟨rfl, h', m'⟩
     clear HV
     have hsz105 := m'.size
     replace ACks := Lib.hid (ACks.out.mv m' (by omega))
     replace HS := Lib.hid (show RSt C w105 (j51 + 1) false by simpa using h')
     replace HM := Lib.hid (HM.out.trans_ m')
     clear m'
     clear h'
     go_wp2_with fail
     go_roundg g
     case measure => omega
     case rel => exact ⟨ks ++ [Nd.mk xk xt xn xl], Aw104, cw104, (j51 + 1), false, true, false, by simp, rfl, rfl, Lib.hid ⟨by simpa using ACks.out, HS.out, HM.out, by simp; omega, (fun _ => ⟨rfl, fun e => by simp at e, HR.out⟩), (fun e => by cases e)⟩⟩
 have HV := Lib.hid (eat_any C _ _ b1 ⟨#[41]⟩ HS.out (by decide))
 rw [ht] at HV
 unfold EatOut at HV
 obtain ⟨hb, hyt⟩ := eat_yes ht
 clear ht
 cases hb
 have HT := Lib.hid hyt
 clear hyt
 refine HV.out.mono ?_
 rintro e w2 ⟨rfl, h', m'⟩
 clear HV
 have hsz2 := m'.size
 replace HS := Lib.hid (show RSt C w2 (j1 + 1) false by simpa using h')
 replace HM := Lib.hid (HM.out.trans_ m')
 clear m'
 clear h'
 have hR := HR.out
 rw [itemsM, if_pos ⟨rfl, HT.out⟩] at hR
 replace HR := Lib.hid hR
 clear hR HT
 go_wp2
 refine bodyPost_ret (v := .tuple #[.slice none ([] : List Nd).length 0, .bool false]) (by simp [results, Tryz.results45, go_sem]) rfl ?_
 exact ⟨[], false, none, 0, _, _, rfl, Acc.nil_ _ _, by simp, HS.out, HM.out, mbr_fin HR.out⟩
def wdI : Nat → ByteArray | 0 => ⟨#[105, 110, 116]⟩ | 1 => ⟨#[108, 111, 110, 103]⟩ | _ => ⟨#[101, 120, 116, 114, 97]⟩
def kdI : Nat → Int | 0 => 30 | 1 => 31 | _ => 34
theorem tIs_only {L : List Tok} {a b : ByteArray} {i : Nat} (h : tIs L a i = true) (hab : a ≠ b) : ¬ tIs L b i = true := by
 unfold tIs at h ⊢
 rcases hL : L[i]? with _ | t
 ·rw [hL] at h; cases h
 ·rw [hL] at h
  simp only [Bool.and_eq_true, decide_eq_true_eq] at h ⊢
  exact fun e => hab (h.2.symm.trans e.2)
theorem first_word {L : List Tok} {u : Nat → Res Nd} {i j : Nat} (h1 : ¬ tIs L ⟨#[40]⟩ i = true) (h2 : ¬ tIs L ⟨#[38]⟩ i = true) (hj : j < 3) (h : tIs L (wdI j) i = true) : firstM L u i = (roundM L u (i + 1)).bind fun x j' => .ok (oneM (kdI j) x) j' := by
 unfold firstM
 rw [if_neg h1, if_neg h2]
 rcases j with _ | _ | _ | j
 ·have h : tIs L ⟨#[105, 110, 116]⟩ i = true := h
  rw [if_pos h]; rfl
 ·have h : tIs L ⟨#[108, 111, 110, 103]⟩ i = true := h
  rw [if_neg (tIs_only h (by decide)), if_pos h]; rfl
 ·have h : tIs L ⟨#[101, 120, 116, 114, 97]⟩ i = true := h
  rw [if_neg (tIs_only h (by decide)), if_neg (tIs_only h (by decide)), if_neg (tIs_only h (by decide)), if_pos h]; rfl
 ·omega
theorem first_count {L : List Tok} {u : Nat → Res Nd} {i : Nat} (h1 : ¬ tIs L ⟨#[40]⟩ i = true) (h2 : ¬ tIs L ⟨#[38]⟩ i = true) (h : tIs L ⟨#[99, 111, 117, 110, 116]⟩ i = true) : firstM L u i = .ok (leafM 33) (i + 1) := by
 unfold firstM
 rw [if_neg h1, if_neg h2, if_neg (tIs_only h (by decide)), if_neg (tIs_only h (by decide)), if_pos h]
theorem first_rest {L : List Tok} {u : Nat → Res Nd} {i : Nat} (h1 : ¬ tIs L ⟨#[40]⟩ i = true) (h2 : ¬ tIs L ⟨#[38]⟩ i = true) (h3 : ¬ tIs L ⟨#[99, 111, 117, 110, 116]⟩ i = true) (h : ∀ j, j < 3 → ¬ tIs L (wdI j) i = true) : firstM L u i =
 (if tNm L i = true then if tIs L ⟨#[123]⟩ (i + 1) = true then (madeM L u (L.length + 1) [] (i + 2)).bind fun l j => .ok (.mk 27 (tTx L i) 0 l) j else .ok (.mk 23 (tTx L i) 0 []) (i + 1) else numM L i) := by
 unfold firstM
 have g0 : ¬ tIs L ⟨#[105, 110, 116]⟩ i = true := h 0 (by omega)
 have g1 : ¬ tIs L ⟨#[108, 111, 110, 103]⟩ i = true := h 1 (by omega)
 have g2 : ¬ tIs L ⟨#[101, 120, 116, 114, 97]⟩ i = true := h 2 (by omega)
 rw [if_neg h1, if_neg h2, if_neg g0, if_neg g1, if_neg h3, if_neg g2]
def wordsA : Array Value := #[.string ⟨#[105, 110, 116]⟩, .string ⟨#[108, 111, 110, 103]⟩, .string ⟨#[101, 120, 116, 114, 97]⟩]
def kindsA : Array Value := #[.int .i64 30, .int .i64 31, .int .i64 34]
theorem wordsA_at : ∀ j, j < 3 → wordsA[j]? = some (.string (wdI j))
 | 0, _ => rfl | 1, _ => rfl | 2, _ => rfl | j + 3, h => by omega
theorem kindsA_at : ∀ j, j < 3 → kindsA[j]? = some (.int .i64 (kdI j))
 | 0, _ => rfl | 1, _ => rfl | 2, _ => rfl | j + 3, h => by omega
theorem wdI_ne : ∀ j, wdI j ≠ ⟨#[]⟩
 | 0 => by decide | 1 => by decide | j + 2 => by show (⟨#[101, 120, 116, 114, 97]⟩ : ByteArray) ≠ ⟨#[]⟩; decide
def WdRel (C : RC) (i : Nat) (w : World) (bw : Nat) (gk : Nat) (v : Value) (wr : World) : Prop :=
 ∃ j : Nat, v = .int .i64 j ∧ j + gk = 3 ∧ Hid ((∀ k, k < j → ¬ tIs C.L (wdI k) i = true) ∧ RSt C wr i false ∧ Mv C.p w wr ∧ Blk wr w.heap.size 24 #[.int .i64 0, .string ⟨#[]⟩, .int .i64 0, .slice none 0 0] ∧ Blk wr bw 9 wordsA ∧ Blk wr (bw + 1) 3 kindsA)
def MdRel (C : RC) (u : Nat → Res Nd) (nm : ByteArray) (R : Res Nd) (w : World) (B bt : Nat) (gk : Nat) (mv : Value) (wr : World) : Prop :=
 ∃ (ks : List Nd) (A : Option Addr) (c i : Nat) (b mo : Bool), mv = .bool mo ∧ Hid (Acc B wr (.slice A ks.length c) ks ∧ RSt C wr i b ∧ Mv C.p w wr ∧ Blk wr w.heap.size 24 #[.int .i64 0, .string ⟨#[]⟩, .int .i64 0, .slice none 0 0] ∧ Blk wr bt 24 #[.int .i64 27, .string nm, .int .i64 0, .slice A ks.length c] ∧ ks.length + (if mo = true then gk else 0) ≤ C.L.length + 1 ∧ B ≤ wr.heap.size ∧
  (mo = true → (ks = [] → b = false → ¬ tIs C.L ⟨#[125]⟩ i = true) ∧ mbr ((madeM C.L u gk ks i).bind fun l j => .ok (.mk 27 nm 0 l) j) i b = R) ∧
  (mo = false → mbr ((needM C.L ⟨#[125]⟩ i).bind fun _ k => .ok (.mk 27 nm 0 ks) k) i b = R))
theorem bind_ite {α β : Type} {p : Prop} [Decidable p] (a b : Res α) (f : α → Nat → Res β) : (if p then a else b).bind f = if p then a.bind f else b.bind f := by split <;> rfl
theorem rfirst_of (C : RC) {u : Nat → Res Nd} (hx : ROk C 79 (exprM C.L u)) : ROk C 146 (firstM C.L u) := by
 intro w i b h hwet
 have RD := Lib.hid (rround_of C hx)
 have XX := Lib.hid hx
 clear hx
 obtain ⟨R, HR⟩ : ∃ R, Hid (mbr (firstM C.L u i) i b = R) := ⟨_, rfl⟩
 rw [HR.out] at hwet ⊢
 have HW := Lib.hid hwet
 clear hwet
 have hlw := h.lt
 have hlen := h.len
 have hr0 : w.heap.size ≠ C.p := by omega
 have hb0 : Below w.heap.size w (w.alloc (.cells #[.int .i64 0, .string ⟨#[]⟩, .int .i64 0, .slice none 0 0] 24)) := by (repeat (first | with_reducible assumption | with_reducible exact Below.refl _ _ | (refine Below.setCell ?_ (by first | omega | (simp; done) | (simp; omega)) _) | (refine Below.drewN_ ?_ _) | (refine Below.drew ?_) | (refine Below.alloc ?_ (by first | omega | (simp; done) | (simp; omega)) _)))
 have H0 := Lib.hid h
 have HS := Lib.hid (h.below hb0)
 have HM : Hid (Mv C.p w (w.alloc (.cells #[.int .i64 0, .string ⟨#[]⟩, .int .i64 0, .slice none 0 0] 24))) := mv_below hb0
 have KR := Lib.hid (Blk.new_ w 24 #[.int .i64 0, .string ⟨#[]⟩, .int .i64 0, .slice none 0 0])
 have hsz0 : w.heap.size < (w.alloc (.cells #[.int .i64 0, .string ⟨#[]⟩, .int .i64 0, .slice none 0 0] 24)).heap.size := KR.out.lt
 clear h hb0
 go_enter Tryz.func146, Tryz.ntmps146
 go_upto_region 1 with (fail)
 generalize (w.alloc (.cells #[.int .i64 0, .string ⟨#[]⟩, .int .i64 0, .slice none 0 0] 24)) = w0 at *
 cases b with
 | true =>
  have hcb := HS.out.blk.cell 2 (.bool true) rfl
  have f0 := KR.out.free 0
  have f1 := KR.out.free 1
  have f2 := KR.out.free 2
  have f3 := KR.out.free 3
  have g0 := KR.out.cell 0 (.int .i64 0) rfl
  have g1 := KR.out.cell 1 (.string ⟨#[]⟩) rfl
  have g2 := KR.out.cell 2 (.int .i64 0) rfl
  have g3 := KR.out.cell 3 (.slice none 0 0) rfl
  go_wp2_with fail
  have hf := fin_nodeR H0.out (n := .mk 0 ⟨#[]⟩ 0 []) (A := none) (c := 0) (r0 := w.heap.size) (C := C) (w := w) KR.out HS.out HM.out (Nat.le_refl _) (leafV (V := fun _ => False) i64_0 (Nat.zero_le _)) (fun b h => h.elim) (mbr_true HR.out)
  simp only [Nd.k, Nd.t, Nd.num, Nd.kids, List.length_append, List.length_cons, List.length_nil, Nat.zero_add] at hf
  exact bodyPost_ret (v := .agg _) (results_cell4 (fn := Tryz.f146) rfl hf.1 rfl) rfl (by exact hf.2)
 | false =>
  have hcb := HS.out.blk.cell 2 (.bool false) rfl
  go_wp2_with fail
  refine (txtR_any C _ _ 0 false HS.out (by omega)).mono ?_
  rintro e w1 ⟨rfl, hb⟩
  rw [Nat.add_zero]
  have hsz1 := hb.size
  replace KR := Lib.hid (KR.out.below hb)
  replace HS := Lib.hid (HS.out.below hb)
  replace HM := Lib.hid (HM.out.below_ hb)
  clear hb
  rcases ht : tIs C.L ⟨#[40]⟩ i with _ | _
  ·have hx : ((txR C.L i).toList == [40]) = false := (lit_beq _ _).trans ((txR_is H0.out.ok (s := ⟨#[40]⟩) (by decide) _).trans ht)
   have HT := Lib.hid ht
   clear ht
   generalize txR C.L i = tx at *
   have H1 := Lib.hid (show ¬ tIs C.L ⟨#[40]⟩ i = true by rw [HT.out]; simp)
   clear HT
   go_wp2_with fail
   rcases ht : (!false && tIs C.L ⟨#[38]⟩ i) with _ | _
   ·have HV := Lib.hid (eat_any C _ _ false ⟨#[38]⟩ HS.out (by decide))
    rw [ht] at HV
    unfold EatOut at HV
    have HT := Lib.hid (eat_no ht)
    clear ht
    refine HV.out.mono ?_
    rintro e w2 ⟨rfl, h', m'⟩
    clear HV
    have hsz2 := m'.size
    replace KR := Lib.hid (m'.blk KR.out (by omega))
    replace HS := Lib.hid (show RSt C w2 i false by simpa using h')
    replace HM := Lib.hid (HM.out.trans_ m')
    clear m'
    clear h'
    have H2 := Lib.hid (HT.out (by first | rfl | trivial))
    clear HT
    go_wp2_with fail
    rcases ht : (!false && tIs C.L ⟨#[99, 111, 117, 110, 116]⟩ i) with _ | _
    ·have HV := Lib.hid (eat_any C _ _ false ⟨#[99, 111, 117, 110, 116]⟩ HS.out (by decide))
     rw [ht] at HV
     unfold EatOut at HV
     have HT := Lib.hid (eat_no ht)
     clear ht
     refine HV.out.mono ?_
     rintro e w3 ⟨rfl, h', m'⟩
     clear HV
     have hsz3 := m'.size
     replace KR := Lib.hid (m'.blk KR.out (by omega))
     replace HS := Lib.hid (show RSt C w3 i false by simpa using h')
     replace HM := Lib.hid (HM.out.trans_ m')
     clear m'
     clear h'
     have H3 := Lib.hid (HT.out (by first | rfl | trivial))
     clear HT
     go_wp2_with fail
     have KW := Lib.hid ((Blk.new_ w3 9 wordsA).alloc (.cells kindsA 3))
     have KK : Hid (Blk ((w3.alloc (.cells wordsA 9)).alloc (.cells kindsA 3)) (w3.heap.size + 1) 3 kindsA) := by
      have := Blk.new_ (w3.alloc (.cells wordsA 9)) 3 kindsA
      rwa [World.size_alloc] at this
     have hbw : Below w3.heap.size w3 ((w3.alloc (.cells wordsA 9)).alloc (.cells kindsA 3)) := ((Below.refl _ _).alloc (Nat.le_refl _) _).alloc (by simp) _
     have hszw := hbw.size
     go_loopg [5] 3 (fun gk v wr => WdRel C i w w3.heap.size gk v wr)
     case atStart => exact ⟨0, rfl, rfl, Lib.hid ⟨fun k hk => by omega, HS.out.below hbw, HM.out.below_ hbw, KR.out.below hbw, KW.out, KK.out⟩⟩
     case round =>
      obtain ⟨j, rfl, hjg, HX⟩ := hrel
      clear HS HM KR KW KK hbw
      have HNO := Lib.hid HX.out.1
      have HS := Lib.hid HX.out.2.1
      have HM := Lib.hid HX.out.2.2.1
      have KR := Lib.hid HX.out.2.2.2.1
      have KW := Lib.hid HX.out.2.2.2.2.1
      have KK := Lib.hid HX.out.2.2.2.2.2
      clear HX
      have hszr := HM.out.size
      have hkrl := KR.out.lt
      have hkkl := KK.out.lt
      have hbwr : w3.heap.size < wr.heap.size := KW.out.lt
      by_cases hlt : j < 3
      ·have hi : (j : Int) < 3 := by omega
       have hj0 : (0 : Int) ≤ (j : Int) := by omega
       have hjt : ((j : Int)).toNat = j := by omega
       have z1 := KW.out.cell j (.string (wdI j)) (wordsA_at j hlt)
       cases gk with
       | zero => omega
       | succ g =>
       go_wp2_with fail
       rcases ht : (!false && tIs C.L (wdI j) i) with _ | _
       ·have HV := Lib.hid (eat_any C _ _ false (wdI j) HS.out (wdI_ne j))
        rw [ht] at HV
        unfold EatOut at HV
        have HT := Lib.hid (eat_no ht)
        clear ht
        refine HV.out.mono ?_
        rintro e w101 ⟨rfl, h', m'⟩
        clear HV
        have hsz101 := m'.size
        replace KR := Lib.hid (m'.blk KR.out (by omega))
        replace KW := Lib.hid (m'.blk KW.out (by omega))
        replace KK := Lib.hid (m'.blk KK.out (by omega))
        replace HS := Lib.hid (show RSt C w101 i false by simpa using h')
        replace HM := Lib.hid (HM.out.trans_ m')
        clear m'
        clear h'
        go_wp2_with fail
        go_roundg g
        case measure => omega
        case rel => exact ⟨j + 1, by go_num, by omega, Lib.hid ⟨fun k hk => by
         by_cases hkj : k = j
         ·subst hkj; exact HT.out (by first | rfl | trivial)
         ·exact HNO.out k (by omega), HS.out, HM.out, KR.out, KW.out, KK.out⟩⟩
       ·have HV := Lib.hid (eat_any C _ _ false (wdI j) HS.out (wdI_ne j))
        rw [ht] at HV
        unfold EatOut at HV
        obtain ⟨-, ht⟩ := eat_yes ht
        have hR := HR.out
        rw [first_word H1.out H2.out hlt ht] at hR
        replace HR := Lib.hid (show mbr _ (i + 1) false = R from hR)
        clear hR ht
        refine HV.out.mono ?_
        rintro e w101 ⟨rfl, h', m'⟩
        clear HV
        have hsz101 := m'.size
        replace KR := Lib.hid (m'.blk KR.out (by omega))
        replace KW := Lib.hid (m'.blk KW.out (by omega))
        replace KK := Lib.hid (m'.blk KK.out (by omega))
        replace HS := Lib.hid (show RSt C w101 (i + 1) false by simpa using h')
        replace HM := Lib.hid (HM.out.trans_ m')
        clear m'
        clear h'
        go_wp2_with fail
        have hpx := HS.out.lt
        refine (RD.out _ _ false HS.out (mbr_wet HR.out HW.out)).mono ?_
        rintro e w102 ⟨⟨xk, xt, xn, xl⟩, Ax, cx, j51, b51, rfl, hrep, h', m', hf⟩
        replace HR := Lib.hid (mbr_seq HR.out HW.out hf)
        simp only [Nd.k, Nd.t, Nd.num, Nd.kids] at hrep ⊢
        have REPx := Lib.hid (hrep.toI (E := w102.heap.size) rfl)
        clear hf hrep
        have hsz102 := m'.size
        replace KR := Lib.hid (m'.blk KR.out (by omega))
        replace KW := Lib.hid (m'.blk KW.out (by omega))
        replace KK := Lib.hid (m'.blk KK.out (by omega))
        replace HS := Lib.hid h'
        replace HM := Lib.hid (HM.out.trans_ m')
        clear m'
        clear h'
        go_upto_region 16 with (fail)
        have KX := Blk.new_ w102 24 #[.int .i64 xk, .string xt, .int .i64 xn, .slice Ax xl.length cx]
        have hb : Below w102.heap.size w102 (w102.alloc (.cells #[.int .i64 xk, .string xt, .int .i64 xn, .slice Ax xl.length cx] 24)) := by (repeat (first | with_reducible assumption | with_reducible exact Below.refl _ _ | (refine Below.setCell ?_ (by first | omega | (simp; done) | (simp; omega)) _) | (refine Below.drewN_ ?_ _) | (refine Below.drew ?_) | (refine Below.alloc ?_ (by first | omega | (simp; done) | (simp; omega)) _)))
        have hbzbx : w102.heap.size < (w102.alloc (.cells #[.int .i64 xk, .string xt, .int .i64 xn, .slice Ax xl.length cx] 24)).heap.size := KX.lt
        have hsz103 := hb.size
        replace KR := Lib.hid (KR.out.below hb)
        replace KW := Lib.hid (KW.out.below hb)
        replace KK := Lib.hid (KK.out.below hb)
        replace REPx := Lib.hid (REPx.out.belI hb)
        replace HS := Lib.hid (HS.out.below hb)
        replace HM := Lib.hid (HM.out.below_ hb)
        clear hb
        have BX := Lib.hid KX
        clear KX
        have HBSbx : Hid ((w102.alloc (.cells #[.int .i64 xk, .string xt, .int .i64 xn, .slice Ax xl.length cx] 24)).heap.size = w102.heap.size + 1) := by show _ = _; simp
        generalize (w102.alloc (.cells #[.int .i64 xk, .string xt, .int .i64 xn, .slice Ax xl.length cx] 24)) = w103 at *
        obtain ⟨bx, hbwbx⟩ : ∃ x, x = w102.heap.size := ⟨_, rfl⟩
        rw [← hbwbx] at BX
        have hbvbx : w102.heap.size ≤ bx := by omega
        have hbxbx : bx < w103.heap.size := by omega
        rw [← hbwbx]
        clear hbwbx
        go_wp2_with fail
        have hb : Below w103.heap.size w103 w103.drew := (Below.refl _ _).drew
        have hsz104 := hb.size
        replace KR := Lib.hid (KR.out.below hb)
        replace KW := Lib.hid (KW.out.below hb)
        replace KK := Lib.hid (KK.out.below hb)
        replace REPx := Lib.hid (REPx.out.belI hb)
        replace BX := Lib.hid (BX.out.below hb)
        replace HS := Lib.hid (HS.out.below hb)
        replace HM := Lib.hid (HM.out.below_ hb)
        clear hb
        refine wp_region_held_drew (S := (fun W => (W.cell? ⟨bx, 0, none⟩ = some (.int .i64 xk) ∧ W.cell? ⟨bx, 1, none⟩ = some (.string xt) ∧ W.cell? ⟨bx, 2, none⟩ = some (.int .i64 xn) ∧ W.cell? ⟨bx, 3, none⟩ = some (.slice Ax xl.length cx)) ∧ W.cell? ⟨w3.heap.size + 1, j, none⟩ = some (.int .i64 (kdI j)))) (by kernel_rfl) ⟨⟨BX.out.cell 0 (.int .i64 xk) rfl, BX.out.cell 1 (.string xt) rfl, BX.out.cell 2 (.int .i64 xn) rfl, BX.out.cell 3 (.slice Ax xl.length cx) rfl⟩, by simpa using KK.out.cell j (.int .i64 (kdI j)) (kindsA_at j hlt)⟩ (fun hHeld => ?_)
        generalize w103.drew = w104 at *
        ((refine wpAnyH_take (i := 0) (v := ?_) rfl (by kernel_rfl) (by kernel_rfl) (by kernel_rfl) (fun _ _ _ h => h) (Or.inl ⟨by rfl, ?_⟩) (by assumption) ?_; rotate_left; · ((intro w hSw; (try dsimp only at hSw); go_simp) <;> with_reducible rfl); (try simp only [List.getElem_toArray, List.getElem_cons_succ, List.getElem_cons_zero, Act.put, List.setIfInBounds_toArray, List.set_cons_zero, List.set_cons_succ])))
        ((refine wpAnyH_take (i := 1) (v := ?_) rfl (by kernel_rfl) (by kernel_rfl) (by kernel_rfl) (fun _ _ _ h => h) (Or.inl ⟨by rfl, ?_⟩) (by assumption) ?_; rotate_left; · ((intro w hSw; (try dsimp only at hSw); go_simp) <;> with_reducible rfl); (try simp only [List.getElem_toArray, List.getElem_cons_succ, List.getElem_cons_zero, Act.put, List.setIfInBounds_toArray, List.set_cons_zero, List.set_cons_succ])))
        ((refine wpAnyH_take (i := 4) (v := ?_) rfl (by kernel_rfl) (by kernel_rfl) (by kernel_rfl) (fun _ _ _ h => h) (Or.inl ⟨by rfl, ?_⟩) (by assumption) ?_; rotate_left; · ((intro w hSw; (try dsimp only at hSw); go_simp) <;> with_reducible rfl); (try simp only [List.getElem_toArray, List.getElem_cons_succ, List.getElem_cons_zero, Act.put, List.setIfInBounds_toArray, List.set_cons_zero, List.set_cons_succ])))
        ((refine wpAnyH_take (i := 2) (v := ?_) rfl (by kernel_rfl) (by kernel_rfl) (by kernel_rfl) (fun _ _ _ h => h) (Or.inl ⟨by rfl, ?_⟩) (by assumption) ?_; rotate_left; · ((intro w hSw; (try dsimp only at hSw); go_simp) <;> with_reducible rfl); (try simp only [List.getElem_toArray, List.getElem_cons_succ, List.getElem_cons_zero, Act.put, List.setIfInBounds_toArray, List.set_cons_zero, List.set_cons_succ])))
        ((refine wpAnyH_take (i := 3) (v := ?_) rfl (by kernel_rfl) (by kernel_rfl) (by kernel_rfl) (fun _ _ _ h => h) (Or.inl ⟨by rfl, ?_⟩) (by assumption) ?_; rotate_left; · ((intro w hSw; (try dsimp only at hSw); go_simp) <;> with_reducible rfl); (try simp only [List.getElem_toArray, List.getElem_cons_succ, List.getElem_cons_zero, Act.put, List.setIfInBounds_toArray, List.set_cons_zero, List.set_cons_succ])))
        refine wpAnyH_ready (rs := [5]) (by kernel_rfl) (by simp) (AllReadyH.cons rfl (fun K hK => ?_) AllReadyH.nil)
        go_simp
        have KX := Blk.new_ w104 24 #[.int .i64 xk, .string xt, .int .i64 xn, .slice Ax xl.length cx]
        have hb : Below w104.heap.size w104 (w104.alloc (.cells #[.int .i64 xk, .string xt, .int .i64 xn, .slice Ax xl.length cx] 24)) := by (repeat (first | with_reducible assumption | with_reducible exact Below.refl _ _ | (refine Below.setCell ?_ (by first | omega | (simp; done) | (simp; omega)) _) | (refine Below.drewN_ ?_ _) | (refine Below.drew ?_) | (refine Below.alloc ?_ (by first | omega | (simp; done) | (simp; omega)) _)))
        have hbzby_ : w104.heap.size < (w104.alloc (.cells #[.int .i64 xk, .string xt, .int .i64 xn, .slice Ax xl.length cx] 24)).heap.size := KX.lt
        have hsz105 := hb.size
        replace KR := Lib.hid (KR.out.below hb)
        replace KW := Lib.hid (KW.out.below hb)
        replace KK := Lib.hid (KK.out.below hb)
        replace REPx := Lib.hid (REPx.out.belI hb)
        replace BX := Lib.hid (BX.out.below hb)
        replace HS := Lib.hid (HS.out.below hb)
        replace HM := Lib.hid (HM.out.below_ hb)
        clear hb
        have BY := Lib.hid KX
        clear KX
        have HBSby_ : Hid ((w104.alloc (.cells #[.int .i64 xk, .string xt, .int .i64 xn, .slice Ax xl.length cx] 24)).heap.size = w104.heap.size + 1) := by show _ = _; simp
        generalize (w104.alloc (.cells #[.int .i64 xk, .string xt, .int .i64 xn, .slice Ax xl.length cx] 24)) = w105 at *
        obtain ⟨by_, hbwby_⟩ : ∃ x, x = w104.heap.size := ⟨_, rfl⟩
        rw [← hbwby_] at BY
        have hbvby_ : w104.heap.size ≤ by_ := by omega
        have hbxby_ : by_ < w105.heap.size := by omega
        rw [← hbwby_]
        clear hbwby_
        refine hK.out _ _ ⟨⟨BX.out.cell 0 (.int .i64 xk) rfl, BX.out.cell 1 (.string xt) rfl, BX.out.cell 2 (.int .i64 xn) rfl, BX.out.cell 3 (.slice Ax xl.length cx) rfl⟩, by simpa using KK.out.cell j (.int .i64 (kdI j)) (kindsA_at j hlt)⟩ (fun hHeld => ?_)
        clear hK K
        (try simp only [List.getElem_toArray, List.getElem_cons_succ, List.getElem_cons_zero, Act.put, List.setIfInBounds_toArray, List.set_cons_zero, List.set_cons_succ])
        ((refine wpAnyH_take (i := 6) (v := ?_) rfl (by kernel_rfl) (by kernel_rfl) (by kernel_rfl) (fun _ _ _ h => h) (Or.inl ⟨by rfl, ?_⟩) (by assumption) ?_; rotate_left; · ((intro w hSw; (try dsimp only at hSw); go_simp) <;> with_reducible rfl); (try simp only [List.getElem_toArray, List.getElem_cons_succ, List.getElem_cons_zero, Act.put, List.setIfInBounds_toArray, List.set_cons_zero, List.set_cons_succ])))
        refine wpAnyH_ready (rs := [7]) (by kernel_rfl) (by simp) (AllReadyH.cons rfl (fun K hK => ?_) AllReadyH.nil)
        have f0 := KR.out.free 0
        have g0 := KR.out.cell 0 (.int .i64 0) rfl
        have f1 := KR.out.free 1
        have g1 := KR.out.cell 1 (.string ⟨#[]⟩) rfl
        have f2 := KR.out.free 2
        have g2 := KR.out.cell 2 (.int .i64 0) rfl
        have f3 := KR.out.free 3
        have g3 := KR.out.cell 3 (.slice none 0 0) rfl
        go_simp
        clear f0 f1 f2 f3 g0 g1 g2 g3
        have m' := put4_mv w105 w.heap.size (.int .i64 (kdI j)) (.string ⟨#[]⟩) (.int .i64 0) (.slice (some ⟨by_, 0, none⟩) 1 1)
        have hbt := blk_put4 KR.out (.int .i64 (kdI j)) (.string ⟨#[]⟩) (.int .i64 0) (.slice (some ⟨by_, 0, none⟩) 1 1)
        have hsz106 := m'.size
        replace HS := Lib.hid (RSt.put H0.out HS.out HM.out (by omega) m')
        replace HM := Lib.hid (HM.out.put (by omega) m')
        replace KR := Lib.hid hbt
        replace KW := Lib.hid (m'.blk KW.out (by omega))
        replace KK := Lib.hid (m'.blk KK.out (by omega))
        replace REPx := Lib.hid (REPx.out.mvI m' (by omega))
        replace BX := Lib.hid (m'.blk BX.out (by omega))
        replace BY := Lib.hid (m'.blk BY.out (by omega))
        clear m' hbt
        generalize (((((w105).setCell ⟨w.heap.size, 0, none⟩ (.int .i64 (kdI j))).setCell ⟨w.heap.size, 1, none⟩ (.string ⟨#[]⟩)).setCell ⟨w.heap.size, 2, none⟩ (.int .i64 0)).setCell ⟨w.heap.size, 3, none⟩ (.slice (some ⟨by_, 0, none⟩) 1 1)) = w106 at *
        refine hK.out _ _ ⟨⟨BX.out.cell 0 (.int .i64 xk) rfl, BX.out.cell 1 (.string xt) rfl, BX.out.cell 2 (.int .i64 xn) rfl, BX.out.cell 3 (.slice Ax xl.length cx) rfl⟩, by simpa using KK.out.cell j (.int .i64 (kdI j)) (kindsA_at j hlt)⟩ (fun hHeld => ?_)
        clear hK K
        (try simp only [List.getElem_toArray, List.getElem_cons_succ, List.getElem_cons_zero, Act.put, List.setIfInBounds_toArray, List.set_cons_zero, List.set_cons_succ])
        refine wpAnyH_done (by kernel_rfl) ?_ _
        clear hHeld
        go_wp2_with fail
        exact bodyPost_ret (v := .agg _) (results_cell4 (fn := Tryz.f146) rfl KR.out rfl) rfl (by exact ⟨(Nd.mk (kdI j) ⟨#[]⟩ 0 [(Nd.mk xk xt xn xl)]), (some ⟨by_, 0, none⟩), 1, j51, b51, rfl, (one_kidV (V := From w.heap.size) (k := kdI j) (t := ⟨#[]⟩) (x := (Nd.mk xk xt xn xl)) BY.out (REPx.out.ofI fun b h1 h2 => by show w.heap.size ≤ b; omega) (by show w.heap.size ≤ by_; omega) (Nat.zero_le _)), HS.out, HM.out, (mbr_fin HR.out)⟩)
      ·have hi : ¬ (j : Int) < 3 := by omega
       have HN := Lib.hid (fun k (hk : k < 3) => HNO.out k (by omega))
       have hR := HR.out
       rw [first_rest H1.out H2.out H3.out HN.out] at hR
       replace HR := Lib.hid hR
       clear hR HN HNO KW KK H1 H2 H3
       go_wp2_with fail
       have HV := Lib.hid (isNameR_any C _ i 0 false HS.out (by omega))
       rw [Nat.add_zero] at HV
       rcases ht : tNm C.L i with _ | _
       ·rw [ht] at HV
        have HTN := Lib.hid ht
        clear ht
        refine HV.out.mono ?_
        rintro e w101 ⟨rfl, hb⟩
        clear HV
        have hsz101 := hb.size
        replace KR := Lib.hid (KR.out.below hb)
        replace HS := Lib.hid (HS.out.below hb)
        replace HM := Lib.hid (HM.out.below_ hb)
        clear hb
        have hR := HR.out
        rw [if_neg (by rw [HTN.out]; simp)] at hR
        replace HR := Lib.hid hR
        clear hR HTN
        go_wp2_with fail
        have hpx := HS.out.lt
        refine ((rnumber_any C) _ _ false HS.out ((fun e => HW.out (HR.out.symm.trans e)))).mono ?_
        rintro e w102 ⟨⟨xk, xt, xn, xl⟩, Ax, cx, j51, b51, rfl, hrep, h', m', hf⟩
        replace HR := Lib.hid (mbr_last HR.out hf)
        simp only [Nd.k, Nd.t, Nd.num, Nd.kids] at hrep ⊢
        have REPx := Lib.hid (hrep.toI (E := w102.heap.size) rfl)
        clear hf hrep
        have hsz102 := m'.size
        replace KR := Lib.hid (m'.blk KR.out (by omega))
        replace HS := Lib.hid h'
        replace HM := Lib.hid (HM.out.trans_ m')
        clear m'
        clear h'
        have f0 := KR.out.free 0
        have f1 := KR.out.free 1
        have f2 := KR.out.free 2
        have f3 := KR.out.free 3
        have g0 := KR.out.cell 0 (.int .i64 0) rfl
        have g1 := KR.out.cell 1 (.string ⟨#[]⟩) rfl
        have g2 := KR.out.cell 2 (.int .i64 0) rfl
        have g3 := KR.out.cell 3 (.slice none 0 0) rfl
        go_wp2_with fail
        have hf := fin_nodeR H0.out (n := (Nd.mk xk xt xn xl)) (A := Ax) (c := cx) (r0 := w.heap.size) (C := C) (w := w) KR.out HS.out HM.out (Nat.le_refl _) REPx.out (fun b h => by have h1 := h.1; have h2 := h.2; exact ⟨by omega, by omega⟩) HR.out
        simp only [Nd.k, Nd.t, Nd.num, Nd.kids, List.length_append, List.length_cons, List.length_nil, Nat.zero_add] at hf
        exact bodyPost_ret (v := .agg _) (results_cell4 (fn := Tryz.f146) rfl hf.1 rfl) rfl (by exact hf.2)
       rw [ht] at HV
       have HTN := Lib.hid ht
       clear ht
       refine HV.out.mono ?_
       rintro e w101 ⟨rfl, hb⟩
       clear HV
       have hsz101 := hb.size
       replace KR := Lib.hid (KR.out.below hb)
       replace HS := Lib.hid (HS.out.below hb)
       replace HM := Lib.hid (HM.out.below_ hb)
       clear hb
       have hR := HR.out
       rw [if_pos HTN.out] at hR
       replace HR := Lib.hid hR
       clear hR
       go_wp2_with fail
       refine (nameRd_any C _ _ false HS.out).mono ?_
       rintro e w102 ⟨nm, j1, b1, rfl, hsz, h', m', hf⟩
       have hnm := nm_max hsz
       have hf2 : Fol (Res.ok (tTx C.L i) (i + 1)) nm j1 b1 := by
        have hf3 := hf
        unfold nameM at hf3
        rw [if_pos HTN.out] at hf3
        exact hf3
       obtain ⟨hn1, rfl, rfl⟩ := hf2
       have hR := HR.out
       rw [← hn1] at hR
       replace HR := Lib.hid (show mbr _ (i + 1) false = R from hR)
       clear hR hn1 hf hsz HTN
       have hsz102 := m'.size
       replace KR := Lib.hid (m'.blk KR.out (by omega))
       replace HS := Lib.hid h'
       replace HM := Lib.hid (HM.out.trans_ m')
       clear m'
       clear h'
       go_upto_region 20 with (fail)
       have KX := Blk.new_ w102 24 #[.int .i64 23, .string nm, .int .i64 0, .slice none 0 0]
       have hb : Below w102.heap.size w102 (w102.alloc (.cells #[.int .i64 23, .string nm, .int .i64 0, .slice none 0 0] 24)) := by (repeat (first | with_reducible assumption | with_reducible exact Below.refl _ _ | (refine Below.setCell ?_ (by first | omega | (simp; done) | (simp; omega)) _) | (refine Below.drewN_ ?_ _) | (refine Below.drew ?_) | (refine Below.alloc ?_ (by first | omega | (simp; done) | (simp; omega)) _)))
       have hbzbt : w102.heap.size < (w102.alloc (.cells #[.int .i64 23, .string nm, .int .i64 0, .slice none 0 0] 24)).heap.size := KX.lt
       have hsz103 := hb.size
       replace KR := Lib.hid (KR.out.below hb)
       replace HS := Lib.hid (HS.out.below hb)
       replace HM := Lib.hid (HM.out.below_ hb)
       clear hb
       have BT := Lib.hid KX
       clear KX
       have HBSbt : Hid ((w102.alloc (.cells #[.int .i64 23, .string nm, .int .i64 0, .slice none 0 0] 24)).heap.size = w102.heap.size + 1) := by show _ = _; simp
       generalize (w102.alloc (.cells #[.int .i64 23, .string nm, .int .i64 0, .slice none 0 0] 24)) = w103 at *
       obtain ⟨bt, hbwbt⟩ : ∃ x, x = w102.heap.size := ⟨_, rfl⟩
       rw [← hbwbt] at BT
       have hbvbt : w102.heap.size ≤ bt := by omega
       have hbxbt : bt < w103.heap.size := by omega
       rw [← hbwbt]
       clear hbwbt
       go_wp2_with fail
       rcases ht : (!false && tIs C.L ⟨#[123]⟩ (i + 1)) with _ | _
       ·have HV := Lib.hid (eat_any C _ _ false ⟨#[123]⟩ HS.out (by decide))
        rw [ht] at HV
        unfold EatOut at HV
        replace HR := Lib.hid (mbr_no HR.out (eat_no ht))
        clear ht
        refine HV.out.mono ?_
        rintro e w104 ⟨rfl, h', m'⟩
        clear HV
        have hsz104 := m'.size
        replace KR := Lib.hid (m'.blk KR.out (by omega))
        replace BT := Lib.hid (m'.blk BT.out (by omega))
        replace HS := Lib.hid (show RSt C w104 (i + 1) false by simpa using h')
        replace HM := Lib.hid (HM.out.trans_ m')
        clear m'
        clear h'
        have bBT0 := BT.out.cell 0 (.int .i64 23) rfl
        have bBT1 := BT.out.cell 1 (.string nm) rfl
        have bBT2 := BT.out.cell 2 (.int .i64 0) rfl
        have bBT3 := BT.out.cell 3 (.slice none 0 0) rfl
        have f0 := KR.out.free 0
        have f1 := KR.out.free 1
        have f2 := KR.out.free 2
        have f3 := KR.out.free 3
        have g0 := KR.out.cell 0 (.int .i64 0) rfl
        have g1 := KR.out.cell 1 (.string ⟨#[]⟩) rfl
        have g2 := KR.out.cell 2 (.int .i64 0) rfl
        have g3 := KR.out.cell 3 (.slice none 0 0) rfl
        go_wp2_with fail
        have hf := fin_nodeR H0.out (n := .mk 23 nm 0 []) (A := none) (c := 0) (r0 := w.heap.size) (C := C) (w := w) KR.out HS.out HM.out (Nat.le_refl _) (leafV (V := fun _ => False) i64_0 hnm) (fun b h => h.elim) (mbr_fin HR.out)
        simp only [Nd.k, Nd.t, Nd.num, Nd.kids, List.length_append, List.length_cons, List.length_nil, Nat.zero_add] at hf
        exact bodyPost_ret (v := .agg _) (results_cell4 (fn := Tryz.f146) rfl hf.1 rfl) rfl (by exact hf.2)
       have HV := Lib.hid (eat_any C _ _ false ⟨#[123]⟩ HS.out (by decide))
       rw [ht] at HV
       unfold EatOut at HV
       obtain ⟨hb, hyt⟩ := eat_yes ht
       clear ht
       cases hb
       replace HR := Lib.hid (mbr_yes (j := (i + 1) + 1) HR.out hyt)
       clear hyt
       refine HV.out.mono ?_
       rintro e w104 ⟨rfl, h', m'⟩
       clear HV
       have hsz104 := m'.size
       replace KR := Lib.hid (m'.blk KR.out (by omega))
       replace BT := Lib.hid (m'.blk BT.out (by omega))
       replace HS := Lib.hid (show RSt C w104 ((i + 1) + 1) false by simpa using h')
       replace HM := Lib.hid (HM.out.trans_ m')
       clear m'
       clear h'
       have f0 := BT.out.free 0
       have g0 := BT.out.cell 0 (.int .i64 23) rfl
       go_upto_region 23 with (fail)
       clear f0 g0
       have m' := put1_mv w104 bt 0 (.int .i64 27)
       have hbt := BT.out.set_ 0 (.int .i64 27)
       have hsz105 := m'.size
       replace HS := Lib.hid (RSt.put H0.out HS.out HM.out (by omega) m')
       replace HM := Lib.hid (HM.out.put (by omega) m')
       replace KR := Lib.hid (m'.blk KR.out (by omega))
       replace BT := Lib.hid hbt
       clear m' hbt
       generalize w104.setCell ⟨bt, 0, none⟩ (.int .i64 27) = w105 at *
       go_wp2_with fail
       rcases ht : (!false && tIs C.L ⟨#[125]⟩ ((i + 1) + 1)) with _ | _
       ·have HV := Lib.hid (eat_any C _ _ false ⟨#[125]⟩ HS.out (by decide))
        rw [ht] at HV
        unfold EatOut at HV
        have HT := Lib.hid (eat_no ht)
        clear ht
        refine HV.out.mono ?_
        rintro e w106 ⟨rfl, h', m'⟩
        clear HV
        have hsz106 := m'.size
        replace KR := Lib.hid (m'.blk KR.out (by omega))
        replace BT := Lib.hid (m'.blk BT.out (by omega))
        replace HS := Lib.hid (show RSt C w106 ((i + 1) + 1) false by simpa using h')
        replace HM := Lib.hid (HM.out.trans_ m')
        clear m'
        clear h'
        go_wp2_with fail
        have hbtB : bt < w106.heap.size := BT.out.lt
        go_loopg [8] (C.L.length + 1) (fun gk mv wr => MdRel C u nm R w w106.heap.size bt gk mv wr)
        case atStart => exact ⟨[], none, 0, i + 1 + 1, false, true, rfl, Lib.hid ⟨Acc.nil_ _ _, HS.out, HM.out, KR.out, BT.out, by simp, by omega, fun _ => ⟨fun _ _ => HT.out (by first | rfl | trivial), HR.out⟩, fun e => by cases e⟩⟩
        case round =>
         obtain ⟨ks, A, c, j, b, mo, rfl, HX⟩ := hrel
         clear HS HM HR KR BT HT
         have ACks := Lib.hid HX.out.1
         have HS := Lib.hid HX.out.2.1
         have HM := Lib.hid HX.out.2.2.1
         have KR := Lib.hid HX.out.2.2.2.1
         have BT := Lib.hid HX.out.2.2.2.2.1
         have hszB := HX.out.2.2.2.2.2.2.1
         have hcn : ks.length ≤ 4001 := by have h1 := HX.out.2.2.2.2.2.1; have h2 := hlen; omega
         have hszr := HM.out.size
         have hbtl := BT.out.lt
         have hcb := HS.out.blk.cell 2 (.bool b) rfl
         cases mo with
         | false =>
          have HR := Lib.hid (HX.out.2.2.2.2.2.2.2.2 rfl)
          clear HX
          go_wp2_with fail
          refine (must_any C _ _ b ⟨#[125]⟩ HS.out (by decide)).mono ?_
          rintro e w201 ⟨j81, b81, rfl, h', m', hf⟩
          replace HR := Lib.hid (mbr_seq HR.out HW.out hf)
          clear hf
          have hsz201 := m'.size
          replace ACks := Lib.hid (ACks.out.mv m' (by omega))
          replace KR := Lib.hid (m'.blk KR.out (by omega))
          replace BT := Lib.hid (m'.blk BT.out (by omega))
          replace HS := Lib.hid h'
          replace HM := Lib.hid (HM.out.trans_ m')
          clear m'
          clear h'
          obtain ⟨Aq, cq, hvq, hv1, hv2, hv3⟩ := ACks.out.kids
          injection hvq with e1 e2 e3
          subst e1 e3
          clear e2
          have HV1 := Lib.hid hv1
          have HV2 := Lib.hid hv2
          have HV3 := Lib.hid hv3
          clear hv1 hv2 hv3
          have bBT0 := BT.out.cell 0 (.int .i64 27) rfl
          have bBT1 := BT.out.cell 1 (.string nm) rfl
          have bBT2 := BT.out.cell 2 (.int .i64 0) rfl
          have bBT3 := BT.out.cell 3 (.slice A ks.length c) rfl
          have f0 := KR.out.free 0
          have f1 := KR.out.free 1
          have f2 := KR.out.free 2
          have f3 := KR.out.free 3
          have g0 := KR.out.cell 0 (.int .i64 0) rfl
          have g1 := KR.out.cell 1 (.string ⟨#[]⟩) rfl
          have g2 := KR.out.cell 2 (.int .i64 0) rfl
          have g3 := KR.out.cell 3 (.slice none 0 0) rfl
          go_wp2_with fail
          have hf := fin_nodeR H0.out (n := .mk 27 nm 0 ks) (A := A) (c := c) (r0 := w.heap.size) (C := C) (w := w) KR.out HS.out HM.out (Nat.le_refl _) (RepV.of HV1.out HV2.out HV3.out i64_0 hnm) (fun b h => by have h : w106.heap.size ≤ b := h; exact ⟨by omega, by omega⟩) (mbr_fin HR.out)
          simp only [Nd.k, Nd.t, Nd.num, Nd.kids, List.length_append, List.length_cons, List.length_nil, Nat.zero_add] at hf
          exact bodyPost_ret (v := .agg _) (results_cell4 (fn := Tryz.f146) rfl hf.1 rfl) rfl (by exact hf.2)
         | true =>
          obtain ⟨hfst, hR⟩ := HX.out.2.2.2.2.2.2.2.1 rfl
          cases b with
          | true =>
           have HR : Hid (mbr ((needM C.L ⟨#[125]⟩ j).bind fun _ k => .ok (.mk 27 nm 0 ks) k) j true = R) := Lib.hid (mbr_any hR)
           clear HX hR hfst
           go_wp2_with fail
           refine (must_any C _ _ true ⟨#[125]⟩ HS.out (by decide)).mono ?_
           rintro e w201 ⟨j81, b81, rfl, h', m', hf⟩
           replace HR := Lib.hid (mbr_seq HR.out HW.out hf)
           clear hf
           have hsz201 := m'.size
           replace ACks := Lib.hid (ACks.out.mv m' (by omega))
           replace KR := Lib.hid (m'.blk KR.out (by omega))
           replace BT := Lib.hid (m'.blk BT.out (by omega))
           replace HS := Lib.hid h'
           replace HM := Lib.hid (HM.out.trans_ m')
           clear m'
           clear h'
           obtain ⟨Aq, cq, hvq, hv1, hv2, hv3⟩ := ACks.out.kids
           injection hvq with e1 e2 e3
           subst e1 e3
           clear e2
           have HV1 := Lib.hid hv1
           have HV2 := Lib.hid hv2
           have HV3 := Lib.hid hv3
           clear hv1 hv2 hv3
           have bBT0 := BT.out.cell 0 (.int .i64 27) rfl
           have bBT1 := BT.out.cell 1 (.string nm) rfl
           have bBT2 := BT.out.cell 2 (.int .i64 0) rfl
           have bBT3 := BT.out.cell 3 (.slice A ks.length c) rfl
           have f0 := KR.out.free 0
           have f1 := KR.out.free 1
           have f2 := KR.out.free 2
           have f3 := KR.out.free 3
           have g0 := KR.out.cell 0 (.int .i64 0) rfl
           have g1 := KR.out.cell 1 (.string ⟨#[]⟩) rfl
           have g2 := KR.out.cell 2 (.int .i64 0) rfl
           have g3 := KR.out.cell 3 (.slice none 0 0) rfl
           go_wp2_with fail
           have hf := fin_nodeR H0.out (n := .mk 27 nm 0 ks) (A := A) (c := c) (r0 := w.heap.size) (C := C) (w := w) KR.out HS.out HM.out (Nat.le_refl _) (RepV.of HV1.out HV2.out HV3.out i64_0 hnm) (fun b h => by have h : w106.heap.size ≤ b := h; exact ⟨by omega, by omega⟩) (mbr_fin HR.out)
           simp only [Nd.k, Nd.t, Nd.num, Nd.kids, List.length_append, List.length_cons, List.length_nil, Nat.zero_add] at hf
           exact bodyPost_ret (v := .agg _) (results_cell4 (fn := Tryz.f146) rfl hf.1 rfl) rfl (by exact hf.2)
          | false =>
           cases gk with
           | zero => exact absurd (show Res.dry = R from hR) (fun e => HW.out e.symm)
           | succ g =>
           have hcnt : ks.length + (g + 1) ≤ C.L.length + 1 := by have := HX.out.2.2.2.2.2.1; simpa using this
           rw [madeM, if_neg (fun h => hfst h.1 rfl h.2), Res.bind_assoc] at hR
           have HR := Lib.hid hR
           clear HX hR hfst
           have HLTks : Hid (∀ g, (Value.slice A (ks).length c).ownBlock = some g → g < wr.heap.size) := by
            obtain ⟨ys, _, hoy⟩ := ACks.out
            exact fun g e => (hoy.lt g e).2
           go_wp2_with fail
           have hpx := HS.out.lt
           refine (XX.out _ _ false HS.out (mbr_wet HR.out HW.out)).mono ?_
           rintro e w201 ⟨⟨xk, xt, xn, xl⟩, Ax, cx, j81, b81, rfl, hrep, h', m', hf⟩
           replace HR := Lib.hid (mbr_seq HR.out HW.out hf)
           simp only [Nd.k, Nd.t, Nd.num, Nd.kids] at hrep ⊢
           have REPx := Lib.hid (hrep.toI (E := w201.heap.size) rfl)
           clear hf hrep
           have hsz201 := m'.size
           replace ACks := Lib.hid (ACks.out.mv m' (by omega))
           replace KR := Lib.hid (m'.blk KR.out (by omega))
           replace BT := Lib.hid (m'.blk BT.out (by omega))
           replace HS := Lib.hid h'
           replace HM := Lib.hid (HM.out.trans_ m')
           clear m'
           clear h'
           go_upto_region 29 with (fail)
           have KX := Blk.new_ w201 24 #[.int .i64 xk, .string xt, .int .i64 xn, .slice Ax xl.length cx]
           have hb : Below w201.heap.size w201 (w201.alloc (.cells #[.int .i64 xk, .string xt, .int .i64 xn, .slice Ax xl.length cx] 24)) := by (repeat (first | with_reducible assumption | with_reducible exact Below.refl _ _ | (refine Below.setCell ?_ (by first | omega | (simp; done) | (simp; omega)) _) | (refine Below.drewN_ ?_ _) | (refine Below.drew ?_) | (refine Below.alloc ?_ (by first | omega | (simp; done) | (simp; omega)) _)))
           have hbzb9 : w201.heap.size < (w201.alloc (.cells #[.int .i64 xk, .string xt, .int .i64 xn, .slice Ax xl.length cx] 24)).heap.size := KX.lt
           have hsz202 := hb.size
           replace ACks := Lib.hid (ACks.out.below hb)
           replace KR := Lib.hid (KR.out.below hb)
           replace BT := Lib.hid (BT.out.below hb)
           replace REPx := Lib.hid (REPx.out.belI hb)
           replace HS := Lib.hid (HS.out.below hb)
           replace HM := Lib.hid (HM.out.below_ hb)
           clear hb
           have B9 := Lib.hid KX
           clear KX
           have HBSb9 : Hid ((w201.alloc (.cells #[.int .i64 xk, .string xt, .int .i64 xn, .slice Ax xl.length cx] 24)).heap.size = w201.heap.size + 1) := by show _ = _; simp
           generalize (w201.alloc (.cells #[.int .i64 xk, .string xt, .int .i64 xn, .slice Ax xl.length cx] 24)) = w202 at *
           obtain ⟨b9, hbwb9⟩ : ∃ x, x = w201.heap.size := ⟨_, rfl⟩
           rw [← hbwb9] at B9
           have hbvb9 : w201.heap.size ≤ b9 := by omega
           have hbxb9 : b9 < w202.heap.size := by omega
           rw [← hbwb9]
           clear hbwb9
           have bB90 := B9.out.cell 0 (.int .i64 xk) rfl
           have bB91 := B9.out.cell 1 (.string xt) rfl
           have bB92 := B9.out.cell 2 (.int .i64 xn) rfl
           have bB93 := B9.out.cell 3 (.slice Ax xl.length cx) rfl
           have bBT0 := BT.out.cell 0 (.int .i64 27) rfl
           have bBT1 := BT.out.cell 1 (.string nm) rfl
           have bBT2 := BT.out.cell 2 (.int .i64 0) rfl
           have bBT3 := BT.out.cell 3 (.slice A ks.length c) rfl
           obtain ⟨xs, hcs, ho⟩ := ACks.out
           have HCS := Lib.hid hcs
           have HO := Lib.hid ho
           clear hcs ho
           obtain ⟨i0, hi0, hz0, hz1, hz2⟩ := info_parts info_nodes
           go_wp2_with (at_builtin; refine wpList_append_own_at _ rfl _ _ 22 rfl w106.heap.size 24 i0 (.agg #[.int .i64 0, .string ⟨#[]⟩, .int .i64 0, .slice none 0 0]) 4 56 Tryz.underlying22 hi0 hz0 hz1 hz2 rfl (by decide) _ _ _ rfl (HO.out.alloc _) ⟨w202.heap.size, 0, none⟩ 1 1 [.int .i64 xk, .string xt, .int .i64 xn, .slice Ax xl.length cx] rfl rfl ?c1x2 ?c2x2 ?c3x2 ?c4x2 ?c5x2 ?_)
           try (case c1x2 => exact World.news_of_block (cs := #[.int .i64 xk, .string xt, .int .i64 xn, .slice Ax xl.length cx]) (t := 24) (fr := (0, 0)) (heap_new rfl))
           case c2x2 => simp [Value.oneCell']
           case c3x2 => first | (unfold maxLen; omega) | (unfold maxLen; simp; done) | (unfold maxLen; simp; omega)
           try (case c4x2 => first | omega | (simp; done) | (simp; omega))
           case c5x2 => first | omega | (simp; done) | (simp; omega)
           intro v203 w203 hown hg _ hob
           have HP := RSt.push H0.out HS.out HM.out (by omega) HO.out hg
           have hacc := acc_pushI HCS.out REPx.out (by omega) (fun g e => Nat.lt_of_lt_of_le (HLTks.out g e) (by omega)) hown hg (by simpa using hob)
           have hsz203 : w202.heap.size + 1 ≤ w203.heap.size := by have := hg.size; simpa using this
           have hKR := (KR.out.alloc (.cells #[.int .i64 xk, .string xt, .int .i64 xn, .slice Ax xl.length cx] 24)).grown hg (by intro e; have h1 := HO.out.lt _ e.symm; have h2 := HLTks.out _ e.symm; omega)
           have hBT := (BT.out.alloc (.cells #[.int .i64 xk, .string xt, .int .i64 xn, .slice Ax xl.length cx] 24)).grown hg (by intro e; have h1 := HO.out.lt _ e.symm; have h2 := HLTks.out _ e.symm; omega)
           obtain ⟨Aw203, cw203, rfl, -⟩ := Row.of_own hown
           replace HS := Lib.hid HP.1
           replace HM := Lib.hid HP.2
           replace ACks := Lib.hid hacc
           replace KR := Lib.hid hKR
           clear hKR
           replace BT := Lib.hid hBT
           clear hBT
           clear hown hg hob hacc HP HO HCS HLTks REPx hi0 hz0 hz1 hz2
           have f3 := BT.out.free 3
           have g3 := BT.out.cell 3 (.slice A ks.length c) rfl
           go_wp2_with fail
           clear f3 g3
           have m' := put1_mv w203 bt 3 (.slice Aw203 (ks.length + 1) cw203)
           have hbt := BT.out.set_ 3 (.slice Aw203 (ks.length + 1) cw203)
           have hsz204 := m'.size
           replace HS := Lib.hid (RSt.put H0.out HS.out HM.out (by omega) m')
           replace HM := Lib.hid (HM.out.put (by omega) m')
           replace ACks := Lib.hid (ACks.out.mv m' (by omega))
           replace KR := Lib.hid (m'.blk KR.out (by omega))
           replace BT := Lib.hid hbt
           clear m' hbt
           generalize w203.setCell ⟨bt, 3, none⟩ (.slice Aw203 (ks.length + 1) cw203) = w204 at *
           have hR := HR.out
           rw [bind_ite] at hR
           replace HR := Lib.hid hR
           clear hR
           go_wp2_with fail
           rcases ht : (!b81 && tIs C.L ⟨#[44]⟩ j81) with _ | _
           ·have HV := Lib.hid (eat_any C _ _ b81 ⟨#[44]⟩ HS.out (by decide))
            rw [ht] at HV
            unfold EatOut at HV
            replace HR := Lib.hid (mbr_no HR.out (eat_no ht))
            clear ht
            refine HV.out.mono ?_
            rintro e w205 ⟨rfl, h', m'⟩
            clear HV
            have hsz205 := m'.size
            replace ACks := Lib.hid (ACks.out.mv m' (by omega))
            replace KR := Lib.hid (m'.blk KR.out (by omega))
            replace BT := Lib.hid (m'.blk BT.out (by omega))
            replace HS := Lib.hid (show RSt C w205 j81 b81 by simpa using h')
            replace HM := Lib.hid (HM.out.trans_ m')
            clear m'
            clear h'
            have hR := HR.out
            rw [Res.bind_assoc] at hR
            simp only [Res.bind_ok] at hR
            replace HR := Lib.hid hR
            clear hR
            go_wp2_with fail
            go_roundg g
            case measure => omega
            case rel => exact ⟨ks ++ [Nd.mk xk xt xn xl], Aw203, cw203, j81, b81, false, rfl, Lib.hid ⟨by simpa using ACks.out, HS.out, HM.out, KR.out, by simpa using BT.out, by simp; omega, by omega, (fun e => by cases e), (fun _ => HR.out)⟩⟩
           have HV := Lib.hid (eat_any C _ _ b81 ⟨#[44]⟩ HS.out (by decide))
           rw [ht] at HV
           unfold EatOut at HV
           obtain ⟨hb, hyt⟩ := eat_yes ht
           clear ht
           cases hb
           replace HR := Lib.hid (mbr_yes (j := j81 + 1) HR.out hyt)
           clear hyt
           refine HV.out.mono ?_
           rintro e w205 ⟨rfl, h', m'⟩
           clear HV
           have hsz205 := m'.size
           replace ACks := Lib.hid (ACks.out.mv m' (by omega))
           replace KR := Lib.hid (m'.blk KR.out (by omega))
           replace BT := Lib.hid (m'.blk BT.out (by omega))
           replace HS := Lib.hid (show RSt C w205 (j81 + 1) false by simpa using h')
           replace HM := Lib.hid (HM.out.trans_ m')
           clear m'
           clear h'
           go_wp2_with fail
           go_roundg g
           case measure => omega
           case rel => exact ⟨ks ++ [Nd.mk xk xt xn xl], Aw203, cw203, (j81 + 1), false, true, rfl, Lib.hid ⟨by simpa using ACks.out, HS.out, HM.out, KR.out, by simpa using BT.out, by simp; omega, by omega, (fun _ => ⟨fun e => by simp at e, HR.out⟩), (fun e => by cases e)⟩⟩
       have HV := Lib.hid (eat_any C _ _ false ⟨#[125]⟩ HS.out (by decide))
       rw [ht] at HV
       unfold EatOut at HV
       obtain ⟨hb, hyt⟩ := eat_yes ht
       clear ht
       cases hb
       have HT := Lib.hid hyt
       clear hyt
       refine HV.out.mono ?_
       rintro e w106 ⟨rfl, h', m'⟩
       clear HV
       have hsz106 := m'.size
       replace KR := Lib.hid (m'.blk KR.out (by omega))
       replace BT := Lib.hid (m'.blk BT.out (by omega))
       replace HS := Lib.hid (show RSt C w106 (((i + 1) + 1) + 1) false by simpa using h')
       replace HM := Lib.hid (HM.out.trans_ m')
       clear m'
       clear h'
       have hR := HR.out
       rw [show i + 2 = i + 1 + 1 from rfl, madeM, if_pos ⟨rfl, HT.out⟩] at hR
       simp only [Res.bind_ok] at hR
       replace HR := Lib.hid (show mbr _ (i + 1 + 1 + 1) false = R from hR)
       clear hR HT
       have bBT0 := BT.out.cell 0 (.int .i64 27) rfl
       have bBT1 := BT.out.cell 1 (.string nm) rfl
       have bBT2 := BT.out.cell 2 (.int .i64 0) rfl
       have bBT3 := BT.out.cell 3 (.slice none 0 0) rfl
       have f0 := KR.out.free 0
       have f1 := KR.out.free 1
       have f2 := KR.out.free 2
       have f3 := KR.out.free 3
       have g0 := KR.out.cell 0 (.int .i64 0) rfl
       have g1 := KR.out.cell 1 (.string ⟨#[]⟩) rfl
       have g2 := KR.out.cell 2 (.int .i64 0) rfl
       have g3 := KR.out.cell 3 (.slice none 0 0) rfl
       go_wp2_with fail
       have hf := fin_nodeR H0.out (n := .mk 27 nm 0 []) (A := none) (c := 0) (r0 := w.heap.size) (C := C) (w := w) KR.out HS.out HM.out (Nat.le_refl _) (leafV (V := fun _ => False) i64_0 hnm) (fun b h => h.elim) (mbr_fin HR.out)
       simp only [Nd.k, Nd.t, Nd.num, Nd.kids, List.length_append, List.length_cons, List.length_nil, Nat.zero_add] at hf
       exact bodyPost_ret (v := .agg _) (results_cell4 (fn := Tryz.f146) rfl hf.1 rfl) rfl (by exact hf.2)
    have HV := Lib.hid (eat_any C _ _ false ⟨#[99, 111, 117, 110, 116]⟩ HS.out (by decide))
    rw [ht] at HV
    unfold EatOut at HV
    obtain ⟨hb, hyt⟩ := eat_yes ht
    clear ht
    cases hb
    have HT := Lib.hid hyt
    clear hyt
    refine HV.out.mono ?_
    rintro e w3 ⟨rfl, h', m'⟩
    clear HV
    have hsz3 := m'.size
    replace KR := Lib.hid (m'.blk KR.out (by omega))
    replace HS := Lib.hid (show RSt C w3 (i + 1) false by simpa using h')
    replace HM := Lib.hid (HM.out.trans_ m')
    clear m'
    clear h'
    have hR := HR.out
    rw [first_count H1.out H2.out HT.out] at hR
    replace HR := Lib.hid (show mbr _ (i + 1) false = R from hR)
    clear hR HT
    have f0 := KR.out.free 0
    have f1 := KR.out.free 1
    have f2 := KR.out.free 2
    have f3 := KR.out.free 3
    have g0 := KR.out.cell 0 (.int .i64 0) rfl
    have g1 := KR.out.cell 1 (.string ⟨#[]⟩) rfl
    have g2 := KR.out.cell 2 (.int .i64 0) rfl
    have g3 := KR.out.cell 3 (.slice none 0 0) rfl
    go_wp2_with fail
    have hf := fin_nodeR H0.out (n := .mk 33 ⟨#[]⟩ 0 []) (A := none) (c := 0) (r0 := w.heap.size) (C := C) (w := w) KR.out HS.out HM.out (Nat.le_refl _) (leafV (V := fun _ => False) i64_0 (Nat.zero_le _)) (fun b h => h.elim) (mbr_fin HR.out)
    simp only [Nd.k, Nd.t, Nd.num, Nd.kids, List.length_append, List.length_cons, List.length_nil, Nat.zero_add] at hf
    exact bodyPost_ret (v := .agg _) (results_cell4 (fn := Tryz.f146) rfl hf.1 rfl) rfl (by exact hf.2)
   have HV := Lib.hid (eat_any C _ _ false ⟨#[38]⟩ HS.out (by decide))
   rw [ht] at HV
   unfold EatOut at HV
   obtain ⟨hb, hyt⟩ := eat_yes ht
   clear ht
   cases hb
   have HT := Lib.hid hyt
   clear hyt
   refine HV.out.mono ?_
   rintro e w2 ⟨rfl, h', m'⟩
   clear HV
   have hsz2 := m'.size
   replace KR := Lib.hid (m'.blk KR.out (by omega))
   replace HS := Lib.hid (show RSt C w2 (i + 1) false by simpa using h')
   replace HM := Lib.hid (HM.out.trans_ m')
   clear m'
   clear h'
   have hR := HR.out
   unfold firstM at hR
   rw [if_neg H1.out, if_pos HT.out] at hR
   replace HR := Lib.hid (show mbr _ (i + 1) false = R from hR)
   clear hR HT
   go_wp2_with fail
   refine (nameRd_any C _ _ false HS.out).mono ?_
   rintro e w3 ⟨nm, j1, b1, rfl, hsz, h', m', hf⟩
   have hnm := nm_max hsz
   replace HR := Lib.hid (mbr_seq HR.out HW.out hf)
   clear hf hsz
   have hsz3 := m'.size
   replace KR := Lib.hid (m'.blk KR.out (by omega))
   replace HS := Lib.hid h'
   replace HM := Lib.hid (HM.out.trans_ m')
   clear m'
   clear h'
   have f0 := KR.out.free 0
   have f1 := KR.out.free 1
   have f2 := KR.out.free 2
   have f3 := KR.out.free 3
   have g0 := KR.out.cell 0 (.int .i64 0) rfl
   have g1 := KR.out.cell 1 (.string ⟨#[]⟩) rfl
   have g2 := KR.out.cell 2 (.int .i64 0) rfl
   have g3 := KR.out.cell 3 (.slice none 0 0) rfl
   go_wp2_with fail
   have hf := fin_nodeR H0.out (n := .mk 26 nm 0 []) (A := none) (c := 0) (r0 := w.heap.size) (C := C) (w := w) KR.out HS.out HM.out (Nat.le_refl _) (leafV (V := fun _ => False) i64_0 hnm) (fun b h => h.elim) (mbr_fin HR.out)
   simp only [Nd.k, Nd.t, Nd.num, Nd.kids, List.length_append, List.length_cons, List.length_nil, Nat.zero_add] at hf
   exact bodyPost_ret (v := .agg _) (results_cell4 (fn := Tryz.f146) rfl hf.1 rfl) rfl (by exact hf.2)
  have hx : ((txR C.L i).toList == [40]) = true := (lit_beq _ _).trans ((txR_is H0.out.ok (s := ⟨#[40]⟩) (by decide) _).trans ht)
  have HT := Lib.hid ht
  clear ht
  generalize txR C.L i = tx at *
  have hR := HR.out
  unfold firstM at hR
  rw [if_pos HT.out] at hR
  replace HR := Lib.hid hR
  clear hR HT
  go_wp2_with fail
  have hpx := HS.out.lt
  refine (RD.out _ _ false HS.out ((fun e => HW.out (HR.out.symm.trans e)))).mono ?_
  rintro e w2 ⟨⟨xk, xt, xn, xl⟩, Ax, cx, j1, b1, rfl, hrep, h', m', hf⟩
  replace HR := Lib.hid (mbr_last HR.out hf)
  simp only [Nd.k, Nd.t, Nd.num, Nd.kids] at hrep ⊢
  have REPx := Lib.hid (hrep.toI (E := w2.heap.size) rfl)
  clear hf hrep
  have hsz2 := m'.size
  replace KR := Lib.hid (m'.blk KR.out (by omega))
  replace HS := Lib.hid h'
  replace HM := Lib.hid (HM.out.trans_ m')
  clear m'
  clear h'
  have f0 := KR.out.free 0
  have f1 := KR.out.free 1
  have f2 := KR.out.free 2
  have f3 := KR.out.free 3
  have g0 := KR.out.cell 0 (.int .i64 0) rfl
  have g1 := KR.out.cell 1 (.string ⟨#[]⟩) rfl
  have g2 := KR.out.cell 2 (.int .i64 0) rfl
  have g3 := KR.out.cell 3 (.slice none 0 0) rfl
  go_wp2_with fail
  have hf := fin_nodeR H0.out (n := (Nd.mk xk xt xn xl)) (A := Ax) (c := cx) (r0 := w.heap.size) (C := C) (w := w) KR.out HS.out HM.out (Nat.le_refl _) REPx.out (fun b h => by have h1 := h.1; have h2 := h.2; exact ⟨by omega, by omega⟩) HR.out
  simp only [Nd.k, Nd.t, Nd.num, Nd.kids, List.length_append, List.length_cons, List.length_nil, Nat.zero_add] at hf
  exact bodyPost_ret (v := .agg _) (results_cell4 (fn := Tryz.f146) rfl hf.1 rfl) rfl (by exact hf.2)
end Go.Proofs.YtgegfbopogcjpaaGreatDoor
