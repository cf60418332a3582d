/- Nodes shown: ref6.shown, row, at, their kids' texts given. -/
import Derived.Test.YtgegfbopogcjpaaDoorShwB
import Derived.Test.YtgegfbopogcjpaaDoorSynE
import Derived.Test.YtgegfbopogcjpaaDoorSynV
namespace Go.Proofs.YtgegfbopogcjpaaDoor
open Go.RowKit
set_option linter.unusedVariables false
set_option linter.unusedSimpArgs false
set_option maxRecDepth 100000
set_option maxHeartbeats 1000000
theorem info_words : (Tryd.prog.info? 9).map (fun i => (i.zero, i.size, i.bytes)) = some (some (.string ⟨#[]⟩), 1, 16) := by kernel_rfl
/-- Show of this node answers its text -/
def ShwOk (m : Nd) : Prop := ∀ (cs : List Value) (w : World), RepN w m cs → Calls Tryd.prog 14 #[.agg cs.toArray] w fun e w' => e = .returned (.string (sB (shw m))) ∧ Below w.heap.size w w'
def txs (l : List Nd) : List Value := l.map (fun m => Value.string (sB (shw m)))
def ShnRel (l : List Nd) (w : World) (out i : Value) (wr : World) : Prop :=
  ∃ k : Nat, i = .int .i64 k ∧ k ≤ l.length ∧ (∃ A c, out = .slice A k c) ∧ Hid (wr.ownsRow w.heap.size 9 1 out k (txs (l.take k)) ∧ Below w.heap.size w wr)
def ShnOut (l : List Nd) (w : World) (e : Ending) (w' : World) : Prop :=
  ∃ A c, e = .returned (.slice A l.length c) ∧ w'.ownsRow w.heap.size 9 1 (.slice A l.length c) l.length (txs l) ∧ Below w.heap.size w w'
theorem shown_any (l : List Nd) (A : Option Addr) (c : Nat) (w : World) (h : RepNL w l A) (hn : l.length ≤ 100000) (hs : ∀ m ∈ l, ShwOk m) :
    Calls Tryd.prog 35 #[.slice A l.length c] w (ShnOut l w) := by
  obtain ⟨i0, hi0, hz0, hz1, hz2⟩ := info_parts info_words
  have HA := Lib.hid h
  have HS := Lib.hid hs
  clear h hs
  go_enter Tryd.func35, Tryd.ntmps35
  go_wp2_with fail
  go_loopw [3, 4] (fun out i wr => ShnRel l w out i wr) (fun _ i _ => l.length - (intOf i).toNat)
  case atStart => exact ⟨0, rfl, Nat.zero_le _, ⟨_, _, rfl⟩, Lib.hid ⟨World.ownsRow_nil _ _ _ _, by (repeat (first | with_reducible assumption | with_reducible exact Below.refl _ _ | (refine Below.setCell ?_ (by first | omega | (simp; done) | (simp; omega)) _) | (refine Below.drewN_ ?_ _) | (refine Below.drew ?_) | (refine Below.alloc ?_ (by first | omega | (simp; done) | (simp; omega)) _)))⟩⟩
  case round =>
    obtain ⟨k, rfl, hk, ⟨Ao, co, rfl⟩, HX⟩ := hrel
    by_cases hlt : k < l.length
    · have hi : (k : Int) < (l.length : Int) := by omega
      have d1 : decide ((k : Int) < (l.length : Int)) = true := by simpa using hi
      obtain ⟨b, o, cs, rfl, hbl, hc, hrep⟩ := RepNL.at_ l _ HA.out k hlt
      obtain ⟨A', c', rfl, -⟩ := hrep.four
      have bw := HX.out.2
      have c0 := (bw.cell (p := ⟨b, o + k * 4 + 0, none⟩) hbl).trans (hc 0 _ rfl)
      have c1 := (bw.cell (p := ⟨b, o + k * 4 + 1, none⟩) hbl).trans (hc 1 _ rfl)
      have c2 := (bw.cell (p := ⟨b, o + k * 4 + 2, none⟩) hbl).trans (hc 2 _ rfl)
      have c3 := (bw.cell (p := ⟨b, o + k * 4 + 3, none⟩) hbl).trans (hc 3 _ rfl)
      rw [Nat.add_zero] at c0
      have HREP := Lib.hid (RepN.keep bw _ _ hrep)
      have HM := Lib.hid (HS.out _ (List.getElem_mem hlt))
      have HTX : Hid (txs (l.take (k + 1)) = txs (l.take k) ++ [.string (sB (shw l[k]))]) := by show _ = _; unfold txs; rw [List.take_succ_eq_append_getElem hlt, List.map_append]; rfl
      have hsz := bw.size
      clear hc bw hrep
      generalize l[k] = x at *
      go_wp2_with fail
      refine (HM.out _ _ HREP.out).mono ?_
      rintro e w2 ⟨rfl, hb2⟩
      have HB2 := Lib.hid (below_trans HX.out.2 (Nat.le_refl _) hb2)
      have HO2 := Lib.hid (own_below HX.out.1 hb2)
      have hs2 := HB2.out.size
      clear hb2
      generalize sB (shw x) = X at *
      go_wp2_with (at_builtin; refine wpList_append_own _ rfl _ _ 36 rfl w.heap.size 9 i0 (.string ⟨#[]⟩) 1 16 Tryd.underlying36 hi0 hz0 hz1 hz2 rfl (by decide) _ _ _ rfl (HO2.out.alloc _) ⟨w2.heap.size, 0, none⟩ 1 1 [.string X] rfl rfl ?c1 ?c2 ?c3 ?c4 ?c5 ?_)
      case c1 => exact World.news_of_block (cs := #[.string X]) (t := 9) (fr := (0, 0)) (heap_new rfl)
      case c2 => simp [Value.oneCell']
      case c3 => unfold maxLen; omega
      case c4 => omega
      case c5 => simp; omega
      intro v' w3 hown3 hgrow3 _
      have hb3 : Below w.heap.size w w3 := (HB2.out.alloc hs2 (.cells #[.string X] 9)).grown hgrow3 (by simp; omega) (own_ge HO2.out)
      obtain ⟨A3, c3', rfl, -⟩ := Row.of_own hown3
      have HO3 := Lib.hid hown3
      have HB3 := Lib.hid hb3
      clear hown3 hb3 hgrow3
      go_wp2
      go_roundw
      case rel => exact ⟨k + 1, by go_num, by omega, ⟨_, _, rfl⟩, Lib.hid ⟨by rw [HTX.out]; exact HO3.out, HB3.out⟩⟩
      case measure => (first | (simp [intOf]; done) | (simp [intOf]; omega))
    · have hi : ¬ (k : Int) < (l.length : Int) := by omega
      have d1 : decide ((k : Int) < (l.length : Int)) = false := by simpa using hi
      obtain rfl : k = l.length := by omega
      have HO : Hid (wr.ownsRow w.heap.size 9 1 (.slice Ao l.length co) l.length (txs l)) := by
        show World.ownsRow _ _ _ _ _ _ _
        have := HX.out.1
        rwa [List.take_length] at this
      go_wp2
      go_ret
      exact ⟨Ao, co, rfl, HO.out, HX.out.2⟩
theorem own_strL {w : World} {B : Nat} {A : Option Addr} {n c : Nat} {ts : List ByteArray} (h : w.ownsRow B 9 1 (.slice A n c) n (ts.map .string)) : ts.length = n ∧ StrL w ts A := by
  have h1 : ts.length = n := by have := h.1; simpa using this
  refine ⟨h1, ?_⟩
  rcases h.2 with ⟨e, h0⟩ | ⟨g, cap, cur, e, -, hg, hnc, hcm, hcs, htake⟩
  · intro i hi
    omega
  · injection e with e1 e2 e3
    subst e1
    intro i hi
    refine ⟨g, 0, rfl, (h.lt g rfl).2, ?_⟩
    have := h.cells (g := g) rfl i (.string ts[i]) (by rw [List.getElem?_map, List.getElem?_eq_getElem hi]; rfl)
    rw [add_plain_] at this
    exact this
def rowT (ws : List (List ByteArray)) (d : Bool) : List (List ByteArray) := ws ++ if d = true then [[⟨#[46, 46, 46]⟩]] else []
theorem rowW_eq (ws : List (List ByteArray)) (d : Bool) : rowW ws d = ⟨#[40]⟩ :: (commas (rowT ws d) ++ [⟨#[41]⟩]) := rfl
theorem sB_row0 : sB (rowW [] false) = ⟨#[40, 32, 41]⟩ := rfl
theorem sB_row (ws : List (List ByteArray)) (d : Bool) (h : ∀ l ∈ ws, l ≠ []) (h0 : rowT ws d ≠ []) : (⟨#[40, 32]⟩ : ByteArray) ++ ⟨(jn [32, 44, 32] ((rowT ws d).map sB)).toArray⟩ ++ ⟨#[32, 41]⟩ = sB (rowW ws d) := by
  have hx : ∀ l ∈ rowT ws d, l ≠ [] := by
    intro l hl
    unfold rowT at hl
    rcases List.mem_append.1 hl with hl | hl
    · exact h l hl
    · cases d
      · cases hl
      · rw [if_pos rfl] at hl
        rw [List.mem_singleton.1 hl]; simp
  apply Go.WideShapes.bytes_inj
  rw [sB_data, rowW_eq, joinW_cons _ (by simp), joinW_app (by simp) (commas_ne hx h0), jn_comma _ hx]
  simp [joinW]
theorem row_len_le (ws : List (List ByteArray)) (d : Bool) (h : ∀ l ∈ ws, l ≠ []) : (jn [32, 44, 32] ((rowT ws d).map sB)).length ≤ (joinW (rowW ws d)).length := by
  by_cases h0 : rowT ws d = []
  · rw [h0]; simp [jn]
  · have := congrArg (fun b : ByteArray => b.data.toList.length) (sB_row ws d h h0)
    simp only [ByteArray.data_append, Array.toList_append, List.length_append] at this
    rw [sB_data] at this
    simp only [List.length_cons, List.length_nil] at this
    omega
def RowOut (l : List Nd) (d : Bool) (w : World) (e : Ending) (w' : World) : Prop := e = .returned (.string (sB (rowW (l.map shw) d))) ∧ Below w.heap.size w w'
theorem row_any (l : List Nd) (d : Bool) (A : Option Addr) (c : Nat) (w : World) (h : RepNL w l A) (hn : l.length ≤ 90000) (hs : ∀ m ∈ l, ShwOk m) (hne : ∀ m ∈ l, shw m ≠ []) (hL : (joinW (rowW (l.map shw) d)).length ≤ 200000) :
    Calls Tryd.prog 36 #[.slice A l.length c, .bool d] w (RowOut l d w) := by
  have hne2 : ∀ x ∈ l.map shw, x ≠ [] := fun x hx => by obtain ⟨m, hm, rfl⟩ := List.mem_map.1 hx; exact hne m hm
  have hJ := row_len_le (l.map shw) d hne2
  have HW := Lib.hid (fun h0 => sB_row (l.map shw) d hne2 h0)
  have SH := Lib.hid (shown_any l A c w h (by omega) hs)
  have HJ : Hid ((jn [32, 44, 32] ((rowT (l.map shw) d).map sB)).length ≤ 200000) := by show _ ≤ _; omega
  clear hJ h hs hne hne2 hL
  obtain ⟨i0, hi0, hz0, hz1, hz2⟩ := info_parts info_words
  have hTX : txs l = ((l.map shw).map sB).map .string := by unfold txs; simp
  have HTX := Lib.hid hTX
  clear hTX
  cases d
  · have HR : Hid (rowT (l.map shw) false = l.map shw) := by show _ = _; unfold rowT; simp
    rw [HR.out] at HJ HW
    go_enter Tryd.func36, Tryd.ntmps36
    go_wp2_with fail
    refine SH.out.mono ?_
    rintro e w1 ⟨A1, c1, rfl, ho, hb⟩
    rw [HTX.out] at ho
    obtain ⟨hl1, hst⟩ := own_strL ho
    have HO := Lib.hid hst
    have HB := Lib.hid hb
    have HL1 := Lib.hid hl1
    clear hst hb ho hl1
    by_cases h0 : l.length = 0
    · have hl0 : l = [] := List.eq_nil_of_length_eq_zero h0
      subst hl0
      go_wp2_with fail
      go_ret
      exact ⟨rfl, HB.out⟩
    · have d1 : ((l.length : Int) == 0) = false := by simp; intro e; apply h0; rw [e]; rfl
      have d2 : ¬ (l.length : Int) = 0 := by omega
      have JC := Lib.hid (joined_any ((l.map shw).map sB) ⟨#[32, 44, 32]⟩ A1 c1 w1 HO.out (by decide) HJ.out (by rw [HL1.out]; omega))
      have HN : Hid (l.map shw ≠ []) := by show _ ≠ _; intro e; apply h0; rw [← List.length_map (f := shw), e]; rfl
      have HWW := Lib.hid (HW.out HN.out)
      have hjl := HJ.out
      rw [HL1.out] at JC
      obtain ⟨J, HJJ⟩ : ∃ J : ByteArray, Hid ((⟨(jn [32, 44, 32] ((l.map shw).map sB)).toArray⟩ : ByteArray) = J) := ⟨_, rfl⟩
      have hJs : J.size ≤ 200000 := by rw [← HJJ.out]; show (jn [32, 44, 32] ((l.map shw).map sB)).toArray.size ≤ 200000; rw [List.size_toArray]; exact hjl
      clear h0 hjl
      go_wp2_with fail
      refine JC.out.mono ?_
      rintro e w2 ⟨rfl, rfl⟩
      rw [show (⟨(jn (⟨#[32, 44, 32]⟩ : ByteArray).data.toList ((l.map shw).map sB)).toArray⟩ : ByteArray) = J from HJJ.out]
      rw [HJJ.out] at HWW
      clear JC HJ
      go_wp2_with fail
      go_ret
      exact ⟨by rw [← HWW.out]; rfl, HB.out⟩
  · have HR : Hid (rowT (l.map shw) true = l.map shw ++ [[(⟨#[46, 46, 46]⟩ : ByteArray)]]) := by show _ = _; unfold rowT; simp
    rw [HR.out] at HJ HW
    go_enter Tryd.func36, Tryd.ntmps36
    go_wp2_with fail
    refine SH.out.mono ?_
    rintro e w1 ⟨A1, c1, rfl, ho, hb⟩
    rw [HTX.out] at ho
    have HO := Lib.hid ho
    have HB := Lib.hid hb
    have hsz := hb.size
    clear hb ho
    go_wp2_with (at_builtin; refine wpList_append_own _ rfl _ _ 36 rfl w.heap.size 9 i0 (.string ⟨#[]⟩) 1 16 Tryd.underlying36 hi0 hz0 hz1 hz2 rfl (by decide) _ _ _ rfl (HO.out.alloc _) ⟨w1.heap.size, 0, none⟩ 1 1 [.string ⟨#[46, 46, 46]⟩] rfl rfl ?c1 ?c2 ?c3 ?c4 ?c5 ?_)
    case c1 => exact World.news_of_block (cs := #[.string ⟨#[46, 46, 46]⟩]) (t := 9) (fr := (0, 0)) (heap_new rfl)
    case c2 => simp [Value.oneCell']
    case c3 => unfold maxLen; omega
    case c4 => omega
    case c5 => simp; omega
    intro v' w3 hown3 hgrow3 _
    have hb3 : Below w.heap.size w w3 := (HB.out.alloc hsz (.cells #[.string ⟨#[46, 46, 46]⟩] 9)).grown hgrow3 (by simp; omega) (own_ge HO.out)
    obtain ⟨A3, c3', rfl, -⟩ := Row.of_own hown3
    have hown4 : w3.ownsRow w.heap.size 9 1 (.slice A3 (l.length + 1) c3') (l.length + 1) (((l.map shw ++ [[(⟨#[46, 46, 46]⟩ : ByteArray)]]).map sB).map .string) := by
      have e : ((l.map shw ++ [[(⟨#[46, 46, 46]⟩ : ByteArray)]]).map sB).map Value.string = l.map (Value.string ∘ sB ∘ shw) ++ [Value.string ⟨#[46, 46, 46]⟩] := by
        simp only [List.map_append, List.map_map, List.map_cons, List.map_nil]
        rfl
      rw [e]
      simpa using hown3
    obtain ⟨hl1, hst⟩ := own_strL hown4
    have HO3 := Lib.hid hst
    have HB3 := Lib.hid hb3
    have HL1 := Lib.hid hl1
    clear hown3 hown4 hb3 hgrow3 hst hl1
    have d1 : (((l.length + 1 : Nat) : Int) == 0) = false := by simp; omega
    have d2 : ¬ ((l.length + 1 : Nat) : Int) = 0 := by omega
    have JC := Lib.hid (joined_any ((l.map shw ++ [[(⟨#[46, 46, 46]⟩ : ByteArray)]]).map sB) ⟨#[32, 44, 32]⟩ A3 c3' w3 HO3.out (by decide) HJ.out (by rw [HL1.out]; omega))
    have HWW := Lib.hid (HW.out (by simp))
    have hjl := HJ.out
    rw [HL1.out] at JC
    obtain ⟨J, HJJ⟩ : ∃ J : ByteArray, Hid ((⟨(jn [32, 44, 32] ((l.map shw ++ [[(⟨#[46, 46, 46]⟩ : ByteArray)]]).map sB)).toArray⟩ : ByteArray) = J) := ⟨_, rfl⟩
    have hJs : J.size ≤ 200000 := by rw [← HJJ.out]; show (jn [32, 44, 32] ((l.map shw ++ [[(⟨#[46, 46, 46]⟩ : ByteArray)]]).map sB)).toArray.size ≤ 200000; rw [List.size_toArray]; exact hjl
    clear hjl
    go_wp2_with fail
    refine JC.out.mono ?_
    rintro e w2 ⟨rfl, rfl⟩
    rw [show (⟨(jn (⟨#[32, 44, 32]⟩ : ByteArray).data.toList ((l.map shw ++ [[(⟨#[46, 46, 46]⟩ : ByteArray)]]).map sB)).toArray⟩ : ByteArray) = J from HJJ.out]
    rw [HJJ.out] at HWW
    clear JC HJ
    go_wp2_with fail
    go_ret
    exact ⟨by rw [← HWW.out]; rfl, HB3.out⟩
theorem sB_at {least b : Int} {ws : List ByteArray} (h : b < least) (hne : ws ≠ []) : (⟨#[40, 32]⟩ : ByteArray) ++ sB ws ++ ⟨#[32, 41]⟩ = sB (atW least b ws) := by
  apply Go.WideShapes.bytes_inj
  unfold atW
  rw [if_pos h, sB_data, joinW_cons _ (by simp), joinW_app (by simp) hne]
  simp [joinW, sB_data]
def AtOut (m : Nd) (least : Int) (w : World) (e : Ending) (w' : World) : Prop := e = .returned (.string (sB (atW least (bindN m) (shw m)))) ∧ Below w.heap.size w w'
theorem at_any (m : Nd) (least : Int) (cs : List Value) (w : World) (hr : RepN w m cs) (hs : ShwOk m) (hne : shw m ≠ []) (hL : (joinW (shw m)).length ≤ 200000) :
    Calls Tryd.prog 38 #[.agg cs.toArray, .int .i64 least] w (AtOut m least w) := by
  obtain ⟨A, c, rfl, hR, hcap, hlm, hn64, hts⟩ := hr.four
  have HS := Lib.hid hs
  have HR := Lib.hid hr
  have hk := Blk.new_ w 24 #[.int .i64 m.k, .string m.t, .int .i64 m.num, .slice A m.kids.length c]
  have HK := Lib.hid hk
  have hb0 : Below w.heap.size w (w.alloc (.cells #[.int .i64 m.k, .string m.t, .int .i64 m.num, .slice A m.kids.length c] 24)) := by (repeat (first | with_reducible assumption | with_reducible exact Below.refl _ _ | (refine Below.setCell ?_ (by first | omega | (simp; done) | (simp; omega)) _) | (refine Below.drewN_ ?_ _) | (refine Below.drew ?_) | (refine Below.alloc ?_ (by first | omega | (simp; done) | (simp; omega)) _)))
  have HB0 := Lib.hid hb0
  have HREP := Lib.hid (RepN.keep hb0 _ _ hr)
  have hX : (sB (shw m)).size ≤ 200000 := by rw [show (sB (shw m)).size = (joinW (shw m)).length by rw [← sB_data]; simp]; exact hL
  have HAT := Lib.hid (fun h => sB_at (least := least) (b := bindN m) h hne)
  have HAN : Hid (least ≤ bindN m → sB (atW least (bindN m) (shw m)) = sB (shw m)) := by show _ → _; intro h; unfold atW; rw [if_neg (by omega)]
  clear hr hs hR hk hb0 hne hL
  unfold AtOut
  obtain ⟨T, HT⟩ : ∃ T, Hid (sB (atW least (bindN m) (shw m)) = T) := ⟨_, rfl⟩
  rw [HT.out] at HAT HAN
  rw [HT.out]
  clear HT
  go_enter Tryd.func38, Tryd.ntmps38
  go_wp2_with fail
  refine (HS.out _ _ HREP.out).mono ?_
  rintro e w1 ⟨rfl, hb1⟩
  have B1 := Lib.hid (below_trans HB0.out (Nat.le_refl _) hb1)
  have K1 := Lib.hid (HK.out.below hb1)
  clear hb1
  have q0 := K1.out.cell 0 (.int .i64 m.k) rfl
  have q1 := K1.out.cell 1 (.string m.t) rfl
  have q2 := K1.out.cell 2 (.int .i64 m.num) rfl
  have q3 := K1.out.cell 3 (.slice A m.kids.length c) rfl
  generalize sB (shw m) = X at *
  go_wp2_with fail
  refine (bindR_any m A c w1).mono ?_
  rintro e w2 ⟨rfl, hb2⟩
  have B2 := Lib.hid (below_trans B1.out (Nat.le_refl _) hb2)
  clear hb2 q0 q1 q2 q3
  by_cases hlt : bindN m < least
  · have d1 : decide (bindN m < least) = true := by rw [decide_eq_true_eq]; exact hlt
    have HW := Lib.hid (HAT.out hlt)
    generalize bindN m = bb at *
    go_wp2_with fail
    go_ret
    exact ⟨by rw [← HW.out]; rfl, B2.out⟩
  · have d1 : decide (bindN m < least) = false := by rw [decide_eq_false_iff_not]; exact hlt
    have HW := Lib.hid (HAN.out (by omega))
    generalize bindN m = bb at *
    go_wp2_with fail
    go_ret
    exact ⟨by rw [HW.out]; rfl, B2.out⟩
end Go.Proofs.YtgegfbopogcjpaaDoor
