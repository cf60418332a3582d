/- The contract of moves.Row. -/
import Derived.Test.YtffhfcddlhdicaaMovG0
namespace Go.Proofs.Ytffhfcddlhdicaa
open Go.RowKit
set_option linter.unusedVariables false
set_option linter.unusedSimpArgs false
set_option maxRecDepth 100000
set_option maxHeartbeats 4000000
attribute [local go_sem ↓] eq_loc ne_loc Go.wp_at_zero Go.wp_at_succ
theorem row2_any (A : Option Addr) (c : Nat) (l : List (Pl × Pl)) (tmp : Int) (w : World) (hr : Row w A (pcs l)) (hmx : l.length ≤ 9223372036854775807) :
    Calls Try.prog 17 #[.slice A l.length c, .int .i64 tmp] w (RowPost l tmp w) := by
  obtain ⟨i0, hi, hz0, hz1, hz2⟩ := info_parts info_move
  by_cases hch : chk l tmp = 0
  · have hlen : l.length ≤ 100 := by
      rcases Nat.lt_or_ge 100 l.length with h | h
      · rw [chk_1 l tmp h] at hch; cases hch
      · exact h
    have HC := Lib.hid hch
    go_enter Try.func17, Try.ntmps17
    go_wp2_with fail
    go_step3
    go_wp2_with (go_at_call 39; refine (may_any A c l tmp _ hr hmx).mono ?_; rintro e w1 ⟨rfl, hb1⟩)
    clear hch
    obtain ⟨B, hB⟩ : ∃ B, B = w1.heap.size := ⟨_, rfl⟩
    rw [← hB]
    have HB := Lib.hid hB
    clear hB
    go_loopg [24] l.length (fun g i wr => g + (intOf i).toNat = l.length ∧ R1 l w B i wr)
    case atStart => exact ⟨rfl, 0, .slice none 0 0, Nat.zero_le _, rfl, by rw [HB.out]; exact Blk.new_ _ _ _, World.ownsRow_nil _ _ _ _, hb1.alloc hb1.size _⟩
    case round =>
      obtain ⟨hgk, k, v, hk, rfl, hblk, hown, hb⟩ := hrel
      simp only [intOf, Int.toNat_natCast] at hgk
      have HGK := Lib.hid hgk
      clear hgk
      by_cases hlt : k < l.length
      · obtain ⟨b, o, rfl, hbl, c0, c1, c2, c3⟩ := hr.pair (k := k) (by omega)
        rw [← keep_cell hb hbl] at c0 c1 c2 c3
        have hsz := hb.size
        have hbl2 : b < wr.heap.size := by omega
        have hkk : (k : Int) < (l.length : Int) := by omega
        have hBl := hblk.lt
        have hcv := hblk.cell 0 v rfl
        have hle := leftK0_le l k
        have HY : Hid (¬ l[k].1 = l[k].2 → leftK0 (l.take (k + 1)) = leftK0 (l.take k) ++ [l[k]]) := leftK0_yes l k hlt
        have HN : Hid (l[k].1 = l[k].2 → leftK0 (l.take (k + 1)) = leftK0 (l.take k)) := leftK0_no l k hlt
        generalize l[k] = h at *
        generalize leftK0 (l.take k) = L at *
        by_cases he : h.1 = h.2
        · have hq := leq_yes he
          have HN2 := Lib.hid (HN.out he)
          clear HN HY he
          go_wp2
          go_roundg (gk - 1)
          case rel => exact ⟨by have := HGK.out; simp [intOf]; omega, k + 1, v, by omega, by go_num, hblk.alloc _, by rw [HN2.out]; exact hown.alloc _, by (repeat (first | with_reducible assumption | with_reducible exact Below.refl _ _ | (refine Below.setCell ?_ (by first | omega | (simp; done) | (simp; omega)) _) | (refine Below.drewN_ ?_ _) | (refine Below.drew ?_) | (refine Below.alloc ?_ (by first | omega | (simp; done) | (simp; omega)) _)))⟩
          case measure => have := HGK.out; omega
        · have hq := leq_no he
          have HY2 := Lib.hid (HY.out he)
          clear HN HY he
          go_wp2_with (at_builtin; go_must ((refine wpList_append_lies _ rfl _ _ _ rfl w.heap.size 43 i0 _ 4 32 Try.underlying32 hi hz0 hz1 hz2 rfl (by omega) v L.length (pcs L) (by rfl) ((hown.alloc _).alloc _) ⟨wr.heap.size + 1, 0, none⟩ 1 1 (pc h) (by rfl) (by rfl) (World.news_of_block (cs := (pc h).toArray) (t := 43) (fr := (0, 0)) (heap_new (by simp))) (by simp [pc, Value.oneCell']) (by omega) (by unfold maxLen; omega) (by omega) (by simp; omega) (wr.heap.size + 1 + 1) (by simp) ?_; intro g cap w2 hown2 hgrow hat hlt2; have hblk2 := ((hblk.alloc _).alloc _).grown hgrow (own_blk hown hblk (by decide)); have d0 := hblk2.cell 0 v rfl; have f0 := hblk2.free 0; have hb2 := (below_app (hb.alloc hsz _) (Nat.le_refl _) (hown.alloc _) hgrow))))
          go_roundg (gk - 1)
          case rel => exact ⟨by have := HGK.out; simp [intOf]; omega, k + 1, _, by omega, by go_num, hblk2.set_ 0 _, by rw [HY2.out]; simpa [pcs] using own_set (p := ⟨B, 0, none⟩) hown2 (own_blk hown2 hblk2 (by decide)) _, hb2.setCell (by simp; have := HB.out; have := hb1.size; omega) _⟩
          case measure => have := HGK.out; omega
      · obtain rfl : k = l.length := by omega
        have HS := Lib.hid (inv_start HC.out)
        have hmz : Hid (meas ⟨false, tmp⟩ (leftK0 l) ≤ 500) := by
          have h1 := leftK0_le l l.length
          rw [List.take_length] at h1
          unfold Hid meas
          split <;> omega
        have hLA := left_of_own hown
        rw [List.take_length] at hLA
        clear hown HGK
        go_wp2
        go_step3
        go_wp2
        go_loopg [8] (meas ⟨false, tmp⟩ (leftK0 l)) (fun gk out wr => R2 l ⟨false, tmp⟩ w B gk out wr)
        case atStart => exact ⟨leftK0 l, [], v, HS.out, Nat.le_refl _, by have := hmz.out; simp; omega, hblk, hLA, World.ownsRow_nil _ _ _ _, fun b _ => by simp [Value.ownBlock], hb⟩
        case round =>
          obtain ⟨left, ol, vl, hinv, hme, hol, hblk, hla, hown, hap, hb⟩ := hrel
          obtain ⟨A', c', rfl, hc1, hc2, hla⟩ := hla
          have hd := hblk.cell 0 _ rfl
          have hsz := hb.size
          have HI := Lib.hid hinv
          clear hinv
          by_cases hn : left = []
          · subst hn
            go_wp2
            go_ret2
            have HF := inv_end HI.out (by have := leftK0_le l l.length; rwa [List.take_length] at this)
            exact ⟨hb, fun h => absurd HC.out h, fun _ => ⟨_, ol, rfl, hown, HF.1, HF.2⟩⟩
          · have hpos : 0 < left.length := by
              rcases Nat.eq_zero_or_pos left.length with h0 | h0
              · exact absurd (List.eq_nil_of_length_eq_zero h0) hn
              · exact h0
            rcases hla with h0 | ⟨g, cur, rfl, hg1, hgb, htk⟩
            · exact absurd h0 hn
            have hlm : left.length ≤ 500 := by unfold meas at hme; omega
            clear hn
            have hrow := Row.of_blk hgb htk
            have hBl := hblk.lt
            have hgl := hgb.lt
            have HHT := Lib.hid htk
            clear htk
            go_wp2
            obtain ⟨wo, rfl⟩ : ∃ wo : World, wo = wr := ⟨_, rfl⟩
            obtain ⟨uo, rfl⟩ : ∃ uo : Value, uo = u8 := ⟨_, rfl⟩
            go_loopg [8, 44] left.length (fun gk2 ov i wr2 => ov = uo ∧ ∃ j : Nat, j + gk2 = left.length ∧ i = .int .i64 j ∧ AllIn left j ∧ Below wo.heap.size wo wr2)
            case atStart => exact ⟨rfl, 0, by omega, rfl, fun x hx => by simp at hx, Below.refl _ _⟩
            case round =>
              obtain ⟨rfl, j, hj, rfl, hin, hbi⟩ := hrel
              have HJ := Lib.hid hj
              clear hj
              have hsi := hbi.size
              by_cases hlt2 : j < left.length
              · obtain ⟨b, o, hA, hbl, c0, c1, c2, c3⟩ := (hrow.keep hbi).pair (k := j) hlt2
                obtain ⟨rfl, rfl⟩ : b = g ∧ o = 0 := by simpa using hA.symm
                clear hA
                have hjj : (j : Int) < (left.length : Int) := by omega
                simp only [Nat.zero_add] at c0 c1 c2 c3
                have HX1 : Hid (askedB left left[j].2 = true → AllIn left (j + 1)) := fun h => allIn_succ left j hlt2 hin ((asked_iff _ _).1 h)
                have HX2 : Hid (askedB left left[j].2 = false → Inv l ⟨false, tmp⟩ (leftK0 l).length (left.eraseIdx j) (ol ++ [left[j]])) := fun h => inv_take HI.out j hlt2 (fun hm => by rw [(asked_iff _ _).2 hm] at h; cases h)
                clear hin
                generalize left[j] = h at *
                have hW : Below wo.heap.size wo (wr.alloc (.cells #[.bool h.1.s, .int .i64 h.1.n, .bool h.2.s, .int .i64 h.2.n] 43)) := hbi.alloc hsi _
                have HCO := Lib.hid (asked_any _ c' B left h.2 _ (hrow.keep hW) (by omega) (Nat.lt_of_lt_of_le hBl hW.size) ((hW.cell (p := ⟨B, 0, none⟩) hBl).trans hd))
                generalize askedB left h.2 = ask at *
                cases ask
                · have HX3 := Lib.hid (HX2.out rfl)
                  clear HX1 HX2
                  go_wp2_with fail
                  refine HCO.out.mono ?_
                  rintro e w5 ⟨rfl, hb5⟩
                  have hW5 := below_trans hW (Nat.le_refl _) hb5
                  have hs5 := hb5.size
                  simp only [World.size_alloc] at hs5
                  have m0 : w5.cell? ⟨wr.heap.size, 0, none⟩ = some (.bool h.1.s) := (hb5.cell (p := ⟨wr.heap.size, 0, none⟩) (by simp)).trans (by go_simp)
                  have m1 : w5.cell? ⟨wr.heap.size, 1, none⟩ = some (.int .i64 h.1.n) := (hb5.cell (p := ⟨wr.heap.size, 1, none⟩) (by simp)).trans (by go_simp)
                  have m2 : w5.cell? ⟨wr.heap.size, 2, none⟩ = some (.bool h.2.s) := (hb5.cell (p := ⟨wr.heap.size, 2, none⟩) (by simp)).trans (by go_simp)
                  have m3 : w5.cell? ⟨wr.heap.size, 3, none⟩ = some (.int .i64 h.2.n) := (hb5.cell (p := ⟨wr.heap.size, 3, none⟩) (by simp)).trans (by go_simp)
                  have hown5 := own_below hown hW5
                  have hblk5 := hblk.below hW5
                  have hgb5 := hgb.below hW5
                  have hbB5 := below_trans hb (Nat.le_refl _) hW5
                  clear HCO hb5 hW c0 c1 c2 c3
                  have hneb := (hap b rfl).symm
                  have hsB := hbB5.size
                  go_wp2_with (at_builtin; go_must ((refine wpList_append_lies _ rfl _ _ _ rfl w.heap.size 43 i0 _ 4 32 Try.underlying32 hi hz0 hz1 hz2 rfl (by omega) _ ol.length (pcs ol) (by rfl) (hown5.alloc _) ⟨w5.heap.size, 0, none⟩ 1 1 (pc h) (by rfl) (by rfl) (World.news_of_block (cs := (pc h).toArray) (t := 43) (fr := (0, 0)) (heap_new (by simp))) (by simp [pc, Value.oneCell']) (by omega) (by unfold maxLen; omega) (by omega) (by simp; omega) (w5.heap.size + 1) (by simp) ?_; intro g2 cap2 w6 hown6 hgrow6 hat6 hlt6; have hblk6 := (hblk5.alloc _).grown hgrow6 (own_blk hown5 hblk5 (by decide)); have hgb6 := (hgb5.alloc _).grown hgrow6 hneb; have hb6 := below_app hbB5 (Nat.le_refl _) hown5 hgrow6; have d6 := hblk6.cell 0 _ rfl; have f6 := hblk6.free 0)))
                  have hjc : j ≤ c' := by omega
                  have hmx' : c' ≤ 9223372036854775807 := by unfold maxLen at hc2; exact hc2
                  have hs1 := fun w => sl1 b left.length c' j w hjc hmx'
                  have hs2 := fun w => sl2 b left.length c' j w hlt2 hc1 hmx'
                  have hwr : IntKind.i64.wrap ((j : Int) + 1) = (j : Int) + 1 := IntWalk.i64_in _ (by omega)
                  go_still_tail 8, (by kernel_rfl)
                  clear hwr hs1 hs2
                  change wpList _ _ _ _ _ w6.drew
                  refine wpList_append_run _ rfl _ _ 32 rfl _ _ (by rfl) (by rfl) _ (fun ty => run_cut w6.drew w.heap.size b (c' - (j + 1)) c' cur left j hlt2 hlm hc1 hg1 hb6.size hgb6 HHT.out ty) ?_
                  rintro v7 w7 ⟨hla7, hg7, hat7⟩
                  have hblk7 := Blk.grown (w := w6.drew) hblk6 hg7 (by simp)
                  have d7 := hblk7.cell 0 _ rfl
                  have f7 := hblk7.free 0
                  have hb7 : Below w.heap.size w w7 := hb6.drew.grown hg7 hb6.size (by simp)
                  have hown7 := World.ownsRow.kept (w := w6.drew) hown6 hg7 (.inr (by simp [Value.ownBlock]))
                  have HLA := Lib.hid hla7
                  have HAT := Lib.hid hat7
                  have HA6 := Lib.hid hat6
                  have hs6 := hgrow6.size
                  simp only [World.size_alloc] at hs6
                  clear hla7 hat7 hg7 hat6 hgrow6 d6 f6 hown5 hblk5 hgb5 m0 m1 m2 m3
                  obtain ⟨A7, c7, rfl, -⟩ := id HLA.out
                  generalize (if c' = j + 1 then 0 else (j + 1) * 4) = oo
                  go_wp2
                  go_roundg (meas ⟨false, tmp⟩ (left.eraseIdx j))
                  case measure => exact Nat.lt_of_lt_of_le (meas_take _ _ _ hlt2) hme
                  case rel =>
                    have hmt := meas_take ⟨false, tmp⟩ left j hlt2
                    have hol2 : (ol ++ [h]).length = ol.length + 1 := by simp
                    refine ⟨left.eraseIdx j, ol ++ [h], _, HX3.out, Nat.le_refl _, by omega, hblk7.set_ 0 _, HLA.out.set_ hblk7 0 _, ?_, ?_, hb7.setCell (by simp; have := HB.out; have := hb1.size; omega) _⟩
                    · rw [hol2]
                      simpa [pcs] using own_set (p := ⟨B, 0, none⟩) hown7 (own_blk hown7 hblk7 (by decide)) _
                    · intro b' hb' he
                      simp only [Value.ownBlock, Option.some.injEq] at he
                      subst he
                      rcases HAT.out with h1 | h1
                      · rw [hb'] at h1
                        injection h1 with h1
                        subst h1
                        rcases HA6.out with h2 | h2
                        · exact hneb h2.symm
                        · have := hW5.size; omega
                      · rw [hb'] at h1
                        injection h1 with h1
                        have : w6.drew.heap.size = w6.heap.size := rfl
                        omega
                · have HX3 := Lib.hid (HX1.out rfl)
                  clear HX1 HX2
                  go_wp2_with fail
                  refine HCO.out.mono ?_
                  rintro e w5 ⟨rfl, hb5⟩
                  have hW5 := below_trans hW (Nat.le_refl _) hb5
                  clear HCO
                  go_wp2
                  go_roundg (gk - 1)
                  case rel => exact ⟨rfl, j + 1, by have := HJ.out; omega, by go_num, HX3.out, hW5⟩
                  case measure => have := HJ.out; omega
              · have hj := HJ.out
                obtain rfl : j = left.length := by omega
                clear hj
                have HAll : Hid (∀ m ∈ left, m.2 ∈ froms left) := fun x hx => hin x (by rw [List.take_length]; exact hx)
                clear hin HJ hlt2
                obtain ⟨b', o', hA, hbl, -, -, c2, c3⟩ := (hrow.keep hbi).pair (k := 0) hpos
                obtain ⟨rfl, rfl⟩ : b' = g ∧ o' = 0 := by simpa using hA.symm
                clear hA
                simp only [Nat.zero_add, Nat.zero_mul] at c2 c3
                have HBR := Lib.hid (inv_break HI.out hpos HAll.out)
                have hown5 := own_below hown hbi
                have hblk5 := hblk.below hbi
                have hgb5 := hgb.below hbi
                have hbB5 := below_trans hb (Nat.le_refl _) hbi
                have hneb := (hap b' rfl).symm
                have hsB := hbB5.size
                have hd5 := hblk5.cell 0 _ rfl
                have hBl5 := hblk5.lt
                have hll : (0 : Int) < (left.length : Int) := by omega
                generalize left[0].2 = held at *
                go_wp2_with (at_builtin; go_must ((refine wpList_append_lies _ rfl _ _ _ rfl w.heap.size 43 i0 _ 4 32 Try.underlying32 hi hz0 hz1 hz2 rfl (by omega) _ ol.length (pcs ol) (by rfl) ((hown5.alloc _).alloc _) ⟨wr.heap.size + 1, 0, none⟩ 1 1 (pc (held, ⟨false, tmp⟩)) (by rfl) (by rfl) (World.news_of_block (cs := (pc (held, ⟨false, tmp⟩)).toArray) (t := 43) (fr := (0, 0)) (heap_new (by simp))) (by simp [pc, Value.oneCell']) (by omega) (by unfold maxLen; omega) (by omega) (by simp; omega) (wr.heap.size + 1 + 1) (by simp) ?_; intro g2 cap2 w6 hown6 hgrow6 hat6 hlt6; have hblk6 := ((hblk5.alloc _).alloc _).grown hgrow6 (own_blk hown5 hblk5 (by decide)); have hgb6 := ((hgb5.alloc _).alloc _).grown hgrow6 hneb; have hH6 := ((Blk.new_ wr 41 #[.bool held.s, .int .i64 held.n]).alloc _).grown hgrow6 (own_ne_new hown5 (Nat.le_refl _)); have hb6 := below_app (hbB5.alloc hsB _) (Nat.le_refl _) (hown5.alloc _) hgrow6; have d6 := hblk6.cell 0 _ rfl)))
                obtain ⟨H, hH⟩ : ∃ H, H = wr.heap.size := ⟨_, rfl⟩
                rw [← hH] at hH6 ⊢
                have HHH := Lib.hid hH
                clear hH
                have HA6 := Lib.hid hat6
                have HHT2 : Hid (cur.toList.take (left.length * 4) = pcs (mixed held ⟨false, tmp⟩ left 0)) := by unfold Hid; rw [mixed_zero]; exact HHT.out
                go_loopg [81] left.length (fun gk3 i wr3 => gk3 + (intOf i).toNat = left.length ∧ R4 left held ⟨false, tmp⟩ w w.heap.size B H b' c' (.slice (some ⟨g2, 0, none⟩) (ol.length + 1) cap2) (ol ++ [(held, ⟨false, tmp⟩)]) i wr3)
                case atStart => exact ⟨rfl, 0, cur, Nat.zero_le _, rfl, hgb6, HHT2.out, hblk6, hH6, by simpa [pcs] using hown6, hb6⟩
                case round =>
                  clear hblk6 hgb6 hH6 hb6 d6 hown6 hgrow6 hat6 hown5 hblk5 hgb5 hbB5 hd5
                  obtain ⟨hgk3, k, cur4, hk4, rfl, hgb7, ht7, hblk7, hH7, hown7, hb7⟩ := hrel
                  simp only [intOf, Int.toNat_natCast] at hgk3
                  have HGK := Lib.hid hgk3
                  clear hgk3
                  have d7 := hblk7.cell 0 _ rfl
                  have h70 := hH7.cell 0 _ rfl
                  have h71 := hH7.cell 1 _ rfl
                  have hbl7 := hgb7.lt
                  by_cases hlt5 : k < left.length
                  · have hml := mixed_len held ⟨false, tmp⟩ left k hk4
                    obtain ⟨b2, o2, hA, hbl9, e0, e1, -, -⟩ := (Row.of_blk hgb7 ht7).pair (k := k) (by omega)
                    obtain ⟨rfl, rfl⟩ : b2 = b' ∧ o2 = 0 := by simpa using hA.symm
                    clear hA
                    rw [mixed_at held ⟨false, tmp⟩ left k hlt5] at e0 e1
                    simp only [Nat.zero_add] at e0 e1
                    have hk5 : (k : Int) < (left.length : Int) := by omega
                    have HY : Hid (left[k].1 = held → pcs (mixed held ⟨false, tmp⟩ left (k + 1)) = ((pcs (mixed held ⟨false, tmp⟩ left k)).set (k * 4) (.bool false)).set (k * 4 + 1) (.int .i64 tmp)) := mixed_yes held ⟨false, tmp⟩ left k hlt5
                    have HN : Hid (left[k].1 ≠ held → mixed held ⟨false, tmp⟩ left (k + 1) = mixed held ⟨false, tmp⟩ left k) := mixed_no held ⟨false, tmp⟩ left k hlt5
                    have HT7 := Lib.hid ht7
                    clear ht7 hml
                    generalize left[k] = h at *
                    have f70 := hgb7.free (k * 4)
                    have f71 := hgb7.free (k * 4 + 1)
                    by_cases he : h.1 = held
                    · have hq := leq_yes he
                      have HY2 := Lib.hid (HY.out he)
                      clear HY HN he
                      go_wp2_with fail
                      go_quiet (fail)
                      go_wp2
                      go_roundg (gk - 1)
                      case measure => have := HGK.out; omega
                      case rel =>
                        have hbs := blk_set2 (i := k * 4) (u := .bool false) (v := .int .i64 tmp) (hgb7.drewN nq) HT7.out
                        have hnB : B ≠ b2 := hblk7.ne_ hgb7 (by decide)
                        have hnH : H ≠ b2 := hH7.ne_ hgb7 (by decide)
                        have hnO : some b2 ≠ (Value.slice (some ⟨g2, 0, none⟩) (ol.length + 1) cap2).ownBlock := by
                          simp only [Value.ownBlock, ne_eq, Option.some.injEq]
                          intro e
                          subst e
                          rcases HA6.out with h2 | h2
                          · exact hneb h2.symm
                          · have := HHH.out; omega
                        have hB2 : w.heap.size ≤ b2 := hg1
                        refine ⟨by have := HGK.out; simp [intOf]; omega, k + 1, _, by omega, by go_num, hbs.1, by rw [hbs.2]; exact HY2.out.symm, ((hblk7.drewN nq).far (by simpa using hnB) _).far (by simpa using hnB) _, ((hH7.drewN nq).far (by simpa using hnH) _).far (by simpa using hnH) _, own_set (p := ⟨b2, k * 4 + 1, none⟩) (own_set (p := ⟨b2, k * 4, none⟩) (w := wr.drewN nq) hown7 hnO _) hnO _, ?_⟩
                        exact ((Below.drewN_ hb7 nq).setCell (by simpa using hB2) _).setCell (by simpa using hB2) _
                    · have hq := leq_no he
                      have HN2 := Lib.hid (HN.out he)
                      clear HY HN he
                      go_wp2_with fail
                      go_quiet (fail)
                      go_wp2
                      go_roundg (gk - 1)
                      case measure => have := HGK.out; omega
                      case rel => exact ⟨by have := HGK.out; simp [intOf]; omega, k + 1, cur4, by omega, by go_num, hgb7, by rw [HN2.out]; exact HT7.out, hblk7, hH7, hown7, Below.drewN_ hb7 nq⟩
                  · obtain rfl : k = left.length := by omega
                    rw [mixed_all] at ht7
                    have HT7 := Lib.hid ht7
                    clear ht7
                    go_wp2
                    go_roundg (meas ⟨false, tmp⟩ (substL held ⟨false, tmp⟩ left))
                    case measure =>
                      obtain ⟨_, b1, b2⟩ := HBR.out
                      exact Nat.lt_of_lt_of_le (meas_break _ _ _ b1 b2) hme
                    case rel =>
                      obtain ⟨b0, b1, b2⟩ := HBR.out
                      have hmt := meas_break _ _ _ b1 b2
                      have hol2 : (ol ++ [(held, (⟨false, tmp⟩ : Pl))]).length = ol.length + 1 := by simp
                      refine ⟨_, _, .slice (some ⟨b', 0, none⟩) left.length c', b0, Nat.le_refl _, by omega, hblk7, ⟨_, c', by rw [substL_len], by rw [substL_len]; exact hc1, hc2, .inr ⟨b', cur4, rfl, hg1, hgb7, by rw [substL_len]; exact HT7.out⟩⟩, hown7, ?_, hb7⟩
                      intro b'' hb'' he
                      simp only [Value.ownBlock, Option.some.injEq] at hb'' he
                      subst he
                      subst hb''
                      rcases HA6.out with h2 | h2
                      · exact hneb h2.symm
                      · have := HHH.out; omega
  · have HC := Lib.hid hch
    go_enter Try.func17, Try.ntmps17
    go_wp2_with fail
    go_step3
    have hcb : (chk l tmp != 0) = true := by simpa using hch
    go_wp2_with (go_at_call 39; refine (may_any A c l tmp _ hr hmx).mono ?_; rintro e w1 ⟨rfl, hb1⟩)
    rw [Exit.noGoto_ret]
    go_ret2
    exact ⟨hb1, fun _ => rfl, fun h => absurd h HC.out⟩
end Go.Proofs.Ytffhfcddlhdicaa
