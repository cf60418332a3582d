/- The contract of moves.may: it tells the same fault as the reference's Check. -/
import Derived.Test.YtffhfcddlhdicaaMovE
import Derived.Deep.DeepMust
namespace Go.Proofs.Ytffhfcddlhdicaa
open Go.RowKit
open Go.Maps (Keyed)
set_option linter.unusedVariables false
set_option linter.unusedSimpArgs false
set_option maxRecDepth 100000
attribute [local go_sem ↓] eq_loc ne_loc Go.wp_at_zero Go.wp_at_succ
theorem look_any (l : List (Pl × Pl)) (W : World) (B : Nat) (p : Pl) (h : MapIs Try.prog 41 W B (seenF l)) {kl : Lit} (hkey : keyOf Try.prog 41 (.agg #[.bool p.s, .int .i64 p.n]) = some kl) :
    (Instr.lookup 79 (.map (some B)) (.agg #[.bool p.s, .int .i64 p.n]) false).run Try.prog W = .ok (.bool (isIn l p)) W := by
  rw [← seen_get]
  exact MapIs.lookup h loc_keyed Try.underlying79 (by kernel_rfl) hkey
theorem far_cell {w w' : World} {b c i : Nat} {v : Value} (hg : w.grownBy w' (some b)) (hne : c ≠ b) (hc : w.cell? ⟨c, i, none⟩ = some v) : w'.cell? ⟨c, i, none⟩ = some v :=
  hg.cell hc (by simp; exact hne)
theorem upd_below {B : Nat} {w W0 w2 : World} (hB : B ≤ w.heap.size) (hb0 : Below B w W0) (hg : W0.grownBy w2 (some B)) : Below B w w2 :=
  ⟨hg.os.trans hb0.os, hg.tape.trans hb0.tape, hg.output.trans hb0.output, Nat.le_trans hb0.size hg.size, fun k hk => by
    by_cases hlt : k < W0.heap.size
    · exact (hg.block k hlt (by simp; omega)).trans (hb0.block k hk)
    · exact absurd (Nat.lt_of_lt_of_le hk (Nat.le_trans hB hb0.size)) hlt⟩
theorem upd_size {B : Nat} {wr w2 : World} {o1 o2 o3 : Obj} (hg : (((wr.alloc o1).alloc o2).alloc o3).grownBy w2 (some B)) : wr.heap.size + 3 ≤ w2.heap.size := by
  have := hg.size
  simpa using this
def MayRel (l : List (Pl × Pl)) (t : Pl) (B : Nat) (w : World) (tw us i : Value) (wr : World) : Prop :=
  ∃ k : Nat, k ≤ l.length ∧ i = .int .i64 k ∧ tw = .bool (twB l k) ∧ us = .bool (usB l t k) ∧ good1 l k ∧ MapIs Try.prog 41 wr B (seenF (l.take k)) ∧ Below w.heap.size w wr
theorem zero_bool (w : World) : (zeroValue 4).run Try.prog w = .ok (.bool false) w := by kernel_rfl
theorem pl_range (p : Pl) (h : p.ok = true) : 0 ≤ p.n ∧ p.n ≤ 999 := by
  unfold Pl.ok at h
  simp at h
  obtain ⟨h1, h2⟩ := h
  cases hs : p.s <;> simp [hs] at h2 <;> omega
theorem may_any (A : Option Addr) (c : Nat) (l : List (Pl × Pl)) (tmp : Int) (w : World) (hr : Row w A (pcs l)) (hmx : l.length ≤ 9223372036854775807) :
    Calls Try.prog 39 #[.slice A l.length c, .int .i64 tmp] w fun e w' => e = .returned (.int .i64 (chk l tmp)) ∧ Below w.heap.size w w' := by
  have hmm := @run_makeMap Try.prog
  by_cases hbig : 100 < l.length
  · go_enter Try.func39, Try.ntmps39
    go_wp2
    go_ret
    exact ⟨ret_i' (chk_1 l tmp hbig).symm, Below.refl _ _⟩
  go_enter Try.func39, Try.ntmps39
  go_wp2
  go_loopw [6, 7, 17] (fun tw us i wr => MayRel l ⟨false, tmp⟩ w.heap.size w tw us i wr) (fun _ _ i _ => l.length - (intOf i).toNat)
  case atStart => exact ⟨0, Nat.zero_le _, rfl, rfl, rfl, fun j _ h => absurd h (by omega), MapIs.made _ _ _, (Below.refl _ _).alloc (Nat.le_refl _) _⟩
  case round =>
    obtain ⟨k, hk, rfl, rfl, rfl, hg, hmap, hb⟩ := hrel
    have hsz := hb.size
    by_cases hlt : k < l.length
    · obtain ⟨b, o, rfl, hbl, c0, c1, c2, c3⟩ := hr.pair (k := k) (by omega)
      rw [← keep_cell hb hbl] at c0 c1 c2 c3
      have hbl2 : b < wr.heap.size := by omega
      have HG := Lib.hid (good1_succ l k hlt hg)
      have HB : Hid ((l[k].1.ok && l[k].2.ok) = false → chk l tmp = 6) := fun h => chk_bad l tmp hbig ⟨k, hlt, h⟩
      have HT1 := Lib.hid (twB_succ l k hlt)
      have HU1 := Lib.hid (usB_succ l ⟨false, tmp⟩ k hlt)
      have HS : Hid (seenF (l.take (k + 1)) = gput (seenF (l.take k)) (lv l[k].2) (.bool true)) := by
        unfold Hid; rw [List.take_succ_eq_append_getElem hlt, seenF_snoc]
      clear hg
      generalize l[k] = h at *
      generalize twB l k = tw at *
      generalize usB l ⟨false, tmp⟩ k = us at *
      have HM := Lib.hid hmap
      clear hmap
      rcases ho1 : h.1.ok with _ | _
      · have HB3 := Lib.hid (HB.out (by rw [ho1]; rfl))
        clear HB HG HM
        go_wp2_with (go_at_call 46; refine (is_any h.1 _).mono ?_; rintro e w1 ⟨rfl, rfl⟩)
        go_ret
        exact ⟨ret_i' HB3.out.symm, by (repeat (first | with_reducible assumption | with_reducible exact Below.refl _ _ | (refine Below.setCell ?_ (by first | omega | (simp; done) | (simp; omega)) _) | (refine Below.drewN_ ?_ _) | (refine Below.drew ?_) | (refine Below.alloc ?_ (by first | omega | (simp; done) | (simp; omega)) _)))⟩
      · rcases ho2 : h.2.ok with _ | _
        · have HB3 := Lib.hid (HB.out (by rw [ho1, ho2]; rfl))
          clear HB HG HM
          go_wp2_with fail
          refine (is_any h.1 _).mono ?_
          rintro e w1 ⟨rfl, rfl⟩
          go_wp2_with fail
          refine (is_any h.2 _).mono ?_
          rintro e w1 ⟨rfl, rfl⟩
          go_wp2
          go_ret
          exact ⟨ret_i' HB3.out.symm, by (repeat (first | with_reducible assumption | with_reducible exact Below.refl _ _ | (refine Below.setCell ?_ (by first | omega | (simp; done) | (simp; omega)) _) | (refine Below.drewN_ ?_ _) | (refine Below.drew ?_) | (refine Below.alloc ?_ (by first | omega | (simp; done) | (simp; omega)) _)))⟩
        · have HG3 := Lib.hid (HG.out (by rw [ho1, ho2]; rfl))
          clear HB HG
          obtain ⟨r1, r2⟩ := pl_range _ ho2
          obtain ⟨kl, hkey⟩ := keyOf_loc h.2.s h.2.n r1 r2
          have HK := Lib.hid hkey
          clear hkey
          go_wp2_with fail
          refine (is_any h.1 _).mono ?_
          rintro e w1 ⟨rfl, rfl⟩
          go_wp2_with fail
          refine (is_any h.2 _).mono ?_
          rintro e w1 ⟨rfl, rfl⟩
          have hlt0 : w.heap.size < wr.heap.size := HM.out.lt
          have HM2 := Lib.hid (((HM.out.alloc (.cells #[.bool h.1.s, .int .i64 h.1.n, .bool h.2.s, .int .i64 h.2.n] 43)).alloc (.cells #[.bool h.1.s, .int .i64 h.1.n] 41)).alloc (.cells #[.bool h.2.s, .int .i64 h.2.n] 41))
          have hlk := look_any _ _ _ h.2 HM2.out HK.out
          have e0 : (((wr.alloc (.cells #[.bool h.1.s, .int .i64 h.1.n, .bool h.2.s, .int .i64 h.2.n] 43)).alloc (.cells #[.bool h.1.s, .int .i64 h.1.n] 41)).alloc (.cells #[.bool h.2.s, .int .i64 h.2.n] 41)).cell? ⟨wr.heap.size, 0, none⟩ = some (.bool h.1.s) := by go_simp
          have e1 : (((wr.alloc (.cells #[.bool h.1.s, .int .i64 h.1.n, .bool h.2.s, .int .i64 h.2.n] 43)).alloc (.cells #[.bool h.1.s, .int .i64 h.1.n] 41)).alloc (.cells #[.bool h.2.s, .int .i64 h.2.n] 41)).cell? ⟨wr.heap.size, 1, none⟩ = some (.int .i64 h.1.n) := by go_simp
          have e2 : (((wr.alloc (.cells #[.bool h.1.s, .int .i64 h.1.n, .bool h.2.s, .int .i64 h.2.n] 43)).alloc (.cells #[.bool h.1.s, .int .i64 h.1.n] 41)).alloc (.cells #[.bool h.2.s, .int .i64 h.2.n] 41)).cell? ⟨wr.heap.size, 2, none⟩ = some (.bool h.2.s) := by go_simp
          have e3 : (((wr.alloc (.cells #[.bool h.1.s, .int .i64 h.1.n, .bool h.2.s, .int .i64 h.2.n] 43)).alloc (.cells #[.bool h.1.s, .int .i64 h.1.n] 41)).alloc (.cells #[.bool h.2.s, .int .i64 h.2.n] 41)).cell? ⟨wr.heap.size, 3, none⟩ = some (.int .i64 h.2.n) := by go_simp
          have hb0 : Below w.heap.size w (((wr.alloc (.cells #[.bool h.1.s, .int .i64 h.1.n, .bool h.2.s, .int .i64 h.2.n] 43)).alloc (.cells #[.bool h.1.s, .int .i64 h.1.n] 41)).alloc (.cells #[.bool h.2.s, .int .i64 h.2.n] 41)) := by (repeat (first | with_reducible assumption | with_reducible exact Below.refl _ _ | (refine Below.setCell ?_ (by first | omega | (simp; done) | (simp; omega)) _) | (refine Below.drewN_ ?_ _) | (refine Below.drew ?_) | (refine Below.alloc ?_ (by first | omega | (simp; done) | (simp; omega)) _)))
          have HS0 : Hid (seenF (l.take (k + 1)) = gput (seenF (l.take k)) (.agg #[.bool h.2.s, .int .i64 h.2.n]) (.bool true)) := HS.out
          generalize isIn (l.take k) h.2 = ii at *
          have HQ : Hid (∀ p : Pl, leq p.s p.n false tmp = false ∨ leq p.s p.n false tmp = true) := fun p => by cases leq p.s p.n false tmp <;> simp
          cases tw
          · cases us
            · rcases HQ.out h.1 with q1 | q1
              · rcases HQ.out h.2 with q2 | q2
                · skip
                  go_wp2_with (at_mapUpdate; go_must ((refine wpList_mapUpdate_is _ rfl _ _ _ 79 rfl 41 4 loc_keyed Try.underlying79 w.heap.size _ (by rfl) HM2.out (.agg #[.bool h.2.s, .int .i64 h.2.n]) (.bool true) kl (by rfl) (by rfl) HK.out ?_; intro w2 hm2 hg2; have d0 := far_cell hg2 (by omega) e0; have d1 := far_cell hg2 (by omega) e1; have d2 := far_cell hg2 (by omega) e2; have d3 := far_cell hg2 (by omega) e3; have hb2 := upd_below (Nat.le_refl _) hb0 hg2; have hsz2 := upd_size hg2; have hsz3 : wr.heap.size < w2.heap.size := (by omega); clear e0 e1 e2 e3 hg2 c0 c1 c2 c3 hb0; rw [← HS0.out] at hm2; have HM3 := Lib.hid hm2; clear hm2)))
                  go_roundw
                  case rel => exact ⟨k + 1, by omega, by go_num, by rw [HT1.out]; rfl, by rw [HU1.out]; rw [q1, q2]; rfl, HG3.out, HM3.out.alloc _, by (repeat (first | with_reducible assumption | with_reducible exact Below.refl _ _ | (refine Below.setCell ?_ (by first | omega | (simp; done) | (simp; omega)) _) | (refine Below.drewN_ ?_ _) | (refine Below.drew ?_) | (refine Below.alloc ?_ (by first | omega | (simp; done) | (simp; omega)) _)))⟩
                  case measure => (first | (simp [intOf]; done) | (simp [intOf]; omega))
                · skip
                  go_wp2_with (at_mapUpdate; refine wpList_mapUpdate_is _ rfl _ _ _ 79 rfl 41 4 loc_keyed Try.underlying79 w.heap.size _ (by rfl) HM2.out (.agg #[.bool h.2.s, .int .i64 h.2.n]) (.bool true) kl (by rfl) (by rfl) HK.out ?_; intro w2 hm2 hg2; have d0 := far_cell hg2 (by omega) e0; have d1 := far_cell hg2 (by omega) e1; have d2 := far_cell hg2 (by omega) e2; have d3 := far_cell hg2 (by omega) e3; have hb2 := upd_below (Nat.le_refl _) hb0 hg2; have hsz2 := upd_size hg2; have hsz3 : wr.heap.size < w2.heap.size := (by omega); clear e0 e1 e2 e3 hg2 c0 c1 c2 c3 hb0; rw [← HS0.out] at hm2; have HM3 := Lib.hid hm2; clear hm2)
                  go_roundw
                  case rel => exact ⟨k + 1, by omega, by go_num, by rw [HT1.out]; rfl, by rw [HU1.out]; rw [q1, q2]; rfl, HG3.out, HM3.out.alloc _, by (repeat (first | with_reducible assumption | with_reducible exact Below.refl _ _ | (refine Below.setCell ?_ (by first | omega | (simp; done) | (simp; omega)) _) | (refine Below.drewN_ ?_ _) | (refine Below.drew ?_) | (refine Below.alloc ?_ (by first | omega | (simp; done) | (simp; omega)) _)))⟩
                  case measure => (first | (simp [intOf]; done) | (simp [intOf]; omega))
              · skip
                go_wp2_with (at_mapUpdate; refine wpList_mapUpdate_is _ rfl _ _ _ 79 rfl 41 4 loc_keyed Try.underlying79 w.heap.size _ (by rfl) HM2.out (.agg #[.bool h.2.s, .int .i64 h.2.n]) (.bool true) kl (by rfl) (by rfl) HK.out ?_; intro w2 hm2 hg2; have d0 := far_cell hg2 (by omega) e0; have d1 := far_cell hg2 (by omega) e1; have d2 := far_cell hg2 (by omega) e2; have d3 := far_cell hg2 (by omega) e3; have hb2 := upd_below (Nat.le_refl _) hb0 hg2; have hsz2 := upd_size hg2; have hsz3 : wr.heap.size < w2.heap.size := (by omega); clear e0 e1 e2 e3 hg2 c0 c1 c2 c3 hb0; rw [← HS0.out] at hm2; have HM3 := Lib.hid hm2; clear hm2)
                go_roundw
                case rel => exact ⟨k + 1, by omega, by go_num, by rw [HT1.out]; rfl, by rw [HU1.out]; rw [q1]; rfl, HG3.out, HM3.out.alloc _, by (repeat (first | with_reducible assumption | with_reducible exact Below.refl _ _ | (refine Below.setCell ?_ (by first | omega | (simp; done) | (simp; omega)) _) | (refine Below.drewN_ ?_ _) | (refine Below.drew ?_) | (refine Below.alloc ?_ (by first | omega | (simp; done) | (simp; omega)) _)))⟩
                case measure => (first | (simp [intOf]; done) | (simp [intOf]; omega))
            · skip
              go_wp2_with (at_mapUpdate; refine wpList_mapUpdate_is _ rfl _ _ _ 79 rfl 41 4 loc_keyed Try.underlying79 w.heap.size _ (by rfl) HM2.out (.agg #[.bool h.2.s, .int .i64 h.2.n]) (.bool true) kl (by rfl) (by rfl) HK.out ?_; intro w2 hm2 hg2; have d0 := far_cell hg2 (by omega) e0; have d1 := far_cell hg2 (by omega) e1; have d2 := far_cell hg2 (by omega) e2; have d3 := far_cell hg2 (by omega) e3; have hb2 := upd_below (Nat.le_refl _) hb0 hg2; have hsz2 := upd_size hg2; have hsz3 : wr.heap.size < w2.heap.size := (by omega); clear e0 e1 e2 e3 hg2 c0 c1 c2 c3 hb0; rw [← HS0.out] at hm2; have HM3 := Lib.hid hm2; clear hm2)
              go_roundw
              case rel => exact ⟨k + 1, by omega, by go_num, by rw [HT1.out]; rfl, by rw [HU1.out]; rfl, HG3.out, HM3.out.alloc _, by (repeat (first | with_reducible assumption | with_reducible exact Below.refl _ _ | (refine Below.setCell ?_ (by first | omega | (simp; done) | (simp; omega)) _) | (refine Below.drewN_ ?_ _) | (refine Below.drew ?_) | (refine Below.alloc ?_ (by first | omega | (simp; done) | (simp; omega)) _)))⟩
              case measure => (first | (simp [intOf]; done) | (simp [intOf]; omega))
          · cases us
            · rcases HQ.out h.1 with q1 | q1
              · rcases HQ.out h.2 with q2 | q2
                · skip
                  go_wp2_with (at_mapUpdate; refine wpList_mapUpdate_is _ rfl _ _ _ 79 rfl 41 4 loc_keyed Try.underlying79 w.heap.size _ (by rfl) HM2.out (.agg #[.bool h.2.s, .int .i64 h.2.n]) (.bool true) kl (by rfl) (by rfl) HK.out ?_; intro w2 hm2 hg2; have d0 := far_cell hg2 (by omega) e0; have d1 := far_cell hg2 (by omega) e1; have d2 := far_cell hg2 (by omega) e2; have d3 := far_cell hg2 (by omega) e3; have hb2 := upd_below (Nat.le_refl _) hb0 hg2; have hsz2 := upd_size hg2; have hsz3 : wr.heap.size < w2.heap.size := (by omega); clear e0 e1 e2 e3 hg2 c0 c1 c2 c3 hb0; rw [← HS0.out] at hm2; have HM3 := Lib.hid hm2; clear hm2)
                  go_roundw
                  case rel => exact ⟨k + 1, by omega, by go_num, by rw [HT1.out]; rfl, by rw [HU1.out]; rw [q1, q2]; rfl, HG3.out, HM3.out.alloc _, by (repeat (first | with_reducible assumption | with_reducible exact Below.refl _ _ | (refine Below.setCell ?_ (by first | omega | (simp; done) | (simp; omega)) _) | (refine Below.drewN_ ?_ _) | (refine Below.drew ?_) | (refine Below.alloc ?_ (by first | omega | (simp; done) | (simp; omega)) _)))⟩
                  case measure => (first | (simp [intOf]; done) | (simp [intOf]; omega))
                · skip
                  go_wp2_with (at_mapUpdate; refine wpList_mapUpdate_is _ rfl _ _ _ 79 rfl 41 4 loc_keyed Try.underlying79 w.heap.size _ (by rfl) HM2.out (.agg #[.bool h.2.s, .int .i64 h.2.n]) (.bool true) kl (by rfl) (by rfl) HK.out ?_; intro w2 hm2 hg2; have d0 := far_cell hg2 (by omega) e0; have d1 := far_cell hg2 (by omega) e1; have d2 := far_cell hg2 (by omega) e2; have d3 := far_cell hg2 (by omega) e3; have hb2 := upd_below (Nat.le_refl _) hb0 hg2; have hsz2 := upd_size hg2; have hsz3 : wr.heap.size < w2.heap.size := (by omega); clear e0 e1 e2 e3 hg2 c0 c1 c2 c3 hb0; rw [← HS0.out] at hm2; have HM3 := Lib.hid hm2; clear hm2)
                  go_roundw
                  case rel => exact ⟨k + 1, by omega, by go_num, by rw [HT1.out]; rfl, by rw [HU1.out]; rw [q1, q2]; rfl, HG3.out, HM3.out.alloc _, by (repeat (first | with_reducible assumption | with_reducible exact Below.refl _ _ | (refine Below.setCell ?_ (by first | omega | (simp; done) | (simp; omega)) _) | (refine Below.drewN_ ?_ _) | (refine Below.drew ?_) | (refine Below.alloc ?_ (by first | omega | (simp; done) | (simp; omega)) _)))⟩
                  case measure => (first | (simp [intOf]; done) | (simp [intOf]; omega))
              · skip
                go_wp2_with (at_mapUpdate; refine wpList_mapUpdate_is _ rfl _ _ _ 79 rfl 41 4 loc_keyed Try.underlying79 w.heap.size _ (by rfl) HM2.out (.agg #[.bool h.2.s, .int .i64 h.2.n]) (.bool true) kl (by rfl) (by rfl) HK.out ?_; intro w2 hm2 hg2; have d0 := far_cell hg2 (by omega) e0; have d1 := far_cell hg2 (by omega) e1; have d2 := far_cell hg2 (by omega) e2; have d3 := far_cell hg2 (by omega) e3; have hb2 := upd_below (Nat.le_refl _) hb0 hg2; have hsz2 := upd_size hg2; have hsz3 : wr.heap.size < w2.heap.size := (by omega); clear e0 e1 e2 e3 hg2 c0 c1 c2 c3 hb0; rw [← HS0.out] at hm2; have HM3 := Lib.hid hm2; clear hm2)
                go_roundw
                case rel => exact ⟨k + 1, by omega, by go_num, by rw [HT1.out]; rfl, by rw [HU1.out]; rw [q1]; rfl, HG3.out, HM3.out.alloc _, by (repeat (first | with_reducible assumption | with_reducible exact Below.refl _ _ | (refine Below.setCell ?_ (by first | omega | (simp; done) | (simp; omega)) _) | (refine Below.drewN_ ?_ _) | (refine Below.drew ?_) | (refine Below.alloc ?_ (by first | omega | (simp; done) | (simp; omega)) _)))⟩
                case measure => (first | (simp [intOf]; done) | (simp [intOf]; omega))
            · skip
              go_wp2_with (at_mapUpdate; refine wpList_mapUpdate_is _ rfl _ _ _ 79 rfl 41 4 loc_keyed Try.underlying79 w.heap.size _ (by rfl) HM2.out (.agg #[.bool h.2.s, .int .i64 h.2.n]) (.bool true) kl (by rfl) (by rfl) HK.out ?_; intro w2 hm2 hg2; have d0 := far_cell hg2 (by omega) e0; have d1 := far_cell hg2 (by omega) e1; have d2 := far_cell hg2 (by omega) e2; have d3 := far_cell hg2 (by omega) e3; have hb2 := upd_below (Nat.le_refl _) hb0 hg2; have hsz2 := upd_size hg2; have hsz3 : wr.heap.size < w2.heap.size := (by omega); clear e0 e1 e2 e3 hg2 c0 c1 c2 c3 hb0; rw [← HS0.out] at hm2; have HM3 := Lib.hid hm2; clear hm2)
              go_roundw
              case rel => exact ⟨k + 1, by omega, by go_num, by rw [HT1.out]; rfl, by rw [HU1.out]; rfl, HG3.out, HM3.out.alloc _, by (repeat (first | with_reducible assumption | with_reducible exact Below.refl _ _ | (refine Below.setCell ?_ (by first | omega | (simp; done) | (simp; omega)) _) | (refine Below.drewN_ ?_ _) | (refine Below.drew ?_) | (refine Below.alloc ?_ (by first | omega | (simp; done) | (simp; omega)) _)))⟩
              case measure => (first | (simp [intOf]; done) | (simp [intOf]; omega))
    · obtain rfl : k = l.length := by omega
      have HB := Lib.hid (good1_all l hg)
      have HTW : Hid (twB l l.length = true ↔ twice l) := twB_all l
      have HUS : Hid (usB l ⟨false, tmp⟩ l.length = true ↔ usedT l ⟨false, tmp⟩) := usB_all l _
      clear hg hmap
      generalize twB l l.length = tw at *
      generalize usB l ⟨false, tmp⟩ l.length = us at *
      by_cases ht : tmp < 0 ∨ 15 < tmp
      · have HT := Lib.hid (chk_tmp l tmp hbig ht)
        by_cases ht1 : tmp < 0
        · have hd : decide (tmp < 0) = true := by simpa using ht1
          clear ht
          go_wp2
          go_ret
          exact ⟨ret_i' HT.out.symm, hb⟩
        · have hd : decide (tmp < 0) = false := by simpa using ht1
          have ht2 : 15 < tmp := by omega
          have hd2 : decide (15 < tmp) = true := by simpa using ht2
          clear ht
          go_wp2
          go_ret
          exact ⟨ret_i' HT.out.symm, hb⟩
      have ht1 : 0 ≤ tmp := by omega
      have ht2 : tmp ≤ 15 := by omega
      have hd : decide (tmp < 0) = false := by simp; omega
      have hd2 : decide (15 < tmp) = false := by simp; omega
      have HT := Lib.hid ht
      clear ht
      cases tw
      · have H2 : Hid (¬ twice l) := fun h => by have := HTW.out.2 h; cases this
        cases us
        · have H3 : Hid (¬ usedT l ⟨false, tmp⟩) := fun h => by have := HUS.out.2 h; cases this
          go_wp2
          go_ret
          exact ⟨ret_i' (chk_ok l tmp hbig HB.out HT.out H2.out H3.out).symm, hb⟩
        · go_wp2
          go_ret
          exact ⟨ret_i' (chk_used l tmp hbig HB.out HT.out H2.out (HUS.out.1 (by simp))).symm, hb⟩
      · go_wp2
        go_ret
        exact ⟨ret_i' (chk_twice l tmp hbig HB.out HT.out (HTW.out.1 (by simp))).symm, hb⟩
end Go.Proofs.Ytffhfcddlhdicaa
