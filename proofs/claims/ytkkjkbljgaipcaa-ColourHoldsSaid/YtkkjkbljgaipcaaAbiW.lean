/- The document's words on places: words. -/
import Derived.Test.YtkkjkbljgaipcaaAbiR
namespace Go.Proofs.Ytkkjkbljgaipcaa
open Go.RowKit
set_option linter.unusedVariables false
set_option linter.unusedSimpArgs false
set_option maxRecDepth 100000
set_option maxHeartbeats 6000000
theorem regN_go : ∀ (l : List Pl) (a : Nat), a ≤ l.foldl (fun r x => if r ≤ x.n then x.n + 1 else r) a ∧ ∀ x ∈ l, x.n < l.foldl (fun r x => if r ≤ x.n then x.n + 1 else r) a
  | [], a => ⟨Nat.le_refl _, fun x h => by cases h⟩
  | y :: l, a => by
    have ih := regN_go l (if a ≤ y.n then y.n + 1 else a)
    rw [List.foldl_cons]
    refine ⟨Nat.le_trans (by split <;> omega) ih.1, fun x hx => ?_⟩
    rcases List.mem_cons.1 hx with rfl | h
    · exact Nat.lt_of_lt_of_le (by split <;> omega) ih.1
    · exact ih.2 x h
theorem regN_gt (l : List Pl) (x : Pl) (h : x ∈ l) : x.n < regN l := (regN_go l 0).2 x h
theorem plcN_go : ∀ (l : List Pl) (a : Nat), stk l = false → l.foldl (fun n x => if x.s && decide (n ≤ x.n) then x.n + 1 else n) a = a
  | [], a, _ => rfl
  | y :: l, a, h => by
    simp only [stk, List.any_cons, Bool.or_eq_false_iff] at h
    rw [List.foldl_cons, h.1]
    exact plcN_go l a h.2
theorem plcN_no (l : List Pl) (h : stk l = false) : plcN l = 0 := plcN_go l 0 h
/-- what has been given is what the giver says -/
def Had (had : List Pl) (g : Gv) : Prop := regF had = g.r ∧ plcN had = g.p ∧ g.r ≤ 4
theorem Had.low {had : List Pl} {g : Gv} (h : Had had g) (h4 : g.r < 4) : g.p = 0 ∧ ∀ x ∈ had, x.s = false ∧ x.n < g.r := by
  obtain ⟨h1, h2, -⟩ := h
  unfold regF at h1
  rcases hs : stk had with _ | _
  · rw [hs] at h1
    simp only [Bool.false_eq_true, if_false] at h1
    refine ⟨by rw [← h2, plcN_no had hs], fun x hx => ⟨?_, by rw [← h1]; exact regN_gt had x hx⟩⟩
    unfold stk at hs
    rw [List.any_eq_false] at hs
    simpa using hs x hx
  · rw [hs, if_pos rfl] at h1; omega
def Gv.wst (g : Gv) (n : Nat) (ev lg : Bool) : Gv :=
  let g1 := if ev then g.even else g
  if lg && decide (4 < g1.r + n) then Gv.even ⟨4, g1.p⟩ else g1
def WRel (G : Gv) (n : Nat) (w : World) (v r p i : Value) (wr : World) : Prop :=
  ∃ k : Nat, k ≤ n ∧ i = .int .i64 k ∧ r = .int .i64 ((G.nexts k).2.r : Int) ∧ p = .int .i64 ((G.nexts k).2.p : Int) ∧ wr.ownsRow w.heap.size 52 2 v k (lcs (G.nexts k).1) ∧ Below w.heap.size w wr
def WOut (l : List Pl) (w : World) (e : Ending) (w' : World) : Prop := ∃ A c, e = .returned (.slice A l.length c) ∧ w'.ownsRow w.heap.size 52 2 (.slice A l.length c) l.length (lcs l) ∧ Below w.heap.size w w'
theorem up_to (n m : Nat) (w : World) (hn : n ≤ 5000) (h : m = n + n % 2) : Calls Try.prog 59 #[.int .i64 (n : Int)] w fun e w' => e = .returned (.int .i64 (m : Int)) ∧ w = w' := by subst h; exact up_any n w hn
theorem words9_any (A : Option Addr) (c : Nat) (had : List Pl) (g : Gv) (n : Nat) (ev lg : Bool) (w : World) (hr : Row w A (lcs had)) (hl : had.length ≤ 1000) (hn : ∀ x ∈ had, x.n ≤ 2000) (hh : Had had g) (hp : g.p ≤ 900) (hn4 : n ≤ 4) (hlg : lg = true → ev = true ∧ n = 2) :
    Calls Try.prog 57 #[.slice A had.length c, .int .i64 (n : Int), .bool ev, .bool lg] w fun e w' => WOut ((g.wst n ev lg).nexts n).1 w e w' := by
  obtain ⟨i0, hi0, hz0, hz1, hz2⟩ := info_parts info_loc
  have hlow := hh.low
  obtain ⟨h1, h2, h3⟩ := hh
  obtain ⟨PP, hPP⟩ : ∃ PP, PP = ((g.wst n ev lg).nexts n).1 := ⟨_, rfl⟩
  rw [← hPP]
  have HPP := Lib.hid hPP
  have HLG := Lib.hid hlg
  have HLOW := Lib.hid hlow
  have HRF := Lib.hid h1
  have HPF := Lib.hid h2
  clear hPP hlg hlow h1 h2
  obtain ⟨r, q⟩ := g
  simp only at h3 hp
  have hq0 : (q : Int) ≤ 900 := by omega
  go_enter Try.func57, Try.ntmps57
  go_wp2_with fail
  refine (regFrom_any A c had _ hr hl hn).mono ?_
  rintro e w' ⟨rfl, hw⟩
  subst hw
  rw [HRF.out]
  go_wp2_with fail
  refine (placeFrom_any A c had _ hr hl hn).mono ?_
  rintro e w'' ⟨rfl, hw⟩
  subst hw
  rw [HPF.out]
  obtain ⟨w, rfl⟩ : ∃ w : World, w = w'' := ⟨_, rfl⟩
  cases ev
  · have hl0 : lg = false := by
      cases lg
      · rfl
      · exact absurd (HLG.out rfl).1 (by decide)
    subst hl0
    obtain ⟨G, hG⟩ : ∃ G : Gv, G = ⟨r, q⟩ := ⟨_, rfl⟩
    have HW : Hid (PP = (G.nexts n).1) := by show _ = _; rw [HPP.out, hG]; rfl
    have HG4 : Hid (G.r ≤ 4 ∧ G.p ≤ 902) := by rw [hG]; exact ⟨by simp only; omega, by simp only; omega⟩
    have HFREE : Hid (G.r < 4 → ∀ x ∈ had, x.s = false ∧ x.n < G.r) := fun h x hx => by rw [hG] at h ⊢; exact (HLOW.out h).2 x hx
    have HG0 := Lib.hid hG
    obtain ⟨rfl, rfl⟩ : G.r = r ∧ G.p = q := by rw [hG]; exact ⟨rfl, rfl⟩
    clear hG HPP
    go_wp2
    obtain ⟨w1, rfl⟩ : ∃ w1 : World, w1 = w := ⟨_, rfl⟩
    go_loopw [9, 10, 11, 12] (fun v r p i wr => WRel G n w1 v r p i wr) (fun _ _ _ i _ => n - (intOf i).toNat)
    case atStart => exact ⟨0, Nat.zero_le _, rfl, by first | rfl | (rw [HG0.out]; rfl), rfl, World.ownsRow_nil _ _ _ _, Below.refl _ _⟩
    case round =>
      obtain ⟨k, hk, rfl, rfl, rfl, hown, hb⟩ := hrel
      by_cases hlt : k < n
      · have hi1 : (k : Int) < (n : Int) := by omega
        have hk4 : (k : Int) < 4 := by omega
        obtain ⟨hnr1, hnr2⟩ := nexts_r G HG4.out.1 k
        have hGp := HG4.out.2
        have hln := nexts_len G k
        have HSN : Hid (lcs (G.nexts (k + 1)).1 = lcs (G.nexts k).1 ++ [.bool (G.nexts k).2.loc.s, .int .i64 ((G.nexts k).2.loc.n : Int)]) := by show _ = _; simp only [Gv.nexts]; rw [lcs_snoc]
        have HNX : Hid ((G.nexts (k + 1)).2 = (G.nexts k).2.next) := rfl
        have hsz := hb.size
        have hvf := Row.of_own hown
        obtain ⟨Av, cv, rfl, -⟩ := hvf
        have HFR : Hid (k = 0 → (G.nexts k).2.r < 4 → ∀ x ∈ had, x.s = false ∧ x.n < (G.nexts k).2.r) := fun h0 h4 => by
          subst h0
          exact HFREE.out h4
        clear hln
        generalize lcs (G.nexts k).1 = xs at *
        generalize (G.nexts k).2 = gg at *
        obtain ⟨gr, gp⟩ := gg
        by_cases h4 : gr < 4
        · have hr4 : (gr : Int) < 4 := by omega
          have HL : Hid (Gv.loc ⟨gr, gp⟩ = ⟨false, gr⟩) := by show _ = _; simp [Gv.loc, h4]
          have HN2 : Hid (Gv.next ⟨gr, gp⟩ = ⟨gr + 1, gp⟩) := by show _ = _; simp [Gv.next, h4]
          rw [HL.out] at HSN
          rw [HN2.out] at HNX
          by_cases h0 : k = 0
          · subst h0
            have hfr := Lib.hid (HFR.out rfl h4)
            clear HFR HL HN2 h4
            go_wp2_with fail
            refine (free_any A c had gr _ (hr.keep hb) hl hfr.out (by omega)).mono ?_
            rintro e w5 ⟨rfl, hw⟩
            subst hw
            go_wp2_with (at_builtin; refine wpList_append_own _ rfl _ _ 29 rfl w1.heap.size 52 i0 (.agg #[.bool false, .int .i64 0]) 2 16 Try.underlying29 hi0 hz0 hz1 hz2 rfl (by decide) _ _ _ rfl (hown.alloc _) ⟨w5.heap.size, 0, none⟩ 1 1 [.bool false, .int .i64 (gr : Int)] rfl rfl ?c1A7 ?c2A7 ?c3A7 ?c4A7 ?c5A7 ?_)
            (try (case c1A7 => exact World.news_of_block (cs := #[.bool false, .int .i64 (gr : Int)]) (t := 52) (fr := (0, 0)) (heap_new rfl)))
            (try (case c2A7 => simp [Value.oneCell']))
            (try (case c3A7 => unfold maxLen; omega))
            (try (case c4A7 => omega))
            (try (case c5A7 => first | omega | (simp; omega)))
            intro v' w6 hown6 hgrow _
            have b6 := below_app hb (Nat.le_refl _) hown hgrow
            rw [← HSN.out] at hown6
            have HO := Lib.hid hown6
            clear hown6 hown hgrow hb
            go_wp2
            go_roundw
            case rel => exact ⟨0 + 1, by omega, by go_num, by rw [HNX.out]; go_num, by rw [HNX.out], HO.out, b6⟩
            case measure => (first | (simp [intOf]; done) | (simp [intOf]; omega))
          · have hk0 : (0 : Int) < (k : Int) := by omega
            clear HFR HL HN2 h4 h0
            go_wp2_with (at_builtin; refine wpList_append_own _ rfl _ _ 29 rfl w1.heap.size 52 i0 (.agg #[.bool false, .int .i64 0]) 2 16 Try.underlying29 hi0 hz0 hz1 hz2 rfl (by decide) _ _ _ rfl (hown.alloc _) ⟨wr.heap.size, 0, none⟩ 1 1 [.bool false, .int .i64 (gr : Int)] rfl rfl ?c1B7 ?c2B7 ?c3B7 ?c4B7 ?c5B7 ?_)
            (try (case c1B7 => exact World.news_of_block (cs := #[.bool false, .int .i64 (gr : Int)]) (t := 52) (fr := (0, 0)) (heap_new rfl)))
            (try (case c2B7 => simp [Value.oneCell']))
            (try (case c3B7 => unfold maxLen; omega))
            (try (case c4B7 => omega))
            (try (case c5B7 => first | omega | (simp; omega)))
            intro v' w6 hown6 hgrow _
            have b6 := below_app hb (Nat.le_refl _) hown hgrow
            rw [← HSN.out] at hown6
            have HO := Lib.hid hown6
            clear hown6 hown hgrow hb
            go_wp2
            go_roundw
            case rel => exact ⟨k + 1, by omega, by go_num, by rw [HNX.out]; go_num, by rw [HNX.out], HO.out, b6⟩
            case measure => (first | (simp [intOf]; done) | (simp [intOf]; omega))
        · have hr4 : ¬ (gr : Int) < 4 := by omega
          have HL : Hid (Gv.loc ⟨gr, gp⟩ = ⟨true, gp⟩) := by show _ = _; simp [Gv.loc, h4]
          have HN2 : Hid (Gv.next ⟨gr, gp⟩ = ⟨gr, gp + 1⟩) := by show _ = _; simp [Gv.next, h4]
          rw [HL.out] at HSN
          rw [HN2.out] at HNX
          have hgp : (gp : Int) ≤ 1000 := by simp at hnr2; omega
          clear HFR HL HN2 h4
          go_wp2_with (at_builtin; refine wpList_append_own _ rfl _ _ 29 rfl w1.heap.size 52 i0 (.agg #[.bool false, .int .i64 0]) 2 16 Try.underlying29 hi0 hz0 hz1 hz2 rfl (by decide) _ _ _ rfl (hown.alloc _) ⟨wr.heap.size, 0, none⟩ 1 1 [.bool true, .int .i64 (gp : Int)] rfl rfl ?c1C7 ?c2C7 ?c3C7 ?c4C7 ?c5C7 ?_)
          (try (case c1C7 => exact World.news_of_block (cs := #[.bool true, .int .i64 (gp : Int)]) (t := 52) (fr := (0, 0)) (heap_new rfl)))
          (try (case c2C7 => simp [Value.oneCell']))
          (try (case c3C7 => unfold maxLen; omega))
          (try (case c4C7 => omega))
          (try (case c5C7 => first | omega | (simp; omega)))
          intro v' w6 hown6 hgrow _
          have b6 := below_app hb (Nat.le_refl _) hown hgrow
          rw [← HSN.out] at hown6
          have HO := Lib.hid hown6
          clear hown6 hown hgrow hb
          go_wp2
          go_roundw
          case rel => exact ⟨k + 1, by omega, by go_num, by rw [HNX.out], by rw [HNX.out]; go_num, HO.out, b6⟩
          case measure => (first | (simp [intOf]; done) | (simp [intOf]; omega))
      · have hi1 : ¬ (k : Int) < (n : Int) := by omega
        obtain rfl : k = n := by omega
        have hform := Row.of_own hown
        obtain ⟨A', c', rfl, -⟩ := hform
        have HO := Lib.hid hown
        clear hown
        go_wp2
        go_ret
        rw [HW.out]
        exact ⟨A', c', by rw [nexts_len]; rfl, by rw [nexts_len]; exact HO.out, hb⟩
  · by_cases hr4 : r < 4
    · have hr4' : (r : Int) < 4 := by omega
      obtain ⟨r1, hr1⟩ : ∃ r1, r1 = r + r % 2 := ⟨_, rfl⟩
      go_wp2_with fail
      refine (up_to r r1 _ (by omega) hr1).mono ?_
      rintro e w' ⟨rfl, rfl⟩
      have hr1b : r1 ≤ r + 1 := by omega
      have hr1c : r ≤ r1 := by omega
      have Hr1 := Lib.hid hr1
      clear hr1
      have hr1e : r1 ≤ 4 := by have := Hr1.out; omega
      have hq00 : q = 0 := (HLOW.out hr4).1
      have HQ0 := Lib.hid hq00
      clear hq00
      by_cases h14 : r1 < 4
      · have h14' : (r1 : Int) < 4 := by omega
        have h12 : ¬ (4 : Int) < (r1 : Int) + 2 := by have := Hr1.out; omega
        cases lg
        · obtain ⟨G, hG⟩ : ∃ G : Gv, G = ⟨r1, q⟩ := ⟨_, rfl⟩
          have HW : Hid (PP = (G.nexts n).1) := by
            show _ = _
            rw [HPP.out, hG]
            congr 2
            simp only [Gv.wst, Gv.even, hr4, if_true, Bool.false_and, Bool.false_eq_true, if_false]; rw [← Hr1.out]
          have HG4 : Hid (G.r ≤ 4 ∧ G.p ≤ 902) := by rw [hG]; exact ⟨by first | omega | (simp only; omega), by first | omega | (simp only; omega)⟩
          have HFREE : Hid (G.r < 4 → ∀ x ∈ had, x.s = false ∧ x.n < G.r) := fun h x hx => by
            rw [hG] at h ⊢
            try simp only at h ⊢
            have := (HLOW.out (by first | omega | (simp only; omega))).2 x hx
            try simp only at this
            exact ⟨this.1, by omega⟩
          have HG0 := Lib.hid hG
          obtain rfl : G.p = q := by rw [hG]
          obtain rfl : G.r = r1 := by rw [hG]
          clear hG HPP
          go_wp2
          obtain ⟨w1, rfl⟩ : ∃ w1 : World, w1 = w := ⟨_, rfl⟩
          go_loopw [9, 10, 11, 12] (fun v r p i wr => WRel G n w1 v r p i wr) (fun _ _ _ i _ => n - (intOf i).toNat)
          case atStart => exact ⟨0, Nat.zero_le _, rfl, by first | rfl | (rw [HG0.out]; rfl), rfl, World.ownsRow_nil _ _ _ _, Below.refl _ _⟩
          case round =>
            obtain ⟨k, hk, rfl, rfl, rfl, hown, hb⟩ := hrel
            by_cases hlt : k < n
            · have hi1 : (k : Int) < (n : Int) := by omega
              have hk4 : (k : Int) < 4 := by omega
              obtain ⟨hnr1, hnr2⟩ := nexts_r G HG4.out.1 k
              have hGp := HG4.out.2
              have hln := nexts_len G k
              have HSN : Hid (lcs (G.nexts (k + 1)).1 = lcs (G.nexts k).1 ++ [.bool (G.nexts k).2.loc.s, .int .i64 ((G.nexts k).2.loc.n : Int)]) := by show _ = _; simp only [Gv.nexts]; rw [lcs_snoc]
              have HNX : Hid ((G.nexts (k + 1)).2 = (G.nexts k).2.next) := rfl
              have hsz := hb.size
              have hvf := Row.of_own hown
              obtain ⟨Av, cv, rfl, -⟩ := hvf
              have HFR : Hid (k = 0 → (G.nexts k).2.r < 4 → ∀ x ∈ had, x.s = false ∧ x.n < (G.nexts k).2.r) := fun h0 h4 => by
                subst h0
                exact HFREE.out h4
              clear hln
              generalize lcs (G.nexts k).1 = xs at *
              generalize (G.nexts k).2 = gg at *
              obtain ⟨gr, gp⟩ := gg
              by_cases h4 : gr < 4
              · have hr4 : (gr : Int) < 4 := by omega
                have HL : Hid (Gv.loc ⟨gr, gp⟩ = ⟨false, gr⟩) := by show _ = _; simp [Gv.loc, h4]
                have HN2 : Hid (Gv.next ⟨gr, gp⟩ = ⟨gr + 1, gp⟩) := by show _ = _; simp [Gv.next, h4]
                rw [HL.out] at HSN
                rw [HN2.out] at HNX
                by_cases h0 : k = 0
                · subst h0
                  have hfr := Lib.hid (HFR.out rfl h4)
                  clear HFR HL HN2 h4
                  go_wp2_with fail
                  refine (free_any A c had gr _ (hr.keep hb) hl hfr.out (by omega)).mono ?_
                  rintro e w5 ⟨rfl, hw⟩
                  subst hw
                  go_wp2_with (at_builtin; refine wpList_append_own _ rfl _ _ 29 rfl w1.heap.size 52 i0 (.agg #[.bool false, .int .i64 0]) 2 16 Try.underlying29 hi0 hz0 hz1 hz2 rfl (by decide) _ _ _ rfl (hown.alloc _) ⟨w5.heap.size, 0, none⟩ 1 1 [.bool false, .int .i64 (gr : Int)] rfl rfl ?c1A1 ?c2A1 ?c3A1 ?c4A1 ?c5A1 ?_)
                  (try (case c1A1 => exact World.news_of_block (cs := #[.bool false, .int .i64 (gr : Int)]) (t := 52) (fr := (0, 0)) (heap_new rfl)))
                  (try (case c2A1 => simp [Value.oneCell']))
                  (try (case c3A1 => unfold maxLen; omega))
                  (try (case c4A1 => omega))
                  (try (case c5A1 => first | omega | (simp; omega)))
                  intro v' w6 hown6 hgrow _
                  have b6 := below_app hb (Nat.le_refl _) hown hgrow
                  rw [← HSN.out] at hown6
                  have HO := Lib.hid hown6
                  clear hown6 hown hgrow hb
                  go_wp2
                  go_roundw
                  case rel => exact ⟨0 + 1, by omega, by go_num, by rw [HNX.out]; go_num, by rw [HNX.out], HO.out, b6⟩
                  case measure => (first | (simp [intOf]; done) | (simp [intOf]; omega))
                · have hk0 : (0 : Int) < (k : Int) := by omega
                  clear HFR HL HN2 h4 h0
                  go_wp2_with (at_builtin; refine wpList_append_own _ rfl _ _ 29 rfl w1.heap.size 52 i0 (.agg #[.bool false, .int .i64 0]) 2 16 Try.underlying29 hi0 hz0 hz1 hz2 rfl (by decide) _ _ _ rfl (hown.alloc _) ⟨wr.heap.size, 0, none⟩ 1 1 [.bool false, .int .i64 (gr : Int)] rfl rfl ?c1B1 ?c2B1 ?c3B1 ?c4B1 ?c5B1 ?_)
                  (try (case c1B1 => exact World.news_of_block (cs := #[.bool false, .int .i64 (gr : Int)]) (t := 52) (fr := (0, 0)) (heap_new rfl)))
                  (try (case c2B1 => simp [Value.oneCell']))
                  (try (case c3B1 => unfold maxLen; omega))
                  (try (case c4B1 => omega))
                  (try (case c5B1 => first | omega | (simp; omega)))
                  intro v' w6 hown6 hgrow _
                  have b6 := below_app hb (Nat.le_refl _) hown hgrow
                  rw [← HSN.out] at hown6
                  have HO := Lib.hid hown6
                  clear hown6 hown hgrow hb
                  go_wp2
                  go_roundw
                  case rel => exact ⟨k + 1, by omega, by go_num, by rw [HNX.out]; go_num, by rw [HNX.out], HO.out, b6⟩
                  case measure => (first | (simp [intOf]; done) | (simp [intOf]; omega))
              · have hr4 : ¬ (gr : Int) < 4 := by omega
                have HL : Hid (Gv.loc ⟨gr, gp⟩ = ⟨true, gp⟩) := by show _ = _; simp [Gv.loc, h4]
                have HN2 : Hid (Gv.next ⟨gr, gp⟩ = ⟨gr, gp + 1⟩) := by show _ = _; simp [Gv.next, h4]
                rw [HL.out] at HSN
                rw [HN2.out] at HNX
                have hgp : (gp : Int) ≤ 1000 := by simp at hnr2; omega
                clear HFR HL HN2 h4
                go_wp2_with (at_builtin; refine wpList_append_own _ rfl _ _ 29 rfl w1.heap.size 52 i0 (.agg #[.bool false, .int .i64 0]) 2 16 Try.underlying29 hi0 hz0 hz1 hz2 rfl (by decide) _ _ _ rfl (hown.alloc _) ⟨wr.heap.size, 0, none⟩ 1 1 [.bool true, .int .i64 (gp : Int)] rfl rfl ?c1C1 ?c2C1 ?c3C1 ?c4C1 ?c5C1 ?_)
                (try (case c1C1 => exact World.news_of_block (cs := #[.bool true, .int .i64 (gp : Int)]) (t := 52) (fr := (0, 0)) (heap_new rfl)))
                (try (case c2C1 => simp [Value.oneCell']))
                (try (case c3C1 => unfold maxLen; omega))
                (try (case c4C1 => omega))
                (try (case c5C1 => first | omega | (simp; omega)))
                intro v' w6 hown6 hgrow _
                have b6 := below_app hb (Nat.le_refl _) hown hgrow
                rw [← HSN.out] at hown6
                have HO := Lib.hid hown6
                clear hown6 hown hgrow hb
                go_wp2
                go_roundw
                case rel => exact ⟨k + 1, by omega, by go_num, by rw [HNX.out], by rw [HNX.out]; go_num, HO.out, b6⟩
                case measure => (first | (simp [intOf]; done) | (simp [intOf]; omega))
            · have hi1 : ¬ (k : Int) < (n : Int) := by omega
              obtain rfl : k = n := by omega
              have hform := Row.of_own hown
              obtain ⟨A', c', rfl, -⟩ := hform
              have HO := Lib.hid hown
              clear hown
              go_wp2
              go_ret
              rw [HW.out]
              exact ⟨A', c', by rw [nexts_len]; rfl, by rw [nexts_len]; exact HO.out, hb⟩
        · obtain ⟨G, hG⟩ : ∃ G : Gv, G = ⟨r1, q⟩ := ⟨_, rfl⟩
          have HW : Hid (PP = (G.nexts n).1) := by
            show _ = _
            rw [HPP.out, hG]
            congr 2
            have h1 := Hr1.out; have h2 := (HLG.out (by first | rfl | trivial)).2; subst h2; simp only [Gv.wst, Gv.even, hr4, if_true, Bool.true_and]; rw [if_neg (by simp; omega), ← h1]
          have HG4 : Hid (G.r ≤ 4 ∧ G.p ≤ 902) := by rw [hG]; exact ⟨by first | omega | (simp only; omega), by first | omega | (simp only; omega)⟩
          have HFREE : Hid (G.r < 4 → ∀ x ∈ had, x.s = false ∧ x.n < G.r) := fun h x hx => by
            rw [hG] at h ⊢
            try simp only at h ⊢
            have := (HLOW.out (by first | omega | (simp only; omega))).2 x hx
            try simp only at this
            exact ⟨this.1, by omega⟩
          have HG0 := Lib.hid hG
          obtain rfl : G.p = q := by rw [hG]
          obtain rfl : G.r = r1 := by rw [hG]
          clear hG HPP
          go_wp2
          obtain ⟨w1, rfl⟩ : ∃ w1 : World, w1 = w := ⟨_, rfl⟩
          go_loopw [9, 10, 11, 12] (fun v r p i wr => WRel G n w1 v r p i wr) (fun _ _ _ i _ => n - (intOf i).toNat)
          case atStart => exact ⟨0, Nat.zero_le _, rfl, by first | rfl | (rw [HG0.out]; rfl), rfl, World.ownsRow_nil _ _ _ _, Below.refl _ _⟩
          case round =>
            obtain ⟨k, hk, rfl, rfl, rfl, hown, hb⟩ := hrel
            by_cases hlt : k < n
            · have hi1 : (k : Int) < (n : Int) := by omega
              have hk4 : (k : Int) < 4 := by omega
              obtain ⟨hnr1, hnr2⟩ := nexts_r G HG4.out.1 k
              have hGp := HG4.out.2
              have hln := nexts_len G k
              have HSN : Hid (lcs (G.nexts (k + 1)).1 = lcs (G.nexts k).1 ++ [.bool (G.nexts k).2.loc.s, .int .i64 ((G.nexts k).2.loc.n : Int)]) := by show _ = _; simp only [Gv.nexts]; rw [lcs_snoc]
              have HNX : Hid ((G.nexts (k + 1)).2 = (G.nexts k).2.next) := rfl
              have hsz := hb.size
              have hvf := Row.of_own hown
              obtain ⟨Av, cv, rfl, -⟩ := hvf
              have HFR : Hid (k = 0 → (G.nexts k).2.r < 4 → ∀ x ∈ had, x.s = false ∧ x.n < (G.nexts k).2.r) := fun h0 h4 => by
                subst h0
                exact HFREE.out h4
              clear hln
              generalize lcs (G.nexts k).1 = xs at *
              generalize (G.nexts k).2 = gg at *
              obtain ⟨gr, gp⟩ := gg
              by_cases h4 : gr < 4
              · have hr4 : (gr : Int) < 4 := by omega
                have HL : Hid (Gv.loc ⟨gr, gp⟩ = ⟨false, gr⟩) := by show _ = _; simp [Gv.loc, h4]
                have HN2 : Hid (Gv.next ⟨gr, gp⟩ = ⟨gr + 1, gp⟩) := by show _ = _; simp [Gv.next, h4]
                rw [HL.out] at HSN
                rw [HN2.out] at HNX
                by_cases h0 : k = 0
                · subst h0
                  have hfr := Lib.hid (HFR.out rfl h4)
                  clear HFR HL HN2 h4
                  go_wp2_with fail
                  refine (free_any A c had gr _ (hr.keep hb) hl hfr.out (by omega)).mono ?_
                  rintro e w5 ⟨rfl, hw⟩
                  subst hw
                  go_wp2_with (at_builtin; refine wpList_append_own _ rfl _ _ 29 rfl w1.heap.size 52 i0 (.agg #[.bool false, .int .i64 0]) 2 16 Try.underlying29 hi0 hz0 hz1 hz2 rfl (by decide) _ _ _ rfl (hown.alloc _) ⟨w5.heap.size, 0, none⟩ 1 1 [.bool false, .int .i64 (gr : Int)] rfl rfl ?c1A2 ?c2A2 ?c3A2 ?c4A2 ?c5A2 ?_)
                  (try (case c1A2 => exact World.news_of_block (cs := #[.bool false, .int .i64 (gr : Int)]) (t := 52) (fr := (0, 0)) (heap_new rfl)))
                  (try (case c2A2 => simp [Value.oneCell']))
                  (try (case c3A2 => unfold maxLen; omega))
                  (try (case c4A2 => omega))
                  (try (case c5A2 => first | omega | (simp; omega)))
                  intro v' w6 hown6 hgrow _
                  have b6 := below_app hb (Nat.le_refl _) hown hgrow
                  rw [← HSN.out] at hown6
                  have HO := Lib.hid hown6
                  clear hown6 hown hgrow hb
                  go_wp2
                  go_roundw
                  case rel => exact ⟨0 + 1, by omega, by go_num, by rw [HNX.out]; go_num, by rw [HNX.out], HO.out, b6⟩
                  case measure => (first | (simp [intOf]; done) | (simp [intOf]; omega))
                · have hk0 : (0 : Int) < (k : Int) := by omega
                  clear HFR HL HN2 h4 h0
                  go_wp2_with (at_builtin; refine wpList_append_own _ rfl _ _ 29 rfl w1.heap.size 52 i0 (.agg #[.bool false, .int .i64 0]) 2 16 Try.underlying29 hi0 hz0 hz1 hz2 rfl (by decide) _ _ _ rfl (hown.alloc _) ⟨wr.heap.size, 0, none⟩ 1 1 [.bool false, .int .i64 (gr : Int)] rfl rfl ?c1B2 ?c2B2 ?c3B2 ?c4B2 ?c5B2 ?_)
                  (try (case c1B2 => exact World.news_of_block (cs := #[.bool false, .int .i64 (gr : Int)]) (t := 52) (fr := (0, 0)) (heap_new rfl)))
                  (try (case c2B2 => simp [Value.oneCell']))
                  (try (case c3B2 => unfold maxLen; omega))
                  (try (case c4B2 => omega))
                  (try (case c5B2 => first | omega | (simp; omega)))
                  intro v' w6 hown6 hgrow _
                  have b6 := below_app hb (Nat.le_refl _) hown hgrow
                  rw [← HSN.out] at hown6
                  have HO := Lib.hid hown6
                  clear hown6 hown hgrow hb
                  go_wp2
                  go_roundw
                  case rel => exact ⟨k + 1, by omega, by go_num, by rw [HNX.out]; go_num, by rw [HNX.out], HO.out, b6⟩
                  case measure => (first | (simp [intOf]; done) | (simp [intOf]; omega))
              · have hr4 : ¬ (gr : Int) < 4 := by omega
                have HL : Hid (Gv.loc ⟨gr, gp⟩ = ⟨true, gp⟩) := by show _ = _; simp [Gv.loc, h4]
                have HN2 : Hid (Gv.next ⟨gr, gp⟩ = ⟨gr, gp + 1⟩) := by show _ = _; simp [Gv.next, h4]
                rw [HL.out] at HSN
                rw [HN2.out] at HNX
                have hgp : (gp : Int) ≤ 1000 := by simp at hnr2; omega
                clear HFR HL HN2 h4
                go_wp2_with (at_builtin; refine wpList_append_own _ rfl _ _ 29 rfl w1.heap.size 52 i0 (.agg #[.bool false, .int .i64 0]) 2 16 Try.underlying29 hi0 hz0 hz1 hz2 rfl (by decide) _ _ _ rfl (hown.alloc _) ⟨wr.heap.size, 0, none⟩ 1 1 [.bool true, .int .i64 (gp : Int)] rfl rfl ?c1C2 ?c2C2 ?c3C2 ?c4C2 ?c5C2 ?_)
                (try (case c1C2 => exact World.news_of_block (cs := #[.bool true, .int .i64 (gp : Int)]) (t := 52) (fr := (0, 0)) (heap_new rfl)))
                (try (case c2C2 => simp [Value.oneCell']))
                (try (case c3C2 => unfold maxLen; omega))
                (try (case c4C2 => omega))
                (try (case c5C2 => first | omega | (simp; omega)))
                intro v' w6 hown6 hgrow _
                have b6 := below_app hb (Nat.le_refl _) hown hgrow
                rw [← HSN.out] at hown6
                have HO := Lib.hid hown6
                clear hown6 hown hgrow hb
                go_wp2
                go_roundw
                case rel => exact ⟨k + 1, by omega, by go_num, by rw [HNX.out], by rw [HNX.out]; go_num, HO.out, b6⟩
                case measure => (first | (simp [intOf]; done) | (simp [intOf]; omega))
            · have hi1 : ¬ (k : Int) < (n : Int) := by omega
              obtain rfl : k = n := by omega
              have hform := Row.of_own hown
              obtain ⟨A', c', rfl, -⟩ := hform
              have HO := Lib.hid hown
              clear hown
              go_wp2
              go_ret
              rw [HW.out]
              exact ⟨A', c', by rw [nexts_len]; rfl, by rw [nexts_len]; exact HO.out, hb⟩
      · have h14' : ¬ (r1 : Int) < 4 := by omega
        have h14'' : (4 : Int) ≤ (r1 : Int) := by omega
        have h12 : (4 : Int) < (r1 : Int) + 2 := by omega
        have he4 : r1 = 4 := by omega
        cases lg
        · have HE4 := Lib.hid he4
          clear he4
          obtain ⟨q1, hq1⟩ : ∃ q1, q1 = q + q % 2 := ⟨_, rfl⟩
          go_wp2_with fail
          refine (up_to q q1 _ (by omega) hq1).mono ?_
          rintro e w' ⟨rfl, rfl⟩
          have hq1b : q1 ≤ q + 1 := by omega
          have hq1c : q ≤ q1 := by omega
          have Hq1 := Lib.hid hq1
          clear hq1
          obtain ⟨G, hG⟩ : ∃ G : Gv, G = ⟨r1, q1⟩ := ⟨_, rfl⟩
          have HW : Hid (PP = (G.nexts n).1) := by
            show _ = _
            rw [HPP.out, hG]
            congr 2
            have h1 := Hr1.out; have h2 := Hq1.out; have h3 := HQ0.out; simp only [Gv.wst, Gv.even, hr4, if_true, Bool.false_and, Bool.false_eq_true, if_false]; rw [← h1, h2, h3]
          have HG4 : Hid (G.r ≤ 4 ∧ G.p ≤ 902) := by rw [hG]; exact ⟨by first | omega | (simp only; omega), by first | omega | (simp only; omega)⟩
          have HFREE : Hid (G.r < 4 → ∀ x ∈ had, x.s = false ∧ x.n < G.r) := fun h x hx => by
            rw [hG] at h ⊢
            try simp only at h ⊢
            have := (HLOW.out (by first | omega | (simp only; omega))).2 x hx
            try simp only at this
            exact ⟨this.1, by omega⟩
          have HG0 := Lib.hid hG
          obtain rfl : G.p = q1 := by rw [hG]
          obtain rfl : G.r = r1 := by rw [hG]
          clear hG HPP
          go_wp2
          obtain ⟨w1, rfl⟩ : ∃ w1 : World, w1 = w := ⟨_, rfl⟩
          go_loopw [9, 10, 11, 12] (fun v r p i wr => WRel G n w1 v r p i wr) (fun _ _ _ i _ => n - (intOf i).toNat)
          case atStart => exact ⟨0, Nat.zero_le _, rfl, by first | rfl | (rw [HG0.out]; rfl), rfl, World.ownsRow_nil _ _ _ _, Below.refl _ _⟩
          case round =>
            obtain ⟨k, hk, rfl, rfl, rfl, hown, hb⟩ := hrel
            by_cases hlt : k < n
            · have hi1 : (k : Int) < (n : Int) := by omega
              have hk4 : (k : Int) < 4 := by omega
              obtain ⟨hnr1, hnr2⟩ := nexts_r G HG4.out.1 k
              have hGp := HG4.out.2
              have hln := nexts_len G k
              have HSN : Hid (lcs (G.nexts (k + 1)).1 = lcs (G.nexts k).1 ++ [.bool (G.nexts k).2.loc.s, .int .i64 ((G.nexts k).2.loc.n : Int)]) := by show _ = _; simp only [Gv.nexts]; rw [lcs_snoc]
              have HNX : Hid ((G.nexts (k + 1)).2 = (G.nexts k).2.next) := rfl
              have hsz := hb.size
              have hvf := Row.of_own hown
              obtain ⟨Av, cv, rfl, -⟩ := hvf
              have HFR : Hid (k = 0 → (G.nexts k).2.r < 4 → ∀ x ∈ had, x.s = false ∧ x.n < (G.nexts k).2.r) := fun h0 h4 => by
                subst h0
                exact HFREE.out h4
              clear hln
              generalize lcs (G.nexts k).1 = xs at *
              generalize (G.nexts k).2 = gg at *
              obtain ⟨gr, gp⟩ := gg
              by_cases h4 : gr < 4
              · have hr4 : (gr : Int) < 4 := by omega
                have HL : Hid (Gv.loc ⟨gr, gp⟩ = ⟨false, gr⟩) := by show _ = _; simp [Gv.loc, h4]
                have HN2 : Hid (Gv.next ⟨gr, gp⟩ = ⟨gr + 1, gp⟩) := by show _ = _; simp [Gv.next, h4]
                rw [HL.out] at HSN
                rw [HN2.out] at HNX
                by_cases h0 : k = 0
                · subst h0
                  have hfr := Lib.hid (HFR.out rfl h4)
                  clear HFR HL HN2 h4
                  go_wp2_with fail
                  refine (free_any A c had gr _ (hr.keep hb) hl hfr.out (by omega)).mono ?_
                  rintro e w5 ⟨rfl, hw⟩
                  subst hw
                  go_wp2_with (at_builtin; refine wpList_append_own _ rfl _ _ 29 rfl w1.heap.size 52 i0 (.agg #[.bool false, .int .i64 0]) 2 16 Try.underlying29 hi0 hz0 hz1 hz2 rfl (by decide) _ _ _ rfl (hown.alloc _) ⟨w5.heap.size, 0, none⟩ 1 1 [.bool false, .int .i64 (gr : Int)] rfl rfl ?c1A3 ?c2A3 ?c3A3 ?c4A3 ?c5A3 ?_)
                  (try (case c1A3 => exact World.news_of_block (cs := #[.bool false, .int .i64 (gr : Int)]) (t := 52) (fr := (0, 0)) (heap_new rfl)))
                  (try (case c2A3 => simp [Value.oneCell']))
                  (try (case c3A3 => unfold maxLen; omega))
                  (try (case c4A3 => omega))
                  (try (case c5A3 => first | omega | (simp; omega)))
                  intro v' w6 hown6 hgrow _
                  have b6 := below_app hb (Nat.le_refl _) hown hgrow
                  rw [← HSN.out] at hown6
                  have HO := Lib.hid hown6
                  clear hown6 hown hgrow hb
                  go_wp2
                  go_roundw
                  case rel => exact ⟨0 + 1, by omega, by go_num, by rw [HNX.out]; go_num, by rw [HNX.out], HO.out, b6⟩
                  case measure => (first | (simp [intOf]; done) | (simp [intOf]; omega))
                · have hk0 : (0 : Int) < (k : Int) := by omega
                  clear HFR HL HN2 h4 h0
                  go_wp2_with (at_builtin; refine wpList_append_own _ rfl _ _ 29 rfl w1.heap.size 52 i0 (.agg #[.bool false, .int .i64 0]) 2 16 Try.underlying29 hi0 hz0 hz1 hz2 rfl (by decide) _ _ _ rfl (hown.alloc _) ⟨wr.heap.size, 0, none⟩ 1 1 [.bool false, .int .i64 (gr : Int)] rfl rfl ?c1B3 ?c2B3 ?c3B3 ?c4B3 ?c5B3 ?_)
                  (try (case c1B3 => exact World.news_of_block (cs := #[.bool false, .int .i64 (gr : Int)]) (t := 52) (fr := (0, 0)) (heap_new rfl)))
                  (try (case c2B3 => simp [Value.oneCell']))
                  (try (case c3B3 => unfold maxLen; omega))
                  (try (case c4B3 => omega))
                  (try (case c5B3 => first | omega | (simp; omega)))
                  intro v' w6 hown6 hgrow _
                  have b6 := below_app hb (Nat.le_refl _) hown hgrow
                  rw [← HSN.out] at hown6
                  have HO := Lib.hid hown6
                  clear hown6 hown hgrow hb
                  go_wp2
                  go_roundw
                  case rel => exact ⟨k + 1, by omega, by go_num, by rw [HNX.out]; go_num, by rw [HNX.out], HO.out, b6⟩
                  case measure => (first | (simp [intOf]; done) | (simp [intOf]; omega))
              · have hr4 : ¬ (gr : Int) < 4 := by omega
                have HL : Hid (Gv.loc ⟨gr, gp⟩ = ⟨true, gp⟩) := by show _ = _; simp [Gv.loc, h4]
                have HN2 : Hid (Gv.next ⟨gr, gp⟩ = ⟨gr, gp + 1⟩) := by show _ = _; simp [Gv.next, h4]
                rw [HL.out] at HSN
                rw [HN2.out] at HNX
                have hgp : (gp : Int) ≤ 1000 := by simp at hnr2; omega
                clear HFR HL HN2 h4
                go_wp2_with (at_builtin; refine wpList_append_own _ rfl _ _ 29 rfl w1.heap.size 52 i0 (.agg #[.bool false, .int .i64 0]) 2 16 Try.underlying29 hi0 hz0 hz1 hz2 rfl (by decide) _ _ _ rfl (hown.alloc _) ⟨wr.heap.size, 0, none⟩ 1 1 [.bool true, .int .i64 (gp : Int)] rfl rfl ?c1C3 ?c2C3 ?c3C3 ?c4C3 ?c5C3 ?_)
                (try (case c1C3 => exact World.news_of_block (cs := #[.bool true, .int .i64 (gp : Int)]) (t := 52) (fr := (0, 0)) (heap_new rfl)))
                (try (case c2C3 => simp [Value.oneCell']))
                (try (case c3C3 => unfold maxLen; omega))
                (try (case c4C3 => omega))
                (try (case c5C3 => first | omega | (simp; omega)))
                intro v' w6 hown6 hgrow _
                have b6 := below_app hb (Nat.le_refl _) hown hgrow
                rw [← HSN.out] at hown6
                have HO := Lib.hid hown6
                clear hown6 hown hgrow hb
                go_wp2
                go_roundw
                case rel => exact ⟨k + 1, by omega, by go_num, by rw [HNX.out], by rw [HNX.out]; go_num, HO.out, b6⟩
                case measure => (first | (simp [intOf]; done) | (simp [intOf]; omega))
            · have hi1 : ¬ (k : Int) < (n : Int) := by omega
              obtain rfl : k = n := by omega
              have hform := Row.of_own hown
              obtain ⟨A', c', rfl, -⟩ := hform
              have HO := Lib.hid hown
              clear hown
              go_wp2
              go_ret
              rw [HW.out]
              exact ⟨A', c', by rw [nexts_len]; rfl, by rw [nexts_len]; exact HO.out, hb⟩
        · have HE4 := Lib.hid he4
          clear he4
          obtain ⟨q1, hq1⟩ : ∃ q1, q1 = q + q % 2 := ⟨_, rfl⟩
          go_wp2_with fail
          refine (up_to q q1 _ (by omega) hq1).mono ?_
          rintro e w' ⟨rfl, rfl⟩
          have hq1b : q1 ≤ q + 1 := by omega
          have hq1c : q ≤ q1 := by omega
          have Hq1 := Lib.hid hq1
          clear hq1
          obtain ⟨G, hG⟩ : ∃ G : Gv, G = ⟨4, q1⟩ := ⟨_, rfl⟩
          have HW : Hid (PP = (G.nexts n).1) := by
            show _ = _
            rw [HPP.out, hG]
            congr 2
            have h1 := Hr1.out; have h2 := Hq1.out; have h3 := HE4.out; have h4 := (HLG.out (by first | rfl | trivial)).2; subst h4; simp only [Gv.wst, Gv.even, hr4, if_true, Bool.true_and]; rw [if_pos (by simp; omega)]; simp; omega
          have HG4 : Hid (G.r ≤ 4 ∧ G.p ≤ 902) := by rw [hG]; exact ⟨by first | omega | (simp only; omega), by first | omega | (simp only; omega)⟩
          have HFREE : Hid (G.r < 4 → ∀ x ∈ had, x.s = false ∧ x.n < G.r) := fun h x hx => by
            rw [hG] at h ⊢
            try simp only at h ⊢
            have := (HLOW.out (by first | omega | (simp only; omega))).2 x hx
            try simp only at this
            exact ⟨this.1, by omega⟩
          have HG0 := Lib.hid hG
          obtain rfl : G.p = q1 := by rw [hG]
          clear hG HPP
          go_wp2
          obtain ⟨w1, rfl⟩ : ∃ w1 : World, w1 = w := ⟨_, rfl⟩
          go_loopw [9, 10, 11, 12] (fun v r p i wr => WRel G n w1 v r p i wr) (fun _ _ _ i _ => n - (intOf i).toNat)
          case atStart => exact ⟨0, Nat.zero_le _, rfl, by first | rfl | (rw [HG0.out]; rfl), rfl, World.ownsRow_nil _ _ _ _, Below.refl _ _⟩
          case round =>
            obtain ⟨k, hk, rfl, rfl, rfl, hown, hb⟩ := hrel
            by_cases hlt : k < n
            · have hi1 : (k : Int) < (n : Int) := by omega
              have hk4 : (k : Int) < 4 := by omega
              obtain ⟨hnr1, hnr2⟩ := nexts_r G HG4.out.1 k
              have hGp := HG4.out.2
              have hln := nexts_len G k
              have HSN : Hid (lcs (G.nexts (k + 1)).1 = lcs (G.nexts k).1 ++ [.bool (G.nexts k).2.loc.s, .int .i64 ((G.nexts k).2.loc.n : Int)]) := by show _ = _; simp only [Gv.nexts]; rw [lcs_snoc]
              have HNX : Hid ((G.nexts (k + 1)).2 = (G.nexts k).2.next) := rfl
              have hsz := hb.size
              have hvf := Row.of_own hown
              obtain ⟨Av, cv, rfl, -⟩ := hvf
              have HFR : Hid (k = 0 → (G.nexts k).2.r < 4 → ∀ x ∈ had, x.s = false ∧ x.n < (G.nexts k).2.r) := fun h0 h4 => by
                subst h0
                exact HFREE.out h4
              clear hln
              generalize lcs (G.nexts k).1 = xs at *
              generalize (G.nexts k).2 = gg at *
              obtain ⟨gr, gp⟩ := gg
              by_cases h4 : gr < 4
              · have hr4 : (gr : Int) < 4 := by omega
                have HL : Hid (Gv.loc ⟨gr, gp⟩ = ⟨false, gr⟩) := by show _ = _; simp [Gv.loc, h4]
                have HN2 : Hid (Gv.next ⟨gr, gp⟩ = ⟨gr + 1, gp⟩) := by show _ = _; simp [Gv.next, h4]
                rw [HL.out] at HSN
                rw [HN2.out] at HNX
                by_cases h0 : k = 0
                · subst h0
                  have hfr := Lib.hid (HFR.out rfl h4)
                  clear HFR HL HN2 h4
                  go_wp2_with fail
                  refine (free_any A c had gr _ (hr.keep hb) hl hfr.out (by omega)).mono ?_
                  rintro e w5 ⟨rfl, hw⟩
                  subst hw
                  go_wp2_with (at_builtin; refine wpList_append_own _ rfl _ _ 29 rfl w1.heap.size 52 i0 (.agg #[.bool false, .int .i64 0]) 2 16 Try.underlying29 hi0 hz0 hz1 hz2 rfl (by decide) _ _ _ rfl (hown.alloc _) ⟨w5.heap.size, 0, none⟩ 1 1 [.bool false, .int .i64 (gr : Int)] rfl rfl ?c1A4 ?c2A4 ?c3A4 ?c4A4 ?c5A4 ?_)
                  (try (case c1A4 => exact World.news_of_block (cs := #[.bool false, .int .i64 (gr : Int)]) (t := 52) (fr := (0, 0)) (heap_new rfl)))
                  (try (case c2A4 => simp [Value.oneCell']))
                  (try (case c3A4 => unfold maxLen; omega))
                  (try (case c4A4 => omega))
                  (try (case c5A4 => first | omega | (simp; omega)))
                  intro v' w6 hown6 hgrow _
                  have b6 := below_app hb (Nat.le_refl _) hown hgrow
                  rw [← HSN.out] at hown6
                  have HO := Lib.hid hown6
                  clear hown6 hown hgrow hb
                  go_wp2
                  go_roundw
                  case rel => exact ⟨0 + 1, by omega, by go_num, by rw [HNX.out]; go_num, by rw [HNX.out], HO.out, b6⟩
                  case measure => (first | (simp [intOf]; done) | (simp [intOf]; omega))
                · have hk0 : (0 : Int) < (k : Int) := by omega
                  clear HFR HL HN2 h4 h0
                  go_wp2_with (at_builtin; refine wpList_append_own _ rfl _ _ 29 rfl w1.heap.size 52 i0 (.agg #[.bool false, .int .i64 0]) 2 16 Try.underlying29 hi0 hz0 hz1 hz2 rfl (by decide) _ _ _ rfl (hown.alloc _) ⟨wr.heap.size, 0, none⟩ 1 1 [.bool false, .int .i64 (gr : Int)] rfl rfl ?c1B4 ?c2B4 ?c3B4 ?c4B4 ?c5B4 ?_)
                  (try (case c1B4 => exact World.news_of_block (cs := #[.bool false, .int .i64 (gr : Int)]) (t := 52) (fr := (0, 0)) (heap_new rfl)))
                  (try (case c2B4 => simp [Value.oneCell']))
                  (try (case c3B4 => unfold maxLen; omega))
                  (try (case c4B4 => omega))
                  (try (case c5B4 => first | omega | (simp; omega)))
                  intro v' w6 hown6 hgrow _
                  have b6 := below_app hb (Nat.le_refl _) hown hgrow
                  rw [← HSN.out] at hown6
                  have HO := Lib.hid hown6
                  clear hown6 hown hgrow hb
                  go_wp2
                  go_roundw
                  case rel => exact ⟨k + 1, by omega, by go_num, by rw [HNX.out]; go_num, by rw [HNX.out], HO.out, b6⟩
                  case measure => (first | (simp [intOf]; done) | (simp [intOf]; omega))
              · have hr4 : ¬ (gr : Int) < 4 := by omega
                have HL : Hid (Gv.loc ⟨gr, gp⟩ = ⟨true, gp⟩) := by show _ = _; simp [Gv.loc, h4]
                have HN2 : Hid (Gv.next ⟨gr, gp⟩ = ⟨gr, gp + 1⟩) := by show _ = _; simp [Gv.next, h4]
                rw [HL.out] at HSN
                rw [HN2.out] at HNX
                have hgp : (gp : Int) ≤ 1000 := by simp at hnr2; omega
                clear HFR HL HN2 h4
                go_wp2_with (at_builtin; refine wpList_append_own _ rfl _ _ 29 rfl w1.heap.size 52 i0 (.agg #[.bool false, .int .i64 0]) 2 16 Try.underlying29 hi0 hz0 hz1 hz2 rfl (by decide) _ _ _ rfl (hown.alloc _) ⟨wr.heap.size, 0, none⟩ 1 1 [.bool true, .int .i64 (gp : Int)] rfl rfl ?c1C4 ?c2C4 ?c3C4 ?c4C4 ?c5C4 ?_)
                (try (case c1C4 => exact World.news_of_block (cs := #[.bool true, .int .i64 (gp : Int)]) (t := 52) (fr := (0, 0)) (heap_new rfl)))
                (try (case c2C4 => simp [Value.oneCell']))
                (try (case c3C4 => unfold maxLen; omega))
                (try (case c4C4 => omega))
                (try (case c5C4 => first | omega | (simp; omega)))
                intro v' w6 hown6 hgrow _
                have b6 := below_app hb (Nat.le_refl _) hown hgrow
                rw [← HSN.out] at hown6
                have HO := Lib.hid hown6
                clear hown6 hown hgrow hb
                go_wp2
                go_roundw
                case rel => exact ⟨k + 1, by omega, by go_num, by rw [HNX.out], by rw [HNX.out]; go_num, HO.out, b6⟩
                case measure => (first | (simp [intOf]; done) | (simp [intOf]; omega))
            · have hi1 : ¬ (k : Int) < (n : Int) := by omega
              obtain rfl : k = n := by omega
              have hform := Row.of_own hown
              obtain ⟨A', c', rfl, -⟩ := hform
              have HO := Lib.hid hown
              clear hown
              go_wp2
              go_ret
              rw [HW.out]
              exact ⟨A', c', by rw [nexts_len]; rfl, by rw [nexts_len]; exact HO.out, hb⟩
    · have hr4' : ¬ (r : Int) < 4 := by omega
      have hr4'' : (4 : Int) ≤ (r : Int) := by omega
      have h12 : (4 : Int) < (r : Int) + 2 := by omega
      have HE4 : Hid (r = 4) := by show _ = _; omega
      obtain ⟨q1, hq1⟩ : ∃ q1, q1 = q + q % 2 := ⟨_, rfl⟩
      go_wp2_with fail
      refine (up_to q q1 _ (by omega) hq1).mono ?_
      rintro e w' ⟨rfl, rfl⟩
      have hq1b : q1 ≤ q + 1 := by omega
      have hq1c : q ≤ q1 := by omega
      have Hq1 := Lib.hid hq1
      clear hq1
      cases lg
      · skip
        obtain ⟨q2, hq2⟩ : ∃ q2, q2 = q1 + q1 % 2 := ⟨_, rfl⟩
        go_wp2_with fail
        refine (up_to q1 q2 _ (by omega) hq2).mono ?_
        rintro e w' ⟨rfl, rfl⟩
        have hq2b : q2 ≤ q1 + 1 := by omega
        have hq2c : q1 ≤ q2 := by omega
        have Hq2 := Lib.hid hq2
        clear hq2
        obtain ⟨G, hG⟩ : ∃ G : Gv, G = ⟨r, q2⟩ := ⟨_, rfl⟩
        have HW : Hid (PP = (G.nexts n).1) := by
          show _ = _
          rw [HPP.out, hG]
          congr 2
          have h2 := Hq1.out; have h3 := Hq2.out; simp only [Gv.wst, Gv.even, hr4, if_true, Bool.false_and, Bool.false_eq_true, if_false]; rw [← h2, h3]; congr 1; omega
        have HG4 : Hid (G.r ≤ 4 ∧ G.p ≤ 902) := by rw [hG]; exact ⟨by first | omega | (simp only; omega), by first | omega | (simp only; omega)⟩
        have HFREE : Hid (G.r < 4 → ∀ x ∈ had, x.s = false ∧ x.n < G.r) := fun h x hx => by
          rw [hG] at h ⊢
          try simp only at h ⊢
          have := (HLOW.out (by first | omega | (simp only; omega))).2 x hx
          try simp only at this
          exact ⟨this.1, by omega⟩
        have HG0 := Lib.hid hG
        obtain rfl : G.p = q2 := by rw [hG]
        obtain rfl : G.r = r := by rw [hG]
        clear hG HPP
        go_wp2
        obtain ⟨w1, rfl⟩ : ∃ w1 : World, w1 = w := ⟨_, rfl⟩
        go_loopw [9, 10, 11, 12] (fun v r p i wr => WRel G n w1 v r p i wr) (fun _ _ _ i _ => n - (intOf i).toNat)
        case atStart => exact ⟨0, Nat.zero_le _, rfl, by first | rfl | (rw [HG0.out]; rfl), rfl, World.ownsRow_nil _ _ _ _, Below.refl _ _⟩
        case round =>
          obtain ⟨k, hk, rfl, rfl, rfl, hown, hb⟩ := hrel
          by_cases hlt : k < n
          · have hi1 : (k : Int) < (n : Int) := by omega
            have hk4 : (k : Int) < 4 := by omega
            obtain ⟨hnr1, hnr2⟩ := nexts_r G HG4.out.1 k
            have hGp := HG4.out.2
            have hln := nexts_len G k
            have HSN : Hid (lcs (G.nexts (k + 1)).1 = lcs (G.nexts k).1 ++ [.bool (G.nexts k).2.loc.s, .int .i64 ((G.nexts k).2.loc.n : Int)]) := by show _ = _; simp only [Gv.nexts]; rw [lcs_snoc]
            have HNX : Hid ((G.nexts (k + 1)).2 = (G.nexts k).2.next) := rfl
            have hsz := hb.size
            have hvf := Row.of_own hown
            obtain ⟨Av, cv, rfl, -⟩ := hvf
            have HFR : Hid (k = 0 → (G.nexts k).2.r < 4 → ∀ x ∈ had, x.s = false ∧ x.n < (G.nexts k).2.r) := fun h0 h4 => by
              subst h0
              exact HFREE.out h4
            clear hln
            generalize lcs (G.nexts k).1 = xs at *
            generalize (G.nexts k).2 = gg at *
            obtain ⟨gr, gp⟩ := gg
            by_cases h4 : gr < 4
            · have hr4 : (gr : Int) < 4 := by omega
              have HL : Hid (Gv.loc ⟨gr, gp⟩ = ⟨false, gr⟩) := by show _ = _; simp [Gv.loc, h4]
              have HN2 : Hid (Gv.next ⟨gr, gp⟩ = ⟨gr + 1, gp⟩) := by show _ = _; simp [Gv.next, h4]
              rw [HL.out] at HSN
              rw [HN2.out] at HNX
              by_cases h0 : k = 0
              · subst h0
                have hfr := Lib.hid (HFR.out rfl h4)
                clear HFR HL HN2 h4
                go_wp2_with fail
                refine (free_any A c had gr _ (hr.keep hb) hl hfr.out (by omega)).mono ?_
                rintro e w5 ⟨rfl, hw⟩
                subst hw
                go_wp2_with (at_builtin; refine wpList_append_own _ rfl _ _ 29 rfl w1.heap.size 52 i0 (.agg #[.bool false, .int .i64 0]) 2 16 Try.underlying29 hi0 hz0 hz1 hz2 rfl (by decide) _ _ _ rfl (hown.alloc _) ⟨w5.heap.size, 0, none⟩ 1 1 [.bool false, .int .i64 (gr : Int)] rfl rfl ?c1A5 ?c2A5 ?c3A5 ?c4A5 ?c5A5 ?_)
                (try (case c1A5 => exact World.news_of_block (cs := #[.bool false, .int .i64 (gr : Int)]) (t := 52) (fr := (0, 0)) (heap_new rfl)))
                (try (case c2A5 => simp [Value.oneCell']))
                (try (case c3A5 => unfold maxLen; omega))
                (try (case c4A5 => omega))
                (try (case c5A5 => first | omega | (simp; omega)))
                intro v' w6 hown6 hgrow _
                have b6 := below_app hb (Nat.le_refl _) hown hgrow
                rw [← HSN.out] at hown6
                have HO := Lib.hid hown6
                clear hown6 hown hgrow hb
                go_wp2
                go_roundw
                case rel => exact ⟨0 + 1, by omega, by go_num, by rw [HNX.out]; go_num, by rw [HNX.out], HO.out, b6⟩
                case measure => (first | (simp [intOf]; done) | (simp [intOf]; omega))
              · have hk0 : (0 : Int) < (k : Int) := by omega
                clear HFR HL HN2 h4 h0
                go_wp2_with (at_builtin; refine wpList_append_own _ rfl _ _ 29 rfl w1.heap.size 52 i0 (.agg #[.bool false, .int .i64 0]) 2 16 Try.underlying29 hi0 hz0 hz1 hz2 rfl (by decide) _ _ _ rfl (hown.alloc _) ⟨wr.heap.size, 0, none⟩ 1 1 [.bool false, .int .i64 (gr : Int)] rfl rfl ?c1B5 ?c2B5 ?c3B5 ?c4B5 ?c5B5 ?_)
                (try (case c1B5 => exact World.news_of_block (cs := #[.bool false, .int .i64 (gr : Int)]) (t := 52) (fr := (0, 0)) (heap_new rfl)))
                (try (case c2B5 => simp [Value.oneCell']))
                (try (case c3B5 => unfold maxLen; omega))
                (try (case c4B5 => omega))
                (try (case c5B5 => first | omega | (simp; omega)))
                intro v' w6 hown6 hgrow _
                have b6 := below_app hb (Nat.le_refl _) hown hgrow
                rw [← HSN.out] at hown6
                have HO := Lib.hid hown6
                clear hown6 hown hgrow hb
                go_wp2
                go_roundw
                case rel => exact ⟨k + 1, by omega, by go_num, by rw [HNX.out]; go_num, by rw [HNX.out], HO.out, b6⟩
                case measure => (first | (simp [intOf]; done) | (simp [intOf]; omega))
            · have hr4 : ¬ (gr : Int) < 4 := by omega
              have HL : Hid (Gv.loc ⟨gr, gp⟩ = ⟨true, gp⟩) := by show _ = _; simp [Gv.loc, h4]
              have HN2 : Hid (Gv.next ⟨gr, gp⟩ = ⟨gr, gp + 1⟩) := by show _ = _; simp [Gv.next, h4]
              rw [HL.out] at HSN
              rw [HN2.out] at HNX
              have hgp : (gp : Int) ≤ 1000 := by simp at hnr2; omega
              clear HFR HL HN2 h4
              go_wp2_with (at_builtin; refine wpList_append_own _ rfl _ _ 29 rfl w1.heap.size 52 i0 (.agg #[.bool false, .int .i64 0]) 2 16 Try.underlying29 hi0 hz0 hz1 hz2 rfl (by decide) _ _ _ rfl (hown.alloc _) ⟨wr.heap.size, 0, none⟩ 1 1 [.bool true, .int .i64 (gp : Int)] rfl rfl ?c1C5 ?c2C5 ?c3C5 ?c4C5 ?c5C5 ?_)
              (try (case c1C5 => exact World.news_of_block (cs := #[.bool true, .int .i64 (gp : Int)]) (t := 52) (fr := (0, 0)) (heap_new rfl)))
              (try (case c2C5 => simp [Value.oneCell']))
              (try (case c3C5 => unfold maxLen; omega))
              (try (case c4C5 => omega))
              (try (case c5C5 => first | omega | (simp; omega)))
              intro v' w6 hown6 hgrow _
              have b6 := below_app hb (Nat.le_refl _) hown hgrow
              rw [← HSN.out] at hown6
              have HO := Lib.hid hown6
              clear hown6 hown hgrow hb
              go_wp2
              go_roundw
              case rel => exact ⟨k + 1, by omega, by go_num, by rw [HNX.out], by rw [HNX.out]; go_num, HO.out, b6⟩
              case measure => (first | (simp [intOf]; done) | (simp [intOf]; omega))
          · have hi1 : ¬ (k : Int) < (n : Int) := by omega
            obtain rfl : k = n := by omega
            have hform := Row.of_own hown
            obtain ⟨A', c', rfl, -⟩ := hform
            have HO := Lib.hid hown
            clear hown
            go_wp2
            go_ret
            rw [HW.out]
            exact ⟨A', c', by rw [nexts_len]; rfl, by rw [nexts_len]; exact HO.out, hb⟩
      · skip
        obtain ⟨q2, hq2⟩ : ∃ q2, q2 = q1 + q1 % 2 := ⟨_, rfl⟩
        go_wp2_with fail
        refine (up_to q1 q2 _ (by omega) hq2).mono ?_
        rintro e w' ⟨rfl, rfl⟩
        have hq2b : q2 ≤ q1 + 1 := by omega
        have hq2c : q1 ≤ q2 := by omega
        have Hq2 := Lib.hid hq2
        clear hq2
        obtain ⟨G, hG⟩ : ∃ G : Gv, G = ⟨4, q2⟩ := ⟨_, rfl⟩
        have HW : Hid (PP = (G.nexts n).1) := by
          show _ = _
          rw [HPP.out, hG]
          congr 2
          have h2 := Hq1.out; have h3 := Hq2.out; have h5 := HE4.out; have h4 := (HLG.out (by first | rfl | trivial)).2; subst h4; simp only [Gv.wst, Gv.even, hr4, if_true, if_false, Bool.true_and]; rw [if_pos (by simp; omega)]; simp; omega
        have HG4 : Hid (G.r ≤ 4 ∧ G.p ≤ 902) := by rw [hG]; exact ⟨by first | omega | (simp only; omega), by first | omega | (simp only; omega)⟩
        have HFREE : Hid (G.r < 4 → ∀ x ∈ had, x.s = false ∧ x.n < G.r) := fun h x hx => by
          rw [hG] at h ⊢
          try simp only at h ⊢
          have := (HLOW.out (by first | omega | (simp only; omega))).2 x hx
          try simp only at this
          exact ⟨this.1, by omega⟩
        have HG0 := Lib.hid hG
        obtain rfl : G.p = q2 := by rw [hG]
        clear hG HPP
        go_wp2
        obtain ⟨w1, rfl⟩ : ∃ w1 : World, w1 = w := ⟨_, rfl⟩
        go_loopw [9, 10, 11, 12] (fun v r p i wr => WRel G n w1 v r p i wr) (fun _ _ _ i _ => n - (intOf i).toNat)
        case atStart => exact ⟨0, Nat.zero_le _, rfl, by first | rfl | (rw [HG0.out]; rfl), rfl, World.ownsRow_nil _ _ _ _, Below.refl _ _⟩
        case round =>
          obtain ⟨k, hk, rfl, rfl, rfl, hown, hb⟩ := hrel
          by_cases hlt : k < n
          · have hi1 : (k : Int) < (n : Int) := by omega
            have hk4 : (k : Int) < 4 := by omega
            obtain ⟨hnr1, hnr2⟩ := nexts_r G HG4.out.1 k
            have hGp := HG4.out.2
            have hln := nexts_len G k
            have HSN : Hid (lcs (G.nexts (k + 1)).1 = lcs (G.nexts k).1 ++ [.bool (G.nexts k).2.loc.s, .int .i64 ((G.nexts k).2.loc.n : Int)]) := by show _ = _; simp only [Gv.nexts]; rw [lcs_snoc]
            have HNX : Hid ((G.nexts (k + 1)).2 = (G.nexts k).2.next) := rfl
            have hsz := hb.size
            have hvf := Row.of_own hown
            obtain ⟨Av, cv, rfl, -⟩ := hvf
            have HFR : Hid (k = 0 → (G.nexts k).2.r < 4 → ∀ x ∈ had, x.s = false ∧ x.n < (G.nexts k).2.r) := fun h0 h4 => by
              subst h0
              exact HFREE.out h4
            clear hln
            generalize lcs (G.nexts k).1 = xs at *
            generalize (G.nexts k).2 = gg at *
            obtain ⟨gr, gp⟩ := gg
            by_cases h4 : gr < 4
            · have hr4 : (gr : Int) < 4 := by omega
              have HL : Hid (Gv.loc ⟨gr, gp⟩ = ⟨false, gr⟩) := by show _ = _; simp [Gv.loc, h4]
              have HN2 : Hid (Gv.next ⟨gr, gp⟩ = ⟨gr + 1, gp⟩) := by show _ = _; simp [Gv.next, h4]
              rw [HL.out] at HSN
              rw [HN2.out] at HNX
              by_cases h0 : k = 0
              · subst h0
                have hfr := Lib.hid (HFR.out rfl h4)
                clear HFR HL HN2 h4
                go_wp2_with fail
                refine (free_any A c had gr _ (hr.keep hb) hl hfr.out (by omega)).mono ?_
                rintro e w5 ⟨rfl, hw⟩
                subst hw
                go_wp2_with (at_builtin; refine wpList_append_own _ rfl _ _ 29 rfl w1.heap.size 52 i0 (.agg #[.bool false, .int .i64 0]) 2 16 Try.underlying29 hi0 hz0 hz1 hz2 rfl (by decide) _ _ _ rfl (hown.alloc _) ⟨w5.heap.size, 0, none⟩ 1 1 [.bool false, .int .i64 (gr : Int)] rfl rfl ?c1A6 ?c2A6 ?c3A6 ?c4A6 ?c5A6 ?_)
                (try (case c1A6 => exact World.news_of_block (cs := #[.bool false, .int .i64 (gr : Int)]) (t := 52) (fr := (0, 0)) (heap_new rfl)))
                (try (case c2A6 => simp [Value.oneCell']))
                (try (case c3A6 => unfold maxLen; omega))
                (try (case c4A6 => omega))
                (try (case c5A6 => first | omega | (simp; omega)))
                intro v' w6 hown6 hgrow _
                have b6 := below_app hb (Nat.le_refl _) hown hgrow
                rw [← HSN.out] at hown6
                have HO := Lib.hid hown6
                clear hown6 hown hgrow hb
                go_wp2
                go_roundw
                case rel => exact ⟨0 + 1, by omega, by go_num, by rw [HNX.out]; go_num, by rw [HNX.out], HO.out, b6⟩
                case measure => (first | (simp [intOf]; done) | (simp [intOf]; omega))
              · have hk0 : (0 : Int) < (k : Int) := by omega
                clear HFR HL HN2 h4 h0
                go_wp2_with (at_builtin; refine wpList_append_own _ rfl _ _ 29 rfl w1.heap.size 52 i0 (.agg #[.bool false, .int .i64 0]) 2 16 Try.underlying29 hi0 hz0 hz1 hz2 rfl (by decide) _ _ _ rfl (hown.alloc _) ⟨wr.heap.size, 0, none⟩ 1 1 [.bool false, .int .i64 (gr : Int)] rfl rfl ?c1B6 ?c2B6 ?c3B6 ?c4B6 ?c5B6 ?_)
                (try (case c1B6 => exact World.news_of_block (cs := #[.bool false, .int .i64 (gr : Int)]) (t := 52) (fr := (0, 0)) (heap_new rfl)))
                (try (case c2B6 => simp [Value.oneCell']))
                (try (case c3B6 => unfold maxLen; omega))
                (try (case c4B6 => omega))
                (try (case c5B6 => first | omega | (simp; omega)))
                intro v' w6 hown6 hgrow _
                have b6 := below_app hb (Nat.le_refl _) hown hgrow
                rw [← HSN.out] at hown6
                have HO := Lib.hid hown6
                clear hown6 hown hgrow hb
                go_wp2
                go_roundw
                case rel => exact ⟨k + 1, by omega, by go_num, by rw [HNX.out]; go_num, by rw [HNX.out], HO.out, b6⟩
                case measure => (first | (simp [intOf]; done) | (simp [intOf]; omega))
            · have hr4 : ¬ (gr : Int) < 4 := by omega
              have HL : Hid (Gv.loc ⟨gr, gp⟩ = ⟨true, gp⟩) := by show _ = _; simp [Gv.loc, h4]
              have HN2 : Hid (Gv.next ⟨gr, gp⟩ = ⟨gr, gp + 1⟩) := by show _ = _; simp [Gv.next, h4]
              rw [HL.out] at HSN
              rw [HN2.out] at HNX
              have hgp : (gp : Int) ≤ 1000 := by simp at hnr2; omega
              clear HFR HL HN2 h4
              go_wp2_with (at_builtin; refine wpList_append_own _ rfl _ _ 29 rfl w1.heap.size 52 i0 (.agg #[.bool false, .int .i64 0]) 2 16 Try.underlying29 hi0 hz0 hz1 hz2 rfl (by decide) _ _ _ rfl (hown.alloc _) ⟨wr.heap.size, 0, none⟩ 1 1 [.bool true, .int .i64 (gp : Int)] rfl rfl ?c1C6 ?c2C6 ?c3C6 ?c4C6 ?c5C6 ?_)
              (try (case c1C6 => exact World.news_of_block (cs := #[.bool true, .int .i64 (gp : Int)]) (t := 52) (fr := (0, 0)) (heap_new rfl)))
              (try (case c2C6 => simp [Value.oneCell']))
              (try (case c3C6 => unfold maxLen; omega))
              (try (case c4C6 => omega))
              (try (case c5C6 => first | omega | (simp; omega)))
              intro v' w6 hown6 hgrow _
              have b6 := below_app hb (Nat.le_refl _) hown hgrow
              rw [← HSN.out] at hown6
              have HO := Lib.hid hown6
              clear hown6 hown hgrow hb
              go_wp2
              go_roundw
              case rel => exact ⟨k + 1, by omega, by go_num, by rw [HNX.out], by rw [HNX.out]; go_num, HO.out, b6⟩
              case measure => (first | (simp [intOf]; done) | (simp [intOf]; omega))
          · have hi1 : ¬ (k : Int) < (n : Int) := by omega
            obtain rfl : k = n := by omega
            have hform := Row.of_own hown
            obtain ⟨A', c', rfl, -⟩ := hform
            have HO := Lib.hid hown
            clear hown
            go_wp2
            go_ret
            rw [HW.out]
            exact ⟨A', c', by rw [nexts_len]; rfl, by rw [nexts_len]; exact HO.out, hb⟩
end Go.Proofs.Ytkkjkbljgaipcaa
