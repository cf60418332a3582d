/- The walk of the law MovesDo. -/
import Derived.Test.YtffhfcddlhdicaaMovH
import Derived.Test.YtffhfcddlhdicaaMovC
import Derived.Deep.RegionHeld3
import Derived.Deep.DrawnRows
namespace Go.Proofs.Ytffhfcddlhdicaa
open Go.RowKit
set_option linter.unusedVariables false
set_option linter.unusedSimpArgs false
set_option maxRecDepth 100000
set_option maxHeartbeats 4000000
attribute [local go_sem ↓] eq_loc ne_loc Go.wp_at_zero Go.wp_at_succ
theorem info_loc : (Try.prog.info? 41).map (fun i => (i.zero, i.size, i.bytes)) = some (some (.agg #[.bool false, .int .i64 0]), 2, 16) := by kernel_rfl
def lc (p : Pl) : List Value := [.bool p.s, .int .i64 p.n]
theorem lc_len (p : Pl) : (lc p).length = 2 := rfl
def lcs (l : List Pl) : List Value := l.flatMap lc
def P1 (l : List (Pl × Pl)) (k : Nat) : List Pl := (l.take k).flatMap fun m => [m.2, m.1]
theorem P1_succ (l : List (Pl × Pl)) (k : Nat) (hk : k < l.length) : lcs (P1 l (k + 1)) = lcs (P1 l k) ++ [.bool l[k].2.s, .int .i64 l[k].2.n, .bool l[k].1.s, .int .i64 l[k].1.n] := by
  unfold P1
  rw [List.take_succ_eq_append_getElem hk, List.flatMap_append]
  simp only [lcs, List.flatMap_append]
  rfl
theorem P1_len (l : List (Pl × Pl)) (k : Nat) (hk : k ≤ l.length) : (P1 l k).length = 2 * k := by
  have : ∀ r : List (Pl × Pl), (r.flatMap fun m => [m.2, m.1]).length = 2 * r.length := fun r => by
    induction r with
    | nil => rfl
    | cons m r ih => rw [List.flatMap_cons, List.length_append, ih, List.length_cons]; simp; omega
  unfold P1
  rw [this, List.length_take, Nat.min_eq_left hk]
def P2 (l ol : List (Pl × Pl)) (k : Nat) : List Pl := P1 l l.length ++ (ol.take k).map (·.2)
theorem P2_succ (l ol : List (Pl × Pl)) (k : Nat) (hk : k < ol.length) : lcs (P2 l ol (k + 1)) = lcs (P2 l ol k) ++ [.bool ol[k].2.s, .int .i64 ol[k].2.n] := by
  unfold P2
  rw [List.take_succ_eq_append_getElem hk, List.map_append, ← List.append_assoc]
  simp only [lcs, List.flatMap_append]
  rfl
theorem P2_len (l ol : List (Pl × Pl)) (k : Nat) (hk : k ≤ ol.length) : (P2 l ol k).length = 2 * l.length + k := by
  unfold P2
  rw [List.length_append, P1_len l _ (Nat.le_refl _), List.length_map, List.length_take, Nat.min_eq_left hk]
theorem Row.pl {w : World} {A : Option Addr} {l : List Pl} (h : Row w A (lcs l)) {k : Nat} (hk : k < l.length) :
    ∃ b o, A = some ⟨b, o, none⟩ ∧ b < w.heap.size ∧ w.cell? ⟨b, o + k * 2, none⟩ = some (.bool l[k].s) ∧ w.cell? ⟨b, o + k * 2 + 1, none⟩ = some (.int .i64 l[k].n) := by
  have hf := fun j hj => flat_at lc 2 lc_len l k j hj
  have hx : l[k]? = some l[k] := List.getElem?_eq_getElem hk
  rw [hx] at hf
  obtain ⟨b, o, hA, hlt, hc⟩ := h.at_ (by
    intro e
    have := flat_len lc 2 lc_len l
    unfold lcs at e
    rw [e] at this
    simp at this
    omega)
  exact ⟨b, o, hA, hlt, hc (k * 2) _ (hf 0 (by omega)), hc (k * 2 + 1) _ (hf 1 (by omega))⟩
theorem ss_keep {wx w w' : World} {b o k : Nat} {u v : Value} (hbl : b < wx.heap.size) (h : Below wx.heap.size wx w ∧ w.cell? ⟨b, o + k * 2, none⟩ = some u ∧ w.cell? ⟨b, o + k * 2 + 1, none⟩ = some v) (hb : Below w.heap.size w w') :
    Below wx.heap.size wx w' ∧ w'.cell? ⟨b, o + k * 2, none⟩ = some u ∧ w'.cell? ⟨b, o + k * 2 + 1, none⟩ = some v :=
  ⟨below_trans h.1 (Nat.le_refl _) hb, (keep_cell hb (Nat.lt_of_lt_of_le hbl h.1.size)).trans h.2.1, (keep_cell hb (Nat.lt_of_lt_of_le hbl h.1.size)).trans h.2.2⟩
theorem ss_left {wx w : World} (b o k : Nat) (u v : Value) (h : Below wx.heap.size wx w ∧ w.cell? ⟨b, o + k * 2, none⟩ = some u ∧ w.cell? ⟨b, o + k * 2 + 1, none⟩ = some v) : Below wx.heap.size wx w := h.1
theorem ss_draw {wx w : World} {b o k : Nat} {u v : Value} (h : Below wx.heap.size wx w ∧ w.cell? ⟨b, o + k * 2, none⟩ = some u ∧ w.cell? ⟨b, o + k * 2 + 1, none⟩ = some v) :
    Below wx.heap.size wx w.drew ∧ w.drew.cell? ⟨b, o + k * 2, none⟩ = some u ∧ w.drew.cell? ⟨b, o + k * 2 + 1, none⟩ = some v := ⟨h.1.drew, h.2.1, h.2.2⟩
def L1 (l : List (Pl × Pl)) (w w3 : World) (i pv : Value) (wr : World) : Prop :=
  ∃ k : Nat, k ≤ l.length ∧ i = .int .i64 k ∧ wr.ownsRow w3.heap.size 41 2 pv (2 * k) (lcs (P1 l k)) ∧ Below w3.heap.size w3 wr
def L2 (l ol : List (Pl × Pl)) (w3 : World) (i pv : Value) (wr : World) : Prop :=
  ∃ k : Nat, k ≤ ol.length ∧ i = .int .i64 k ∧ wr.ownsRow w3.heap.size 41 2 pv (2 * l.length + k) (lcs (P2 l ol k)) ∧ Below w3.heap.size w3 wr
theorem moves_do (A : Option Addr) (c : Nat) (l : List (Pl × Pl)) (tmp : Int) (w : World) (hr : Row w A (pcs l)) (hmx : l.length ≤ 9223372036854775807) :
    Calls Try.prog 6 #[.slice A l.length c, .int .i64 tmp] w fun e w' => e = .returned (.bool true) ∧ Below w.heap.size w w' := by
  obtain ⟨i0, hi, hz0, hz1, hz2⟩ := info_parts info_loc
  by_cases hch : chk l tmp = 0
  · have hlen : l.length ≤ 100 := by
      rcases Nat.lt_or_ge 100 l.length with h | h
      · rw [chk_1 l tmp h] at hch; cases hch
      · exact h
    have HC := Lib.hid hch
    clear hch
    go_enter Try.func6, Try.ntmps6
    go_wp2_with fail
    refine (row2_any A c l tmp _ hr hmx).mono ?_
    rintro e w1 ⟨hb1, -, h0⟩
    obtain ⟨v, ol, rfl, hown, hlo, hsig⟩ := h0 HC.out
    clear h0
    obtain ⟨A1, c1, rfl, hrow1⟩ := Row.of_own hown
    have hr1 := hr.keep hb1
    have HS := Lib.hid hsig
    clear hsig hown
    have hq0 : ((0 : Int) != chk l tmp) = false := by rw [HC.out]; rfl
    have hq1 : decide (l.length + l.length / 2 < ol.length) = false := by simp; omega
    have hl2 : l.length ≤ 9223372036854775807 := by omega
    go_wp2_with fail
    refine (check_any A c l tmp _ hr1 hmx).mono ?_
    rintro e w2 ⟨rfl, hb2⟩
    have hr2 := hr1.keep hb2
    have hrow2 := hrow1.keep hb2
    go_wp2_with fail
    refine (once_any A c l _ hr2 (by omega)).mono ?_
    rintro e w3 ⟨vo, rfl, hO, hb3⟩
    have hrow3 := hrow2.keep hb3
    have hr3 := hr2.keep hb3
    go_wp2_with fail
    refine (row_any A1 c1 ol _ hrow3 (by omega)).mono ?_
    rintro e w4 ⟨vt, rfl, hT, hb4⟩
    obtain ⟨Ao, co, rfl, hrO⟩ := Row.of_own hO
    obtain ⟨At, ct, rfl, hrT⟩ := Row.of_own hT
    have hrO4 := hrO.keep hb4
    have hrow4 := hrow3.keep hb4
    have hr4 := hr3.keep hb4
    have hbW := below_trans (below_trans (below_trans hb1 (Nat.le_refl _) hb2) (Nat.le_refl _) hb3) (Nat.le_refl _) hb4
    clear hO hT hrO hrow1 hrow2 hrow3 hr1 hr2 hr3 hb1 hb2 hb3 hb4 hr
    obtain ⟨wb, rfl⟩ : ∃ wb : World, wb = w4 := ⟨_, rfl⟩
    have hol : ol.length ≤ 150 := by omega
    go_wp2
    go_loopg [10, 11] l.length (fun gk pv i wr => gk + (intOf i).toNat = l.length ∧ L1 l w wb i pv wr)
    case atStart => exact ⟨rfl, 0, Nat.zero_le _, rfl, World.ownsRow_nil _ _ _ _, Below.refl _ _⟩
    case round =>
      obtain ⟨hgk, k, hk, rfl, hown, hb⟩ := hrel
      simp only [intOf, Int.toNat_natCast] at hgk
      have HGK := Lib.hid hgk
      clear hgk
      by_cases hlt : k < l.length
      · obtain ⟨b, o, rfl, hbl, c0, c1', c2, c3⟩ := hr4.pair (k := k) (by omega)
        rw [← keep_cell hb hbl] at c0 c1' c2 c3
        have hne := own_ne hown hbl
        have hsz := hb.size
        have hbl2 : b < wr.heap.size := Nat.lt_of_lt_of_le hbl hb.size
        have HT := Lib.hid (P1_succ l k hlt)
        generalize lcs (P1 l k) = xs at *
        generalize l[k] = h at *
        have hi1 : (k : Int) < (l.length : Int) := by omega
        go_wp2_with fail
        go_region_held3 (fun w' => w'.cell? ⟨b, o + k * 4, none⟩ = some (.bool h.1.s) ∧ w'.cell? ⟨b, o + k * 4 + 1, none⟩ = some (.int .i64 h.1.n) ∧ w'.cell? ⟨b, o + k * 4 + 2, none⟩ = some (.bool h.2.s) ∧ w'.cell? ⟨b, o + k * 4 + 3, none⟩ = some (.int .i64 h.2.n))
          (first | go_keep | (go_split_ands; refine ⟨?_, ?_, ?_, ?_⟩ <;> (rw [hgrow.cell_far _ (by simp; omega) hne]; assumption)))
          ((refine step_append_lies _ (by rfl) _ _ _ (by rfl) wb.heap.size 41 i0 _ 2 16 Try.underlying39 hi hz0 hz1 hz2 rfl (by omega) _ (2 * k) xs (by rfl) ((hown.alloc _).drew) ⟨wr.heap.size, 0, none⟩ 2 2 [.bool h.2.s, .int .i64 h.2.n, .bool h.1.s, .int .i64 h.1.n] (by rfl) (by rfl) (World.news_of_block (cs := #[.bool h.2.s, .int .i64 h.2.n, .bool h.1.s, .int .i64 h.1.n]) (t := 41) (fr := (0, 0)) (heap_new rfl)) (by simp [Value.oneCell']) (by omega) (by unfold maxLen; omega) (by omega) (by simp; omega) (wr.heap.size + 1) (by simp) ?_; intro gg cap w5 hown1 hgrow hat hlt1))
        go_wp2
        go_roundg (gk - 1)
        case measure => have := HGK.out; omega
        case rel => exact ⟨by have := HGK.out; simp [intOf]; omega, k + 1, by omega, by go_num, by rw [HT.out]; exact hown1, below_app_drew hb (Nat.le_refl _) hown hgrow⟩
      · obtain rfl : k = l.length := by omega
        clear HGK
        have hown' : wr.ownsRow wb.heap.size 41 2 u10 (2 * l.length + 0) (lcs (P2 l ol 0)) := by simpa [P2] using hown
        clear hown
        go_wp2
        go_loopg [10, 12] ol.length (fun gk pv i wr => gk + (intOf i).toNat = ol.length ∧ L2 l ol wb i pv wr)
        case atStart => exact ⟨rfl, 0, Nat.zero_le _, rfl, hown', hb⟩
        case round =>
          clear hown' hb
          obtain ⟨hgk, k, hk, rfl, hown, hb⟩ := hrel
          simp only [intOf, Int.toNat_natCast] at hgk
          have HGK := Lib.hid hgk
          clear hgk
          by_cases hlt : k < ol.length
          · obtain ⟨b, o, rfl, hbl, -, -, c2, c3⟩ := hrow4.pair (k := k) (by omega)
            rw [← keep_cell hb hbl] at c2 c3
            have hsz := hb.size
            have hbl2 : b < wr.heap.size := Nat.lt_of_lt_of_le hbl hb.size
            have HT := Lib.hid (P2_succ l ol k hlt)
            generalize lcs (P2 l ol k) = xs at *
            generalize ol[k] = h at *
            have hi1 : (k : Int) < (ol.length : Int) := by omega
            go_wp2_with (at_builtin; go_must ((refine wpList_append_lies _ rfl _ _ _ rfl wb.heap.size 41 i0 _ 2 16 Try.underlying39 hi hz0 hz1 hz2 rfl (by omega) _ (2 * l.length + k) xs (by rfl) (hown.alloc _) ⟨wr.heap.size, 0, none⟩ 1 1 (lc h.2) (by rfl) (by rfl) (World.news_of_block (cs := (lc h.2).toArray) (t := 41) (fr := (0, 0)) (heap_new (by simp))) (by simp [lc, Value.oneCell']) (by omega) (by unfold maxLen; omega) (by omega) (by simp; omega) (wr.heap.size + 1) (by simp) ?_; intro gg cap w5 hown1 hgrow hat hlt1)))
            go_roundg (gk - 1)
            case measure => have := HGK.out; omega
            case rel => exact ⟨by have := HGK.out; simp [intOf]; omega, k + 1, by omega, by go_num, by rw [HT.out]; exact hown1, below_app hb (Nat.le_refl _) hown hgrow⟩
          · obtain rfl : k = ol.length := by omega
            clear HGK
            obtain ⟨Ap, cp, rfl, hrP⟩ := Row.of_own hown
            have hpl := P2_len l ol ol.length (Nat.le_refl _)
            have HPL := Lib.hid hpl.symm
            clear hpl hown
            generalize P2 l ol ol.length = PL at *
            have hn3 : 2 * l.length + ol.length ≤ 400 := by omega
            obtain ⟨n3, hn3e⟩ : ∃ n3, n3 = 2 * l.length + ol.length := ⟨_, rfl⟩
            rw [← hn3e] at hn3 HPL ⊢
            clear hn3e
            have hrO5 := hrO4.keep (hb.mono (Nat.le_refl _))
            have hrT5 := hrT.keep hb
            go_wp2
            obtain ⟨wx, rfl⟩ : ∃ wx : World, wx = wr := ⟨_, rfl⟩
            go_loopg [13] n3 (fun gk i wr2 => gk + (intOf i).toNat = n3 ∧ ∃ k : Nat, k ≤ n3 ∧ i = .int .i64 k ∧ Below wx.heap.size wx wr2)
            case atStart => exact ⟨rfl, 0, Nat.zero_le _, rfl, Below.refl _ _⟩
            case round =>
              obtain ⟨hgk, k, hk, rfl, hb3⟩ := hrel
              simp only [intOf, Int.toNat_natCast] at hgk
              have HGK := Lib.hid hgk
              clear hgk
              by_cases hlt : k < n3
              · have hkP : k < PL.length := by rw [← HPL.out]; exact hlt
                obtain ⟨b, o, rfl, hbl, d0, d1⟩ := hrP.pl (k := k) hkP
                rw [← keep_cell hb3 hbl] at d0 d1
                have hsz := hb3.size
                have hi1 : (k : Int) < (n3 : Int) := by omega
                generalize PL[k] = p at *
                by_cases he : p = ⟨false, tmp⟩
                · have hq : leq p.s p.n false tmp = true := leq_yes (y := ⟨false, tmp⟩) he
                  clear he
                  go_wp2
                  go_roundg (gk - 1)
                  case measure => have := HGK.out; omega
                  case rel => exact ⟨by have := HGK.out; simp [intOf]; omega, k + 1, by omega, by go_num, hb3⟩
                · have hq : leq p.s p.n false tmp = false := leq_no (y := ⟨false, tmp⟩) he
                  have hs := HS.out p he
                  clear he
                  have HO : Hid (∀ W, (Below wx.heap.size wx W ∧ W.cell? ⟨b, o + k * 2, none⟩ = some (.bool p.s) ∧ W.cell? ⟨b, o + k * 2 + 1, none⟩ = some (.int .i64 p.n)) → Calls Try.prog 21 #[.slice Ao l.length co, .agg #[.bool p.s, .int .i64 p.n]] W fun e w' => e = .returned (.agg #[.bool (want l p).s, .int .i64 (want l p).n]) ∧ Below W.heap.size W w') := fun W hW => by
                    have := at_any Ao co (l.map fun m => (m.2, m.1)) p W (hrO5.keep hW.1) (by rw [List.length_map]; omega)
                    rw [List.length_map] at this
                    exact this
                  have HT : Hid (∀ W, (Below wx.heap.size wx W ∧ W.cell? ⟨b, o + k * 2, none⟩ = some (.bool p.s) ∧ W.cell? ⟨b, o + k * 2 + 1, none⟩ = some (.int .i64 p.n)) → Calls Try.prog 21 #[.slice At ol.length ct, .agg #[.bool p.s, .int .i64 p.n]] W fun e w' => e = .returned (.agg #[.bool (want l p).s, .int .i64 (want l p).n]) ∧ Below W.heap.size W w') := fun W hW => by
                    have := at_any At ct (rowL ol) p W (hrT5.keep hW.1) (by rw [rowL_len]; omega)
                    rw [rowL_len] at this
                    rw [← hs]
                    exact this
                  clear hs
                  generalize want l p = a at *
                  have hqq : leq a.s a.n a.s a.n = true := leq_yes rfl
                  go_wp2_with fail
                  go_region_held3 (fun w' => Below wx.heap.size wx w' ∧ w'.cell? ⟨b, o + k * 2, none⟩ = some (.bool p.s) ∧ w'.cell? ⟨b, o + k * 2 + 1, none⟩ = some (.int .i64 p.n))
                    (first | exact ⟨hb3.drew, d0, d1⟩ | exact ss_keep hbl (by assumption) hbq | exact ss_draw (by assumption) | go_keep)
                    (first | (go_at_call 21; ((with_reducible refine (HO.out _ (by assumption)).mono ?_); rintro e w' ⟨rfl, hbq⟩)) | (go_at_call 21; ((with_reducible refine (HT.out _ (by assumption)).mono ?_); rintro e w' ⟨rfl, hbq⟩)))
                  all_goals
                    go_wp2
                    go_roundg (gk - 1)
                    case measure => have := HGK.out; omega
                    case rel => exact ⟨by have := HGK.out; simp [intOf]; omega, k + 1, by omega, by go_num, ss_left b o k (.bool p.s) (.int .i64 p.n) (by assumption)⟩
              · go_wp2
                go_ret
                exact ⟨rfl, below_trans (below_trans hbW (Nat.le_refl _) hb) (Nat.le_refl _) hb3⟩
  · have HC := Lib.hid hch
    have hcb : (chk l tmp != 0) = true := by simpa using hch
    go_enter Try.func6, Try.ntmps6
    go_wp2_with fail
    refine (row2_any A c l tmp _ hr hmx).mono ?_
    rintro e w1 ⟨hb1, h0, -⟩
    obtain rfl := h0 HC.out
    go_wp2_with fail
    refine (check_any A c l tmp _ (hr.keep hb1) hmx).mono ?_
    rintro e w2 ⟨rfl, hb2⟩
    go_wp2
    go_ret
    exact ⟨rfl, below_trans hb1 (Nat.le_refl _) hb2⟩
end Go.Proofs.Ytffhfcddlhdicaa
