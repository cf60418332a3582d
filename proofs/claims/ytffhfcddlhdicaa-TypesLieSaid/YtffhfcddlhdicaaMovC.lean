/- Contracts of the reference's Once and Row. -/
import Derived.Test.YtffhfcddlhdicaaMovB
import Derived.Deep.RegionHeld3
import Derived.Deep.DrawnRows
import Derived.OwnWalk
namespace Go.Proofs.Ytffhfcddlhdicaa
open Go.RowKit
set_option linter.unusedVariables false
set_option linter.unusedSimpArgs false
set_option maxRecDepth 100000
attribute [local go_sem ↓] eq_loc ne_loc Go.wp_at_zero Go.wp_at_succ
theorem info_held : (Try.prog.info? 71).map (fun i => (i.zero, i.size, i.bytes)) = some (some (.agg #[.bool false, .int .i64 0, .bool false, .int .i64 0]), 4, 32) := by kernel_rfl
theorem swap_take (l : List (Pl × Pl)) (k : Nat) (hk : k < l.length) : pcs ((l.take (k + 1)).map fun m => (m.2, m.1)) = pcs ((l.take k).map fun m => (m.2, m.1)) ++ [.bool l[k].2.s, .int .i64 l[k].2.n, .bool l[k].1.s, .int .i64 l[k].1.n] := by
  rw [List.take_succ_eq_append_getElem hk]
  simp only [List.map_append, pcs, List.flatMap_append]; rfl
def OnceRel (l : List (Pl × Pl)) (w : World) (out i : Value) (wr : World) : Prop :=
  ∃ k : Nat, k ≤ l.length ∧ i = .int .i64 k ∧ wr.ownsRow w.heap.size 71 4 out k (pcs ((l.take k).map fun m => (m.2, m.1))) ∧ Below w.heap.size w wr
theorem once_any (A : Option Addr) (c : Nat) (l : List (Pl × Pl)) (w : World) (hr : Row w A (pcs l)) (hn : l.length ≤ 1000000) :
    Calls Try.prog 19 #[.slice A l.length c] w fun e w' => ∃ v, e = .returned v ∧ w'.ownsRow w.heap.size 71 4 v l.length (pcs (l.map fun m => (m.2, m.1))) ∧ Below w.heap.size w w' := by
  obtain ⟨i0, hi, hz0, hz1, hz2⟩ := info_parts info_held
  go_enter Try.func19, Try.ntmps19
  go_wp2
  go_loopw [3, 4] (fun out i wr => OnceRel l w out i wr) (fun _ i _ => l.length - (intOf i).toNat)
  case atStart => exact ⟨0, Nat.zero_le _, rfl, World.ownsRow_nil _ _ _ _, Below.refl _ _⟩
  case round =>
    obtain ⟨k, hk, rfl, hown, hb⟩ := hrel
    by_cases hlt : k < l.length
    · obtain ⟨b, o, rfl, hbl, c0, c1, c2, c3⟩ := hr.pair (k := k) (by omega)
      rw [← keep_cell hb hbl] at c0 c1 c2 c3
      have hne := own_ne hown hbl
      have hbl2 : b < wr.heap.size := Nat.lt_of_lt_of_le hbl hb.size
      have HT := Lib.hid (swap_take l k hlt)
      generalize l[k] = h at *
      have hi1 : (k : Int) < (l.length : Int) := by omega
      go_wp2_with fail
      go_region_held3 (fun w' => w'.cell? ⟨b, o + k * 4, none⟩ = some (.bool h.1.s) ∧ w'.cell? ⟨b, o + k * 4 + 1, none⟩ = some (.int .i64 h.1.n) ∧ w'.cell? ⟨b, o + k * 4 + 2, none⟩ = some (.bool h.2.s) ∧ w'.cell? ⟨b, o + k * 4 + 3, none⟩ = some (.int .i64 h.2.n))
        (first | go_keep | (go_split_ands; refine ⟨?_, ?_, ?_, ?_⟩ <;> (rw [hgrow.cell_far _ (by simp; omega) hne]; assumption)))
        ((refine step_append_lies _ (by rfl) _ _ _ (by rfl) w.heap.size 71 i0 _ 4 32 Try.underlying37 hi hz0 hz1 hz2 rfl (by omega) _ k _ (by rfl) ((hown.alloc _).drew) ⟨wr.heap.size, 0, none⟩ 1 1 [.bool h.2.s, .int .i64 h.2.n, .bool h.1.s, .int .i64 h.1.n] (by rfl) (by rfl) (World.news_of_block (cs := #[.bool h.2.s, .int .i64 h.2.n, .bool h.1.s, .int .i64 h.1.n]) (t := 71) (fr := (0, 0)) (heap_alloc_new wr _)) (by simp [Value.oneCell']) (by omega) (by unfold maxLen; omega) (by omega) (by simp; exact Nat.le_trans hb.size (Nat.le_succ _)) (wr.heap.size + 1) (by simp) ?_; intro gg cap w1 hown1 hgrow hat hlt1))
      go_wp2
      go_roundw
      case rel => exact ⟨k + 1, by omega, by go_num, by rw [HT.out]; exact hown1, below_app_drew hb (Nat.le_refl _) hown hgrow⟩
      case measure => (first | (simp [intOf]; done) | (simp [intOf]; omega))
    · obtain rfl : k = l.length := by omega
      go_wp2
      go_ret
      exact ⟨_, rfl, by simpa using hown, hb⟩
def rowR : List (Pl × Pl) → List (Pl × Pl)
  | [] => []
  | m :: r => rowR r ++ [(m.2, atL (rowR r) m.1)]
/-- what a row of moves, done one by one, leaves -/
def rowL (l : List (Pl × Pl)) : List (Pl × Pl) := rowR l.reverse
theorem rowL_snoc (l : List (Pl × Pl)) (m : Pl × Pl) : rowL (l ++ [m]) = rowL l ++ [(m.2, atL (rowL l) m.1)] := by
  unfold rowL
  rw [List.reverse_append]
  rfl
theorem rowL_take (l : List (Pl × Pl)) (k : Nat) (hk : k < l.length) : pcs (rowL (l.take (k + 1))) = pcs (rowL (l.take k)) ++ [.bool l[k].2.s, .int .i64 l[k].2.n, .bool (atL (rowL (l.take k)) l[k].1).s, .int .i64 (atL (rowL (l.take k)) l[k].1).n] := by
  rw [List.take_succ_eq_append_getElem hk, rowL_snoc]
  simp only [pcs, List.flatMap_append]; rfl
theorem rowL_len (l : List (Pl × Pl)) : (rowL l).length = l.length := by
  have h : ∀ r, (rowR r).length = r.length := fun r => by
    induction r with
    | nil => rfl
    | cons m r ih => simp [rowR, ih]
  unfold rowL
  rw [h, List.length_reverse]
def RowRel (l : List (Pl × Pl)) (w : World) (out i : Value) (wr : World) : Prop :=
  ∃ k : Nat, k ≤ l.length ∧ i = .int .i64 k ∧ wr.ownsRow w.heap.size 71 4 out k (pcs (rowL (l.take k))) ∧ Below w.heap.size w wr
theorem row_any (A : Option Addr) (c : Nat) (l : List (Pl × Pl)) (w : World) (hr : Row w A (pcs l)) (hn : l.length ≤ 1000000) :
    Calls Try.prog 20 #[.slice A l.length c] w fun e w' => ∃ v, e = .returned v ∧ w'.ownsRow w.heap.size 71 4 v l.length (pcs (rowL l)) ∧ Below w.heap.size w w' := by
  obtain ⟨i0, hi, hz0, hz1, hz2⟩ := info_parts info_held
  go_enter Try.func20, Try.ntmps20
  go_wp2
  go_loopw [3, 4] (fun out i wr => RowRel l w out i wr) (fun _ i _ => l.length - (intOf i).toNat)
  case atStart => exact ⟨0, Nat.zero_le _, rfl, World.ownsRow_nil _ _ _ _, Below.refl _ _⟩
  case round =>
    obtain ⟨k, hk, rfl, hown, hb⟩ := hrel
    by_cases hlt : k < l.length
    · obtain ⟨b, o, rfl, hbl, c0, c1, c2, c3⟩ := hr.pair (k := k) (by omega)
      rw [← keep_cell hb hbl] at c0 c1 c2 c3
      have hne := own_ne hown hbl
      have hbl2 : b < wr.heap.size := Nat.lt_of_lt_of_le hbl hb.size
      have HT := Lib.hid (rowL_take l k hlt)
      have hlen : (rowL (l.take k)).length = k := by rw [rowL_len, List.length_take]; omega
      generalize rowL (l.take k) = out at *
      generalize l[k] = h at *
      have hi1 : (k : Int) < (l.length : Int) := by omega
      obtain ⟨A', c', rfl, hrow⟩ := Row.of_own hown
      subst hlen
      go_wp2_with (go_at_call 21; refine (at_any A' c' out h.1 _ hrow (by omega)).mono ?_; rintro e w1 ⟨rfl, hb1⟩)
      rw [← keep_cell hb1 hbl2] at c2 c3
      have hown1 := own_below hown hb1
      have hne2 := own_ne_new hown hb1.size
      have hbl3 : b < w1.heap.size := Nat.lt_of_lt_of_le hbl2 hb1.size
      have hbB := below_trans hb (Nat.le_refl _) hb1
      have hsz := hbB.size
      clear c0 c1
      generalize atL out h.1 = a at *
      go_region_held3 (fun w' => w'.cell? ⟨b, o + out.length * 4 + 2, none⟩ = some (.bool h.2.s) ∧ w'.cell? ⟨b, o + out.length * 4 + 3, none⟩ = some (.int .i64 h.2.n) ∧ w'.cell? ⟨w1.heap.size, 0, none⟩ = some (.bool a.s) ∧ w'.cell? ⟨w1.heap.size, 1, none⟩ = some (.int .i64 a.n))
        (first | go_keep | (go_split_ands; refine ⟨?_, ?_, ?_, ?_⟩ <;> (first | rw [hgrow.cell_far _ (by simp; omega) hne] | rw [hgrow.cell_far _ (by simp; try omega) hne2]) <;> assumption))
        ((refine step_append_lies _ (by rfl) _ _ _ (by rfl) w.heap.size 71 i0 _ 4 32 Try.underlying37 hi hz0 hz1 hz2 rfl (by omega) _ out.length _ (by rfl) (((hown1.alloc _).alloc _).drew) ⟨w1.heap.size + 1, 0, none⟩ 1 1 [.bool h.2.s, .int .i64 h.2.n, .bool a.s, .int .i64 a.n] (by rfl) (by rfl) (World.news_of_block (cs := #[.bool h.2.s, .int .i64 h.2.n, .bool a.s, .int .i64 a.n]) (t := 71) (fr := (0, 0)) (heap_new (by simp))) (by simp [Value.oneCell']) (by omega) (by unfold maxLen; omega) (by omega) (by simp; omega) (w1.heap.size + 1 + 1) (by simp) ?_; intro gg cap w2 hown2 hgrow hat hlt1))
      go_wp2
      go_roundw
      case rel => exact ⟨out.length + 1, by omega, by go_num, by rw [HT.out]; exact hown2, below_app_drew (hbB.alloc hsz _) (Nat.le_refl _) (hown1.alloc _) hgrow⟩
      case measure => (first | (simp [intOf]; done) | (simp [intOf]; omega))
    · obtain rfl : k = l.length := by omega
      go_wp2
      go_ret
      exact ⟨_, rfl, by simpa using hown, hb⟩
end Go.Proofs.Ytffhfcddlhdicaa
