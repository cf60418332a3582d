/- Words and laws for the walk of moves.Row: what is left lies in a block of the call's own; one is cut out of it. -/
import Derived.Test.YtffhfcddlhdicaaMovP
import Derived.StillTailTactics
import Derived.Deep.DeepMust
import Derived.Deep.LoopGhost
namespace Go.Proofs.Ytffhfcddlhdicaa
open Go.RowKit
set_option linter.unusedVariables false
set_option linter.unusedSimpArgs false
set_option maxRecDepth 100000
attribute [local go_sem ↓] eq_loc ne_loc Go.wp_at_zero Go.wp_at_succ
theorem info_move : (Try.prog.info? 43).map (fun i => (i.zero, i.size, i.bytes)) = some (some (.agg #[.bool false, .int .i64 0, .bool false, .int .i64 0]), 4, 32) := by kernel_rfl
theorem leftK0_yes (l : List (Pl × Pl)) (k : Nat) (hk : k < l.length) (h : ¬ l[k].1 = l[k].2) : leftK0 (l.take (k + 1)) = leftK0 (l.take k) ++ [l[k]] := by
  rw [List.take_succ_eq_append_getElem hk]
  unfold leftK0
  rw [List.filter_append, List.filter_cons, List.filter_nil, if_pos (by simpa using h)]
theorem leftK0_no (l : List (Pl × Pl)) (k : Nat) (hk : k < l.length) (h : l[k].1 = l[k].2) : leftK0 (l.take (k + 1)) = leftK0 (l.take k) := by
  rw [List.take_succ_eq_append_getElem hk]
  unfold leftK0
  rw [List.filter_append, List.filter_cons, List.filter_nil, if_neg (by simpa using h), List.append_nil]
theorem leftK0_le (l : List (Pl × Pl)) (k : Nat) : (leftK0 (l.take k)).length ≤ k := Nat.le_trans (List.length_filter_le _ _) (List.length_take_le _ _)
def R1 (l : List (Pl × Pl)) (w : World) (B : Nat) (i : Value) (wr : World) : Prop :=
  ∃ k v, k ≤ l.length ∧ i = .int .i64 (k : Nat) ∧ Blk wr B 32 #[v] ∧ wr.ownsRow w.heap.size 43 4 v (leftK0 (l.take k)).length (pcs (leftK0 (l.take k))) ∧ Below w.heap.size w wr
def LeftAt (wr : World) (base : Nat) (v : Value) (left : List (Pl × Pl)) : Prop :=
  ∃ A c, v = .slice A left.length c ∧ left.length ≤ c ∧ c ≤ maxLen ∧ (left = [] ∨ ∃ g cur, A = some ⟨g, 0, none⟩ ∧ base ≤ g ∧ Blk wr g 43 cur ∧ cur.toList.take (left.length * 4) = pcs left)
theorem left_of_own {w : World} {base : Nat} {v : Value} {left : List (Pl × Pl)} (h : w.ownsRow base 43 4 v left.length (pcs left)) : LeftAt w base v left := by
  rcases h.2 with ⟨rfl, h0⟩ | ⟨g, cap, cur, rfl, h1, h2, h3, h4, h5, h6⟩
  · exact ⟨none, 0, by rw [h0], by omega, by unfold maxLen; omega, .inl (List.eq_nil_of_length_eq_zero h0)⟩
  · exact ⟨some ⟨g, 0, none⟩, cap, rfl, h3, h4, .inr ⟨g, cur, rfl, h1, h2, h6⟩⟩
def AllIn (left : List (Pl × Pl)) (j : Nat) : Prop := ∀ x ∈ left.take j, x.2 ∈ froms left
theorem allIn_succ (left : List (Pl × Pl)) (j : Nat) (hj : j < left.length) (h : AllIn left j) (h' : left[j].2 ∈ froms left) : AllIn left (j + 1) := by
  intro x hx
  rw [List.take_succ_eq_append_getElem hj, List.mem_append, List.mem_singleton] at hx
  rcases hx with hx | rfl
  · exact h x hx
  · exact h'
def R2 (l : List (Pl × Pl)) (t : Pl) (w : World) (B : Nat) (gk : Nat) (out : Value) (wr : World) : Prop :=
  ∃ left ol vl, Inv l t (leftK0 l).length left ol ∧ meas t left ≤ gk ∧ ol.length + gk ≤ 1000 ∧ Blk wr B 32 #[vl] ∧ LeftAt wr w.heap.size vl left ∧ wr.ownsRow w.heap.size 43 4 out ol.length (pcs ol) ∧ (∀ b, vl.ownBlock = some b → out.ownBlock ≠ some b) ∧ Below w.heap.size w wr
theorem sl1 (b n c j : Nat) (w : World) (h : j ≤ c) (hc : c ≤ 9223372036854775807) : (Instr.slice 32 (.slice (some ⟨b, 0, none⟩) n c) none (some (.int .i64 (j : Int))) (some (.int .i64 (j : Int)))).run Try.prog w = .ok (.slice (some ⟨b, 0, none⟩) j j) w := by
  simp [go_sem, Try.underlying32, h]
theorem sl2 (b n c j : Nat) (w : World) (h : j + 1 ≤ n) (hn : n ≤ c) (hc : c ≤ 9223372036854775807) : (Instr.slice 32 (.slice (some ⟨b, 0, none⟩) n c) (some (.int .i64 ((j : Int) + 1))) none none).run Try.prog w = .ok (.slice (some ⟨b, if c = j + 1 then 0 else (j + 1) * 4, none⟩) (n - (j + 1)) (c - (j + 1))) w := by
  have e : (some ⟨b, if c = j + 1 then 0 else (j + 1) * 4, none⟩ : Option Addr) = (if c = j + 1 then some ⟨b, 0, none⟩ else some ⟨b, (j + 1) * 4, none⟩) := by split <;> rfl
  rw [e]
  simp [go_sem, Try.underlying32]
  intro h0
  exact absurd (h0 (by omega)) (by omega)
theorem erase_pcs (left : List (Pl × Pl)) (j : Nat) : pcs (left.eraseIdx j) = pcs (left.take j) ++ pcs (left.drop (j + 1)) := by
  rw [List.eraseIdx_eq_take_drop_succ]
  simp only [pcs, List.flatMap_append]
theorem pcs_take (left : List (Pl × Pl)) (j : Nat) : pcs (left.take j) = (pcs left).take (j * 4) := by
  induction left generalizing j with
  | nil => simp [pcs]
  | cons m left ih =>
    cases j with
    | zero => simp [pcs]
    | succ j =>
      rw [List.take_succ_cons]
      show pc m ++ pcs (left.take j) = (pc m ++ pcs left).take ((j + 1) * 4)
      have h4 : (pc m).length ≤ (j + 1) * 4 := by rw [pc_len]; omega
      rw [ih, List.take_append, List.take_of_length_le h4, pc_len, show (j + 1) * 4 - 4 = j * 4 from by omega]
theorem pcs_drop (left : List (Pl × Pl)) (j : Nat) : pcs (left.drop j) = (pcs left).drop (j * 4) := by
  induction left generalizing j with
  | nil => simp [pcs]
  | cons m left ih =>
    cases j with
    | zero => simp [pcs]
    | succ j =>
      rw [List.drop_succ_cons]
      show pcs (left.drop j) = (pc m ++ pcs left).drop ((j + 1) * 4)
      have h4 : (pc m).length ≤ (j + 1) * 4 := by rw [pc_len]; omega
      rw [ih, List.drop_append, List.drop_of_length_le h4, pc_len, show (j + 1) * 4 - 4 = j * 4 from by omega, List.nil_append]
theorem pcs_len (left : List (Pl × Pl)) : (pcs left).length = left.length * 4 := flat_len pc 4 pc_len left
/-- append(left[:j:j], left[j+1:]...): the move j is gone -/
theorem run_cut (W : World) (base b d c : Nat) (cur : Array Value) (left : List (Pl × Pl)) (j : Nat) (hj : j < left.length) (hl : left.length ≤ 500) (hc : left.length ≤ c) (hb : base ≤ b) (hB : base ≤ W.heap.size)
    (hk : Blk W b 43 cur) (ht : cur.toList.take (left.length * 4) = pcs left) (ty : TypeId) :
    ∃ v' w', (Builtin.append_ #[32, 32] ty #[.slice (some ⟨b, 0, none⟩) j j, .slice (some ⟨b, if c = j + 1 then 0 else (j + 1) * 4, none⟩) (left.length - (j + 1)) d]).run Try.prog W = .ok v' w' ∧
      (LeftAt w' base v' (left.eraseIdx j) ∧ W.grownBy w' none ∧ (v'.ownBlock = some b ∨ v'.ownBlock = some W.heap.size)) := by
  obtain ⟨i0, hi, hz0, hz1, hz2⟩ := info_parts info_move
  by_cases hlast : left.length = j + 1
  · refine ⟨.slice (some ⟨b, 0, none⟩) j j, W, ?_, ⟨some ⟨b, 0, none⟩, j, ?_, ?_, ?_, ?_⟩, World.grownBy.refl W _, .inl rfl⟩
    · rw [hlast, Nat.sub_self]
      simp [Builtin.append_, run_underlying Try.underlying32, sizeOf, typeInfo, hi, Builtin.lenOf, Builtin.firstCells, loadCells, loadCellsFrom, storeCells]
    · rw [List.length_eraseIdx_of_lt hj, hlast, Nat.add_sub_cancel]
    · rw [List.length_eraseIdx_of_lt hj]; omega
    · unfold maxLen; omega
    · refine .inr ⟨b, cur, rfl, hb, hk, ?_⟩
      rw [List.length_eraseIdx_of_lt hj, hlast, Nat.add_sub_cancel, erase_pcs, List.drop_of_length_le (by omega), pcs_take, ← ht, List.take_take, Nat.min_eq_left (by omega)]
      simp [pcs]
  · have hc1 : ¬ c = j + 1 := by omega
    rw [if_neg hc1]
    have hrow := Row.of_blk hk ht
    obtain ⟨b', o', hA, hlt, hcell⟩ := hrow.at_ (by intro e; have := pcs_len left; rw [e] at this; simp at this; omega)
    obtain ⟨rfl, rfl⟩ : b = b' ∧ 0 = o' := by simpa using hA
    have hol : (pcs (left.take j)).length = j * i0.size := by rw [pcs_len, List.length_take, hz1, Nat.min_eq_left (by omega)]
    have hnl : (pcs (left.drop (j + 1))).length = (left.length - (j + 1)) * i0.size := by rw [pcs_len, List.length_drop, hz1]
    have hr := run_append_grow (P := Try.prog) W 32 ty 43 i0 _ Try.underlying32 hi hz0 ⟨b, 0, none⟩ j j (pcs (left.take j)) hol
      (fun k v hk' => by
        rw [add_plain_]
        refine hcell k v ?_
        rw [pcs_take, List.getElem?_take] at hk'
        split at hk'
        · exact hk'
        · cases hk')
      ⟨b, (j + 1) * 4, none⟩ (left.length - (j + 1)) d (pcs (left.drop (j + 1))) hnl
      (fun k v hk' => by
        rw [add_plain_]
        rw [pcs_drop, List.getElem?_drop] at hk'
        have := hcell _ v hk'
        rwa [Nat.zero_add] at this)
      (by omega) (by omega) (growslice_fits (by omega) (by rw [hz2]; omega))
    have hge := grownCap_ge W (j + (left.length - (j + 1))) j 43
    have hcm : grownCap W (j + (left.length - (j + 1))) j 43 ≤ maxLen := grownCap_le_maxLen W _ j _ (by unfold maxLen; omega)
    have hel : (left.eraseIdx j).length = j + (left.length - (j + 1)) := by rw [List.length_eraseIdx_of_lt hj]; omega
    refine ⟨_, _, hr, ⟨some ⟨W.heap.size, 0, none⟩, _, by rw [hel], by rw [hel]; exact hge, hcm, .inr ⟨W.heap.size, _, rfl, hB, heap_alloc_new W.drew _, ?_⟩⟩, ⟨rfl, rfl, rfl, by simp, fun k hk' _ => Below.heap_alloc W.drew _ k hk'⟩, .inr rfl⟩
    have hlen : (pcs (left.take j) ++ pcs (left.drop (j + 1))).length = (left.eraseIdx j).length * 4 := by rw [List.length_append, hol, hnl, hel, hz1, Nat.add_mul]
    simp only [Array.toList_append, List.append_assoc]
    rw [← List.append_assoc, ← hlen, List.take_left', erase_pcs]
    rfl
theorem LeftAt.set_ {w : World} {base B : Nat} {v : Value} {left : List (Pl × Pl)} {cs : Array Value} (h : LeftAt w base v left) (hB : Blk w B 32 cs) (i : Nat) (u : Value) : LeftAt (w.setCell ⟨B, i, none⟩ u) base v left := by
  obtain ⟨A, c, h1, h2, h3, h4⟩ := h
  refine ⟨A, c, h1, h2, h3, h4.imp id ?_⟩
  rintro ⟨g, cur, h5, h6, h7, h8⟩
  exact ⟨g, cur, h5, h6, h7.far (h7.ne_ hB (by decide)) _, h8⟩
/-- the first i done, the others not yet -/
def mixed (held t : Pl) (left : List (Pl × Pl)) (i : Nat) : List (Pl × Pl) := substL held t (left.take i) ++ left.drop i
theorem mixed_zero (held t : Pl) (left : List (Pl × Pl)) : mixed held t left 0 = left := by simp [mixed, substL]
theorem mixed_all (held t : Pl) (left : List (Pl × Pl)) : mixed held t left left.length = substL held t left := by simp [mixed]
theorem mixed_len (held t : Pl) (left : List (Pl × Pl)) (i : Nat) (hi : i ≤ left.length) : (mixed held t left i).length = left.length := by
  simp [mixed, substL]; omega
theorem substL_len (held t : Pl) (left : List (Pl × Pl)) : (substL held t left).length = left.length := by simp [substL]
theorem mixed_at (held t : Pl) (left : List (Pl × Pl)) (i : Nat) (hi : i < left.length) (h : i < (mixed held t left i).length) : (mixed held t left i)[i] = left[i] := by
  have e : (mixed held t left i)[i]? = some left[i] := by
    unfold mixed
    rw [List.getElem?_append_right (by rw [substL_len, List.length_take]; omega), substL_len, List.length_take, Nat.min_eq_left (by omega), Nat.sub_self, List.getElem?_drop, Nat.add_zero, List.getElem?_eq_getElem hi]
  rw [List.getElem?_eq_getElem h] at e
  injection e
theorem mixed_succ (held t : Pl) (left : List (Pl × Pl)) (i : Nat) (hi : i < left.length) : mixed held t left (i + 1) = substL held t (left.take i) ++ subst1 held t left[i] :: left.drop (i + 1) := by
  unfold mixed
  rw [List.take_succ_eq_append_getElem hi]
  unfold substL
  rw [List.map_append, List.append_assoc]
  rfl
theorem mixed_no (held t : Pl) (left : List (Pl × Pl)) (i : Nat) (hi : i < left.length) (h : left[i].1 ≠ held) : mixed held t left (i + 1) = mixed held t left i := by
  rw [mixed_succ held t left i hi]
  unfold mixed subst1
  rw [if_neg h, List.getElem_cons_drop hi]
theorem pcs_cons (m : Pl × Pl) (l : List (Pl × Pl)) : pcs (m :: l) = .bool m.1.s :: .int .i64 m.1.n :: .bool m.2.s :: .int .i64 m.2.n :: pcs l := rfl
theorem pcs_app (a b : List (Pl × Pl)) : pcs (a ++ b) = pcs a ++ pcs b := by simp [pcs]
theorem mixed_yes (held t : Pl) (left : List (Pl × Pl)) (i : Nat) (hi : i < left.length) (h : left[i].1 = held) :
    pcs (mixed held t left (i + 1)) = ((pcs (mixed held t left i)).set (i * 4) (.bool t.s)).set (i * 4 + 1) (.int .i64 t.n) := by
  have e0 : mixed held t left i = substL held t (left.take i) ++ left[i] :: left.drop (i + 1) := by unfold mixed; rw [List.getElem_cons_drop hi]
  rw [mixed_succ held t left i hi, e0]
  unfold subst1
  rw [if_pos h, pcs_app, pcs_app, pcs_cons, pcs_cons]
  have hl : (pcs (substL held t (left.take i))).length = i * 4 := by rw [pcs_len, substL_len, List.length_take]; congr 1; omega
  rw [List.set_append_right _ _ (by omega), hl, Nat.sub_self]
  rw [List.set_append_right _ _ (by omega), hl, Nat.add_sub_cancel_left]
  rfl
theorem blk_set2 {w : World} {b : Nat} {cur : Array Value} {n i : Nat} {xs : List Value} (h : Blk w b 43 cur) (ht : cur.toList.take n = xs) (u v : Value) :
    Blk ((w.setCell ⟨b, i, none⟩ u).setCell ⟨b, i + 1, none⟩ v) b 43 ((cur.setIfInBounds i u).setIfInBounds (i + 1) v) ∧ ((cur.setIfInBounds i u).setIfInBounds (i + 1) v).toList.take n = (xs.set i u).set (i + 1) v := by
  refine ⟨(h.set_ i u).set_ (i + 1) v, ?_⟩
  rw [Array.toList_setIfInBounds, Array.toList_setIfInBounds, List.take_set, List.take_set, ht]
def R4 (left : List (Pl × Pl)) (held t : Pl) (w : World) (base B H b c : Nat) (ov : Value) (ol : List (Pl × Pl)) (i : Value) (wr : World) : Prop :=
  ∃ k cur, k ≤ left.length ∧ i = .int .i64 (k : Nat) ∧ Blk wr b 43 cur ∧ cur.toList.take (left.length * 4) = pcs (mixed held t left k) ∧
    Blk wr B 32 #[.slice (some ⟨b, 0, none⟩) left.length c] ∧ Blk wr H 41 #[.bool held.s, .int .i64 held.n] ∧ wr.ownsRow base 43 4 ov ol.length (pcs ol) ∧ Below base w wr
def RowPost (l : List (Pl × Pl)) (tmp : Int) (w : World) (e : Ending) (w' : World) : Prop :=
  Below w.heap.size w w' ∧ (chk l tmp ≠ 0 → e = .returned (.tuple #[.slice none 0 0, .int .i64 (chk l tmp)])) ∧
    (chk l tmp = 0 → ∃ v ol, e = .returned (.tuple #[v, .int .i64 0]) ∧ w'.ownsRow w.heap.size 43 4 v ol.length (pcs ol) ∧ ol.length ≤ l.length + l.length / 2 ∧ ∀ p, p ≠ ⟨false, tmp⟩ → sig ol p = want l p)
end Go.Proofs.Ytffhfcddlhdicaa
