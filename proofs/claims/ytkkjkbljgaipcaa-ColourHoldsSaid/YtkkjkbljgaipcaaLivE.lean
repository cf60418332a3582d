/- slices.Sort on a row of one's own; the walk of live.Of. -/
import Derived.Test.YtkkjkbljgaipcaaLivD
import Derived.Test.YtkkjkbljgaipcaaShelfS
import Derived.Sort.OwnSortedInts
import Derived.Deep.Onto
namespace Go.Proofs.Ytkkjkbljgaipcaa
open Go.RowKit
set_option linter.unusedVariables false
set_option linter.unusedSimpArgs false
set_option maxRecDepth 100000
set_option maxHeartbeats 8000000
def leI : Int → Int → Bool := fun x y => decide (x ≤ y)
def SortOut (base : Nat) (v : Value) (l : List Int) (w : World) (e : Ending) (w' : World) : Prop := e = .returned (.tuple #[]) ∧ w'.ownsRow base 3 1 v l.length ((l.mergeSort leI).map i64) ∧ w.grownBy w' v.ownBlock
theorem sortI_any (base : Nat) (v : Value) (l : List Int) (w : World) (h : w.ownsRow base 3 1 v l.length (l.map i64)) (hsz : l.length ≤ 100000000) : Calls Try.prog 31 #[v] w (SortOut base v l w) := by
  by_cases hl : l = []
  · subst hl
    have he : ([] : List Int).mergeSort leI = [] := List.mergeSort_of_pairwise (by simp)
    rcases h.2 with ⟨rfl, -⟩ | ⟨g, cap, cur, rfl, -⟩
    · exact (sh_slices_Sort_int_none none 0 w).mono fun e w' hh => ⟨hh.1, by rw [hh.2, he]; exact h, by rw [hh.2]; exact grow_below' (Below.refl _ _) _⟩
    · exact (sh_slices_Sort_int_none (some ⟨g, 0, none⟩) cap w).mono fun e w' hh => ⟨hh.1, by rw [hh.2, he]; exact h, by rw [hh.2]; exact grow_below' (Below.refl _ _) _⟩
  · rcases h.2 with ⟨-, h0⟩ | ⟨g, cap, cur, rfl, hb, hg, h1, h2, h3, h4⟩
    · exact absurd (List.eq_nil_of_length_eq_zero h0) hl
    · have hlt : g < w.heap.size := Blk.lt (t := 3) (cs := cur) hg
      rw [Nat.mul_one] at h4
      have hm : l.length ≤ maxLen := Nat.le_trans h1 h2
      unfold maxLen at hm
      refine (sh_slices_Sort_int g 0 cap l w (holds_of_blockI hg h4) hlt (by omega)).mono fun e w' hh => ?_
      obtain ⟨he, n, os, rfl⟩ := hh
      exact ⟨he, ownsRow_sortedI (List.Perm.length_eq (List.mergeSort_perm l leI)) hb hg h1 h2 h3, grownBy_sortedI _⟩
/-- what is live ahead of an order, rising -/
noncomputable def liveL (code : List Or) (regs i : Nat) : List Int := ((List.range regs).filter fun r : Nat => liveB code i (r : Int)).map fun r : Nat => (r : Int)
theorem cast_pair {l : List Nat} (h : l.Pairwise (· < ·)) : (l.map fun r : Nat => (r : Int)).Pairwise (· < ·) := List.pairwise_map.2 (h.imp fun h => by omega)
open Classical in
theorem liveB_iff {code : List Or} {i : Nat} {r : Int} : liveB code i r = true ↔ LiveP code i r := by unfold liveB; rw [decide_eq_true_eq]
theorem liveL_lt (code : List Or) (regs i : Nat) : (liveL code regs i).Pairwise (· < ·) := cast_pair (List.Pairwise.filter _ (List.pairwise_lt_range))
theorem liveL_mem {code : List Or} {regs i : Nat} {x : Int} : x ∈ liveL code regs i ↔ 0 ≤ x ∧ x < regs ∧ liveB code i x = true := by
  unfold liveL
  rw [List.mem_map]
  constructor
  · rintro ⟨r, hr, rfl⟩
    rw [List.mem_filter, List.mem_range] at hr
    exact ⟨by omega, by omega, hr.2⟩
  · rintro ⟨h0, h1, h2⟩
    refine ⟨x.toNat, ?_, by omega⟩
    rw [List.mem_filter, List.mem_range]
    refine ⟨by omega, ?_⟩
    rw [show ((x.toNat : Nat) : Int) = x by omega]
    exact h2
theorem liveL_len (code : List Or) (regs i : Nat) : (liveL code regs i).length ≤ regs := by
  unfold liveL
  rw [List.length_map]
  have := List.length_filter_le (fun r : Nat => liveB code i (r : Int)) (List.range regs)
  simpa using this
/-- what was collected, sorted -/
theorem sorted_live {code : List Or} {regs i : Nat} {l : List Int} (hn : l.Nodup) (hm : ∀ x, x ∈ l ↔ liveB code i x = true) (hr : ∀ x, liveB code i x = true → 0 ≤ x ∧ x < (regs : Int)) : l.mergeSort leI = liveL code regs i ∧ l.length = (liveL code regs i).length := by
  have hp : l.Perm (liveL code regs i) := (List.perm_ext_iff_of_nodup hn ((liveL_lt code regs i).imp fun h e => by omega)).2 fun x => by
    rw [hm, liveL_mem]
    exact ⟨fun h => ⟨(hr x h).1, (hr x h).2, h⟩, fun h => h.2.2⟩
  have tr : ∀ a b c : Int, leI a b = true → leI b c = true → leI a c = true := fun a b c h1 h2 => by simp only [leI, decide_eq_true_eq] at *; omega
  have tt' : ∀ a b : Int, (leI a b || leI b a) = true := fun a b => by simp only [leI, Bool.or_eq_true, decide_eq_true_eq]; omega
  refine ⟨List.Perm.eq_of_pairwise (le := fun a b => leI a b = true) (fun a b _ _ h1 h2 => ?_) (List.pairwise_mergeSort tr tt' l) ((liveL_lt code regs i).imp fun h => ?_) ((List.mergeSort_perm l leI).trans hp), hp.length_eq⟩
  · simp only [leI, decide_eq_true_eq] at h1 h2; omega
  · simp only [leI, decide_eq_true_eq]; omega
theorem row_ne_own {w : World} {base base' n n' size size' : Nat} {e e' : TypeId} {v v' : Value} {xs xs' : List Value} (h : w.ownsRow base e size v n xs) (h' : w.ownsRow base' e' size' v' n' xs') (hne : e ≠ e') : v.ownBlock = none ∨ v.ownBlock ≠ v'.ownBlock := by
  rcases hv : v.ownBlock with _ | g
  · exact .inl rfl
  · refine .inr fun e2 => ?_
    rcases h.2 with ⟨rfl, _⟩ | ⟨g2, cap, cur, rfl, _, hg, _⟩
    · cases hv
    · simp only [Value.ownBlock] at hv
      injection hv with hv
      subst hv
      exact own_blk h' (show Blk w g2 e cur from hg) (Ne.symm hne) e2
theorem iter_ne_row {w : World} {b r m : Nat} {S L : Int → Bool} {cnt base n size : Nat} {e : TypeId} {v : Value} {xs : List Value} (h : RangeAt w b r m S L cnt) (ho : w.ownsRow base e size v n xs) : some r ≠ v.ownBlock := by
  intro he
  obtain ⟨x, y, z, u, h⟩ := h.at_iter
  rcases ho.2 with ⟨rfl, _⟩ | ⟨g, cap, cur, rfl, _, hg, _⟩
  · cases he
  · simp only [Value.ownBlock] at he
    injection he with he
    subst he
    rw [h] at hg
    cases hg
theorem RowsAt.snoc {w : World} {base : Nat} {vs : List Value} {xss : List (List Int)} {v : Value} {xs : List Int} (h : RowsAt w base vs xss) (ho : w.ownsRow base 3 1 v xs.length (xs.map i64))
    (hne : ∀ j (h : j < vs.length) g, vs[j].ownBlock = some g → v.ownBlock ≠ some g) : RowsAt w base (vs ++ [v]) (xss ++ [xs]) := by
  refine ⟨by simp [h.1], fun j hj hj' => ?_, fun i j hi hj hij => ?_⟩
  · by_cases e : j < vs.length
    · rw [List.getElem_append_left e, List.getElem_append_left (by rw [← h.1]; exact e)]
      exact h.2.1 j e (by rw [← h.1]; exact e)
    · simp only [List.length_append, List.length_singleton] at hj
      obtain rfl : j = vs.length := by omega
      have e2 : (vs ++ [v])[vs.length] = v := by simp
      have e3 : (xss ++ [xs])[vs.length] = xs := by rw [List.getElem_append_right (by rw [h.1]; omega)]; simp [h.1]
      rw [e2, e3]
      exact ho
  · simp only [List.length_append, List.length_singleton] at hi hj
    by_cases e1 : i < vs.length
    · rw [List.getElem_append_left e1]
      by_cases e2 : j < vs.length
      · rw [List.getElem_append_left e2]
        exact h.2.2 i j e1 e2 hij
      · obtain rfl : j = vs.length := by omega
        rw [List.getElem_append_right (by omega)]
        simp only [Nat.sub_self, List.getElem_cons_zero]
        rcases hv : vs[i].ownBlock with _ | g
        · exact .inl rfl
        · exact .inr (fun e => hne i e1 g hv e.symm)
    · obtain rfl : i = vs.length := by omega
      rw [List.getElem_append_right (by omega)]
      simp only [Nat.sub_self, List.getElem_cons_zero]
      have e2 : j < vs.length := by omega
      rw [List.getElem_append_left e2]
      rcases hv : v.ownBlock with _ | g
      · exact .inl rfl
      · exact .inr (fun e => hne j e2 g e.symm hv)
def LvRel (code : List Or) (regs : Nat) (w2 w : World) (vout i : Value) (wr : World) : Prop :=
  ∃ k outs, k ≤ code.length ∧ i = .int .i64 (k : Int) ∧ wr.ownsRow w2.heap.size 35 1 vout k outs ∧ RowsAt wr w2.heap.size outs ((List.range k).map (liveL code regs)) ∧ Below w2.heap.size w2 wr ∧ Below w.heap.size w wr
def ColRel (S : Int → Bool) (m r bd : Nat) (wk : World) (v : Value) (wx : World) : Prop :=
  ∃ (l : List Int) (L : Int → Bool) (cnt : Nat), RangeAt wx m r bd S L cnt ∧ wx.ownsRow wk.heap.size 3 1 v l.length (l.map i64) ∧ l.Nodup ∧ (∀ x, x ∈ l ↔ (S x = true ∧ L x = false)) ∧ Below wk.heap.size wk wx
def LvOut (b : Bo) (w : World) (e : Ending) (w' : World) : Prop :=
  (bodyB b = false ∧ e = .returned (.tuple #[.slice none 0 0, .int .i64 2]) ∧ Below w.heap.size w w') ∨
  (bodyB b = true ∧ ∃ (regs : Nat) (base : Nat) (outs : List Value) (A : Option Addr) (c : Nat), b.regs = (regs : Int) ∧ e = .returned (.tuple #[.slice A b.code.length c, .int .i64 0]) ∧ Row w' A outs ∧ RowsAt w' base outs ((List.range b.code.length).map (liveL b.code regs)) ∧ Below w.heap.size w w')
theorem liveOf_any (b : Bo) (cs : List Value) (w : World) (hr : RepB w b cs) (hm : ML w) : Calls Try.prog 12 #[.agg cs.toArray] w (LvOut b w) := by
  have HR := Lib.hid hr
  obtain ⟨An, cn, Ap, cp, A, c, rfl, -, -, -, -⟩ := hr.nine
  have B0 : Below w.heap.size w (w.alloc (.cells #[.string b.nm, .bool b.static, .int .i64 b.ty.k, .string b.ty.nm, .slice An b.ty.ns.length cn, .slice Ap b.ty.ps.length cp, .bool b.ty.many, .int .i64 b.regs, .slice A b.code.length c] 28)) := by (repeat (first | with_reducible assumption | with_reducible exact Below.refl _ _ | (refine Below.setCell ?_ (by first | omega | (simp; done) | (simp; omega)) _) | (refine Below.drewN_ ?_ _) | (refine Below.drew ?_) | (refine Below.alloc ?_ (by first | omega | (simp; done) | (simp; omega)) _)))
  have kb := Blk.new_ w 28 #[.string b.nm, .bool b.static, .int .i64 b.ty.k, .string b.ty.nm, .slice An b.ty.ns.length cn, .slice Ap b.ty.ps.length cp, .bool b.ty.many, .int .i64 b.regs, .slice A b.code.length c]
  have HC := Lib.hid (may3_any b _ _ (HR.out.keep B0) (hm.keep B0))
  have HB0 := Lib.hid B0
  clear hr hm B0
  go_enter Try.func12, Try.ntmps12
  go_wp2_with fail
  ((with_reducible refine (HC.out).mono ?_); rintro e w1 ⟨rfl, hb1⟩)
  have b1 := HB0.out.trans (hb1.mono HB0.out.size)
  have kb1 := kb.below hb1
  rcases hbo : bodyB b with _ | _
  · have HBO := Lib.hid hbo
    clear hbo
    go_wp2
    go_ret2
    exact .inl ⟨HBO.out, rfl, b1⟩
  have HBO := Lib.hid hbo
  have hlen := code_le hbo
  have HST := Lib.hid (sets_any b _ w1 (HR.out.keep b1) hbo)
  have HWF := Lib.hid (wf_of hbo)
  have hr8' := (head_parts (head_of hbo)).2.2.2.2.1
  clear hbo hb1 kb HC
  have q0 := kb1.cell 0 (.string b.nm) rfl
  have q1 := kb1.cell 1 (.bool b.static) rfl
  have q2 := kb1.cell 2 (.int .i64 b.ty.k) rfl
  have q3 := kb1.cell 3 (.string b.ty.nm) rfl
  have q4 := kb1.cell 4 (.slice An b.ty.ns.length cn) rfl
  have q5 := kb1.cell 5 (.slice Ap b.ty.ps.length cp) rfl
  have q6 := kb1.cell 6 (.bool b.ty.many) rfl
  have q7 := kb1.cell 7 (.int .i64 b.regs) rfl
  have q8 := kb1.cell 8 (.slice A b.code.length c) rfl
  go_wp2_with fail
  (refine (HST.out).mono ?_; rintro e w2 ⟨I, ms, regs, hregs, rfl, hms, hI, hM, hb2⟩)
  have b2 := b1.trans (hb2.mono b1.size)
  have hr8 : regs ≤ 8000 := by omega
  rw [hregs] at HWF
  have HRG := Lib.hid hregs
  have HMS := Lib.hid hms
  have HM := Lib.hid hM
  have hlI := hI.lt
  clear hregs hms hM q0 q1 q2 q3 q4 q5 q6 q7 q8 hb2 kb1 HST hr8'
  obtain ⟨i0, hinfo, hz0, hz1, hz2⟩ := info_parts info_int
  obtain ⟨i1, hinfo1, hy0, hy1, hy2⟩ := info_parts info_ints
  go_upto_region 5 with (fail)
  go_wp2
  go_loopw [4, 15] (fun v i wr => LvRel b.code regs w2 w v i wr) (fun _ i _ => b.code.length - (intOf i).toNat)
  case atStart => exact ⟨0, [], Nat.zero_le _, rfl, World.ownsRow_nil _ _ _ _, RowsAt.none_ _ _ 0, Below.refl _ _, b2⟩
  case round =>
    obtain ⟨k, outs, hk, rfl, hown, hrows, hb, hbw⟩ := hrel
    by_cases hlt : k < b.code.length
    · have hkm : k < ms.length := by rw [HMS.out]; exact hlt
      have hk0 : (0 : Int) ≤ (k : Int) := by omega
      have hk1 : (k : Int) < (b.code.length : Int) := by omega
      have hk6 : (k : Int) < 6000 := by omega
      have kI := hI.below hb
      have c0 := kI.cell k (.map (some ms[k])) (by simp [hkm])
      have hset := ((HM.out.2 k hkm).2).below hb
      have hsl := hset.lt
      have hlr : ∀ x, liveB b.code k x = true → 0 ≤ x ∧ x < (regs : Int) := fun x hx => by
        exact (liveB_iff.1 hx).reg HWF.out
      have HLR := Lib.hid hlr
      have HSET := Lib.hid hset
      have HOW := Lib.hid hown
      have HRO := Lib.hid hrows
      clear hset hown hrows hlr
      generalize ms[k] = m at *
      generalize hbd : cntR regs (liveB b.code k) = bd at *
      clear hbd
      go_wp2_with (at_range; refine wpList_set_range _ rfl _ rfl m bd _ (by rfl) HSET.out ?_; intro w3 cnt3 hrg3 hg3 hs3; have HG3 := Lib.hid hrg3; have HGR := Lib.hid hg3; have HS3 := Lib.hid hs3; clear hrg3 hg3 hs3)
      go_frame
      obtain ⟨W0, rfl⟩ : ∃ W0 : World, W0 = wr := ⟨_, rfl⟩
      have b3 : Below W0.heap.size W0 w3 := ⟨HGR.out.os, HGR.out.tape, HGR.out.output, HGR.out.size, fun i hi => HGR.out.block i hi (by simp)⟩
      have bb3 := hb.trans (b3.mono hb.size)
      have bw3 := hbw.trans (b3.mono hbw.size)
      have hl3 : W0.heap.size < w3.heap.size := HG3.out.lt
      have HB3 := Lib.hid b3
      clear HSET HGR HS3 c0 bb3 bw3
      go_loopw [7] (fun v wx => ColRel (liveB b.code k) m W0.heap.size bd W0 v wx) (fun _ wx => wx.rangeLeft m W0.heap.size)
      case atStart => exact ⟨[], _, cnt3, HG3.out, World.ownsRow_nil _ _ _ _, by simp, fun x => by simp, b3⟩
      case round =>
        clear b3
        obtain ⟨l, L, cnt, hrg, hown, hnd, hmem, hbx⟩ := hrel
        obtain ⟨Al, cl, rfl, -⟩ := Row.of_own hown
        have hll : l.length ≤ regs := by
          have := List.Nodup.length_le_of_subset (l₂ := (List.range regs).map fun r : Nat => (r : Int)) hnd (fun x hx => by
            obtain ⟨h0, h1⟩ := HLR.out x ((hmem x).1 hx).1
            rw [List.mem_map]
            exact ⟨x.toNat, by rw [List.mem_range]; omega, by omega⟩)
          simpa using this
        have hsx := hbx.size
        have HRG2 := Lib.hid hrg
        have HOW2 := Lib.hid hown
        have HMEM := Lib.hid hmem
        have HND := Lib.hid hnd
        clear hrg hown hmem hnd
        go_wp2_with (at_next; refine wpList_set_next _ rfl _ rfl m W0.heap.size bd (liveB b.code k) L cnt (by rfl) HRG2.out ?_ ?_)
        · intro hdone
          have hm' : ∀ x, x ∈ l ↔ liveB b.code k x = true := fun x => by
            rw [HMEM.out x]
            refine ⟨fun h => h.1, fun h => ⟨h, hdone x ((wf_iff x).2 ?_)⟩⟩
            obtain ⟨h0, h1⟩ := HLR.out x h
            omega
          obtain ⟨hs1, hs2⟩ := sorted_live HND.out hm' HLR.out
          have HSL := Lib.hid hs1
          have HSN := Lib.hid hs2
          have HSRT := Lib.hid (sortI_any W0.heap.size (.slice Al l.length cl) l wr HOW2.out (by omega))
          have HNE : Hid (∀ g, (Value.slice Al l.length cl).ownBlock = some g → W0.heap.size ≤ g) := fun g hg => (HOW2.out.lt g hg).1
          clear hdone hm' hs1 hs2 HRG2
          go_wp2_with fail
          (refine (HSRT.out).mono ?_; rintro e w5 ⟨rfl, ho5, hg5⟩)
          have hz5 := hg5.size
          have b5 : Below W0.heap.size W0 w5 := hbx.grown hg5 hbx.size (fun j e => HNE.out j e)
          have bb5 := hb.trans (b5.mono hb.size)
          have hr5 := HRO.out.below b5
          have hout5 := own_below HOW.out b5
          rw [HSL.out] at ho5
          rw [HSN.out] at ho5 HNE ⊢
          have hl8 := liveL_len b.code regs k
          obtain ⟨Ao, co, hvo, -⟩ := Row.of_own hout5
          rw [hvo] at hout5 ⊢
          have HNO : Hid (∀ g, (Value.slice Ao k co).ownBlock = some g → g < W0.heap.size) := fun g hg => by
            have := HOW.out
            rw [hvo] at this
            exact (this.lt g hg).2
          have HRL : Hid (∀ j (h : j < outs.length) g, outs[j].ownBlock = some g → g < W0.heap.size) := fun j hj g hg => by
            have hj' : j < ((List.range k).map (liveL b.code regs)).length := by rw [← HRO.out.1]; exact hj
            exact ((HRO.out.2.1 j hj hj').lt g hg).2
          have HRS : Hid ((List.range (k + 1)).map (liveL b.code regs) = (List.range k).map (liveL b.code regs) ++ [liveL b.code regs k]) := by
            show _ = _
            rw [List.range_succ, List.map_append]; rfl
          generalize liveL b.code regs k = lk at *
          have H5 := Lib.hid ho5
          have HG5 := Lib.hid hg5
          have HR5 := Lib.hid hr5
          have HT5 := Lib.hid hout5
          have hkx : w2.heap.size ≤ w5.heap.size := bb5.size
          have hzz : w2.heap.size ≤ W0.heap.size := hb.size
          clear ho5 hg5 hr5 hout5 hvo HSRT HSL HSN HMEM HND HOW2 hz5 hbx
          go_wp2_with (at_builtin; go_must ((refine wpList_append_own _ rfl _ _ 40 rfl w2.heap.size 35 i1 (.slice none 0 0) 1 24 Try.underlying40 hinfo1 hy0 hy1 hy2 rfl (by decide) (.slice Ao k co) k outs (by rfl) (HT5.out.alloc _) ⟨w5.heap.size, 0, none⟩ 1 1 [.slice Al lk.length cl] (by rfl) (by rfl) (cell_one_new _ _ _) (by simp [Value.oneCell']) (by unfold maxLen; omega) (by omega) (by simp; omega) ?_; intro v' w6 hown6 hg6 _; have HO6 := Lib.hid hown6; have HG6 := Lib.hid hg6; clear hown6 hg6)))
          go_roundw
          case rel =>
            have ba : Below w5.heap.size w5 (w5.alloc (.cells #[.slice Al lk.length cl] 35)) := by (repeat (first | with_reducible assumption | with_reducible exact Below.refl _ _ | (refine Below.setCell ?_ (by first | omega | (simp; done) | (simp; omega)) _) | (refine Below.drewN_ ?_ _) | (refine Below.drew ?_) | (refine Below.alloc ?_ (by first | omega | (simp; done) | (simp; omega)) _)))
            have b6 : Below w2.heap.size w2 w6 := (bb5.trans (ba.mono bb5.size)).grown HG6.out (by simp; omega) (fun j e => own_ge HT5.out j e)
            refine ⟨k + 1, _, by omega, by go_num, HO6.out, ?_, b6, b2.trans (b6.mono b2.size)⟩
            rw [HRS.out]
            have hrows6 : RowsAt w6 w2.heap.size outs ((List.range k).map (liveL b.code regs)) := (HR5.out.below ba).kept HG6.out (fun j hj => by
              have hj' : j < ((List.range k).map (liveL b.code regs)).length := by rw [← HR5.out.1]; exact hj
              have := row_ne_own (own_below (HR5.out.2.1 j hj hj') ba) (own_below HT5.out ba) (by decide)
              exact this)
            have hl6 : w6.ownsRow w2.heap.size 3 1 (.slice Al lk.length cl) lk.length (lk.map i64) :=
              ((own_below H5.out ba).kept HG6.out (row_ne_own (own_below H5.out ba) (own_below HT5.out ba) (by decide))).mono hzz
            exact hrows6.snoc hl6 (fun j hj g hg e => by
              have h1 := HRL.out j hj g hg
              have h2 := HNE.out g e
              omega)
          case measure => (first | (simp [intOf]; done) | (simp [intOf]; omega))
        · intro x w4 cnt4 hwx hLx hSx hrg4 hlt4 hg4 hs4 hen
          have ho4 := HOW2.out.kept hg4 (ne_or (iter_ne_row HRG2.out HOW2.out))
          have b4 : Below W0.heap.size W0 w4 := hbx.grown hg4 hbx.size (fun j e => by injection e with e; omega)
          have hz4 : W0.heap.size ≤ w4.heap.size := b4.size
          have hnx : x ∉ l := fun h => by
            have := ((HMEM.out x).1 h).2
            rw [hLx] at this; cases this
          have HND2 : Hid ((l ++ [x]).Nodup) := by
            show List.Nodup _
            rw [List.nodup_append]
            refine ⟨HND.out, by simp, fun a ha c hc e => ?_⟩
            rw [List.mem_singleton] at hc
            subst hc
            subst e
            exact hnx ha
          have HMEM2 : Hid (∀ y, y ∈ l ++ [x] ↔ (liveB b.code k y = true ∧ (L y && !(y == x)) = false)) := fun y => by
            rw [List.mem_append, List.mem_singleton, HMEM.out y]
            by_cases e : y = x
            · subst e; simp [hSx]
            · simp [e]
          have HRG4 := Lib.hid hrg4
          have HO4 := Lib.hid ho4
          have HG4 := Lib.hid hg4
          have HB4 := Lib.hid b4
          have hle : w.heap.size ≤ W0.heap.size := hbw.size
          have hcnt : cnt4 < w.heap.size + cnt := by omega
          have HLE : Hid (wr.rangeLeft m W0.heap.size = cnt) := HRG2.out.left_eq
          clear hrg4 ho4 hg4 hs4 b4 hnx hLx hSx HMEM HND HRG2 HOW2 hwx
          go_wp2_with (at_builtin; go_must ((refine wpList_append_own _ rfl _ _ 35 rfl W0.heap.size 3 i0 (.int .i64 0) 1 8 Try.underlying35 hinfo hz0 hz1 hz2 rfl (by decide) (.slice Al l.length cl) l.length (l.map i64) (by rfl) (HO4.out.alloc _) ⟨w4.heap.size, 0, none⟩ 1 1 [.int .i64 x] (by rfl) (by rfl) (cell_one_new _ _ _) (by simp [Value.oneCell']) (by unfold maxLen; omega) (by omega) (by simp; omega) ?_; intro v' w5 hown5 hg5 _; have HO5 := Lib.hid hown5; have HG5 := Lib.hid hg5; clear hown5 hg5)))
          have ba : Below w4.heap.size w4 (w4.alloc (.cells #[.int .i64 x] 3)) := by (repeat (first | with_reducible assumption | with_reducible exact Below.refl _ _ | (refine Below.setCell ?_ (by first | omega | (simp; done) | (simp; omega)) _) | (refine Below.drewN_ ?_ _) | (refine Below.drew ?_) | (refine Below.alloc ?_ (by first | omega | (simp; done) | (simp; omega)) _)))
          have hrg5 := (HRG4.out.kept (grow_below' ba none) (by simp) (by simp)).kept HG5.out (set_ne_row (HRG4.out.set.below ba) (HO4.out.alloc _)) (iter_ne_row (HRG4.out.kept (grow_below' ba none) (by simp) (by simp)) (HO4.out.alloc _))
          have HRG5 := Lib.hid hrg5
          clear hrg5
          go_roundw
          case rel =>
            refine ⟨l ++ [x], _, cnt4, HRG5.out, by simpa [i64] using HO5.out, HND2.out, HMEM2.out, (HB4.out.trans (ba.mono hz4)).grown HG5.out (by simp; omega) (fun j e => own_ge HO4.out j e)⟩
          case measure =>
            rw [HRG5.out.left_eq, HLE.out]
            omega
    · have hk1 : ¬ (k : Int) < (b.code.length : Int) := by omega
      obtain rfl : k = b.code.length := by omega
      obtain ⟨Ao, co, rfl, hrow⟩ := Row.of_own hown
      have HROW := Lib.hid hrow
      have HRO := Lib.hid hrows
      clear hown hrow hrows
      go_wp2
      go_ret2
      exact .inr ⟨HBO.out, regs, w2.heap.size, outs, Ao, co, HRG.out, rfl, HROW.out, HRO.out, hbw⟩
end Go.Proofs.Ytkkjkbljgaipcaa
