/- How deep a node is, and how many it has: syntax.weigh. -/
import Derived.Test.YtgegfbopogcjpaaDoorOpenN
import Derived.Test.YtgegfbopogcjpaaDoorSynB
import Derived.Deep.LoopGhost
import Derived.WalkLawsBesides
import Derived.Lib.Hide
import Derived.IntWalk
namespace Go.Proofs.YtgegfbopogcjpaaDoor
open Go.RowKit
set_option linter.unusedVariables false
set_option linter.unusedSimpArgs false
set_option maxRecDepth 100000
set_option maxHeartbeats 1000000
theorem wmany_eq (n : Nd) : many n = manyL n.kids + 1 := by cases n; rw [many]; rfl
theorem wdeep_eq (n : Nd) : deep n = deepL n.kids + 1 := by cases n; rw [deep]; rfl
theorem wmanyL_append (l r : List Nd) : manyL (l ++ r) = manyL l + manyL r := by
  induction l with
  | nil => simp [manyL]
  | cons a l ih => rw [List.cons_append, manyL, manyL, ih]; omega
theorem wdeepL_append (l r : List Nd) : deepL (l ++ r) = max (deepL l) (deepL r) := by
  induction l with
  | nil => simp [deepL]
  | cons a l ih => rw [List.cons_append, deepL, deepL, ih]; omega
theorem wmany_take {l : List Nd} {k : Nat} (h : k < l.length) : manyL (l.take (k + 1)) = manyL (l.take k) + many l[k] := by
  rw [List.take_succ_eq_append_getElem h, wmanyL_append]; simp [manyL]
theorem wdeep_take {l : List Nd} {k : Nat} (h : k < l.length) : deepL (l.take (k + 1)) = max (deepL (l.take k)) (deep l[k]) := by
  rw [List.take_succ_eq_append_getElem h, wdeepL_append]; simp [deepL]
theorem wmany_part {l : List Nd} {k : Nat} (h : k < l.length) : manyL (l.take k) + many l[k] ≤ manyL l := by
  rw [← wmany_take h]
  have := wmanyL_append (l.take (k + 1)) (l.drop (k + 1))
  rw [List.take_append_drop] at this
  omega
theorem wdeep_part {l : List Nd} {k : Nat} (h : k < l.length) : deep l[k] ≤ deepL l := by
  have h1 := wdeepL_append (l.take (k + 1)) (l.drop (k + 1))
  rw [List.take_append_drop, wdeep_take h] at h1
  omega
def wOk (C D : Int) (n : Nd) : Bool := decide (C + many n ≤ 700) && decide (D + deep n ≤ 17)
theorem grow_set' (w : World) (b i : Nat) (u : Value) : w.grownBy (w.setCell ⟨b, i, none⟩ u) (some b) :=
  ⟨rfl, rfl, rfl, by simp [World.setCell], fun k hk hne => Below.heap_setCell w _ u k (fun e => hne (by rw [e]))⟩
theorem grow_alloc' (w : World) (o : Obj) (row : Option Nat) : w.grownBy (w.alloc o) row := ⟨rfl, rfl, rfl, by simp, fun i hi _ => Below.heap_alloc w o i hi⟩
theorem grow_below' {B : Nat} {w w' : World} {pm : Nat} (h : w.grownBy w' (some pm)) (hB : B ≤ pm) (hw : B ≤ w.heap.size) : Below B w w' :=
  ⟨h.os, h.tape, h.output, h.size, fun k hk => h.block k (Nat.lt_of_lt_of_le hk hw) (by intro e; injection e with e; omega)⟩
/-- what weigh answers -/
def WeOut (pm : Nat) (C D : Int) (n : Nd) (w : World) (e : Ending) (w' : World) : Prop :=
  w.grownBy w' (some pm) ∧ (wOk C D n = true ∧ e = .returned (.bool true) ∧ Blk w' pm 3 #[.int .i64 (C + many n)] ∨ wOk C D n = false ∧ e = .returned (.bool false))
def WeRel (pm : Nat) (C D : Int) (l : List Nd) (w : World) (i : Value) (wr : World) : Prop :=
  ∃ k : Nat, i = .int .i64 k ∧ k ≤ l.length ∧ Hid (w.grownBy wr (some pm) ∧ Blk wr pm 3 #[.int .i64 (C + 1 + manyL (l.take k))] ∧ C + 1 + manyL (l.take k) ≤ 700 ∧ D + deepL (l.take k) ≤ 16)
def Weighs (w0 : World) (n : Nd) : Prop :=
  ∀ (cs : List Value) (w : World) (pm : Nat) (C D : Int), RepN w0 n cs → Below w0.heap.size w0 w → w0.heap.size ≤ pm → Blk w pm 3 #[.int .i64 C] → 0 ≤ C → C ≤ 700 → 1 ≤ D → D ≤ 17 →
    Calls Tryd.prog 6 #[.agg cs.toArray, .int .i64 D, .pointer (some ⟨pm, 0, none⟩)] w (WeOut pm C D n w)
theorem weigh_all (w0 : World) : ∀ (N : Nat) (n : Nd), many n ≤ N → Weighs w0 n
  | 0, n, h => absurd h (by have := many_pos n; omega)
  | N + 1, n, hN => by
    intro cs w pm C D hr hb0 hpm hk hC0 hC hD0 hD
    have IH := Lib.hid (fun m (hm : m ∈ n.kids) => weigh_all w0 N m (by have := many_kid hm; omega))
    obtain ⟨A, c, rfl, hR, hcap, hlm, hn64, hts⟩ := hr.four
    have HR := Lib.hid hR
    clear hr hR hN
    have hmn := wmany_eq n
    have hdn := wdeep_eq n
    have hlt := hk.lt
    have hwle : w0.heap.size ≤ w.heap.size := hb0.size
    have hne : pm ≠ w.heap.size := by omega
    have c0 := hk.cell 0 (.int .i64 C) rfl
    have f0 := hk.free 0
    have K1 := Lib.hid ((hk.set_ 0 (.int .i64 (C + 1))).alloc (.cells #[.int .i64 n.k, .string n.t, .int .i64 n.num, .slice A n.kids.length c] 24))
    have G1 := Lib.hid ((grow_set' w pm 0 (.int .i64 (C + 1))).trans (grow_alloc' _ (.cells #[.int .i64 n.k, .string n.t, .int .i64 n.num, .slice A n.kids.length c] 24) (some pm)))
    obtain ⟨V, HV⟩ : ∃ V, Hid (wOk C D n = V) := ⟨_, rfl⟩
    by_cases h1 : D ≤ 16
    · by_cases h2 : C + 1 ≤ 700
      · have d1 : decide (16 < D) = false := by rw [decide_eq_false_iff_not]; omega
        have d2 : decide (700 < C + 1) = false := by rw [decide_eq_false_iff_not]; omega
        have hll := manyL_len n.kids
        have hl9 : n.kids.length ≤ 9223372036854775807 := by unfold maxLen at hlm; omega
        go_enter Tryd.func6, Tryd.ntmps6
        go_wp2_with fail
        generalize n.kids = l at *
        go_loopw [25] (fun i wr => WeRel pm C D l w i wr) (fun i _ => l.length - (intOf i).toNat)
        case atStart => exact ⟨0, rfl, Nat.zero_le _, Lib.hid ⟨G1.out, by simpa [manyL, Blk] using K1.out, by simp [manyL]; omega, by simp [deepL]; omega⟩⟩
        case round =>
          obtain ⟨k, rfl, hk1, HL⟩ := hrel
          clear K1 G1 c0 f0
          have c1 := HL.out.2.1.cell 0 (.int .i64 (C + 1 + manyL (l.take k))) rfl
          have f1 := HL.out.2.1.free 0
          have hc7 := HL.out.2.2.1
          have hd16 := HL.out.2.2.2
          by_cases hlt' : k < l.length
          · have hi : (k : Int) < (l.length : Int) := by omega
            obtain ⟨b, o, cs, hA, hbl, hc, hrep⟩ := RepNL.at_ l _ HR.out k hlt'
            subst hA
            obtain ⟨A', c', rfl, -⟩ := hrep.four
            have bw := hb0.trans (grow_below' HL.out.1 hpm hwle)
            have z0 := (bw.cell (p := ⟨b, o + k * 4 + 0, none⟩) hbl).trans (hc 0 _ rfl)
            have z1 := (bw.cell (p := ⟨b, o + k * 4 + 1, none⟩) hbl).trans (hc 1 _ rfl)
            have z2 := (bw.cell (p := ⟨b, o + k * 4 + 2, none⟩) hbl).trans (hc 2 _ rfl)
            have z3 := (bw.cell (p := ⟨b, o + k * 4 + 3, none⟩) hbl).trans (hc 3 _ rfl)
            rw [Nat.add_zero] at z0
            have BW := Lib.hid bw
            have HREP := Lib.hid hrep
            have hm1 := wmany_part hlt'
            have hd1 := wdeep_part hlt'
            have HT := Lib.hid (wmany_take hlt')
            have HTD := Lib.hid (wdeep_take hlt')
            have HI := Lib.hid (IH.out _ (List.getElem_mem hlt'))
            have hsz := bw.size
            have hps := HL.out.2.1.lt
            clear hc bw hrep
            generalize l[k] = x at *
            have KX := Lib.hid (HL.out.2.1.alloc (.cells #[.int .i64 x.k, .string x.t, .int .i64 x.num, .slice A' x.kids.length c'] 24))
            have GX := Lib.hid (HL.out.1.trans (grow_alloc' wr (.cells #[.int .i64 x.k, .string x.t, .int .i64 x.num, .slice A' x.kids.length c'] 24) (some pm)))
            have BX := Lib.hid (BW.out.alloc hsz (.cells #[.int .i64 x.k, .string x.t, .int .i64 x.num, .slice A' x.kids.length c'] 24))
            go_wp2_with fail
            refine (HI.out _ _ pm (C + 1 + manyL (l.take k)) (D + 1) HREP.out BX.out hpm KX.out (by omega) (by omega) (by omega) (by omega)).mono ?_
            rintro e w2 ⟨g2, (⟨o2, rfl, k2⟩ | ⟨o2, rfl⟩)⟩
            · have G2 := Lib.hid (GX.out.trans g2)
              have K2 := Lib.hid k2
              have hx1 : C + 1 + manyL (l.take k) + many x ≤ 700 ∧ D + 1 + deep x ≤ 17 := by
                unfold wOk at o2
                simp only [Bool.and_eq_true, decide_eq_true_eq] at o2
                exact o2
              have HX1 := Lib.hid hx1
              clear g2 k2 o2 hx1
              go_wp2
              go_roundw
              case rel =>
                refine ⟨k + 1, by go_num, by omega, Lib.hid ⟨G2.out, ?_, ?_, ?_⟩⟩
                · rw [HT.out]
                  have := K2.out
                  rw [show C + 1 + ((manyL (l.take k) + many x : Nat) : Int) = C + 1 + manyL (l.take k) + many x by omega]
                  exact this
                · rw [HT.out]; have := HX1.out.1; omega
                · rw [HTD.out]; have := HX1.out.2; omega
              case measure => (first | (simp [intOf]; done) | (simp [intOf]; omega))
            · have G2 := Lib.hid (GX.out.trans g2)
              have hvf : V = false := by
                rw [← HV.out]
                unfold wOk at o2 ⊢
                rw [Bool.and_eq_false_iff] at o2 ⊢
                simp only [decide_eq_false_iff_not] at o2 ⊢
                omega
              have HVF := Lib.hid hvf
              clear g2 o2 hvf
              go_wp2
              go_ret
              exact ⟨G2.out, .inr ⟨HV.out.trans HVF.out, rfl⟩⟩
          · have hi : ¬ (k : Int) < (l.length : Int) := by omega
            obtain rfl : k = l.length := by omega
            have hvt : V = true := by
              rw [← HV.out]
              unfold wOk
              rw [List.take_length] at hc7 hd16
              rw [Bool.and_eq_true]
              simp only [decide_eq_true_eq]
              omega
            have HVT := Lib.hid hvt
            have KF : Hid (Blk wr pm 3 #[.int .i64 (C + many n)]) := by
              have := HL.out.2.1
              rw [List.take_length] at this
              rw [hmn]
              rw [show C + ((manyL l + 1 : Nat) : Int) = C + 1 + manyL l by omega]
              exact this
            clear hvt
            go_wp2
            go_ret
            exact ⟨HL.out.1, .inl ⟨HV.out.trans HVT.out, rfl, KF.out⟩⟩
      · have d1 : decide (16 < D) = false := by rw [decide_eq_false_iff_not]; omega
        have d2 : decide (700 < C + 1) = true := by rw [decide_eq_true_eq]; omega
        have hvf : V = false := by
          rw [← HV.out]
          unfold wOk
          rw [Bool.and_eq_false_iff]
          simp only [decide_eq_false_iff_not]
          omega
        have HVF := Lib.hid hvf
        clear hvf
        go_enter Tryd.func6, Tryd.ntmps6
        go_wp2
        go_ret
        exact ⟨G1.out, .inr ⟨HV.out.trans HVF.out, rfl⟩⟩
    · have d1 : decide (16 < D) = true := by rw [decide_eq_true_eq]; omega
      have hdp : 1 ≤ deep n := by omega
      have hvf : V = false := by
        rw [← HV.out]
        unfold wOk
        rw [Bool.and_eq_false_iff]
        simp only [decide_eq_false_iff_not]
        omega
      have HVF := Lib.hid hvf
      clear hvf
      go_enter Tryd.func6, Tryd.ntmps6
      go_wp2
      go_ret
      exact ⟨G1.out, .inr ⟨HV.out.trans HVF.out, rfl⟩⟩
theorem weigh_any (w0 : World) (n : Nd) : Weighs w0 n := weigh_all w0 _ n (Nat.le_refl _)
theorem wOk_fits (n : Nd) : wOk 0 1 n = fitsN n := by
  unfold wOk fitsN
  congr 1
  · rw [decide_eq_decide]; omega
  · rw [decide_eq_decide]; omega
end Go.Proofs.YtgegfbopogcjpaaDoor
