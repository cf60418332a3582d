/- The reference: how many nodes, how deep (ref6.Many, Deep, Fits); The reference's Parse; The reference's Same: of two that are the same node; The law SyntaxParses. -/
import Derived.Test.YtgegfbopogcjpaaGreatDoorQ04
import Derived.Test.YtgegfbopogcjpaaGreatDoorQ08
import Derived.Test.YtgegfbopogcjpaaGreatDoorQ09
import Derived.Test.YtgegfbopogcjpaaGreatDoorQ10
import Derived.Deep.Cut
namespace Go.Proofs.YtgegfbopogcjpaaGreatDoor
open Go.RowKit
set_option linter.unusedVariables false
set_option linter.unusedSimpArgs false
set_option maxRecDepth 100000
set_option maxHeartbeats 1000000
theorem deep_pos (n : Nd) : 1 ≤ deep n := by rw [wdeep_eq]; omega
def ManyRel (n : Nd) (A : Option Addr) (c M : Nat) (w : World) (k i : Value) (wr : World) : Prop :=
 ∃ j : Nat, i = .int .i64 j ∧ k = .int .i64 ((min (1 + manyL (n.kids.take j)) (M + 1) : Nat) : Int) ∧ j ≤ n.kids.length ∧ Hid (Below w.heap.size w wr ∧ Blk wr w.heap.size 24 #[.int .i64 n.k, .string n.t, .int .i64 n.num, .slice A n.kids.length c])
theorem many_all : ∀ (N : Nat) (n : Nd), many n ≤ N → ∀ (cs : List Value) (w : World) (M : Nat), RepN w n cs → M ≤ 700 →
 Calls Tryz.prog 48 #[.agg cs.toArray, .int .i64 (M : Int)] w fun e w' => e = .returned (.int .i64 ((min (many n) (M + 1) : Nat) : Int)) ∧ Below w.heap.size w w'
 | 0, n, h => absurd h (by have := many_pos n; omega)
 | N + 1, n, hN => by
  intro cs w M hr hM
  have IH := Lib.hid (fun m (hm : m ∈ n.kids) => many_all N m (by have := many_kid hm; omega))
  obtain ⟨A, c, rfl, hR, hcap, hlm, hn64, hts⟩ := hr.four
  have HR := Lib.hid hR
  clear hr hR hN
  have hmn := wmany_eq n
  have hl9 : n.kids.length ≤ 9223372036854775807 := by unfold maxLen at hlm; omega
  obtain ⟨V, HV⟩ : ∃ V : Nat, Hid (min (many n) (M + 1) = V) := ⟨_, rfl⟩
  rw [HV.out]
  go_enter Tryz.func48, Tryz.ntmps48
  go_wp2_with fail
  go_loopw [5, 6] (fun k i wr => ManyRel n A c M w k i wr) (fun _ i _ => n.kids.length - (intOf i).toNat)
  case atStart => exact ⟨0, rfl, by simp [manyL], Nat.zero_le _, Lib.hid ⟨by (repeat (first | with_reducible assumption | with_reducible exact Below.refl _ _ | (refine Below.setCell ?_ (by first | omega | (simp; done) | (simp; omega)) _) | (refine Below.drewN_ ?_ _) | (refine Below.drew ?_) | (refine Below.alloc ?_ (by first | omega | (simp; done) | (simp; omega)) _))), Blk.new_ _ _ _⟩⟩
  case round =>
   obtain ⟨j, rfl, rfl, hj, HX⟩ := hrel
   obtain ⟨K, hK⟩ : ∃ K, min (1 + manyL (n.kids.take j)) (M + 1) = K := ⟨_, rfl⟩
   rw [hK]
   have q3 := HX.out.2.cell 3 (.slice A n.kids.length c) rfl
   have hK1 : 1 ≤ K := by omega
   have hKM : K ≤ M + 1 := by omega
   by_cases hlt : j < n.kids.length
   ·have hi : (j : Int) < (n.kids.length : Int) := by omega
    have d1 : decide ((j : Int) < (n.kids.length : Int)) = true := by simpa using hi
    have hpart := wmany_part hlt
    by_cases hkm : K ≤ M
    ·have d2 : decide ((K : Int) ≤ (M : Int)) = true := by rw [decide_eq_true_eq]; omega
     have d3 : (K : Int) ≤ (M : Int) := by omega
     obtain ⟨b, o, cs, hA, hbl, hc, hrep⟩ := RepNL.at_ n.kids _ HR.out j hlt
     subst hA
     obtain ⟨A', c', rfl, -⟩ := hrep.four
     have bw := HX.out.1
     have z0 := (bw.cell (p := ⟨b, o + j * 4 + 0, none⟩) hbl).trans (hc 0 _ rfl)
     have z1 := (bw.cell (p := ⟨b, o + j * 4 + 1, none⟩) hbl).trans (hc 1 _ rfl)
     have z2 := (bw.cell (p := ⟨b, o + j * 4 + 2, none⟩) hbl).trans (hc 2 _ rfl)
     have z3 := (bw.cell (p := ⟨b, o + j * 4 + 3, none⟩) hbl).trans (hc 3 _ rfl)
     rw [Nat.add_zero] at z0
     have HREP := Lib.hid (RepN.keep bw _ _ hrep)
     have HI := Lib.hid (IH.out _ (List.getElem_mem hlt))
     have HT := Lib.hid (wmany_take hlt)
     have hKe : K = 1 + manyL (n.kids.take j) := by omega
     have HKE := Lib.hid hKe
     have hsub : ((M - K : Nat) : Int) = (M : Int) - (K : Int) := by omega
     have HS := Lib.hid hsub
     clear hc bw hrep hKe hsub hK
     generalize n.kids[j] = x at *
     go_wp2_with fail
     rw [← HS.out]
     refine (HI.out _ _ (M - K) HREP.out (by omega)).mono ?_
     rintro e w2 ⟨rfl, hb2⟩
     have BX := Lib.hid (below_trans HX.out.1 (Nat.le_refl _) hb2)
     have KX := Lib.hid (HX.out.2.below hb2)
     clear hb2
     have hR1 : min (many x) (M - K + 1) ≤ 701 := by omega
     have HR1 : Hid (K + min (many x) (M - K + 1) = min (1 + manyL (n.kids.take (j + 1))) (M + 1)) := by
      show _ = _
      rw [HT.out]
      have := HKE.out
      omega
     generalize min (many x) (M - K + 1) = R at *
     go_wp2
     go_roundw
     case rel => exact ⟨j + 1, by go_num, by rw [← HR1.out]; go_num, by omega, Lib.hid ⟨BX.out, KX.out⟩⟩
     case measure => (first | (simp [intOf]; done) | (simp [intOf]; omega))
    ·have d2 : decide ((K : Int) ≤ (M : Int)) = false := by rw [decide_eq_false_iff_not]; omega
     have d3 : ¬ (K : Int) ≤ (M : Int) := by omega
     have hVV : V = K := by rw [← HV.out]; omega
     have HVV := Lib.hid hVV
     clear hVV hK
     go_wp2
     go_ret
     exact ⟨by rw [HVV.out]; rfl, HX.out.1⟩
   ·have hi : ¬ (j : Int) < (n.kids.length : Int) := by omega
    have d1 : decide ((j : Int) < (n.kids.length : Int)) = false := by simpa using hi
    have hVV : V = K := by
     have : j = n.kids.length := by omega
     rw [this, List.take_length] at hK
     rw [← HV.out, ← hK]
     omega
    have HVV := Lib.hid hVV
    clear hVV hK
    go_wp2
    go_ret
    exact ⟨by rw [HVV.out]; rfl, HX.out.1⟩
def DeepRel (n : Nd) (A : Option Addr) (c M : Nat) (w : World) (d i : Value) (wr : World) : Prop :=
 ∃ j : Nat, i = .int .i64 j ∧ d = .int .i64 ((min (deepL (n.kids.take j)) M : Nat) : Int) ∧ j ≤ n.kids.length ∧ Hid (Below w.heap.size w wr ∧ Blk wr w.heap.size 24 #[.int .i64 n.k, .string n.t, .int .i64 n.num, .slice A n.kids.length c])
theorem deep_all : ∀ (N : Nat) (n : Nd), many n ≤ N → ∀ (cs : List Value) (w : World) (M : Nat), RepN w n cs → M ≤ 16 →
 Calls Tryz.prog 49 #[.agg cs.toArray, .int .i64 (M : Int)] w fun e w' => e = .returned (.int .i64 ((min (deep n) (M + 1) : Nat) : Int)) ∧ Below w.heap.size w w'
 | 0, n, h => absurd h (by have := many_pos n; omega)
 | N + 1, n, hN => by
  intro cs w M hr hM
  have IH := Lib.hid (fun m (hm : m ∈ n.kids) => deep_all N m (by have := many_kid hm; omega))
  obtain ⟨A, c, rfl, hR, hcap, hlm, hn64, hts⟩ := hr.four
  have HR := Lib.hid hR
  clear hr hR hN
  have hdn := wdeep_eq n
  have hl9 : n.kids.length ≤ 9223372036854775807 := by unfold maxLen at hlm; omega
  obtain ⟨V, HV⟩ : ∃ V : Nat, Hid (min (deep n) (M + 1) = V) := ⟨_, rfl⟩
  rw [HV.out]
  go_enter Tryz.func49, Tryz.ntmps49
  go_wp2_with fail
  go_loopw [5, 6] (fun d i wr => DeepRel n A c M w d i wr) (fun _ i _ => n.kids.length - (intOf i).toNat)
  case atStart => exact ⟨0, rfl, by simp [deepL], Nat.zero_le _, Lib.hid ⟨by (repeat (first | with_reducible assumption | with_reducible exact Below.refl _ _ | (refine Below.setCell ?_ (by first | omega | (simp; done) | (simp; omega)) _) | (refine Below.drewN_ ?_ _) | (refine Below.drew ?_) | (refine Below.alloc ?_ (by first | omega | (simp; done) | (simp; omega)) _))), Blk.new_ _ _ _⟩⟩
  case round =>
   obtain ⟨j, rfl, rfl, hj, HX⟩ := hrel
   obtain ⟨K, hK⟩ : ∃ K, min (deepL (n.kids.take j)) M = K := ⟨_, rfl⟩
   rw [hK]
   have q3 := HX.out.2.cell 3 (.slice A n.kids.length c) rfl
   have hKM : K ≤ M := by omega
   have d2 : decide ((K : Int) ≤ (M : Int)) = true := by rw [decide_eq_true_eq]; omega
   have d3 : (K : Int) ≤ (M : Int) := by omega
   by_cases hlt : j < n.kids.length
   ·have hi : (j : Int) < (n.kids.length : Int) := by omega
    have d1 : decide ((j : Int) < (n.kids.length : Int)) = true := by simpa using hi
    have hpart := wdeep_part hlt
    by_cases hm0 : 0 < M
    ·have d4 : decide ((0 : Int) < (M : Int)) = true := by rw [decide_eq_true_eq]; omega
     have d5 : (0 : Int) < (M : Int) := by omega
     obtain ⟨b, o, cs, hA, hbl, hc, hrep⟩ := RepNL.at_ n.kids _ HR.out j hlt
     subst hA
     obtain ⟨A', c', rfl, -⟩ := hrep.four
     have bw := HX.out.1
     have z0 := (bw.cell (p := ⟨b, o + j * 4 + 0, none⟩) hbl).trans (hc 0 _ rfl)
     have z1 := (bw.cell (p := ⟨b, o + j * 4 + 1, none⟩) hbl).trans (hc 1 _ rfl)
     have z2 := (bw.cell (p := ⟨b, o + j * 4 + 2, none⟩) hbl).trans (hc 2 _ rfl)
     have z3 := (bw.cell (p := ⟨b, o + j * 4 + 3, none⟩) hbl).trans (hc 3 _ rfl)
     rw [Nat.add_zero] at z0
     have HREP := Lib.hid (RepN.keep bw _ _ hrep)
     have HI := Lib.hid (IH.out _ (List.getElem_mem hlt))
     have HT := Lib.hid (wdeep_take hlt)
     have HKE := Lib.hid hK
     have hsub : ((M - 1 : Nat) : Int) = (M : Int) - 1 := by omega
     have HS := Lib.hid hsub
     clear hc bw hrep hsub hK
     generalize n.kids[j] = x at *
     go_wp2_with fail
     rw [← HS.out]
     refine (HI.out _ _ (M - 1) HREP.out (by omega)).mono ?_
     rintro e w2 ⟨rfl, hb2⟩
     have BX := Lib.hid (below_trans HX.out.1 (Nat.le_refl _) hb2)
     have KX := Lib.hid (HX.out.2.below hb2)
     clear hb2
     have hR1 : min (deep x) (M - 1 + 1) ≤ 16 := by omega
     have HR1 : Hid (max K (min (deep x) (M - 1 + 1)) = min (deepL (n.kids.take (j + 1))) M) := by
      show _ = _
      rw [HT.out]
      have := HKE.out
      omega
     generalize min (deep x) (M - 1 + 1) = R at *
     have hmax : max (K : Int) (R : Int) = ((max K R : Nat) : Int) := by omega
     have HMX := Lib.hid hmax
     clear hmax
     go_wp2
     go_roundw
     case rel => exact ⟨j + 1, by go_num, by rw [← HR1.out, ← HMX.out], by omega, Lib.hid ⟨BX.out, KX.out⟩⟩
     case measure => (first | (simp [intOf]; done) | (simp [intOf]; omega))
    ·have d4 : decide ((0 : Int) < (M : Int)) = false := by rw [decide_eq_false_iff_not]; omega
     have d5 : ¬ (0 : Int) < (M : Int) := by omega
     have hVV : V = K + 1 := by rw [← HV.out]; have := deep_pos n; omega
     have HVV := Lib.hid hVV
     clear hVV hK
     go_wp2
     go_ret
     exact ⟨by rw [HVV.out]; simp, HX.out.1⟩
   ·have hi : ¬ (j : Int) < (n.kids.length : Int) := by omega
    have d1 : decide ((j : Int) < (n.kids.length : Int)) = false := by simpa using hi
    have hVV : V = K + 1 := by
     have : j = n.kids.length := by omega
     rw [this, List.take_length] at hK
     rw [← HV.out, ← hK]
     omega
    have HVV := Lib.hid hVV
    clear hVV hK
    go_wp2
    go_ret
    exact ⟨by rw [HVV.out]; simp, HX.out.1⟩
theorem fits_any (n : Nd) (cs : List Value) (w : World) (hr : RepN w n cs) : Calls Tryz.prog 16 #[.agg cs.toArray] w fun e w' => e = .returned (.bool (fitsN n)) ∧ Below w.heap.size w w' := by
 have H1 := Lib.hid (fun (W : World) (h : RepN W n cs) => many_all _ n (Nat.le_refl _) cs W 700 h (by omega))
 have H2 := Lib.hid (fun (W : World) (h : RepN W n cs) => deep_all _ n (Nat.le_refl _) cs W 16 h (by omega))
 have HR := Lib.hid hr
 obtain ⟨A, c, rfl, -⟩ := hr.four
 obtain ⟨V, HV⟩ : ∃ V, Hid (fitsN n = V) := ⟨_, rfl⟩
 rw [HV.out]
 have B0 : Hid (Below w.heap.size w (w.alloc (.cells #[.int .i64 n.k, .string n.t, .int .i64 n.num, .slice A n.kids.length c] 24))) := by show Below _ _ _; (repeat (first | with_reducible assumption | with_reducible exact Below.refl _ _ | (refine Below.setCell ?_ (by first | omega | (simp; done) | (simp; omega)) _) | (refine Below.drewN_ ?_ _) | (refine Below.drew ?_) | (refine Below.alloc ?_ (by first | omega | (simp; done) | (simp; omega)) _)))
 have K0 := Lib.hid (Blk.new_ w 24 #[.int .i64 n.k, .string n.t, .int .i64 n.num, .slice A n.kids.length c])
 clear hr
 go_enter Tryz.func16, Tryz.ntmps16
 go_wp2_with fail
 refine (H1.out _ (RepN.keep B0.out _ _ HR.out)).mono ?_
 rintro e w1 ⟨rfl, hb1⟩
 have B1 := Lib.hid (below_trans B0.out (Nat.le_refl _) hb1)
 have K1 := Lib.hid (K0.out.below hb1)
 clear hb1
 have q0 := K1.out.cell 0 (.int .i64 n.k) rfl
 have q1 := K1.out.cell 1 (.string n.t) rfl
 have q2 := K1.out.cell 2 (.int .i64 n.num) rfl
 have q3 := K1.out.cell 3 (.slice A n.kids.length c) rfl
 by_cases h7 : many n ≤ 700
 ·have hmin : min (many n) (700 + 1) = many n := by omega
  rw [hmin]
  have d1 : decide ((700 : Int) < (many n : Int)) = false := by rw [decide_eq_false_iff_not]; omega
  have d2 : ¬ (700 : Int) < (many n : Int) := by omega
  have HM := Lib.hid hmin
  clear hmin
  go_wp2_with fail
  refine (H2.out _ (RepN.keep B1.out _ _ HR.out)).mono ?_
  rintro e w2 ⟨rfl, hb2⟩
  have B2 := Lib.hid (below_trans B1.out (Nat.le_refl _) hb2)
  clear hb2
  have hVV : V = decide (((min (deep n) (16 + 1) : Nat) : Int) ≤ 16) := by
   rw [← HV.out]
   unfold fitsN
   rw [decide_eq_true h7, Bool.true_and, decide_eq_decide]
   omega
  have HVV := Lib.hid hVV
  clear hVV
  generalize min (deep n) (16 + 1) = R at *
  go_wp2
  go_ret
  exact ⟨by rw [HVV.out]; rfl, B2.out⟩
 ·have hmin : min (many n) (700 + 1) = 701 := by omega
  rw [hmin]
  have hVV : V = false := by
   rw [← HV.out]
   unfold fitsN
   rw [decide_eq_false h7, Bool.false_and]
  have HVV := Lib.hid hVV
  clear hVV hmin
  go_wp2
  go_ret
  exact ⟨by rw [HVV.out]; rfl, B1.out⟩
end Go.Proofs.YtgegfbopogcjpaaGreatDoor
namespace Go.Proofs.YtgegfbopogcjpaaGreatDoor
open Go.RowKit
set_option linter.unusedVariables false
set_option linter.unusedSimpArgs false
set_option maxRecDepth 100000
set_option maxHeartbeats 2000000
theorem uni_stR {w W : World} {A : Option Addr} {c : Nat} {L : List Tok} (hb : Below w.heap.size w W) (h1 : Blk W w.heap.size 24 #[.int .i64 0, .string ⟨#[]⟩, .int .i64 0, .slice none 0 0])
 (h2 : Blk W (w.heap.size + 1) 27 #[.int .i64 0, .int .i64 0]) (hrow : Row W A (L.flatMap tkV)) (hok : ∀ t ∈ L, TokOk t.k t.s) (hlen : L.length ≤ 4000) :
 St (fun ib W' => RSt ⟨W.heap.size, A, c, L⟩ W' ib.1 ib.2) W.heap.size (GU w W.heap.size) w (W.alloc (.cells #[.slice A L.length c, .int .i64 0, .bool false] 48)) (0, false)
  [rw_ w.heap.size (fun _ => False) [] none 0, bx w.heap.size 24 #[.int .i64 0, .string ⟨#[]⟩, .int .i64 0, .slice none 0 0], bx (w.heap.size + 1) 27 #[.int .i64 0, .int .i64 0]] := by
 have hba : Below W.heap.size W (W.alloc (.cells #[.slice A L.length c, .int .i64 0, .bool false] 48)) := (Below.refl _ _).alloc (Nat.le_refl _) _
 have hlt2 := h2.lt
 have hsz : (W.alloc (.cells #[.slice A L.length c, .int .i64 0, .bool false] 48)).heap.size = W.heap.size + 1 := by simp
 have hrb : ∀ b o, L ≠ [] → A = some ⟨b, o, none⟩ → b < W.heap.size ∧ b ≠ w.heap.size ∧ b ≠ w.heap.size + 1 := fun b o hne e => by
  have e1 := row_box hrow hok hne h1 node_zero b o e
  have e2 := row_box hrow hok hne h2 fault_zero b o e
  refine ⟨?_, e1, e2⟩
  rcases hrow with h | ⟨b2, o2, hA, hlt, -⟩
  ·obtain ⟨t, L', rfl⟩ := List.exists_cons_of_ne_nil hne
   simp [tkV] at h
  ·rw [hA] at e
   injection e with e
   injection e with e
   omega
 have hP : RSt ⟨W.heap.size, A, c, L⟩ (W.alloc (.cells #[.slice A L.length c, .int .i64 0, .bool false] 48)) 0 false :=
  ⟨Blk.new_ _ _ _, hrow.keep hba, fun hne b o e => by have := (hrb b o hne e).1; show b ≠ W.heap.size; omega, hlen, Nat.zero_le _, hok⟩
 refine ⟨.inr ⟨hlt2, Nat.le_refl _⟩, fun b hG => ?_, ?_, hP, fun j W1 W2 h hs hk => ?_, ?_, ?_, ?_⟩
 ·rcases hG with hG | hG
  ·have := hb.size; omega
  ·omega
 ·exact (mv_below hb).below_ hba
 ·have hkp := hk W.heap.size (.inr ⟨hlt2, Nat.le_refl _⟩)
  refine ⟨hkp.trans h.blk, ?_, h.ne, h.len, h.at_, h.ok⟩
  ·rcases h.row with h' | ⟨b, o, hA, hlt, hc⟩
   ·exact .inl h'
   ·by_cases hne : L = []
    ·exact .inl (by rw [hne]; rfl)
    ·have hr := hrb b o hne hA
     have hG : GU w W.heap.size b := by
      unfold GU
      rcases Nat.lt_or_ge b w.heap.size with h | h
      ·exact .inl h
      ·exact .inr ⟨by omega, by omega⟩
     exact .inr ⟨b, o, hA, Nat.lt_of_lt_of_le hlt hs, fun j v hj => (World.cell?_of_block (a := ⟨b, o + j, none⟩) (hk b hG)).trans (hc j v hj)⟩
 ·intro r hr
  rcases List.mem_cons.1 hr with rfl | hr
  ·exact ⟨[], rfl, fun g e => (nomatch e), World.ownsRow_nil _ _ _ _⟩
  ·rcases List.mem_cons.1 hr with rfl | hr
   ·exact h1.alloc _
   ·rw [List.mem_singleton] at hr
    subst hr
    exact h2.alloc _
 ·intro r hr b hv
  rcases List.mem_cons.1 hr with rfl | hr
  ·exact hv.elim
  ·rcases List.mem_cons.1 hr with rfl | hr
   ·have e : b = w.heap.size := hv
    subst e
    exact ⟨Nat.le_refl _, by omega, fun hG => by rcases hG with h | h <;> omega⟩
   ·rw [List.mem_singleton] at hr
    subst hr
    have e : b = w.heap.size + 1 := hv
    subst e
    exact ⟨by omega, by omega, fun hG => by rcases hG with h | h <;> omega⟩
 ·refine .cons (fun s hs b hv => hv.elim) (.cons (fun s hs b hv hv2 => ?_) (.cons (fun s hs => (nomatch hs)) .nil))
  rw [List.mem_singleton] at hs
  subst hs
  have e : b = w.heap.size := hv
  have e2 : b = w.heap.size + 1 := hv2
  omega
abbrev SR (C : RC) (w W : World) (ib : Nat × Bool) (l : List Rc) : Prop := St (fun ib W' => RSt C W' ib.1 ib.2) C.p (GU w C.p) w W ib l
def RaRel (C : RC) (w : World) (F : Nat) (R : Res Nd) (bt gk : Nat) (wr : World) : Prop :=
 ∃ (ks : List Nd) (A : Option Addr) (c : Nat) (V : Nat → Prop) (i : Nat) (b : Bool), Hid (SR C w wr (i, b) [rw_ w.heap.size V ks A c, bx bt 24 #[.int .i64 1, .string ⟨#[]⟩, .int .i64 0, .slice A ks.length c], bx w.heap.size 24 #[.int .i64 0, .string ⟨#[]⟩, .int .i64 0, .slice none 0 0], bx (w.heap.size + 1) 27 #[.int .i64 0, .int .i64 0]]) ∧ Hid (mbr (unitM C.L F gk ks i) i b = R) ∧ ks.length + gk ≤ C.L.length + 1
theorem parseR_any (hd : ∀ (C : RC) (F : Nat) (w : World) (i : Nat), RSt C w i false → mbr (declM C.L F i) i false ≠ .dry → Calls Tryz.prog 15 #[.pointer (some ⟨C.p, 0, none⟩)] w (RNode C w (mbr (declM C.L F i) i false))) (s : ByteArray) (w : World) : Calls Tryz.prog 7 #[.string s] w (PaOut s w) := by
 have K1 := Lib.hid ((Blk.new_ w 24 #[.int .i64 0, .string ⟨#[]⟩, .int .i64 0, .slice none 0 0]).alloc (.cells #[.int .i64 0, .int .i64 0] 27))
 have K2 : Hid (Blk ((w.alloc (.cells #[.int .i64 0, .string ⟨#[]⟩, .int .i64 0, .slice none 0 0] 24)).alloc (.cells #[.int .i64 0, .int .i64 0] 27)) (w.heap.size + 1) 27 #[.int .i64 0, .int .i64 0]) := by
  have := Blk.new_ (w.alloc (.cells #[.int .i64 0, .string ⟨#[]⟩, .int .i64 0, .slice none 0 0] 24)) 27 #[.int .i64 0, .int .i64 0]
  rwa [World.size_alloc] at this
 have B0 : Hid (Below w.heap.size w ((w.alloc (.cells #[.int .i64 0, .string ⟨#[]⟩, .int .i64 0, .slice none 0 0] 24)).alloc (.cells #[.int .i64 0, .int .i64 0] 27))) := Lib.hid (((Below.refl _ _).alloc (Nat.le_refl _) _).alloc (by simp) _)
 have HD := Lib.hid hd
 obtain ⟨P, HPP⟩ : ∃ P, Hid (parseOf s = P) := ⟨_, rfl⟩
 unfold PaOut
 rw [HPP.out]
 clear hd
 go_enter Tryz.func7, Tryz.ntmps7
 go_wp2_with fail
 generalize ((w.alloc (.cells #[.int .i64 0, .string ⟨#[]⟩, .int .i64 0, .slice none 0 0] 24)).alloc (.cells #[.int .i64 0, .int .i64 0] 27)) = w0 at *
 refine (refScan_any s w0).mono ?_
 rintro e w1 ⟨A, c, rfl, hrow, hb1⟩
 replace K1 := Lib.hid (K1.out.below hb1)
 replace K2 := Lib.hid (K2.out.below hb1)
 replace B0 := Lib.hid (below_trans B0.out (Nat.le_refl _) hb1)
 have hrow2 : Row w1 A ((lexOf s).l.flatMap tkV) := hrow
 have HROW := Lib.hid hrow2
 have HLEN := Lib.hid (lexOf_len s).1
 have HOKT := Lib.hid (lexOf_ok s)
 have HFP := Lib.hid (lexOf_p (s := s))
 obtain ⟨R, HR⟩ : ∃ R, Hid (unitR (lexOf s).l = R) := ⟨_, rfl⟩
 have HW : Hid (R ≠ .dry) := by show _ ≠ _; rw [← HR.out]; exact unit_wet _
 have HP : Hid (parseOf s = paOf (lexOf s).e (lexOf s).p (lexOf s).l s.size R) := by show _ = _; rw [← HR.out]; rfl
 rw [HPP.out] at HP
 clear hrow hrow2 hb1 HPP
 generalize (lexOf s).l = L at *
 generalize (lexOf s).e = E at *
 obtain ⟨FP, hFP⟩ : ∃ x : Nat, (lexOf s).p = x := ⟨_, rfl⟩
 rw [hFP] at HP HFP ⊢
 clear hFP
 have hr1b : w.heap.size + 1 < w1.heap.size := K2.out.lt
 have hne1 : w.heap.size ≠ w.heap.size + 1 := by omega
 have hne2 : w.heap.size + 1 ≠ w.heap.size := by omega
 go_upto_region 2 with (fail)
 have KF := Lib.hid (Blk.new_ w1 27 #[.int .i64 E, .int .i64 (FP : Int)])
 have hb : Below w1.heap.size w1 (w1.alloc (.cells #[.int .i64 E, .int .i64 (FP : Int)] 27)) := (Below.refl _ _).alloc (Nat.le_refl _) _
 replace K1 := Lib.hid (K1.out.below hb)
 replace K2 := Lib.hid (K2.out.below hb)
 replace B0 := Lib.hid (below_trans B0.out (Nat.le_refl _) hb)
 replace HROW := Lib.hid (HROW.out.keep hb)
 clear hb
 generalize w1.alloc (.cells #[.int .i64 E, .int .i64 (FP : Int)] 27) = w2 at *
 generalize w1.heap.size = bf at *
 have q0 := KF.out.cell 0 (.int .i64 E) rfl
 have q1 := KF.out.cell 1 (.int .i64 (FP : Int)) rfl
 by_cases hE : E = 0
 ·have HOK := Lib.hid (HOKT.out hE)
  subst hE
  clear HOKT HFP
  go_upto_region 5 with (fail)
  have HS : Hid (SR ⟨w2.heap.size, A, c, L⟩ w (w2.alloc (.cells #[.slice A L.length c, .int .i64 0, .bool false] 48)) (0, false) [rw_ w.heap.size (fun _ => False) [] none 0, bx w.heap.size 24 #[.int .i64 0, .string ⟨#[]⟩, .int .i64 0, .slice none 0 0], bx (w.heap.size + 1) 27 #[.int .i64 0, .int .i64 0]]) :=
   uni_stR B0.out K1.out K2.out HROW.out HOK.out HLEN.out
  obtain ⟨C, HC⟩ : ∃ C : RC, C = ⟨w2.heap.size, A, c, L⟩ := ⟨_, rfl⟩
  rw [← HC] at HS
  have hpC : w2.heap.size = C.p := by rw [HC]
  have hCA : C.A = A := by rw [HC]
  have hCL : C.L = L := by rw [HC]
  have hwp : w.heap.size + 1 < C.p := by rw [← hpC]; exact K2.out.lt
  rw [hpC]
  subst hCL hCA
  have hlen := HLEN.out
  clear K1 K2 B0 HROW HOK HLEN q0 q1 KF
  generalize w2.alloc (.cells #[.slice C.A C.L.length c, .int .i64 0, .bool false] 48) = w3 at *
  clear hpC HC
  have HR0 : Hid (mbr (unitM C.L (C.L.length + 1) (C.L.length + 1) [] 0) 0 false = R) := HR.out
  clear HR
  replace HS := Lib.hid (HS.out.box 24 #[.int .i64 1, .string ⟨#[]⟩, .int .i64 0, .slice none 0 0]).f1
  go_wp2_with fail
  generalize w3.alloc (.cells #[.int .i64 1, .string ⟨#[]⟩, .int .i64 0, .slice none 0 0] 24) = w4 at *
  generalize w3.heap.size = bt at *
  go_loopg [] (C.L.length + 1) (fun gk wr => RaRel C w (C.L.length + 1) R bt gk wr)
  case atStart => exact ⟨[], none, 0, _, 0, false, HS, HR0, by simp⟩
  case round =>
   clear HS HR0
   obtain ⟨ks, Ak, ck, Vk, i, b, HS, HR, hc⟩ := hrel
   have q1 := HS.out.z.blk.cell 1 (.int .i64 (i : Int)) rfl
   have q2 := HS.out.z.blk.cell 2 (.bool b) rfl
   have d0 : w.heap.size ≠ w.heap.size + 1 := by omega
   rcases b with _ | _
   ·cases gk with
    | zero => exact absurd (show Res.dry = R from HR.out) (fun e => HW.out e.symm)
    | succ g =>
    by_cases hi : i < C.L.length
    ·have d1 : (i : Int) < (C.L.length : Int) := by omega
     have hR := HR.out
     rw [unitM, if_pos hi] at hR
     replace HR := Lib.hid hR
     clear hR
     go_wp2_with fail
     refine (HD.out C (C.L.length + 1) wr i HS.out.z (mbr_wet HR.out HW.out)).mono ?_
     rintro e w5 ⟨x, Ax, cx, j, b', rfl, hr, h', m', hf⟩
     replace HR := Lib.hid (mbr_seq HR.out HW.out hf)
     replace HS := Lib.hid (HS.out.add (r := nd _ x Ax cx) (HS.out.to (j := (j, b')) m' h') (RepV.keep (V' := fun b => wr.heap.size ≤ b ∧ b < w5.heap.size) (Nat.le_refl _) (fun b hv hlt => ⟨rfl, hv, hlt⟩) _ _ hr) (fun b hb => hb))
     clear hr h' m' hf q1 q2
     replace HS := Lib.hid (HS.out.f1.box 24 #[.int .i64 x.k, .string x.t, .int .i64 x.num, .slice Ax x.kids.length cx])
     go_upto_region 8 with (fail)
     generalize w5.alloc (.cells #[.int .i64 x.k, .string x.t, .int .i64 x.num, .slice Ax x.kids.length cx] 24) = w6 at *
     generalize w5.heap.size = b8 at *
     obtain ⟨-, -, -, -, b0, b1, b2, b3⟩ := HS.out.one.all4
     have c3 := (HS.out.blk 3 rfl).cell 3 (.slice Ak ks.length ck) rfl
     have HB := Lib.hid (HS.out.drop.box 24 #[.int .i64 x.k, .string x.t, .int .i64 x.num, .slice Ax x.kids.length cx]).f2.f2
     clear HS
     go_wp2_with (at_builtin; refine wpList_push (x := x) HB.out (by first | rfl | simp) (by omega) rfl _ _ rfl rfl rfl ?_)
     clear HB; intro A2 c2 V2 w7 HS
     have f3 := HS.out.f1.one.free 3
     have g3 := HS.out.f1.one.cell 3 (.slice Ak ks.length ck) rfl
     go_wp2_with fail
     replace HS := Lib.hid (HS.out.f1.put1 3 (.slice A2 (ks.length + 1) c2)).f1
     generalize w7.setCell ⟨bt, 3, none⟩ (.slice A2 (ks.length + 1) c2) = w8 at *
     go_roundg g
     case measure => omega
     case rel => exact ⟨_, A2, c2, V2, j, b', (by have h := HS.out; rw [show ks.length + 1 = (ks ++ [x]).length by simp] at h; exact h), HR, by simp; omega⟩
    ·have d1 : ¬ (i : Int) < (C.L.length : Int) := by omega
     have hR := HR.out
     rw [unitM, if_neg hi] at hR
     replace HR := Lib.hid (show Res.ok (Nd.mk 1 ⟨#[]⟩ 0 ks) i = R from hR)
     clear hR
     have HS2 := Lib.hid (HS.out.kids 1 ⟨#[]⟩ 0 i64_0 (Nat.zero_le _))
     obtain ⟨-, -, -, -, b0, b1, b2, b3⟩ := (HS.out.blk 1 rfl).all4
     go_wp2_with fail
     refine (fits_any (.mk 1 ⟨#[]⟩ 0 ks) (cN (.mk 1 ⟨#[]⟩ 0 ks) Ak ck) wr (RepV.rep _ _ HS2.out.one)).mono ?_
     rintro e w5 ⟨rfl, hb⟩
     replace HS := Lib.hid (HS2.out.below hb)
     clear b0 b1 b2 b3 q1 q2 hb HS2
     obtain ⟨-, -, -, -, b0, b1, b2, b3⟩ := (HS.out.blk 1 rfl).all4
     obtain ⟨f0, f1, f2, f3, g0, g1, g2, g3⟩ := (HS.out.blk 2 rfl).all4
     have HBF : Hid (Blk _ (w.heap.size + 1) 27 #[.int .i64 0, .int .i64 0]) := HS.out.blk 3 rfl
     have k0 := HBF.out.free 0
     have k1 := HBF.out.free 1
     have l0 := HBF.out.cell 0 (.int .i64 0) rfl
     have l1 := HBF.out.cell 1 (.int .i64 0) rfl
     rcases hfit : fitsN (.mk 1 ⟨#[]⟩ 0 ks) with _ | _
     ·have HP2 : Hid (P = ⟨nd0, 1, 0⟩) := by
       show _ = _
       rw [HP.out, ← HR.out]
       unfold paOf
       rw [if_neg (by simp)]
       simp only
       rw [if_neg (by rw [hfit]; simp)]
      clear hfit
      go_wp2_with fail
      have H9 := ((HS.out.f2.put4 (.int .i64 0) (.string ⟨#[]⟩) (.int .i64 0) (.slice none 0 0)).f3.put1 0 (.int .i64 1)).put1 1 (.int .i64 0)
      exact bodyPost_ret (results_par (by kernel_rfl) H9.f1.one H9.one rfl rfl) rfl ⟨none, 0, by rw [HP2.out]; rfl, by rw [HP2.out]; exact repN_zero _, mv_low H9.mv (by omega)⟩
     ·have HP2 : Hid (P = ⟨.mk 1 ⟨#[]⟩ 0 ks, 0, 0⟩) := by
       show _ = _
       rw [HP.out, ← HR.out]
       unfold paOf
       rw [if_neg (by simp)]
       simp only
       rw [if_pos hfit]
      clear hfit
      go_wp2_with fail
      have H9 := ((HS.out.f2.put4 (.int .i64 1) (.string ⟨#[]⟩) (.int .i64 0) (.slice Ak ks.length ck)).f3.put1 0 (.int .i64 0)).put1 1 (.int .i64 0)
      exact bodyPost_ret (results_par (by kernel_rfl) H9.f1.one H9.one rfl rfl) rfl ⟨Ak, ck, by rw [HP2.out]; rfl, by rw [HP2.out]; exact RepV.rep _ _ H9.f2.one, mv_low H9.mv (by omega)⟩
   ·have HR1 : Hid (Res.bad i = R) := HR.out
    have HP2 : Hid (P = ⟨nd0, 2, match C.L[i]? with | some t => t.p | none => s.size⟩) := by
     show _ = _
     rw [HP.out, ← HR1.out]
     unfold paOf
     rw [if_neg (by simp)]
     rfl
    clear HR HR1
    obtain ⟨f0, f1, f2, f3, g0, g1, g2, g3⟩ := (HS.out.blk 2 rfl).all4
    have HBF : Hid (Blk _ (w.heap.size + 1) 27 #[.int .i64 0, .int .i64 0]) := HS.out.blk 3 rfl
    have k0 := HBF.out.free 0
    have k1 := HBF.out.free 1
    have l0 := HBF.out.cell 0 (.int .i64 0) rfl
    have l1 := HBF.out.cell 1 (.int .i64 0) rfl
    by_cases hi : i < C.L.length
    ·have d1 : (i : Int) < (C.L.length : Int) := by omega
     obtain ⟨tb, ofs, hA, -, -, -, t2⟩ := tok_cells HS.out.z.row hi
     rw [List.getElem?_eq_getElem hi] at HP2
     simp only at HP2
     have hne3 : C.L ≠ [] := fun e => by rw [e] at hi; exact absurd hi (Nat.not_lt_zero _)
     have hn1 : tb ≠ w.heap.size := row_box HS.out.z.row HS.out.z.ok hne3 (HS.out.blk 2 rfl) node_zero tb ofs hA
     have hn2 : tb ≠ w.heap.size + 1 := row_box HS.out.z.row HS.out.z.ok hne3 HBF.out fault_zero tb ofs hA
     have hn3 := Ne.symm hn1
     have hn4 := Ne.symm hn2
     clear hne3
     generalize C.L[i].p = tp at *
     generalize C.A = CA at *
     subst hA
     have i1 : (0 : Int) ≤ (i : Int) := by omega
     go_wp2_with fail
     go_region
     go_wp2_with fail
     have H9 := (((HS.out.f2.put4 (.int .i64 0) (.string ⟨#[]⟩) (.int .i64 0) (.slice none 0 0)).f3.put1 0 (.int .i64 2)).put1 1 (.int .i64 (tp : Int))).below (Below.refl _ _).drew
     exact bodyPost_ret (results_par (by kernel_rfl) H9.f1.one H9.one rfl rfl) rfl ⟨none, 0, by rw [HP2.out]; rfl, by rw [HP2.out]; exact repN_zero _, mv_low H9.mv (by omega)⟩
    ·have d1 : ¬ (i : Int) < (C.L.length : Int) := by omega
     rw [List.getElem?_eq_none (by omega)] at HP2
     simp only at HP2
     go_wp2_with fail
     have H9 := ((HS.out.f2.put4 (.int .i64 0) (.string ⟨#[]⟩) (.int .i64 0) (.slice none 0 0)).f3.put1 0 (.int .i64 2)).put1 1 (.int .i64 (s.size : Int))
     exact bodyPost_ret (results_par (by kernel_rfl) H9.f1.one H9.one rfl rfl) rfl ⟨none, 0, by rw [HP2.out]; rfl, by rw [HP2.out]; exact repN_zero _, mv_low H9.mv (by omega)⟩
 ·have hE2 : (E == 0) = false := by simpa using hE
  have k0 := K2.out.free 0
  have k1 := K2.out.free 1
  have l0 := K2.out.cell 0 (.int .i64 0) rfl
  have l1 := K2.out.cell 1 (.int .i64 0) rfl
  obtain ⟨f0, f1, f2, f3, g0, g1, g2, g3⟩ := K1.out.all4
  go_wp2_with fail
  go_region
  go_wp2_with fail
  have hP : P = ⟨nd0, E, FP⟩ := by rw [HP.out]; unfold paOf; rw [if_pos hE]
  have KN := (Blk.far (Blk.far (blk_put4 K1.out (.int .i64 0) (.string ⟨#[]⟩) (.int .i64 0) (.slice none 0 0)) (p := ⟨w.heap.size + 1, 0, none⟩) hne1 (.int .i64 E)) (p := ⟨w.heap.size + 1, 1, none⟩) hne1 (.int .i64 (FP : Int)))
  have KG := (((Blk.far (Blk.far (Blk.far (Blk.far K2.out (p := ⟨w.heap.size, 0, none⟩) hne2 (.int .i64 0)) (p := ⟨w.heap.size, 1, none⟩) hne2 (.string ⟨#[]⟩)) (p := ⟨w.heap.size, 2, none⟩) hne2 (.int .i64 0)) (p := ⟨w.heap.size, 3, none⟩) hne2 (.slice none 0 0)).set_ 0 (.int .i64 E)).set_ 1 (.int .i64 (FP : Int)))
  have BF := Below.drew (Below.setCell (Below.setCell (Below.setCell (Below.setCell (Below.setCell (Below.setCell B0.out (p := ⟨w.heap.size, 0, none⟩) (by show w.heap.size ≤ w.heap.size; omega) (.int .i64 0)) (p := ⟨w.heap.size, 1, none⟩) (by show w.heap.size ≤ w.heap.size; omega) (.string ⟨#[]⟩)) (p := ⟨w.heap.size, 2, none⟩) (by show w.heap.size ≤ w.heap.size; omega) (.int .i64 0)) (p := ⟨w.heap.size, 3, none⟩) (by show w.heap.size ≤ w.heap.size; omega) (.slice none 0 0)) (p := ⟨w.heap.size + 1, 0, none⟩) (by show w.heap.size ≤ w.heap.size + 1; omega) (.int .i64 E)) (p := ⟨w.heap.size + 1, 1, none⟩) (by show w.heap.size ≤ w.heap.size + 1; omega) (.int .i64 (FP : Int)))
  exact bodyPost_ret (results_par (by kernel_rfl) (Blk.drw KN) (Blk.drw KG) rfl rfl) rfl ⟨none, 0, by rw [hP]; rfl, by rw [hP]; exact repN_zero _, BF⟩
end Go.Proofs.YtgegfbopogcjpaaGreatDoor
namespace Go.Proofs.YtgegfbopogcjpaaGreatDoor
open Go.RowKit
set_option linter.unusedVariables false
set_option linter.unusedSimpArgs false
set_option maxRecDepth 100000
set_option maxHeartbeats 2000000
def SameRel (n : Nd) (A A2 : Option Addr) (c c2 : Nat) (w : World) (i : Value) (wr : World) : Prop :=
 ∃ j : Nat, i = .int .i64 j ∧ j ≤ n.kids.length ∧ Hid (Below w.heap.size w wr ∧ Blk wr w.heap.size 24 #[.int .i64 n.k, .string n.t, .int .i64 n.num, .slice A n.kids.length c] ∧ Blk wr (w.heap.size + 1) 24 #[.int .i64 n.k, .string n.t, .int .i64 n.num, .slice A2 n.kids.length c2])
theorem same_all : ∀ (N : Nat) (n : Nd), many n ≤ N → ∀ (cs ds : List Value) (w : World), RepN w n cs → RepN w n ds →
 Calls Tryz.prog 8 #[.agg cs.toArray, .agg ds.toArray] w fun e w' => e = .returned (.bool true) ∧ Below w.heap.size w w'
 | 0, n, h => absurd h (by have := many_pos n; omega)
 | N + 1, n, hN => by
  intro cs ds w hr hr2
  have IH := Lib.hid (fun m (hm : m ∈ n.kids) => same_all N m (by have := many_kid hm; omega))
  obtain ⟨A, c, rfl, hR, hcap, hlm, hn64, hts⟩ := hr.four
  obtain ⟨A2, c2, rfl, hR2, hcap2, -, -, -⟩ := hr2.four
  have HR := Lib.hid hR
  have HR2 := Lib.hid hR2
  clear hr hR hr2 hR2 hN
  have hl9 : n.kids.length ≤ 9223372036854775807 := by unfold maxLen at hlm; omega
  have X0 : Hid (Below w.heap.size w ((w.alloc (.cells #[.int .i64 n.k, .string n.t, .int .i64 n.num, .slice A n.kids.length c] 24)).alloc (.cells #[.int .i64 n.k, .string n.t, .int .i64 n.num, .slice A2 n.kids.length c2] 24))) := by show Below _ _ _; exact ((Below.refl _ _).alloc (Nat.le_refl _) _).alloc (by simp) _
  have X1 : Hid (Blk ((w.alloc (.cells #[.int .i64 n.k, .string n.t, .int .i64 n.num, .slice A n.kids.length c] 24)).alloc (.cells #[.int .i64 n.k, .string n.t, .int .i64 n.num, .slice A2 n.kids.length c2] 24)) w.heap.size 24 #[.int .i64 n.k, .string n.t, .int .i64 n.num, .slice A n.kids.length c]) := (Blk.new_ _ _ _).alloc _
  have X2 : Hid (Blk ((w.alloc (.cells #[.int .i64 n.k, .string n.t, .int .i64 n.num, .slice A n.kids.length c] 24)).alloc (.cells #[.int .i64 n.k, .string n.t, .int .i64 n.num, .slice A2 n.kids.length c2] 24)) (w.heap.size + 1) 24 #[.int .i64 n.k, .string n.t, .int .i64 n.num, .slice A2 n.kids.length c2]) := by
   have := Blk.new_ (w.alloc (.cells #[.int .i64 n.k, .string n.t, .int .i64 n.num, .slice A n.kids.length c] 24)) 24 #[.int .i64 n.k, .string n.t, .int .i64 n.num, .slice A2 n.kids.length c2]
   rwa [World.size_alloc] at this
  go_enter Tryz.func8, Tryz.ntmps8
  go_upto_region 1 with (fail)
  generalize (w.alloc (.cells #[.int .i64 n.k, .string n.t, .int .i64 n.num, .slice A n.kids.length c] 24)).alloc (.cells #[.int .i64 n.k, .string n.t, .int .i64 n.num, .slice A2 n.kids.length c2] 24) = w0 at *
  have a0 := X1.out.cell 0 _ rfl
  have a1 := X1.out.cell 1 _ rfl
  have a2 := X1.out.cell 2 _ rfl
  have a3 := X1.out.cell 3 _ rfl
  have b0 := X2.out.cell 0 _ rfl
  have b1 := X2.out.cell 1 _ rfl
  have b2 := X2.out.cell 2 _ rfl
  have b3 := X2.out.cell 3 _ rfl
  go_wp2_with fail
  clear a0 a1 a2 a3 b0 b1 b2 b3
  go_loopw [5] (fun i wr => SameRel n A A2 c c2 w i wr) (fun i _ => n.kids.length - (intOf i).toNat)
  case atStart => exact ⟨0, rfl, Nat.zero_le _, Lib.hid ⟨X0.out, X1.out, X2.out⟩⟩
  case round =>
   obtain ⟨j, rfl, hj, HX⟩ := hrel
   have a3 := HX.out.2.1.cell 3 (.slice A n.kids.length c) rfl
   have b3 := HX.out.2.2.cell 3 (.slice A2 n.kids.length c2) rfl
   by_cases hlt : j < n.kids.length
   ·have hi : (j : Int) < (n.kids.length : Int) := by omega
    have d1 : decide ((j : Int) < (n.kids.length : Int)) = true := by simpa using hi
    obtain ⟨b, o, cs, hA, hbl, hc, hrep⟩ := RepNL.at_ n.kids _ HR.out j hlt
    subst hA
    obtain ⟨A', c', rfl, -⟩ := hrep.four
    obtain ⟨bb, oo, ds, hA, hbl2, hc2, hrep2⟩ := RepNL.at_ n.kids _ HR2.out j hlt
    subst hA
    obtain ⟨A'', c'', rfl, -⟩ := hrep2.four
    have bw := HX.out.1
    have z0 := (bw.cell (p := ⟨b, o + j * 4 + 0, none⟩) hbl).trans (hc 0 _ rfl)
    have z1 := (bw.cell (p := ⟨b, o + j * 4 + 1, none⟩) hbl).trans (hc 1 _ rfl)
    have z2 := (bw.cell (p := ⟨b, o + j * 4 + 2, none⟩) hbl).trans (hc 2 _ rfl)
    have z3 := (bw.cell (p := ⟨b, o + j * 4 + 3, none⟩) hbl).trans (hc 3 _ rfl)
    have y0 := (bw.cell (p := ⟨bb, oo + j * 4 + 0, none⟩) hbl2).trans (hc2 0 _ rfl)
    have y1 := (bw.cell (p := ⟨bb, oo + j * 4 + 1, none⟩) hbl2).trans (hc2 1 _ rfl)
    have y2 := (bw.cell (p := ⟨bb, oo + j * 4 + 2, none⟩) hbl2).trans (hc2 2 _ rfl)
    have y3 := (bw.cell (p := ⟨bb, oo + j * 4 + 3, none⟩) hbl2).trans (hc2 3 _ rfl)
    rw [Nat.add_zero] at z0 y0
    have HREP := Lib.hid (RepN.keep bw _ _ hrep)
    have HREP2 := Lib.hid (RepN.keep bw _ _ hrep2)
    have HI := Lib.hid (IH.out _ (List.getElem_mem hlt))
    have hsz := bw.size
    have i1 : (0 : Int) ≤ (j : Int) := by omega
    clear hc hc2 bw hrep hrep2
    generalize n.kids[j] = x at *
    have hz0 : w.heap.size < wr.heap.size := HX.out.2.1.lt
    have hz1 : w.heap.size + 1 < wr.heap.size := HX.out.2.2.lt
    have hz2 : b < wr.heap.size := by omega
    have hz3 : bb < wr.heap.size := by omega
    go_wp2_with fail
    have hdr : Below wr.heap.size wr wr.drew := (Below.refl _ _).drew
    refine wp_region_held_drew (S := fun W => W.cell? ⟨w.heap.size, 3, none⟩ = some (.slice (some ⟨b, o, none⟩) n.kids.length c) ∧ W.cell? ⟨w.heap.size + 1, 3, none⟩ = some (.slice (some ⟨bb, oo, none⟩) n.kids.length c2) ∧ W.cell? ⟨b, o + j * 4, none⟩ = some (.int .i64 x.k) ∧ W.cell? ⟨b, o + j * 4 + 1, none⟩ = some (.string x.t) ∧ W.cell? ⟨b, o + j * 4 + 2, none⟩ = some (.int .i64 x.num) ∧ W.cell? ⟨b, o + j * 4 + 3, none⟩ = some (.slice A' x.kids.length c') ∧ W.cell? ⟨bb, oo + j * 4, none⟩ = some (.int .i64 x.k) ∧ W.cell? ⟨bb, oo + j * 4 + 1, none⟩ = some (.string x.t) ∧ W.cell? ⟨bb, oo + j * 4 + 2, none⟩ = some (.int .i64 x.num) ∧ W.cell? ⟨bb, oo + j * 4 + 3, none⟩ = some (.slice A'' x.kids.length c'')) (by kernel_rfl) ⟨a3, b3, z0, z1, z2, z3, y0, y1, y2, y3⟩ (fun hHeld => ?_)
    (refine wpAnyH_take (i := 0) (v := ?_) rfl (by kernel_rfl) (by kernel_rfl) (by kernel_rfl) (fun _ _ _ h => h) (Or.inl ⟨by rfl, ?_⟩) (by assumption) ?_; rotate_left; · ((intro w hSw; (try dsimp only at hSw); go_simp) <;> with_reducible rfl); (try simp only [List.getElem_toArray, List.getElem_cons_succ, List.getElem_cons_zero, Act.put, List.setIfInBounds_toArray, List.set_cons_zero, List.set_cons_succ])); (refine wpAnyH_take (i := 1) (v := ?_) rfl (by kernel_rfl) (by kernel_rfl) (by kernel_rfl) (fun _ _ _ h => h) (Or.inl ⟨by rfl, ?_⟩) (by assumption) ?_; rotate_left; · ((intro w hSw; (try dsimp only at hSw); go_simp) <;> with_reducible rfl); (try simp only [List.getElem_toArray, List.getElem_cons_succ, List.getElem_cons_zero, Act.put, List.setIfInBounds_toArray, List.set_cons_zero, List.set_cons_succ])); (refine wpAnyH_take (i := 2) (v := ?_) rfl (by kernel_rfl) (by kernel_rfl) (by kernel_rfl) (fun _ _ _ h => h) (Or.inl ⟨by rfl, ?_⟩) (by assumption) ?_; rotate_left; · ((intro w hSw; (try dsimp only at hSw); go_simp) <;> with_reducible rfl); (try simp only [List.getElem_toArray, List.getElem_cons_succ, List.getElem_cons_zero, Act.put, List.setIfInBounds_toArray, List.set_cons_zero, List.set_cons_succ])); (refine wpAnyH_take (i := 3) (v := ?_) rfl (by kernel_rfl) (by kernel_rfl) (by kernel_rfl) (fun _ _ _ h => h) (Or.inl ⟨by rfl, ?_⟩) (by assumption) ?_; rotate_left; · ((intro w hSw; (try dsimp only at hSw); go_simp) <;> with_reducible rfl); (try simp only [List.getElem_toArray, List.getElem_cons_succ, List.getElem_cons_zero, Act.put, List.setIfInBounds_toArray, List.set_cons_zero, List.set_cons_succ])); (refine wpAnyH_take (i := 4) (v := ?_) rfl (by kernel_rfl) (by kernel_rfl) (by kernel_rfl) (fun _ _ _ h => h) (Or.inl ⟨by rfl, ?_⟩) (by assumption) ?_; rotate_left; · ((intro w hSw; (try dsimp only at hSw); go_simp) <;> with_reducible rfl); (try simp only [List.getElem_toArray, List.getElem_cons_succ, List.getElem_cons_zero, Act.put, List.setIfInBounds_toArray, List.set_cons_zero, List.set_cons_succ])); (refine wpAnyH_take (i := 5) (v := ?_) rfl (by kernel_rfl) (by kernel_rfl) (by kernel_rfl) (fun _ _ _ h => h) (Or.inl ⟨by rfl, ?_⟩) (by assumption) ?_; rotate_left; · ((intro w hSw; (try dsimp only at hSw); go_simp) <;> with_reducible rfl); (try simp only [List.getElem_toArray, List.getElem_cons_succ, List.getElem_cons_zero, Act.put, List.setIfInBounds_toArray, List.set_cons_zero, List.set_cons_succ])); (refine wpAnyH_take (i := 6) (v := ?_) rfl (by kernel_rfl) (by kernel_rfl) (by kernel_rfl) (fun _ _ _ h => h) (Or.inl ⟨by rfl, ?_⟩) (by assumption) ?_; rotate_left; · ((intro w hSw; (try dsimp only at hSw); go_simp) <;> with_reducible rfl); (try simp only [List.getElem_toArray, List.getElem_cons_succ, List.getElem_cons_zero, Act.put, List.setIfInBounds_toArray, List.set_cons_zero, List.set_cons_succ])); (refine wpAnyH_take (i := 7) (v := ?_) rfl (by kernel_rfl) (by kernel_rfl) (by kernel_rfl) (fun _ _ _ h => h) (Or.inl ⟨by rfl, ?_⟩) (by assumption) ?_; rotate_left; · ((intro w hSw; (try dsimp only at hSw); go_simp) <;> with_reducible rfl); (try simp only [List.getElem_toArray, List.getElem_cons_succ, List.getElem_cons_zero, Act.put, List.setIfInBounds_toArray, List.set_cons_zero, List.set_cons_succ])); (refine wpAnyH_take (i := 8) (v := ?_) rfl (by kernel_rfl) (by kernel_rfl) (by kernel_rfl) (fun _ _ _ h => h) (Or.inl ⟨by rfl, ?_⟩) (by assumption) ?_; rotate_left; · ((intro w hSw; (try dsimp only at hSw); go_simp) <;> with_reducible rfl); (try simp only [List.getElem_toArray, List.getElem_cons_succ, List.getElem_cons_zero, Act.put, List.setIfInBounds_toArray, List.set_cons_zero, List.set_cons_succ])); (refine wpAnyH_take (i := 9) (v := ?_) rfl (by kernel_rfl) (by kernel_rfl) (by kernel_rfl) (fun _ _ _ h => h) (Or.inl ⟨by rfl, ?_⟩) (by assumption) ?_; rotate_left; · ((intro w hSw; (try dsimp only at hSw); go_simp) <;> with_reducible rfl); (try simp only [List.getElem_toArray, List.getElem_cons_succ, List.getElem_cons_zero, Act.put, List.setIfInBounds_toArray, List.set_cons_zero, List.set_cons_succ]))
    refine wpAnyH_ready (rs := [10]) (by kernel_rfl) (by simp) (AllReadyH.cons rfl (fun K hK => ?_) AllReadyH.nil)
    clear hHeld
    go_simp
    refine (HI.out _ _ _ (RepN.keep hdr _ _ HREP.out) (RepN.keep hdr _ _ HREP2.out)).mono ?_
    rintro e w5 ⟨rfl, hb5⟩
    have hb6 : Below wr.heap.size wr w5 := hdr.trans hb5
    have key : ∀ (p : Addr) (v : Value), p.block < wr.heap.size → wr.cell? p = some v → w5.cell? p = some v := fun p v hp h => (hb6.cell hp).trans h
    refine hK.out _ _ ⟨key _ _ hz0 a3, key _ _ hz1 b3, key _ _ hz2 z0, key _ _ hz2 z1, key _ _ hz2 z2, key _ _ hz2 z3, key _ _ hz3 y0, key _ _ hz3 y1, key _ _ hz3 y2, key _ _ hz3 y3⟩ (fun hHeld => ?_)
    clear hK K
    (try simp only [List.getElem_toArray, List.getElem_cons_succ, List.getElem_cons_zero, Act.put, List.setIfInBounds_toArray, List.set_cons_zero, List.set_cons_succ])
    (refine wpAnyH_take (i := 11) (v := ?_) rfl (by kernel_rfl) (by kernel_rfl) (by kernel_rfl) (fun _ _ _ h => h) (Or.inl ⟨by rfl, ?_⟩) (by assumption) ?_; rotate_left; · ((intro w hSw; (try dsimp only at hSw); go_simp) <;> with_reducible rfl); (try simp only [List.getElem_toArray, List.getElem_cons_succ, List.getElem_cons_zero, Act.put, List.setIfInBounds_toArray, List.set_cons_zero, List.set_cons_succ]))
    refine wpAnyH_done (by kernel_rfl) ?_ _
    have HX2 : Hid (Below w.heap.size w w5 ∧ Blk w5 w.heap.size 24 #[.int .i64 n.k, .string n.t, .int .i64 n.num, .slice (some ⟨b, o, none⟩) n.kids.length c] ∧ Blk w5 (w.heap.size + 1) 24 #[.int .i64 n.k, .string n.t, .int .i64 n.num, .slice (some ⟨bb, oo, none⟩) n.kids.length c2]) :=
     ⟨below_trans HX.out.1 (Nat.le_refl _) hb6, HX.out.2.1.below hb6, HX.out.2.2.below hb6⟩
    clear hHeld hb5 hb6 key hdr
    go_wp2
    go_roundw
    case rel => exact ⟨j + 1, by go_num, by omega, HX2⟩
    case measure => (first | (simp [intOf]; done) | (simp [intOf]; omega))
   ·have hi : ¬ (j : Int) < (n.kids.length : Int) := by omega
    have d1 : decide ((j : Int) < (n.kids.length : Int)) = false := by simpa using hi
    go_wp2
    go_ret
    exact ⟨rfl, HX.out.1⟩
theorem same_any (n : Nd) (cs ds : List Value) (w : World) (h1 : RepN w n cs) (h2 : RepN w n ds) : Calls Tryz.prog 8 #[.agg cs.toArray, .agg ds.toArray] w fun e w' => e = .returned (.bool true) ∧ Below w.heap.size w w' :=
 same_all _ n (Nat.le_refl _) cs ds w h1 h2
end Go.Proofs.YtgegfbopogcjpaaGreatDoor
namespace Go.Proofs.YtgegfbopogcjpaaGreatDoor
open Go.RowKit
set_option linter.unusedVariables false
set_option linter.unusedSimpArgs false
set_option maxRecDepth 100000
set_option maxHeartbeats 2000000
theorem parses_walk (hd : ∀ C F, POk C 12 (declM C.L F)) (hd2 : ∀ (C : RC) (F : Nat) (w : World) (i : Nat), RSt C w i false → mbr (declM C.L F i) i false ≠ .dry → Calls Tryz.prog 15 #[.pointer (some ⟨C.p, 0, none⟩)] w (RNode C w (mbr (declM C.L F i) i false)))
 (s : ByteArray) (w : World) (hml : ML w) (he : ER w) : Calls Tryz.prog 3 #[.string s] w fun e w' => e = .returned (.bool true) ∧ Below w.heap.size w w' := by
 have PA := Lib.hid (parse_any hd s w hml he)
 have PR := Lib.hid (fun W => parseR_any hd2 s W)
 clear hd hd2 hml he
 unfold PaOut PaO at PA PR
 generalize parseOf s = P at *
 obtain ⟨n, E, p⟩ := P
 simp only at PA PR
 go_enter Tryz.func3, Tryz.ntmps3
 go_wp2_with fail
 refine PA.out.mono ?_
 rintro e w1 ⟨A, c, rfl, hr1, hb1⟩
 have HR1 := Lib.hid hr1
 have HB1 := Lib.hid hb1
 clear hr1 hb1
 go_upto_region 2 with (fail)
 have K1 := Lib.hid ((Blk.new_ w1 24 #[.int .i64 n.k, .string n.t, .int .i64 n.num, .slice A n.kids.length c]).alloc (.cells #[.int .i64 E, .int .i64 (p : Int)] 27))
 have K2 : Hid (Blk ((w1.alloc (.cells #[.int .i64 n.k, .string n.t, .int .i64 n.num, .slice A n.kids.length c] 24)).alloc (.cells #[.int .i64 E, .int .i64 (p : Int)] 27)) (w1.heap.size + 1) 27 #[.int .i64 E, .int .i64 (p : Int)]) := by
  have := Blk.new_ (w1.alloc (.cells #[.int .i64 n.k, .string n.t, .int .i64 n.num, .slice A n.kids.length c] 24)) 27 #[.int .i64 E, .int .i64 (p : Int)]
  rwa [World.size_alloc] at this
 have hb2 : Below w1.heap.size w1 ((w1.alloc (.cells #[.int .i64 n.k, .string n.t, .int .i64 n.num, .slice A n.kids.length c] 24)).alloc (.cells #[.int .i64 E, .int .i64 (p : Int)] 27)) := ((Below.refl _ _).alloc (Nat.le_refl _) _).alloc (by simp) _
 replace HR1 := Lib.hid (RepN.keep hb2 _ _ HR1.out)
 replace HB1 := Lib.hid (below_trans HB1.out (Nat.le_refl _) hb2)
 clear hb2
 generalize (w1.alloc (.cells #[.int .i64 n.k, .string n.t, .int .i64 n.num, .slice A n.kids.length c] 24)).alloc (.cells #[.int .i64 E, .int .i64 (p : Int)] 27) = w2 at *
 go_wp2_with fail
 refine (PR.out w2).mono ?_
 rintro e w3 ⟨A2, c2, rfl, hr2, hb3⟩
 replace HR1 := Lib.hid (RepN.keep hb3 _ _ HR1.out)
 replace HB1 := Lib.hid (below_trans HB1.out (Nat.le_refl _) hb3)
 replace K1 := Lib.hid (K1.out.below hb3)
 replace K2 := Lib.hid (K2.out.below hb3)
 have HR2 := Lib.hid hr2
 clear hr2 hb3
 go_upto_region 3 with (fail)
 have K3 := Lib.hid ((Blk.new_ w3 24 #[.int .i64 n.k, .string n.t, .int .i64 n.num, .slice A2 n.kids.length c2]).alloc (.cells #[.int .i64 E, .int .i64 (p : Int)] 27))
 have K4 : Hid (Blk ((w3.alloc (.cells #[.int .i64 n.k, .string n.t, .int .i64 n.num, .slice A2 n.kids.length c2] 24)).alloc (.cells #[.int .i64 E, .int .i64 (p : Int)] 27)) (w3.heap.size + 1) 27 #[.int .i64 E, .int .i64 (p : Int)]) := by
  have := Blk.new_ (w3.alloc (.cells #[.int .i64 n.k, .string n.t, .int .i64 n.num, .slice A2 n.kids.length c2] 24)) 27 #[.int .i64 E, .int .i64 (p : Int)]
  rwa [World.size_alloc] at this
 have hb2 : Below w3.heap.size w3 ((w3.alloc (.cells #[.int .i64 n.k, .string n.t, .int .i64 n.num, .slice A2 n.kids.length c2] 24)).alloc (.cells #[.int .i64 E, .int .i64 (p : Int)] 27)) := ((Below.refl _ _).alloc (Nat.le_refl _) _).alloc (by simp) _
 replace HR1 := Lib.hid (RepN.keep hb2 _ _ HR1.out)
 replace HR2 := Lib.hid (RepN.keep hb2 _ _ HR2.out)
 replace HB1 := Lib.hid (below_trans HB1.out (Nat.le_refl _) hb2)
 replace K1 := Lib.hid (K1.out.below hb2)
 replace K2 := Lib.hid (K2.out.below hb2)
 clear hb2
 generalize (w3.alloc (.cells #[.int .i64 n.k, .string n.t, .int .i64 n.num, .slice A2 n.kids.length c2] 24)).alloc (.cells #[.int .i64 E, .int .i64 (p : Int)] 27) = w4 at *
 have a0 := K1.out.cell 0 _ rfl
 have a1 := K1.out.cell 1 _ rfl
 have a2 := K1.out.cell 2 _ rfl
 have a3 := K1.out.cell 3 _ rfl
 have b0 := K2.out.cell 0 _ rfl
 have b1 := K2.out.cell 1 _ rfl
 have c0 := K3.out.cell 0 _ rfl
 have c1 := K3.out.cell 1 _ rfl
 have c2 := K3.out.cell 2 _ rfl
 have c3 := K3.out.cell 3 _ rfl
 have d0 := K4.out.cell 0 _ rfl
 have d1 := K4.out.cell 1 _ rfl
 go_wp2_with fail
 refine (same_any n _ _ w4 HR1.out HR2.out).mono ?_
 rintro e w5 ⟨rfl, hb5⟩
 replace HB1 := Lib.hid (below_trans HB1.out (Nat.le_refl _) hb5)
 clear hb5 a0 a1 a2 a3 b0 b1 c0 c1 c2 c3 d0 d1
 go_wp2_with fail
 go_ret
 exact ⟨rfl, HB1.out⟩
end Go.Proofs.YtgegfbopogcjpaaGreatDoor
