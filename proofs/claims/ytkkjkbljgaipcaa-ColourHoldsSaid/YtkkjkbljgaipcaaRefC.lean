/- The document's words on which types may be: may, May. -/
import Derived.Test.YtkkjkbljgaipcaaRefB
import Derived.Deep.RegionWith
namespace Go.Proofs.Ytkkjkbljgaipcaa
open Go.RowKit
set_option linter.unusedVariables false
set_option linter.unusedSimpArgs false
set_option maxRecDepth 100000
set_option maxHeartbeats 2000000
theorem Row.take_ {w : World} {A : Option Addr} {l : List Value} (h : Row w A l) (j : Nat) : Row w A (l.take j) := by
  rcases h with h | ⟨b, o, hA, hlt, hc⟩
  · exact .inl (by rw [h]; simp)
  · exact .inr ⟨b, o, hA, hlt, fun i v hi => by
      rw [List.getElem?_take] at hi
      split at hi
      · exact hc i v hi
      · cases hi⟩
theorem keep6 {w0 w w' : World} {m n o : Nat} {a0 a1 a2 a3 a4 b0 : Value} (hm : m < w0.heap.size) (hn : n < w0.heap.size)
    (h : Below w0.heap.size w0 w ∧ (w.cell? ⟨m, 0, none⟩ = some a0 ∧ w.cell? ⟨m, 1, none⟩ = some a1 ∧ w.cell? ⟨m, 2, none⟩ = some a2 ∧ w.cell? ⟨m, 3, none⟩ = some a3 ∧ w.cell? ⟨m, 4, none⟩ = some a4) ∧ w.cell? ⟨n, o, none⟩ = some b0)
    (hb : Below w.heap.size w w') : Below w0.heap.size w0 w' ∧ (w'.cell? ⟨m, 0, none⟩ = some a0 ∧ w'.cell? ⟨m, 1, none⟩ = some a1 ∧ w'.cell? ⟨m, 2, none⟩ = some a2 ∧ w'.cell? ⟨m, 3, none⟩ = some a3 ∧ w'.cell? ⟨m, 4, none⟩ = some a4) ∧ w'.cell? ⟨n, o, none⟩ = some b0 := by
  obtain ⟨h0, h1, h2⟩ := h
  have hs := h0.size
  have e := keep5 (o := 0) hb (show m < w.heap.size by omega) (by simpa using h1)
  exact ⟨h0.trans (hb.mono hs), by simpa using e, (keep_cell hb (by omega)).trans h2⟩
theorem may_parts {d : Nat} {T : Ty} (h : mayT (d + 1) T = true) : ∀ p ∈ T.ps, mayT d p = true := by
  rcases may_kind h with k | k | k | k
  · rw [(may_leaf h (.inl k)).2.2.1]; intro p hp; cases hp
  · rw [(may_leaf h (.inr k)).2.2.1]; intro p hp; cases hp
  · exact (may_st h k).2.2.2.1
  · exact (may_fn h k).2.2.2
theorem may_names {d : Nat} {T : Ty} (h : mayT (d + 1) T = true) : T.ns.length ≤ 6 := by
  rcases may_kind h with k | k | k | k
  · rw [(may_leaf h (.inl k)).2.1]; simp
  · rw [(may_leaf h (.inr k)).2.1]; simp
  · have h' := h
    unfold mayT at h'
    rw [if_neg (by omega), if_pos k] at h'
    simp only [Bool.and_eq_true, decide_eq_true_eq, beq_iff_eq] at h'
    omega
  · rw [(may_fn h k).2.1]; simp
def MayR (d : Nat) (T : Ty) : Prop := ∀ (cs : List Value) (w : World), Rep w T cs → Calls Try.prog 70 #[.agg cs.toArray, .int .i64 (d : Int)] w fun e w' => e = .returned (.bool (mayT d T)) ∧ Below w.heap.size w w'
def MayRel (d : Nat) (T : Ty) (w : World) (i : Value) (H : Nat) (bs : Array Value) (wr : World) : Prop :=
  ∃ k : Nat, k ≤ T.ps.length ∧ i = .int .i64 k ∧ (∀ j (h : j < T.ps.length), j < k → mayT d T.ps[j] = true) ∧ Below w.heap.size w wr ∧ Blk wr H 25 bs
def NamesRel (T : Ty) (w : World) (i : Value) (H : Nat) (bs : Array Value) (wr : World) : Prop :=
  ∃ j : Nat, j ≤ T.ps.length ∧ i = .int .i64 j ∧ (∀ i (h : i < T.ns.length), i < j → nameOf T.ns[i] = true) ∧ (T.ns.take j).Nodup ∧ Below w.heap.size w wr ∧ Blk wr H 25 bs
theorem mayR_fn (d : Nat) (hd : d ≤ 50) (T : Ty) (H3 : Hid (T.k = 4)) (h7 : T.ps.length ≤ 7) (h6 : T.ns.length ≤ 6) (IH : ∀ p ∈ T.ps, MayR d p) (An : Option Addr) (cn : Nat) (Ap : Option Addr) (cp : Nat) (w : World)
    (hr : Rep w T [.int .i64 4, .string T.nm, .slice An T.ns.length cn, .slice Ap T.ps.length cp, .bool T.many]) : Calls Try.prog 70 #[.agg #[.int .i64 4, .string T.nm, .slice An T.ns.length cn, .slice Ap T.ps.length cp, .bool T.many], .int .i64 ((d + 1 : Nat) : Int)] w fun e w' => e = .returned (.bool (mayT (d + 1) T)) ∧ Below w.heap.size w w' := by
  have hcapN := hr.capN
  obtain ⟨An', cn', Ap', cp', he, hN, hP⟩ := hr.five
  simp at he
  obtain ⟨-, ⟨rfl, rfl⟩, rfl, rfl⟩ := he
  have d0 : ¬ ((d : Int) + 1 < 1) := by omega
  have k0 := Blk.new_ w 25 #[.int .i64 4, .string T.nm, .slice An T.ns.length cn, .slice Ap T.ps.length cp, .bool T.many]
  have hl7 : ¬ (7 < (T.ps.length : Int)) := by omega
  have hl6 : ¬ (6 < (T.ns.length : Int)) := by omega
  go_enter Try.func70, Try.ntmps70
  go_wp2
  go_loopw [5] (fun i wr => MayRel d T w i w.heap.size #[.int .i64 4, .string T.nm, .slice An T.ns.length cn, .slice Ap T.ps.length cp, .bool T.many] wr) (fun i _ => T.ps.length - (intOf i).toNat)
  case atStart => exact ⟨0, Nat.zero_le _, rfl, fun j _ h => absurd h (by omega), by (repeat (first | with_reducible assumption | with_reducible exact Below.refl _ _ | (refine Below.setCell ?_ (by first | omega | (simp; done) | (simp; omega)) _) | (refine Below.drewN_ ?_ _) | (refine Below.drew ?_) | (refine Below.alloc ?_ (by first | omega | (simp; done) | (simp; omega)) _))), k0⟩
  case round =>
    clear k0
    obtain ⟨k, hk, rfl, hg, hb, k1⟩ := hrel
    have q := k1.five
    by_cases hlt : k < T.ps.length
    · obtain ⟨b, o, An', cn', Ap', cp', rfl, hbl, hrep, hc⟩ := (RepL.keep hb T.ps _ hP).five hlt
      have hi : (k : Int) < (T.ps.length : Int) := by omega
      have hk7 : (k : Int) < 7 := by omega
      have hIH := Lib.hid (IH _ (List.getElem_mem hlt))
      have HG := Lib.hid hg
      clear hg
      have HNO : Hid (mayT d T.ps[k] = false → mayT (d + 1) T = false) := fun h => by
        rcases h0 : mayT (d + 1) T with _ | _
        · rfl
        · rw [may_parts h0 _ (List.getElem_mem hlt)] at h; cases h
      have HYES : Hid (mayT d T.ps[k] = true → ∀ j (h : j < T.ps.length), j < k + 1 → mayT d T.ps[j] = true) := fun h0 j h hj => by
        rcases Nat.lt_or_ge j k with h1 | h1
        · exact HG.out j h h1
        · obtain rfl : j = k := by omega
          exact h0
      generalize hps : T.ps[k] = p at *
      clear hps
      go_wp2_with fail
      refine (hIH.out _ _ hrep).mono ?_
      rintro e w2 ⟨rfl, hb2⟩
      have b3 := hb.trans (hb2.mono hb.size)
      have k2 := k1.below hb2
      clear q hc k1
      have q := k2.five
      rcases hev : mayT d p with _ | _
      · have hh := Lib.hid (HNO.out hev)
        go_wp2
        go_ret
        exact ⟨by rw [hh.out]; rfl, b3⟩
      · go_wp2
        go_roundw
        case rel => exact ⟨k + 1, by omega, by go_num, HYES.out hev, b3, k2⟩
        case measure => (first | (simp [intOf]; done) | (simp [intOf]; omega))
    · have hi : (T.ps.length : Int) ≤ (k : Int) := by omega
      have hall : Hid (∀ p ∈ T.ps, mayT d p = true) := fun p hp => by
        obtain ⟨j, hj, rfl⟩ := List.getElem_of_mem hp
        exact hg j hj (by omega)
      clear hg
      have hn : Hid (mayT (d + 1) T = (bareT T && partsT d 1 7 T.ps)) := by
        show _ = _
        unfold mayT; rw [if_neg (by rw [H3.out]; decide), if_neg (by rw [H3.out]; decide), if_pos H3.out]; rfl
      obtain rfl : k = T.ps.length := by omega
      rcases hnm : T.nm.toList.isEmpty with _ | _
      · have t1 : ¬ (T.nm.toList = []) := by simpa using hnm
        have hf : Hid (mayT (d + 1) T = false) := by show _ = _; rw [hn.out]; simp [bareT, hnm]
        go_wp2
        go_ret
        exact ⟨by rw [hf.out]; rfl, hb⟩
      · have t1 : T.nm.toList = [] := by simpa using hnm
        by_cases h0 : T.ns.length = 0
        · have hbt : Hid (bareT T = true) := by show _ = _; simp [bareT, t1, h0]
          have g0 : ¬ (0 < (T.ns.length : Int)) := by omega
          clear h0
          by_cases hn1 : 1 ≤ T.ps.length
          · have hf : Hid (mayT (d + 1) T = true) := by
              show _ = _
              rw [hn.out, hbt.out]
              simp only [partsT, Bool.true_and, Bool.and_eq_true, List.all_eq_true, decide_eq_true_eq]
              exact ⟨⟨hn1, h7⟩, hall.out⟩
            have g1 : (1 : Int) ≤ (T.ps.length : Int) := by omega
            go_wp2
            go_ret
            exact ⟨by rw [hf.out]; first | rfl | simp, hb⟩
          · have hf : Hid (mayT (d + 1) T = false) := by show _ = _; rw [hn.out]; simp [partsT, hn1]
            have g1 : ¬ (1 : Int) ≤ (T.ps.length : Int) := by omega
            go_wp2
            go_ret
            exact ⟨by rw [hf.out]; first | rfl | simp; try omega, hb⟩
        · have g0 : (0 < (T.ns.length : Int)) := by omega
          have hf : Hid (mayT (d + 1) T = false) := by show _ = _; rw [hn.out]; simp [bareT, h0]
          clear h0
          go_wp2
          go_ret
          exact ⟨by rw [hf.out]; rfl, hb⟩
theorem mayR_other (d : Nat) (hd : d ≤ 50) (T : Ty) (HO : Hid (T.k ≠ 1 ∧ T.k ≠ 2 ∧ T.k ≠ 3 ∧ T.k ≠ 4)) (t1 : (T.k == 1) = false) (t2 : (T.k == 2) = false) (t3 : (T.k == 3) = false) (t4 : (T.k == 4) = false) (h7 : T.ps.length ≤ 7) (h6 : T.ns.length ≤ 6) (IH : ∀ p ∈ T.ps, MayR d p) (An : Option Addr) (cn : Nat) (Ap : Option Addr) (cp : Nat) (w : World)
    (hr : Rep w T [.int .i64 T.k, .string T.nm, .slice An T.ns.length cn, .slice Ap T.ps.length cp, .bool T.many]) : Calls Try.prog 70 #[.agg #[.int .i64 T.k, .string T.nm, .slice An T.ns.length cn, .slice Ap T.ps.length cp, .bool T.many], .int .i64 ((d + 1 : Nat) : Int)] w fun e w' => e = .returned (.bool (mayT (d + 1) T)) ∧ Below w.heap.size w w' := by
  have hcapN := hr.capN
  obtain ⟨An', cn', Ap', cp', he, hN, hP⟩ := hr.five
  simp at he
  obtain ⟨⟨rfl, rfl⟩, rfl, rfl⟩ := he
  have d0 : ¬ ((d : Int) + 1 < 1) := by omega
  have k0 := Blk.new_ w 25 #[.int .i64 T.k, .string T.nm, .slice An T.ns.length cn, .slice Ap T.ps.length cp, .bool T.many]
  have hl7 : ¬ (7 < (T.ps.length : Int)) := by omega
  have hl6 : ¬ (6 < (T.ns.length : Int)) := by omega
  go_enter Try.func70, Try.ntmps70
  go_wp2
  go_loopw [5] (fun i wr => MayRel d T w i w.heap.size #[.int .i64 T.k, .string T.nm, .slice An T.ns.length cn, .slice Ap T.ps.length cp, .bool T.many] wr) (fun i _ => T.ps.length - (intOf i).toNat)
  case atStart => exact ⟨0, Nat.zero_le _, rfl, fun j _ h => absurd h (by omega), by (repeat (first | with_reducible assumption | with_reducible exact Below.refl _ _ | (refine Below.setCell ?_ (by first | omega | (simp; done) | (simp; omega)) _) | (refine Below.drewN_ ?_ _) | (refine Below.drew ?_) | (refine Below.alloc ?_ (by first | omega | (simp; done) | (simp; omega)) _))), k0⟩
  case round =>
    clear k0
    obtain ⟨k, hk, rfl, hg, hb, k1⟩ := hrel
    have q := k1.five
    by_cases hlt : k < T.ps.length
    · obtain ⟨b, o, An', cn', Ap', cp', rfl, hbl, hrep, hc⟩ := (RepL.keep hb T.ps _ hP).five hlt
      have hi : (k : Int) < (T.ps.length : Int) := by omega
      have hk7 : (k : Int) < 7 := by omega
      have hIH := Lib.hid (IH _ (List.getElem_mem hlt))
      have HG := Lib.hid hg
      clear hg
      have HNO : Hid (mayT d T.ps[k] = false → mayT (d + 1) T = false) := fun h => by
        rcases h0 : mayT (d + 1) T with _ | _
        · rfl
        · rw [may_parts h0 _ (List.getElem_mem hlt)] at h; cases h
      have HYES : Hid (mayT d T.ps[k] = true → ∀ j (h : j < T.ps.length), j < k + 1 → mayT d T.ps[j] = true) := fun h0 j h hj => by
        rcases Nat.lt_or_ge j k with h1 | h1
        · exact HG.out j h h1
        · obtain rfl : j = k := by omega
          exact h0
      generalize hps : T.ps[k] = p at *
      clear hps
      go_wp2_with fail
      refine (hIH.out _ _ hrep).mono ?_
      rintro e w2 ⟨rfl, hb2⟩
      have b3 := hb.trans (hb2.mono hb.size)
      have k2 := k1.below hb2
      clear q hc k1
      have q := k2.five
      rcases hev : mayT d p with _ | _
      · have hh := Lib.hid (HNO.out hev)
        go_wp2
        go_ret
        exact ⟨by rw [hh.out]; rfl, b3⟩
      · go_wp2
        go_roundw
        case rel => exact ⟨k + 1, by omega, by go_num, HYES.out hev, b3, k2⟩
        case measure => (first | (simp [intOf]; done) | (simp [intOf]; omega))
    · have hi : (T.ps.length : Int) ≤ (k : Int) := by omega
      have hall : Hid (∀ p ∈ T.ps, mayT d p = true) := fun p hp => by
        obtain ⟨j, hj, rfl⟩ := List.getElem_of_mem hp
        exact hg j hj (by omega)
      clear hg
      have hn : Hid (mayT (d + 1) T = (bareT T && false)) := by
        show _ = _
        obtain ⟨a1, a2, a3, a4⟩ := HO.out
        unfold mayT; rw [if_neg (by omega), if_neg a3, if_neg a4]; simp
      obtain rfl : k = T.ps.length := by omega
      rcases hnm : T.nm.toList.isEmpty with _ | _
      · have t1 : ¬ (T.nm.toList = []) := by simpa using hnm
        have hf : Hid (mayT (d + 1) T = false) := by show _ = _; rw [hn.out]; simp [bareT, hnm]
        go_wp2
        go_ret
        exact ⟨by rw [hf.out]; rfl, hb⟩
      · have t1 : T.nm.toList = [] := by simpa using hnm
        by_cases h0 : T.ns.length = 0
        · have hbt : Hid (bareT T = true) := by show _ = _; simp [bareT, t1, h0]
          have g0 : ¬ (0 < (T.ns.length : Int)) := by omega
          clear h0
          have hf : Hid (mayT (d + 1) T = false) := by show _ = _; rw [hn.out]; simp
          go_wp2
          go_ret
          exact ⟨by rw [hf.out]; rfl, hb⟩
        · have g0 : (0 < (T.ns.length : Int)) := by omega
          have hf : Hid (mayT (d + 1) T = false) := by show _ = _; rw [hn.out]; simp [bareT, h0]
          clear h0
          go_wp2
          go_ret
          exact ⟨by rw [hf.out]; rfl, hb⟩
theorem mayR_1 (d : Nat) (hd : d ≤ 50) (T : Ty) (H12 : Hid (T.k = 1 ∨ T.k = 2)) (h7 : T.ps.length ≤ 7) (h6 : T.ns.length ≤ 6) (IH : ∀ p ∈ T.ps, MayR d p) (An : Option Addr) (cn : Nat) (Ap : Option Addr) (cp : Nat) (w : World)
    (hr : Rep w T [.int .i64 1, .string T.nm, .slice An T.ns.length cn, .slice Ap T.ps.length cp, .bool T.many]) : Calls Try.prog 70 #[.agg #[.int .i64 1, .string T.nm, .slice An T.ns.length cn, .slice Ap T.ps.length cp, .bool T.many], .int .i64 ((d + 1 : Nat) : Int)] w fun e w' => e = .returned (.bool (mayT (d + 1) T)) ∧ Below w.heap.size w w' := by
  have hcapN := hr.capN
  obtain ⟨An', cn', Ap', cp', he, hN, hP⟩ := hr.five
  simp at he
  obtain ⟨-, ⟨rfl, rfl⟩, rfl, rfl⟩ := he
  have d0 : ¬ ((d : Int) + 1 < 1) := by omega
  have k0 := Blk.new_ w 25 #[.int .i64 1, .string T.nm, .slice An T.ns.length cn, .slice Ap T.ps.length cp, .bool T.many]
  have hl7 : ¬ (7 < (T.ps.length : Int)) := by omega
  have hl6 : ¬ (6 < (T.ns.length : Int)) := by omega
  go_enter Try.func70, Try.ntmps70
  go_wp2
  go_loopw [5] (fun i wr => MayRel d T w i w.heap.size #[.int .i64 1, .string T.nm, .slice An T.ns.length cn, .slice Ap T.ps.length cp, .bool T.many] wr) (fun i _ => T.ps.length - (intOf i).toNat)
  case atStart => exact ⟨0, Nat.zero_le _, rfl, fun j _ h => absurd h (by omega), by (repeat (first | with_reducible assumption | with_reducible exact Below.refl _ _ | (refine Below.setCell ?_ (by first | omega | (simp; done) | (simp; omega)) _) | (refine Below.drewN_ ?_ _) | (refine Below.drew ?_) | (refine Below.alloc ?_ (by first | omega | (simp; done) | (simp; omega)) _))), k0⟩
  case round =>
    clear k0
    obtain ⟨k, hk, rfl, hg, hb, k1⟩ := hrel
    have q := k1.five
    by_cases hlt : k < T.ps.length
    · obtain ⟨b, o, An', cn', Ap', cp', rfl, hbl, hrep, hc⟩ := (RepL.keep hb T.ps _ hP).five hlt
      have hi : (k : Int) < (T.ps.length : Int) := by omega
      have hk7 : (k : Int) < 7 := by omega
      have hIH := Lib.hid (IH _ (List.getElem_mem hlt))
      have HG := Lib.hid hg
      clear hg
      have HNO : Hid (mayT d T.ps[k] = false → mayT (d + 1) T = false) := fun h => by
        rcases h0 : mayT (d + 1) T with _ | _
        · rfl
        · rw [may_parts h0 _ (List.getElem_mem hlt)] at h; cases h
      have HYES : Hid (mayT d T.ps[k] = true → ∀ j (h : j < T.ps.length), j < k + 1 → mayT d T.ps[j] = true) := fun h0 j h hj => by
        rcases Nat.lt_or_ge j k with h1 | h1
        · exact HG.out j h h1
        · obtain rfl : j = k := by omega
          exact h0
      generalize hps : T.ps[k] = p at *
      clear hps
      go_wp2_with fail
      refine (hIH.out _ _ hrep).mono ?_
      rintro e w2 ⟨rfl, hb2⟩
      have b3 := hb.trans (hb2.mono hb.size)
      have k2 := k1.below hb2
      clear q hc k1
      have q := k2.five
      rcases hev : mayT d p with _ | _
      · have hh := Lib.hid (HNO.out hev)
        go_wp2
        go_ret
        exact ⟨by rw [hh.out]; rfl, b3⟩
      · go_wp2
        go_roundw
        case rel => exact ⟨k + 1, by omega, by go_num, HYES.out hev, b3, k2⟩
        case measure => (first | (simp [intOf]; done) | (simp [intOf]; omega))
    · have hi : (T.ps.length : Int) ≤ (k : Int) := by omega
      have hall : Hid (∀ p ∈ T.ps, mayT d p = true) := fun p hp => by
        obtain ⟨j, hj, rfl⟩ := List.getElem_of_mem hp
        exact hg j hj (by omega)
      clear hg
      have hn : Hid (mayT (d + 1) T = (bareT T && (T.ps.length == 0) && !T.many)) := by
        show _ = _
        unfold mayT; rw [if_pos H12.out]
      obtain rfl : k = T.ps.length := by omega
      rcases hnm : T.nm.toList.isEmpty with _ | _
      · have t1 : ¬ (T.nm.toList = []) := by simpa using hnm
        have hf : Hid (mayT (d + 1) T = false) := by show _ = _; rw [hn.out]; simp [bareT, hnm]
        go_wp2
        go_ret
        exact ⟨by rw [hf.out]; rfl, hb⟩
      · have t1 : T.nm.toList = [] := by simpa using hnm
        by_cases h0 : T.ns.length = 0
        · have hbt : Hid (bareT T = true) := by show _ = _; simp [bareT, t1, h0]
          have g0 : ¬ (0 < (T.ns.length : Int)) := by omega
          clear h0
          by_cases hn1 : T.ps.length = 0
          · have g1 : ((T.ps.length : Int) == 0) = true := by simp [hn1]
            have hf : Hid (mayT (d + 1) T = !T.many) := by show _ = _; rw [hn.out, hbt.out, hn1]; rfl
            clear hn1
            rcases hmn : T.many with _ | _
            · rw [hmn] at q hf
              go_wp2
              go_ret
              exact ⟨by rw [hf.out]; rfl, hb⟩
            · rw [hmn] at q hf
              go_wp2
              go_ret
              exact ⟨by rw [hf.out]; rfl, hb⟩
          · have g1 : ((T.ps.length : Int) == 0) = false := by simp; exact fun h => hn1 (by simp [h])
            have hf : Hid (mayT (d + 1) T = false) := by show _ = _; rw [hn.out]; simp [hn1]
            clear hn1
            go_wp2
            go_ret
            exact ⟨by rw [hf.out]; rfl, hb⟩
        · have g0 : (0 < (T.ns.length : Int)) := by omega
          have hf : Hid (mayT (d + 1) T = false) := by show _ = _; rw [hn.out]; simp [bareT, h0]
          clear h0
          go_wp2
          go_ret
          exact ⟨by rw [hf.out]; rfl, hb⟩
theorem mayR_2 (d : Nat) (hd : d ≤ 50) (T : Ty) (H12 : Hid (T.k = 1 ∨ T.k = 2)) (h7 : T.ps.length ≤ 7) (h6 : T.ns.length ≤ 6) (IH : ∀ p ∈ T.ps, MayR d p) (An : Option Addr) (cn : Nat) (Ap : Option Addr) (cp : Nat) (w : World)
    (hr : Rep w T [.int .i64 2, .string T.nm, .slice An T.ns.length cn, .slice Ap T.ps.length cp, .bool T.many]) : Calls Try.prog 70 #[.agg #[.int .i64 2, .string T.nm, .slice An T.ns.length cn, .slice Ap T.ps.length cp, .bool T.many], .int .i64 ((d + 1 : Nat) : Int)] w fun e w' => e = .returned (.bool (mayT (d + 1) T)) ∧ Below w.heap.size w w' := by
  have hcapN := hr.capN
  obtain ⟨An', cn', Ap', cp', he, hN, hP⟩ := hr.five
  simp at he
  obtain ⟨-, ⟨rfl, rfl⟩, rfl, rfl⟩ := he
  have d0 : ¬ ((d : Int) + 1 < 1) := by omega
  have k0 := Blk.new_ w 25 #[.int .i64 2, .string T.nm, .slice An T.ns.length cn, .slice Ap T.ps.length cp, .bool T.many]
  have hl7 : ¬ (7 < (T.ps.length : Int)) := by omega
  have hl6 : ¬ (6 < (T.ns.length : Int)) := by omega
  go_enter Try.func70, Try.ntmps70
  go_wp2
  go_loopw [5] (fun i wr => MayRel d T w i w.heap.size #[.int .i64 2, .string T.nm, .slice An T.ns.length cn, .slice Ap T.ps.length cp, .bool T.many] wr) (fun i _ => T.ps.length - (intOf i).toNat)
  case atStart => exact ⟨0, Nat.zero_le _, rfl, fun j _ h => absurd h (by omega), by (repeat (first | with_reducible assumption | with_reducible exact Below.refl _ _ | (refine Below.setCell ?_ (by first | omega | (simp; done) | (simp; omega)) _) | (refine Below.drewN_ ?_ _) | (refine Below.drew ?_) | (refine Below.alloc ?_ (by first | omega | (simp; done) | (simp; omega)) _))), k0⟩
  case round =>
    clear k0
    obtain ⟨k, hk, rfl, hg, hb, k1⟩ := hrel
    have q := k1.five
    by_cases hlt : k < T.ps.length
    · obtain ⟨b, o, An', cn', Ap', cp', rfl, hbl, hrep, hc⟩ := (RepL.keep hb T.ps _ hP).five hlt
      have hi : (k : Int) < (T.ps.length : Int) := by omega
      have hk7 : (k : Int) < 7 := by omega
      have hIH := Lib.hid (IH _ (List.getElem_mem hlt))
      have HG := Lib.hid hg
      clear hg
      have HNO : Hid (mayT d T.ps[k] = false → mayT (d + 1) T = false) := fun h => by
        rcases h0 : mayT (d + 1) T with _ | _
        · rfl
        · rw [may_parts h0 _ (List.getElem_mem hlt)] at h; cases h
      have HYES : Hid (mayT d T.ps[k] = true → ∀ j (h : j < T.ps.length), j < k + 1 → mayT d T.ps[j] = true) := fun h0 j h hj => by
        rcases Nat.lt_or_ge j k with h1 | h1
        · exact HG.out j h h1
        · obtain rfl : j = k := by omega
          exact h0
      generalize hps : T.ps[k] = p at *
      clear hps
      go_wp2_with fail
      refine (hIH.out _ _ hrep).mono ?_
      rintro e w2 ⟨rfl, hb2⟩
      have b3 := hb.trans (hb2.mono hb.size)
      have k2 := k1.below hb2
      clear q hc k1
      have q := k2.five
      rcases hev : mayT d p with _ | _
      · have hh := Lib.hid (HNO.out hev)
        go_wp2
        go_ret
        exact ⟨by rw [hh.out]; rfl, b3⟩
      · go_wp2
        go_roundw
        case rel => exact ⟨k + 1, by omega, by go_num, HYES.out hev, b3, k2⟩
        case measure => (first | (simp [intOf]; done) | (simp [intOf]; omega))
    · have hi : (T.ps.length : Int) ≤ (k : Int) := by omega
      have hall : Hid (∀ p ∈ T.ps, mayT d p = true) := fun p hp => by
        obtain ⟨j, hj, rfl⟩ := List.getElem_of_mem hp
        exact hg j hj (by omega)
      clear hg
      have hn : Hid (mayT (d + 1) T = (bareT T && (T.ps.length == 0) && !T.many)) := by
        show _ = _
        unfold mayT; rw [if_pos H12.out]
      obtain rfl : k = T.ps.length := by omega
      rcases hnm : T.nm.toList.isEmpty with _ | _
      · have t1 : ¬ (T.nm.toList = []) := by simpa using hnm
        have hf : Hid (mayT (d + 1) T = false) := by show _ = _; rw [hn.out]; simp [bareT, hnm]
        go_wp2
        go_ret
        exact ⟨by rw [hf.out]; rfl, hb⟩
      · have t1 : T.nm.toList = [] := by simpa using hnm
        by_cases h0 : T.ns.length = 0
        · have hbt : Hid (bareT T = true) := by show _ = _; simp [bareT, t1, h0]
          have g0 : ¬ (0 < (T.ns.length : Int)) := by omega
          clear h0
          by_cases hn1 : T.ps.length = 0
          · have g1 : ((T.ps.length : Int) == 0) = true := by simp [hn1]
            have hf : Hid (mayT (d + 1) T = !T.many) := by show _ = _; rw [hn.out, hbt.out, hn1]; rfl
            clear hn1
            rcases hmn : T.many with _ | _
            · rw [hmn] at q hf
              go_wp2
              go_ret
              exact ⟨by rw [hf.out]; rfl, hb⟩
            · rw [hmn] at q hf
              go_wp2
              go_ret
              exact ⟨by rw [hf.out]; rfl, hb⟩
          · have g1 : ((T.ps.length : Int) == 0) = false := by simp; exact fun h => hn1 (by simp [h])
            have hf : Hid (mayT (d + 1) T = false) := by show _ = _; rw [hn.out]; simp [hn1]
            clear hn1
            go_wp2
            go_ret
            exact ⟨by rw [hf.out]; rfl, hb⟩
        · have g0 : (0 < (T.ns.length : Int)) := by omega
          have hf : Hid (mayT (d + 1) T = false) := by show _ = _; rw [hn.out]; simp [bareT, h0]
          clear h0
          go_wp2
          go_ret
          exact ⟨by rw [hf.out]; rfl, hb⟩
end Go.Proofs.Ytkkjkbljgaipcaa
