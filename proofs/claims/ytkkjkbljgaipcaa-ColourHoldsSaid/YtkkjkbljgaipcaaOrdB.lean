/- The walks of three.within, three.zero, three.Params, three.of. -/
import Derived.Test.YtkkjkbljgaipcaaOrdA
import Derived.RegionTactic
import Derived.Deep.QuietTactic
import Derived.BigQuiet
namespace Go.Proofs.Ytkkjkbljgaipcaa
open Go.RowKit
set_option linter.unusedVariables false
set_option linter.unusedSimpArgs false
set_option maxRecDepth 100000
set_option maxHeartbeats 2000000
def WiRel (l : List Int) (r : Int) (i : Value) : Prop := ∃ k : Nat, k ≤ l.length ∧ i = .int .i64 k ∧ ∀ j (h : j < l.length), j < k → 0 ≤ l[j] ∧ l[j] < r
theorem within_no {l : List Int} {r : Int} {k : Nat} (hk : k < l.length) (h : l[k] < 0 ∨ r ≤ l[k]) : withinB l r = false := by
  rcases hn : withinB l r with _ | _
  · rfl
  · unfold withinB at hn
    rw [List.all_eq_true] at hn
    have := hn _ (List.getElem_mem hk)
    simp at this
    omega
theorem within_yes {l : List Int} {r : Int} (h : ∀ j (h : j < l.length), 0 ≤ l[j] ∧ l[j] < r) : withinB l r = true := by
  unfold withinB
  rw [List.all_eq_true]
  intro x hx
  obtain ⟨j, hj, rfl⟩ := List.getElem_of_mem hx
  have := h j hj
  simp
  omega
theorem within_step {l : List Int} {r : Int} {k : Nat} (hg : ∀ j (h : j < l.length), j < k → 0 ≤ l[j] ∧ l[j] < r) (hk : k < l.length) (h0 : ¬ l[k] < 0) (h1 : ¬ r ≤ l[k]) : ∀ j (h : j < l.length), j < k + 1 → 0 ≤ l[j] ∧ l[j] < r := fun j h hj => by
  rcases Nat.lt_or_ge j k with h2 | h2
  · exact hg j h h2
  · obtain rfl : j = k := by omega
    omega
theorem within3_any (A : Option Addr) (c : Nat) (l : List Int) (r : Int) (w : World) (hr : Row w A (l.map i64)) (hn : l.length ≤ maxLen) :
    Calls Try.prog 67 #[.slice A l.length c, .int .i64 r] w fun e w' => e = .returned (.bool (withinB l r)) ∧ w = w' := by
  unfold maxLen at hn
  go_enter Try.func67, Try.ntmps67
  go_wp2
  go_loop [9] (fun i => WiRel l r i) (fun i => l.length - (intOf i).toNat)
  case atStart => exact ⟨0, Nat.zero_le _, rfl, fun j _ h => absurd h (by omega)⟩
  case round =>
    obtain ⟨k, hk, rfl, hg⟩ := hrel
    by_cases hlt : k < l.length
    · obtain ⟨b, o, rfl, hbl, c0⟩ := hr.i64 hlt
      have hi : (k : Int) < (l.length : Int) := by omega
      have HNO := Lib.hid (@within_no l r k hlt)
      have HY := Lib.hid (@within_step l r k hg hlt)
      clear hg
      generalize l[k] = x at *
      by_cases h0 : x < 0
      · have hf := Lib.hid (HNO.out (.inl h0))
        clear HNO HY
        go_wp2
        go_ret
        exact ⟨by rw [hf.out]; rfl, rfl⟩
      · by_cases h1 : r ≤ x
        · have hf := Lib.hid (HNO.out (.inr h1))
          clear HNO HY
          go_wp2
          go_ret
          exact ⟨by rw [hf.out]; rfl, rfl⟩
        · have hf := Lib.hid (HY.out h0 h1)
          clear HNO HY
          go_wp2
          go_round
          case rel => exact ⟨k + 1, by omega, by go_num, hf.out⟩
          case measure => (first | (simp [intOf]; done) | (simp [intOf]; omega))
    · have hi : ¬ (k : Int) < (l.length : Int) := by omega
      have hf := Lib.hid (within_yes (l := l) (r := r) (fun j h => hg j h (by omega)))
      clear hg
      go_wp2
      go_ret
      exact ⟨by rw [hf.out]; rfl, rfl⟩
theorem there_any (A : Option Addr) (c : Nat) (l : List Int) (r : Int) (w : World) (hr : Row w A (l.map i64)) (hn : l.length ≤ maxLen) :
    Calls Try.prog 44 #[.slice A l.length c, .int .i64 r] w fun e w' => e = .returned (.bool (withinB l r)) ∧ w = w' := by
  unfold maxLen at hn
  go_enter Try.func44, Try.ntmps44
  go_wp2
  go_loop [5] (fun i => WiRel l r i) (fun i => l.length - (intOf i).toNat)
  case atStart => exact ⟨0, Nat.zero_le _, rfl, fun j _ h => absurd h (by omega)⟩
  case round =>
    obtain ⟨k, hk, rfl, hg⟩ := hrel
    by_cases hlt : k < l.length
    · obtain ⟨b, o, rfl, hbl, c0⟩ := hr.i64 hlt
      have hi : (k : Int) < (l.length : Int) := by omega
      have HNO := Lib.hid (@within_no l r k hlt)
      have HY := Lib.hid (@within_step l r k hg hlt)
      clear hg
      generalize l[k] = x at *
      by_cases h0 : x < 0
      · have hf := Lib.hid (HNO.out (.inl h0))
        clear HNO HY
        go_wp2
        go_ret
        exact ⟨by rw [hf.out]; rfl, rfl⟩
      · by_cases h1 : r ≤ x
        · have hf := Lib.hid (HNO.out (.inr h1))
          clear HNO HY
          go_wp2
          go_ret
          exact ⟨by rw [hf.out]; rfl, rfl⟩
        · have hf := Lib.hid (HY.out h0 h1)
          clear HNO HY
          go_wp2
          go_round
          case rel => exact ⟨k + 1, by omega, by go_num, hf.out⟩
          case measure => (first | (simp [intOf]; done) | (simp [intOf]; omega))
    · have hi : ¬ (k : Int) < (l.length : Int) := by omega
      have hf := Lib.hid (within_yes (l := l) (r := r) (fun j h => hg j h (by omega)))
      clear hg
      go_wp2
      go_ret
      exact ⟨by rw [hf.out]; rfl, rfl⟩
theorem wrap_zero {a b : Nat} (h1 : a ≤ maxLen) (h2 : b ≤ maxLen) : (wrap64 ((a : Int) + (b : Int)) == 0) = ((a == 0) && (b == 0)) := by
  unfold maxLen at h1 h2
  unfold wrap64
  rw [Bool.eq_iff_iff]
  simp only [beq_iff_eq, Bool.and_eq_true]
  constructor
  · intro h; omega
  · rintro ⟨rfl, rfl⟩; rfl
theorem zero_any (T : Ty) (cs : List Value) (w : World) (hr : Rep w T cs) (hl : LenT T) :
    Calls Try.prog 68 #[.agg cs.toArray] w fun e w' => e = .returned (.bool (zeroT T)) ∧ Below w.heap.size w w' := by
  obtain ⟨An, cn, Ap, cp, rfl, -, -⟩ := hr.five
  have hw := wrap_zero hl.1 hl.2
  have HB : Hid (Below w.heap.size w (w.alloc (.cells #[.int .i64 T.k, .string T.nm, .slice An T.ns.length cn, .slice Ap T.ps.length cp, .bool T.many] 25))) := by show Below _ _ _; (repeat (first | with_reducible assumption | with_reducible exact Below.refl _ _ | (refine Below.setCell ?_ (by first | omega | (simp; done) | (simp; omega)) _) | (refine Below.drewN_ ?_ _) | (refine Below.drew ?_) | (refine Below.alloc ?_ (by first | omega | (simp; done) | (simp; omega)) _)))
  have hz : Hid (zeroT T = ((T.k == 0) && T.nm.toList.isEmpty && (T.ns.length == 0) && (T.ps.length == 0) && !T.many)) := rfl
  clear hr hl
  rcases e1 : (T.k == 0) with _ | _
  · have hf : Hid (zeroT T = false) := by show _ = _; rw [hz.out, e1]; rfl
    clear hw
    go_enter Try.func68, Try.ntmps68
    go_wp2
    go_ret
    exact ⟨by rw [hf.out]; rfl, HB.out⟩
  · by_cases e2 : T.nm.toList = []
    · rcases e3 : ((T.ns.length == 0) && (T.ps.length == 0)) with _ | _
      · have hf : Hid (zeroT T = false) := by
          show _ = _
          rw [hz.out, Bool.and_assoc ((T.k == 0) && T.nm.toList.isEmpty), e3]; simp
        rw [e3] at hw
        clear e3
        go_enter Try.func68, Try.ntmps68
        go_wp2
        go_ret
        exact ⟨by rw [hf.out]; rfl, HB.out⟩
      · have hf : Hid (zeroT T = !T.many) := by
          show _ = _
          rw [hz.out, Bool.and_assoc ((T.k == 0) && T.nm.toList.isEmpty), e3, e1, e2]; simp
        rw [e3] at hw
        clear e3
        go_enter Try.func68, Try.ntmps68
        go_wp2
        go_ret
        exact ⟨by rw [hf.out]; rfl, HB.out⟩
    · have hf : Hid (zeroT T = false) := by
        show _ = _
        rw [hz.out]
        have : T.nm.toList.isEmpty = false := by simpa using e2
        rw [this]; simp
      clear hw
      go_enter Try.func68, Try.ntmps68
      go_wp2
      go_ret
      exact ⟨by rw [hf.out]; rfl, HB.out⟩
theorem none_any (T : Ty) (cs : List Value) (w : World) (hr : Rep w T cs) :
    Calls Try.prog 46 #[.agg cs.toArray] w fun e w' => e = .returned (.bool (zeroT T)) ∧ Below w.heap.size w w' := by
  obtain ⟨An, cn, Ap, cp, rfl, -, -⟩ := hr.five
  have HB : Hid (Below w.heap.size w (w.alloc (.cells #[.int .i64 T.k, .string T.nm, .slice An T.ns.length cn, .slice Ap T.ps.length cp, .bool T.many] 25))) := by show Below _ _ _; (repeat (first | with_reducible assumption | with_reducible exact Below.refl _ _ | (refine Below.setCell ?_ (by first | omega | (simp; done) | (simp; omega)) _) | (refine Below.drewN_ ?_ _) | (refine Below.drew ?_) | (refine Below.alloc ?_ (by first | omega | (simp; done) | (simp; omega)) _)))
  have hz : Hid (zeroT T = ((T.k == 0) && T.nm.toList.isEmpty && (T.ns.length == 0) && (T.ps.length == 0) && !T.many)) := rfl
  clear hr
  rcases e1 : (T.k == 0) with _ | _
  · have hf : Hid (zeroT T = false) := by show _ = _; rw [hz.out, e1]; rfl
    go_enter Try.func46, Try.ntmps46
    go_wp2
    go_ret
    exact ⟨by rw [hf.out]; rfl, HB.out⟩
  · by_cases e2 : T.nm.toList = []
    · by_cases e3 : T.ns.length = 0
      · by_cases e4 : T.ps.length = 0
        · have hf : Hid (zeroT T = !T.many) := by
            show _ = _
            rw [hz.out, e1, e2, e3, e4]; simp
          have e3' : ((T.ns.length : Int) == 0) = true := by simp [e3]
          have e4' : ((T.ps.length : Int) == 0) = true := by simp [e4]
          clear e3 e4
          go_enter Try.func46, Try.ntmps46
          go_wp2
          go_ret
          exact ⟨by rw [hf.out]; rfl, HB.out⟩
        · have hf : Hid (zeroT T = false) := by
            show _ = _
            rw [hz.out]; simp [e4]
          have e3' : ((T.ns.length : Int) == 0) = true := by simp [e3]
          have e4' : ((T.ps.length : Int) == 0) = false := by simpa using e4
          clear e3 e4
          go_enter Try.func46, Try.ntmps46
          go_wp2
          go_ret
          exact ⟨by rw [hf.out]; rfl, HB.out⟩
      · have hf : Hid (zeroT T = false) := by
          show _ = _
          rw [hz.out]; simp [e3]
        have e3' : ((T.ns.length : Int) == 0) = false := by simpa using e3
        clear e3
        go_enter Try.func46, Try.ntmps46
        go_wp2
        go_ret
        exact ⟨by rw [hf.out]; rfl, HB.out⟩
    · have hf : Hid (zeroT T = false) := by
        show _ = _
        rw [hz.out]
        have : T.nm.toList.isEmpty = false := by simpa using e2
        rw [this]; simp
      go_enter Try.func46, Try.ntmps46
      go_wp2
      go_ret
      exact ⟨by rw [hf.out]; rfl, HB.out⟩
def ParSum (T : Ty) (w : World) (cs : Array Value) (s i : Value) (wr : World) : Prop := ∃ k : Nat, k ≤ T.ps.length - 1 ∧ i = .int .i64 k ∧ s = .int .i64 (bsum (T.ps.take k) : Int) ∧ Below w.heap.size w wr ∧ Blk wr w.heap.size 25 cs
theorem may_size {T : Ty} (h : may T = true) : ∀ p ∈ T.ps, may p = true ∧ (sizeT p).1 ≤ 12 := fun p hp => by
  have h1 := may_parts (d := 3) h p hp
  exact ⟨mayT_le h1, (sized_of_may 3 p h1).2⟩
theorem bsum_le12 {ts : List Ty} (h : ∀ p ∈ ts, (sizeT p).1 ≤ 12) : ∀ k, k ≤ ts.length → bsum (ts.take k) ≤ 12 * k
  | 0, _ => by simp [bsum]
  | k + 1, hk => by
    have := bsum_le12 h k (by omega)
    have hlt : k < ts.length := by omega
    rw [bsum_take hlt]
    have := h _ (List.getElem_mem hlt)
    omega
theorem params3_any (T : Ty) (cs : List Value) (w : World) (hr : Rep w T cs) (hm : ML w) (hmy : may T = true) (h4 : T.k = 4) :
    Calls Try.prog 34 #[.agg cs.toArray] w fun e w' => e = .returned (.int .i64 (parW T : Int)) ∧ Below w.heap.size w w' := by
  have hr0 := hr
  obtain ⟨An, cn, Ap, cp, rfl, -, hP⟩ := hr.five
  have hcap := hr.cap
  have hpos : 1 ≤ T.ps.length := by
    have := (may_fn hmy h4).2.2.1
    rcases h : T.ps with _ | ⟨a, l⟩
    · exact absurd h this
    · simp
  have h7 := may_len hmy
  have HSZ := Lib.hid (may_size hmy)
  have hW : Hid (parW T = bsum (T.ps.take (T.ps.length - 1))) := by show _ = _; unfold parW; rw [List.dropLast_eq_take]
  have k0 := Blk.new_ w 25 #[.int .i64 T.k, .string T.nm, .slice An T.ns.length cn, .slice Ap T.ps.length cp, .bool T.many]
  have b0 : Below w.heap.size w (w.alloc (.cells #[.int .i64 T.k, .string T.nm, .slice An T.ns.length cn, .slice Ap T.ps.length cp, .bool T.many] 25)) := by (repeat (first | with_reducible assumption | with_reducible exact Below.refl _ _ | (refine Below.setCell ?_ (by first | omega | (simp; done) | (simp; omega)) _) | (refine Below.drewN_ ?_ _) | (refine Below.drew ?_) | (refine Below.alloc ?_ (by first | omega | (simp; done) | (simp; omega)) _)))
  have hp1 : (1 : Int) ≤ (T.ps.length : Int) := by omega
  have hp7 : (T.ps.length : Int) ≤ 7 := by omega
  have hcp : (T.ps.length : Int) ≤ (cp : Int) := by omega
  have HP := Lib.hid hP
  have HM := Lib.hid hm
  clear hr hr0 hP hmy h4 hm
  go_enter Try.func34, Try.ntmps34
  go_wp2
  go_loopw [3, 14] (fun s i wr => ParSum T w #[.int .i64 T.k, .string T.nm, .slice An T.ns.length cn, .slice Ap T.ps.length cp, .bool T.many] s i wr) (fun _ i _ => T.ps.length - (intOf i).toNat)
  case atStart => exact ⟨0, Nat.zero_le _, rfl, rfl, b0, k0⟩
  case round =>
    clear b0 k0
    obtain ⟨k, hk, rfl, rfl, hb, kt⟩ := hrel
    by_cases hlt : k < T.ps.length - 1
    · have hlt' : k < T.ps.length := by omega
      obtain ⟨b, o, An', cn', Ap', cp', rfl, hbl, hrep, hc⟩ := (RepL.keep hb T.ps _ HP.out).five hlt'
      have hi : (k : Int) < (T.ps.length : Int) - 1 := by omega
      obtain ⟨hmp, hsz⟩ := HSZ.out _ (List.getElem_mem hlt')
      have HWD : Hid (wordsT T.ps[k] = ((sizeT T.ps[k]).1 : Int)) := by show _ = _; simp [wordsT, hmp]
      have HBS := Lib.hid (bsum_take hlt')
      have hbl' := bsum_le12 (fun p hp => (HSZ.out p hp).2) k (by omega)
      have hx0 : (0 : Int) ≤ (bsum (T.ps.take k) : Int) := by omega
      have hx1 : (bsum (T.ps.take k) : Int) ≤ 100 := by omega
      have hy1 : ((sizeT T.ps[k]).1 : Int) ≤ 12 := by omega
      have hsz' := hb.size
      clear hmp
      generalize hps : T.ps[k] = p at *
      clear hps
      have b2 : Below w.heap.size w (wr.alloc (.cells #[.int .i64 p.k, .string p.nm, .slice An' p.ns.length cn', .slice Ap' p.ps.length cp', .bool p.many] 25)) := hb.alloc hb.size _
      have X : Below wr.heap.size wr (wr.alloc (.cells #[.int .i64 p.k, .string p.nm, .slice An' p.ns.length cn', .slice Ap' p.ps.length cp', .bool p.many] 25)) := by (repeat (first | with_reducible assumption | with_reducible exact Below.refl _ _ | (refine Below.setCell ?_ (by first | omega | (simp; done) | (simp; omega)) _) | (refine Below.drewN_ ?_ _) | (refine Below.drew ?_) | (refine Below.alloc ?_ (by first | omega | (simp; done) | (simp; omega)) _)))
      have HC := Lib.hid (words_any p _ _ (Rep.keep X _ _ hrep) (HM.out.keep b2))
      have kt2 := kt.below X
      clear X
      go_wp2_with fail
      ((with_reducible refine (HC.out).mono ?_); rintro e w2 ⟨rfl, hb2⟩)
      rw [HWD.out]
      have b3 := b2.trans (hb2.mono b2.size)
      have kt3 := kt2.below hb2
      clear hb2 HC
      go_wp2
      go_roundw
      case rel => exact ⟨k + 1, by omega, by go_num, by rw [HBS.out]; go_num, b3, kt3⟩
      case measure => (first | (simp [intOf]; done) | (simp [intOf]; omega))
    · have hi : ¬ (k : Int) < (T.ps.length : Int) - 1 := by omega
      obtain rfl : k = T.ps.length - 1 := by omega
      rw [← hW.out]
      go_wp2
      go_ret
      exact ⟨rfl, hb⟩
end Go.Proofs.Ytkkjkbljgaipcaa
