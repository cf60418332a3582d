/- The walks of ref11.Words, ref11.isFn, ref11.twice, three.of. -/
import Derived.Test.YtkkjkbljgaipcaaOrdB
namespace Go.Proofs.Ytkkjkbljgaipcaa
open Go.RowKit
set_option linter.unusedVariables false
set_option linter.unusedSimpArgs false
set_option maxRecDepth 100000
set_option maxHeartbeats 2000000
theorem resW_le {T : Ty} (h : may T = true) (h4 : T.k = 4) : 1 ≤ resW T ∧ resW T ≤ 12 := by
  have hp : T.ps ≠ [] := (may_fn h h4).2.2.1
  have hl : lastT T ∈ T.ps := by
    unfold lastT
    have : T.ps.length - 1 < T.ps.length := by
      rcases h' : T.ps with _ | ⟨a, l⟩
      · exact absurd h' hp
      · simp
    rw [List.getD_eq_getElem?_getD, List.getElem?_eq_getElem this]
    exact List.getElem_mem _
  exact ⟨size_pos 3 _ (may_parts (d := 3) h _ hl), (may_size h _ hl).2⟩
theorem last_at {T : Ty} (h : 1 ≤ T.ps.length) : lastT T = T.ps[T.ps.length - 1]'(by omega) := by
  unfold lastT
  rw [List.getD_eq_getElem?_getD, List.getElem?_eq_getElem (by omega)]
  rfl
theorem parW_le {T : Ty} (h : may T = true) : parW T ≤ 84 := by
  have h7 := may_len h
  unfold parW
  rw [List.dropLast_eq_take]
  have := bsum_le12 (fun p hp => (may_size h p hp).2) (T.ps.length - 1) (by omega)
  omega
theorem wordsR_any (T : Ty) (cs : List Value) (w : World) (hr : Rep w T cs) (hmy : may T = true) (h4 : T.k = 4) :
    Calls Try.prog 19 #[.agg cs.toArray] w fun e w' => e = .returned (.tuple #[.int .i64 (parW T : Int), .int .i64 (resW T : Int)]) ∧ Below w.heap.size w w' := by
  have hr0 := hr
  obtain ⟨An, cn, Ap, cp, rfl, -, hP⟩ := hr.five
  have hpos : 1 ≤ T.ps.length := by
    have := (may_fn hmy h4).2.2.1
    rcases h : T.ps with _ | ⟨a, l⟩
    · exact absurd h this
    · simp
  have h7 := may_len hmy
  have HSZ := Lib.hid (may_size hmy)
  have HSR := Lib.hid (fun p hp => sizeR_all 3 p (may_parts (d := 3) hmy p hp))
  have hW : Hid (parW T = bsum (T.ps.take (T.ps.length - 1))) := by show _ = _; unfold parW; rw [List.dropLast_eq_take]
  have k0 := Blk.new_ w 25 #[.int .i64 T.k, .string T.nm, .slice An T.ns.length cn, .slice Ap T.ps.length cp, .bool T.many]
  have b0 : Below w.heap.size w (w.alloc (.cells #[.int .i64 T.k, .string T.nm, .slice An T.ns.length cn, .slice Ap T.ps.length cp, .bool T.many] 25)) := by (repeat (first | with_reducible assumption | with_reducible exact Below.refl _ _ | (refine Below.setCell ?_ (by first | omega | (simp; done) | (simp; omega)) _) | (refine Below.drewN_ ?_ _) | (refine Below.drew ?_) | (refine Below.alloc ?_ (by first | omega | (simp; done) | (simp; omega)) _)))
  have hp1 : (1 : Int) ≤ (T.ps.length : Int) := by omega
  have hp7 : (T.ps.length : Int) ≤ 7 := by omega
  have HP := Lib.hid hP
  have hLT := last_at hpos
  have HRW : Hid (resW T = (sizeT (T.ps[T.ps.length - 1]'(by omega))).1) := by show _ = _; unfold resW; rw [hLT]
  have hR12 := resW_le hmy h4
  have HR12 := Lib.hid hR12
  clear hr hr0 hP hmy h4 hLT hR12
  go_enter Try.func19, Try.ntmps19
  go_wp2
  go_loopw [4, 6] (fun s i wr => ParSum T w #[.int .i64 T.k, .string T.nm, .slice An T.ns.length cn, .slice Ap T.ps.length cp, .bool T.many] s i wr) (fun _ i _ => T.ps.length - (intOf i).toNat)
  case atStart => exact ⟨0, Nat.zero_le _, rfl, rfl, b0, k0⟩
  case round =>
    clear b0 k0
    obtain ⟨k, hk, rfl, rfl, hb, kt⟩ := hrel
    have q3 := kt.cell 3 (.slice Ap T.ps.length cp) rfl
    have hlt' : k < T.ps.length := by omega
    obtain ⟨b, o, An', cn', Ap', cp', rfl, hbl, hrep, hc⟩ := (RepL.keep hb T.ps _ HP.out).five hlt'
    have hk0 : (0 : Int) ≤ (k : Int) := by omega
    by_cases hlt : k < T.ps.length - 1
    · have hi : (k : Int) < (T.ps.length : Int) - 1 := by omega
      have hsz := (HSZ.out _ (List.getElem_mem hlt')).2
      have hSR := HSR.out _ (List.getElem_mem hlt')
      have HBS := Lib.hid (bsum_take hlt')
      have hbl' := bsum_le12 (fun p hp => (HSZ.out p hp).2) k (by omega)
      have hx0 : (0 : Int) ≤ (bsum (T.ps.take k) : Int) := by omega
      have hx1 : (bsum (T.ps.take k) : Int) ≤ 100 := by omega
      have hy1 : ((sizeT T.ps[k]).1 : Int) ≤ 12 := by omega
      have hsz' := hb.size
      generalize hps : T.ps[k] = p at *
      clear hps
      have HC := Lib.hid (hSR _ _ hrep)
      clear hSR
      go_wp2_with fail
      ((with_reducible refine (HC.out).mono ?_); rintro e w2 ⟨rfl, hb2⟩)
      have b3 := hb.trans (hb2.mono hb.size)
      have kt3 := kt.below hb2
      clear hb2 HC
      go_wp2
      go_roundw
      case rel => exact ⟨k + 1, by omega, by go_num, by rw [HBS.out]; go_num, b3, kt3⟩
      case measure => (first | (simp [intOf]; done) | (simp [intOf]; omega))
    · have hi : ¬ (k : Int) < (T.ps.length : Int) - 1 := by omega
      obtain rfl : k = T.ps.length - 1 := by omega
      rw [← hW.out]
      have hSR := HSR.out _ (List.getElem_mem hlt')
      have hcast : ((T.ps.length - 1 : Nat) : Int) = (T.ps.length : Int) - 1 := by omega
      rw [hcast] at hk0 hi ⊢
      have hnat : ((T.ps.length : Int) - 1).toNat = T.ps.length - 1 := by omega
      generalize hps : T.ps[T.ps.length - 1] = p at *
      have HC := Lib.hid (hSR _ _ hrep)
      clear hSR hps hcast
      go_wp2_with fail
      ((with_reducible refine (HC.out).mono ?_); rintro e w2 ⟨rfl, hb2⟩)
      have b3 := hb.trans (hb2.mono hb.size)
      go_wp2
      go_ret2
      exact ⟨by rw [HRW.out]; rfl, b3⟩
theorem isFn_any (T : Ty) (cs : List Value) (w : World) (hr : Rep w T cs) :
    Calls Try.prog 18 #[.agg cs.toArray] w fun e w' => e = .returned (.bool ((T.k == 4) && may T)) ∧ Below w.heap.size w w' := by
  have hr0 := hr
  obtain ⟨An, cn, Ap, cp, rfl, -, -⟩ := hr.five
  have b0 : Below w.heap.size w (w.alloc (.cells #[.int .i64 T.k, .string T.nm, .slice An T.ns.length cn, .slice Ap T.ps.length cp, .bool T.many] 25)) := by (repeat (first | with_reducible assumption | with_reducible exact Below.refl _ _ | (refine Below.setCell ?_ (by first | omega | (simp; done) | (simp; omega)) _) | (refine Below.drewN_ ?_ _) | (refine Below.drew ?_) | (refine Below.alloc ?_ (by first | omega | (simp; done) | (simp; omega)) _)))
  have HC := Lib.hid (mayRef_any T _ _ (Rep.keep b0 _ _ hr0))
  have HB := Lib.hid b0
  clear hr hr0 b0
  rcases e1 : (T.k == 4) with _ | _
  · go_enter Try.func18, Try.ntmps18
    go_wp2
    go_ret
    exact ⟨rfl, HB.out⟩
  · go_enter Try.func18, Try.ntmps18
    go_wp2_with fail
    ((with_reducible refine (HC.out).mono ?_); rintro e w2 ⟨rfl, hb2⟩)
    go_wp2
    go_ret
    exact ⟨rfl, HB.out.trans (hb2.mono HB.out.size)⟩
def TwO (l : List Int) (w : World) (i : Value) (wr : World) : Prop := ∃ k : Nat, k ≤ l.length ∧ i = .int .i64 k ∧ (l.take k).Nodup ∧ ∃ n, wr = w.drewN n
def TwI (l : List Int) (k : Nat) (x : Int) (w : World) (i : Value) (wr : World) : Prop := ∃ m : Nat, m ≤ k ∧ i = .int .i64 m ∧ (∀ j (h : j < l.length), j < m → l[j] ≠ x) ∧ ∃ n, wr = w.drewN n
theorem nodup_no {l : List Int} {m k : Nat} (hmk : m < k) (hk : k < l.length) (h : l[m] = l[k]) : decide l.Nodup = false := by
  rw [decide_eq_false_iff_not]
  intro hn
  exact (List.pairwise_iff_getElem.1 hn) m k (by omega) hk hmk h
theorem nodup_more {l : List Int} {k : Nat} (hk : k < l.length) (h : (l.take k).Nodup) (hne : ∀ j (h : j < l.length), j < k → l[j] ≠ l[k]) : (l.take (k + 1)).Nodup := by
  rw [List.take_succ_eq_append_getElem hk]
  refine List.nodup_append.2 ⟨h, by simp, fun a ha b hb => ?_⟩
  rw [List.mem_singleton] at hb
  subst hb
  obtain ⟨j, hj, rfl⟩ := List.getElem_of_mem ha
  rw [List.length_take] at hj
  rw [List.getElem_take]
  exact hne j (by omega) (by omega)
def DrOut (b : Bool) (w : World) (e : Ending) (w' : World) : Prop := e = .returned (.bool b) ∧ ∃ n, w' = w.drewN n
theorem twice_any (A : Option Addr) (c : Nat) (l : List Int) (w : World) (hr : Row w A (l.map i64)) (hn : l.length ≤ 100) :
    Calls Try.prog 45 #[.slice A l.length c] w (DrOut (!decide l.Nodup) w) := by
  go_enter Try.func45, Try.ntmps45
  go_wp2
  go_loopw [3] (fun i wr => TwO l w i wr) (fun i _ => l.length - (intOf i).toNat)
  case atStart => exact ⟨0, Nat.zero_le _, rfl, by simp, 0, rfl⟩
  case round =>
    obtain ⟨k, hk, rfl, hnd, nd, rfl⟩ := hrel
    by_cases hlt : k < l.length
    · obtain ⟨b, o, rfl, hbl, c0⟩ := hr.i64 hlt
      have hi : (k : Int) < (l.length : Int) := by omega
      have hi0 : (0 : Int) ≤ (k : Int) := by omega
      have hi1 : (k : Int) < 100 := by omega
      have HND := Lib.hid hnd
      have HNO : Hid (∀ m, m < k → ∀ (h : m < l.length), l[m] = l[k] → decide l.Nodup = false) := fun m hm _ h => nodup_no hm hlt h
      have HMO : Hid ((∀ j (h : j < l.length), j < k → l[j] ≠ l[k]) → (l.take (k + 1)).Nodup) := nodup_more hlt hnd
      clear hnd
      generalize l[k] = x at *
      go_wp2
      go_loopw [4] (fun i wr => TwI l k x w i wr) (fun i _ => k - (intOf i).toNat)
      case atStart => exact ⟨0, Nat.zero_le _, rfl, fun j _ h => absurd h (by omega), nd, rfl⟩
      case round =>
        obtain ⟨m, hm, rfl, hg, nd2, rfl⟩ := hrel
        by_cases hmk : m < k
        · obtain ⟨b', o', he, -, c1⟩ := hr.i64 (k := m) (by omega)
          injection he with he
          injection he with e1 e2
          subst e1 e2
          have hj : (m : Int) < (k : Int) := by omega
          have hj0 : (0 : Int) ≤ (m : Int) := by omega
          have hj1 : (m : Int) < (l.length : Int) := by omega
          have HY : Hid (∀ y, l[m]'(by omega) = y → y ≠ x → ∀ j (h : j < l.length), j < m + 1 → l[j] ≠ x) := fun y hy hne j h hj => by
            rcases Nat.lt_or_ge j m with h2 | h2
            · exact hg j h h2
            · obtain rfl : j = m := by omega
              rw [hy]; exact hne
          have HN := Lib.hid (HNO.out m hmk (by omega))
          clear hg HNO
          generalize hy : l[m]'(by omega) = y at *
          have HYY := Lib.hid (HY.out y rfl)
          clear HY hy
          by_cases hxy : y = x
          · have hd := Lib.hid (HN.out hxy)
            have e3 : (y == x) = true := by simpa using hxy
            clear hxy HN HYY
            go_wp2
            go_quiet (fail)
            go_wp2
            go_ret
            exact ⟨by rw [hd.out]; rfl, nd2 + nq, by simp⟩
          · have hd := Lib.hid (HYY.out hxy)
            have e3 : (y == x) = false := by simpa using hxy
            clear hxy HN HYY
            go_wp2
            go_quiet (fail)
            go_wp2
            go_roundw
            case rel => exact ⟨m + 1, by omega, by go_num, hd.out, _, rfl⟩
            case measure => (first | (simp [intOf]; done) | (simp [intOf]; omega))
        · have hj : ¬ (m : Int) < (k : Int) := by omega
          obtain rfl : m = k := by omega
          have hd := Lib.hid (HMO.out hg)
          clear hg
          go_wp2
          go_roundw
          case rel => exact ⟨m + 1, by omega, by go_num, hd.out, _, rfl⟩
          case measure => (first | (simp [intOf]; done) | (simp [intOf]; omega))
    · have hi : ¬ (k : Int) < (l.length : Int) := by omega
      rw [List.take_of_length_le (by omega)] at hnd
      have hd : Hid (decide l.Nodup = true) := by show _ = _; simpa using hnd
      clear hnd
      go_wp2
      go_ret
      exact ⟨by rw [hd.out]; rfl, _, rfl⟩
end Go.Proofs.Ytkkjkbljgaipcaa
