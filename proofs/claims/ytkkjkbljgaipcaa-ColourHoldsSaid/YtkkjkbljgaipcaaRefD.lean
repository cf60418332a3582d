/- The document's words on which types may be: a struct; May. -/
import Derived.Test.YtkkjkbljgaipcaaRefC
import Derived.Test.YtkkjkbljgaipcaaTypF
namespace Go.Proofs.Ytkkjkbljgaipcaa
open Go.RowKit
set_option linter.unusedVariables false
set_option linter.unusedSimpArgs false
set_option maxRecDepth 100000
set_option maxHeartbeats 1600000
theorem mayR_struct (d : Nat) (hd : d ≤ 50) (T : Ty) (H3 : Hid (T.k = 3)) (h7 : T.ps.length ≤ 7) (h6 : T.ns.length ≤ 6) (IH : ∀ p ∈ T.ps, MayR d p) (An : Option Addr) (cn : Nat) (Ap : Option Addr) (cp : Nat) (w : World)
    (hr : Rep w T [.int .i64 3, .string T.nm, .slice An T.ns.length cn, .slice Ap T.ps.length cp, .bool T.many]) : Calls Try.prog 70 #[.agg #[.int .i64 3, .string T.nm, .slice An T.ns.length cn, .slice Ap T.ps.length cp, .bool T.many], .int .i64 ((d + 1 : Nat) : Int)] w fun e w' => e = .returned (.bool (mayT (d + 1) T)) ∧ Below w.heap.size w w' := by
  have hcapN := hr.capN
  obtain ⟨An', cn', Ap', cp', he, hN, hP⟩ := hr.five
  simp at he
  obtain ⟨-, ⟨rfl, rfl⟩, rfl, rfl⟩ := he
  have d0 : ¬ ((d : Int) + 1 < 1) := by omega
  have k0 := Blk.new_ w 25 #[.int .i64 3, .string T.nm, .slice An T.ns.length cn, .slice Ap T.ps.length cp, .bool T.many]
  have hl7 : ¬ (7 < (T.ps.length : Int)) := by omega
  have hl6 : ¬ (6 < (T.ns.length : Int)) := by omega
  go_enter Try.func70, Try.ntmps70
  go_wp2
  go_loopw [5] (fun i wr => MayRel d T w i w.heap.size #[.int .i64 3, .string T.nm, .slice An T.ns.length cn, .slice Ap T.ps.length cp, .bool T.many] wr) (fun i _ => T.ps.length - (intOf i).toNat)
  case atStart => exact ⟨0, Nat.zero_le _, rfl, fun j _ h => absurd h (by omega), by (repeat (first | with_reducible assumption | with_reducible exact Below.refl _ _ | (refine Below.setCell ?_ (by first | omega | (simp; done) | (simp; omega)) _) | (refine Below.drewN_ ?_ _) | (refine Below.drew ?_) | (refine Below.alloc ?_ (by first | omega | (simp; done) | (simp; omega)) _))), k0⟩
  case round =>
    clear k0
    obtain ⟨k, hk, rfl, hg, hb, k1⟩ := hrel
    have q := k1.five
    by_cases hlt : k < T.ps.length
    · obtain ⟨b, o, An', cn', Ap', cp', rfl, hbl, hrep, hc⟩ := (RepL.keep hb T.ps _ hP).five hlt
      have hi : (k : Int) < (T.ps.length : Int) := by omega
      have hk7 : (k : Int) < 7 := by omega
      have hIH := Lib.hid (IH _ (List.getElem_mem hlt))
      have HG := Lib.hid hg
      clear hg
      have HNO : Hid (mayT d T.ps[k] = false → mayT (d + 1) T = false) := fun h => by
        rcases h0 : mayT (d + 1) T with _ | _
        · rfl
        · rw [may_parts h0 _ (List.getElem_mem hlt)] at h; cases h
      have HYES : Hid (mayT d T.ps[k] = true → ∀ j (h : j < T.ps.length), j < k + 1 → mayT d T.ps[j] = true) := fun h0 j h hj => by
        rcases Nat.lt_or_ge j k with h1 | h1
        · exact HG.out j h h1
        · obtain rfl : j = k := by omega
          exact h0
      generalize hps : T.ps[k] = p at *
      clear hps
      go_wp2_with fail
      refine (hIH.out _ _ hrep).mono ?_
      rintro e w2 ⟨rfl, hb2⟩
      have b3 := hb.trans (hb2.mono hb.size)
      have k2 := k1.below hb2
      clear q hc k1
      have q := k2.five
      rcases hev : mayT d p with _ | _
      · have hh := Lib.hid (HNO.out hev)
        go_wp2
        go_ret
        exact ⟨by rw [hh.out]; rfl, b3⟩
      · go_wp2
        go_roundw
        case rel => exact ⟨k + 1, by omega, by go_num, HYES.out hev, b3, k2⟩
        case measure => (first | (simp [intOf]; done) | (simp [intOf]; omega))
    · have hi : (T.ps.length : Int) ≤ (k : Int) := by omega
      have hall : Hid (∀ p ∈ T.ps, mayT d p = true) := fun p hp => by
        obtain ⟨j, hj, rfl⟩ := List.getElem_of_mem hp
        exact hg j hj (by omega)
      clear hg
      obtain rfl : k = T.ps.length := by omega
      have hn : Hid (mayT (d + 1) T = (!T.many && nameOf T.nm && (T.ns.length == T.ps.length) && partsT d 1 6 T.ps && namedL T.ns && decide ((sizeT T).1 ≤ 12))) := by
        show _ = _
        unfold mayT; rw [if_neg (by rw [H3.out]; decide), if_pos H3.out]; rfl
      rcases hmn : T.many with _ | _
      · rcases hnm : nameOf T.nm with _ | _
        · have hf : Hid (mayT (d + 1) T = false) := by show _ = _; rw [hn.out, hnm]; simp
          rw [hmn] at q
          go_wp2_with fail
          refine (nameR_any _ _).mono ?_
          rintro e w2 ⟨rfl, hb2⟩
          rw [hnm]
          clear q
          go_wp2
          go_ret
          exact ⟨by rw [hf.out]; rfl, hb.trans (hb2.mono hb.size)⟩
        · rw [hmn] at q
          go_wp2_with fail
          refine (nameR_any _ _).mono ?_
          rintro e w2 ⟨rfl, hb2⟩
          rw [hnm]
          have b3 := hb.trans (hb2.mono hb.size)
          have k2 := k1.below hb2
          rw [hmn] at k2
          clear q k1
          have q := k2.five
          by_cases hn1 : 1 ≤ T.ps.length
          · by_cases hn6 : T.ps.length ≤ 6
            · by_cases hlen : T.ns.length = T.ps.length
              · have HL := Lib.hid hlen
                have hp : Hid (partsT d 1 6 T.ps = true) := by
                  show _ = _
                  simp only [partsT, Bool.and_eq_true, List.all_eq_true, decide_eq_true_eq]
                  exact ⟨⟨hn1, hn6⟩, hall.out⟩
                have hn' : Hid (mayT (d + 1) T = (namedL T.ns && decide ((sizeT T).1 ≤ 12))) := by
                  show _ = _
                  rw [hn.out, hmn, hnm, hp.out, HL.out]; simp
                clear hn
                have g1 : ¬ ((T.ps.length : Int) < 1) := by omega
                have g2 : ¬ (6 < (T.ps.length : Int)) := by omega
                rw [hlen] at q k2 hcapN
                clear hlen
                go_wp2
                go_loopw [7] (fun i wr => NamesRel T w i w.heap.size #[.int .i64 3, .string T.nm, .slice An T.ps.length cn, .slice Ap T.ps.length cp, .bool false] wr) (fun i _ => T.ps.length - (intOf i).toNat)
                case atStart => exact ⟨0, Nat.zero_le _, rfl, fun j _ h => absurd h (by omega), by simp, b3, k2⟩
                case round =>
                  clear q k2 b3 hb2 hb
                  obtain ⟨j, hj, rfl, hg, hnd, hb, k2⟩ := hrel
                  have q := k2.five
                  by_cases hlt' : j < T.ps.length
                  · have hjn : j < T.ns.length := by rw [HL.out]; exact hlt'
                    obtain ⟨bn, on, rfl, hbn, c0⟩ := hN.str hjn
                    rw [← keep_cell hb hbn] at c0
                    have hbn' : bn < wr.heap.size := Nat.lt_of_lt_of_le hbn hb.size
                    have hi' : (j : Int) < (T.ps.length : Int) := by omega
                    have hi'' : (0 : Int) ≤ (j : Int) := by omega
                    have hjc : (j : Int) ≤ (cn : Int) := by omega
                    have hj7 : (j : Int) < 7 := by omega
                    have hno := @named_no T.ns j hjn
                    have HYES := Lib.hid (@nodup_snoc T.ns j hjn hnd)
                    have HG : Hid (nameOf T.ns[j] = true → ∀ i (h : i < T.ns.length), i < j + 1 → nameOf T.ns[i] = true) := fun h0 i h hij => by
                      rcases Nat.lt_or_ge i j with h1 | h1
                      · exact hg i h h1
                      · obtain rfl : i = j := by omega
                        exact h0
                    have HNO : Hid (nameOf T.ns[j] = false ∨ strIn (T.ns.take j) T.ns[j] = true → mayT (d + 1) T = false) := fun h => by
                      rw [hn'.out, hno h]; rfl
                    have hrt := (hN.keep hb).take_ j
                    rw [← List.map_take] at hrt
                    have hlt2 : (T.ns.take j).length = j := by simp; omega
                    have hl0 : w.heap.size < wr.heap.size := k2.lt
                    have HAM : Hid (∀ W, (Below wr.heap.size wr W ∧ (W.cell? ⟨w.heap.size, 0, none⟩ = some (.int .i64 3) ∧ W.cell? ⟨w.heap.size, 1, none⟩ = some (.string T.nm) ∧ W.cell? ⟨w.heap.size, 2, none⟩ = some (.slice (some ⟨bn, on, none⟩) T.ps.length cn) ∧ W.cell? ⟨w.heap.size, 3, none⟩ = some (.slice Ap T.ps.length cp) ∧ W.cell? ⟨w.heap.size, 4, none⟩ = some (.bool false)) ∧ W.cell? ⟨bn, on + j, none⟩ = some (.string T.ns[j])) → Calls Try.prog 41 #[.slice (some ⟨bn, on, none⟩) j cn, .string T.ns[j]] W fun e w' => e = .returned (.bool (strIn (T.ns.take j) T.ns[j])) ∧ w' = W) := fun W hW => by
                      have h := among_any (some ⟨bn, on, none⟩) cn (T.ns.take j) T.ns[j] W (hrt.keep hW.1) (by unfold maxLen; omega)
                      rw [hlt2] at h
                      exact h
                    clear hno hg hnd hrt hlt2
                    generalize T.ns[j] = s at *
                    generalize strIn (T.ns.take j) s = si at *
                    rcases hns : nameOf s with _ | _
                    · have hf := Lib.hid (HNO.out (.inl hns))
                      clear HAM HNO HYES HG
                      have HNM : Hid (∀ W, Calls Try.prog 17 #[.string s] W fun e w' => e = .returned (.bool false) ∧ Below W.heap.size W w') := fun W => by
                        have h := nameR_any s W
                        rw [hns] at h
                        exact h
                      clear hns
                      go_wp2_with fail
                      refine wp_region_held_drew (S := fun W => Below wr.heap.size wr W ∧ (W.cell? ⟨w.heap.size, 0, none⟩ = some (.int .i64 3) ∧ W.cell? ⟨w.heap.size, 1, none⟩ = some (.string T.nm) ∧ W.cell? ⟨w.heap.size, 2, none⟩ = some (.slice (some ⟨bn, on, none⟩) T.ps.length cn) ∧ W.cell? ⟨w.heap.size, 3, none⟩ = some (.slice Ap T.ps.length cp) ∧ W.cell? ⟨w.heap.size, 4, none⟩ = some (.bool false)) ∧ W.cell? ⟨bn, on + j, none⟩ = some (.string s)) (by kernel_rfl) ⟨(Below.refl _ _).drew, q, c0⟩ (fun hHeld => ?_)
                      ((refine wpAnyH_take (i := 0) (v := ?_) rfl (by kernel_rfl) (by kernel_rfl) (by kernel_rfl) (fun _ _ _ h => h) (Or.inl ⟨by rfl, ?_⟩) (by assumption) ?_; rotate_left; · ((intro w hSw; (try dsimp only at hSw); go_simp) <;> with_reducible rfl); (try simp only [List.getElem_toArray, List.getElem_cons_succ, List.getElem_cons_zero, Act.put, List.setIfInBounds_toArray, List.set_cons_zero, List.set_cons_succ])); (refine wpAnyH_take (i := 1) (v := ?_) rfl (by kernel_rfl) (by kernel_rfl) (by kernel_rfl) (fun _ _ _ h => h) (Or.inl ⟨by rfl, ?_⟩) (by assumption) ?_; rotate_left; · ((intro w hSw; (try dsimp only at hSw); go_simp) <;> with_reducible rfl); (try simp only [List.getElem_toArray, List.getElem_cons_succ, List.getElem_cons_zero, Act.put, List.setIfInBounds_toArray, List.set_cons_zero, List.set_cons_succ])); (refine wpAnyH_take (i := 2) (v := ?_) rfl (by kernel_rfl) (by kernel_rfl) (by kernel_rfl) (fun _ _ _ h => h) (Or.inl ⟨by rfl, ?_⟩) (by assumption) ?_; rotate_left; · ((intro w hSw; (try dsimp only at hSw); go_simp) <;> with_reducible rfl); (try simp only [List.getElem_toArray, List.getElem_cons_succ, List.getElem_cons_zero, Act.put, List.setIfInBounds_toArray, List.set_cons_zero, List.set_cons_succ])); (refine wpAnyH_take (i := 3) (v := ?_) rfl (by kernel_rfl) (by kernel_rfl) (by kernel_rfl) (fun _ _ _ h => h) (Or.inl ⟨by rfl, ?_⟩) (by assumption) ?_; rotate_left; · ((intro w hSw; (try dsimp only at hSw); go_simp) <;> with_reducible rfl); (try simp only [List.getElem_toArray, List.getElem_cons_succ, List.getElem_cons_zero, Act.put, List.setIfInBounds_toArray, List.set_cons_zero, List.set_cons_succ])); (refine wpAnyH_take (i := 4) (v := ?_) rfl (by kernel_rfl) (by kernel_rfl) (by kernel_rfl) (fun _ _ _ h => h) (Or.inl ⟨by rfl, ?_⟩) (by assumption) ?_; rotate_left; · ((intro w hSw; (try dsimp only at hSw); go_simp) <;> with_reducible rfl); (try simp only [List.getElem_toArray, List.getElem_cons_succ, List.getElem_cons_zero, Act.put, List.setIfInBounds_toArray, List.set_cons_zero, List.set_cons_succ])))
                      refine wpAnyH_ready (rs := [5]) (by kernel_rfl) (by simp) ?_
                      refine AllReadyH.cons rfl (fun K hK => ?_) AllReadyH.nil
                      go_simp
                      with_reducible refine (HNM.out _).mono ?_
                      rintro e w' ⟨rfl, hbq⟩
                      refine hK.out _ _ ?_ (fun hHeld => ?_)
                      · exact keep6 hl0 hbn' (by assumption) hbq
                      clear hK K
                      (try simp only [Act.put, List.setIfInBounds_toArray, List.set_cons_zero, List.set_cons_succ])
                      ((refine wpAnyH_take (i := 6) (v := ?_) rfl (by kernel_rfl) (by kernel_rfl) (by kernel_rfl) (fun _ _ _ h => h) (Or.inl ⟨by rfl, ?_⟩) (by assumption) ?_; rotate_left; · ((intro w hSw; (try dsimp only at hSw); go_simp) <;> with_reducible rfl); (try simp only [List.getElem_toArray, List.getElem_cons_succ, List.getElem_cons_zero, Act.put, List.setIfInBounds_toArray, List.set_cons_zero, List.set_cons_succ])); (refine wpAnyH_take (i := 7) (v := ?_) rfl (by kernel_rfl) (by kernel_rfl) (by kernel_rfl) (fun _ _ _ h => h) (Or.inl ⟨by rfl, ?_⟩) (by assumption) ?_; rotate_left; · ((intro w hSw; (try dsimp only at hSw); go_simp) <;> with_reducible rfl); (try simp only [List.getElem_toArray, List.getElem_cons_succ, List.getElem_cons_zero, Act.put, List.setIfInBounds_toArray, List.set_cons_zero, List.set_cons_succ])))
                      ((refine wpAnyH_take (i := 8) (v := undef) rfl (by kernel_rfl) (by kernel_rfl) (by kernel_rfl) (fun _ _ _ h => h) (Or.inr ⟨by go_simp, rfl⟩) (by assumption) ?_; (try simp only [List.getElem_toArray, List.getElem_cons_succ, List.getElem_cons_zero, Act.put, List.setIfInBounds_toArray, List.set_cons_zero, List.set_cons_succ])); (refine wpAnyH_take (i := 9) (v := undef) rfl (by kernel_rfl) (by kernel_rfl) (by kernel_rfl) (fun _ _ _ h => h) (Or.inr ⟨by go_simp, rfl⟩) (by assumption) ?_; (try simp only [List.getElem_toArray, List.getElem_cons_succ, List.getElem_cons_zero, Act.put, List.setIfInBounds_toArray, List.set_cons_zero, List.set_cons_succ])); (refine wpAnyH_take (i := 10) (v := undef) rfl (by kernel_rfl) (by kernel_rfl) (by kernel_rfl) (fun _ _ _ h => h) (Or.inr ⟨by go_simp, rfl⟩) (by assumption) ?_; (try simp only [List.getElem_toArray, List.getElem_cons_succ, List.getElem_cons_zero, Act.put, List.setIfInBounds_toArray, List.set_cons_zero, List.set_cons_succ])); (refine wpAnyH_take (i := 11) (v := undef) rfl (by kernel_rfl) (by kernel_rfl) (by kernel_rfl) (fun _ _ _ h => h) (Or.inr ⟨by go_simp, rfl⟩) (by assumption) ?_; (try simp only [List.getElem_toArray, List.getElem_cons_succ, List.getElem_cons_zero, Act.put, List.setIfInBounds_toArray, List.set_cons_zero, List.set_cons_succ])); (refine wpAnyH_take (i := 12) (v := undef) rfl (by kernel_rfl) (by kernel_rfl) (by kernel_rfl) (fun _ _ _ h => h) (Or.inr ⟨by go_simp, rfl⟩) (by assumption) ?_; (try simp only [List.getElem_toArray, List.getElem_cons_succ, List.getElem_cons_zero, Act.put, List.setIfInBounds_toArray, List.set_cons_zero, List.set_cons_succ])); (refine wpAnyH_take (i := 13) (v := undef) rfl (by kernel_rfl) (by kernel_rfl) (by kernel_rfl) (fun _ _ _ h => h) (Or.inr ⟨by go_simp, rfl⟩) (by assumption) ?_; (try simp only [List.getElem_toArray, List.getElem_cons_succ, List.getElem_cons_zero, Act.put, List.setIfInBounds_toArray, List.set_cons_zero, List.set_cons_succ])); (refine wpAnyH_take (i := 14) (v := undef) rfl (by kernel_rfl) (by kernel_rfl) (by kernel_rfl) (fun _ _ _ h => h) (Or.inr ⟨by go_simp, rfl⟩) (by assumption) ?_; (try simp only [List.getElem_toArray, List.getElem_cons_succ, List.getElem_cons_zero, Act.put, List.setIfInBounds_toArray, List.set_cons_zero, List.set_cons_succ])); (refine wpAnyH_take (i := 15) (v := undef) rfl (by kernel_rfl) (by kernel_rfl) (by kernel_rfl) (fun _ _ _ h => h) (Or.inr ⟨by go_simp, rfl⟩) (by assumption) ?_; (try simp only [List.getElem_toArray, List.getElem_cons_succ, List.getElem_cons_zero, Act.put, List.setIfInBounds_toArray, List.set_cons_zero, List.set_cons_succ])); (refine wpAnyH_take (i := 16) (v := undef) rfl (by kernel_rfl) (by kernel_rfl) (by kernel_rfl) (fun _ _ _ h => h) (Or.inr ⟨by go_simp, rfl⟩) (by assumption) ?_; (try simp only [List.getElem_toArray, List.getElem_cons_succ, List.getElem_cons_zero, Act.put, List.setIfInBounds_toArray, List.set_cons_zero, List.set_cons_succ])); (refine wpAnyH_take (i := 17) (v := undef) rfl (by kernel_rfl) (by kernel_rfl) (by kernel_rfl) (fun _ _ _ h => h) (Or.inr ⟨by go_simp, rfl⟩) (by assumption) ?_; (try simp only [List.getElem_toArray, List.getElem_cons_succ, List.getElem_cons_zero, Act.put, List.setIfInBounds_toArray, List.set_cons_zero, List.set_cons_succ])))
                      ((refine wpAnyH_take (i := 18) (v := ?_) rfl (by kernel_rfl) (by kernel_rfl) (by kernel_rfl) (fun _ _ _ h => h) (Or.inl ⟨by rfl, ?_⟩) (by assumption) ?_; rotate_left; · ((intro w hSw; (try dsimp only at hSw); go_simp) <;> with_reducible rfl); (try simp only [List.getElem_toArray, List.getElem_cons_succ, List.getElem_cons_zero, Act.put, List.setIfInBounds_toArray, List.set_cons_zero, List.set_cons_succ])))
                      refine wpAnyH_done (by kernel_rfl) ?_ _
                      have hbf := hb.trans (hHeld.1.mono hb.size)
                      clear q c0
                      go_wp2
                      go_ret
                      exact ⟨by rw [hf.out]; rfl, hbf⟩
                    · have HNM : Hid (∀ W, Calls Try.prog 17 #[.string s] W fun e w' => e = .returned (.bool true) ∧ Below W.heap.size W w') := fun W => by
                        have h := nameR_any s W
                        rw [hns] at h
                        exact h
                      cases si
                      · have hy := Lib.hid (HYES.out rfl)
                        have hgg := Lib.hid (HG.out hns)
                        clear HYES HG HNO hns
                        go_wp2_with fail
                        go_region_held3 (fun W => Below wr.heap.size wr W ∧ (W.cell? ⟨w.heap.size, 0, none⟩ = some (.int .i64 3) ∧ W.cell? ⟨w.heap.size, 1, none⟩ = some (.string T.nm) ∧ W.cell? ⟨w.heap.size, 2, none⟩ = some (.slice (some ⟨bn, on, none⟩) T.ps.length cn) ∧ W.cell? ⟨w.heap.size, 3, none⟩ = some (.slice Ap T.ps.length cp) ∧ W.cell? ⟨w.heap.size, 4, none⟩ = some (.bool false)) ∧ W.cell? ⟨bn, on + j, none⟩ = some (.string s)) (first | exact ⟨(Below.refl _ _).drew, q, c0⟩ | exact keep6 hl0 hbn' (by assumption) hbq | exact ⟨Below.drew (And.left (by assumption)), And.right (by assumption)⟩ | go_keep) (first | (go_at_call 17; ((with_reducible refine (HNM.out _).mono ?_); rintro e w' ⟨rfl, hbq⟩)) | (go_at_call 41; ((with_reducible refine (HAM.out _ (by assumption)).mono ?_); rintro e w' ⟨rfl, rfl⟩)))
                        all_goals
                          rename_i hh
                          have hbf := hb.trans (hh.1.mono hb.size)
                          have k3 := k2.below hh.1
                          clear q c0
                          have q := k3.five
                          go_wp2
                          go_roundw
                          case rel => exact ⟨j + 1, by omega, by go_num, hgg.out, hy.out, hbf, k3⟩
                          case measure => (first | (simp [intOf]; done) | (simp [intOf]; omega))
                      · have hf := Lib.hid (HNO.out (.inr rfl))
                        clear HYES HG HNO hns
                        go_wp2_with fail
                        go_region_held3 (fun W => Below wr.heap.size wr W ∧ (W.cell? ⟨w.heap.size, 0, none⟩ = some (.int .i64 3) ∧ W.cell? ⟨w.heap.size, 1, none⟩ = some (.string T.nm) ∧ W.cell? ⟨w.heap.size, 2, none⟩ = some (.slice (some ⟨bn, on, none⟩) T.ps.length cn) ∧ W.cell? ⟨w.heap.size, 3, none⟩ = some (.slice Ap T.ps.length cp) ∧ W.cell? ⟨w.heap.size, 4, none⟩ = some (.bool false)) ∧ W.cell? ⟨bn, on + j, none⟩ = some (.string s)) (first | exact ⟨(Below.refl _ _).drew, q, c0⟩ | exact keep6 hl0 hbn' (by assumption) hbq | exact ⟨Below.drew (And.left (by assumption)), And.right (by assumption)⟩ | go_keep) (first | (go_at_call 17; ((with_reducible refine (HNM.out _).mono ?_); rintro e w' ⟨rfl, hbq⟩)) | (go_at_call 41; ((with_reducible refine (HAM.out _ (by assumption)).mono ?_); rintro e w' ⟨rfl, rfl⟩)))
                        all_goals
                          rename_i hh
                          have hbf := hb.trans (hh.1.mono hb.size)
                          clear q c0
                          go_wp2
                          go_ret
                          exact ⟨by rw [hf.out]; rfl, hbf⟩
                  · have hi' : ¬ (j : Int) < (T.ps.length : Int) := by omega
                    obtain rfl : j = T.ps.length := by omega
                    have hnl : namedL T.ns = true := named_yes (fun i h => hg i h (by have := HL.out; omega)) (by rw [← HL.out, List.take_length] at hnd; exact hnd)
                    have hm2 : Hid (mayT (d + 1) T = decide ((sizeT T).1 ≤ 12)) := by show _ = _; rw [hn'.out, hnl]; rfl
                    have hS : SizeR T := sizeR_struct T H3.out (place_any T H3.out h7 (fun p hpp => (sized_of_may d p (hall.out p hpp)).2) (fun p hpp => sizeR_all d p (hall.out p hpp)) (fun p hpp => even_all d p (hall.out p hpp)) (even_struct T H3.out h7 (fun p hpp => even_all d p (hall.out p hpp))) _ (Nat.le_refl _))
                    have hsz := (sizeT T).1
                    have HSS := Lib.hid hS
                    clear hg hnd hnl hS
                    rw [hmn, HL.out] at hr
                    go_wp2_with fail
                    refine (HSS.out _ _ (Rep.keep hb _ _ hr)).mono ?_
                    rintro e w3 ⟨rfl, hb3⟩
                    clear q
                    by_cases h12 : (sizeT T).1 ≤ 12
                    · have g3 : ((sizeT T).1 : Int) ≤ 12 := by omega
                      go_wp2
                      go_ret
                      exact ⟨by rw [hm2.out]; simp [h12], hb.trans (hb3.mono hb.size)⟩
                    · have g3 : ¬ ((sizeT T).1 : Int) ≤ 12 := by omega
                      go_wp2
                      go_ret
                      exact ⟨by rw [hm2.out]; simp [h12]; omega, hb.trans (hb3.mono hb.size)⟩
              · have hf : Hid (mayT (d + 1) T = false) := by show _ = _; rw [hn.out]; simp [hlen]
                have g1 : ¬ ((T.ps.length : Int) < 1) := by omega
                have g2 : ¬ (6 < (T.ps.length : Int)) := by omega
                have g3 : (((T.ns.length : Nat) : Int) != ((T.ps.length : Nat) : Int)) = true := by simp; omega
                go_wp2
                go_ret
                exact ⟨by rw [hf.out]; rfl, b3⟩
            · have hf : Hid (mayT (d + 1) T = false) := by show _ = _; rw [hn.out]; simp [partsT, hn6]
              have g1 : ¬ ((T.ps.length : Int) < 1) := by omega
              have g2 : (6 < (T.ps.length : Int)) := by omega
              go_wp2
              go_ret
              exact ⟨by rw [hf.out]; rfl, b3⟩
          · have hf : Hid (mayT (d + 1) T = false) := by show _ = _; rw [hn.out]; simp [partsT, hn1]
            have g1 : ((T.ps.length : Int) < 1) := by omega
            go_wp2
            go_ret
            exact ⟨by rw [hf.out]; rfl, b3⟩
      · have hf : Hid (mayT (d + 1) T = false) := by show _ = _; rw [hn.out, hmn]; simp
        rw [hmn] at q
        go_wp2
        go_ret
        exact ⟨by rw [hf.out]; rfl, hb⟩
theorem mayR_any : ∀ (d : Nat), d ≤ 51 → ∀ T : Ty, MayR d T
  | 0, _, T => by
    intro cs w hr
    obtain ⟨An, cn, Ap, cp, rfl, hN, hP⟩ := hr.five
    have hn : mayT 0 T = false := rfl
    go_enter Try.func70, Try.ntmps70
    go_wp2
    go_ret
    exact ⟨by first | rfl | (rw [hn]; rfl), by (repeat (first | with_reducible assumption | with_reducible exact Below.refl _ _ | (refine Below.setCell ?_ (by first | omega | (simp; done) | (simp; omega)) _) | (refine Below.drewN_ ?_ _) | (refine Below.drew ?_) | (refine Below.alloc ?_ (by first | omega | (simp; done) | (simp; omega)) _)))⟩
  | d + 1, hd, T => by
    have IH : ∀ p ∈ T.ps, MayR d p := fun p _ => mayR_any d (by omega) p
    intro cs w hr
    have hr0 := hr
    obtain ⟨An, cn, Ap, cp, rfl, hN, hP⟩ := hr.five
    have d0 : ¬ ((d : Int) + 1 < 1) := by omega
    by_cases h7 : T.ps.length ≤ 7
    · by_cases h6 : T.ns.length ≤ 6
      · by_cases h1 : T.k = 1
        · have h := mayR_1 d (by omega) T (Or.inl h1) h7 h6 IH An cn Ap cp w (by rw [← h1]; exact hr0)
          rw [← h1] at h
          exact h
        · by_cases h2 : T.k = 2
          · have h := mayR_2 d (by omega) T (Or.inr h2) h7 h6 IH An cn Ap cp w (by rw [← h2]; exact hr0)
            rw [← h2] at h
            exact h
          · by_cases h3 : T.k = 3
            · have h := mayR_struct d (by omega) T h3 h7 h6 IH An cn Ap cp w (by rw [← h3]; exact hr0)
              rw [← h3] at h
              exact h
            · by_cases h4 : T.k = 4
              · have h := mayR_fn d (by omega) T h4 h7 h6 IH An cn Ap cp w (by rw [← h4]; exact hr0)
                rw [← h4] at h
                exact h
              · exact mayR_other d (by omega) T ⟨h1, h2, h3, h4⟩ (by simpa using h1) (by simpa using h2) (by simpa using h3) (by simpa using h4) h7 h6 IH An cn Ap cp w hr0
      · have hf : Hid (mayT (d + 1) T = false) := by
          show _ = _
          rcases h0 : mayT (d + 1) T with _ | _
          · rfl
          · exact absurd (may_names h0) h6
        have g1 : ¬ (7 < (T.ps.length : Int)) := by omega
        have g2 : 6 < (T.ns.length : Int) := by omega
        clear h6 h7
        go_enter Try.func70, Try.ntmps70
        go_wp2
        go_ret
        exact ⟨by rw [hf.out]; rfl, by (repeat (first | with_reducible assumption | with_reducible exact Below.refl _ _ | (refine Below.setCell ?_ (by first | omega | (simp; done) | (simp; omega)) _) | (refine Below.drewN_ ?_ _) | (refine Below.drew ?_) | (refine Below.alloc ?_ (by first | omega | (simp; done) | (simp; omega)) _)))⟩
    · have hf : Hid (mayT (d + 1) T = false) := by
        show _ = _
        rcases h0 : mayT (d + 1) T with _ | _
        · rfl
        · exact absurd (may_len h0) h7
      have g1 : 7 < (T.ps.length : Int) := by omega
      clear h7
      go_enter Try.func70, Try.ntmps70
      go_wp2
      go_ret
      exact ⟨by rw [hf.out]; rfl, by (repeat (first | with_reducible assumption | with_reducible exact Below.refl _ _ | (refine Below.setCell ?_ (by first | omega | (simp; done) | (simp; omega)) _) | (refine Below.drewN_ ?_ _) | (refine Below.drew ?_) | (refine Below.alloc ?_ (by first | omega | (simp; done) | (simp; omega)) _)))⟩
theorem mayRef_any (T : Ty) (cs : List Value) (w : World) (hr : Rep w T cs) : Calls Try.prog 43 #[.agg cs.toArray] w fun e w' => e = .returned (.bool (may T)) ∧ Below w.heap.size w w' := by
  have hr0 := hr
  obtain ⟨An, cn, Ap, cp, rfl, hN, hP⟩ := hr.five
  have h4 : Hid (∀ (cs : List Value) (w : World), Rep w T cs → Calls Try.prog 70 #[.agg cs.toArray, .int .i64 4] w fun e w' => e = .returned (.bool (mayT 4 T)) ∧ Below w.heap.size w w') := mayR_any 4 (by omega) T
  go_enter Try.func43, Try.ntmps43
  go_wp2_with fail
  refine (h4.out _ _ (Rep.keep (by (repeat (first | with_reducible assumption | with_reducible exact Below.refl _ _ | (refine Below.setCell ?_ (by first | omega | (simp; done) | (simp; omega)) _) | (refine Below.drewN_ ?_ _) | (refine Below.drew ?_) | (refine Below.alloc ?_ (by first | omega | (simp; done) | (simp; omega)) _)))) _ _ hr0)).mono ?_
  rintro e w1 ⟨rfl, hb⟩
  go_wp2
  go_ret
  exact ⟨rfl, Below.trans (by (repeat (first | with_reducible assumption | with_reducible exact Below.refl _ _ | (refine Below.setCell ?_ (by first | omega | (simp; done) | (simp; omega)) _) | (refine Below.drewN_ ?_ _) | (refine Below.drew ?_) | (refine Below.alloc ?_ (by first | omega | (simp; done) | (simp; omega)) _)))) (hb.mono (by simp))⟩
end Go.Proofs.Ytkkjkbljgaipcaa
