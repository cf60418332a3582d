/- The document's words on types that are one: Alike. -/
import Derived.Test.YtkjlmllhhfacfaaRefB
import Derived.Test.YtkjlmllhhfacfaaTypS
import Derived.Deep.QuietTactic
import Derived.BigQuiet
namespace Go.Proofs.Ytkjlmllhhfacfaa
open Go.RowKit
set_option linter.unusedVariables false
set_option linter.unusedSimpArgs false
set_option maxRecDepth 100000
set_option maxHeartbeats 2000000
open Classical in
noncomputable def eqB (T U : Ty) : Bool := decide (T = U)
theorem eqB_iff (T U : Ty) : eqB T U = true ↔ T = U := by simp [eqB]
theorem eqB_no {T U : Ty} (h : ¬ T = U) : eqB T U = false := by simp [eqB, h]
theorem eqB_yes {T U : Ty} (h : T = U) : eqB T U = true := by simp [eqB, h]
theorem take_eq_succ {α : Type} {l m : List α} {k : Nat} (hl : k < l.length) (hm : k < m.length) (h : l.take k = m.take k) (e : l[k] = m[k]) : l.take (k + 1) = m.take (k + 1) := by
  rw [List.take_succ_eq_append_getElem hl, List.take_succ_eq_append_getElem hm, h, e]
theorem keep12 {w0 w w' : World} {m m' n o n' o' : Nat} {x y a0 a1 a2 a3 a4 b0 b1 b2 b3 b4 : Value} (hm : m < w0.heap.size) (hm' : m' < w0.heap.size) (hn : n < w0.heap.size) (hn' : n' < w0.heap.size)
    (h : Below w0.heap.size w0 w ∧ w.cell? ⟨m, 3, none⟩ = some x ∧ w.cell? ⟨m', 3, none⟩ = some y ∧ (w.cell? ⟨n, o, none⟩ = some a0 ∧ w.cell? ⟨n, o + 1, none⟩ = some a1 ∧ w.cell? ⟨n, o + 2, none⟩ = some a2 ∧ w.cell? ⟨n, o + 3, none⟩ = some a3 ∧ w.cell? ⟨n, o + 4, none⟩ = some a4) ∧ w.cell? ⟨n', o', none⟩ = some b0 ∧ w.cell? ⟨n', o' + 1, none⟩ = some b1 ∧ w.cell? ⟨n', o' + 2, none⟩ = some b2 ∧ w.cell? ⟨n', o' + 3, none⟩ = some b3 ∧ w.cell? ⟨n', o' + 4, none⟩ = some b4)
    (hb : Below w.heap.size w w') : Below w0.heap.size w0 w' ∧ w'.cell? ⟨m, 3, none⟩ = some x ∧ w'.cell? ⟨m', 3, none⟩ = some y ∧ (w'.cell? ⟨n, o, none⟩ = some a0 ∧ w'.cell? ⟨n, o + 1, none⟩ = some a1 ∧ w'.cell? ⟨n, o + 2, none⟩ = some a2 ∧ w'.cell? ⟨n, o + 3, none⟩ = some a3 ∧ w'.cell? ⟨n, o + 4, none⟩ = some a4) ∧ w'.cell? ⟨n', o', none⟩ = some b0 ∧ w'.cell? ⟨n', o' + 1, none⟩ = some b1 ∧ w'.cell? ⟨n', o' + 2, none⟩ = some b2 ∧ w'.cell? ⟨n', o' + 3, none⟩ = some b3 ∧ w'.cell? ⟨n', o' + 4, none⟩ = some b4 := by
  obtain ⟨h0, h1, h2, h3, h4⟩ := h
  have hs := h0.size
  exact ⟨h0.trans (hb.mono hs), (keep_cell hb (by omega)).trans h1, (keep_cell hb (by omega)).trans h2, keep5 hb (by omega) h3, keep5 hb (by omega) h4⟩
theorem str_bne {x y : ByteArray} (h : ¬ x = y) : (x.toList == y.toList) = false := by
  rcases e : (x.toList == y.toList) with _ | _
  · rfl
  · exact absurd ((str_beq_iff x y).1 e) h
def AlikeR (T : Ty) : Prop := ∀ (U : Ty) (cs ds : List Value) (w : World), Rep w T cs → Rep w U ds → Calls Try.prog 19 #[.agg cs.toArray, .agg ds.toArray] w fun e w' => e = .returned (.bool (eqB T U)) ∧ Below w.heap.size w w'
def AlRel {α : Type} (l m : List α) (w : World) (i : Value) (H : Nat) (xs bs : Array Value) (wr : World) : Prop :=
  ∃ k : Nat, k ≤ l.length ∧ i = .int .i64 k ∧ l.take k = m.take k ∧ Below w.heap.size w wr ∧ Blk wr H 25 xs ∧ Blk wr (H + 1) 25 bs
theorem alike_step (d : Nat) (T : Ty) (hm : mayT (d + 1) T = true) (hn6 : T.ns.length ≤ 6) (IH : ∀ p ∈ T.ps, AlikeR p) : AlikeR T := by
  intro U cs ds w hr hu
  obtain ⟨An, cn, Ap, cp, rfl, hN, hP⟩ := hr.five
  obtain ⟨Bn, dn, Bp, dp, rfl, hN', hP'⟩ := hu.five
  have h7 := may_len hm
  clear hr hu
  have fin : ∀ b : Bool, (¬ T = U) → Hid (eqB T U = false) := fun _ h => eqB_no h
  by_cases e1 : T.k = U.k
  · have t1 : (T.k != U.k) = false := by simp [e1]
    have t1' : (T.k == U.k) = true := by simp [e1]
    by_cases e2 : T.nm = U.nm
    · have t2 : (T.nm.toList == U.nm.toList) = true := (str_beq_iff _ _).2 e2
      by_cases e3 : T.many = U.many
      · have t3 : (T.many == U.many) = true := by simp [e3]
        by_cases e4 : T.ps.length = U.ps.length
        · have t4 : (((T.ps.length : Nat) : Int) != ((U.ps.length : Nat) : Int)) = false := by simp [e4]
          have t4' : (T.ps.length != U.ps.length) = false := by simp [e4]
          by_cases e5 : T.ns.length = U.ns.length
          · have t5 : (((T.ns.length : Nat) : Int) != ((U.ns.length : Nat) : Int)) = false := by simp [e5]
            have t5' : (T.ns.length != U.ns.length) = false := by simp [e5]
            have E1 := Lib.hid e1
            have E2 := Lib.hid e2
            have E3 := Lib.hid e3
            have E4 := Lib.hid e4
            have E5 := Lib.hid e5
            clear e1 e2 e3 e4 e5 fin
            have k0 : Blk ((w.alloc (.cells #[.int .i64 T.k, .string T.nm, .slice An T.ns.length cn, .slice Ap T.ps.length cp, .bool T.many] 25)).alloc (.cells #[.int .i64 U.k, .string U.nm, .slice Bn U.ns.length dn, .slice Bp U.ps.length dp, .bool U.many] 25)) w.heap.size 25 #[.int .i64 T.k, .string T.nm, .slice An T.ns.length cn, .slice Ap T.ps.length cp, .bool T.many] := (Blk.new_ w _ _).alloc _
            have j0 : Blk ((w.alloc (.cells #[.int .i64 T.k, .string T.nm, .slice An T.ns.length cn, .slice Ap T.ps.length cp, .bool T.many] 25)).alloc (.cells #[.int .i64 U.k, .string U.nm, .slice Bn U.ns.length dn, .slice Bp U.ps.length dp, .bool U.many] 25)) (w.heap.size + 1) 25 #[.int .i64 U.k, .string U.nm, .slice Bn U.ns.length dn, .slice Bp U.ps.length dp, .bool U.many] := by have := Blk.new_ (w.alloc (.cells #[.int .i64 T.k, .string T.nm, .slice An T.ns.length cn, .slice Ap T.ps.length cp, .bool T.many] 25)) 25 #[.int .i64 U.k, .string U.nm, .slice Bn U.ns.length dn, .slice Bp U.ps.length dp, .bool U.many]; simpa using this
            go_enter Try.func19, Try.ntmps19
            go_wp2
            go_loopw [5] (fun i wr => AlRel T.ns U.ns w i w.heap.size #[.int .i64 T.k, .string T.nm, .slice An T.ns.length cn, .slice Ap T.ps.length cp, .bool T.many] #[.int .i64 U.k, .string U.nm, .slice Bn U.ns.length dn, .slice Bp U.ps.length dp, .bool U.many] wr) (fun i _ => T.ns.length - (intOf i).toNat)
            case atStart => exact ⟨0, Nat.zero_le _, rfl, by simp, by (repeat (first | with_reducible assumption | with_reducible exact Below.refl _ _ | (refine Below.setCell ?_ (by first | omega | (simp; done) | (simp; omega)) _) | (refine Below.drewN_ ?_ _) | (refine Below.drew ?_) | (refine Below.alloc ?_ (by first | omega | (simp; done) | (simp; omega)) _))), k0, j0⟩
            case round =>
              clear k0 j0
              obtain ⟨k, hk, rfl, hg, hb, k1, j1⟩ := hrel
              have q := k1.five
              have q' := j1.five
              by_cases hlt : k < T.ns.length
              · have hlt' : k < U.ns.length := by have := E5.out; omega
                obtain ⟨b, o, rfl, hbl, c0⟩ := hN.str hlt
                obtain ⟨b', o', rfl, hbl', c0'⟩ := hN'.str hlt'
                rw [← keep_cell hb hbl] at c0
                rw [← keep_cell hb hbl'] at c0'
                have hi : (k : Int) < (T.ns.length : Int) := by omega
                have hi' : (k : Int) < (U.ns.length : Int) := by omega
                have hi0 : (0 : Int) ≤ (k : Int) := by omega
                have hk6 : (k : Int) < 6 := by omega
                have HG := Lib.hid hg
                clear hg
                by_cases he : T.ns[k] = U.ns[k]
                · have t6 : (T.ns[k].toList == U.ns[k].toList) = true := (str_beq_iff _ _).2 he
                  have HT := Lib.hid (take_eq_succ hlt hlt' HG.out he)
                  clear he
                  go_wp2_with fail
                  go_quiet (fail)
                  go_wp2
                  go_roundw
                  case rel => exact ⟨k + 1, by omega, by go_num, HT.out, Below.drewN_ hb _, k1.drewN _, j1.drewN _⟩
                  case measure => (first | (simp [intOf]; done) | (simp [intOf]; omega))
                · have t6 : (T.ns[k].toList == U.ns[k].toList) = false := str_bne he
                  have hf : Hid (eqB T U = false) := eqB_no fun h => by subst h; exact he rfl
                  clear he
                  go_wp2_with fail
                  go_quiet (fail)
                  go_wp2
                  go_ret
                  exact ⟨by rw [hf.out]; rfl, Below.drewN_ hb _⟩
              · have hi : ¬ (k : Int) < (T.ns.length : Int) := by omega
                have hns : Hid (T.ns = U.ns) := by
                  show _ = _
                  have h1 := hg
                  rw [List.take_of_length_le (by omega), List.take_of_length_le (by have := E5.out; omega)] at h1
                  exact h1
                clear hg
                obtain ⟨w1, rfl⟩ : ∃ w1 : World, w1 = wr := ⟨_, rfl⟩
                go_wp2
                go_loopw [6] (fun i wr => AlRel T.ps U.ps w i w.heap.size #[.int .i64 T.k, .string T.nm, .slice An T.ns.length cn, .slice Ap T.ps.length cp, .bool T.many] #[.int .i64 U.k, .string U.nm, .slice Bn U.ns.length dn, .slice Bp U.ps.length dp, .bool U.many] wr) (fun i _ => T.ps.length - (intOf i).toNat)
                case atStart => exact ⟨0, Nat.zero_le _, rfl, by simp, hb, k1, j1⟩
                case round =>
                  clear k1 j1 hb q q' hlt hi hk
                  obtain ⟨k, hk, rfl, hg, hb, k1, j1⟩ := hrel
                  have q := k1.five
                  have q' := j1.five
                  by_cases hlt : k < T.ps.length
                  · have hlt' : k < U.ps.length := by have := E4.out; omega
                    obtain ⟨b, o, pn, pc, pp, pd, rfl, hbl, hrep, hc⟩ := (RepL.keep hb T.ps _ hP).five hlt
                    obtain ⟨b', o', un, uc, up, ud, rfl, hbl', hrep', hc'⟩ := (RepL.keep hb U.ps _ hP').five hlt'
                    have hi : (k : Int) < (T.ps.length : Int) := by omega
                    have hi' : (k : Int) < (U.ps.length : Int) := by omega
                    have hi0 : (0 : Int) ≤ (k : Int) := by omega
                    have hk7 : (k : Int) < 7 := by omega
                    have hIH := IH _ (List.getElem_mem hlt) U.ps[k]
                    have HY : Hid (T.ps[k] = U.ps[k] → T.ps.take (k + 1) = U.ps.take (k + 1)) := fun he => take_eq_succ hlt hlt' hg he
                    have HNO : Hid (¬ T.ps[k] = U.ps[k] → eqB T U = false) := fun he => eqB_no fun h => by subst h; exact he rfl
                    have hl0 : w.heap.size < wr.heap.size := k1.lt
                    have hl1 : w.heap.size + 1 < wr.heap.size := j1.lt
                    clear hg
                    generalize T.ps[k] = p at *
                    generalize U.ps[k] = u at *
                    by_cases he : p = u
                    · have HT := Lib.hid (HY.out he)
                      have HAL : Hid (∀ W, (Below wr.heap.size wr W ∧ W.cell? ⟨w.heap.size, 3, none⟩ = some (.slice (some ⟨b, o, none⟩) T.ps.length cp) ∧ W.cell? ⟨w.heap.size + 1, 3, none⟩ = some (.slice (some ⟨b', o', none⟩) U.ps.length dp) ∧ (W.cell? ⟨b, o + k * 5, none⟩ = some (.int .i64 p.k) ∧ W.cell? ⟨b, o + k * 5 + 1, none⟩ = some (.string p.nm) ∧ W.cell? ⟨b, o + k * 5 + 2, none⟩ = some (.slice pn p.ns.length pc) ∧ W.cell? ⟨b, o + k * 5 + 3, none⟩ = some (.slice pp p.ps.length pd) ∧ W.cell? ⟨b, o + k * 5 + 4, none⟩ = some (.bool p.many)) ∧ W.cell? ⟨b', o' + k * 5, none⟩ = some (.int .i64 u.k) ∧ W.cell? ⟨b', o' + k * 5 + 1, none⟩ = some (.string u.nm) ∧ W.cell? ⟨b', o' + k * 5 + 2, none⟩ = some (.slice un u.ns.length uc) ∧ W.cell? ⟨b', o' + k * 5 + 3, none⟩ = some (.slice up u.ps.length ud) ∧ W.cell? ⟨b', o' + k * 5 + 4, none⟩ = some (.bool u.many)) → Calls Try.prog 19 #[.agg #[.int .i64 p.k, .string p.nm, .slice pn p.ns.length pc, .slice pp p.ps.length pd, .bool p.many], .agg #[.int .i64 u.k, .string u.nm, .slice un u.ns.length uc, .slice up u.ps.length ud, .bool u.many]] W fun e w' => e = .returned (.bool true) ∧ Below W.heap.size W w') := fun W hW => by
                        have h := hIH _ _ W (Rep.keep hW.1 _ _ hrep) (Rep.keep hW.1 _ _ hrep')
                        rw [eqB_yes he] at h
                        exact h
                      clear he hIH HY HNO
                      go_wp2_with fail
                      go_region_held3 (fun W => Below wr.heap.size wr W ∧ W.cell? ⟨w.heap.size, 3, none⟩ = some (.slice (some ⟨b, o, none⟩) T.ps.length cp) ∧ W.cell? ⟨w.heap.size + 1, 3, none⟩ = some (.slice (some ⟨b', o', none⟩) U.ps.length dp) ∧ (W.cell? ⟨b, o + k * 5, none⟩ = some (.int .i64 p.k) ∧ W.cell? ⟨b, o + k * 5 + 1, none⟩ = some (.string p.nm) ∧ W.cell? ⟨b, o + k * 5 + 2, none⟩ = some (.slice pn p.ns.length pc) ∧ W.cell? ⟨b, o + k * 5 + 3, none⟩ = some (.slice pp p.ps.length pd) ∧ W.cell? ⟨b, o + k * 5 + 4, none⟩ = some (.bool p.many)) ∧ W.cell? ⟨b', o' + k * 5, none⟩ = some (.int .i64 u.k) ∧ W.cell? ⟨b', o' + k * 5 + 1, none⟩ = some (.string u.nm) ∧ W.cell? ⟨b', o' + k * 5 + 2, none⟩ = some (.slice un u.ns.length uc) ∧ W.cell? ⟨b', o' + k * 5 + 3, none⟩ = some (.slice up u.ps.length ud) ∧ W.cell? ⟨b', o' + k * 5 + 4, none⟩ = some (.bool u.many)) (first | exact ⟨(Below.refl _ _).drew, q.2.2.2.1, q'.2.2.2.1, hc, hc'⟩ | exact keep12 hl0 hl1 hbl hbl' (by assumption) hbq | exact ⟨Below.drew (And.left (by assumption)), And.right (by assumption)⟩ | go_keep) ((go_at_call 19; ((with_reducible refine (HAL.out _ (by assumption)).mono ?_); rintro e w' ⟨rfl, hbq⟩)))
                      all_goals
                        rename_i hh
                        have hbf := hb.trans (hh.1.mono hb.size)
                        have k2 := k1.below hh.1
                        have j2 := j1.below hh.1
                        clear q q' hc hc'
                        go_wp2
                        go_roundw
                        case rel => exact ⟨k + 1, by omega, by go_num, HT.out, hbf, k2, j2⟩
                        case measure => (first | (simp [intOf]; done) | (simp [intOf]; omega))
                    · have hf := Lib.hid (HNO.out he)
                      have HAL : Hid (∀ W, (Below wr.heap.size wr W ∧ W.cell? ⟨w.heap.size, 3, none⟩ = some (.slice (some ⟨b, o, none⟩) T.ps.length cp) ∧ W.cell? ⟨w.heap.size + 1, 3, none⟩ = some (.slice (some ⟨b', o', none⟩) U.ps.length dp) ∧ (W.cell? ⟨b, o + k * 5, none⟩ = some (.int .i64 p.k) ∧ W.cell? ⟨b, o + k * 5 + 1, none⟩ = some (.string p.nm) ∧ W.cell? ⟨b, o + k * 5 + 2, none⟩ = some (.slice pn p.ns.length pc) ∧ W.cell? ⟨b, o + k * 5 + 3, none⟩ = some (.slice pp p.ps.length pd) ∧ W.cell? ⟨b, o + k * 5 + 4, none⟩ = some (.bool p.many)) ∧ W.cell? ⟨b', o' + k * 5, none⟩ = some (.int .i64 u.k) ∧ W.cell? ⟨b', o' + k * 5 + 1, none⟩ = some (.string u.nm) ∧ W.cell? ⟨b', o' + k * 5 + 2, none⟩ = some (.slice un u.ns.length uc) ∧ W.cell? ⟨b', o' + k * 5 + 3, none⟩ = some (.slice up u.ps.length ud) ∧ W.cell? ⟨b', o' + k * 5 + 4, none⟩ = some (.bool u.many)) → Calls Try.prog 19 #[.agg #[.int .i64 p.k, .string p.nm, .slice pn p.ns.length pc, .slice pp p.ps.length pd, .bool p.many], .agg #[.int .i64 u.k, .string u.nm, .slice un u.ns.length uc, .slice up u.ps.length ud, .bool u.many]] W fun e w' => e = .returned (.bool false) ∧ Below W.heap.size W w') := fun W hW => by
                        have h := hIH _ _ W (Rep.keep hW.1 _ _ hrep) (Rep.keep hW.1 _ _ hrep')
                        rw [eqB_no he] at h
                        exact h
                      clear he hIH HY HNO
                      go_wp2_with fail
                      go_region_held3 (fun W => Below wr.heap.size wr W ∧ W.cell? ⟨w.heap.size, 3, none⟩ = some (.slice (some ⟨b, o, none⟩) T.ps.length cp) ∧ W.cell? ⟨w.heap.size + 1, 3, none⟩ = some (.slice (some ⟨b', o', none⟩) U.ps.length dp) ∧ (W.cell? ⟨b, o + k * 5, none⟩ = some (.int .i64 p.k) ∧ W.cell? ⟨b, o + k * 5 + 1, none⟩ = some (.string p.nm) ∧ W.cell? ⟨b, o + k * 5 + 2, none⟩ = some (.slice pn p.ns.length pc) ∧ W.cell? ⟨b, o + k * 5 + 3, none⟩ = some (.slice pp p.ps.length pd) ∧ W.cell? ⟨b, o + k * 5 + 4, none⟩ = some (.bool p.many)) ∧ W.cell? ⟨b', o' + k * 5, none⟩ = some (.int .i64 u.k) ∧ W.cell? ⟨b', o' + k * 5 + 1, none⟩ = some (.string u.nm) ∧ W.cell? ⟨b', o' + k * 5 + 2, none⟩ = some (.slice un u.ns.length uc) ∧ W.cell? ⟨b', o' + k * 5 + 3, none⟩ = some (.slice up u.ps.length ud) ∧ W.cell? ⟨b', o' + k * 5 + 4, none⟩ = some (.bool u.many)) (first | exact ⟨(Below.refl _ _).drew, q.2.2.2.1, q'.2.2.2.1, hc, hc'⟩ | exact keep12 hl0 hl1 hbl hbl' (by assumption) hbq | exact ⟨Below.drew (And.left (by assumption)), And.right (by assumption)⟩ | go_keep) ((go_at_call 19; ((with_reducible refine (HAL.out _ (by assumption)).mono ?_); rintro e w' ⟨rfl, hbq⟩)))
                      all_goals
                        rename_i hh
                        have hbf := hb.trans (hh.1.mono hb.size)
                        clear q q' hc hc'
                        go_wp2
                        go_ret
                        exact ⟨by rw [hf.out]; rfl, hbf⟩
                  · have hi : ¬ (k : Int) < (T.ps.length : Int) := by omega
                    have hy : Hid (eqB T U = true) := by
                      show _ = _
                      rw [List.take_of_length_le (by omega), List.take_of_length_le (by have := E4.out; omega)] at hg
                      exact eqB_yes (ty_ext E1.out E2.out hns.out hg E3.out)
                    clear hg
                    go_wp2
                    go_ret
                    exact ⟨by rw [hy.out]; rfl, hb⟩
          · have t5 : (((T.ns.length : Nat) : Int) != ((U.ns.length : Nat) : Int)) = true := by simp; omega
            have t5' : (T.ns.length != U.ns.length) = true := by simp; omega
            have hf := fin true (fun h => e5 (by rw [h]))
            clear e1 e2 e3 e4 e5 fin
            go_enter Try.func19, Try.ntmps19
            go_wp2
            go_ret
            exact ⟨by rw [hf.out]; rfl, by (repeat (first | with_reducible assumption | with_reducible exact Below.refl _ _ | (refine Below.setCell ?_ (by first | omega | (simp; done) | (simp; omega)) _) | (refine Below.drewN_ ?_ _) | (refine Below.drew ?_) | (refine Below.alloc ?_ (by first | omega | (simp; done) | (simp; omega)) _)))⟩
        · have t4 : (((T.ps.length : Nat) : Int) != ((U.ps.length : Nat) : Int)) = true := by simp; omega
          have t4' : (T.ps.length != U.ps.length) = true := by simp; omega
          have hf := fin true (fun h => e4 (by rw [h]))
          clear e1 e2 e3 e4 fin
          go_enter Try.func19, Try.ntmps19
          go_wp2
          go_ret
          exact ⟨by rw [hf.out]; rfl, by (repeat (first | with_reducible assumption | with_reducible exact Below.refl _ _ | (refine Below.setCell ?_ (by first | omega | (simp; done) | (simp; omega)) _) | (refine Below.drewN_ ?_ _) | (refine Below.drew ?_) | (refine Below.alloc ?_ (by first | omega | (simp; done) | (simp; omega)) _)))⟩
      · have t3 : (T.many == U.many) = false := by simpa using e3
        have hf := fin true (fun h => e3 (by rw [h]))
        clear e1 e2 e3 fin
        go_enter Try.func19, Try.ntmps19
        go_wp2
        go_ret
        exact ⟨by rw [hf.out]; rfl, by (repeat (first | with_reducible assumption | with_reducible exact Below.refl _ _ | (refine Below.setCell ?_ (by first | omega | (simp; done) | (simp; omega)) _) | (refine Below.drewN_ ?_ _) | (refine Below.drew ?_) | (refine Below.alloc ?_ (by first | omega | (simp; done) | (simp; omega)) _)))⟩
    · have t2 : (T.nm.toList == U.nm.toList) = false := str_bne e2
      have hf := fin true (fun h => e2 (by rw [h]))
      clear e1 e2 fin
      go_enter Try.func19, Try.ntmps19
      go_wp2
      go_ret
      exact ⟨by rw [hf.out]; rfl, by (repeat (first | with_reducible assumption | with_reducible exact Below.refl _ _ | (refine Below.setCell ?_ (by first | omega | (simp; done) | (simp; omega)) _) | (refine Below.drewN_ ?_ _) | (refine Below.drew ?_) | (refine Below.alloc ?_ (by first | omega | (simp; done) | (simp; omega)) _)))⟩
  · have t1 : (T.k != U.k) = true := by simpa using e1
    have hf := fin true (fun h => e1 (by rw [h]))
    clear e1 fin
    go_enter Try.func19, Try.ntmps19
    go_wp2
    go_ret
    exact ⟨by rw [hf.out]; rfl, by (repeat (first | with_reducible assumption | with_reducible exact Below.refl _ _ | (refine Below.setCell ?_ (by first | omega | (simp; done) | (simp; omega)) _) | (refine Below.drewN_ ?_ _) | (refine Below.drew ?_) | (refine Below.alloc ?_ (by first | omega | (simp; done) | (simp; omega)) _)))⟩
end Go.Proofs.Ytkjlmllhhfacfaa
