/- The walk of the law TypesTell. -/
import Derived.Test.YtkjlmllhhfacfaaRefD
import Derived.Test.YtkjlmllhhfacfaaRefE
import Derived.Test.YtkjlmllhhfacfaaRefF
import Derived.Test.YtkjlmllhhfacfaaRefG
namespace Go.Proofs.Ytkjlmllhhfacfaa
open Go.RowKit
set_option linter.unusedVariables false
set_option linter.unusedSimpArgs false
set_option maxRecDepth 100000
set_option maxHeartbeats 4000000
theorem alikeR_all : ∀ (d : Nat) (T : Ty), mayT d T = true → AlikeR T
  | 0, T, h => by cases h
  | d + 1, T, h => alike_step d T h (may_names h) fun p hp => alikeR_all d p (may_parts h p hp)
theorem placesS_any (T : Ty) (cs : List Value) (w : World) (hr : Rep w T cs) (hm : ML w) : Calls Try.prog 13 #[.agg cs.toArray] w fun e w' => SliceInts (placesT T) e w' ∧ Below w.heap.size w w' := places_any T cs w hr hm
def IntsRel (l : List Nat) (w : World) (i : Value) (wr : World) : Prop := ∃ k : Nat, k ≤ l.length ∧ i = .int .i64 k ∧ Below w.heap.size w wr
theorem Row.int {w : World} {A : Option Addr} {l : List Nat} (h : Row w A (ints l)) {k : Nat} (hk : k < l.length) : ∃ b o, A = some ⟨b, o, none⟩ ∧ b < w.heap.size ∧ w.cell? ⟨b, o + k, none⟩ = some (.int .i64 (l[k] : Int)) := by
  obtain ⟨b, o, hA, hlt, hc⟩ := h.at_ (fun e => by have := congrArg List.length e; simp [ints] at this; subst this; simp at hk)
  exact ⟨b, o, hA, hlt, hc k _ (by simp [ints, hk])⟩
theorem intsSame_any (A A' : Option Addr) (c c' : Nat) (l : List Nat) (w : World) (hr : Row w A (ints l)) (hr' : Row w A' (ints l)) (hn : l.length ≤ 100) :
    Calls Try.prog 18 #[.slice A l.length c, .slice A' l.length c'] w fun e w' => e = .returned (.bool true) ∧ Below w.heap.size w w' := by
  go_enter Try.func18, Try.ntmps18
  go_wp2
  go_loopw [5] (fun i wr => IntsRel l w i wr) (fun i _ => l.length - (intOf i).toNat)
  case atStart => exact ⟨0, Nat.zero_le _, rfl, Below.refl _ _⟩
  case round =>
    obtain ⟨k, hk, rfl, hb⟩ := hrel
    by_cases hlt : k < l.length
    · obtain ⟨b, o, rfl, hbl, c0⟩ := hr.int hlt
      obtain ⟨b', o', rfl, hbl', c0'⟩ := hr'.int hlt
      rw [← keep_cell hb hbl] at c0
      rw [← keep_cell hb hbl'] at c0'
      have hi : (k : Int) < (l.length : Int) := by omega
      have hi0 : (0 : Int) ≤ (k : Int) := by omega
      have hk6 : (k : Int) < 100 := by omega
      generalize l[k] = x at *
      have t : ((x : Int) != (x : Int)) = false := by simp
      go_wp2_with fail
      go_quiet (fail)
      go_wp2
      go_roundw
      case rel => exact ⟨k + 1, by omega, by go_num, Below.drewN_ hb _⟩
      case measure => (first | (simp [intOf]; done) | (simp [intOf]; omega))
    · have hi : ¬ (k : Int) < (l.length : Int) := by omega
      go_wp2
      go_ret
      exact ⟨rfl, hb⟩
theorem tell_no (T U : Ty) (hmy : may T = false) (xs ys : List Value) (w : World) (hT : Rep w T xs) (hU : Rep w U ys) (hm : ML w) :
    Calls Try.prog 4 #[.agg xs.toArray, .agg ys.toArray] w fun e w' => e = .returned (.bool true) ∧ Below w.heap.size w w' := by
  have HWD : Hid (wordsT T = 0) := by show _ = _; simp [wordsT, hmy]
  have HEV : Hid (evenT T = false) := by show _ = _; simp [evenT, hmy]
  have HTX : Hid (textB T = ⟨#[]⟩) := textB_no hmy
  have HSM : Hid (sameB T U = false) := by
    show _ = _
    rcases h : sameB T U with _ | _
    · rfl
    · rw [((sameB_iff _ _).1 h).1] at hmy; cases hmy
  have HPL : Hid (placesT T = []) := by show _ = _; simp [placesT, hmy]
  have hT0 := hT
  have hU0 := hU
  obtain ⟨An, cn, Ap, cp, rfl, -, -⟩ := hT.five
  obtain ⟨Bn, dn, Bp, dp, rfl, -, -⟩ := hU.five
  clear hT hU
  have HT := Lib.hid (fun (W : World) (h : Below w.heap.size w W) => Rep.keep h _ _ hT0)
  have HU := Lib.hid (fun (W : World) (h : Below w.heap.size w W) => Rep.keep h _ _ hU0)
  have HM := Lib.hid (fun (W : World) (h : Below w.heap.size w W) => hm.keep h)
  clear hT0 hU0
  have HB : Hid (Below w.heap.size w ((w.alloc (.cells #[.int .i64 T.k, .string T.nm, .slice An T.ns.length cn, .slice Ap T.ps.length cp, .bool T.many] 25)).alloc (.cells #[.int .i64 U.k, .string U.nm, .slice Bn U.ns.length dn, .slice Bp U.ps.length dp, .bool U.many] 25))) := by show Below _ _ _; (repeat (first | with_reducible assumption | with_reducible exact Below.refl _ _ | (refine Below.setCell ?_ (by first | omega | (simp; done) | (simp; omega)) _) | (refine Below.drewN_ ?_ _) | (refine Below.drew ?_) | (refine Below.alloc ?_ (by first | omega | (simp; done) | (simp; omega)) _)))
  have ka : Blk ((w.alloc (.cells #[.int .i64 T.k, .string T.nm, .slice An T.ns.length cn, .slice Ap T.ps.length cp, .bool T.many] 25)).alloc (.cells #[.int .i64 U.k, .string U.nm, .slice Bn U.ns.length dn, .slice Bp U.ps.length dp, .bool U.many] 25)) w.heap.size 25 #[.int .i64 T.k, .string T.nm, .slice An T.ns.length cn, .slice Ap T.ps.length cp, .bool T.many] := (Blk.new_ w _ _).alloc _
  have kb : Blk ((w.alloc (.cells #[.int .i64 T.k, .string T.nm, .slice An T.ns.length cn, .slice Ap T.ps.length cp, .bool T.many] 25)).alloc (.cells #[.int .i64 U.k, .string U.nm, .slice Bn U.ns.length dn, .slice Bp U.ps.length dp, .bool U.many] 25)) (w.heap.size + 1) 25 #[.int .i64 U.k, .string U.nm, .slice Bn U.ns.length dn, .slice Bp U.ps.length dp, .bool U.many] := by have := Blk.new_ (w.alloc (.cells #[.int .i64 T.k, .string T.nm, .slice An T.ns.length cn, .slice Ap T.ps.length cp, .bool T.many] 25)) 25 #[.int .i64 U.k, .string U.nm, .slice Bn U.ns.length dn, .slice Bp U.ps.length dp, .bool U.many]; simpa using this
  have qa : True := trivial
  have qb : True := trivial
  go_enter Try.func4, Try.ntmps4
  go_wp2_with fail
  refine (may_any T _ _ (HT.out _ HB.out) (HM.out _ HB.out)).mono ?_
  rintro e W1 ⟨rfl, hb⟩
  rw [hmy]
  have HB := Lib.hid (HB.out.trans (hb.mono HB.out.size))
  have ka := ka.below hb
  have kb := kb.below hb
  clear hb qa qb
  have qa := ka.five
  have qb := kb.five
  go_wp2_with fail
  refine (mayRef_any T _ _ (HT.out _ HB.out)).mono ?_
  rintro e W2 ⟨rfl, hb⟩
  rw [hmy]
  have HB := Lib.hid (HB.out.trans (hb.mono HB.out.size))
  have ka := ka.below hb
  have kb := kb.below hb
  clear hb qa qb
  have qa := ka.five
  have qb := kb.five
  go_wp2_with fail
  refine (words_any T _ _ (HT.out _ HB.out) (HM.out _ HB.out)).mono ?_
  rintro e W3 ⟨rfl, hb⟩
  rw [HWD.out]
  have HB := Lib.hid (HB.out.trans (hb.mono HB.out.size))
  have ka := ka.below hb
  have kb := kb.below hb
  clear hb qa qb
  have qa := ka.five
  have qb := kb.five
  go_wp2_with fail
  refine (even_any T _ _ (HT.out _ HB.out) (HM.out _ HB.out)).mono ?_
  rintro e W4 ⟨rfl, hb⟩
  rw [HEV.out]
  have HB := Lib.hid (HB.out.trans (hb.mono HB.out.size))
  have ka := ka.below hb
  have kb := kb.below hb
  clear hb qa qb
  have qa := ka.five
  have qb := kb.five
  go_wp2_with fail
  refine (placesS_any T _ _ (HT.out _ HB.out) (HM.out _ HB.out)).mono ?_
  rintro e W5 ⟨hpl, hb⟩
  rw [HPL.out] at hpl
  obtain ⟨A, c, rfl, -⟩ := hpl
  have HB := Lib.hid (HB.out.trans (hb.mono HB.out.size))
  have ka := ka.below hb
  have kb := kb.below hb
  clear hb qa qb
  have qa := ka.five
  have qb := kb.five
  go_wp2_with fail
  refine (text_any T _ _ (HT.out _ HB.out) (HM.out _ HB.out)).mono ?_
  rintro e W6 ⟨rfl, hb⟩
  rw [HTX.out]
  have HB := Lib.hid (HB.out.trans (hb.mono HB.out.size))
  have ka := ka.below hb
  have kb := kb.below hb
  clear hb qa qb
  have qa := ka.five
  have qb := kb.five
  go_wp2_with fail
  refine (same_any T U _ _ _ (HT.out _ HB.out) (HU.out _ HB.out) (HM.out _ HB.out)).mono ?_
  rintro e W7 ⟨rfl, hb⟩
  rw [HSM.out]
  have HB := Lib.hid (HB.out.trans (hb.mono HB.out.size))
  have ka := ka.below hb
  have kb := kb.below hb
  clear hb qa qb
  have qa := ka.five
  have qb := kb.five
  go_wp2
  go_ret
  exact ⟨rfl, HB.out⟩
theorem tell_yes (T U : Ty) (hmy : may T = true) (xs ys : List Value) (w : World) (hT : Rep w T xs) (hU : Rep w U ys) (hm : ML w) :
    Calls Try.prog 4 #[.agg xs.toArray, .agg ys.toArray] w fun e w' => e = .returned (.bool true) ∧ Below w.heap.size w w' := by
  have HWD : Hid (wordsT T = ((sizeT T).1 : Int)) := by show _ = _; simp [wordsT, hmy]
  have HEV : Hid (evenT T = (sizeT T).2) := by show _ = _; simp [evenT, hmy]
  have HTX : Hid (textB T = tB T) := textB_yes hmy
  have HPN : Hid ((placesT T).length ≤ 100) := by
    show _ ≤ _
    have := may_len hmy
    unfold placesT
    split <;> simp
    omega
  have HSR : Hid (∀ (cs : List Value) (w : World), Rep w T cs → Calls Try.prog 14 #[.agg cs.toArray] w fun e w' => e = .returned (.int .i64 ((sizeT T).1 : Int)) ∧ Below w.heap.size w w') := sizeR_all 4 T hmy
  have HER : Hid (∀ (cs : List Value) (w : World), Rep w T cs → Calls Try.prog 15 #[.agg cs.toArray] w fun e w' => e = .returned (.bool (sizeT T).2) ∧ Below w.heap.size w w') := even_all 4 T hmy
  have HTR : Hid (∀ (cs : List Value) (w : World), Rep w T cs → Calls Try.prog 16 #[.agg cs.toArray] w fun e w' => e = .returned (.string (tB T)) ∧ Below w.heap.size w w') := textR_all 4 (by omega) T hmy
  have HAL : Hid (∀ (U : Ty) (cs ds : List Value) (w : World), Rep w T cs → Rep w U ds → Calls Try.prog 19 #[.agg cs.toArray, .agg ds.toArray] w fun e w' => e = .returned (.bool (eqB T U)) ∧ Below w.heap.size w w') := alikeR_all 4 T hmy
  have HMY := Lib.hid hmy
  have hT0 := hT
  have hU0 := hU
  obtain ⟨An, cn, Ap, cp, rfl, -, -⟩ := hT.five
  obtain ⟨Bn, dn, Bp, dp, rfl, -, -⟩ := hU.five
  clear hT hU
  have HT := Lib.hid (fun (W : World) (h : Below w.heap.size w W) => Rep.keep h _ _ hT0)
  have HU := Lib.hid (fun (W : World) (h : Below w.heap.size w W) => Rep.keep h _ _ hU0)
  have HM := Lib.hid (fun (W : World) (h : Below w.heap.size w W) => hm.keep h)
  clear hT0 hU0
  have HB : Hid (Below w.heap.size w ((w.alloc (.cells #[.int .i64 T.k, .string T.nm, .slice An T.ns.length cn, .slice Ap T.ps.length cp, .bool T.many] 25)).alloc (.cells #[.int .i64 U.k, .string U.nm, .slice Bn U.ns.length dn, .slice Bp U.ps.length dp, .bool U.many] 25))) := by show Below _ _ _; (repeat (first | with_reducible assumption | with_reducible exact Below.refl _ _ | (refine Below.setCell ?_ (by first | omega | (simp; done) | (simp; omega)) _) | (refine Below.drewN_ ?_ _) | (refine Below.drew ?_) | (refine Below.alloc ?_ (by first | omega | (simp; done) | (simp; omega)) _)))
  have ka : Blk ((w.alloc (.cells #[.int .i64 T.k, .string T.nm, .slice An T.ns.length cn, .slice Ap T.ps.length cp, .bool T.many] 25)).alloc (.cells #[.int .i64 U.k, .string U.nm, .slice Bn U.ns.length dn, .slice Bp U.ps.length dp, .bool U.many] 25)) w.heap.size 25 #[.int .i64 T.k, .string T.nm, .slice An T.ns.length cn, .slice Ap T.ps.length cp, .bool T.many] := (Blk.new_ w _ _).alloc _
  have kb : Blk ((w.alloc (.cells #[.int .i64 T.k, .string T.nm, .slice An T.ns.length cn, .slice Ap T.ps.length cp, .bool T.many] 25)).alloc (.cells #[.int .i64 U.k, .string U.nm, .slice Bn U.ns.length dn, .slice Bp U.ps.length dp, .bool U.many] 25)) (w.heap.size + 1) 25 #[.int .i64 U.k, .string U.nm, .slice Bn U.ns.length dn, .slice Bp U.ps.length dp, .bool U.many] := by have := Blk.new_ (w.alloc (.cells #[.int .i64 T.k, .string T.nm, .slice An T.ns.length cn, .slice Ap T.ps.length cp, .bool T.many] 25)) 25 #[.int .i64 U.k, .string U.nm, .slice Bn U.ns.length dn, .slice Bp U.ps.length dp, .bool U.many]; simpa using this
  have qa : True := trivial
  have qb : True := trivial
  go_enter Try.func4, Try.ntmps4
  go_wp2_with fail
  refine (may_any T _ _ (HT.out _ HB.out) (HM.out _ HB.out)).mono ?_
  rintro e W1 ⟨rfl, hb⟩
  rw [hmy]
  have HB := Lib.hid (HB.out.trans (hb.mono HB.out.size))
  have ka := ka.below hb
  have kb := kb.below hb
  clear hb qa qb
  have qa := ka.five
  have qb := kb.five
  go_wp2_with fail
  refine (mayRef_any T _ _ (HT.out _ HB.out)).mono ?_
  rintro e W2 ⟨rfl, hb⟩
  rw [hmy]
  have HB := Lib.hid (HB.out.trans (hb.mono HB.out.size))
  have ka := ka.below hb
  have kb := kb.below hb
  clear hb qa qb
  have qa := ka.five
  have qb := kb.five
  go_wp2_with fail
  refine (words_any T _ _ (HT.out _ HB.out) (HM.out _ HB.out)).mono ?_
  rintro e W3 ⟨rfl, hb⟩
  rw [HWD.out]
  have HB := Lib.hid (HB.out.trans (hb.mono HB.out.size))
  have ka := ka.below hb
  have kb := kb.below hb
  clear hb qa qb
  have qa := ka.five
  have qb := kb.five
  go_wp2_with fail
  refine (even_any T _ _ (HT.out _ HB.out) (HM.out _ HB.out)).mono ?_
  rintro e W4 ⟨rfl, hb⟩
  rw [HEV.out]
  have HB := Lib.hid (HB.out.trans (hb.mono HB.out.size))
  have ka := ka.below hb
  have kb := kb.below hb
  clear hb qa qb
  have qa := ka.five
  have qb := kb.five
  go_wp2_with fail
  refine (placesS_any T _ _ (HT.out _ HB.out) (HM.out _ HB.out)).mono ?_
  rintro e W5 ⟨hpl, hb⟩
  obtain ⟨A, c, rfl, hrow⟩ := hpl
  have HB := Lib.hid (HB.out.trans (hb.mono HB.out.size))
  have ka := ka.below hb
  have kb := kb.below hb
  clear hb qa qb
  have qa := ka.five
  have qb := kb.five
  go_wp2_with fail
  refine (text_any T _ _ (HT.out _ HB.out) (HM.out _ HB.out)).mono ?_
  rintro e W6 ⟨rfl, hb⟩
  rw [HTX.out]
  have HB := Lib.hid (HB.out.trans (hb.mono HB.out.size))
  have ka := ka.below hb
  have kb := kb.below hb
  have hrow := hrow.keep hb
  clear hb qa qb
  have qa := ka.five
  have qb := kb.five
  go_wp2_with fail
  refine (same_any T U _ _ _ (HT.out _ HB.out) (HU.out _ HB.out) (HM.out _ HB.out)).mono ?_
  rintro e W7 ⟨rfl, hb⟩
  have HB := Lib.hid (HB.out.trans (hb.mono HB.out.size))
  have ka := ka.below hb
  have kb := kb.below hb
  have hrow := hrow.keep hb
  clear hb qa qb
  have qa := ka.five
  have qb := kb.five
  generalize (sizeT T).1 = z at *
  generalize (sizeT T).2 = ev at *
  go_wp2_with fail
  refine (HSR.out _ _ (HT.out _ HB.out)).mono ?_
  rintro e W8 ⟨rfl, hb⟩
  have HB := Lib.hid (HB.out.trans (hb.mono HB.out.size))
  have ka := ka.below hb
  have kb := kb.below hb
  have hrow := hrow.keep hb
  clear hb qa qb
  have qa := ka.five
  have qb := kb.five
  go_wp2_with fail
  refine (HER.out _ _ (HT.out _ HB.out)).mono ?_
  rintro e W9 ⟨rfl, hb⟩
  have HB := Lib.hid (HB.out.trans (hb.mono HB.out.size))
  have ka := ka.below hb
  have kb := kb.below hb
  have hrow := hrow.keep hb
  clear hb qa qb
  have qa := ka.five
  have qb := kb.five
  go_wp2_with fail
  refine (HTR.out _ _ (HT.out _ HB.out)).mono ?_
  rintro e W10 ⟨rfl, hb⟩
  have HB := Lib.hid (HB.out.trans (hb.mono HB.out.size))
  have ka := ka.below hb
  have kb := kb.below hb
  have hrow := hrow.keep hb
  clear hb qa qb
  have qa := ka.five
  have qb := kb.five
  generalize tB T = tx at *
  go_wp2_with fail
  refine (placesR_any T _ _ (HT.out _ HB.out) HMY.out).mono ?_
  rintro e W11 ⟨hpl, hb⟩
  obtain ⟨A', c', rfl, hrow'⟩ := hpl
  have HB := Lib.hid (HB.out.trans (hb.mono HB.out.size))
  have ka := ka.below hb
  have kb := kb.below hb
  have hrow := hrow.keep hb
  clear hb qa qb
  have qa := ka.five
  have qb := kb.five
  go_wp2_with fail
  refine (intsSame_any A A' c c' (placesT T) _ hrow hrow' HPN.out).mono ?_
  rintro e W12 ⟨rfl, hb⟩
  have HB := Lib.hid (HB.out.trans (hb.mono HB.out.size))
  have ka := ka.below hb
  have kb := kb.below hb
  clear hb qa qb
  have qa := ka.five
  have qb := kb.five
  rcases hmu : may U with _ | _
  · have hs : sameB T U = false := by
      rcases h : sameB T U with _ | _
      · rfl
      · obtain ⟨h1, h2⟩ := (sameB_iff _ _).1 h
        rw [← h2, h1] at hmu; cases hmu
    rw [hs]
    go_wp2_with fail
    refine (mayRef_any U _ _ (HU.out _ HB.out)).mono ?_
    rintro e W13 ⟨rfl, hb⟩
    rw [hmu]
    have HB := Lib.hid (HB.out.trans (hb.mono HB.out.size))
    have ka := ka.below hb
    have kb := kb.below hb
    clear hb qa qb
    have qa := ka.five
    have qb := kb.five
    go_wp2
    go_ret
    exact ⟨by first | rfl | simp, HB.out⟩
  · have hs : eqB T U = sameB T U := by
      rw [Bool.eq_iff_iff, eqB_iff, sameB_iff]
      exact ⟨fun h => ⟨HMY.out, h⟩, fun h => h.2⟩
    have HS := Lib.hid hs
    clear hs
    generalize sameB T U = sm at *
    go_wp2_with fail
    refine (mayRef_any U _ _ (HU.out _ HB.out)).mono ?_
    rintro e W14 ⟨rfl, hb⟩
    rw [hmu]
    have HB := Lib.hid (HB.out.trans (hb.mono HB.out.size))
    have ka := ka.below hb
    have kb := kb.below hb
    clear hb qa qb
    have qa := ka.five
    have qb := kb.five
    go_wp2_with fail
    refine (HAL.out U _ _ _ (HT.out _ HB.out) (HU.out _ HB.out)).mono ?_
    rintro e W15 ⟨rfl, hb⟩
    rw [HS.out]
    have HB := Lib.hid (HB.out.trans (hb.mono HB.out.size))
    have ka := ka.below hb
    have kb := kb.below hb
    clear hb qa qb
    have qa := ka.five
    have qb := kb.five
    go_wp2
    go_ret
    exact ⟨by first | rfl | simp, HB.out⟩
theorem tell_any (T U : Ty) (xs ys : List Value) (w : World) (hT : Rep w T xs) (hU : Rep w U ys) (hm : ML w) :
    Calls Try.prog 4 #[.agg xs.toArray, .agg ys.toArray] w fun e w' => e = .returned (.bool true) ∧ Below w.heap.size w w' := by
  rcases h : may T with _ | _
  · exact tell_no T U h xs ys w hT hU hm
  · exact tell_yes T U h xs ys w hT hU hm
end Go.Proofs.Ytkjlmllhhfacfaa
