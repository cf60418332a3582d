/- Lemmas for the law. -/
import Derived.Test.YthihaeobkoiljaaGreatQ02
import Derived.Lib.IndexMore
import Derived.Deep.CutRange
import Derived.Deep.QuietTactic
import Derived.BigQuiet
import Derived.IntWalk
import Derived.RegionTactic
import Derived.ChangeAlike
import Derived.WalkLawsBesides
import Derived.Outline
import Derived.LoopTactic
set_option linter.unusedVariables false
set_option linter.unusedSimpArgs false
set_option maxRecDepth 100000
set_option maxHeartbeats 40000000
namespace Go.Proofs.YthihaeobkoiljaaGreat
open Go.RowKit Go.Shelf
theorem within_other (d : Nat) (hd : d ≤ 50) (T : Ty) (h1 : T.k ≠ 1) (h2 : T.k ≠ 2) (h3 : T.k ≠ 3) (h4 : T.k ≠ 4) : Within (d + 1) T := by
 intro cs w hr hm
 obtain ⟨An, cn, Ap, cp, rfl, -, -⟩ := hr.five
 have hn : mayT (d + 1) T = false := by unfold mayT; rw [if_neg (by omega), if_neg h3, if_neg h4]
 have d0 : ¬ ((d : Int) + 1 < 1) := by omega
 have e1 : (T.k == 1) = false := by simpa using h1
 have e2 : (T.k == 2) = false := by simpa using h2
 have e3 : (T.k == 3) = false := by simpa using h3
 have e4 : (T.k == 4) = false := by simpa using h4
 go_enter Tryz.func47, Tryz.ntmps47
 go_wp2
 go_ret
 exact ⟨by first | rfl | (rw [hn]; rfl), bel⟩
theorem within_fn (d : Nat) (hd : d ≤ 50) (T : Ty) (h4 : T.k = 4) (IH : ∀ p ∈ T.ps, Within d p) : Within (d + 1) T := by
 intro cs w hr hm
 obtain ⟨An, cn, Ap, cp, rfl, -, hP⟩ := hr.five
 have hn : mayT (d + 1) T = (bareT T && partsT d 1 7 T.ps) := by unfold mayT; rw [if_neg (by omega), if_neg (by omega), if_pos h4]; rfl
 rw [hn]
 have d0 : ¬ ((d : Int) + 1 < 1) := by omega
 have hbx : TBox ((w.alloc (.cells #[.int .i64 T.k, .string T.nm, .slice An T.ns.length cn, .slice Ap T.ps.length cp, .bool T.many] 34)).alloc (.cells #[.int .i64 ((d : Int) + 1)] 3)) w.heap.size (.int .i64 T.k) (.string T.nm) (.slice An T.ns.length cn) (.slice Ap T.ps.length cp) (.bool T.many) (.int .i64 ((d : Int) + 1)) :=
  ⟨⟨by go_simp, by go_simp, by go_simp, by go_simp, by go_simp, by go_simp⟩, by simp⟩
 have hb0 : Below w.heap.size w ((w.alloc (.cells #[.int .i64 T.k, .string T.nm, .slice An T.ns.length cn, .slice Ap T.ps.length cp, .bool T.many] 34)).alloc (.cells #[.int .i64 ((d : Int) + 1)] 3)) := bel
 have HR := Lh (Rep.keep hb0 _ _ hr)
 rw [h4] at hbx hb0 HR ⊢
 clear hr hn
 go_enter Tryz.func47, Tryz.ntmps47
 go_wp2_with fail
 refine (bare_any T _ _ HR.out).mono ?_
 rintro e w1 ⟨rfl, hb1⟩
 obtain ⟨⟨q0, q1, q2, q3, q4, q5⟩, ql⟩ := hbx.keep hb1
 have hb2 := hb0.trans (hb1.mono (by simp; omega))
 clear hb1 hbx hb0 HR
 rcases hbt : bareT T with _ | _
 ·go_wp2
  go_ret
  exact ⟨by rw [hbt]; rfl, hb2⟩
 ·go_wp2_with fail
  refine (parts_any d 1 7 (by omega) (by omega) (by omega) T.ps IH _ _ Ap cp w1 q3 q5 (RepL.keep hb2 _ _ hP) (hm.keep hb2)).mono ?_
  rintro e w2 ⟨rfl, hb3⟩
  have hb4 := hb2.trans (hb3.mono hb2.size)
  clear q0 q1 q2 q3 q4 q5 hb3
  go_wp2
  go_ret
  exact ⟨by rw [hbt]; rfl, hb4⟩
theorem within_struct (d : Nat) (hd : d ≤ 50) (T : Ty) (h3 : T.k = 3) (IH : ∀ p ∈ T.ps, Within d p) : Within (d + 1) T := by
 intro cs w hr hm
 have hr0 := hr
 obtain ⟨An, cn, Ap, cp, rfl, hN, hP⟩ := hr.five
 have hn : mayT (d + 1) T = (!T.many && nameOf T.nm && (T.ns.length == T.ps.length) && partsT d 1 6 T.ps && namedL T.ns && decide ((sizeT T).1 ≤ 12)) := by
  unfold mayT; rw [if_neg (by omega), if_pos h3]; rfl
 rw [hn]
 have d0 : ¬ ((d : Int) + 1 < 1) := by omega
 have hbx : TBox ((w.alloc (.cells #[.int .i64 T.k, .string T.nm, .slice An T.ns.length cn, .slice Ap T.ps.length cp, .bool T.many] 34)).alloc (.cells #[.int .i64 ((d : Int) + 1)] 3)) w.heap.size (.int .i64 T.k) (.string T.nm) (.slice An T.ns.length cn) (.slice Ap T.ps.length cp) (.bool T.many) (.int .i64 ((d : Int) + 1)) :=
  ⟨⟨by go_simp, by go_simp, by go_simp, by go_simp, by go_simp, by go_simp⟩, by simp⟩
 have hb0 : Below w.heap.size w ((w.alloc (.cells #[.int .i64 T.k, .string T.nm, .slice An T.ns.length cn, .slice Ap T.ps.length cp, .bool T.many] 34)).alloc (.cells #[.int .i64 ((d : Int) + 1)] 3)) := bel
 have hSz : Hid (mayT (d + 1) T = true → Sized T) := fun h => (sized_of_may _ _ h).1
 have HR := Lh hr0
 rw [h3] at hbx hb0 HR ⊢
 clear hr hr0
 rcases hmn : T.many with _ | _
 ·rcases hnm : nameOf T.nm with _ | _
  ·rw [hmn] at hbx hb0
   go_enter Tryz.func47, Tryz.ntmps47
   go_wp2_with fail
   refine (isName_any _ _ (hm.keep hb0)).mono ?_
   rintro e w1 ⟨rfl, rfl⟩
   rw [hnm]
   clear hbx
   go_wp2
   go_ret
   exact ⟨by simp, hb0⟩
  ·rw [hmn] at hbx hb0 HR
   by_cases hlen : T.ns.length = T.ps.length
   ·have HL := Lh hlen
    have t1 : (((T.ns.length : Nat) : Int) != ((T.ps.length : Nat) : Int)) = false := by rw [hlen]; simp
    have hN' := Lh hN
    clear hN
    have HNP := Lh (named_any An cn T.ns)
    rw [hlen] at hbx hb0 HR ⊢
    go_enter Tryz.func47, Tryz.ntmps47
    go_wp2_with fail
    refine (isName_any _ _ (hm.keep hb0)).mono ?_
    rintro e w1 ⟨rfl, hw⟩
    subst hw
    rw [hnm]
    go_wp2_with fail
    refine (parts_any d 1 6 (by omega) (by omega) (by omega) T.ps IH _ _ Ap cp _ hbx.1.2.2.2.1 hbx.1.2.2.2.2.2 (RepL.keep hb0 _ _ hP) (hm.keep hb0)).mono ?_
    rintro e w2 ⟨rfl, hb1⟩
    have hbx2 := hbx.keep hb1
    have hb2 := hb0.trans (hb1.mono hb0.size)
    clear hbx hb0 hb1
    rcases hpt : partsT d 1 6 T.ps with _ | _
    ·obtain ⟨⟨q0, q1, q2, q3, q4, q5⟩, ql⟩ := hbx2
     go_wp2
     go_ret
     exact ⟨by rw [hpt]; simp, hb2⟩
    ·have hp1 : T.ps.length ≤ 6 ∧ ∀ p ∈ T.ps, mayT d p = true := by
      simp only [partsT, Bool.and_eq_true, List.all_eq_true, decide_eq_true_eq] at hpt
      exact ⟨hpt.1.2, hpt.2⟩
     have hSized := size_struct T h3 (by omega) (fun p hp => (sized_of_may d p (hp1.2 p hp)).1) (fun p hp => (sized_of_may d p (hp1.2 p hp)).2)
     have hmx : T.ns.length ≤ 9223372036854775806 := by omega
     have HNP2 := Lh (HNP.out w2 (hN'.out.keep hb2) hmx (hm.keep hb2))
     rw [hlen] at HNP2
     clear HNP hN' hmx t1
     obtain ⟨⟨q0, q1, q2, q3, q4, q5⟩, ql⟩ := id hbx2
     go_wp2_with fail
     refine HNP2.out.mono ?_
     rintro e w3 ⟨rfl, hb3⟩
     have hbx3 := hbx2.keep hb3
     have hb4 := hb2.trans (hb3.mono hb2.size)
     clear hbx2 hb3 hb2 q0 q1 q2 q3 q4 q5 ql HNP2
     obtain ⟨⟨q0, q1, q2, q3, q4, q5⟩, ql⟩ := hbx3
     rcases hnl : namedL T.ns with _ | _
     ·go_wp2
      go_ret
      exact ⟨by simp [hnl], hb4⟩
     ·go_wp2_with fail
      refine (hSized _ _ (Rep.keep hb4 _ _ HR.out)).mono ?_
      rintro e w4 ⟨rfl, hb5⟩
      have hb6 := hb4.trans (hb5.mono hb4.size)
      by_cases hsz : (sizeT T).1 ≤ 12
      ·have hsz2 : ((sizeT T).1 : Int) ≤ 12 := by omega
       go_wp2
       go_ret
       exact ⟨by simp [hnl, hpt, hsz], hb6⟩
      ·have hsz2 : 12 < ((sizeT T).1 : Int) := by omega
       go_wp2
       go_ret
       exact ⟨by simp [hnl, hpt, hsz]; omega, hb6⟩
   ·have t1 : (((T.ns.length : Nat) : Int) != ((T.ps.length : Nat) : Int)) = true := by simp; omega
    have t2 : (T.ns.length == T.ps.length) = false := by simpa using hlen
    go_enter Tryz.func47, Tryz.ntmps47
    go_wp2_with fail
    refine (isName_any _ _ (hm.keep hb0)).mono ?_
    rintro e w1 ⟨rfl, hw⟩
    subst hw
    rw [hnm]
    clear hbx
    go_wp2
    go_ret
    exact ⟨by rw [t2]; simp, hb0⟩
 ·rw [hmn] at hbx hb0
  go_enter Tryz.func47, Tryz.ntmps47
  go_wp2
  go_ret
  exact ⟨by simp, bel⟩
theorem within_any : ∀ (d : Nat), d ≤ 50 → ∀ T : Ty, Within d T
 | 0, _, T => within_zero T
 | d + 1, hd, T => by
  have IH : ∀ p ∈ T.ps, Within d p := fun p _ => within_any d (by omega) p
  by_cases h1 : T.k = 1
  ·exact within_plain d (by omega) T (.inl h1)
  ·by_cases h2 : T.k = 2
   ·exact within_plain d (by omega) T (.inr h2)
   ·by_cases h3 : T.k = 3
    ·exact within_struct d (by omega) T h3 IH
    ·by_cases h4 : T.k = 4
     ·exact within_fn d (by omega) T h4 IH
     ·exact within_other d (by omega) T h1 h2 h3 h4
noncomputable def may (T : Ty) : Bool := mayT 4 T
theorem may_any (T : Ty) (cs : List Value) (w : World) (hr : Rep w T cs) (hm : ML w) : Calls Tryz.prog 19 #[.agg cs.toArray] w fun e w' => e = .returned (.bool (may T)) ∧ Below w.heap.size w w' := by
 have hr0 := hr
 obtain ⟨An, cn, Ap, cp, rfl, hN, hP⟩ := hr.five
 have h4 := Lh (within_any 4 (by omega) T)
 go_enter Tryz.func19, Tryz.ntmps19
 go_wp2_with fail
 refine (h4.out _ _ (Rep.keep (bel) _ _ hr0) (hm.keep (bel))).mono ?_
 rintro e w1 ⟨rfl, hb⟩
 go_wp2
 go_ret
 exact ⟨rfl, Below.trans (bel) (hb.mono (by simp))⟩
noncomputable def wordsT (T : Ty) : Int := if may T then ((sizeT T).1 : Int) else 0
theorem words_any (T : Ty) (cs : List Value) (w : World) (hr : Rep w T cs) (hm : ML w) : Calls Tryz.prog 41 #[.agg cs.toArray] w fun e w' => e = .returned (.int .i64 (wordsT T)) ∧ Below w.heap.size w w' := by
 have hr0 := hr
 obtain ⟨An, cn, Ap, cp, rfl, hN, hP⟩ := hr.five
 have hb0 : Below w.heap.size w (w.alloc (.cells #[.int .i64 T.k, .string T.nm, .slice An T.ns.length cn, .slice Ap T.ps.length cp, .bool T.many] 34)) := bel
 go_enter Tryz.func41, Tryz.ntmps41
 go_wp2_with fail
 refine (may_any T _ _ (Rep.keep hb0 _ _ hr0) (hm.keep hb0)).mono ?_
 rintro e w1 ⟨rfl, hb⟩
 have hb1 := hb0.trans (hb.mono (by simp))
 rcases hmy : may T with _ | _
 ·go_wp2
  go_ret
  exact ⟨by first | (rw [wordsT, hmy]; rfl) | (simp [wordsT, hmy]), hb1⟩
 ·have hS := Lh (sized_of_may _ _ hmy).1
  have q0 : w1.cell? ⟨w.heap.size, 0, none⟩ = some (.int .i64 T.k) := (hb.cell (p := ⟨w.heap.size, 0, none⟩) (by simp)).trans (by go_simp)
  have q1 : w1.cell? ⟨w.heap.size, 1, none⟩ = some (.string T.nm) := (hb.cell (p := ⟨w.heap.size, 1, none⟩) (by simp)).trans (by go_simp)
  have q2 : w1.cell? ⟨w.heap.size, 2, none⟩ = some (.slice An T.ns.length cn) := (hb.cell (p := ⟨w.heap.size, 2, none⟩) (by simp)).trans (by go_simp)
  have q3 : w1.cell? ⟨w.heap.size, 3, none⟩ = some (.slice Ap T.ps.length cp) := (hb.cell (p := ⟨w.heap.size, 3, none⟩) (by simp)).trans (by go_simp)
  have q4 : w1.cell? ⟨w.heap.size, 4, none⟩ = some (.bool T.many) := (hb.cell (p := ⟨w.heap.size, 4, none⟩) (by simp)).trans (by go_simp)
  clear hb hb0
  go_wp2_with fail
  refine (hS.out _ _ (Rep.keep hb1 _ _ hr0)).mono ?_
  rintro e w2 ⟨rfl, hb2⟩
  go_wp2
  go_ret
  exact ⟨by first | (rw [wordsT, hmy]; rfl) | (simp [wordsT, hmy]), hb1.trans (hb2.mono hb1.size)⟩
end Go.Proofs.YthihaeobkoiljaaGreat
namespace Go.Proofs.YthihaeobkoiljaaGreat
theorem isPrefixOf_iff (a b : List UInt8) : a.isPrefixOf b = true ↔ ∃ v, b = a ++ v := by
 rw [List.isPrefixOf_iff_prefix]
 constructor
 ·rintro ⟨v, rfl⟩; exact ⟨v, rfl⟩
 ·rintro ⟨v, rfl⟩; exact ⟨v, rfl⟩
theorem index_pos (sub : List UInt8) : ∀ s : List UInt8, 0 ≤ Lib.index s sub ↔ ∃ u v, s = u ++ (sub ++ v)
 | [] => by
  unfold Lib.index
  cases sub with
  | nil => simp
  | cons x l => simp
 | b :: l => by
  unfold Lib.index
  have ih := index_pos sub l
  by_cases hp : sub.isPrefixOf (b :: l) = true
  ·rw [if_pos hp]
   obtain ⟨v, hv⟩ := (isPrefixOf_iff _ _).1 hp
   exact ⟨fun _ => ⟨[], v, by simpa using hv⟩, fun _ => Int.le_refl _⟩
  ·rw [if_neg hp]
   have hge := Lib.index_ge l sub
   constructor
   ·intro h
    by_cases h1 : Lib.index l sub = -1
    ·simp [h1] at h
    ·obtain ⟨u, v, e⟩ := ih.1 (by omega)
     exact ⟨b :: u, v, by rw [e]; rfl⟩
   ·rintro ⟨u, v, e⟩
    cases u with
    | nil => exact absurd ((isPrefixOf_iff _ _).2 ⟨v, by simpa using e⟩) hp
    | cons c u =>
     simp only [List.cons_append, List.cons.injEq] at e
     have := ih.2 ⟨u, v, e.2⟩
     have h1 : ¬ (Lib.index l sub == -1) = true := by simp; omega
     rw [if_neg h1]
     omega
theorem split32 : ∀ (s w v r : List UInt8), 32 ∉ s → 32 ∉ w → s ++ 32 :: v = w ++ 32 :: r → s = w ∧ v = r
 | [], [], v, r, _, _, h => by simpa using h
 | [], c :: w, v, r, _, hw, h => by simp at h; exact absurd (by simp [h.1]) hw
 | c :: s, [], v, r, hs, _, h => by simp at h; exact absurd (by simp [h.1]) hs
 | c :: s, d :: w, v, r, hs, hw, h => by
  simp only [List.cons_append, List.cons.injEq] at h
  obtain ⟨h1, h2⟩ := split32 s w v r (fun x => hs (by simp [x])) (fun x => hw (by simp [x])) h.2
  exact ⟨by rw [h.1, h1], h2⟩
theorem drop32 : ∀ (w u m L : List UInt8), 32 ∉ w → w ++ L = u ++ 32 :: m → ∃ u', u = w ++ u' ∧ L = u' ++ 32 :: m
 | [], u, m, L, _, h => ⟨u, rfl, h⟩
 | c :: w, [], m, L, hw, h => by simp at h; exact absurd (by simp [h.1]) hw
 | c :: w, d :: u, m, L, hw, h => by
  simp only [List.cons_append, List.cons.injEq] at h
  obtain ⟨u', h1, h2⟩ := drop32 w u m L (fun x => hw (by simp [x])) h.2
  exact ⟨u', by rw [h.1, h1]; rfl, h2⟩
def joined (ws : List (List UInt8)) : List UInt8 := 32 :: ws.flatMap fun w => w ++ [32]
theorem joined_cons (w : List UInt8) (ws : List (List UInt8)) : joined (w :: ws) = 32 :: (w ++ joined ws) := by simp [joined]
theorem among_joined : ∀ (ws : List (List UInt8)) (s : List UInt8), (∀ w ∈ ws, 32 ∉ w) → 32 ∉ s → ((∃ u v, joined ws = u ++ ((32 :: (s ++ [32])) ++ v)) ↔ s ∈ ws)
 | [], s, _, hs => by
  constructor
  ·rintro ⟨u, v, h⟩
   have := congrArg List.length h
   simp [joined] at this
   omega
  ·intro h; cases h
 | w :: ws, s, hw, hs => by
  have ih := among_joined ws s (fun x hx => hw x (by simp [hx])) hs
  have hw1 := hw w (by simp)
  rw [joined_cons]
  constructor
  ·rintro ⟨u, v, h⟩
   cases u with
   | nil =>
    simp only [List.nil_append, List.cons_append, List.cons.injEq, true_and, List.append_assoc] at h
    have := (split32 w s _ _ hw1 hs (by simpa [joined] using h)).1
    rw [this]; simp
   | cons c u =>
    simp only [List.cons_append, List.cons.injEq, List.append_assoc] at h
    obtain ⟨u', h1, h2⟩ := drop32 w u _ _ hw1 h.2
    exact mc (ih.1 ⟨u', v, by simpa using h2⟩)
  ·intro h
   rcases List.mem_cons.1 h with rfl | h
   ·exact ⟨[], ws.flatMap fun w => w ++ [32], by simp [joined]⟩
   ·obtain ⟨u, v, e⟩ := ih.2 h
    exact ⟨32 :: (w ++ u), v, by rw [e]; simp⟩
def wordsR : List ByteArray := ["break".toUTF8, "count".toUTF8, "else".toUTF8, "extern".toUTF8, "extra".toUTF8, "fn".toUTF8, "if".toUTF8, "int".toUTF8, "long".toUTF8, "put".toUTF8, "return".toUTF8, "static".toUTF8, "struct".toUTF8, "while".toUTF8]
theorem words_joined : wordL = joined (wordsR.map fun s => s.data.toList) := by decide
theorem reserved_iff (s : ByteArray) (hs : 32 ∉ s.data.toList) : reserved s = true ↔ s.data.toList ∈ wordsR.map fun s => s.data.toList := by
 unfold reserved Lib.contains
 rw [decide_eq_true_iff, index_pos, words_joined, among_joined _ _ (by decide) hs]
def fieldsTx : List ByteArray → List (List UInt8) → List UInt8
 | n :: ns, t :: ts => t ++ 32 :: (n.data.toList ++ 59 :: fieldsTx ns ts)
 | _, _ => []
def paramsTx (many : Bool) : Bool → List (List UInt8) → List UInt8
 | first, [] => if many then (if first then [46, 46, 46] else [44, 46, 46, 46]) else []
 | first, t :: ts => (if first then t else 44 :: t) ++ paramsTx many false ts
mutual
def textT : Ty → List UInt8
 | .mk k nm ns ps many =>
  if k = 1 then [105, 110, 116]
  else if k = 2 then [108, 111, 110, 103]
  else if k = 3 then [115, 116, 114, 117, 99, 116, 32] ++ (nm.data.toList ++ 123 :: (fieldsTx ns (textL ps) ++ [125]))
  else if k = 4 then [102, 110, 40] ++ (paramsTx many true (textL ps).dropLast ++ 41 :: ((textL ps).getLast?.getD []))
  else []
def textL : List Ty → List (List UInt8)
 | [] => []
 | t :: ts => textT t :: textL ts
end
theorem textL_map : ∀ ts : List Ty, textL ts = ts.map textT
 | [] => by unfold textL; rfl
 | t :: ts => by unfold textL; rw [textL_map ts]; rfl
theorem textT_eq (T : Ty) : textT T = if T.k = 1 then [105, 110, 116] else if T.k = 2 then [108, 111, 110, 103]
 else if T.k = 3 then [115, 116, 114, 117, 99, 116, 32] ++ (T.nm.data.toList ++ 123 :: (fieldsTx T.ns (T.ps.map textT) ++ [125]))
 else if T.k = 4 then [102, 110, 40] ++ (paramsTx T.many true (T.ps.map textT).dropLast ++ 41 :: ((T.ps.map textT).getLast?.getD [])) else [] := by
 cases T
 unfold textT
 rw [textL_map]
 rfl
theorem split_at (c : UInt8) : ∀ (s w v r : List UInt8), c ∉ s → c ∉ w → s ++ c :: v = w ++ c :: r → s = w ∧ v = r
 | [], [], v, r, _, _, h => by simpa using h
 | [], d :: w, v, r, _, hw, h => by simp at h; exact absurd (by simp [h.1]) hw
 | d :: s, [], v, r, hs, _, h => by simp at h; exact absurd (by simp [h.1]) hs
 | e :: s, d :: w, v, r, hs, hw, h => by
  simp only [List.cons_append, List.cons.injEq] at h
  obtain ⟨h1, h2⟩ := split_at c s w v r (fun x => hs (by simp [x])) (fun x => hw (by simp [x])) h.2
  exact ⟨by rw [h.1, h1], h2⟩
def Reads (T : Ty) : Prop := ∀ (d : Nat) (U : Ty) (x y : List UInt8), mayT d U = true → textT T ++ x = textT U ++ y → T = U ∧ x = y
theorem text_head {d : Nat} {T : Ty} (h : mayT d T = true) : ∃ c r, textT T = c :: r ∧ (c = 105 ∨ c = 108 ∨ c = 115 ∨ c = 102) := by
 cases d with
 | zero => cases h
 | succ d =>
  rw [textT_eq]
  unfold mayT at h
  by_cases h1 : T.k = 1
  ·rw [if_pos h1]; exact ⟨_, _, rfl, .inl rfl⟩
  ·rw [if_neg h1]
   by_cases h2 : T.k = 2
   ·rw [if_pos h2]; exact ⟨_, _, rfl, .inr (.inl rfl)⟩
   ·rw [if_neg h2]
    by_cases h3 : T.k = 3
    ·rw [if_pos h3]; exact ⟨_, _, rfl, .inr (.inr (.inl rfl))⟩
    ·rw [if_neg h3]
     by_cases h4 : T.k = 4
     ·rw [if_pos h4]; exact ⟨_, _, rfl, .inr (.inr (.inr rfl))⟩
     ·rw [if_neg (by omega), if_neg h3, if_neg h4] at h; cases h
theorem name_bytes {s : ByteArray} (h : nameOf s = true) (c : UInt8) (hc : c ∈ s.data.toList) : chrI (c.toNat : Int) = true := by
 obtain ⟨h1, h2, h3, h4, -⟩ := name_false h
 obtain ⟨k, hk, rfl⟩ := List.getElem_of_mem hc
 have hk' : k < s.size := by simpa using hk
 have e : byteI s k = (((s.data.toList[k]'hk).toNat : Nat) : Int) := by
  rw [byteI_at hk']
  rfl
 rw [← e]
 by_cases h0 : k = 0
 ·subst h0
  rw [chr_split, h3]
  rfl
 ·exact h4 k (by omega) hk'
theorem no_byte {s : ByteArray} (h : nameOf s = true) (c : UInt8) (hc : chrI (c.toNat : Int) = false) : c ∉ s.data.toList := fun hm => by
 rw [name_bytes h c hm] at hc
 cases hc
theorem fields_read {d d' : Nat} : ∀ (ns ns' : List ByteArray) (ps ps' : List Ty) (x y : List UInt8), ns.length = ps.length → ns'.length = ps'.length → (∀ n ∈ ns, nameOf n = true) → (∀ n ∈ ns', nameOf n = true) →
 (∀ p ∈ ps, mayT d p = true ∧ Reads p) → (∀ p ∈ ps', mayT d' p = true) → fieldsTx ns (ps.map textT) ++ 125 :: x = fieldsTx ns' (ps'.map textT) ++ 125 :: y → ns = ns' ∧ ps = ps' ∧ x = y
 | [], [], [], [], x, y, _, _, _, _, _, _, h => by simpa [fieldsTx] using h
 | [], n :: ns', [], p :: ps', x, y, _, _, _, _, _, hp', h => by
  obtain ⟨c, r, hc, hcc⟩ := text_head (hp' p (by simp))
  simp [fieldsTx, hc] at h
  rcases hcc with e | e | e | e <;> (rw [e] at h; simp at h)
 | n :: ns, [], p :: ps, [], x, y, _, _, _, _, hp, _, h => by
  obtain ⟨c, r, hc, hcc⟩ := text_head (hp p (by simp)).1
  simp [fieldsTx, hc] at h
  rcases hcc with e | e | e | e <;> (rw [e] at h; simp at h)
 | n :: ns, n' :: ns', p :: ps, p' :: ps', x, y, hl, hl', hn, hn', hp, hp', h => by
  simp only [List.map_cons, fieldsTx, List.append_assoc, List.cons_append] at h
  obtain ⟨rfl, hq⟩ := (hp p (by simp)).2 _ _ _ _ (hp' p' (by simp)) h
  simp only [List.cons.injEq, true_and] at hq
  obtain ⟨h1, h2⟩ := split_at 59 _ _ _ _ (no_byte (hn n (by simp)) 59 (by decide)) (no_byte (hn' n' (by simp)) 59 (by decide)) hq
  obtain ⟨h3, h4, h5⟩ := fields_read ns ns' ps ps' x y (by simpa using hl) (by simpa using hl') (fun a ha => hn a (by simp [ha])) (fun a ha => hn' a (by simp [ha])) (fun a ha => hp a (by simp [ha])) (fun a ha => hp' a (by simp [ha])) h2
  have hb : n = n' := by
   cases n
   cases n'
   simp at h1
   rw [h1]
  exact ⟨by rw [hb, h3], by rw [h4], h5⟩
 | [], _ :: _, _ :: _, _, _, _, hl, _, _, _, _, _, _ => by simp at hl
 | _ :: _, _, [], _, _, _, hl, _, _, _, _, _, _ => by simp at hl
 | _, [], _, _ :: _, _, _, _, hl', _, _, _, _, _ => by simp at hl'
 | _, _ :: _, _, [], _, _, _, hl', _, _, _, _, _ => by simp at hl'
 | [], _, _ :: _, _, _, _, hl, _, _, _, _, _, _ => by simp at hl
theorem params_head {d : Nat} {p : Ty} (h : mayT d p = true) (m m' first : Bool) (ts : List (List UInt8)) (x y : List UInt8) : paramsTx m first [] ++ 41 :: x ≠ paramsTx m' first (textT p :: ts) ++ 41 :: y := by
 obtain ⟨c, r, hc, hcc⟩ := text_head h
 intro e
 cases m <;> cases first <;> simp [paramsTx, hc] at e <;> rcases hcc with h | h | h | h <;> (rw [h] at e; simp at e)
theorem params_read {d d' : Nat} : ∀ (m m' first : Bool) (ps ps' : List Ty) (x y : List UInt8), (∀ p ∈ ps, mayT d p = true ∧ Reads p) → (∀ p ∈ ps', mayT d' p = true) →
 paramsTx m first (ps.map textT) ++ 41 :: x = paramsTx m' first (ps'.map textT) ++ 41 :: y → ps = ps' ∧ m = m' ∧ x = y
 | m, m', first, [], [], x, y, _, _, h => by
  cases m <;> cases m' <;> cases first <;> simp [paramsTx] at h <;> exact ⟨rfl, rfl, h⟩
 | m, m', first, [], p' :: ps', x, y, _, hp', h => absurd h (params_head (hp' p' (by simp)) m m' first _ x y)
 | m, m', first, p :: ps, [], x, y, hp, _, h => absurd h.symm (params_head (hp p (by simp)).1 m' m first _ y x)
 | m, m', first, p :: ps, p' :: ps', x, y, hp, hp', h => by
  have hq : textT p ++ (paramsTx m false (ps.map textT) ++ 41 :: x) = textT p' ++ (paramsTx m' false (ps'.map textT) ++ 41 :: y) := by
   cases first <;> simpa [paramsTx] using h
  obtain ⟨rfl, hr⟩ := (hp p (by simp)).2 _ _ _ _ (hp' p' (by simp)) hq
  obtain ⟨h1, h2, h3⟩ := params_read m m' false ps ps' x y (fun a ha => hp a (by simp [ha])) (fun a ha => hp' a (by simp [ha])) hr
  exact ⟨by rw [h1], h2, h3⟩
theorem loop_len (bs : ByteArray) : ∀ (k i : Nat) (r : List UInt8), bs.size - i = k → (ByteArray.toList.loop bs i r).length = k + r.length
 | 0, i, r, h => by
  unfold ByteArray.toList.loop
  rw [if_neg (by omega)]
  simp
 | k + 1, i, r, h => by
  unfold ByteArray.toList.loop
  rw [if_pos (by omega), loop_len bs k (i + 1) _ (by omega)]
  simp
  omega
theorem empty_of {s : ByteArray} (h : s.toList.isEmpty = true) : s = ByteArray.empty := by
 have h1 : s.toList = [] := by simpa using h
 have h2 := loop_len s s.size 0 [] (by omega)
 have h3 : ByteArray.toList.loop s 0 [] = [] := h1
 rw [h3] at h2
 simp at h2
 obtain ⟨⟨l⟩⟩ := s
 have h4 : 0 = l.length := h2
 have : l = [] := List.eq_nil_of_length_eq_zero h4.symm
 subst this
 rfl
theorem ty_ext {T U : Ty} (h1 : T.k = U.k) (h2 : T.nm = U.nm) (h3 : T.ns = U.ns) (h4 : T.ps = U.ps) (h5 : T.many = U.many) : T = U := by
 cases T
 cases U
 simp only [Ty.k, Ty.nm, Ty.ns, Ty.ps, Ty.many] at *
 subst h1 h2 h3 h4 h5
 rfl
theorem bare_of {T : Ty} (h : bareT T = true) : T.nm = ByteArray.empty ∧ T.ns = [] := by
 simp only [bareT, Bool.and_eq_true] at h
 exact ⟨empty_of h.1, by simpa using h.2⟩
theorem may_kind {d : Nat} {T : Ty} (h : mayT (d + 1) T = true) : T.k = 1 ∨ T.k = 2 ∨ T.k = 3 ∨ T.k = 4 := by
 unfold mayT at h
 by_cases h12 : T.k = 1 ∨ T.k = 2
 ·omega
 ·rw [if_neg h12] at h
  by_cases h3 : T.k = 3
  ·omega
  ·rw [if_neg h3] at h
   by_cases h4 : T.k = 4
   ·omega
   ·rw [if_neg h4] at h; cases h
theorem may_leaf {d : Nat} {T : Ty} (h : mayT (d + 1) T = true) (hk : T.k = 1 ∨ T.k = 2) : T.nm = ByteArray.empty ∧ T.ns = [] ∧ T.ps = [] ∧ T.many = false := by
 unfold mayT at h
 rw [if_pos hk] at h
 simp only [Bool.and_eq_true, beq_iff_eq, Bool.not_eq_true'] at h
 obtain ⟨a, b⟩ := bare_of h.1.1
 exact ⟨a, b, List.eq_nil_of_length_eq_zero h.1.2, h.2⟩
theorem may_st {d : Nat} {T : Ty} (h : mayT (d + 1) T = true) (hk : T.k = 3) : T.many = false ∧ nameOf T.nm = true ∧ T.ns.length = T.ps.length ∧ (∀ p ∈ T.ps, mayT d p = true) ∧ (∀ n ∈ T.ns, nameOf n = true) := by
 unfold mayT at h
 rw [if_neg (by omega), if_pos hk] at h
 simp only [Bool.and_eq_true, beq_iff_eq, Bool.not_eq_true', decide_eq_true_eq, List.all_eq_true] at h
 obtain ⟨⟨⟨⟨⟨h1, h2⟩, h3⟩, ⟨_, h4⟩⟩, h5⟩, -⟩ := h
 simp only [namedL, Bool.and_eq_true, List.all_eq_true] at h5
 exact ⟨h1, h2, h3, h4, h5.1⟩
theorem may_fn {d : Nat} {T : Ty} (h : mayT (d + 1) T = true) (hk : T.k = 4) : T.nm = ByteArray.empty ∧ T.ns = [] ∧ T.ps ≠ [] ∧ (∀ p ∈ T.ps, mayT d p = true) := by
 unfold mayT at h
 rw [if_neg (by omega), if_neg (by omega), if_pos hk] at h
 simp only [Bool.and_eq_true, decide_eq_true_eq, List.all_eq_true] at h
 obtain ⟨h1, ⟨h2, _⟩, h3⟩ := h
 obtain ⟨a, b⟩ := bare_of h1
 exact ⟨a, b, fun e => by rw [e] at h2; simp at h2, h3⟩
theorem text_1 {T : Ty} (h : T.k = 1) : textT T = [105, 110, 116] := by rw [textT_eq, if_pos h]
theorem text_2 {T : Ty} (h : T.k = 2) : textT T = [108, 111, 110, 103] := by rw [textT_eq, if_neg (by omega), if_pos h]
theorem text_3 {T : Ty} (h : T.k = 3) : textT T = [115, 116, 114, 117, 99, 116, 32] ++ (T.nm.data.toList ++ 123 :: (fieldsTx T.ns (T.ps.map textT) ++ [125])) := by rw [textT_eq, if_neg (by omega), if_neg (by omega), if_pos h]
theorem text_4 {T : Ty} (h : T.k = 4) (hp : T.ps ≠ []) : textT T = [102, 110, 40] ++ (paramsTx T.many true (T.ps.dropLast.map textT) ++ 41 :: textT (T.ps.getLast hp)) := by
 rw [textT_eq, if_neg (by omega), if_neg (by omega), if_neg (by omega), if_pos h, List.getLast?_map, List.getLast?_eq_some_getLast hp, List.map_dropLast]
 rfl
theorem reads_all : ∀ (d : Nat) (T : Ty), mayT d T = true → Reads T
 | 0, T, h => by cases h
 | d + 1, T, h => by
  intro d' U x y hU e
  cases d' with
  | zero => cases hU
  | succ d' =>
   have IH := reads_all d
   rcases may_kind h with k | k | k | k <;> rcases may_kind hU with k' | k' | k' | k'
   ·obtain ⟨a, b, c, m⟩ := may_leaf h (.inl k)
    obtain ⟨a', b', c', m'⟩ := may_leaf hU (.inl k')
    rw [text_1 k, text_1 k'] at e
    exact ⟨ty_ext (by omega) (by rw [a, a']) (by rw [b, b']) (by rw [c, c']) (by rw [m, m']), by simpa using e⟩
   ·rw [text_1 k, text_2 k'] at e; simp at e
   ·rw [text_1 k, text_3 k'] at e; simp at e
   ·obtain ⟨_, _, hp, _⟩ := may_fn hU k'
    rw [text_1 k, text_4 k' hp] at e; simp at e
   ·rw [text_2 k, text_1 k'] at e; simp at e
   ·obtain ⟨a, b, c, m⟩ := may_leaf h (.inr k)
    obtain ⟨a', b', c', m'⟩ := may_leaf hU (.inr k')
    rw [text_2 k, text_2 k'] at e
    exact ⟨ty_ext (by omega) (by rw [a, a']) (by rw [b, b']) (by rw [c, c']) (by rw [m, m']), by simpa using e⟩
   ·rw [text_2 k, text_3 k'] at e; simp at e
   ·obtain ⟨_, _, hp, _⟩ := may_fn hU k'
    rw [text_2 k, text_4 k' hp] at e; simp at e
   ·rw [text_3 k, text_1 k'] at e; simp at e
   ·rw [text_3 k, text_2 k'] at e; simp at e
   ·obtain ⟨m, hn, hl, hp, hns⟩ := may_st h k
    obtain ⟨m', hn', hl', hp', hns'⟩ := may_st hU k'
    rw [text_3 k, text_3 k'] at e
    simp only [List.append_assoc, List.cons_append, List.nil_append, List.cons.injEq, true_and] at e
    obtain ⟨h1, h2⟩ := split_at 123 _ _ _ _ (no_byte hn 123 (by decide)) (no_byte hn' 123 (by decide)) e
    obtain ⟨h3, h4, h5⟩ := fields_read T.ns U.ns T.ps U.ps x y hl hl' hns hns' (fun p hpp => ⟨hp p hpp, IH p (hp p hpp)⟩) hp' h2
    exact ⟨ty_ext (by omega) (Go.WideShapes.bytes_inj h1) h3 h4 (by rw [m, m']), h5⟩
   ·obtain ⟨_, _, hp, _⟩ := may_fn hU k'
    rw [text_3 k, text_4 k' hp] at e; simp at e
   ·obtain ⟨_, _, hp, _⟩ := may_fn h k
    rw [text_4 k hp, text_1 k'] at e; simp at e
   ·obtain ⟨_, _, hp, _⟩ := may_fn h k
    rw [text_4 k hp, text_2 k'] at e; simp at e
   ·obtain ⟨_, _, hp, _⟩ := may_fn h k
    rw [text_4 k hp, text_3 k'] at e; simp at e
   ·obtain ⟨a, b, hp, hps⟩ := may_fn h k
    obtain ⟨a', b', hp', hps'⟩ := may_fn hU k'
    rw [text_4 k hp, text_4 k' hp'] at e
    simp only [List.append_assoc, List.cons_append, List.nil_append, List.cons.injEq, true_and] at e
    obtain ⟨h1, h2, h3⟩ := params_read T.many U.many true T.ps.dropLast U.ps.dropLast _ _ (fun p hpp => ⟨hps p (List.dropLast_subset _ hpp), IH p (hps p (List.dropLast_subset _ hpp))⟩) (fun p hpp => hps' p (List.dropLast_subset _ hpp)) e
    obtain ⟨h4, h5⟩ := IH _ (hps _ (List.getLast_mem hp)) _ _ _ _ (hps' _ (List.getLast_mem hp')) h3
    exact ⟨ty_ext (by omega) (by rw [a, a']) (by rw [b, b']) (by rw [← List.dropLast_concat_getLast hp, ← List.dropLast_concat_getLast hp', h1, h4]) h2, h5⟩
theorem text_inj {d d' : Nat} {T U : Ty} (h : mayT d T = true) (hU : mayT d' U = true) (e : textT T = textT U) : T = U :=
 (reads_all d T h d' U [] [] hU (by rw [e])).1
theorem may_len {d : Nat} {T : Ty} (h : mayT (d + 1) T = true) : T.ps.length ≤ 7 := by
 unfold mayT at h
 by_cases h12 : T.k = 1 ∨ T.k = 2
 ·rw [if_pos h12] at h
  simp only [Bool.and_eq_true, beq_iff_eq] at h
  omega
 ·rw [if_neg h12] at h
  by_cases h3 : T.k = 3
  ·rw [if_pos h3] at h
   simp only [Bool.and_eq_true, decide_eq_true_eq] at h
   omega
  ·rw [if_neg h3] at h
   by_cases h4 : T.k = 4
   ·rw [if_pos h4] at h
    simp only [Bool.and_eq_true, decide_eq_true_eq] at h
    omega
   ·rw [if_neg h4] at h; cases h
end Go.Proofs.YthihaeobkoiljaaGreat
namespace Go.Proofs.YthihaeobkoiljaaGreat
open Go.RowKit
def bsum (bs : List Ty) : Nat := bs.foldl (fun n t => n + (sizeT t).1) 0
theorem bsum_take {bs : List Ty} {k : Nat} (h : k < bs.length) : bsum (bs.take (k + 1)) = bsum (bs.take k) + (sizeT bs[k]).1 := by
 rw [List.take_succ_eq_append_getElem h]
 unfold bsum
 rw [List.foldl_append]
 rfl
def lastT (T : Ty) : Ty := T.ps.getD (T.ps.length - 1) (.mk 0 ⟨#[]⟩ [] [] false)
theorem size_pos : ∀ (d : Nat) (T : Ty), mayT d T = true → 1 ≤ (sizeT T).1
 | 0, T, h => by cases h
 | d + 1, T, h => by
  rw [sizeT_eq]
  by_cases h2 : T.k = 2
  ·rw [if_pos h2]; decide
  ·rw [if_neg h2]
   by_cases h3 : T.k = 3
   ·rw [if_pos h3]
    have hp := (may_st h h3).2.2.2.1
    have hl : 1 ≤ T.ps.length := by
     have h' := h
     unfold mayT at h'
     rw [if_neg (by omega), if_pos h3] at h'
     simp only [Bool.and_eq_true, decide_eq_true_eq] at h'
     omega
    obtain ⟨m, hm⟩ : ∃ m, T.ps.length = m + 1 := ⟨T.ps.length - 1, by omega⟩
    have h1 := size_pos d _ (hp _ (List.getElem_mem (by omega : m < T.ps.length)))
    have he : 1 ≤ endZ (T.ps.map sizeT) (T.ps.map sizeT).length := by
     rw [List.length_map, hm, endZ_succ]
     have : (T.ps.map sizeT).getD m (0, false) = sizeT T.ps[m] := by simp [hm]
     rw [this]
     omega
    unfold sizeZ
    simp only
    split <;> omega
   ·rw [if_neg h3]; decide
theorem mayT_up : ∀ (d : Nat) (T : Ty), mayT d T = true → mayT (d + 1) T = true
 | 0, T, h => by cases h
 | d + 1, T, h => by
  unfold mayT at h ⊢
  by_cases h12 : T.k = 1 ∨ T.k = 2
  ·rw [if_pos h12] at h ⊢; exact h
  ·rw [if_neg h12] at h ⊢
   by_cases h3 : T.k = 3
   ·rw [if_pos h3] at h ⊢
    simp only [Bool.and_eq_true, decide_eq_true_eq, List.all_eq_true] at h ⊢
    exact ⟨⟨⟨h.1.1.1, ⟨h.1.1.2.1, fun p hp => mayT_up d p (h.1.1.2.2 p hp)⟩⟩, h.1.2⟩, h.2⟩
   ·rw [if_neg h3] at h ⊢
    by_cases h4 : T.k = 4
    ·rw [if_pos h4] at h ⊢
     simp only [Bool.and_eq_true, decide_eq_true_eq, List.all_eq_true] at h ⊢
     exact ⟨h.1, ⟨h.2.1, fun p hp => mayT_up d p (h.2.2 p hp)⟩⟩
    ·rw [if_neg h4] at h; cases h
theorem mayT_le {T : Ty} (h : mayT 3 T = true) : may T = true := mayT_up 3 T h
theorem Blk.nxt1 (w : World) (o : Obj) (t : TypeId) (cs : Array Value) : Blk ((w.alloc o).alloc (.cells cs t)) (w.heap.size + 1) t cs := by
 have := Blk.new_ (w.alloc o) t cs
 simpa using this
theorem below_set7 {B : Nat} {u w : World} {b : Nat} (h : Below B u w) (hB : B ≤ b) (b0 b1 b2 b3 b4 b5 b6 : Value) :
 Below B u (((((((w.setCell ⟨b, 0, none⟩ b0).setCell ⟨b, 1, none⟩ b1).setCell ⟨b, 2, none⟩ b2).setCell ⟨b, 3, none⟩ b3).setCell ⟨b, 4, none⟩ b4).setCell ⟨b, 5, none⟩ b5).setCell ⟨b, 6, none⟩ b6) :=
 ((((((h.setCell (p := ⟨b, 0, none⟩) hB _).setCell (p := ⟨b, 1, none⟩) hB _).setCell (p := ⟨b, 2, none⟩) hB _).setCell (p := ⟨b, 3, none⟩) hB _).setCell (p := ⟨b, 4, none⟩) hB _).setCell (p := ⟨b, 5, none⟩) hB _).setCell (p := ⟨b, 6, none⟩) hB _
theorem Blk.set7 {w : World} {b : Nat} {t : TypeId} {a0 a1 a2 a3 a4 a5 a6 : Value} (h : Blk w b t #[a0, a1, a2, a3, a4, a5, a6]) (b0 b1 b2 b3 b4 b5 b6 : Value) :
 Blk (((((((w.setCell ⟨b, 0, none⟩ b0).setCell ⟨b, 1, none⟩ b1).setCell ⟨b, 2, none⟩ b2).setCell ⟨b, 3, none⟩ b3).setCell ⟨b, 4, none⟩ b4).setCell ⟨b, 5, none⟩ b5).setCell ⟨b, 6, none⟩ b6) b t #[b0, b1, b2, b3, b4, b5, b6] := by
 have := ((((((h.set_ 0 b0).set_ 1 b1).set_ 2 b2).set_ 3 b3).set_ 4 b4).set_ 5 b5).set_ 6 b6
 simpa using this
def digitI (c : Int) : Bool := decide (48 ≤ c) && decide (c ≤ 57)
theorem letterR_any (c : Int) (w : World) : Calls Tryz.prog 51 #[.int .u8 c] w fun e w' => e = .returned (.bool (letterI c)) ∧ w' = w := by
 go_enter Tryz.func51, Tryz.ntmps51
 go_wp2
 all_goals go_ret
 all_goals refine ⟨?_, rfl⟩
 all_goals
  have e1 : letterI c = ((decide (97 ≤ c) && decide (c ≤ 122)) || (decide (65 ≤ c) && decide (c ≤ 90))) := rfl
  rw [e1]
  simp_all <;> (try omega)
theorem digitR_any (c : Int) (w : World) : Calls Tryz.prog 52 #[.int .u8 c] w fun e w' => e = .returned (.bool (digitI c)) ∧ w' = w := by
 go_enter Tryz.func52, Tryz.ntmps52
 go_wp2
 all_goals go_ret
 all_goals refine ⟨?_, rfl⟩
 all_goals
  have e1 : digitI c = (decide (48 ≤ c) && decide (c ≤ 57)) := rfl
  rw [e1]
  simp_all <;> (try omega)
theorem strIn_no {l : List ByteArray} {s : ByteArray} (h : ∀ j (h : j < l.length), l[j] ≠ s) : strIn l s = false := by
 simp only [strIn, decide_eq_false_iff_not]
 intro hm
 obtain ⟨j, hj, e⟩ := List.getElem_of_mem hm
 exact h j hj e
theorem strIn_yes {l : List ByteArray} {s : ByteArray} {k : Nat} (hk : k < l.length) (h : l[k] = s) : strIn l s = true := by
 simp only [strIn, decide_eq_true_eq]
 exact h ▸ List.getElem_mem hk
def AmongRel (l : List ByteArray) (s : ByteArray) (i : Value) : Prop := ∃ k : Nat, k ≤ l.length ∧ i = .int .i64 k ∧ ∀ j (h : j < l.length), j < k → l[j] ≠ s
theorem str_beq_iff' (x y : ByteArray) : (x.toList == y.toList) = true ↔ x = y := by
 rw [beq_iff_eq, ByteArray.toList_eq, ByteArray.toList_eq]
 exact ⟨fun h => ByteArray.ext (Array.toList_inj.mp h), fun h => by rw [h]⟩
theorem among_any (A : Option Addr) (c : Nat) (l : List ByteArray) (s : ByteArray) (w : World) (hr : Row w A (l.map .string)) (hmx : l.length ≤ maxLen) :
 Calls Tryz.prog 43 #[.slice A l.length c, .string s] w fun e w' => e = .returned (.bool (strIn l s)) ∧ w' = w := by
 unfold maxLen at hmx
 go_enter Tryz.func43, Tryz.ntmps43
 go_wp2
 go_loop [5] (fun i => AmongRel l s i) (fun i => l.length - (intOf i).toNat)
 case atStart => exact ⟨0, Nat.zero_le _, rfl, fun j _ h => absurd h (by omega)⟩
 case round =>
  obtain ⟨k, hk, rfl, hg⟩ := hrel
  by_cases hlt : k < l.length
  ·obtain ⟨b, o, rfl, hbl, c0⟩ := hr.str hlt
   have hi : (k : Int) < (l.length : Int) := by omega
   have HG := Lh hg
   clear hg
   by_cases he : l[k] = s
   ·have hy := Lh (strIn_yes hlt he)
    have t : (l[k].toList == s.toList) = true := (str_beq_iff' _ _).2 he
    clear he
    go_wp2
    go_ret
    exact ⟨by rw [hy.out]; rfl, rfl⟩
   ·have HE := Lh he
    have t : (l[k].toList == s.toList) = false := by
     rcases h : (l[k].toList == s.toList) with _ | _
     ·rfl
     ·exact absurd ((str_beq_iff' _ _).1 h) he
    clear he
    go_wp2
    go_round
    case rel => exact ⟨k + 1, by omega, by go_num, fun j h hj => by
     rcases Nat.lt_or_ge j k with h1 | h1
     ·exact HG.out j h h1
     ·obtain rfl : j = k := by omega
      exact HE.out⟩
    case measure => simp [intOf] <;> omega
  ·have hi : (l.length : Int) ≤ (k : Int) := by omega
   have hy := Lh (strIn_no (l := l) (s := s) fun j h => hg j h (by omega))
   clear hg
   go_wp2
   go_ret
   exact ⟨by rw [hy.out]; rfl, rfl⟩
theorem reserved_any (w : World) : Calls Tryz.prog 53 #[] w fun e w' => e = .returned (.slice (some ⟨w.heap.size, 0, none⟩) wordsR.length wordsR.length) ∧ Row w' (some ⟨w.heap.size, 0, none⟩) (wordsR.map .string) ∧ Below w.heap.size w w' := by
 go_enter Tryz.func53, Tryz.ntmps53
 go_wp2
 go_ret
 refine ⟨rfl, ?_, bel⟩
 exact Row.of_blk (n := 14) (Blk.new_ _ _ _) (by kernel_rfl)
theorem reserved_eq {s : ByteArray} (h : 32 ∉ s.data.toList) : reserved s = strIn wordsR s := by
 rw [Bool.eq_iff_iff, reserved_iff s h]
 simp only [strIn, decide_eq_true_eq, List.mem_map]
 exact ⟨fun ⟨a, ha, e⟩ => (Go.WideShapes.bytes_inj e) ▸ ha, fun hm => ⟨s, hm, rfl⟩⟩
def NameRel (s : ByteArray) (i : Value) : Prop := ∃ k : Nat, k ≤ s.size ∧ i = .int .i64 k ∧ (1 ≤ k → letterI (byteI s 0) = true) ∧ ∀ j, 1 ≤ j → j < k → chrI (byteI s j) = true
theorem nameR_any (s : ByteArray) (w : World) : Calls Tryz.prog 22 #[.string s] w fun e w' => e = .returned (.bool (nameOf s)) ∧ Below w.heap.size w w' := by
 by_cases h1 : 1 ≤ s.size
 ·by_cases h2 : s.size ≤ 16
  ·have d1 : ¬ ((s.size : Int) < 1) := by omega
   have d2 : ¬ (16 < (s.size : Int)) := by omega
   go_enter Tryz.func22, Tryz.ntmps22
   go_wp2
   go_loopw [3] (fun i wr => NameRel s i ∧ wr = w) (fun i _ => s.size - (intOf i).toNat)
   case atStart => exact ⟨⟨0, Nat.zero_le _, rfl, fun h => absurd h (by omega), fun j _ h => absurd h (by omega)⟩, rfl⟩
   case round =>
    obtain ⟨⟨k, hk, rfl, hg0, hg⟩, rfl⟩ := hrel
    by_cases hlt : k < s.size
    ·have hi : (k : Int) < (s.size : Int) := by omega
     have hb := byteI_at hlt
     have hno : (letterI (byteI s k) = false ∧ (k = 0 ∨ chrI (byteI s k) = false)) → nameOf s = false := fun ⟨hl, hc⟩ => name_no (by
      rintro ⟨-, -, h3, h4⟩
      by_cases h0 : k = 0
      ·subst h0; rw [hl] at h3; cases h3
      ·rcases hc with h | h
       ·exact h0 h
       ·rw [h4 k (by omega) hlt] at h; cases h)
     have hyes : (letterI (byteI s k) = true ∨ (k ≠ 0 ∧ chrI (byteI s k) = true)) → NameRel s (.int .i64 ((k : Int) + 1)) := fun hc => ⟨k + 1, by omega, by go_num, fun _ => by
      by_cases h0 : k = 0
      ·subst h0
       rcases hc with h | h
       ·exact h
       ·exact absurd rfl h.1
      ·exact hg0 (by omega), fun j hj1 hj2 => by
      rcases Nat.lt_or_ge j k with h | h
      ·exact hg j hj1 h
      ·obtain rfl : j = k := by omega
       rcases hc with h | h
       ·rw [chr_split, h]; rfl
       ·exact h.2⟩
     rw [chr_split] at hno hyes
     rw [hb] at hno hyes
     clear hg0 hg hb
     have HNO := Lh hno
     have HYES := Lh hyes
     clear hno hyes
     have hc255 : ((s[k]'hlt).toNat : Int) < 256 := by have := (s[k]'hlt).toNat_lt; omega
     have hc0 : (0 : Int) ≤ ((s[k]'hlt).toNat : Int) := by omega
     rcases hl : letterI ((s[k]'hlt).toNat : Int) with _ | _
     ·by_cases h0 : k = 0
      ·subst h0
       have hn := Lh (HNO.out ⟨hl, .inl rfl⟩)
       go_wp2_with (go_at_call 51; refine (letterR_any _ _).mono ?_; rintro e w' ⟨rfl, hw⟩; subst hw)
       go_ret
       exact ⟨by rw [hn.out]; rfl, Below.refl _ _⟩
      ·have hk0 : ((k : Int) == 0) = false := by simp; omega
       rcases hd : digitI ((s[k]'hlt).toNat : Int) with _ | _
       ·by_cases h95 : (s[k]'hlt).toNat = 95
        ·have t : (((s[k]'hlt).toNat : Int) != 95) = false := by simp; omega
         have hr := Lh (HYES.out (.inr ⟨h0, by rw [h95]; rfl⟩))
         clear h95
         go_wp2_with (first | (go_at_call 51; refine (letterR_any _ _).mono ?_; rintro e w' ⟨rfl, hw⟩; subst hw) | (go_at_call 52; refine (digitR_any _ _).mono ?_; rintro e w' ⟨rfl, hw⟩; subst hw))
         go_roundw
         case rel => exact ⟨hr.out, by first | trivial | rfl⟩
         case measure => simp [intOf] <;> omega
        ·have t : (((s[k]'hlt).toNat : Int) != 95) = true := by simp; omega
         have hn := Lh (HNO.out ⟨hl, .inr (by
          have e1 : digitI ((s[k]'hlt).toNat : Int) = (decide ((48 : Int) ≤ ((s[k]'hlt).toNat : Int)) && decide (((s[k]'hlt).toNat : Int) ≤ 57)) := rfl
          rw [hl, ← e1, hd]
          simp
          omega)⟩)
         clear h95
         go_wp2_with (first | (go_at_call 51; refine (letterR_any _ _).mono ?_; rintro e w' ⟨rfl, hw⟩; subst hw) | (go_at_call 52; refine (digitR_any _ _).mono ?_; rintro e w' ⟨rfl, hw⟩; subst hw))
         go_ret
         exact ⟨by rw [hn.out]; rfl, Below.refl _ _⟩
       ·have hr := Lh (HYES.out (.inr ⟨h0, by
         have e1 : digitI ((s[k]'hlt).toNat : Int) = (decide ((48 : Int) ≤ ((s[k]'hlt).toNat : Int)) && decide (((s[k]'hlt).toNat : Int) ≤ 57)) := rfl
         rw [← e1, hd]; simp⟩))
        go_wp2_with (first | (go_at_call 51; refine (letterR_any _ _).mono ?_; rintro e w' ⟨rfl, hw⟩; subst hw) | (go_at_call 52; refine (digitR_any _ _).mono ?_; rintro e w' ⟨rfl, hw⟩; subst hw))
        go_roundw
        case rel => exact ⟨hr.out, by first | trivial | rfl⟩
        case measure => simp [intOf] <;> omega
     ·have hr := Lh (HYES.out (.inl hl))
      go_wp2_with (go_at_call 51; refine (letterR_any _ _).mono ?_; rintro e w' ⟨rfl, hw⟩; subst hw)
      go_roundw
      case rel => exact ⟨hr.out, by first | trivial | rfl⟩
      case measure => simp [intOf] <;> omega
    ·have hi : (s.size : Int) ≤ (k : Int) := by omega
     have hl0 := hg0 (by omega)
     have hall : ∀ j, 1 ≤ j → j < s.size → chrI (byteI s j) = true := fun j a b => hg j a (by omega)
     have hno32 : 32 ∉ s.data.toList := fun hm => by
      obtain ⟨j, hj, e⟩ := List.getElem_of_mem hm
      have hj' : j < s.size := by simpa using hj
      have eb : byteI s j = 32 := by
       rw [byteI_at hj']
       have : s[j]'hj' = 32 := by rw [← e]; rfl
       rw [this]; rfl
      by_cases h0 : j = 0
      ·subst h0; rw [eb] at hl0; exact absurd hl0 (by decide)
      ·have := hall j (by omega) hj'; rw [eb] at this; exact absurd this (by decide)
     have hn : Hid (nameOf s = !strIn wordsR s) := by show _ = _; rw [name_of h1 h2 hl0 hall, reserved_eq hno32]
     clear hg0 hg hl0 hall hno32
     go_wp2_with fail
     refine (reserved_any _).mono ?_
     rintro e w1 ⟨rfl, hrow, hb⟩
     go_wp2_with fail
     refine (among_any _ _ wordsR s _ hrow (by unfold maxLen; decide)).mono ?_
     rintro e w2 ⟨rfl, hw⟩
     subst hw
     go_wp2
     go_ret
     exact ⟨by rw [hn.out]; rfl, hb⟩
  ·have hn : nameOf s = false := name_no (by rintro ⟨-, h2', -⟩; exact h2 h2')
   have d1 : ¬ ((s.size : Int) < 1) := by omega
   have d2 : 16 < (s.size : Int) := by omega
   have HN := Lh hn
   clear hn
   go_enter Tryz.func22, Tryz.ntmps22
   go_wp2
   go_ret
   exact ⟨by rw [HN.out]; rfl, Below.refl _ _⟩
 ·have hn : nameOf s = false := name_no (by rintro ⟨h1', -⟩; exact h1 h1')
  have d1 : (s.size : Int) < 1 := by omega
  have HN := Lh hn
  clear hn
  go_enter Tryz.func22, Tryz.ntmps22
  go_wp2
  go_ret
  exact ⟨by rw [HN.out]; rfl, Below.refl _ _⟩
end Go.Proofs.YthihaeobkoiljaaGreat
