/- All tokens of a text, by the reference (scarfjointref5.Scan); Tokens: there are no more of them than characters; each may be one. -/
import Derived.Test.YtgegfbopogcjpaaGreatDoorQ07
namespace Go.Proofs.YtgegfbopogcjpaaGreatDoor
open Go.RowKit Go.Shelf
set_option linter.unusedVariables false
set_option linter.unusedSimpArgs false
set_option maxRecDepth 100000
set_option maxHeartbeats 4000000
def RefI (w : World) (s : ByteArray) (v nt av : Value) (wr : World) : Prop := ∃ (j : Nat) (note : Bool) (acc : List Tok), nt = .bool note ∧ av = .int .i64 j ∧
 Hid (j ≤ s.size ∧ lexA s note j acc = lexA s false 0 [] ∧ acc.length ≤ j ∧ wr.ownsRow w.heap.size 50 3 v acc.length (acc.flatMap tkC) ∧ Blk wr w.heap.size 27 #[.int .i64 0, .int .i64 0] ∧ Below w.heap.size w wr)
def ToI (s : ByteArray) (j : Nat) (wo : World) (tv : Value) (wr : World) : Prop := ∃ m : Nat, tv = .int .i64 m ∧ Hid (j ≤ m ∧ m ≤ s.size ∧ endOf s chrI m = endOf s chrI j) ∧ wr = wo
theorem ref_next {w wr : World} {s : ByteArray} {v : Value} {j : Nat} {note : Bool} {acc : List Tok} (c : Int) (n' : Bool) (hc : byteI s j = c) (hlt : j < s.size) (hp : passI note c = true) (hn : noteI note c = n')
 (HJ : Hid (j ≤ s.size ∧ lexA s note j acc = lexA s false 0 [] ∧ acc.length ≤ j ∧ wr.ownsRow w.heap.size 50 3 v acc.length (acc.flatMap tkC) ∧ Blk wr w.heap.size 27 #[.int .i64 0, .int .i64 0] ∧ Below w.heap.size w wr)) :
 RefI w s v (.bool n') (.int .i64 ((j : Int) + 1)) wr := by
 refine ⟨j + 1, n', acc, rfl, by go_num, Lib.hid ⟨hlt, ?_, by have := HJ.out.2.2.1; omega, HJ.out.2.2.2⟩⟩
 rw [← HJ.out.2.1, lexA_pass hlt (by rw [hc]; exact hp), hc, hn]
theorem signText_size {s : ByteArray} {j : Nat} (hj : j < s.size) : (s.extract j (j + signLen s j)).size = signLen s j := by
 rw [ByteArray.size_extract]
 have : j + signLen s j ≤ s.size := by
  rw [signLen_eq]
  rcases hd : dots s j with _ | _
  ·rcases he : eqs s j with _ | _
   ·simp only [Bool.false_eq_true, if_false]
    split <;> omega
   ·simp only [Bool.false_eq_true, if_false, if_true]
    exact (eqs_size he).1
  ·simp only [if_true]
   exact (dots_size hd).1
 omega
theorem refScan_any (s : ByteArray) (w : World) : Calls Tryz.prog 14 #[.string s] w (LexOut s w) := by
 by_cases h4 : 4000 < s.size
 ·have hL : lexOf s = ⟨[], 1, 0⟩ := by unfold lexOf; rw [if_pos h4]
  have d1 : (4000 : Int) < (s.size : Int) := by omega
  have HL := Lib.hid hL
  clear hL
  go_enter Tryz.func14, Tryz.ntmps14
  go_wp2_with fail
  exact bodyPost_ret (results_scan (by kernel_rfl) (Blk.new_ w 27 #[.int .i64 1, .int .i64 0]) rfl rfl) rfl ⟨none, 0, by rw [HL.out]; rfl, by rw [HL.out]; exact .inl rfl, by (repeat (first | with_reducible assumption | with_reducible exact Below.refl _ _ | (refine Below.setCell ?_ (by first | omega | (simp; done) | (simp; omega)) _) | (refine Below.drewN_ ?_ _) | (refine Below.drew ?_) | (refine Below.alloc ?_ (by first | omega | (simp; done) | (simp; omega)) _)))⟩
 ·have hL : lexOf s = lexA s false 0 [] := by unfold lexOf; rw [if_neg h4]
  have d1 : ¬ (4000 : Int) < (s.size : Int) := by omega
  have hs : s.size ≤ 4000 := by omega
  have HL := Lib.hid hL
  have B1 : Below w.heap.size w (w.alloc (.cells #[.int .i64 0, .int .i64 0] 27)) := by (repeat (first | with_reducible assumption | with_reducible exact Below.refl _ _ | (refine Below.setCell ?_ (by first | omega | (simp; done) | (simp; omega)) _) | (refine Below.drewN_ ?_ _) | (refine Below.drew ?_) | (refine Below.alloc ?_ (by first | omega | (simp; done) | (simp; omega)) _)))
  have KF := Lib.hid (Blk.new_ w 27 #[.int .i64 0, .int .i64 0])
  have HI : Hid (RefI w s (.slice none 0 0) (.bool false) (.int .i64 ((0 : Nat) : Int)) (w.alloc (.cells #[.int .i64 0, .int .i64 0] 27))) :=
   ⟨0, false, [], rfl, rfl, Lib.hid ⟨Nat.zero_le _, rfl, Nat.zero_le _, World.ownsRow_nil _ _ _ _, KF.out, B1⟩⟩
  obtain ⟨i0, hi0, hz0, hz1, hz2⟩ := info_parts info_token
  clear hL h4 B1 KF
  go_enter Tryz.func14, Tryz.ntmps14
  go_wp2_with fail
  go_loopw [4, 5, 6] (fun v nt av wr => RefI w s v nt av wr) (fun _ _ av _ => s.size - (intOf av).toNat)
  case atStart => exact HI.out
  case round =>
   clear HI
   obtain ⟨j, note, acc, rfl, rfl, HJ⟩ := hrel
   have hj := HJ.out.1
   have hj0 : (0 : Int) ≤ (j : Int) := by omega
   by_cases hlt : j < s.size
   ·have g1 : (j : Int) < (s.size : Int) := by omega
    have hby := byteI_at hlt
    rcases note with _ | _
    ·by_cases h32 : byteI s j = 32
     ·have hc : ((s[j]'hlt).toNat : Int) = 32 := by rw [← hby]; exact h32
      have H32 := Lib.hid h32
      clear h32 hby
      go_wp2_with fail
      go_roundw
      case rel => exact ref_next 32 false (H32.out) hlt rfl rfl HJ
      case measure => simp [intOf]; omega
     by_cases h10 : byteI s j = 10
     ·have hc : ((s[j]'hlt).toNat : Int) = 10 := by rw [← hby]; exact h10
      have H10 := Lib.hid h10
      clear h10 hby h32
      go_wp2_with fail
      go_roundw
      case rel => exact ref_next 10 false (H10.out) hlt rfl rfl HJ
      case measure => simp [intOf]; omega
     by_cases h35 : byteI s j = 35
     ·have hc : ((s[j]'hlt).toNat : Int) = 35 := by rw [← hby]; exact h35
      have H35 := Lib.hid h35
      clear h35 hby h32 h10
      go_wp2_with fail
      go_roundw
      case rel => exact ref_next 35 true (H35.out) hlt rfl rfl HJ
      case measure => simp [intOf]; omega
     have hsk : skip s false j = j := skip_here hlt (by simp [blankI, h32, h10]) h35
     have n32 : (((s[j]'hlt).toNat : Int) == 32) = false := by rw [beq_eq_false_iff_ne, ← hby]; exact h32
     have n10 : (((s[j]'hlt).toNat : Int) == 10) = false := by rw [beq_eq_false_iff_ne, ← hby]; exact h10
     have n35 : (((s[j]'hlt).toNat : Int) == 35) = false := by rw [beq_eq_false_iff_ne, ← hby]; exact h35
     have HSK := Lib.hid hsk
     have HBY := Lib.hid hby
     clear h32 h10 h35 hsk hby
     go_wp2_with fail
     obtain ⟨wo, rfl⟩ : ∃ wo : World, wo = wr := ⟨_, rfl⟩
     go_loopw [8] (fun tv wr => ToI s j wo tv wr) (fun tv _ => s.size - (intOf tv).toNat)
     case atStart => exact ⟨j, rfl, Lib.hid ⟨Nat.le_refl _, hj, rfl⟩, rfl⟩
     case round =>
      obtain ⟨m, rfl, HM, rfl⟩ := hrel
      have hm := HM.out.2.1
      have hjm := HM.out.1
      have hm0 : (0 : Int) ≤ (m : Int) := by omega
      by_cases hmt : m < s.size
      ·have d2 : decide ((m : Int) < (s.size : Int)) = true := by rw [decide_eq_true_eq]; omega
       have d3 : (m : Int) < (s.size : Int) := by omega
       rcases hp : chrI (byteI s m) with _ | _
       ·have hp' : chrI ((s[m]'hmt).toNat : Int) = false := by rw [← byteI_at hmt]; exact hp
        have HZ : Hid (endOf s chrI j = m) := by show _ = _; rw [← HM.out.2.2]; exact endOf_stop fun _ => hp
        clear hp
        go_wp2_with (go_at_call 35; refine (inside_any _ _).mono ?_; rintro e w' ⟨rfl, hw⟩; subst hw)
        have hge : j ≤ m := hjm
        refine (sign_any (s.extract j s.size) _ (by rw [ByteArray.size_extract]; omega)).mono ?_
        rintro e w2 ⟨rfl, hb⟩
        rw [find_at s j hlt]
        have hb2 : Below w.heap.size w w2 := below_trans HJ.out.2.2.2.2.2 (Nat.le_refl _) hb
        have hown2 := own_below HJ.out.2.2.2.1 hb
        have kf2 := HJ.out.2.2.2.2.1.below hb
        have hsz2 : w.heap.size ≤ w2.heap.size := hb2.size
        have y0 := kf2.cell 0 (.int .i64 0) rfl
        have y1 := kf2.cell 1 (.int .i64 0) rfl
        have z0 := kf2.free 0
        have z1 := kf2.free 1
        have HB2 := Lib.hid hb2
        have HO2 := Lib.hid hown2
        have KF2 := Lib.hid kf2
        have HTB : Hid (some w2.heap.size ≠ u4.ownBlock) := own_ne_new hown2 (Nat.le_refl _)
        have hwlt : w.heap.size < w2.heap.size := kf2.lt
        clear hb hb2 hown2 kf2
        rcases hl : letterI (byteI s j) with _ | _
        ·have hl' : letterI ((s[j]'hlt).toNat : Int) = false := by rw [← HBY.out]; exact hl
         rcases hd : digitI (byteI s j) with _ | _
         ·have hd' : digitI ((s[j]'hlt).toNat : Int) = false := by rw [← HBY.out]; exact hd
          have HS5 : Hid ((s.extract j (j + signLen s j)).size = signLen s j) := signText_size hlt
          have HT : Hid (tokAt s j = ⟨if signLen s j = 0 then 2 else 0, 4, s.extract j (j + signLen s j), j + signLen s j⟩) := by show _ = _; unfold tokAt; rw [if_neg (by rw [hl]; simp), if_neg (by rw [hd]; simp)]
          have HTO : Hid (signLen s j = 0 ∨ j + signLen s j ≤ s.size) := by
           have h1 := HS5.out
           rw [ByteArray.size_extract] at h1
           show _ ∨ _
           omega
          clear hl hd
          generalize hT : s.extract j (j + signLen s j) = T at *
          clear hT
          by_cases h0 : signLen s j = 0
          ·have hTe : T.toList = [] := by
            rw [ByteArray.toList_eq]
            exact List.eq_nil_of_length_eq_zero (by rw [Array.length_toList]; show T.size = 0; rw [HS5.out]; exact h0)
           have hTf : T.toList.isEmpty = true := by rw [hTe]; rfl
           have HE : Hid ((tokAt s j).e = 2) := by show _ = _; rw [HT.out]; show (if _ then _ else _) = _; rw [if_pos h0]
           clear HT h0 HTO HS5
           go_wp2_with (first  | (go_at_call 37; refine (refLetter_any _ _).mono ?_; rintro e w' ⟨rfl, hw⟩; subst hw)  | (go_at_call 38; refine (refDigit_any _ _).mono ?_; rintro e w' ⟨rfl, hw⟩; subst hw))
           have HR : Hid (lexOf s = ⟨[], (tokAt s j).e, j⟩) := by
            show _ = _
            rw [HL.out, ← HJ.out.2.1]
            have h1 : skip s false j < s.size := by rw [HSK.out]; exact hlt
            have := lexA_bad (s := s) (note := false) (k := j) h1 (by rw [HSK.out, HE.out]; decide) acc
            rw [HSK.out] at this
            exact this
           exact bodyPost_ret (results_scan (by kernel_rfl) (Blk.alloc (blk_set2 KF2.out _ _) _) rfl rfl) rfl ⟨none, 0, by rw [HR.out, HE.out]; rfl, by rw [HR.out]; exact .inl rfl, ((HB2.out.setCell (p := ⟨w.heap.size, 0, none⟩) (Nat.le_refl _) _).setCell (p := ⟨w.heap.size, 1, none⟩) (Nat.le_refl _) _).alloc (by simpa [World.setCell] using hsz2) _⟩
          ·have hTe : ¬ T.toList = [] := by
            rw [ByteArray.toList_eq]
            intro h
            apply h0
            rw [← HS5.out]
            show T.data.size = 0
            rw [← Array.length_toList, h]
            rfl
           have hTf : T.toList.isEmpty = false := by
            rcases h : T.toList with _ | _
            ·exact absurd h hTe
            ·rfl
           have HE : Hid (tokAt s j = ⟨0, 4, T, j + signLen s j⟩) := by show _ = _; rw [HT.out, if_neg h0]
           have hz1' : j + signLen s j ≤ s.size := by rcases HTO.out with h | h <;> omega
           have hz2' : j < j + signLen s j := by omega
           have hts : j + T.size = j + signLen s j := by rw [HS5.out]
           clear HT h0 HTO HS5
           generalize j + signLen s j = z at *
           have hal : acc.length ≤ 4000 := by have := HJ.out.2.2.1; omega
           go_wp2_with (first
            | (go_at_call 37; refine (refLetter_any _ _).mono ?_; rintro e w' ⟨rfl, hw⟩; subst hw)
            | (go_at_call 38; refine (refDigit_any _ _).mono ?_; rintro e w' ⟨rfl, hw⟩; subst hw)
            | (at_builtin; refine wpList_append_own _ rfl _ _ 35 rfl w.heap.size 50 i0 (.agg #[.int .i64 0, .string ⟨#[]⟩, .int .i64 0]) 3 32 Tryz.underlying35 hi0 hz0 hz1 hz2 rfl (by decide) _ _ _ rfl ((HO2.out.alloc _).alloc _) ⟨w2.heap.size + 1, 0, none⟩ 1 1 [.int .i64 4, .string T, .int .i64 (j : Int)] rfl rfl (World.news_of_block (cs := #[.int .i64 4, .string T, .int .i64 (j : Int)]) (t := 50) (fr := (0, 0)) (heap_new (by simp))) (by simp [Value.oneCell']) (by unfold maxLen; omega) (by omega) (by simp; omega) ?_; intro v' w3 hown3 hgrow3 _; have kt3 := ((Blk.new_ w2 50 #[.int .i64 4, .string T, .int .i64 (j : Int)]).alloc (.cells #[.int .i64 4, .string T, .int .i64 (j : Int)] 50)).grown hgrow3 HTB.out; have x0 := kt3.cell 0 (.int .i64 4) rfl; have x1 := kt3.cell 1 (.string T) rfl))
           have kf3 := ((KF2.out.alloc (.cells #[.int .i64 4, .string T, .int .i64 (j : Int)] 50)).alloc (.cells #[.int .i64 4, .string T, .int .i64 (j : Int)] 50)).grown hgrow3 (own_blk HO2.out KF2.out (by decide))
           have hb3 : Below w.heap.size w w3 := ((HB2.out.alloc hsz2 (.cells #[.int .i64 4, .string T, .int .i64 (j : Int)] 50)).alloc (by simp; omega) (.cells #[.int .i64 4, .string T, .int .i64 (j : Int)] 50)).grown hgrow3 (by simp; omega) (own_ge HO2.out)
           have hx : acc.flatMap tkC ++ [.int .i64 4, .string T, .int .i64 (j : Int)] = (acc ++ [(⟨4, T, j⟩ : Tok)]).flatMap tkC := by simp [tkC]
           have hy : acc.length + 1 = (acc ++ [(⟨4, T, j⟩ : Tok)]).length := by simp
           rw [hx, hy] at hown3
           have HF : Hid (RefI w s v' (.bool false) (.int .i64 (z : Nat)) w3) := ⟨z, false, acc ++ [(⟨4, T, j⟩ : Tok)], rfl, rfl, Lib.hid ⟨by omega, by
            have h1 : skip s false j < s.size := by rw [HSK.out]; exact hlt
            have := lexA_one (s := s) (note := false) (k := j) h1 (by rw [HSK.out, HE.out]) acc
            rw [HSK.out, HE.out] at this
            exact this.symm.trans HJ.out.2.1, by rw [← hy]; have := HJ.out.2.2.1; omega, hown3, kf3, hb3⟩⟩
           clear kf3 hb3 hx hy hown3 hgrow3 kt3 HE HJ y0 y1 z0 z1
           try go_wp2_with fail
           go_roundw
           case rel => (rw [show (j : Int) + (T.size : Int) = ((z : Nat) : Int) by omega]; exact HF.out)
           case measure => simp [intOf]; omega
         ·have hd' : digitI ((s[j]'hlt).toNat : Int) = true := by rw [← HBY.out]; exact hd
          have hgt : j < m := by rw [← HZ.out]; exact endOf_gt hlt (chr_of_digit hd)
          have hrow : digitI (byteI (s.extract j m) 0) = true := by rw [byteI_extract (by omega) hm]; exact hd
          have HTK : Hid (tokAt s j = ⟨numE (s.extract j m), numK (s.extract j m), digitsOf (s.extract j m), m⟩) := by show _ = _; unfold tokAt; rw [if_neg (by rw [hl]; simp), if_pos hd, HZ.out]
          have hrs : (s.extract j m).size = m - j := by rw [ByteArray.size_extract]; omega
          have HNUM : Hid (∀ W : World, Calls Tryz.prog 39 #[.string (s.extract j m)] W fun e w' => e = .returned (.tuple #[.agg (if numE (s.extract j m) = 0 then tokC (numK (s.extract j m)) (digitsOf (s.extract j m)) 0 else zeroT), .int .i64 (numE (s.extract j m))]) ∧ Below W.heap.size W w') := fun W => row_any (s.extract j m) W (by omega) (by omega) hrow
          clear hl hd hrow hrs
          generalize s.extract j (j + signLen s j) = SG at *
          go_wp2_with (first  | (go_at_call 37; refine (refLetter_any _ _).mono ?_; rintro e w' ⟨rfl, hw⟩; subst hw)  | (go_at_call 38; refine (refDigit_any _ _).mono ?_; rintro e w' ⟨rfl, hw⟩; subst hw))
          generalize s.extract j m = R at *
          by_cases h0 : numE R = 0
          ·have HE : Hid (tokAt s j = ⟨0, numK R, digitsOf R, m⟩) := by show _ = _; rw [HTK.out, h0]
           have hK4 : (numK R == 4) = false := by unfold numK; split <;> rfl
           rw [if_pos h0, h0] at HNUM
           unfold tokC at HNUM
           clear HTK h0
           generalize numK R = K at *
           generalize digitsOf R = T at *
           refine (HNUM.out _).mono ?_
           clear HNUM
           rintro e w3 ⟨rfl, hb3⟩
           have kt3 : Blk w3 w2.heap.size 50 #[.int .i64 4, .string SG, .int .i64 0] := (Blk.new_ w2 50 #[.int .i64 4, .string SG, .int .i64 0]).below hb3
           have HO3 := Lib.hid (own_below (HO2.out.alloc (.cells #[.int .i64 4, .string SG, .int .i64 0] 50)) hb3)
           have KF3 := Lib.hid (Blk.below (KF2.out.alloc (.cells #[.int .i64 4, .string SG, .int .i64 0] 50)) hb3)
           have HB3 : Hid (Below w.heap.size w w3) := below_trans (HB2.out.alloc hsz2 (.cells #[.int .i64 4, .string SG, .int .i64 0] 50)) (Nat.le_refl _) hb3
           clear hb3 y0 y1 z0 z1
           have x0 := kt3.cell 0 (.int .i64 4) rfl
           have x1 := kt3.cell 1 (.string SG) rfl
           have x2 := kt3.cell 2 (.int .i64 0) rfl
           have f0 := kt3.free 0
           have f1 := kt3.free 1
           have f2 := kt3.free 2
           have y0 := KF3.out.cell 0 (.int .i64 0) rfl
           have y1 := KF3.out.cell 1 (.int .i64 0) rfl
           have z0 := KF3.out.free 0
           have z1 := KF3.out.free 1
           have KT3 := Lib.hid kt3
           clear kt3
           go_upto_region 24 with (fail)
           obtain ⟨w4, hw4⟩ : ∃ W : World, W = ((w3.setCell ⟨w2.heap.size, 0, none⟩ (.int .i64 K)).setCell ⟨w2.heap.size, 1, none⟩ (.string T)).setCell ⟨w2.heap.size, 2, none⟩ (.int .i64 0) := ⟨_, rfl⟩
           rw [← hw4]
           have KT4 : Hid (Blk w4 w2.heap.size 50 #[(.int .i64 K), (.string T), .int .i64 0]) := by
            show Blk w4 _ _ _
            rw [hw4]
            exact lblk_set3 KT3.out _ _ _
           have KF4 : Hid (Blk w4 w.heap.size 27 #[.int .i64 0, .int .i64 0]) := by
            show Blk w4 _ _ _
            rw [hw4]
            exact ((Blk.far KF3.out (p := ⟨w2.heap.size, 0, none⟩) (Nat.ne_of_lt hwlt) _).far (p := ⟨w2.heap.size, 1, none⟩) (Nat.ne_of_lt hwlt) _).far (p := ⟨w2.heap.size, 2, none⟩) (Nat.ne_of_lt hwlt) _
           have HB4 : Hid (Below w.heap.size w w4) := by
            show Below _ _ w4
            rw [hw4]
            exact below_set3 HB3.out hsz2 _ _ _
           have HO4 : Hid (w4.ownsRow w.heap.size 50 3 u4 acc.length (acc.flatMap tkC)) := by
            show World.ownsRow w4 _ _ _ _ _ _
            rw [hw4]
            exact own_set (own_set (own_set HO3.out (p := ⟨w2.heap.size, 0, none⟩) HTB.out _) (p := ⟨w2.heap.size, 1, none⟩) HTB.out _) (p := ⟨w2.heap.size, 2, none⟩) HTB.out _
           clear hw4 x0 x1 x2 f0 f1 f2 y0 y1 z0 z1 KT3 KF3 HB3 HO3
           have x0 := KT4.out.cell 0 (.int .i64 K) rfl
           have x1 := KT4.out.cell 1 (.string T) rfl
           have x2 := KT4.out.cell 2 (.int .i64 0) rfl
           have f2 := KT4.out.free 2
           have y0 := KF4.out.cell 0 (.int .i64 0) rfl
           have y1 := KF4.out.cell 1 (.int .i64 0) rfl
           have z0 := KF4.out.free 0
           have z1 := KF4.out.free 1
           have hal : acc.length ≤ 4000 := by have := HJ.out.2.2.1; omega
           go_wp2_with (at_builtin; refine wpList_append_own _ rfl _ _ 35 rfl w.heap.size 50 i0 (.agg #[.int .i64 0, .string ⟨#[]⟩, .int .i64 0]) 3 32 Tryz.underlying35 hi0 hz0 hz1 hz2 rfl (by decide) _ _ _ rfl ((own_set HO4.out (p := ⟨w2.heap.size, 2, none⟩) HTB.out _).alloc _) ⟨w4.heap.size, 0, none⟩ 1 1 [.int .i64 K, .string T, .int .i64 (j : Int)] rfl rfl (World.news_of_block (cs := #[.int .i64 K, .string T, .int .i64 (j : Int)]) (t := 50) (fr := (0, 0)) (heap_new (by simp [World.setCell]))) (by simp [Value.oneCell']) (by unfold maxLen; omega) (by omega) (by have := HB4.out.size; simp [World.setCell]; omega) ?_; intro v' w5 hown5 hgrow5 _; have kt5 := ((KT4.out.set_ 2 (.int .i64 (j : Int))).alloc (.cells #[.int .i64 K, .string T, .int .i64 (j : Int)] 50)).grown hgrow5 HTB.out; have x0 := kt5.cell 0 (.int .i64 K) rfl; have x1 := kt5.cell 1 (.string T) rfl)
           have kf5 := ((Blk.far KF4.out (p := ⟨w2.heap.size, 2, none⟩) (Nat.ne_of_lt hwlt) (.int .i64 (j : Int))).alloc (.cells #[.int .i64 K, .string T, .int .i64 (j : Int)] 50)).grown hgrow5 (own_blk HO4.out KF4.out (by decide))
           have hb5 : Below w.heap.size w w5 := ((HB4.out.setCell (p := ⟨w2.heap.size, 2, none⟩) hsz2 (.int .i64 (j : Int))).alloc (by have := HB4.out.size; simp [World.setCell]; omega) (.cells #[.int .i64 K, .string T, .int .i64 (j : Int)] 50)).grown hgrow5 (by have := HB4.out.size; simp [World.setCell]; omega) (own_ge HO4.out)
           have hx : acc.flatMap tkC ++ [.int .i64 K, .string T, .int .i64 (j : Int)] = (acc ++ [(⟨K, T, j⟩ : Tok)]).flatMap tkC := by simp [tkC]
           have hy : acc.length + 1 = (acc ++ [(⟨K, T, j⟩ : Tok)]).length := by simp
           rw [hx, hy] at hown5
           have HF : Hid (RefI w s v' (.bool false) (.int .i64 (m : Nat)) w5) := ⟨m, false, acc ++ [(⟨K, T, j⟩ : Tok)], rfl, rfl, Lib.hid ⟨by omega, by
            have h1 : skip s false j < s.size := by rw [HSK.out]; exact hlt
            have := lexA_one (s := s) (note := false) (k := j) h1 (by rw [HSK.out, HE.out]) acc
            rw [HSK.out, HE.out] at this
            exact this.symm.trans HJ.out.2.1, by rw [← hy]; have := HJ.out.2.2.1; omega, hown5, kf5, hb5⟩⟩
           clear kf5 hb5 hx hy hown5 hgrow5 kt5 HE HJ y0 y1 z0 z1 x2 f2 KF4 KT4 HB4 HO4
           try go_wp2_with fail
           go_roundw
           case rel => exact HF.out
           case measure => simp [intOf]; omega
          ·have HE : Hid ((tokAt s j).e = numE R) := by show _ = _; rw [HTK.out]
           have hbe : (numE R != 0) = true := by simpa using h0
           have HBE := Lib.hid hbe
           rw [if_neg h0] at HNUM
           unfold zeroT at HNUM
           clear HTK h0
           generalize numE R = E at *
           refine (HNUM.out _).mono ?_
           clear HNUM
           rintro e w3 ⟨rfl, hb3⟩
           have kt3 : Blk w3 w2.heap.size 50 #[.int .i64 4, .string SG, .int .i64 0] := (Blk.new_ w2 50 #[.int .i64 4, .string SG, .int .i64 0]).below hb3
           have HO3 := Lib.hid (own_below (HO2.out.alloc (.cells #[.int .i64 4, .string SG, .int .i64 0] 50)) hb3)
           have KF3 := Lib.hid (Blk.below (KF2.out.alloc (.cells #[.int .i64 4, .string SG, .int .i64 0] 50)) hb3)
           have HB3 : Hid (Below w.heap.size w w3) := below_trans (HB2.out.alloc hsz2 (.cells #[.int .i64 4, .string SG, .int .i64 0] 50)) (Nat.le_refl _) hb3
           clear hb3 y0 y1 z0 z1
           have x0 := kt3.cell 0 (.int .i64 4) rfl
           have x1 := kt3.cell 1 (.string SG) rfl
           have x2 := kt3.cell 2 (.int .i64 0) rfl
           have f0 := kt3.free 0
           have f1 := kt3.free 1
           have f2 := kt3.free 2
           have y0 := KF3.out.cell 0 (.int .i64 0) rfl
           have y1 := KF3.out.cell 1 (.int .i64 0) rfl
           have z0 := KF3.out.free 0
           have z1 := KF3.out.free 1
           have KT3 := Lib.hid kt3
           clear kt3
           go_upto_region 24 with (fail)
           obtain ⟨w4, hw4⟩ : ∃ W : World, W = ((w3.setCell ⟨w2.heap.size, 0, none⟩ (.int .i64 0)).setCell ⟨w2.heap.size, 1, none⟩ (.string ⟨#[]⟩)).setCell ⟨w2.heap.size, 2, none⟩ (.int .i64 0) := ⟨_, rfl⟩
           rw [← hw4]
           have KT4 : Hid (Blk w4 w2.heap.size 50 #[(.int .i64 0), (.string ⟨#[]⟩), .int .i64 0]) := by
            show Blk w4 _ _ _
            rw [hw4]
            exact lblk_set3 KT3.out _ _ _
           have KF4 : Hid (Blk w4 w.heap.size 27 #[.int .i64 0, .int .i64 0]) := by
            show Blk w4 _ _ _
            rw [hw4]
            exact ((Blk.far KF3.out (p := ⟨w2.heap.size, 0, none⟩) (Nat.ne_of_lt hwlt) _).far (p := ⟨w2.heap.size, 1, none⟩) (Nat.ne_of_lt hwlt) _).far (p := ⟨w2.heap.size, 2, none⟩) (Nat.ne_of_lt hwlt) _
           have HB4 : Hid (Below w.heap.size w w4) := by
            show Below _ _ w4
            rw [hw4]
            exact below_set3 HB3.out hsz2 _ _ _
           have HO4 : Hid (w4.ownsRow w.heap.size 50 3 u4 acc.length (acc.flatMap tkC)) := by
            show World.ownsRow w4 _ _ _ _ _ _
            rw [hw4]
            exact own_set (own_set (own_set HO3.out (p := ⟨w2.heap.size, 0, none⟩) HTB.out _) (p := ⟨w2.heap.size, 1, none⟩) HTB.out _) (p := ⟨w2.heap.size, 2, none⟩) HTB.out _
           clear hw4 x0 x1 x2 f0 f1 f2 y0 y1 z0 z1 KT3 KF3 HB3 HO3
           have x0 := KT4.out.cell 0 (.int .i64 0) rfl
           have x1 := KT4.out.cell 1 (.string ⟨#[]⟩) rfl
           have x2 := KT4.out.cell 2 (.int .i64 0) rfl
           have f2 := KT4.out.free 2
           have y0 := KF4.out.cell 0 (.int .i64 0) rfl
           have y1 := KF4.out.cell 1 (.int .i64 0) rfl
           have z0 := KF4.out.free 0
           have z1 := KF4.out.free 1
           have HR : Hid (lexOf s = ⟨[], (tokAt s j).e, j⟩) := by
            show _ = _
            rw [HL.out, ← HJ.out.2.1]
            have h1 : skip s false j < s.size := by rw [HSK.out]; exact hlt
            have := lexA_bad (s := s) (note := false) (k := j) h1 (by rw [HSK.out, HE.out]; simpa using HBE.out) acc
            rw [HSK.out] at this
            exact this
           go_wp2_with fail
           exact bodyPost_ret (results_scan (by kernel_rfl) (blk_set2 KF4.out _ _) rfl rfl) rfl ⟨none, 0, by rw [HR.out, HE.out]; rfl, by rw [HR.out]; exact .inl rfl, (HB4.out.setCell (p := ⟨w.heap.size, 0, none⟩) (Nat.le_refl _) _).setCell (p := ⟨w.heap.size, 1, none⟩) (Nat.le_refl _) _⟩
        ·have hl' : letterI ((s[j]'hlt).toNat : Int) = true := by rw [← HBY.out]; exact hl
         have hgt : j < m := by rw [← HZ.out]; exact endOf_gt hlt (chr_of_letter hl)
         have HTK : Hid (tokAt s j = ⟨if 16 < m - j then 1 else 0, 1, s.extract j m, m⟩) := by show _ = _; unfold tokAt; rw [if_pos hl, HZ.out]
         clear hl
         generalize s.extract j (j + signLen s j) = SG at *
         by_cases h16 : 16 < m - j
         ·have hd16 : (16 : Int) < (m : Int) - (j : Int) := by omega
          have HE : Hid ((tokAt s j).e = 1) := by show _ = _; rw [HTK.out]; show (if _ then _ else _) = _; rw [if_pos h16]
          clear HTK
          go_wp2_with (first  | (go_at_call 37; refine (refLetter_any _ _).mono ?_; rintro e w' ⟨rfl, hw⟩; subst hw)  | (go_at_call 38; refine (refDigit_any _ _).mono ?_; rintro e w' ⟨rfl, hw⟩; subst hw))
          have HR : Hid (lexOf s = ⟨[], (tokAt s j).e, j⟩) := by
           show _ = _
           rw [HL.out, ← HJ.out.2.1]
           have h1 : skip s false j < s.size := by rw [HSK.out]; exact hlt
           have := lexA_bad (s := s) (note := false) (k := j) h1 (by rw [HSK.out, HE.out]; decide) acc
           rw [HSK.out] at this
           exact this
          exact bodyPost_ret (results_scan (by kernel_rfl) (Blk.alloc (blk_set2 KF2.out _ _) _) rfl rfl) rfl ⟨none, 0, by rw [HR.out, HE.out]; rfl, by rw [HR.out]; exact .inl rfl, ((HB2.out.setCell (p := ⟨w.heap.size, 0, none⟩) (Nat.le_refl _) _).setCell (p := ⟨w.heap.size, 1, none⟩) (Nat.le_refl _) _).alloc (by simpa [World.setCell] using hsz2) _⟩
         ·have hd16 : ¬ (16 : Int) < (m : Int) - (j : Int) := by omega
          have HE : Hid (tokAt s j = ⟨0, 1, s.extract j m, m⟩) := by show _ = _; rw [HTK.out, if_neg h16]
          clear HTK
          have hal : acc.length ≤ 4000 := by have := HJ.out.2.2.1; omega
          go_wp2_with (first
           | (go_at_call 37; refine (refLetter_any _ _).mono ?_; rintro e w' ⟨rfl, hw⟩; subst hw)
           | (go_at_call 38; refine (refDigit_any _ _).mono ?_; rintro e w' ⟨rfl, hw⟩; subst hw)
           | (at_builtin; refine wpList_append_own _ rfl _ _ 35 rfl w.heap.size 50 i0 (.agg #[.int .i64 0, .string ⟨#[]⟩, .int .i64 0]) 3 32 Tryz.underlying35 hi0 hz0 hz1 hz2 rfl (by decide) _ _ _ rfl ((HO2.out.alloc _).alloc _) ⟨w2.heap.size + 1, 0, none⟩ 1 1 [.int .i64 1, .string (s.extract j m), .int .i64 (j : Int)] rfl rfl (World.news_of_block (cs := #[.int .i64 1, .string (s.extract j m), .int .i64 (j : Int)]) (t := 50) (fr := (0, 0)) (heap_new (by simp))) (by simp [Value.oneCell']) (by unfold maxLen; omega) (by omega) (by simp; omega) ?_; intro v' w3 hown3 hgrow3 _; have kt3 := ((Blk.new_ w2 50 #[.int .i64 1, .string (s.extract j m), .int .i64 (j : Int)]).alloc (.cells #[.int .i64 1, .string (s.extract j m), .int .i64 (j : Int)] 50)).grown hgrow3 HTB.out; have x0 := kt3.cell 0 (.int .i64 1) rfl; have x1 := kt3.cell 1 (.string (s.extract j m)) rfl))
          have kf3 := ((KF2.out.alloc (.cells #[.int .i64 1, .string (s.extract j m), .int .i64 (j : Int)] 50)).alloc (.cells #[.int .i64 1, .string (s.extract j m), .int .i64 (j : Int)] 50)).grown hgrow3 (own_blk HO2.out KF2.out (by decide))
          have hb3 : Below w.heap.size w w3 := ((HB2.out.alloc hsz2 (.cells #[.int .i64 1, .string (s.extract j m), .int .i64 (j : Int)] 50)).alloc (by simp; omega) (.cells #[.int .i64 1, .string (s.extract j m), .int .i64 (j : Int)] 50)).grown hgrow3 (by simp; omega) (own_ge HO2.out)
          have hx : acc.flatMap tkC ++ [.int .i64 1, .string (s.extract j m), .int .i64 (j : Int)] = (acc ++ [(⟨1, (s.extract j m), j⟩ : Tok)]).flatMap tkC := by simp [tkC]
          have hy : acc.length + 1 = (acc ++ [(⟨1, (s.extract j m), j⟩ : Tok)]).length := by simp
          rw [hx, hy] at hown3
          have HF : Hid (RefI w s v' (.bool false) (.int .i64 (m : Nat)) w3) := ⟨m, false, acc ++ [(⟨1, (s.extract j m), j⟩ : Tok)], rfl, rfl, Lib.hid ⟨by omega, by
           have h1 : skip s false j < s.size := by rw [HSK.out]; exact hlt
           have := lexA_one (s := s) (note := false) (k := j) h1 (by rw [HSK.out, HE.out]) acc
           rw [HSK.out, HE.out] at this
           exact this.symm.trans HJ.out.2.1, by rw [← hy]; have := HJ.out.2.2.1; omega, hown3, kf3, hb3⟩⟩
          clear kf3 hb3 hx hy hown3 hgrow3 kt3 HE HJ y0 y1 z0 z1
          try go_wp2_with fail
          go_roundw
          case rel => exact HF.out
          case measure => simp [intOf]; omega
       ·have hp' : chrI ((s[m]'hmt).toNat : Int) = true := by rw [← byteI_at hmt]; exact hp
        have HP := Lib.hid hp
        clear hp
        go_wp2_with (go_at_call 35; refine (inside_any _ _).mono ?_; rintro e w' ⟨rfl, hw⟩; subst hw)
        go_roundw
        case rel => exact ⟨m + 1, by go_num, Lib.hid ⟨by omega, hmt, (endOf_go hmt HP.out).symm.trans HM.out.2.2⟩, by first | trivial | rfl⟩
        case measure => simp [intOf]; omega
      ·have d2 : decide ((m : Int) < (s.size : Int)) = false := by rw [decide_eq_false_iff_not]; omega
       have HZ : Hid (endOf s chrI j = m) := by show _ = _; rw [← HM.out.2.2]; exact endOf_stop fun h => absurd h hmt
       go_wp2_with fail
       have hge : j ≤ m := hjm
       refine (sign_any (s.extract j s.size) _ (by rw [ByteArray.size_extract]; omega)).mono ?_
       rintro e w2 ⟨rfl, hb⟩
       rw [find_at s j hlt]
       have hb2 : Below w.heap.size w w2 := below_trans HJ.out.2.2.2.2.2 (Nat.le_refl _) hb
       have hown2 := own_below HJ.out.2.2.2.1 hb
       have kf2 := HJ.out.2.2.2.2.1.below hb
       have hsz2 : w.heap.size ≤ w2.heap.size := hb2.size
       have y0 := kf2.cell 0 (.int .i64 0) rfl
       have y1 := kf2.cell 1 (.int .i64 0) rfl
       have z0 := kf2.free 0
       have z1 := kf2.free 1
       have HB2 := Lib.hid hb2
       have HO2 := Lib.hid hown2
       have KF2 := Lib.hid kf2
       have HTB : Hid (some w2.heap.size ≠ u4.ownBlock) := own_ne_new hown2 (Nat.le_refl _)
       have hwlt : w.heap.size < w2.heap.size := kf2.lt
       clear hb hb2 hown2 kf2
       rcases hl : letterI (byteI s j) with _ | _
       ·have hl' : letterI ((s[j]'hlt).toNat : Int) = false := by rw [← HBY.out]; exact hl
        rcases hd : digitI (byteI s j) with _ | _
        ·have hd' : digitI ((s[j]'hlt).toNat : Int) = false := by rw [← HBY.out]; exact hd
         have HS5 : Hid ((s.extract j (j + signLen s j)).size = signLen s j) := signText_size hlt
         have HT : Hid (tokAt s j = ⟨if signLen s j = 0 then 2 else 0, 4, s.extract j (j + signLen s j), j + signLen s j⟩) := by show _ = _; unfold tokAt; rw [if_neg (by rw [hl]; simp), if_neg (by rw [hd]; simp)]
         have HTO : Hid (signLen s j = 0 ∨ j + signLen s j ≤ s.size) := by
          have h1 := HS5.out
          rw [ByteArray.size_extract] at h1
          show _ ∨ _
          omega
         clear hl hd
         generalize hT : s.extract j (j + signLen s j) = T at *
         clear hT
         by_cases h0 : signLen s j = 0
         ·have hTe : T.toList = [] := by
           rw [ByteArray.toList_eq]
           exact List.eq_nil_of_length_eq_zero (by rw [Array.length_toList]; show T.size = 0; rw [HS5.out]; exact h0)
          have hTf : T.toList.isEmpty = true := by rw [hTe]; rfl
          have HE : Hid ((tokAt s j).e = 2) := by show _ = _; rw [HT.out]; show (if _ then _ else _) = _; rw [if_pos h0]
          clear HT h0 HTO HS5
          go_wp2_with (first  | (go_at_call 37; refine (refLetter_any _ _).mono ?_; rintro e w' ⟨rfl, hw⟩; subst hw)  | (go_at_call 38; refine (refDigit_any _ _).mono ?_; rintro e w' ⟨rfl, hw⟩; subst hw))
          have HR : Hid (lexOf s = ⟨[], (tokAt s j).e, j⟩) := by
           show _ = _
           rw [HL.out, ← HJ.out.2.1]
           have h1 : skip s false j < s.size := by rw [HSK.out]; exact hlt
           have := lexA_bad (s := s) (note := false) (k := j) h1 (by rw [HSK.out, HE.out]; decide) acc
           rw [HSK.out] at this
           exact this
          exact bodyPost_ret (results_scan (by kernel_rfl) (Blk.alloc (blk_set2 KF2.out _ _) _) rfl rfl) rfl ⟨none, 0, by rw [HR.out, HE.out]; rfl, by rw [HR.out]; exact .inl rfl, ((HB2.out.setCell (p := ⟨w.heap.size, 0, none⟩) (Nat.le_refl _) _).setCell (p := ⟨w.heap.size, 1, none⟩) (Nat.le_refl _) _).alloc (by simpa [World.setCell] using hsz2) _⟩
         ·have hTe : ¬ T.toList = [] := by
           rw [ByteArray.toList_eq]
           intro h
           apply h0
           rw [← HS5.out]
           show T.data.size = 0
           rw [← Array.length_toList, h]
           rfl
          have hTf : T.toList.isEmpty = false := by
           rcases h : T.toList with _ | _
           ·exact absurd h hTe
           ·rfl
          have HE : Hid (tokAt s j = ⟨0, 4, T, j + signLen s j⟩) := by show _ = _; rw [HT.out, if_neg h0]
          have hz1' : j + signLen s j ≤ s.size := by rcases HTO.out with h | h <;> omega
          have hz2' : j < j + signLen s j := by omega
          have hts : j + T.size = j + signLen s j := by rw [HS5.out]
          clear HT h0 HTO HS5
          generalize j + signLen s j = z at *
          have hal : acc.length ≤ 4000 := by have := HJ.out.2.2.1; omega
          go_wp2_with (first
           | (go_at_call 37; refine (refLetter_any _ _).mono ?_; rintro e w' ⟨rfl, hw⟩; subst hw)
           | (go_at_call 38; refine (refDigit_any _ _).mono ?_; rintro e w' ⟨rfl, hw⟩; subst hw)
           | (at_builtin; refine wpList_append_own _ rfl _ _ 35 rfl w.heap.size 50 i0 (.agg #[.int .i64 0, .string ⟨#[]⟩, .int .i64 0]) 3 32 Tryz.underlying35 hi0 hz0 hz1 hz2 rfl (by decide) _ _ _ rfl ((HO2.out.alloc _).alloc _) ⟨w2.heap.size + 1, 0, none⟩ 1 1 [.int .i64 4, .string T, .int .i64 (j : Int)] rfl rfl (World.news_of_block (cs := #[.int .i64 4, .string T, .int .i64 (j : Int)]) (t := 50) (fr := (0, 0)) (heap_new (by simp))) (by simp [Value.oneCell']) (by unfold maxLen; omega) (by omega) (by simp; omega) ?_; intro v' w3 hown3 hgrow3 _; have kt3 := ((Blk.new_ w2 50 #[.int .i64 4, .string T, .int .i64 (j : Int)]).alloc (.cells #[.int .i64 4, .string T, .int .i64 (j : Int)] 50)).grown hgrow3 HTB.out; have x0 := kt3.cell 0 (.int .i64 4) rfl; have x1 := kt3.cell 1 (.string T) rfl))
          have kf3 := ((KF2.out.alloc (.cells #[.int .i64 4, .string T, .int .i64 (j : Int)] 50)).alloc (.cells #[.int .i64 4, .string T, .int .i64 (j : Int)] 50)).grown hgrow3 (own_blk HO2.out KF2.out (by decide))
          have hb3 : Below w.heap.size w w3 := ((HB2.out.alloc hsz2 (.cells #[.int .i64 4, .string T, .int .i64 (j : Int)] 50)).alloc (by simp; omega) (.cells #[.int .i64 4, .string T, .int .i64 (j : Int)] 50)).grown hgrow3 (by simp; omega) (own_ge HO2.out)
          have hx : acc.flatMap tkC ++ [.int .i64 4, .string T, .int .i64 (j : Int)] = (acc ++ [(⟨4, T, j⟩ : Tok)]).flatMap tkC := by simp [tkC]
          have hy : acc.length + 1 = (acc ++ [(⟨4, T, j⟩ : Tok)]).length := by simp
          rw [hx, hy] at hown3
          have HF : Hid (RefI w s v' (.bool false) (.int .i64 (z : Nat)) w3) := ⟨z, false, acc ++ [(⟨4, T, j⟩ : Tok)], rfl, rfl, Lib.hid ⟨by omega, by
           have h1 : skip s false j < s.size := by rw [HSK.out]; exact hlt
           have := lexA_one (s := s) (note := false) (k := j) h1 (by rw [HSK.out, HE.out]) acc
           rw [HSK.out, HE.out] at this
           exact this.symm.trans HJ.out.2.1, by rw [← hy]; have := HJ.out.2.2.1; omega, hown3, kf3, hb3⟩⟩
          clear kf3 hb3 hx hy hown3 hgrow3 kt3 HE HJ y0 y1 z0 z1
          try go_wp2_with fail
          go_roundw
          case rel => (rw [show (j : Int) + (T.size : Int) = ((z : Nat) : Int) by omega]; exact HF.out)
          case measure => simp [intOf]; omega
        ·have hd' : digitI ((s[j]'hlt).toNat : Int) = true := by rw [← HBY.out]; exact hd
         have hgt : j < m := by rw [← HZ.out]; exact endOf_gt hlt (chr_of_digit hd)
         have hrow : digitI (byteI (s.extract j m) 0) = true := by rw [byteI_extract (by omega) hm]; exact hd
         have HTK : Hid (tokAt s j = ⟨numE (s.extract j m), numK (s.extract j m), digitsOf (s.extract j m), m⟩) := by show _ = _; unfold tokAt; rw [if_neg (by rw [hl]; simp), if_pos hd, HZ.out]
         have hrs : (s.extract j m).size = m - j := by rw [ByteArray.size_extract]; omega
         have HNUM : Hid (∀ W : World, Calls Tryz.prog 39 #[.string (s.extract j m)] W fun e w' => e = .returned (.tuple #[.agg (if numE (s.extract j m) = 0 then tokC (numK (s.extract j m)) (digitsOf (s.extract j m)) 0 else zeroT), .int .i64 (numE (s.extract j m))]) ∧ Below W.heap.size W w') := fun W => row_any (s.extract j m) W (by omega) (by omega) hrow
         clear hl hd hrow hrs
         generalize s.extract j (j + signLen s j) = SG at *
         go_wp2_with (first  | (go_at_call 37; refine (refLetter_any _ _).mono ?_; rintro e w' ⟨rfl, hw⟩; subst hw)  | (go_at_call 38; refine (refDigit_any _ _).mono ?_; rintro e w' ⟨rfl, hw⟩; subst hw))
         generalize s.extract j m = R at *
         by_cases h0 : numE R = 0
         ·have HE : Hid (tokAt s j = ⟨0, numK R, digitsOf R, m⟩) := by show _ = _; rw [HTK.out, h0]
          have hK4 : (numK R == 4) = false := by unfold numK; split <;> rfl
          rw [if_pos h0, h0] at HNUM
          unfold tokC at HNUM
          clear HTK h0
          generalize numK R = K at *
          generalize digitsOf R = T at *
          refine (HNUM.out _).mono ?_
          clear HNUM
          rintro e w3 ⟨rfl, hb3⟩
          have kt3 : Blk w3 w2.heap.size 50 #[.int .i64 4, .string SG, .int .i64 0] := (Blk.new_ w2 50 #[.int .i64 4, .string SG, .int .i64 0]).below hb3
          have HO3 := Lib.hid (own_below (HO2.out.alloc (.cells #[.int .i64 4, .string SG, .int .i64 0] 50)) hb3)
          have KF3 := Lib.hid (Blk.below (KF2.out.alloc (.cells #[.int .i64 4, .string SG, .int .i64 0] 50)) hb3)
          have HB3 : Hid (Below w.heap.size w w3) := below_trans (HB2.out.alloc hsz2 (.cells #[.int .i64 4, .string SG, .int .i64 0] 50)) (Nat.le_refl _) hb3
          clear hb3 y0 y1 z0 z1
          have x0 := kt3.cell 0 (.int .i64 4) rfl
          have x1 := kt3.cell 1 (.string SG) rfl
          have x2 := kt3.cell 2 (.int .i64 0) rfl
          have f0 := kt3.free 0
          have f1 := kt3.free 1
          have f2 := kt3.free 2
          have y0 := KF3.out.cell 0 (.int .i64 0) rfl
          have y1 := KF3.out.cell 1 (.int .i64 0) rfl
          have z0 := KF3.out.free 0
          have z1 := KF3.out.free 1
          have KT3 := Lib.hid kt3
          clear kt3
          go_upto_region 24 with (fail)
          obtain ⟨w4, hw4⟩ : ∃ W : World, W = ((w3.setCell ⟨w2.heap.size, 0, none⟩ (.int .i64 K)).setCell ⟨w2.heap.size, 1, none⟩ (.string T)).setCell ⟨w2.heap.size, 2, none⟩ (.int .i64 0) := ⟨_, rfl⟩
          rw [← hw4]
          have KT4 : Hid (Blk w4 w2.heap.size 50 #[(.int .i64 K), (.string T), .int .i64 0]) := by
           show Blk w4 _ _ _
           rw [hw4]
           exact lblk_set3 KT3.out _ _ _
          have KF4 : Hid (Blk w4 w.heap.size 27 #[.int .i64 0, .int .i64 0]) := by
           show Blk w4 _ _ _
           rw [hw4]
           exact ((Blk.far KF3.out (p := ⟨w2.heap.size, 0, none⟩) (Nat.ne_of_lt hwlt) _).far (p := ⟨w2.heap.size, 1, none⟩) (Nat.ne_of_lt hwlt) _).far (p := ⟨w2.heap.size, 2, none⟩) (Nat.ne_of_lt hwlt) _
          have HB4 : Hid (Below w.heap.size w w4) := by
           show Below _ _ w4
           rw [hw4]
           exact below_set3 HB3.out hsz2 _ _ _
          have HO4 : Hid (w4.ownsRow w.heap.size 50 3 u4 acc.length (acc.flatMap tkC)) := by
           show World.ownsRow w4 _ _ _ _ _ _
           rw [hw4]
           exact own_set (own_set (own_set HO3.out (p := ⟨w2.heap.size, 0, none⟩) HTB.out _) (p := ⟨w2.heap.size, 1, none⟩) HTB.out _) (p := ⟨w2.heap.size, 2, none⟩) HTB.out _
          clear hw4 x0 x1 x2 f0 f1 f2 y0 y1 z0 z1 KT3 KF3 HB3 HO3
          have x0 := KT4.out.cell 0 (.int .i64 K) rfl
          have x1 := KT4.out.cell 1 (.string T) rfl
          have x2 := KT4.out.cell 2 (.int .i64 0) rfl
          have f2 := KT4.out.free 2
          have y0 := KF4.out.cell 0 (.int .i64 0) rfl
          have y1 := KF4.out.cell 1 (.int .i64 0) rfl
          have z0 := KF4.out.free 0
          have z1 := KF4.out.free 1
          have hal : acc.length ≤ 4000 := by have := HJ.out.2.2.1; omega
          go_wp2_with (at_builtin; refine wpList_append_own _ rfl _ _ 35 rfl w.heap.size 50 i0 (.agg #[.int .i64 0, .string ⟨#[]⟩, .int .i64 0]) 3 32 Tryz.underlying35 hi0 hz0 hz1 hz2 rfl (by decide) _ _ _ rfl ((own_set HO4.out (p := ⟨w2.heap.size, 2, none⟩) HTB.out _).alloc _) ⟨w4.heap.size, 0, none⟩ 1 1 [.int .i64 K, .string T, .int .i64 (j : Int)] rfl rfl (World.news_of_block (cs := #[.int .i64 K, .string T, .int .i64 (j : Int)]) (t := 50) (fr := (0, 0)) (heap_new (by simp [World.setCell]))) (by simp [Value.oneCell']) (by unfold maxLen; omega) (by omega) (by have := HB4.out.size; simp [World.setCell]; omega) ?_; intro v' w5 hown5 hgrow5 _; have kt5 := ((KT4.out.set_ 2 (.int .i64 (j : Int))).alloc (.cells #[.int .i64 K, .string T, .int .i64 (j : Int)] 50)).grown hgrow5 HTB.out; have x0 := kt5.cell 0 (.int .i64 K) rfl; have x1 := kt5.cell 1 (.string T) rfl)
          have kf5 := ((Blk.far KF4.out (p := ⟨w2.heap.size, 2, none⟩) (Nat.ne_of_lt hwlt) (.int .i64 (j : Int))).alloc (.cells #[.int .i64 K, .string T, .int .i64 (j : Int)] 50)).grown hgrow5 (own_blk HO4.out KF4.out (by decide))
          have hb5 : Below w.heap.size w w5 := ((HB4.out.setCell (p := ⟨w2.heap.size, 2, none⟩) hsz2 (.int .i64 (j : Int))).alloc (by have := HB4.out.size; simp [World.setCell]; omega) (.cells #[.int .i64 K, .string T, .int .i64 (j : Int)] 50)).grown hgrow5 (by have := HB4.out.size; simp [World.setCell]; omega) (own_ge HO4.out)
          have hx : acc.flatMap tkC ++ [.int .i64 K, .string T, .int .i64 (j : Int)] = (acc ++ [(⟨K, T, j⟩ : Tok)]).flatMap tkC := by simp [tkC]
          have hy : acc.length + 1 = (acc ++ [(⟨K, T, j⟩ : Tok)]).length := by simp
          rw [hx, hy] at hown5
          have HF : Hid (RefI w s v' (.bool false) (.int .i64 (m : Nat)) w5) := ⟨m, false, acc ++ [(⟨K, T, j⟩ : Tok)], rfl, rfl, Lib.hid ⟨by omega, by
           have h1 : skip s false j < s.size := by rw [HSK.out]; exact hlt
           have := lexA_one (s := s) (note := false) (k := j) h1 (by rw [HSK.out, HE.out]) acc
           rw [HSK.out, HE.out] at this
           exact this.symm.trans HJ.out.2.1, by rw [← hy]; have := HJ.out.2.2.1; omega, hown5, kf5, hb5⟩⟩
          clear kf5 hb5 hx hy hown5 hgrow5 kt5 HE HJ y0 y1 z0 z1 x2 f2 KF4 KT4 HB4 HO4
          try go_wp2_with fail
          go_roundw
          case rel => exact HF.out
          case measure => simp [intOf]; omega
         ·have HE : Hid ((tokAt s j).e = numE R) := by show _ = _; rw [HTK.out]
          have hbe : (numE R != 0) = true := by simpa using h0
          have HBE := Lib.hid hbe
          rw [if_neg h0] at HNUM
          unfold zeroT at HNUM
          clear HTK h0
          generalize numE R = E at *
          refine (HNUM.out _).mono ?_
          clear HNUM
          rintro e w3 ⟨rfl, hb3⟩
          have kt3 : Blk w3 w2.heap.size 50 #[.int .i64 4, .string SG, .int .i64 0] := (Blk.new_ w2 50 #[.int .i64 4, .string SG, .int .i64 0]).below hb3
          have HO3 := Lib.hid (own_below (HO2.out.alloc (.cells #[.int .i64 4, .string SG, .int .i64 0] 50)) hb3)
          have KF3 := Lib.hid (Blk.below (KF2.out.alloc (.cells #[.int .i64 4, .string SG, .int .i64 0] 50)) hb3)
          have HB3 : Hid (Below w.heap.size w w3) := below_trans (HB2.out.alloc hsz2 (.cells #[.int .i64 4, .string SG, .int .i64 0] 50)) (Nat.le_refl _) hb3
          clear hb3 y0 y1 z0 z1
          have x0 := kt3.cell 0 (.int .i64 4) rfl
          have x1 := kt3.cell 1 (.string SG) rfl
          have x2 := kt3.cell 2 (.int .i64 0) rfl
          have f0 := kt3.free 0
          have f1 := kt3.free 1
          have f2 := kt3.free 2
          have y0 := KF3.out.cell 0 (.int .i64 0) rfl
          have y1 := KF3.out.cell 1 (.int .i64 0) rfl
          have z0 := KF3.out.free 0
          have z1 := KF3.out.free 1
          have KT3 := Lib.hid kt3
          clear kt3
          go_upto_region 24 with (fail)
          obtain ⟨w4, hw4⟩ : ∃ W : World, W = ((w3.setCell ⟨w2.heap.size, 0, none⟩ (.int .i64 0)).setCell ⟨w2.heap.size, 1, none⟩ (.string ⟨#[]⟩)).setCell ⟨w2.heap.size, 2, none⟩ (.int .i64 0) := ⟨_, rfl⟩
          rw [← hw4]
          have KT4 : Hid (Blk w4 w2.heap.size 50 #[(.int .i64 0), (.string ⟨#[]⟩), .int .i64 0]) := by
           show Blk w4 _ _ _
           rw [hw4]
           exact lblk_set3 KT3.out _ _ _
          have KF4 : Hid (Blk w4 w.heap.size 27 #[.int .i64 0, .int .i64 0]) := by
           show Blk w4 _ _ _
           rw [hw4]
           exact ((Blk.far KF3.out (p := ⟨w2.heap.size, 0, none⟩) (Nat.ne_of_lt hwlt) _).far (p := ⟨w2.heap.size, 1, none⟩) (Nat.ne_of_lt hwlt) _).far (p := ⟨w2.heap.size, 2, none⟩) (Nat.ne_of_lt hwlt) _
          have HB4 : Hid (Below w.heap.size w w4) := by
           show Below _ _ w4
           rw [hw4]
           exact below_set3 HB3.out hsz2 _ _ _
          have HO4 : Hid (w4.ownsRow w.heap.size 50 3 u4 acc.length (acc.flatMap tkC)) := by
           show World.ownsRow w4 _ _ _ _ _ _
           rw [hw4]
           exact own_set (own_set (own_set HO3.out (p := ⟨w2.heap.size, 0, none⟩) HTB.out _) (p := ⟨w2.heap.size, 1, none⟩) HTB.out _) (p := ⟨w2.heap.size, 2, none⟩) HTB.out _
          clear hw4 x0 x1 x2 f0 f1 f2 y0 y1 z0 z1 KT3 KF3 HB3 HO3
          have x0 := KT4.out.cell 0 (.int .i64 0) rfl
          have x1 := KT4.out.cell 1 (.string ⟨#[]⟩) rfl
          have x2 := KT4.out.cell 2 (.int .i64 0) rfl
          have f2 := KT4.out.free 2
          have y0 := KF4.out.cell 0 (.int .i64 0) rfl
          have y1 := KF4.out.cell 1 (.int .i64 0) rfl
          have z0 := KF4.out.free 0
          have z1 := KF4.out.free 1
          have HR : Hid (lexOf s = ⟨[], (tokAt s j).e, j⟩) := by
           show _ = _
           rw [HL.out, ← HJ.out.2.1]
           have h1 : skip s false j < s.size := by rw [HSK.out]; exact hlt
           have := lexA_bad (s := s) (note := false) (k := j) h1 (by rw [HSK.out, HE.out]; simpa using HBE.out) acc
           rw [HSK.out] at this
           exact this
          go_wp2_with fail
          exact bodyPost_ret (results_scan (by kernel_rfl) (blk_set2 KF4.out _ _) rfl rfl) rfl ⟨none, 0, by rw [HR.out, HE.out]; rfl, by rw [HR.out]; exact .inl rfl, (HB4.out.setCell (p := ⟨w.heap.size, 0, none⟩) (Nat.le_refl _) _).setCell (p := ⟨w.heap.size, 1, none⟩) (Nat.le_refl _) _⟩
       ·have hl' : letterI ((s[j]'hlt).toNat : Int) = true := by rw [← HBY.out]; exact hl
        have hgt : j < m := by rw [← HZ.out]; exact endOf_gt hlt (chr_of_letter hl)
        have HTK : Hid (tokAt s j = ⟨if 16 < m - j then 1 else 0, 1, s.extract j m, m⟩) := by show _ = _; unfold tokAt; rw [if_pos hl, HZ.out]
        clear hl
        generalize s.extract j (j + signLen s j) = SG at *
        by_cases h16 : 16 < m - j
        ·have hd16 : (16 : Int) < (m : Int) - (j : Int) := by omega
         have HE : Hid ((tokAt s j).e = 1) := by show _ = _; rw [HTK.out]; show (if _ then _ else _) = _; rw [if_pos h16]
         clear HTK
         go_wp2_with (first  | (go_at_call 37; refine (refLetter_any _ _).mono ?_; rintro e w' ⟨rfl, hw⟩; subst hw)  | (go_at_call 38; refine (refDigit_any _ _).mono ?_; rintro e w' ⟨rfl, hw⟩; subst hw))
         have HR : Hid (lexOf s = ⟨[], (tokAt s j).e, j⟩) := by
          show _ = _
          rw [HL.out, ← HJ.out.2.1]
          have h1 : skip s false j < s.size := by rw [HSK.out]; exact hlt
          have := lexA_bad (s := s) (note := false) (k := j) h1 (by rw [HSK.out, HE.out]; decide) acc
          rw [HSK.out] at this
          exact this
         exact bodyPost_ret (results_scan (by kernel_rfl) (Blk.alloc (blk_set2 KF2.out _ _) _) rfl rfl) rfl ⟨none, 0, by rw [HR.out, HE.out]; rfl, by rw [HR.out]; exact .inl rfl, ((HB2.out.setCell (p := ⟨w.heap.size, 0, none⟩) (Nat.le_refl _) _).setCell (p := ⟨w.heap.size, 1, none⟩) (Nat.le_refl _) _).alloc (by simpa [World.setCell] using hsz2) _⟩
        ·have hd16 : ¬ (16 : Int) < (m : Int) - (j : Int) := by omega
         have HE : Hid (tokAt s j = ⟨0, 1, s.extract j m, m⟩) := by show _ = _; rw [HTK.out, if_neg h16]
         clear HTK
         have hal : acc.length ≤ 4000 := by have := HJ.out.2.2.1; omega
         go_wp2_with (first
          | (go_at_call 37; refine (refLetter_any _ _).mono ?_; rintro e w' ⟨rfl, hw⟩; subst hw)
          | (go_at_call 38; refine (refDigit_any _ _).mono ?_; rintro e w' ⟨rfl, hw⟩; subst hw)
          | (at_builtin; refine wpList_append_own _ rfl _ _ 35 rfl w.heap.size 50 i0 (.agg #[.int .i64 0, .string ⟨#[]⟩, .int .i64 0]) 3 32 Tryz.underlying35 hi0 hz0 hz1 hz2 rfl (by decide) _ _ _ rfl ((HO2.out.alloc _).alloc _) ⟨w2.heap.size + 1, 0, none⟩ 1 1 [.int .i64 1, .string (s.extract j m), .int .i64 (j : Int)] rfl rfl (World.news_of_block (cs := #[.int .i64 1, .string (s.extract j m), .int .i64 (j : Int)]) (t := 50) (fr := (0, 0)) (heap_new (by simp))) (by simp [Value.oneCell']) (by unfold maxLen; omega) (by omega) (by simp; omega) ?_; intro v' w3 hown3 hgrow3 _; have kt3 := ((Blk.new_ w2 50 #[.int .i64 1, .string (s.extract j m), .int .i64 (j : Int)]).alloc (.cells #[.int .i64 1, .string (s.extract j m), .int .i64 (j : Int)] 50)).grown hgrow3 HTB.out; have x0 := kt3.cell 0 (.int .i64 1) rfl; have x1 := kt3.cell 1 (.string (s.extract j m)) rfl))
         have kf3 := ((KF2.out.alloc (.cells #[.int .i64 1, .string (s.extract j m), .int .i64 (j : Int)] 50)).alloc (.cells #[.int .i64 1, .string (s.extract j m), .int .i64 (j : Int)] 50)).grown hgrow3 (own_blk HO2.out KF2.out (by decide))
         have hb3 : Below w.heap.size w w3 := ((HB2.out.alloc hsz2 (.cells #[.int .i64 1, .string (s.extract j m), .int .i64 (j : Int)] 50)).alloc (by simp; omega) (.cells #[.int .i64 1, .string (s.extract j m), .int .i64 (j : Int)] 50)).grown hgrow3 (by simp; omega) (own_ge HO2.out)
         have hx : acc.flatMap tkC ++ [.int .i64 1, .string (s.extract j m), .int .i64 (j : Int)] = (acc ++ [(⟨1, (s.extract j m), j⟩ : Tok)]).flatMap tkC := by simp [tkC]
         have hy : acc.length + 1 = (acc ++ [(⟨1, (s.extract j m), j⟩ : Tok)]).length := by simp
         rw [hx, hy] at hown3
         have HF : Hid (RefI w s v' (.bool false) (.int .i64 (m : Nat)) w3) := ⟨m, false, acc ++ [(⟨1, (s.extract j m), j⟩ : Tok)], rfl, rfl, Lib.hid ⟨by omega, by
          have h1 : skip s false j < s.size := by rw [HSK.out]; exact hlt
          have := lexA_one (s := s) (note := false) (k := j) h1 (by rw [HSK.out, HE.out]) acc
          rw [HSK.out, HE.out] at this
          exact this.symm.trans HJ.out.2.1, by rw [← hy]; have := HJ.out.2.2.1; omega, hown3, kf3, hb3⟩⟩
         clear kf3 hb3 hx hy hown3 hgrow3 kt3 HE HJ y0 y1 z0 z1
         try go_wp2_with fail
         go_roundw
         case rel => exact HF.out
         case measure => simp [intOf]; omega
    ·by_cases h10 : byteI s j = 10
     ·have hc : ((s[j]'hlt).toNat : Int) = 10 := by rw [← hby]; exact h10
      have H10 := Lib.hid h10
      clear h10 hby
      go_wp2_with fail
      go_roundw
      case rel => exact ref_next 10 false (H10.out) hlt rfl rfl HJ
      case measure => simp [intOf]; omega
     ·have hc : (((s[j]'hlt).toNat : Int) != 10) = true := by rw [bne_iff_ne, ← hby]; exact h10
      have H10 := Lib.hid h10
      clear h10 hby
      go_wp2_with fail
      go_roundw
      case rel => exact ref_next (byteI s j) true rfl hlt rfl (by simp [noteI, H10.out]) HJ
      case measure => simp [intOf]; omega
   ·have g1 : ¬ (j : Int) < (s.size : Int) := by omega
    have y0 := HJ.out.2.2.2.2.1.cell 0 (.int .i64 0) rfl
    have y1 := HJ.out.2.2.2.2.1.cell 1 (.int .i64 0) rfl
    have z0 := HJ.out.2.2.2.2.1.free 0
    have z1 := HJ.out.2.2.2.2.1.free 1
    go_wp2_with fail
    have hR : lexOf s = ⟨acc, 0, 0⟩ := by rw [HL.out, ← HJ.out.2.1]; exact lexA_end (by have := skip_ge (s := s) (note := note) (k := j); omega) _
    have hne := own_blk HJ.out.2.2.2.1 HJ.out.2.2.2.2.1 (by decide)
    have ho := own_set (own_set HJ.out.2.2.2.1 (p := ⟨w.heap.size, 0, none⟩) hne (.int .i64 0)) (p := ⟨w.heap.size, 1, none⟩) hne (.int .i64 0)
    obtain ⟨A, c, hv, hrow⟩ := Row.of_own ho
    exact bodyPost_ret (results_scan (by kernel_rfl) (blk_set2 HJ.out.2.2.2.2.1 _ _) rfl rfl) rfl ⟨A, c, by rw [hR]; exact congrArg (fun z => Ending.returned (.tuple #[z, .agg #[.int .i64 0, .int .i64 0]])) hv, by rw [hR]; exact hrow, (HJ.out.2.2.2.2.2.setCell (p := ⟨w.heap.size, 0, none⟩) (Nat.le_refl _) _).setCell (p := ⟨w.heap.size, 1, none⟩) (Nat.le_refl _) _⟩
end Go.Proofs.YtgegfbopogcjpaaGreatDoor
namespace Go.Proofs.YtgegfbopogcjpaaGreatDoor
set_option linter.unusedVariables false
set_option linter.unusedSimpArgs false
theorem sign_le {s : ByteArray} {j : Nat} (hj : j < s.size) : j + signLen s j ≤ s.size := by
 have h1 := signText_size hj
 rw [ByteArray.size_extract] at h1
 omega
theorem tokAt_le {s : ByteArray} {j : Nat} (hj : j < s.size) : (tokAt s j).z ≤ s.size := by
 unfold tokAt
 by_cases h1 : letterI (byteI s j) = true
 ·rw [if_pos h1]; exact endOf_le (by omega)
 ·rw [if_neg h1]
  by_cases h2 : digitI (byteI s j) = true
  ·rw [if_pos h2]; exact endOf_le (by omega)
  ·rw [if_neg h2]; exact sign_le hj
theorem lexN_len (s : ByteArray) (n : Nat) : ∀ note k acc, k ≤ s.size → (lexN s n note k acc).l.length ≤ acc.length + (s.size - k) := by
 induction n with
 | zero => intro note k acc hk; simp [lexN]
 | succ n ih =>
  intro note k acc hk
  rw [lexN]
  split
  ·rename_i hlt
   split
   ·rename_i he
    have hge := skip_ge (s := s) (note := note) (k := k)
    have hgt := tokAt_gt hlt he
    have hle := tokAt_le hlt
    have := ih false (tokAt s (skip s note k)).z (acc ++ [⟨(tokAt s (skip s note k)).k, (tokAt s (skip s note k)).t, skip s note k⟩]) hle
    rw [List.length_append, List.length_singleton] at this
    omega
   ·simp
  ·simp
theorem lexOf_len (s : ByteArray) : (lexOf s).l.length ≤ 4000 ∧ (lexOf s).l.length ≤ s.size := by
 unfold lexOf
 split
 ·simp
 ·have := lexN_len s (s.size - 0 + 1) false 0 [] (Nat.zero_le _)
  unfold lexA
  simp only [List.length_nil, Nat.sub_zero, Nat.zero_add] at this ⊢
  omega
end Go.Proofs.YtgegfbopogcjpaaGreatDoor
