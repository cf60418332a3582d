/- All tokens of a text (lex.Scan); The reference's small functions: bytes, the greater of two rows of digits, a row that begins with a digit; The reference's sign: the longest sign that a text begins with; All tokens of a text, by the reference (scarfjointref5.Scan); Tokens: there are no more of them than characters; each may be one; Tokens written one behind the other, with a blank between, are read as the same. No program is in sight; What is printed is read back, 1: the tokens of words; numbers. No program is in sight; What a node may be, kind by kind, in the order in which the printer asks. No program is in sight. -/
import Derived.Test.YtgegfbopogcjpaaGreatDoorQ02
import Derived.Test.YtgegfbopogcjpaaGreatDoorQ03
import Derived.Test.YtgegfbopogcjpaaGreatDoorQ04
import Derived.Deep.RegionHeld3
import Derived.WalkLawsBesides
import Derived.Deep.CutRange
import Derived.Deep.QuietTactic
namespace Go.Proofs.YtgegfbopogcjpaaGreatDoor
open Go.RowKit Go.Shelf
set_option linter.unusedVariables false
set_option linter.unusedSimpArgs false
set_option maxRecDepth 100000
set_option maxHeartbeats 2000000
def tkC (t : Tok) : List Value := [.int .i64 t.k, .string t.s, .int .i64 (t.p : Int)]
theorem ER.grown {w w' : World} {g : Nat} (h : ER w) (ho : w.grownBy w' (some g)) (hg : ∀ k, Tryz.prog.globalNamed "strconv.ErrRange" = some k → k ≠ g) : ER w' := by
 obtain ⟨tp, p, h⟩ := h
 refine ⟨tp, p, ?_⟩
 unfold World.var? at h ⊢
 cases hk : Tryz.prog.globalNamed "strconv.ErrRange" with
 | none => rw [hk] at h; cases h
 | some k =>
  rw [hk] at h
  simp only [Option.bind_some] at h ⊢
  have hlt : k < w.heap.size := by
   rcases Nat.lt_or_ge k w.heap.size with h' | h'
   ·exact h'
   ·rw [Array.getElem?_eq_none h'] at h; cases h
  rw [ho.block k hlt (fun e => hg k hk (by injection e))]
  exact h
theorem ER.lt {w : World} (h : ER w) (k : Nat) (hk : Tryz.prog.globalNamed "strconv.ErrRange" = some k) : k < w.heap.size := by
 obtain ⟨tp, p, h⟩ := h
 unfold World.var? at h
 rw [hk] at h
 simp only [Option.bind_some] at h
 rcases Nat.lt_or_ge k w.heap.size with h' | h'
 ·exact h'
 ·rw [Array.getElem?_eq_none h'] at h; cases h
def LexOut (s : ByteArray) (w : World) (e : Ending) (w' : World) : Prop :=
 ∃ (A : Option Addr) (c : Nat), e = .returned (.tuple #[.slice A (lexOf s).l.length c, .agg #[.int .i64 (lexOf s).e, .int .i64 ((lexOf s).p : Int)]]) ∧ Row w' A ((lexOf s).l.flatMap tkC) ∧ Below w.heap.size w w'
theorem skip_idem {s : ByteArray} {k : Nat} : skip s false (skip s false k) = skip s false k := by
 by_cases h : skip s false k < s.size
 ·obtain ⟨h1, h2⟩ := skip_end h
  exact skip_here h h1 h2
 ·exact skip_stop fun h' => absurd h' h
def LexI (w : World) (s : ByteArray) (g : Nat) (v : Value) (wr : World) : Prop := ∃ (j : Nat) (acc : List Tok),
 Hid (j ≤ s.size ∧ skip s false j = j ∧ lexA s false j acc = lexA s false 0 [] ∧ acc.length ≤ j ∧ Scn wr g s j 0 0 ∧ wr.ownsRow w.heap.size 50 3 v acc.length (acc.flatMap tkC) ∧ ER wr ∧ Blk wr w.heap.size 27 #[.int .i64 0, .int .i64 0] ∧ Below w.heap.size w wr)
theorem results_scan {fn : Func} (h : fn.results = #[.tmp 2, .cell 3 27]) {w : World} {b : Nat} {a0 a1 x : Value} {tmps : Array Value} (k : Blk w b 27 #[a0, a1]) (h2 : tmps.getD 2 undef = x) (h3 : tmps.getD 3 undef = .pointer (some ⟨b, 0, none⟩)) :
 (results fn tmps).run Tryz.prog w = .ok (.tuple #[x, .agg #[a0, a1]]) w := by
 have c0 := k.cell 0 _ rfl
 have c1 := k.cell 1 _ rfl
 simp at c0 c1
 simp only [Array.getD_eq_getD_getElem?] at h2 h3
 simp [results, h, go_sem, h2, h3, c0, c1]
theorem blk_set2 {w : World} {b : Nat} {t : TypeId} {a0 a1 : Value} (k : Blk w b t #[a0, a1]) (b0 b1 : Value) : Blk ((w.setCell ⟨b, 0, none⟩ b0).setCell ⟨b, 1, none⟩ b1) b t #[b0, b1] := (k.set_ 0 b0).set_ 1 b1
theorem info_token : (Tryz.prog.info? 50).map (fun i => (i.zero, i.size, i.bytes)) = some (some (.agg #[.int .i64 0, .string ⟨#[]⟩, .int .i64 0]), 3, 32) := by kernel_rfl
theorem scan_any (s : ByteArray) (w : World) (he : ER w) : Calls Tryz.prog 10 #[.string s] w (LexOut s w) := by
 by_cases h4 : 4000 < s.size
 ·have hL : lexOf s = ⟨[], 1, 0⟩ := by unfold lexOf; rw [if_pos h4]
  have d1 : (4000 : Int) < (s.size : Int) := by omega
  have HL := Lib.hid hL
  have HK := Lib.hid (Blk.new_ w 27 #[.int .i64 0, .int .i64 0])
  clear hL
  go_enter Tryz.func10, Tryz.ntmps10
  go_wp2_with fail
  exact bodyPost_ret (results_scan (by kernel_rfl) (Blk.new_ w 27 #[.int .i64 1, .int .i64 0]) rfl rfl) rfl ⟨none, 0, by rw [HL.out]; rfl, by rw [HL.out]; exact .inl rfl, by (repeat (first | with_reducible assumption | with_reducible exact Below.refl _ _ | (refine Below.setCell ?_ (by first | omega | (simp; done) | (simp; omega)) _) | (refine Below.drewN_ ?_ _) | (refine Below.drew ?_) | (refine Below.alloc ?_ (by first | omega | (simp; done) | (simp; omega)) _)))⟩
 ·have hL : lexOf s = lexA s false 0 [] := by unfold lexOf; rw [if_neg h4]
  have d1 : ¬ (4000 : Int) < (s.size : Int) := by omega
  have hs : s.size ≤ 4000 := by omega
  have HL := Lib.hid hL
  have B1 : Below w.heap.size w ((w.alloc (.cells #[.int .i64 0, .int .i64 0] 27)).alloc (.cells #[.string s, .int .i64 0, .int .i64 0, .int .i64 0] 63)) := by (repeat (first | with_reducible assumption | with_reducible exact Below.refl _ _ | (refine Below.setCell ?_ (by first | omega | (simp; done) | (simp; omega)) _) | (refine Below.drewN_ ?_ _) | (refine Below.drew ?_) | (refine Below.alloc ?_ (by first | omega | (simp; done) | (simp; omega)) _)))
  have hz1 : (w.alloc (.cells #[.int .i64 0, .int .i64 0] 27)).heap.size = w.heap.size + 1 := by simp
  have KS : Hid (Scn ((w.alloc (.cells #[.int .i64 0, .int .i64 0] 27)).alloc (.cells #[.string s, .int .i64 0, .int .i64 0, .int .i64 0] 63)) (w.heap.size + 1) s 0 0 0) := by
   have := Blk.new_ (w.alloc (.cells #[.int .i64 0, .int .i64 0] 27)) 63 #[.string s, .int .i64 0, .int .i64 0, .int .i64 0]
   rw [hz1] at this
   exact this
  have KF := Lib.hid ((Blk.new_ w 27 #[.int .i64 0, .int .i64 0]).alloc (.cells #[.string s, .int .i64 0, .int .i64 0, .int .i64 0] 63))
  have HGE : Hid (∀ k, Tryz.prog.globalNamed "strconv.ErrRange" = some k → k ≠ w.heap.size + 1) := fun k hk => by have := he.lt k hk; omega
  have HE0 : Hid (ER ((w.alloc (.cells #[.int .i64 0, .int .i64 0] 27)).alloc (.cells #[.string s, .int .i64 0, .int .i64 0, .int .i64 0] 63))) := ER.keep he B1
  obtain ⟨i0, hi0, hz0, hz1', hz2⟩ := info_parts info_token
  have HB1 := Lib.hid B1
  have HE := Lib.hid he
  clear hL h4 he B1
  go_enter Tryz.func10, Tryz.ntmps10
  go_wp2_with fail
  have HGN : Hid (w.heap.size + 1 ≠ w.heap.size) := fun e => by omega
  have HGL : Hid (w.heap.size ≤ w.heap.size + 1) := Nat.le_succ _
  clear hz1
  generalize w.heap.size + 1 = g at *
  refine (blanks_any g s 0 0 0 _ (Nat.zero_le _) hs KS.out).mono ?_
  rintro e w1 ⟨rfl, hs1, ho1⟩
  have HI : Hid (LexI w s g (.slice none 0 0) w1) := ⟨skip s false 0, [], skip_le (Nat.zero_le _), skip_idem, (lexA_skip []).symm, Nat.zero_le _, hs1, World.ownsRow_nil _ _ _ _, ER.grown HE0.out ho1.1 HGE.out, KF.out.grown ho1.1 (fun e => HGN.out (by injection e with e; exact e.symm)), HB1.out.grown ho1.1 HB1.out.size (fun k hk => by injection hk with hk; rw [← hk]; exact HGL.out)⟩
  clear hs1 ho1 KS KF HE0 HB1
  go_wp2_with fail
  go_loopw [5] (fun v wr => LexI w s g v wr) (fun _ wr => scanLeft s g wr)
  case atStart => exact HI.out
  case round =>
   clear HI w1
   obtain ⟨j, acc, HJ⟩ := hrel
   have c1 := HJ.out.2.2.2.2.1.cell 1 (.int .i64 j) rfl
   have hj := HJ.out.1
   have HM : Hid (scanLeft s g wr = s.size - j) := scanLeft_at c1
   by_cases hlt : j < s.size
   ·have g1 : (j : Int) < (s.size : Int) := by omega
    go_wp2_with fail
    refine (next_any g s j 0 0 _ hlt hs HJ.out.2.2.2.2.1 HJ.out.2.2.2.2.2.2.1 HGE.out).mono ?_
    rintro e w2 ⟨rfl, ⟨z, hz, hs2, hz2⟩, hg2⟩
    have hown2 : w2.ownsRow w.heap.size 50 3 u5 acc.length (acc.flatMap tkC) := HJ.out.2.2.2.2.2.1.kept hg2 (.inr (fun e => own_blk HJ.out.2.2.2.2.2.1 HJ.out.2.2.2.2.1 (by decide) e.symm))
    have kf2 := HJ.out.2.2.2.2.2.2.2.1.grown hg2 (fun e => HGN.out (by injection e with e; exact e.symm))
    have he2 : ER w2 := ER.grown HJ.out.2.2.2.2.2.2.1 hg2 HGE.out
    have hb2 : Below w.heap.size w w2 := HJ.out.2.2.2.2.2.2.2.2.grown hg2 HJ.out.2.2.2.2.2.2.2.2.size (fun k hk => by injection hk with hk; rw [← hk]; exact HGL.out)
    have hsz2 : w.heap.size ≤ w2.heap.size := hb2.size
    by_cases h0 : (tokAt s j).e = 0
    ·have hzz := hz2 h0
     have HN : Hid (lexA s false j acc = lexA s false z (acc ++ [⟨(tokAt s j).k, (tokAt s j).t, j⟩])) := by
      show _ = _
      have h1 : skip s false j < s.size := by rw [HJ.out.2.1]; exact hlt
      have := lexA_one (s := s) (note := false) (k := j) h1 (by rw [HJ.out.2.1]; exact h0) acc
      rw [HJ.out.2.1] at this
      rw [this, hzz]
     have hgt : j < z := by rw [hzz]; exact tokAt_gt hlt h0
     rw [if_pos h0, h0]
     unfold tokC
     generalize (tokAt s j).k = K at *
     generalize (tokAt s j).t = T at *
     have HS2 := Lib.hid hs2
     have HOW2 := Lib.hid hown2
     have KF2 := Lib.hid kf2
     have HE2 := Lib.hid he2
     have HB2 := Lib.hid hb2
     clear hzz hz2 h0 hs2 hown2 kf2 he2 hb2 hg2
     have hal : acc.length ≤ 4000 := by have := HJ.out.2.2.2.1; omega
     go_wp2_with (at_builtin; refine wpList_append_own _ rfl _ _ 35 rfl w.heap.size 50 i0 (.agg #[.int .i64 0, .string ⟨#[]⟩, .int .i64 0]) 3 32 Tryz.underlying35 hi0 hz0 hz1' hz2 rfl (by decide) _ _ _ rfl ((HOW2.out.alloc _).alloc _) ⟨w2.heap.size + 1, 0, none⟩ 1 1 [.int .i64 K, .string T, .int .i64 (j : Int)] rfl rfl ?c1 ?c2 ?c3 ?c4 ?c5 ?_)
     case c1 => exact World.news_of_block (cs := #[.int .i64 K, .string T, .int .i64 (j : Int)]) (t := 50) (fr := (0, 0)) (heap_new (by simp))
     case c2 => simp [Value.oneCell']
     case c3 => unfold maxLen; omega
     case c4 => omega
     case c5 => simp; omega
     intro v' w3 hown3 hgrow3 _
     have hs3 := ((Blk.alloc HS2.out (.cells #[.int .i64 K, .string T, .int .i64 (j : Int)] 50)).alloc (.cells #[.int .i64 K, .string T, .int .i64 (j : Int)] 50)).grown hgrow3 (own_blk HOW2.out HS2.out (by decide))
     have kf3 := ((KF2.out.alloc (.cells #[.int .i64 K, .string T, .int .i64 (j : Int)] 50)).alloc (.cells #[.int .i64 K, .string T, .int .i64 (j : Int)] 50)).grown hgrow3 (own_blk HOW2.out KF2.out (by decide))
     have hb3 : Below w.heap.size w w3 := ((HB2.out.alloc hsz2 (.cells #[.int .i64 K, .string T, .int .i64 (j : Int)] 50)).alloc (by simp; omega) (.cells #[.int .i64 K, .string T, .int .i64 (j : Int)] 50)).grown hgrow3 (by simp; omega) (own_ge HOW2.out)
     have hx : acc.flatMap tkC ++ [.int .i64 K, .string T, .int .i64 (j : Int)] = (acc ++ [(⟨K, T, j⟩ : Tok)]).flatMap tkC := by simp [tkC]
     have hy : acc.length + 1 = (acc ++ [(⟨K, T, j⟩ : Tok)]).length := by simp
     rw [hx, hy] at hown3
     have HAL : Hid ((acc ++ [(⟨K, T, j⟩ : Tok)]).length ≤ z) := by show _ ≤ _; rw [← hy]; have := HJ.out.2.2.2.1; omega
     have HLA : Hid (lexA s false z (acc ++ [⟨K, T, j⟩]) = lexA s false 0 []) := HN.out.symm.trans HJ.out.2.2.1
     have HS3 := Lib.hid hs3
     have KF3 := Lib.hid kf3
     have HB3 := Lib.hid hb3
     have HO3 := Lib.hid hown3
     clear hs3 kf3 hb3 hown3 hgrow3 HS2 KF2 HB2 HOW2 hx hy HN
     generalize acc ++ [(⟨K, T, j⟩ : Tok)] = acc' at *
     go_wp2_with fail
     refine (blanks_any g s z 0 0 _ hz hs HS3.out).mono ?_
     rintro e w4 ⟨rfl, hs4, ho4⟩
     have HI : Hid (LexI w s g v' w4) := by
      have hb4 : Below w.heap.size w w4 := HB3.out.grown ho4.1 HB3.out.size (fun k hk => by injection hk with hk; rw [← hk]; exact HGL.out)
      refine ⟨skip s false z, acc', skip_le hz, skip_idem, (lexA_skip acc').symm.trans HLA.out, Nat.le_trans HAL.out skip_ge, hs4, HO3.out.kept ho4.1 (.inr (fun e => own_blk HO3.out HS3.out (by decide) e.symm)), ER.keep HE.out hb4, KF3.out.grown ho4.1 (fun e => HGN.out (by injection e with e; exact e.symm)), hb4⟩
     have HM4 : Hid (scanLeft s g w4 = s.size - skip s false z) := scanLeft_at (hs4.cell 1 (.int .i64 (skip s false z : Nat)) rfl)
     have hsk : z ≤ skip s false z := skip_ge
     clear hs4 ho4 HS3 KF3 HB3 HO3 HLA HAL
     go_wp2_with fail
     go_roundw
     case rel => exact HI.out
     case measure =>
      have h1 := HM.out
      have h2 := HM4.out
      omega
    ·have HR : Hid (lexOf s = ⟨[], (tokAt s j).e, j⟩) := by
      show _ = _
      rw [HL.out, ← HJ.out.2.2.1]
      have h1 : skip s false j < s.size := by rw [HJ.out.2.1]; exact hlt
      have := lexA_bad (s := s) (note := false) (k := j) h1 (by rw [HJ.out.2.1]; exact h0) acc
      rw [HJ.out.2.1] at this
      exact this
     have hbe : ((tokAt s j).e != 0) = true := by simpa using h0
     rw [if_neg h0]
     unfold zeroT
     generalize (tokAt s j).e = E at *
     have HS2 := Lib.hid hs2
     have HB2 := Lib.hid hb2
     have KF2 := Lib.hid kf2
     have x0 := hs2.cell 0 (.string s) rfl
     have x2 := hs2.cell 2 (.int .i64 0) rfl
     have x3 := hs2.cell 3 (.int .i64 0) rfl
     have y2 := hs2.free 2
     have y3 := hs2.free 3
     have u0 := kf2.cell 0 (.int .i64 0) rfl
     have u1 := kf2.cell 1 (.int .i64 0) rfl
     have t0 := kf2.free 0
     have t1 := kf2.free 1
     have hgl := hs2.lt
     have hgn := HGN.out
     clear hs2 hb2 kf2 he2 hown2 hg2 hz2 h0
     go_wp2_with fail
     obtain ⟨w5, hw5⟩ : ∃ W : World, W = ((w2.setCell ⟨g, 2, none⟩ (.int .i64 E)).setCell ⟨g, 3, none⟩ (.int .i64 (j : Int))).alloc (.cells #[.int .i64 0, .string ⟨#[]⟩, .int .i64 0] 50) := ⟨_, rfl⟩
     rw [← hw5]
     have HS5 : Hid (Scn w5 g s z E j) := by
      show Scn w5 g s z E j
      rw [hw5]
      exact Blk.alloc ((Blk.set_ HS2.out 2 (.int .i64 E)).set_ 3 (.int .i64 (j : Int))) _
     have KF5 : Hid (Blk w5 w.heap.size 27 #[.int .i64 0, .int .i64 0]) := by
      show Blk w5 _ _ _
      rw [hw5]
      exact Blk.alloc ((Blk.far KF2.out (p := ⟨g, 2, none⟩) (fun e => hgn e.symm) (.int .i64 E)).far (p := ⟨g, 3, none⟩) (fun e => hgn e.symm) (.int .i64 (j : Int))) _
     have HB5 : Hid (Below w.heap.size w w5) := by
      show Below _ _ w5
      rw [hw5]
      exact ((HB2.out.setCell (p := ⟨g, 2, none⟩) HGL.out _).setCell (p := ⟨g, 3, none⟩) HGL.out _).alloc (by simpa [World.setCell] using hsz2) _
     clear hw5 x0 x2 x3 y2 y3 u0 u1 t0 t1 HS2 KF2 HB2
     have x2 := HS5.out.cell 2 (.int .i64 E) rfl
     have x3 := HS5.out.cell 3 (.int .i64 (j : Int)) rfl
     have u0 := KF5.out.cell 0 (.int .i64 0) rfl
     have u1 := KF5.out.cell 1 (.int .i64 0) rfl
     have t0 := KF5.out.free 0
     have t1 := KF5.out.free 1
     go_region
     go_wp2_with fail
     exact bodyPost_ret (results_scan (by kernel_rfl) (Blk.drewN (blk_set2 KF5.out _ _) 1) rfl rfl) rfl ⟨none, 0, by rw [HR.out]; rfl, by rw [HR.out]; exact .inl rfl, ((HB5.out.setCell (p := ⟨w.heap.size, 0, none⟩) (Nat.le_refl _) _).setCell (p := ⟨w.heap.size, 1, none⟩) (Nat.le_refl _) _).drew⟩
   ·have g1 : ¬ (j : Int) < (s.size : Int) := by omega
    have c2 := HJ.out.2.2.2.2.1.cell 2 (.int .i64 0) rfl
    have c3 := HJ.out.2.2.2.2.1.cell 3 (.int .i64 0) rfl
    have kf := HJ.out.2.2.2.2.2.2.2.1
    have y0 := kf.cell 0 (.int .i64 0) rfl
    have y1 := kf.cell 1 (.int .i64 0) rfl
    have z0 := kf.free 0
    have z1 := kf.free 1
    have KF := Lib.hid kf
    clear kf
    go_wp2_with fail
    go_region
    go_wp2_with fail
    have hR : lexOf s = ⟨acc, 0, 0⟩ := by rw [HL.out, ← HJ.out.2.2.1]; exact lexA_end (by rw [HJ.out.2.1]; exact hlt) _
    have hne := own_blk HJ.out.2.2.2.2.2.1 KF.out (by decide)
    have ho := (own_set (own_set HJ.out.2.2.2.2.2.1 (p := ⟨w.heap.size, 0, none⟩) hne (.int .i64 0)) (p := ⟨w.heap.size, 1, none⟩) hne (.int .i64 0)).drew
    obtain ⟨A, c, hv, hrow⟩ := Row.of_own ho
    exact bodyPost_ret (results_scan (by kernel_rfl) (Blk.drewN (blk_set2 KF.out _ _) 1) rfl rfl) rfl ⟨A, c, by rw [hR]; exact congrArg (fun z => Ending.returned (.tuple #[z, .agg #[.int .i64 0, .int .i64 0]])) hv, by rw [hR]; exact hrow, ((HJ.out.2.2.2.2.2.2.2.2.setCell (p := ⟨w.heap.size, 0, none⟩) (Nat.le_refl _) _).setCell (p := ⟨w.heap.size, 1, none⟩) (Nat.le_refl _) _).drew⟩
end Go.Proofs.YtgegfbopogcjpaaGreatDoor
namespace Go.Proofs.YtgegfbopogcjpaaGreatDoor
open Go.RowKit Go.Shelf
set_option linter.unusedVariables false
set_option linter.unusedSimpArgs false
set_option maxRecDepth 100000
set_option maxHeartbeats 1000000
theorem allDigits_iff {d : ByteArray} : allDigits d = true ↔ ∀ k, k < d.size → digitI (byteI d k) = true := by
 unfold allDigits
 rw [List.all_eq_true]
 constructor
 ·intro h k hk
  rw [byteI_at hk]
  refine h _ ?_
  have : d.data.toList[k]? = some (d[k]'hk) := by
   rw [List.getElem?_eq_getElem (by rw [Array.length_toList]; exact hk), Array.getElem_toList]; rfl
  exact List.mem_of_getElem? this
 ·intro h b hb
  obtain ⟨k, hk, rfl⟩ := List.mem_iff_getElem.1 hb
  have hk' : k < d.size := by rw [Array.length_toList] at hk; exact hk
  have := h k hk'
  rw [byteI_at hk'] at this
  rw [Array.getElem_toList]
  exact this
end Go.Proofs.YtgegfbopogcjpaaGreatDoor
namespace Go.Proofs.YtgegfbopogcjpaaGreatDoor
open Go.RowKit Go.Shelf
set_option linter.unusedVariables false
set_option linter.unusedSimpArgs false
set_option maxRecDepth 100000
set_option maxHeartbeats 1000000
def begins (t p : ByteArray) : Bool := decide (p.size ≤ t.size) && ((t.extract 0 p.size).toList == p.toList)
end Go.Proofs.YtgegfbopogcjpaaGreatDoor
namespace Go.Proofs.YtgegfbopogcjpaaGreatDoor
open Go.RowKit Go.Shelf
set_option linter.unusedVariables false
set_option linter.unusedSimpArgs false
set_option maxRecDepth 100000
set_option maxHeartbeats 4000000
theorem signText_size {s : ByteArray} {j : Nat} (hj : j < s.size) : (s.extract j (j + signLen s j)).size = signLen s j := by
 rw [ByteArray.size_extract]
 have : j + signLen s j ≤ s.size := by
  rw [signLen_eq]
  rcases hd : dots s j with _ | _
  ·rcases he : eqs s j with _ | _
   ·simp only [Bool.false_eq_true, if_false]
    split <;> omega
   ·simp only [Bool.false_eq_true, if_false, if_true]
    exact (eqs_size he).1
  ·simp only [if_true]
   exact (dots_size hd).1
 omega
end Go.Proofs.YtgegfbopogcjpaaGreatDoor
namespace Go.Proofs.YtgegfbopogcjpaaGreatDoor
set_option linter.unusedVariables false
set_option linter.unusedSimpArgs false
theorem sign_le {s : ByteArray} {j : Nat} (hj : j < s.size) : j + signLen s j ≤ s.size := by
 have h1 := signText_size hj
 rw [ByteArray.size_extract] at h1
 omega
theorem tokAt_le {s : ByteArray} {j : Nat} (hj : j < s.size) : (tokAt s j).z ≤ s.size := by
 unfold tokAt
 by_cases h1 : letterI (byteI s j) = true
 ·rw [if_pos h1]; exact endOf_le (by omega)
 ·rw [if_neg h1]
  by_cases h2 : digitI (byteI s j) = true
  ·rw [if_pos h2]; exact endOf_le (by omega)
  ·rw [if_neg h2]; exact sign_le hj
theorem lexN_len (s : ByteArray) (n : Nat) : ∀ note k acc, k ≤ s.size → (lexN s n note k acc).l.length ≤ acc.length + (s.size - k) := by
 induction n with
 | zero => intro note k acc hk; simp [lexN]
 | succ n ih =>
  intro note k acc hk
  rw [lexN]
  split
  ·rename_i hlt
   split
   ·rename_i he
    have hge := skip_ge (s := s) (note := note) (k := k)
    have hgt := tokAt_gt hlt he
    have hle := tokAt_le hlt
    have := ih false (tokAt s (skip s note k)).z (acc ++ [⟨(tokAt s (skip s note k)).k, (tokAt s (skip s note k)).t, skip s note k⟩]) hle
    rw [List.length_append, List.length_singleton] at this
    omega
   ·simp
  ·simp
theorem lexOf_len (s : ByteArray) : (lexOf s).l.length ≤ 4000 ∧ (lexOf s).l.length ≤ s.size := by
 unfold lexOf
 split
 ·simp
 ·have := lexN_len s (s.size - 0 + 1) false 0 [] (Nat.zero_le _)
  unfold lexA
  simp only [List.length_nil, Nat.sub_zero, Nat.zero_add] at this ⊢
  omega
end Go.Proofs.YtgegfbopogcjpaaGreatDoor
namespace Go.Proofs.YtgegfbopogcjpaaGreatDoor
set_option linter.unusedVariables false
set_option linter.unusedSimpArgs false
theorem size_list (s : ByteArray) : s.data.toList.length = s.size := Array.length_toList
def tail3 (k : Int) : List UInt8 := if k = 3 then [76] else []
def rendT (k : Int) (s : ByteArray) : List UInt8 := s.data.toList ++ tail3 k ++ [32]
def rendL (l : List Tok) : List UInt8 := l.flatMap fun t => rendT t.k t.s
theorem extract_all {s : ByteArray} {j z i : Nat} (hz : z ≤ s.size) (h : i < z - j) : byteI (s.extract j z) i = byteI s (j + i) := byteI_extract (by omega) hz
theorem tokAt_ok {s : ByteArray} {j : Nat} (hj : j < s.size) (he : (tokAt s j).e = 0) : TokOk (tokAt s j).k (tokAt s j).t ∧ (tokAt s j).t.size + (tail3 (tokAt s j).k).length = (tokAt s j).z - j := by
 unfold tokAt at he ⊢
 by_cases h1 : letterI (byteI s j) = true
 ·rw [if_pos h1] at he ⊢
  have hgt := endOf_gt hj (chr_of_letter h1)
  have hle : endOf s chrI j ≤ s.size := endOf_le (by omega)
  have hsz : (s.extract j (endOf s chrI j)).size = endOf s chrI j - j := by rw [ByteArray.size_extract]; omega
  have h16 : ¬ 16 < endOf s chrI j - j := by
   intro h
   simp only [h, if_true] at he
   cases he
  refine ⟨.inl ⟨rfl, by simp only [hsz]; omega, by simp only [hsz]; omega, by simp only; rw [extract_all hle (by omega)]; exact h1, ?_⟩, by simp only [hsz, tail3]; simp⟩
  intro i hi
  simp only [hsz] at hi
  simp only
  rw [extract_all hle (by omega)]
  exact endOf_all (k := j) (by omega) (by omega)
 ·rw [if_neg h1] at he ⊢
  by_cases h2 : digitI (byteI s j) = true
  ·rw [if_pos h2] at he ⊢
   have hgt := endOf_gt hj (chr_of_digit h2)
   have hle : endOf s chrI j ≤ s.size := endOf_le (by omega)
   have hsz : (s.extract j (endOf s chrI j)).size = endOf s chrI j - j := by rw [ByteArray.size_extract]; omega
   have h0 : digitI (byteI (s.extract j (endOf s chrI j)) 0) = true := by rw [extract_all hle (by omega)]; exact h2
   simp only at he ⊢
   generalize s.extract j (endOf s chrI j) = r at *
   obtain ⟨p1, p2, p3⟩ := digitsOf_pos (by omega) h0
   have hk : (numK r == 3) = isLong r := by unfold numK; cases isLong r <;> rfl
   have hlen : (digitsOf r).size + (tail3 (numK r)).length = endOf s chrI j - j := by
    unfold digitsOf numK tail3
    cases hl : isLong r
    ·simp; omega
    ·simp; omega
   refine ⟨.inr (.inl ⟨?_, p1, ?_, ?_, ?_⟩), hlen⟩
   ·unfold numK; cases isLong r
    ·exact .inl rfl
    ·exact .inr rfl
   ·rcases ha : allDigits (digitsOf r) with _ | _
    ·rw [numE_form ha] at he; cases he
    ·rfl
   ·intro hn
    have ha : allDigits (digitsOf r) = true := by
     rcases ha : allDigits (digitsOf r) with _ | _
     ·rw [numE_form ha] at he; cases he
     ·rfl
    rw [numE_nought ha hn.1 hn.2] at he
    cases he
   ·intro hm
    rw [hk] at hm
    have ha : allDigits (digitsOf r) = true := by
     rcases ha : allDigits (digitsOf r) with _ | _
     ·rw [numE_form ha] at he; cases he
     ·rfl
    by_cases hn : 1 < (digitsOf r).size ∧ byteI (digitsOf r) 0 = 48
    ·rw [numE_nought ha hn.1 hn.2] at he; cases he
    ·rw [numE_range ha hn hm] at he; cases he
  ·rw [if_neg h2] at he ⊢
   have hsz := signText_size hj
   have hs0 : signLen s j ≠ 0 := by
    intro h
    simp only [h, if_true] at he
    cases he
   simp only
   refine ⟨.inr (.inr ⟨rfl, ?_⟩), by rw [hsz]; simp [tail3]⟩
   rw [signLen_eq] at hs0 ⊢
   rcases hd : dots s j with _ | _
   ·rcases hq : eqs s j with _ | _
    ·rcases hg : signI (byteI s j) with _ | _
     ·exfalso; apply hs0; rw [hd, hq, hg]; rfl
     ·refine .inr (.inr ⟨s[j]'hj, ?_, by rw [← byteI_at hj]; exact hg⟩)
      simp only [Bool.false_eq_true, if_false, if_true]
      exact extract_one hj
    ·exact .inr (.inl (by simp only [Bool.false_eq_true, if_false, if_true]; exact (eqs_size hq).2))
   ·exact .inl (by simp only [if_true]; exact (dots_size hd).2)
theorem lexN_ok (s : ByteArray) (n : Nat) : ∀ note k acc, k ≤ s.size → (∀ t ∈ acc, TokOk t.k t.s) → (lexN s n note k acc).e = 0 →
 (∀ t ∈ (lexN s n note k acc).l, TokOk t.k t.s) ∧ (rendL (lexN s n note k acc).l).length ≤ (rendL acc).length + 2 * (s.size - k) := by
 induction n with
 | zero => intro note k acc hk h _; simp only [lexN]; exact ⟨h, by omega⟩
 | succ n ih =>
  intro note k acc hk h he
  rw [lexN] at he ⊢
  by_cases hlt : skip s note k < s.size
  ·rw [if_pos hlt] at he ⊢
   by_cases h0 : (tokAt s (skip s note k)).e = 0
   ·rw [if_pos h0] at he ⊢
    have hge := skip_ge (s := s) (note := note) (k := k)
    have hgt := tokAt_gt hlt h0
    have hle := tokAt_le hlt
    obtain ⟨o1, o2⟩ := tokAt_ok hlt h0
    obtain ⟨i1, i2⟩ := ih false (tokAt s (skip s note k)).z (acc ++ [⟨(tokAt s (skip s note k)).k, (tokAt s (skip s note k)).t, skip s note k⟩]) hle (by
     intro t ht
     rcases List.mem_append.1 ht with ht | ht
     ·exact h t ht
     ·rw [List.mem_singleton] at ht; subst ht; exact o1) he
    refine ⟨i1, Nat.le_trans i2 ?_⟩
    have : (rendL (acc ++ [⟨(tokAt s (skip s note k)).k, (tokAt s (skip s note k)).t, skip s note k⟩])).length = (rendL acc).length + ((tokAt s (skip s note k)).z - skip s note k + 1) := by
     unfold rendL
     rw [List.flatMap_append, List.length_append, ← o2]
     simp only [List.flatMap_cons, List.flatMap_nil, List.append_nil, rendT, List.length_append, size_list, List.length_singleton]
    omega
   ·rw [if_neg h0] at he
    exact absurd he h0
  ·rw [if_neg hlt]
   exact ⟨h, by simp only; omega⟩
theorem byteI_list (S : ByteArray) (k : Nat) : byteI S k = match S.data.toList[k]? with
 | some b => (b.toNat : Int)
 | none => 0 := by
 by_cases h : k < S.size
 ·rw [byteI_at h, List.getElem?_eq_getElem (by rw [Array.length_toList]; exact h), Array.getElem_toList]
  rfl
 ·rw [byteI_none (by omega), List.getElem?_eq_none (by rw [Array.length_toList]; show S.size ≤ _; omega)]
theorem byte_drop {S : ByteArray} {p i : Nat} {L : List UInt8} (h : S.data.toList.drop p = L) : byteI S (p + i) = match L[i]? with
 | some b => (b.toNat : Int)
 | none => 0 := by
 rw [byteI_list, ← h, List.getElem?_drop]
theorem extract_drop {S : ByteArray} {p n : Nat} {a b : List UInt8} (h : S.data.toList.drop p = a ++ b) (hn : n = a.length) : S.extract p (p + n) = ⟨a.toArray⟩ := by
 rw [Lib.extract_eq, h, show p + n - p = n by omega, hn, List.take_left]
theorem mk_list (s : ByteArray) : (⟨s.data.toList.toArray⟩ : ByteArray) = s := Lib.mk_data s
theorem tokAt_backG {S : ByteArray} {p : Nat} {k : Int} {s : ByteArray} {L : List UInt8} (ho : TokOk k s) (hd : S.data.toList.drop p = s.data.toList ++ tail3 k ++ L) (hL : L = [] ∨ ∃ L', L = 32 :: L') :
 tokAt S p = ⟨0, k, s, p + (s.size + (tail3 k).length)⟩ ∧ p + (s.size + (tail3 k).length) + L.length = S.size ∧ (byteI S (p + (s.size + (tail3 k).length)) = 32 ∨ byteI S (p + (s.size + (tail3 k).length)) = 0 ∧ L = []) ∧ byteI S p ≠ 35 ∧ blankI (byteI S p) = false ∧ 0 < s.size := by
 have hs0 : 0 < s.size := by
  rcases ho with ⟨-, a1, -⟩ | ⟨-, a1, -⟩ | ⟨-, rfl | rfl | ⟨b, rfl, -⟩⟩
  ·exact a1
  ·exact a1
  ·decide
  ·decide
  ·exact Nat.zero_lt_one
 have hpS : p + (s.size + (tail3 k).length + L.length) = S.size := by
  have := congrArg List.length hd
  rw [List.length_drop, size_list] at this
  simp only [List.length_append, size_list] at this
  omega
 have hat : ∀ i, i < s.size → byteI S (p + i) = byteI s i := fun i hi => by
  rw [byte_drop hd, byteI_list s i]
  rw [List.append_assoc, List.getElem?_append_left (by rw [size_list]; exact hi)]
 have h32 : byteI S (p + (s.size + (tail3 k).length)) = 32 ∨ byteI S (p + (s.size + (tail3 k).length)) = 0 ∧ L = [] := by
  rcases hL with rfl | ⟨L', rfl⟩
  ·right
   rw [byte_drop hd, List.getElem?_eq_none (by simp [size_list])]
   exact ⟨rfl, rfl⟩
  ·left
   rw [byte_drop hd, List.getElem?_append_right (by simp [size_list])]
   simp [size_list]
 have h3 : k = 3 → byteI S (p + s.size) = 76 := fun hk => by
  rw [byte_drop hd, show s.data.toList ++ tail3 k ++ L = s.data.toList ++ (76 :: L) by simp [tail3, hk], List.getElem?_append_right (by simp [size_list])]
  simp [size_list]
 have hn32 : chrI 32 = false := rfl
 rcases ho with ⟨rfl, a1, a2, a3, a4⟩ | ⟨hk, a1, a2, a3, a4⟩ | ⟨rfl, a1⟩
 ·-- a word
  have ht : (tail3 1).length = 0 := rfl
  rw [ht, Nat.add_zero] at hpS h32 ⊢
  have h0 : byteI S p = byteI s 0 := hat 0 a1
  have hend : endOf S chrI p = p + s.size := endOf_is (by omega) (fun i h1 h2 => by
   obtain ⟨d, rfl⟩ : ∃ d, i = p + d := ⟨i - p, by omega⟩
   rw [hat d (by omega)]; exact a4 d (by omega)) (by omega) (fun _ => by rcases h32 with h | ⟨h, -⟩ <;> rw [h] <;> rfl)
  have hex : S.extract p (p + s.size) = s := by
   have := extract_drop (S := S) (p := p) (n := s.size) (a := s.data.toList) (b := tail3 1 ++ L) (by rw [hd]; simp) (size_list s).symm
   rw [this, mk_list]
  refine ⟨?_, by omega, h32, ?_, ?_, hs0⟩
  ·unfold tokAt
   rw [h0, if_pos a3, hend, hex, if_neg (by omega)]
  ·rw [h0]; intro h; rw [h] at a3; cases a3
  ·rw [h0]
   rcases hb : blankI (byteI s 0) with _ | _
   ·rfl
   ·simp only [blankI, Bool.or_eq_true, beq_iff_eq] at hb
    rcases hb with h | h <;> rw [h] at a3 <;> cases a3
 ·-- a number
  have hdg : ∀ i, i < s.size → digitI (byteI s i) = true := allDigits_iff.1 a2
  have h0 : byteI S p = byteI s 0 := hat 0 a1
  have hd0 := hdg 0 a1
  have hnl : letterI (byteI s 0) = false := by
   rcases hl : letterI (byteI s 0) with _ | _
   ·rfl
   ·simp only [digitI, letterI, Bool.and_eq_true, Bool.or_eq_true, decide_eq_true_eq] at hl hd0
    omega
  have hend : endOf S chrI p = p + (s.size + (tail3 k).length) := endOf_is (by omega) (fun i h1 h2 => by
   obtain ⟨d, rfl⟩ : ∃ d, i = p + d := ⟨i - p, by omega⟩
   by_cases hds : d < s.size
   ·rw [hat d hds]; exact chr_of_digit (hdg d hds)
   ·have hk3 : k = 3 := by
     by_cases h3 : k = 3
     ·exact h3
     ·simp only [tail3, if_neg h3, List.length_nil] at h2; omega
    have : d = s.size := by simp only [tail3, if_pos hk3, List.length_singleton] at h2; omega
    subst this
    rw [h3 hk3]; rfl) (by omega) (fun _ => by rcases h32 with h | ⟨h, -⟩ <;> rw [h] <;> rfl)
  have hex : S.extract p (p + (s.size + (tail3 k).length)) = ⟨(s.data.toList ++ tail3 k).toArray⟩ := extract_drop (b := L) hd (by simp [size_list])
  have hrow : numE ⟨(s.data.toList ++ tail3 k).toArray⟩ = 0 ∧ numK ⟨(s.data.toList ++ tail3 k).toArray⟩ = k ∧ digitsOf ⟨(s.data.toList ++ tail3 k).toArray⟩ = s := by
   rcases hk with rfl | rfl
   ·have e : (⟨(s.data.toList ++ tail3 2).toArray⟩ : ByteArray) = s := by rw [show tail3 2 = [] from rfl, List.append_nil, mk_list]
    have hlong : isLong s = false := by
     unfold isLong
     have := hdg (s.size - 1) (by omega)
     rw [beq_eq_false_iff_ne]
     intro h
     rw [h] at this
     cases this
    have hD : digitsOf s = s := by unfold digitsOf; rw [hlong]; rfl
    rw [e]
    refine ⟨numE_ok (by rw [hD]; exact a2) (by rw [hD]; exact a3) (by rw [hD, hlong]; exact a4), ?_, hD⟩
    unfold numK; rw [hlong]; rfl
   ·have ht3 : tail3 3 = [76] := rfl
    have hsz : (⟨(s.data.toList ++ tail3 3).toArray⟩ : ByteArray).size = s.size + 1 := by
     rw [← size_list]; simp [ht3, size_list]
    have hlong : isLong ⟨(s.data.toList ++ tail3 3).toArray⟩ = true := by
     unfold isLong
     rw [hsz, byteI_list, ht3, Nat.add_sub_cancel]
     simp only [List.toList_toArray]
     rw [List.getElem?_append_right (by rw [size_list]; exact Nat.le_refl _), size_list, Nat.sub_self]
     rfl
    have hD : digitsOf ⟨(s.data.toList ++ tail3 3).toArray⟩ = s := by
     unfold digitsOf
     rw [if_pos hlong, hsz, Nat.add_sub_cancel]
     have := extract_drop (S := ⟨(s.data.toList ++ tail3 3).toArray⟩) (p := 0) (n := s.size) (a := s.data.toList) (b := tail3 3) (by simp) (size_list s).symm
     rw [Nat.zero_add] at this
     rw [this, mk_list]
    refine ⟨numE_ok (by rw [hD]; exact a2) (by rw [hD]; exact a3) (by rw [hD, hlong]; exact a4), ?_, hD⟩
    unfold numK; rw [hlong]; rfl
  obtain ⟨r1, r2, r3⟩ := hrow
  refine ⟨?_, by omega, h32, ?_, ?_, hs0⟩
  ·unfold tokAt
   rw [h0, if_neg (by rw [hnl]; simp), if_pos hd0, hend, hex, r1, r2, r3]
  ·rw [h0]; intro h; rw [h] at hd0; cases hd0
  ·rw [h0]
   rcases hb : blankI (byteI s 0) with _ | _
   ·rfl
   ·simp only [blankI, Bool.or_eq_true, beq_iff_eq] at hb
    rcases hb with h | h <;> rw [h] at hd0 <;> cases hd0
 ·-- a sign
  have ht : (tail3 4).length = 0 := rfl
  rw [ht, Nat.add_zero] at hpS h32 ⊢
  have hex : S.extract p (p + s.size) = s := by
   have := extract_drop (S := S) (p := p) (n := s.size) (a := s.data.toList) (b := tail3 4 ++ L) (by rw [hd]; simp) (size_list s).symm
   rw [this, mk_list]
  have key : ∀ c : Int, byteI S p = c → signI c = true → signLen S p = s.size → s.size ≠ 0 → tokAt S p = ⟨0, 4, s, p + s.size⟩ ∧ byteI S p ≠ 35 ∧ blankI (byteI S p) = false := fun c hc hs hl hz => by
   have hall : ∀ b ∈ oneSigns, letterI b.toNat = false ∧ digitI b.toNat = false ∧ (b.toNat : Int) ≠ 35 ∧ blankI b.toNat = false := by decide
   unfold signI at hs
   rw [List.any_eq_true] at hs
   obtain ⟨b, hb, he⟩ := hs
   rw [beq_iff_eq] at he
   obtain ⟨q1, q2, q3, q4⟩ := hall b hb
   rw [← he] at q1 q2 q3 q4
   refine ⟨?_, by rw [hc]; exact q3, by rw [hc]; exact q4⟩
   unfold tokAt
   rw [hc, if_neg (by rw [q1]; simp), if_neg (by rw [q2]; simp), hl, hex, if_neg hz]
  rcases a1 with rfl | rfl | ⟨b, rfl, hb⟩
  ·have e0 : byteI S p = 46 := hat 0 (by decide)
   have e1 : byteI S (p + 1) = 46 := hat 1 (by decide)
   have e2 : byteI S (p + 2) = 46 := hat 2 (by decide)
   obtain ⟨k1, k2, k3⟩ := key 46 e0 rfl (by unfold signLen; rw [if_pos ⟨e0, e1, e2⟩]; rfl) (by decide)
   exact ⟨k1, by omega, h32, k2, k3, hs0⟩
  ·have e0 : byteI S p = 61 := hat 0 (by decide)
   have e1 : byteI S (p + 1) = 61 := hat 1 (by decide)
   obtain ⟨k1, k2, k3⟩ := key 61 e0 rfl (by unfold signLen; rw [if_neg (by rw [e0]; omega), if_pos ⟨e0, e1⟩]; rfl) (by decide)
   exact ⟨k1, by omega, h32, k2, k3, hs0⟩
  ·have e0 : byteI S p = b.toNat := by
    have := hat 0 (Nat.zero_lt_one)
    rw [show p + 0 = p from rfl] at this
    rw [this, byteI_list]; rfl
   have e1 : byteI S (p + 1) = 32 ∨ byteI S (p + 1) = 0 := h32.imp id And.left
   obtain ⟨k1, k2, k3⟩ := key b.toNat e0 hb (by
    unfold signLen
    rw [if_neg (fun h => by rcases e1 with e | e <;> rw [e] at h <;> omega), if_neg (fun h => by rcases e1 with e | e <;> rw [e] at h <;> omega), e0, if_pos hb]; rfl) (Nat.one_ne_zero)
   exact ⟨k1, by omega, h32, k2, k3, hs0⟩
theorem tokAt_back {S : ByteArray} {p : Nat} {k : Int} {s : ByteArray} {L : List UInt8} (ho : TokOk k s) (hd : S.data.toList.drop p = rendT k s ++ L) :
 tokAt S p = ⟨0, k, s, p + (s.size + (tail3 k).length)⟩ ∧ p + (s.size + (tail3 k).length) < S.size ∧ byteI S (p + (s.size + (tail3 k).length)) = 32 ∧ byteI S p ≠ 35 ∧ blankI (byteI S p) = false := by
 obtain ⟨h1, h2, h3, h4, h5, -⟩ := tokAt_backG (L := 32 :: L) ho (by rw [hd]; simp [rendT]) (.inr ⟨L, rfl⟩)
 rw [List.length_cons] at h2
 refine ⟨h1, by omega, ?_, h4, h5⟩
 rcases h3 with h | ⟨-, h⟩
 ·exact h
 ·cases h
theorem lex_back (l : List Tok) : (∀ t ∈ l, TokOk t.k t.s) → ∀ (S : ByteArray) (p : Nat) (acc : List Tok), p ≤ S.size → S.data.toList.drop p = rendL l →
 ∃ l', lexA S false p acc = ⟨acc ++ l', 0, 0⟩ ∧ l'.map (fun t => (t.k, t.s)) = l.map (fun t => (t.k, t.s)) := by
 induction l with
 | nil =>
  intro _ S p acc hp hd
  have hpS : p = S.size := by
   have := congrArg List.length hd
   rw [List.length_drop, size_list] at this
   simp [rendL] at this
   omega
  refine ⟨[], ?_, rfl⟩
  rw [lexA_end (by have := skip_ge (s := S) (note := false) (k := p); omega), List.append_nil]
 | cons t l ih =>
  intro ho S p acc hp hd
  have hd' : S.data.toList.drop p = rendT t.k t.s ++ rendL l := by rw [hd]; rfl
  obtain ⟨b1, b2, b3, b4, b5⟩ := tokAt_back (ho t (by simp)) hd'
  have hpS : p < S.size := by omega
  have hsk : skip S false p = p := skip_here hpS b5 b4
  have hone := lexA_one (s := S) (note := false) (k := p) (by rw [hsk]; exact hpS) (by rw [hsk, b1]) acc
  rw [hsk, b1] at hone
  simp only at hone
  have hpass := lexA_pass (s := S) (note := false) b2 (by rw [b3]; rfl) (acc ++ [⟨t.k, t.s, p⟩])
  rw [b3, show noteI false 32 = false from rfl] at hpass
  obtain ⟨l', e1, e2⟩ := ih (fun t' ht' => ho t' (by simp [ht'])) S (p + (t.s.size + (tail3 t.k).length) + 1) (acc ++ [⟨t.k, t.s, p⟩]) (by omega) (by
   rw [show p + (t.s.size + (tail3 t.k).length) + 1 = p + (rendT t.k t.s).length by simp [rendT, size_list]; omega, ← List.drop_drop, hd', List.drop_left])
  refine ⟨⟨t.k, t.s, p⟩ :: l', ?_, by simp [e2]⟩
  rw [hone, hpass, e1]
  simp
def rendJ : List Tok → List UInt8
 | [] => []
 | [t] => t.s.data.toList ++ tail3 t.k
 | t :: u :: l => t.s.data.toList ++ tail3 t.k ++ 32 :: rendJ (u :: l)
theorem lex_joined : ∀ (l : List Tok), (∀ t ∈ l, TokOk t.k t.s) → ∀ (S : ByteArray) (p : Nat) (acc : List Tok), p ≤ S.size → S.data.toList.drop p = rendJ l →
 ∃ l', lexA S false p acc = ⟨acc ++ l', 0, 0⟩ ∧ l'.map (fun t => (t.k, t.s)) = l.map (fun t => (t.k, t.s))
 | [], _, S, p, acc, hp, hd => by
  have hpS : p = S.size := by
   have := congrArg List.length hd
   rw [List.length_drop, size_list] at this
   simp [rendJ] at this
   omega
  refine ⟨[], ?_, rfl⟩
  rw [lexA_end (by have := skip_ge (s := S) (note := false) (k := p); omega), List.append_nil]
 | [t], ho, S, p, acc, hp, hd => by
  obtain ⟨b1, b2, b3, b4, b5, b6⟩ := tokAt_backG (L := []) (ho t (by simp)) (by rw [hd]; simp [rendJ]) (.inl rfl)
  rw [List.length_nil, Nat.add_zero] at b2
  have hpS : p < S.size := by omega
  have hsk : skip S false p = p := skip_here hpS b5 b4
  have hone := lexA_one (s := S) (note := false) (k := p) (by rw [hsk]; exact hpS) (by rw [hsk, b1]) acc
  rw [hsk, b1] at hone
  simp only at hone
  refine ⟨[⟨t.k, t.s, p⟩], ?_, by simp⟩
  rw [hone, b2, lexA_end (by have := skip_ge (s := S) (note := false) (k := S.size); omega)]
 | t :: u :: l, ho, S, p, acc, hp, hd => by
  obtain ⟨b1, b2, b3, b4, b5, b6⟩ := tokAt_backG (L := 32 :: rendJ (u :: l)) (ho t (by simp)) (by rw [hd]; simp [rendJ]) (.inr ⟨_, rfl⟩)
  rw [List.length_cons] at b2
  have hpS : p < S.size := by omega
  have b3 : byteI S (p + (t.s.size + (tail3 t.k).length)) = 32 := by
   rcases b3 with h | ⟨-, h⟩
   ·exact h
   ·cases h
  have hsk : skip S false p = p := skip_here hpS b5 b4
  have hone := lexA_one (s := S) (note := false) (k := p) (by rw [hsk]; exact hpS) (by rw [hsk, b1]) acc
  rw [hsk, b1] at hone
  simp only at hone
  have hpass := lexA_pass (s := S) (note := false) (k := p + (t.s.size + (tail3 t.k).length)) (by omega) (by rw [b3]; rfl) (acc ++ [⟨t.k, t.s, p⟩])
  rw [b3, show noteI false 32 = false from rfl] at hpass
  obtain ⟨l', e1, e2⟩ := lex_joined (u :: l) (fun t' ht' => ho t' (List.mem_cons_of_mem _ ht')) S (p + (t.s.size + (tail3 t.k).length) + 1) (acc ++ [⟨t.k, t.s, p⟩]) (by omega) (by
   have e : S.data.toList.drop p = (t.s.data.toList ++ tail3 t.k ++ [32]) ++ rendJ (u :: l) := by rw [hd]; simp [rendJ]
   rw [show p + (t.s.size + (tail3 t.k).length) + 1 = p + (t.s.data.toList ++ tail3 t.k ++ [32]).length by simp [size_list]; omega, ← List.drop_drop, e, List.drop_left])
  refine ⟨⟨t.k, t.s, p⟩ :: l', ?_, by simp [e2]⟩
  rw [hone, hpass, e1]
  simp
theorem lex_again {s S : ByteArray} (hs : s.size ≤ 1333) (he : (lexOf s).e = 0) (hS : S.data.toList = rendL (lexOf s).l) :
 (lexOf S).e = 0 ∧ (lexOf S).l.map (fun t => (t.k, t.s)) = (lexOf s).l.map (fun t => (t.k, t.s)) := by
 have hL : lexOf s = lexA s false 0 [] := by unfold lexOf; rw [if_neg (by omega)]
 rw [hL] at he hS ⊢
 obtain ⟨h1, h2⟩ := lexN_ok s (s.size - 0 + 1) false 0 [] (Nat.zero_le _) (by simp) he
 have hsz : S.size ≤ 4000 := by
  rw [← size_list, hS]
  have : (rendL (lexA s false 0 []).l).length ≤ (rendL []).length + 2 * (s.size - 0) := h2
  simp only [rendL, List.flatMap_nil, List.length_nil] at this
  have e : rendL (lexA s false 0 []).l = (lexA s false 0 []).l.flatMap fun t => rendT t.k t.s := rfl
  rw [e]
  omega
 obtain ⟨l', e1, e2⟩ := lex_back (lexA s false 0 []).l h1 S 0 [] (Nat.zero_le _) hS
 have hLS : lexOf S = lexA S false 0 [] := by unfold lexOf; rw [if_neg (by omega)]
 rw [hLS, e1]
 exact ⟨rfl, e2⟩
theorem rend_len {s : ByteArray} (hs : s.size ≤ 1333) (he : (lexOf s).e = 0) : (rendL (lexOf s).l).length ≤ 4000 := by
 have hL : lexOf s = lexA s false 0 [] := by unfold lexOf; rw [if_neg (by omega)]
 rw [hL] at he ⊢
 obtain ⟨h1, h2⟩ := lexN_ok s (s.size - 0 + 1) false 0 [] (Nat.zero_le _) (by simp) he
 have : (rendL (lexA s false 0 []).l).length ≤ (rendL []).length + 2 * (s.size - 0) := h2
 simp only [rendL, List.flatMap_nil, List.length_nil] at this
 have e : rendL (lexA s false 0 []).l = (lexA s false 0 []).l.flatMap fun t => rendT t.k t.s := rfl
 rw [e]
 omega
theorem lexOf_ok (s : ByteArray) (he : (lexOf s).e = 0) : ∀ t ∈ (lexOf s).l, TokOk t.k t.s := by
 unfold lexOf at he ⊢
 split at he
 ·rename_i h; rw [if_pos h]; simp
 ·rename_i h
  rw [if_neg h]
  exact (lexN_ok s (s.size - 0 + 1) false 0 [] (Nat.zero_le _) (by simp) he).1
end Go.Proofs.YtgegfbopogcjpaaGreatDoor
namespace Go.Proofs.YtgegfbopogcjpaaGreatDoor
set_option linter.unusedVariables false
set_option linter.unusedSimpArgs false
def tkW (w : ByteArray) : Int × ByteArray :=
 if letterI (byteI w 0) = true then (1, w)
 else if digitI (byteI w 0) = true then (if byteI w (w.size - 1) = 76 then (3, w.extract 0 (w.size - 1)) else (2, w))
 else (4, w)
def WOk (w : ByteArray) : Prop := TokOk (tkW w).1 (tkW w).2 ∧ w.data.toList = (tkW w).2.data.toList ++ tail3 (tkW w).1
theorem tkW_name {s : ByteArray} (h : nameOf s = true) : tkW s = (1, s) := by
 unfold tkW
 rw [if_pos (name_false h).2.2.1]
theorem wok_word {s : ByteArray} (h1 : 1 ≤ s.size) (h2 : s.size ≤ 16) (h3 : letterI (byteI s 0) = true) (h4 : ∀ i, i < s.size → chrI (byteI s i) = true) : WOk s := by
 unfold WOk tkW
 rw [if_pos h3]
 exact ⟨.inl ⟨rfl, h1, h2, h3, h4⟩, by simp [tail3]⟩
theorem wok_name {s : ByteArray} (h : nameOf s = true) : WOk s := by
 obtain ⟨h1, h2, h3, h4, -⟩ := name_false h
 refine wok_word h1 h2 h3 fun i hi => ?_
 rcases Nat.eq_zero_or_pos i with rfl | h0
 ·unfold chrI; rw [h3]; rfl
 ·exact h4 i h0 hi
theorem wok_sign {s : ByteArray} (h1 : letterI (byteI s 0) = false) (h2 : digitI (byteI s 0) = false) (h3 : s = ⟨#[46, 46, 46]⟩ ∨ s = ⟨#[61, 61]⟩ ∨ ∃ b : UInt8, s = ⟨#[b]⟩ ∧ signI b.toNat = true) : WOk s := by
 unfold WOk tkW
 rw [if_neg (by rw [h1]; simp), if_neg (by rw [h2]; simp)]
 exact ⟨.inr (.inr ⟨rfl, h3⟩), by simp [tail3]⟩
theorem dig_digit {u : Nat} (h : u < 10) : digitI ((UInt8.ofNat (48 + u)).toNat : Int) = true := by
 have : (UInt8.ofNat (48 + u)).toNat = 48 + u := by rw [UInt8.toNat_ofNat']; exact Nat.mod_eq_of_lt (by omega)
 rw [this]
 simp only [digitI, Bool.and_eq_true, decide_eq_true_eq]
 omega
theorem digs_all (u : Nat) : (Lib.decDigits u).all (fun b => digitI b.toNat) = true := by
 induction u using Nat.strongRecOn with
 | _ u ih =>
  by_cases h : u < 10
  ·rw [Lib.decDigits, dif_pos h, List.all_cons, dig_digit h]; rfl
  ·rw [Lib.decDigits, dif_neg h, List.all_append, ih (u / 10) (by omega)]
   rw [List.all_cons, dig_digit (Nat.mod_lt u (by omega : 0 < 10))]; rfl
theorem digs_val (u : Nat) : decL (Lib.decDigits u) = u := by
 induction u using Nat.strongRecOn with
 | _ u ih =>
  have e : ∀ v, v < 10 → (UInt8.ofNat (48 + v)).toNat - 48 = v := fun v hv => by
   rw [UInt8.toNat_ofNat', Nat.mod_eq_of_lt (by omega)]; omega
  by_cases h : u < 10
  ·rw [Lib.decDigits, dif_pos h]
   unfold decL
   simp only [List.foldl_cons, List.foldl_nil]
   rw [e u h]; omega
  ·rw [Lib.decDigits, dif_neg h]
   have := ih (u / 10) (by omega)
   unfold decL at this ⊢
   rw [List.foldl_append, this]
   simp only [List.foldl_cons, List.foldl_nil]
   rw [e _ (Nat.mod_lt u (by omega))]
   omega
theorem digs_head (u : Nat) : Lib.decDigits u ≠ [] ∧ (10 ≤ u → ∃ b l, Lib.decDigits u = b :: l ∧ b ≠ 48) := by
 induction u using Nat.strongRecOn with
 | _ u ih =>
  by_cases h : u < 10
  ·rw [Lib.decDigits, dif_pos h]; exact ⟨by simp, fun h' => by omega⟩
  ·rw [Lib.decDigits, dif_neg h]
   refine ⟨by simp, fun _ => ?_⟩
   by_cases h10 : 10 ≤ u / 10
   ·obtain ⟨b, l, e, hb⟩ := (ih (u / 10) (by omega)).2 h10
    exact ⟨b, l ++ _, by rw [e]; rfl, hb⟩
   ·rw [Lib.decDigits, dif_pos (by omega)]
    refine ⟨_, _, rfl, fun e => ?_⟩
    have := congrArg UInt8.toNat e
    rw [UInt8.toNat_ofNat', Nat.mod_eq_of_lt (by omega)] at this
    have : 48 + u / 10 = 48 := this
    omega
theorem num_word {k num : Int} (hk : k = 21 ∨ k = 22) (h0 : 0 ≤ num) (hm : num ≤ 9223372036854775807) (hm2 : k = 21 → num ≤ 2147483647) {w : ByteArray} (hw : w = ⟨(digsN num.natAbs ++ if k = 22 then [76] else []).toArray⟩) :
 tkW w = (if k = 22 then 3 else 2, ⟨(digsN num.natAbs).toArray⟩) ∧ WOk w ∧ valT ⟨(digsN num.natAbs).toArray⟩ = num := by
 have hv : valT ⟨(digsN num.natAbs).toArray⟩ = num := by
  unfold valT digsN
  rw [show (⟨(Lib.decDigits num.natAbs).toArray⟩ : ByteArray).data.toList = Lib.decDigits num.natAbs from rfl, digs_val]
  omega
 generalize hu : num.natAbs = u at *
 have hall : ∀ (i : Nat) (b : UInt8), (Lib.decDigits u)[i]? = some b → digitI b.toNat = true := fun i b h => List.all_eq_true.1 (digs_all u) b (List.mem_of_getElem? h)
 obtain ⟨b0, l0, hd⟩ : ∃ b l, Lib.decDigits u = b :: l := by
  rcases h : Lib.decDigits u with _ | ⟨b, l⟩
  ·exact absurd h (digs_head u).1
  ·exact ⟨b, l, rfl⟩
 have hb0 : digitI b0.toNat = true := hall 0 b0 (by rw [hd]; rfl)
 have hnl : letterI b0.toNat = false := by
  rcases hl : letterI b0.toNat with _ | _
  ·rfl
  ·simp only [digitI, letterI, Bool.and_eq_true, Bool.or_eq_true, decide_eq_true_eq] at hl hb0
   omega
 have hw0 : byteI w 0 = b0.toNat := by
  rw [byteI_list, hw]
  simp only [digsN, hd]
  rfl
 have htok : ∀ k' : Int, (k' = 2 ∧ u ≤ 2147483647) ∨ (k' = 3 ∧ u ≤ 9223372036854775807) → TokOk k' ⟨(Lib.decDigits u).toArray⟩ := fun k' hk' => by
  refine .inr (.inl ⟨hk'.imp And.left And.left, ?_, ?_, ?_, ?_⟩)
  ·show 1 ≤ (Lib.decDigits u).toArray.size
   rw [hd]; simp
  ·unfold allDigits
   exact digs_all u
  ·rintro ⟨h1, h2⟩
   have hlen : 1 < (Lib.decDigits u).length := by simpa [ByteArray.size] using h1
   have h10 : 10 ≤ u := by
    rcases Nat.lt_or_ge u 10 with h | h
    ·rw [Lib.decDigits, dif_pos h] at hlen; simp at hlen
    ·exact h
   obtain ⟨b, l, e, hb⟩ := (digs_head u).2 h10
   rw [byteI_list] at h2
   simp only [e] at h2
   have h2 : (b.toNat : Int) = 48 := h2
   exact hb (UInt8.toNat_inj.1 (by have : (48 : UInt8).toNat = 48 := rfl; omega))
  ·show ¬ numMost (k' == 3) < decL (Lib.decDigits u)
   rw [digs_val]
   unfold numMost
   rcases hk' with ⟨rfl, h⟩ | ⟨rfl, h⟩
   ·simp; omega
   ·simp; omega
 rcases hk with rfl | rfl
 ·have hw' : w = ⟨(Lib.decDigits u).toArray⟩ := by rw [hw]; simp [digsN]
  have hlast : byteI w (w.size - 1) ≠ 76 := by
   rw [byteI_list]
   intro h
   rcases hx : w.data.toList[w.size - 1]? with _ | b
   ·rw [hx] at h; cases h
   ·rw [hx] at h
    have h : (b.toNat : Int) = 76 := h
    have := hall (w.size - 1) b (by rw [← hx, hw'])
    simp only [digitI, Bool.and_eq_true, decide_eq_true_eq] at this
    omega
  have ht : tkW w = (2, ⟨(digsN u).toArray⟩) := by
   unfold tkW
   rw [hw0, if_neg (by rw [hnl]; simp), if_pos hb0, if_neg hlast, hw']
   rfl
  refine ⟨ht, ?_, hv⟩
  unfold WOk
  rw [ht]
  exact ⟨htok 2 (.inl ⟨rfl, by have := hm2 rfl; omega⟩), by rw [hw']; simp [tail3, digsN]⟩
 ·have hw' : w = ⟨(Lib.decDigits u ++ [76]).toArray⟩ := by rw [hw]; simp [digsN]
  have hsz : w.size = (Lib.decDigits u).length + 1 := by rw [hw']; simp [ByteArray.size]
  have hlast : byteI w (w.size - 1) = 76 := by
   rw [byteI_list, hsz, Nat.add_sub_cancel, hw']
   show (match (Lib.decDigits u ++ [76])[(Lib.decDigits u).length]? with | some b => ((b : UInt8).toNat : Int) | none => 0) = 76
   rw [List.getElem?_append_right (Nat.le_refl _), Nat.sub_self]
   rfl
  have hex : w.extract 0 (w.size - 1) = ⟨(Lib.decDigits u).toArray⟩ := by
   have := extract_drop (S := w) (p := 0) (n := (Lib.decDigits u).length) (a := Lib.decDigits u) (b := [76]) (by rw [hw']; rfl) rfl
   rw [Nat.zero_add] at this
   rw [hsz, Nat.add_sub_cancel, this]
  have ht : tkW w = (3, ⟨(digsN u).toArray⟩) := by
   unfold tkW
   rw [hw0, if_neg (by rw [hnl]; simp), if_pos hb0, if_pos hlast, hex]
   rfl
  refine ⟨by rw [ht]; rfl, ?_, hv⟩
  unfold WOk
  rw [ht]
  exact ⟨htok 3 (.inr ⟨rfl, by omega⟩), by rw [hw']; simp [tail3, digsN]⟩
section
variable {L : List Tok}
def Hs (L : List Tok) (i : Nat) : List ByteArray → Prop
 | [] => True
 | w :: ws => (∃ t, L[i]? = some t ∧ (t.k, t.s) = tkW w) ∧ Hs L (i + 1) ws
theorem Hs.app {a b : List ByteArray} : ∀ {i : Nat}, Hs L i (a ++ b) ↔ Hs L i a ∧ Hs L (i + a.length) b := by
 induction a with
 | nil => intro i; simp [Hs]
 | cons w a ih =>
  intro i
  rw [List.cons_append, Hs, Hs, ih, List.length_cons, show i + 1 + a.length = i + (a.length + 1) by omega, and_assoc]
theorem Hs.lt {w : ByteArray} {ws : List ByteArray} {i : Nat} (h : Hs L i (w :: ws)) : i < L.length := by
 obtain ⟨⟨t, ht, -⟩, -⟩ := h
 exact (List.getElem?_eq_some_iff.1 ht).1
theorem Hs.le {ws : List ByteArray} : ∀ {i : Nat}, Hs L i ws → ws ≠ [] → i + ws.length ≤ L.length := by
 induction ws with
 | nil => intro i _ h; exact absurd rfl h
 | cons w ws ih =>
  intro i h _
  have h0 := h.lt
  rcases ws with _ | ⟨v, ws⟩
  ·rw [List.length_singleton]; omega
  ·have := ih h.2 (by simp); rw [List.length_cons]; omega
def tIsW (s w : ByteArray) : Bool := ((tkW w).1 == 1 || (tkW w).1 == 4) && decide ((tkW w).2 = s)
theorem Hs.is {w : ByteArray} {ws : List ByteArray} {i : Nat} (h : Hs L i (w :: ws)) (s : ByteArray) : tIs L s i = tIsW s w := by
 obtain ⟨⟨t, ht, e⟩, -⟩ := h
 unfold tIs tIsW
 rw [ht, ← e]
theorem Hs.nm {w : ByteArray} {ws : List ByteArray} {i : Nat} (h : Hs L i (w :: ws)) : tNm L i = ((tkW w).1 == 1 && nameOf (tkW w).2) := by
 obtain ⟨⟨t, ht, e⟩, -⟩ := h
 unfold tNm
 rw [ht, ← e]
theorem Hs.tx {w : ByteArray} {ws : List ByteArray} {i : Nat} (h : Hs L i (w :: ws)) : tTx L i = (tkW w).2 := by
 obtain ⟨⟨t, ht, e⟩, -⟩ := h
 unfold tTx
 rw [ht, ← e]
theorem isW_name {s t : ByteArray} (ht : nameOf t = true) (hs : nameOf s = false) : tIsW s t = false := by
 unfold tIsW
 rw [tkW_name ht]
 have : t ≠ s := fun e => by rw [e, hs] at ht; cases ht
 simp [this]
theorem Hs.name {w : ByteArray} {ws : List ByteArray} {i : Nat} (h : Hs L i (w :: ws)) (hw : nameOf w = true) : tNm L i = true ∧ nameM L i = .ok w (i + 1) ∧ ∀ s, nameOf s = false → tIs L s i = false := by
 have h1 : tNm L i = true := by rw [h.nm, tkW_name hw]; simp [hw]
 refine ⟨h1, ?_, fun s hs => by rw [h.is, isW_name hw hs]⟩
 unfold nameM
 rw [if_pos h1, h.tx, tkW_name hw]
theorem Hs.need {s : ByteArray} {ws : List ByteArray} {i : Nat} (h : Hs L i (s :: ws)) (hs : tIsW s s = true) : needM L s i = .ok () (i + 1) := by
 unfold needM
 rw [h.is, if_pos hs]
end
end Go.Proofs.YtgegfbopogcjpaaGreatDoor
namespace Go.Proofs.YtgegfbopogcjpaaGreatDoor
set_option linter.unusedVariables false
set_option linter.unusedSimpArgs false
def plainB (n : Nd) (text num : Bool) (least most : Int) : Bool :=
 (text || n.t.toList.isEmpty) && (num || n.num == 0) && decide (least ≤ (n.kids.length : Int)) && (decide (most < 0) || decide ((n.kids.length : Int) ≤ most)) && (!text || nameOf n.t)
def okC (c : Int) (n : Nd) : Bool := cls n.k == c && isN n false
def okP (c : Int) (n : Nd) : Bool := n.k == c && isN n false
def kd (n : Nd) (i : Nat) : Nd := (n.kids[i]?).getD default
def lastK (n : Nd) : Nd := kd n (n.kids.length - 1)
theorem kidB_c (c k : Int) : kidB (c, 0) k = (cls k == c) := by simp [kidB]
theorem kidB_p {p : Int} (k : Int) (h : cls p = 5) (hp : 0 < p) : kidB (5, p) k = (k == p) := by
 have h1 : ¬ p ≤ 0 := by omega
 have h2 : 0 ≤ p := by omega
 by_cases hk : k = p
 ·subst hk; simp [kidB, h, h2]
 ·simp [kidB, hk, h1, h2]
theorem isN_eq (n : Nd) (f : Bool) : isN n f = match shp n.k with
 | none => false
 | some s => decide (s.least ≤ n.kids.length) && (decide (s.most < 0) || decide ((n.kids.length : Int) ≤ s.most)) && (s.text == decide (n.t.size ≠ 0)) && (!s.text || nameOf n.t) && numB n.k n.num s.num f &&
  (!(n.k == 32) || (sgn n.num).isSome) && (!(n.k == 15) || (match n.kids with | [] => false | m :: _ => (baseN false m).k == 23)) && (!(n.k == 20) || (match n.kids with | [] => false | m :: _ => m.k == 25 && (baseN true m).k == 23)) && isNL n.k 0 n.kids.length n.kids := by
 cases n
 conv => lhs; unfold isN
 rfl
theorem isNL_append (k : Int) (len : Nat) (r : List Nd) : ∀ (l : List Nd) (i : Nat), isNL k i len (l ++ r) = (isNL k i len l && isNL k (i + l.length) len r)
 | [], i => by simp [isNL]
 | n :: l, i => by
  rw [List.cons_append, isNL, isNL, isNL_append k len r l, List.length_cons, show i + (l.length + 1) = i + 1 + l.length by omega]
  simp [Bool.and_assoc]
theorem isNL_all (k : Int) (len : Nat) (w : Int × Int) : ∀ (l : List Nd) (i : Nat), (∀ j, i ≤ j → j < i + l.length → wantC k j len = w) → isNL k i len l = l.all (fun m => kidB w m.k && isN m (decide (w.2 < 0)))
 | [], i, _ => by simp [isNL]
 | n :: l, i, h => by
  rw [isNL, isNL_all k len w l (i + 1) (fun j h1 h2 => h j (by omega) (by simp; omega)), h i (Nat.le_refl _) (by simp)]
  simp
theorem isNL_okC {k : Int} {len : Nat} {c : Int} (l : List Nd) (i : Nat) (h : ∀ j, i ≤ j → j < i + l.length → wantC k j len = (c, 0)) : isNL k i len l = l.all (okC c) := by
 rw [isNL_all k len (c, 0) l i h]
 congr 1
 funext m
 rw [kidB_c]
 rfl
theorem isNL_okP {k : Int} {len : Nat} {p : Int} (hp : cls p = 5) (h0 : 0 < p) (l : List Nd) (i : Nat) (h : ∀ j, i ≤ j → j < i + l.length → wantC k j len = (5, p)) : isNL k i len l = l.all (okP p) := by
 rw [isNL_all k len (5, p) l i h]
 congr 1
 funext m
 rw [kidB_p m.k hp h0]
 have : decide (p < 0) = false := by rw [decide_eq_false_iff_not]; omega
 simp only [this]
 rfl
theorem name_size (t : ByteArray) : ((true == decide (t.size ≠ 0)) && nameOf t) = nameOf t := by
 rcases h : nameOf t with _ | _
 ·simp
 ·have := (name_false h).1
  have h0 : decide (t.size ≠ 0) = true := by rw [decide_eq_true_eq]; omega
  rw [h0]; rfl
theorem text_size (t : ByteArray) : (false == decide (t.size ≠ 0)) = t.toList.isEmpty := by
 have e : t.toList = t.data.toList := ByteArray.toList_eq t
 rw [e]
 have h2 : t.size = t.data.toList.length := by simp
 rw [h2]
 cases t.data.toList <;> simp
theorem numB_zero {k num : Int} (hk : k ≠ 21) : numB k num 0 false = (num == 0) := by
 by_cases h : num = 0
 ·subst h; simp [numB, hk]
 ·have : ¬ (0 ≤ num ∧ num ≤ 0) := by omega
  rcases Classical.em (0 ≤ num) with h1 | h1
  ·have h2 : ¬ num ≤ 0 := by omega
   simp [numB, h, h1, h2]
  ·simp [numB, h, h1]
theorem numB_upto {k num m : Int} (hk : k ≠ 21) (h0 : 0 ≤ m) (hm : m ≤ 1000) : numB k num m false = (decide (0 ≤ num) && decide (num ≤ m)) := by
 have h1 : ¬ m < 0 := by omega
 by_cases h2 : 0 ≤ num
 ·by_cases h3 : num ≤ m
  ·have h4 : num ≤ 9223372036854775807 := by omega
   simp [numB, hk, h1, h2, h3, h4]
  ·simp [numB, hk, h1, h2, h3]
 ·simp [numB, hk, h1, h2]
theorem len_cast (a b : Nat) : decide (((a : Nat) : Int) ≤ (b : Int)) = decide (a ≤ b) := by simp
theorem isN_plain (n : Nd) (text : Bool) (num : Int) (least : Nat) (most : Int) (h : shp n.k = some ⟨text, num, least, most⟩) (h21 : n.k ≠ 21) (h0 : 0 ≤ num) (hm : num ≤ 1000) :
 isN n false = (plainB n text (decide (num ≠ 0)) least most && (decide (0 ≤ n.num) && decide (n.num ≤ num)) && (!(n.k == 32) || (sgn n.num).isSome) && (!(n.k == 15) || (match n.kids with | [] => false | m :: _ => (baseN false m).k == 23)) && (!(n.k == 20) || (match n.kids with | [] => false | m :: _ => m.k == 25 && (baseN true m).k == 23)) && isNL n.k 0 n.kids.length n.kids) := by
 rw [isN_eq, h]
 dsimp only
 rw [numB_upto h21 h0 hm]
 generalize (!(n.k == 32) || (sgn n.num).isSome) = A
 generalize (!(n.k == 15) || (match n.kids with | [] => false | m :: _ => (baseN false m).k == 23)) = B
 generalize (!(n.k == 20) || (match n.kids with | [] => false | m :: _ => m.k == 25 && (baseN true m).k == 23)) = C
 generalize isNL n.k 0 n.kids.length n.kids = D
 unfold plainB
 have e1 : decide ((least : Int) ≤ (n.kids.length : Int)) = decide (least ≤ n.kids.length) := by simp
 rw [e1]
 have e2 : (text == decide (n.t.size ≠ 0) && (!text || nameOf n.t)) = ((text || n.t.toList.isEmpty) && (!text || nameOf n.t)) := by
  cases text
  ·rw [text_size]; simp
  ·have := name_size n.t
   simpa using this
 have e3 : (decide (0 ≤ n.num) && decide (n.num ≤ num)) = ((decide (num ≠ 0) || n.num == 0) && (decide (0 ≤ n.num) && decide (n.num ≤ num))) := by
  by_cases hz : num = 0
  ·subst hz
   by_cases hn : n.num = 0
   ·simp [hn]
   ·have : ¬ (0 ≤ n.num ∧ n.num ≤ 0) := by omega
    rw [← Bool.decide_and]
    simp [hn, this]
  ·simp [hz]
 generalize decide (least ≤ n.kids.length) = E
 generalize (decide (most < 0) || decide ((n.kids.length : Int) ≤ most)) = F
 generalize (text || n.t.toList.isEmpty) = G at *
 generalize (!text || nameOf n.t) = H at *
 generalize (text == decide (n.t.size ≠ 0)) = I at *
 rw [e3]
 generalize (decide (0 ≤ n.num) && decide (n.num ≤ num)) = J
 generalize (decide (num ≠ 0) || n.num == 0) = L
 revert e2
 cases A <;> cases B <;> cases C <;> cases D <;> cases E <;> cases F <;> cases G <;> cases H <;> cases I <;> cases J <;> cases L <;> decide
theorem plain_len {n : Nd} {text num : Bool} {least most : Int} (h : plainB n text num least most = true) : least ≤ (n.kids.length : Int) ∧ (most < 0 ∨ (n.kids.length : Int) ≤ most) := by
 simp only [plainB, Bool.and_eq_true, Bool.or_eq_true, decide_eq_true_eq] at h
 exact ⟨h.1.1.2, h.1.2⟩
theorem plain_name {n : Nd} {num : Bool} {least most : Int} (h : plainB n true num least most = true) : nameOf n.t = true := by
 simp only [plainB, Bool.and_eq_true, Bool.or_eq_true, decide_eq_true_eq] at h
 simpa using h.2
theorem and_congr_left {a b c : Bool} (h : a = true → b = c) : (a && b) = (a && c) := by cases a <;> simp_all
end Go.Proofs.YtgegfbopogcjpaaGreatDoor
