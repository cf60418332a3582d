/- All tokens of a text (lex.Scan); The reference's small functions: bytes, the greater of two rows of digits, a row that begins with a digit; The reference's sign: the longest sign that a text begins with. -/
import Derived.Test.YtgegfbopogcjpaaGreatDoorQ05
import Derived.Test.YtgegfbopogcjpaaGreatDoorQ06
import Derived.Deep.RegionHeld3
import Derived.WalkLawsBesides
import Derived.Deep.CutRange
import Derived.Deep.QuietTactic
namespace Go.Proofs.YtgegfbopogcjpaaGreatDoor
open Go.RowKit Go.Shelf
set_option linter.unusedVariables false
set_option linter.unusedSimpArgs false
set_option maxRecDepth 100000
set_option maxHeartbeats 2000000
def tkC (t : Tok) : List Value := [.int .i64 t.k, .string t.s, .int .i64 (t.p : Int)]
theorem ER.grown {w w' : World} {g : Nat} (h : ER w) (ho : w.grownBy w' (some g)) (hg : ∀ k, Tryz.prog.globalNamed "strconv.ErrRange" = some k → k ≠ g) : ER w' := by
 obtain ⟨tp, p, h⟩ := h
 refine ⟨tp, p, ?_⟩
 unfold World.var? at h ⊢
 cases hk : Tryz.prog.globalNamed "strconv.ErrRange" with
 | none => rw [hk] at h; cases h
 | some k =>
  rw [hk] at h
  simp only [Option.bind_some] at h ⊢
  have hlt : k < w.heap.size := by
   rcases Nat.lt_or_ge k w.heap.size with h' | h'
   ·exact h'
   ·rw [Array.getElem?_eq_none h'] at h; cases h
  rw [ho.block k hlt (fun e => hg k hk (by injection e))]
  exact h
theorem ER.lt {w : World} (h : ER w) (k : Nat) (hk : Tryz.prog.globalNamed "strconv.ErrRange" = some k) : k < w.heap.size := by
 obtain ⟨tp, p, h⟩ := h
 unfold World.var? at h
 rw [hk] at h
 simp only [Option.bind_some] at h
 rcases Nat.lt_or_ge k w.heap.size with h' | h'
 ·exact h'
 ·rw [Array.getElem?_eq_none h'] at h; cases h
def LexOut (s : ByteArray) (w : World) (e : Ending) (w' : World) : Prop :=
 ∃ (A : Option Addr) (c : Nat), e = .returned (.tuple #[.slice A (lexOf s).l.length c, .agg #[.int .i64 (lexOf s).e, .int .i64 ((lexOf s).p : Int)]]) ∧ Row w' A ((lexOf s).l.flatMap tkC) ∧ Below w.heap.size w w'
theorem skip_idem {s : ByteArray} {k : Nat} : skip s false (skip s false k) = skip s false k := by
 by_cases h : skip s false k < s.size
 ·obtain ⟨h1, h2⟩ := skip_end h
  exact skip_here h h1 h2
 ·exact skip_stop fun h' => absurd h' h
def LexI (w : World) (s : ByteArray) (g : Nat) (v : Value) (wr : World) : Prop := ∃ (j : Nat) (acc : List Tok),
 Hid (j ≤ s.size ∧ skip s false j = j ∧ lexA s false j acc = lexA s false 0 [] ∧ acc.length ≤ j ∧ Scn wr g s j 0 0 ∧ wr.ownsRow w.heap.size 50 3 v acc.length (acc.flatMap tkC) ∧ ER wr ∧ Blk wr w.heap.size 27 #[.int .i64 0, .int .i64 0] ∧ Below w.heap.size w wr)
theorem results_scan {fn : Func} (h : fn.results = #[.tmp 2, .cell 3 27]) {w : World} {b : Nat} {a0 a1 x : Value} {tmps : Array Value} (k : Blk w b 27 #[a0, a1]) (h2 : tmps.getD 2 undef = x) (h3 : tmps.getD 3 undef = .pointer (some ⟨b, 0, none⟩)) :
 (results fn tmps).run Tryz.prog w = .ok (.tuple #[x, .agg #[a0, a1]]) w := by
 have c0 := k.cell 0 _ rfl
 have c1 := k.cell 1 _ rfl
 simp at c0 c1
 simp only [Array.getD_eq_getD_getElem?] at h2 h3
 simp [results, h, go_sem, h2, h3, c0, c1]
theorem blk_set2 {w : World} {b : Nat} {t : TypeId} {a0 a1 : Value} (k : Blk w b t #[a0, a1]) (b0 b1 : Value) : Blk ((w.setCell ⟨b, 0, none⟩ b0).setCell ⟨b, 1, none⟩ b1) b t #[b0, b1] := (k.set_ 0 b0).set_ 1 b1
theorem info_token : (Tryz.prog.info? 50).map (fun i => (i.zero, i.size, i.bytes)) = some (some (.agg #[.int .i64 0, .string ⟨#[]⟩, .int .i64 0]), 3, 32) := by kernel_rfl
theorem scan_any (s : ByteArray) (w : World) (he : ER w) : Calls Tryz.prog 10 #[.string s] w (LexOut s w) := by
 by_cases h4 : 4000 < s.size
 ·have hL : lexOf s = ⟨[], 1, 0⟩ := by unfold lexOf; rw [if_pos h4]
  have d1 : (4000 : Int) < (s.size : Int) := by omega
  have HL := Lib.hid hL
  have HK := Lib.hid (Blk.new_ w 27 #[.int .i64 0, .int .i64 0])
  clear hL
  go_enter Tryz.func10, Tryz.ntmps10
  go_wp2_with fail
  exact bodyPost_ret (results_scan (by kernel_rfl) (Blk.new_ w 27 #[.int .i64 1, .int .i64 0]) rfl rfl) rfl ⟨none, 0, by rw [HL.out]; rfl, by rw [HL.out]; exact .inl rfl, by (repeat (first | with_reducible assumption | with_reducible exact Below.refl _ _ | (refine Below.setCell ?_ (by first | omega | (simp; done) | (simp; omega)) _) | (refine Below.drewN_ ?_ _) | (refine Below.drew ?_) | (refine Below.alloc ?_ (by first | omega | (simp; done) | (simp; omega)) _)))⟩
 ·have hL : lexOf s = lexA s false 0 [] := by unfold lexOf; rw [if_neg h4]
  have d1 : ¬ (4000 : Int) < (s.size : Int) := by omega
  have hs : s.size ≤ 4000 := by omega
  have HL := Lib.hid hL
  have B1 : Below w.heap.size w ((w.alloc (.cells #[.int .i64 0, .int .i64 0] 27)).alloc (.cells #[.string s, .int .i64 0, .int .i64 0, .int .i64 0] 63)) := by (repeat (first | with_reducible assumption | with_reducible exact Below.refl _ _ | (refine Below.setCell ?_ (by first | omega | (simp; done) | (simp; omega)) _) | (refine Below.drewN_ ?_ _) | (refine Below.drew ?_) | (refine Below.alloc ?_ (by first | omega | (simp; done) | (simp; omega)) _)))
  have hz1 : (w.alloc (.cells #[.int .i64 0, .int .i64 0] 27)).heap.size = w.heap.size + 1 := by simp
  have KS : Hid (Scn ((w.alloc (.cells #[.int .i64 0, .int .i64 0] 27)).alloc (.cells #[.string s, .int .i64 0, .int .i64 0, .int .i64 0] 63)) (w.heap.size + 1) s 0 0 0) := by
   have := Blk.new_ (w.alloc (.cells #[.int .i64 0, .int .i64 0] 27)) 63 #[.string s, .int .i64 0, .int .i64 0, .int .i64 0]
   rw [hz1] at this
   exact this
  have KF := Lib.hid ((Blk.new_ w 27 #[.int .i64 0, .int .i64 0]).alloc (.cells #[.string s, .int .i64 0, .int .i64 0, .int .i64 0] 63))
  have HGE : Hid (∀ k, Tryz.prog.globalNamed "strconv.ErrRange" = some k → k ≠ w.heap.size + 1) := fun k hk => by have := he.lt k hk; omega
  have HE0 : Hid (ER ((w.alloc (.cells #[.int .i64 0, .int .i64 0] 27)).alloc (.cells #[.string s, .int .i64 0, .int .i64 0, .int .i64 0] 63))) := ER.keep he B1
  obtain ⟨i0, hi0, hz0, hz1', hz2⟩ := info_parts info_token
  have HB1 := Lib.hid B1
  have HE := Lib.hid he
  clear hL h4 he B1
  go_enter Tryz.func10, Tryz.ntmps10
  go_wp2_with fail
  have HGN : Hid (w.heap.size + 1 ≠ w.heap.size) := fun e => by omega
  have HGL : Hid (w.heap.size ≤ w.heap.size + 1) := Nat.le_succ _
  clear hz1
  generalize w.heap.size + 1 = g at *
  refine (blanks_any g s 0 0 0 _ (Nat.zero_le _) hs KS.out).mono ?_
  rintro e w1 ⟨rfl, hs1, ho1⟩
  have HI : Hid (LexI w s g (.slice none 0 0) w1) := ⟨skip s false 0, [], skip_le (Nat.zero_le _), skip_idem, (lexA_skip []).symm, Nat.zero_le _, hs1, World.ownsRow_nil _ _ _ _, ER.grown HE0.out ho1.1 HGE.out, KF.out.grown ho1.1 (fun e => HGN.out (by injection e with e; exact e.symm)), HB1.out.grown ho1.1 HB1.out.size (fun k hk => by injection hk with hk; rw [← hk]; exact HGL.out)⟩
  clear hs1 ho1 KS KF HE0 HB1
  go_wp2_with fail
  go_loopw [5] (fun v wr => LexI w s g v wr) (fun _ wr => scanLeft s g wr)
  case atStart => exact HI.out
  case round =>
   clear HI w1
   obtain ⟨j, acc, HJ⟩ := hrel
   have c1 := HJ.out.2.2.2.2.1.cell 1 (.int .i64 j) rfl
   have hj := HJ.out.1
   have HM : Hid (scanLeft s g wr = s.size - j) := scanLeft_at c1
   by_cases hlt : j < s.size
   ·have g1 : (j : Int) < (s.size : Int) := by omega
    go_wp2_with fail
    refine (next_any g s j 0 0 _ hlt hs HJ.out.2.2.2.2.1 HJ.out.2.2.2.2.2.2.1 HGE.out).mono ?_
    rintro e w2 ⟨rfl, ⟨z, hz, hs2, hz2⟩, hg2⟩
    have hown2 : w2.ownsRow w.heap.size 50 3 u5 acc.length (acc.flatMap tkC) := HJ.out.2.2.2.2.2.1.kept hg2 (.inr (fun e => own_blk HJ.out.2.2.2.2.2.1 HJ.out.2.2.2.2.1 (by decide) e.symm))
    have kf2 := HJ.out.2.2.2.2.2.2.2.1.grown hg2 (fun e => HGN.out (by injection e with e; exact e.symm))
    have he2 : ER w2 := ER.grown HJ.out.2.2.2.2.2.2.1 hg2 HGE.out
    have hb2 : Below w.heap.size w w2 := HJ.out.2.2.2.2.2.2.2.2.grown hg2 HJ.out.2.2.2.2.2.2.2.2.size (fun k hk => by injection hk with hk; rw [← hk]; exact HGL.out)
    have hsz2 : w.heap.size ≤ w2.heap.size := hb2.size
    by_cases h0 : (tokAt s j).e = 0
    ·have hzz := hz2 h0
     have HN : Hid (lexA s false j acc = lexA s false z (acc ++ [⟨(tokAt s j).k, (tokAt s j).t, j⟩])) := by
      show _ = _
      have h1 : skip s false j < s.size := by rw [HJ.out.2.1]; exact hlt
      have := lexA_one (s := s) (note := false) (k := j) h1 (by rw [HJ.out.2.1]; exact h0) acc
      rw [HJ.out.2.1] at this
      rw [this, hzz]
     have hgt : j < z := by rw [hzz]; exact tokAt_gt hlt h0
     rw [if_pos h0, h0]
     unfold tokC
     generalize (tokAt s j).k = K at *
     generalize (tokAt s j).t = T at *
     have HS2 := Lib.hid hs2
     have HOW2 := Lib.hid hown2
     have KF2 := Lib.hid kf2
     have HE2 := Lib.hid he2
     have HB2 := Lib.hid hb2
     clear hzz hz2 h0 hs2 hown2 kf2 he2 hb2 hg2
     have hal : acc.length ≤ 4000 := by have := HJ.out.2.2.2.1; omega
     go_wp2_with (at_builtin; refine wpList_append_own _ rfl _ _ 35 rfl w.heap.size 50 i0 (.agg #[.int .i64 0, .string ⟨#[]⟩, .int .i64 0]) 3 32 Tryz.underlying35 hi0 hz0 hz1' hz2 rfl (by decide) _ _ _ rfl ((HOW2.out.alloc _).alloc _) ⟨w2.heap.size + 1, 0, none⟩ 1 1 [.int .i64 K, .string T, .int .i64 (j : Int)] rfl rfl ?c1 ?c2 ?c3 ?c4 ?c5 ?_)
     case c1 => exact World.news_of_block (cs := #[.int .i64 K, .string T, .int .i64 (j : Int)]) (t := 50) (fr := (0, 0)) (heap_new (by simp))
     case c2 => simp [Value.oneCell']
     case c3 => unfold maxLen; omega
     case c4 => omega
     case c5 => simp; omega
     intro v' w3 hown3 hgrow3 _
     have hs3 := ((Blk.alloc HS2.out (.cells #[.int .i64 K, .string T, .int .i64 (j : Int)] 50)).alloc (.cells #[.int .i64 K, .string T, .int .i64 (j : Int)] 50)).grown hgrow3 (own_blk HOW2.out HS2.out (by decide))
     have kf3 := ((KF2.out.alloc (.cells #[.int .i64 K, .string T, .int .i64 (j : Int)] 50)).alloc (.cells #[.int .i64 K, .string T, .int .i64 (j : Int)] 50)).grown hgrow3 (own_blk HOW2.out KF2.out (by decide))
     have hb3 : Below w.heap.size w w3 := ((HB2.out.alloc hsz2 (.cells #[.int .i64 K, .string T, .int .i64 (j : Int)] 50)).alloc (by simp; omega) (.cells #[.int .i64 K, .string T, .int .i64 (j : Int)] 50)).grown hgrow3 (by simp; omega) (own_ge HOW2.out)
     have hx : acc.flatMap tkC ++ [.int .i64 K, .string T, .int .i64 (j : Int)] = (acc ++ [(⟨K, T, j⟩ : Tok)]).flatMap tkC := by simp [tkC]
     have hy : acc.length + 1 = (acc ++ [(⟨K, T, j⟩ : Tok)]).length := by simp
     rw [hx, hy] at hown3
     have HAL : Hid ((acc ++ [(⟨K, T, j⟩ : Tok)]).length ≤ z) := by show _ ≤ _; rw [← hy]; have := HJ.out.2.2.2.1; omega
     have HLA : Hid (lexA s false z (acc ++ [⟨K, T, j⟩]) = lexA s false 0 []) := HN.out.symm.trans HJ.out.2.2.1
     have HS3 := Lib.hid hs3
     have KF3 := Lib.hid kf3
     have HB3 := Lib.hid hb3
     have HO3 := Lib.hid hown3
     clear hs3 kf3 hb3 hown3 hgrow3 HS2 KF2 HB2 HOW2 hx hy HN
     generalize acc ++ [(⟨K, T, j⟩ : Tok)] = acc' at *
     go_wp2_with fail
     refine (blanks_any g s z 0 0 _ hz hs HS3.out).mono ?_
     rintro e w4 ⟨rfl, hs4, ho4⟩
     have HI : Hid (LexI w s g v' w4) := by
      have hb4 : Below w.heap.size w w4 := HB3.out.grown ho4.1 HB3.out.size (fun k hk => by injection hk with hk; rw [← hk]; exact HGL.out)
      refine ⟨skip s false z, acc', skip_le hz, skip_idem, (lexA_skip acc').symm.trans HLA.out, Nat.le_trans HAL.out skip_ge, hs4, HO3.out.kept ho4.1 (.inr (fun e => own_blk HO3.out HS3.out (by decide) e.symm)), ER.keep HE.out hb4, KF3.out.grown ho4.1 (fun e => HGN.out (by injection e with e; exact e.symm)), hb4⟩
     have HM4 : Hid (scanLeft s g w4 = s.size - skip s false z) := scanLeft_at (hs4.cell 1 (.int .i64 (skip s false z : Nat)) rfl)
     have hsk : z ≤ skip s false z := skip_ge
     clear hs4 ho4 HS3 KF3 HB3 HO3 HLA HAL
     go_wp2_with fail
     go_roundw
     case rel => exact HI.out
     case measure =>
      have h1 := HM.out
      have h2 := HM4.out
      omega
    ·have HR : Hid (lexOf s = ⟨[], (tokAt s j).e, j⟩) := by
      show _ = _
      rw [HL.out, ← HJ.out.2.2.1]
      have h1 : skip s false j < s.size := by rw [HJ.out.2.1]; exact hlt
      have := lexA_bad (s := s) (note := false) (k := j) h1 (by rw [HJ.out.2.1]; exact h0) acc
      rw [HJ.out.2.1] at this
      exact this
     have hbe : ((tokAt s j).e != 0) = true := by simpa using h0
     rw [if_neg h0]
     unfold zeroT
     generalize (tokAt s j).e = E at *
     have HS2 := Lib.hid hs2
     have HB2 := Lib.hid hb2
     have KF2 := Lib.hid kf2
     have x0 := hs2.cell 0 (.string s) rfl
     have x2 := hs2.cell 2 (.int .i64 0) rfl
     have x3 := hs2.cell 3 (.int .i64 0) rfl
     have y2 := hs2.free 2
     have y3 := hs2.free 3
     have u0 := kf2.cell 0 (.int .i64 0) rfl
     have u1 := kf2.cell 1 (.int .i64 0) rfl
     have t0 := kf2.free 0
     have t1 := kf2.free 1
     have hgl := hs2.lt
     have hgn := HGN.out
     clear hs2 hb2 kf2 he2 hown2 hg2 hz2 h0
     go_wp2_with fail
     obtain ⟨w5, hw5⟩ : ∃ W : World, W = ((w2.setCell ⟨g, 2, none⟩ (.int .i64 E)).setCell ⟨g, 3, none⟩ (.int .i64 (j : Int))).alloc (.cells #[.int .i64 0, .string ⟨#[]⟩, .int .i64 0] 50) := ⟨_, rfl⟩
     rw [← hw5]
     have HS5 : Hid (Scn w5 g s z E j) := by
      show Scn w5 g s z E j
      rw [hw5]
      exact Blk.alloc ((Blk.set_ HS2.out 2 (.int .i64 E)).set_ 3 (.int .i64 (j : Int))) _
     have KF5 : Hid (Blk w5 w.heap.size 27 #[.int .i64 0, .int .i64 0]) := by
      show Blk w5 _ _ _
      rw [hw5]
      exact Blk.alloc ((Blk.far KF2.out (p := ⟨g, 2, none⟩) (fun e => hgn e.symm) (.int .i64 E)).far (p := ⟨g, 3, none⟩) (fun e => hgn e.symm) (.int .i64 (j : Int))) _
     have HB5 : Hid (Below w.heap.size w w5) := by
      show Below _ _ w5
      rw [hw5]
      exact ((HB2.out.setCell (p := ⟨g, 2, none⟩) HGL.out _).setCell (p := ⟨g, 3, none⟩) HGL.out _).alloc (by simpa [World.setCell] using hsz2) _
     clear hw5 x0 x2 x3 y2 y3 u0 u1 t0 t1 HS2 KF2 HB2
     have x2 := HS5.out.cell 2 (.int .i64 E) rfl
     have x3 := HS5.out.cell 3 (.int .i64 (j : Int)) rfl
     have u0 := KF5.out.cell 0 (.int .i64 0) rfl
     have u1 := KF5.out.cell 1 (.int .i64 0) rfl
     have t0 := KF5.out.free 0
     have t1 := KF5.out.free 1
     go_region
     go_wp2_with fail
     exact bodyPost_ret (results_scan (by kernel_rfl) (Blk.drewN (blk_set2 KF5.out _ _) 1) rfl rfl) rfl ⟨none, 0, by rw [HR.out]; rfl, by rw [HR.out]; exact .inl rfl, ((HB5.out.setCell (p := ⟨w.heap.size, 0, none⟩) (Nat.le_refl _) _).setCell (p := ⟨w.heap.size, 1, none⟩) (Nat.le_refl _) _).drew⟩
   ·have g1 : ¬ (j : Int) < (s.size : Int) := by omega
    have c2 := HJ.out.2.2.2.2.1.cell 2 (.int .i64 0) rfl
    have c3 := HJ.out.2.2.2.2.1.cell 3 (.int .i64 0) rfl
    have kf := HJ.out.2.2.2.2.2.2.2.1
    have y0 := kf.cell 0 (.int .i64 0) rfl
    have y1 := kf.cell 1 (.int .i64 0) rfl
    have z0 := kf.free 0
    have z1 := kf.free 1
    have KF := Lib.hid kf
    clear kf
    go_wp2_with fail
    go_region
    go_wp2_with fail
    have hR : lexOf s = ⟨acc, 0, 0⟩ := by rw [HL.out, ← HJ.out.2.2.1]; exact lexA_end (by rw [HJ.out.2.1]; exact hlt) _
    have hne := own_blk HJ.out.2.2.2.2.2.1 KF.out (by decide)
    have ho := (own_set (own_set HJ.out.2.2.2.2.2.1 (p := ⟨w.heap.size, 0, none⟩) hne (.int .i64 0)) (p := ⟨w.heap.size, 1, none⟩) hne (.int .i64 0)).drew
    obtain ⟨A, c, hv, hrow⟩ := Row.of_own ho
    exact bodyPost_ret (results_scan (by kernel_rfl) (Blk.drewN (blk_set2 KF.out _ _) 1) rfl rfl) rfl ⟨A, c, by rw [hR]; exact congrArg (fun z => Ending.returned (.tuple #[z, .agg #[.int .i64 0, .int .i64 0]])) hv, by rw [hR]; exact hrow, ((HJ.out.2.2.2.2.2.2.2.2.setCell (p := ⟨w.heap.size, 0, none⟩) (Nat.le_refl _) _).setCell (p := ⟨w.heap.size, 1, none⟩) (Nat.le_refl _) _).drew⟩
end Go.Proofs.YtgegfbopogcjpaaGreatDoor
namespace Go.Proofs.YtgegfbopogcjpaaGreatDoor
open Go.RowKit Go.Shelf
set_option linter.unusedVariables false
set_option linter.unusedSimpArgs false
set_option maxRecDepth 100000
set_option maxHeartbeats 1000000
theorem refLetter_any (c : Int) (w : World) : Calls Tryz.prog 37 #[.int .u8 c] w fun e w' => e = .returned (.bool (letterI c)) ∧ w' = w := by
 go_enter Tryz.func37, Tryz.ntmps37
 go_wp2
 all_goals go_ret
 all_goals refine ⟨?_, rfl⟩
 all_goals
  have e1 : letterI c = ((decide (97 ≤ c) && decide (c ≤ 122)) || (decide (65 ≤ c) && decide (c ≤ 90))) := rfl
  rw [e1]
  simp_all <;> (try omega)
theorem refDigit_any (c : Int) (w : World) : Calls Tryz.prog 38 #[.int .u8 c] w fun e w' => e = .returned (.bool (digitI c)) ∧ w' = w := by
 go_enter Tryz.func38, Tryz.ntmps38
 go_wp2
 all_goals go_ret
 all_goals refine ⟨?_, rfl⟩
 all_goals
  have e1 : digitI c = (decide (48 ≤ c) && decide (c ≤ 57)) := rfl
  rw [e1]
  simp_all <;> (try omega)
theorem inside_any (c : Int) (w : World) : Calls Tryz.prog 35 #[.int .u8 c] w fun e w' => e = .returned (.bool (chrI c)) ∧ w' = w := by
 go_enter Tryz.func35, Tryz.ntmps35
 go_wp2_with (first
  | (go_at_call 37; refine (refLetter_any _ _).mono ?_; rintro e w' ⟨rfl, hw⟩; subst hw)
  | (go_at_call 38; refine (refDigit_any _ _).mono ?_; rintro e w' ⟨rfl, hw⟩; subst hw))
 all_goals go_ret
 all_goals refine ⟨?_, rfl⟩
 all_goals
  rw [chr_or]
  simp_all
theorem above_any (a b : ByteArray) (w : World) : Calls Tryz.prog 76 #[.string a, .string b] w fun e w' => e = .returned (.bool (aboveB a.data.toList b.data.toList)) ∧ w' = w := by
 have la : a.data.toList.length = a.size := Array.length_toList
 have lb : b.data.toList.length = b.size := Array.length_toList
 have HV : Hid (aboveB a.data.toList b.data.toList = (decide (b.size < a.size) || (decide (a.size = b.size) && !(Op.bytesLess a.toList b.toList || a.toList == b.toList)))) := by
  show _ = _
  unfold aboveB
  rw [la, lb, ByteArray.toList_eq, ByteArray.toList_eq]
 clear la lb
 generalize aboveB a.data.toList b.data.toList = V at *
 rcases Nat.lt_trichotomy b.size a.size with h | h | h
 ·have hf : Hid (V = true) := by show _ = _; rw [HV.out, decide_eq_true h]; rfl
  have d1 : decide (b.size < a.size) = true := decide_eq_true h
  clear HV h
  go_enter Tryz.func76, Tryz.ntmps76
  go_wp2
  go_ret
  exact ⟨by rw [hf.out]; rfl, rfl⟩
 ·have hf : Hid (V = !(Op.bytesLess a.toList b.toList || a.toList == b.toList)) := by show _ = _; rw [HV.out, decide_eq_false (by omega), decide_eq_true h.symm]; rfl
  have d1 : decide (b.size < a.size) = false := decide_eq_false (by omega)
  have d2 : (a.size == b.size) = true := by rw [beq_iff_eq]; exact h.symm
  have d3 : ((a.size : Int) == (b.size : Int)) = true := by rw [beq_iff_eq]; omega
  clear HV h
  go_enter Tryz.func76, Tryz.ntmps76
  go_wp2
  all_goals go_ret
  all_goals exact ⟨by rw [hf.out]; first | rfl | simp_all, rfl⟩
 ·have hf : Hid (V = false) := by show _ = _; rw [HV.out, decide_eq_false (by omega), decide_eq_false (p := a.size = b.size) (by omega)]; rfl
  have d1 : decide (b.size < a.size) = false := decide_eq_false (by omega)
  have d2 : (a.size == b.size) = false := by rw [beq_eq_false_iff_ne]; omega
  have d3 : ((a.size : Int) == (b.size : Int)) = false := by rw [beq_eq_false_iff_ne]; omega
  clear HV h
  go_enter Tryz.func76, Tryz.ntmps76
  go_wp2
  go_ret
  exact ⟨by rw [hf.out]; rfl, rfl⟩
theorem allDigits_iff {d : ByteArray} : allDigits d = true ↔ ∀ k, k < d.size → digitI (byteI d k) = true := by
 unfold allDigits
 rw [List.all_eq_true]
 constructor
 ·intro h k hk
  rw [byteI_at hk]
  refine h _ ?_
  have : d.data.toList[k]? = some (d[k]'hk) := by
   rw [List.getElem?_eq_getElem (by rw [Array.length_toList]; exact hk), Array.getElem_toList]; rfl
  exact List.mem_of_getElem? this
 ·intro h b hb
  obtain ⟨k, hk, rfl⟩ := List.mem_iff_getElem.1 hb
  have hk' : k < d.size := by rw [Array.length_toList] at hk; exact hk
  have := h k hk'
  rw [byteI_at hk'] at this
  rw [Array.getElem_toList]
  exact this
theorem head_48 {d : ByteArray} (h : 1 < d.size → byteI d 0 ≠ 48) : 1 < d.data.toList.length → d.data.toList.head? ≠ some 48 := by
 intro h1 he
 rw [Array.length_toList] at h1
 refine h h1 ?_
 rw [byteI_at (show 0 < d.size from Nat.lt_trans Nat.zero_lt_one h1)]
 rw [List.head?_eq_getElem?, List.getElem?_eq_getElem (by rw [Array.length_toList]; exact Nat.lt_trans Nat.zero_lt_one h1), Array.getElem_toList] at he
 injection he with he
 have : d[0]'(Nat.lt_trans Nat.zero_lt_one h1) = 48 := he
 rw [this]
 rfl
def DgI (D : ByteArray) (wo : World) (i : Value) (wr : World) : Prop := ∃ k : Nat, i = .int .i64 k ∧ Hid (k ≤ D.size ∧ ∀ j, j < k → digitI (byteI D j) = true) ∧ wr = wo
theorem row_short (r : ByteArray) (w : World) (h1 : 1 ≤ r.size) (h4 : r.size ≤ 4000) (hd : digitI (byteI r 0) = true) (hl : isLong r = false) : Calls Tryz.prog 39 #[.string r] w (NumOut w r) := by
 obtain ⟨hd1, hd2, hd3⟩ := digitsOf_pos h1 hd
 have HDE : Hid (digitsOf r = r) := by show _ = _; unfold digitsOf; rw [hl]; rfl
 have HK : Hid (numK r = 2) := by show _ = _; unfold numK; rw [hl]; rfl
 have HL := Lib.hid hl
 have hlb : (((r[r.size - 1]'(by omega)).toNat : Int) == 76) = false := by
  have := hl
  unfold isLong at this
  rw [byteI_at (by omega)] at this
  exact this
 have hr0 : (0 : Int) ≤ (r.size : Int) - 1 := by omega
 have hr1 : (r.size : Int) - 1 < (r.size : Int) := by omega
 have hrn : ((r.size : Int) - 1).toNat = r.size - 1 := by omega
 have HD3 := Lib.hid hd3
 clear hl hd3 hd
 go_enter Tryz.func39, Tryz.ntmps39
 go_upto_region 6 with (fail)
 have kz : Hid (Blk ((w.alloc (.cells #[.int .i64 0, .string ⟨#[]⟩, .int .i64 0] 50)).alloc (.cells #[.int .i64 2, .string (r), .int .i64 0] 50)) w.heap.size 50 #[.int .i64 0, .string ⟨#[]⟩, .int .i64 0]) := ((Blk.new_ w 50 _).alloc _)
 have kt : Hid (Blk ((w.alloc (.cells #[.int .i64 0, .string ⟨#[]⟩, .int .i64 0] 50)).alloc (.cells #[.int .i64 2, .string (r), .int .i64 0] 50)) (w.heap.size + 1) 50 #[.int .i64 2, .string (r), .int .i64 0]) := by
  have := Blk.new_ (w.alloc (.cells #[.int .i64 0, .string ⟨#[]⟩, .int .i64 0] 50)) 50 #[.int .i64 2, .string (r), .int .i64 0]
  rw [show (w.alloc (.cells #[.int .i64 0, .string ⟨#[]⟩, .int .i64 0] 50)).heap.size = w.heap.size + 1 by simp] at this
  exact this
 have hb : Hid (Below w.heap.size w ((w.alloc (.cells #[.int .i64 0, .string ⟨#[]⟩, .int .i64 0] 50)).alloc (.cells #[.int .i64 2, .string (r), .int .i64 0] 50))) := by show Below _ _ _; (repeat (first | with_reducible assumption | with_reducible exact Below.refl _ _ | (refine Below.setCell ?_ (by first | omega | (simp; done) | (simp; omega)) _) | (refine Below.drewN_ ?_ _) | (refine Below.drew ?_) | (refine Below.alloc ?_ (by first | omega | (simp; done) | (simp; omega)) _)))
 generalize ((w.alloc (.cells #[.int .i64 0, .string ⟨#[]⟩, .int .i64 0] 50)).alloc (.cells #[.int .i64 2, .string (r), .int .i64 0] 50)) = w1 at *
 obtain ⟨D, hD⟩ : ∃ D : ByteArray, D = r := ⟨_, rfl⟩
 have HDR : Hid (digitsOf r = D) := by show _ = _; rw [hD]; exact HDE.out
 rw [← hD] at kt
 have kt' : Blk w1 (w.heap.size + 1) 50 #[.int .i64 2, .string D, .int .i64 0] := kt.out
 have hds : D.size ≤ 4000 ∧ 1 ≤ D.size := by rw [← HDR.out]; omega
 have HAB : Hid (∀ W : World, Calls Tryz.prog 76 #[.string D, .string ⟨#[50, 49, 52, 55, 52, 56, 51, 54, 52, 55]⟩] W fun e w' => e = .returned (.bool (aboveB D.data.toList (mostText false))) ∧ w' = W) := fun W => above_any D ⟨#[50, 49, 52, 55, 52, 56, 51, 54, 52, 55]⟩ W
 clear hD HDE hd1 hd2 HD3
 have x0 := kt'.cell 0 (.int .i64 2) rfl
 have x1 := kt'.cell 1 (.string D) rfl
 have x2 := kt'.cell 2 (.int .i64 0) rfl
 have y0 := kz.out.cell 0 (.int .i64 0) rfl
 have y1 := kz.out.cell 1 (.string ⟨#[]⟩) rfl
 have y2 := kz.out.cell 2 (.int .i64 0) rfl
 have z0 := kz.out.free 0
 have z1 := kz.out.free 1
 have z2 := kz.out.free 2
 clear kt kt'
 obtain ⟨hds1, hds2⟩ := hds
 go_wp2_with fail
 go_loopw [6] (fun i wr => DgI D w1 i wr) (fun i _ => D.size - (intOf i).toNat)
 case atStart => exact ⟨0, rfl, Lib.hid ⟨Nat.zero_le _, fun j h => absurd h (Nat.not_lt_zero j)⟩, rfl⟩
 case round =>
  obtain ⟨k, rfl, HK1, rfl⟩ := hrel
  have hk := HK1.out.1
  by_cases hlt : k < D.size
  ·have g1 : (k : Int) < (D.size : Int) := by omega
   have g0 : (0 : Int) ≤ (k : Int) := by omega
   rcases hp : digitI (byteI D k) with _ | _
   ·have hp' : digitI ((D[k]'hlt).toNat : Int) = false := by rw [← byteI_at hlt]; exact hp
    have HN : Hid (numE r = 2) := numE_form (by
     rw [HDR.out]
     rcases ha : allDigits D with _ | _
     ·rfl
     ·have := allDigits_iff.1 ha k hlt
      rw [hp] at this
      cases this)
    clear hp
    go_wp2_with (go_at_call 38; refine (refDigit_any _ _).mono ?_; rintro e w' ⟨rfl, hw⟩; subst hw)
    exact bodyPost_ret (results_tok (by kernel_rfl) (lblk_set3 kz.out _ _ _) rfl rfl) rfl ⟨by rw [numC_bad HN.out (by decide), HN.out]; rfl, below_set3 hb.out (Nat.le_refl _) _ _ _⟩
   ·have hp' : digitI ((D[k]'hlt).toNat : Int) = true := by rw [← byteI_at hlt]; exact hp
    have HP := Lib.hid hp
    clear hp
    go_wp2_with (go_at_call 38; refine (refDigit_any _ _).mono ?_; rintro e w' ⟨rfl, hw⟩; subst hw)
    go_roundw
    case rel => exact ⟨k + 1, by go_num, Lib.hid ⟨hlt, fun j hj => by
     rcases Nat.lt_or_ge j k with h | h
     ·exact HK1.out.2 j h
     ·rw [show j = k by omega]; exact HP.out⟩, by first | trivial | rfl⟩
    case measure => simp [intOf]; omega
  ·have g1 : ¬ (k : Int) < (D.size : Int) := by omega
   have had : Hid (allDigits D = true) := allDigits_iff.2 fun j hj => HK1.out.2 j (by omega)
   by_cases hn : 1 < D.size ∧ byteI D 0 = 48
   ·have d1 : (1 : Int) < (D.size : Int) := by omega
    have d0 : 0 < D.size := hds2
    have d2 : (((D[0]'(hds2)).toNat : Int) == 48) = true := by rw [beq_iff_eq, ← byteI_at (by omega)]; exact hn.2
    have HN : Hid (numE r = 2) := numE_nought (by rw [HDR.out]; exact had.out) (by rw [HDR.out]; exact hn.1) (by rw [HDR.out]; exact hn.2)
    clear hn
    go_wp2_with fail
    exact bodyPost_ret (results_tok (by kernel_rfl) (lblk_set3 kz.out _ _ _) rfl rfl) rfl ⟨by rw [numC_bad HN.out (by decide), HN.out]; rfl, below_set3 hb.out (Nat.le_refl _) _ _ _⟩
   ·have hov : aboveB D.data.toList (mostText false) = decide (numMost false < decL D.data.toList) := above_most false D.data.toList had.out (head_48 (fun h e => hn ⟨h, e⟩))
    have HNN : Hid (¬(1 < (digitsOf r).size ∧ byteI (digitsOf r) 0 = 48)) := by show ¬ _; rw [HDR.out]; exact hn
    have HE : Hid ((decide (numMost false < decL D.data.toList) = true → numE r = 6) ∧ (decide (numMost false < decL D.data.toList) = false → numE r = 0)) := by
     constructor
     ·intro h
      exact numE_range (by rw [HDR.out]; exact had.out) HNN.out (by rw [HL.out, HDR.out]; simpa using h)
     ·intro h
      exact numE_ok (by rw [HDR.out]; exact had.out) HNN.out (by rw [HL.out, HDR.out]; simpa using h)
    rw [hov] at HAB
    have hN1 : (1 < D.size ∧ byteI D 0 ≠ 48) ∨ D.size ≤ 1 := by omega
    clear hov hn
    generalize decide (numMost false < decL D.data.toList) = ov at *
    rcases hN1 with ⟨d1', d2'⟩ | d1'
    ·have d1 : (1 : Int) < (D.size : Int) := by omega
     have d0 : 0 < D.size := hds2
     have d2 : (((D[0]'(hds2)).toNat : Int) == 48) = false := by rw [beq_eq_false_iff_ne, ← byteI_at (by omega)]; exact d2'
     clear d1' d2'
     rcases ov with _ | _
     ·have HN : Hid (numE r = 0) := HE.out.2 rfl
      clear HE
      go_wp2_with (go_at_call 76; refine (HAB.out _).mono ?_; rintro e w' ⟨rfl, hw⟩; subst hw)
      exact bodyPost_ret (results_tok (by kernel_rfl) (lblk_set3 kz.out _ _ _) rfl rfl) rfl ⟨by rw [numC_ok HN.out, HN.out, HK.out, HDR.out]; rfl, below_set3 hb.out (Nat.le_refl _) _ _ _⟩
     ·have HN : Hid (numE r = 6) := HE.out.1 rfl
      clear HE
      go_wp2_with (go_at_call 76; refine (HAB.out _).mono ?_; rintro e w' ⟨rfl, hw⟩; subst hw)
      exact bodyPost_ret (results_tok (by kernel_rfl) (lblk_set3 kz.out _ _ _) rfl rfl) rfl ⟨by rw [numC_bad HN.out (by decide), HN.out]; rfl, below_set3 hb.out (Nat.le_refl _) _ _ _⟩
    ·have d1 : ¬ (1 : Int) < (D.size : Int) := by omega
     clear d1'
     rcases ov with _ | _
     ·have HN : Hid (numE r = 0) := HE.out.2 rfl
      clear HE
      go_wp2_with (go_at_call 76; refine (HAB.out _).mono ?_; rintro e w' ⟨rfl, hw⟩; subst hw)
      exact bodyPost_ret (results_tok (by kernel_rfl) (lblk_set3 kz.out _ _ _) rfl rfl) rfl ⟨by rw [numC_ok HN.out, HN.out, HK.out, HDR.out]; rfl, below_set3 hb.out (Nat.le_refl _) _ _ _⟩
     ·have HN : Hid (numE r = 6) := HE.out.1 rfl
      clear HE
      go_wp2_with (go_at_call 76; refine (HAB.out _).mono ?_; rintro e w' ⟨rfl, hw⟩; subst hw)
      exact bodyPost_ret (results_tok (by kernel_rfl) (lblk_set3 kz.out _ _ _) rfl rfl) rfl ⟨by rw [numC_bad HN.out (by decide), HN.out]; rfl, below_set3 hb.out (Nat.le_refl _) _ _ _⟩
theorem row_long (r : ByteArray) (w : World) (h1 : 1 ≤ r.size) (h4 : r.size ≤ 4000) (hd : digitI (byteI r 0) = true) (hl : isLong r = true) : Calls Tryz.prog 39 #[.string r] w (NumOut w r) := by
 obtain ⟨hd1, hd2, hd3⟩ := digitsOf_pos h1 hd
 have HDE : Hid (digitsOf r = r.extract 0 (r.size - 1)) := by show _ = _; unfold digitsOf; rw [hl]; rfl
 have HK : Hid (numK r = 3) := by show _ = _; unfold numK; rw [hl]; rfl
 have HL := Lib.hid hl
 have hlb : (((r[r.size - 1]'(by omega)).toNat : Int) == 76) = true := by
  have := hl
  unfold isLong at this
  rw [byteI_at (by omega)] at this
  exact this
 have hr0 : (0 : Int) ≤ (r.size : Int) - 1 := by omega
 have hr1 : (r.size : Int) - 1 < (r.size : Int) := by omega
 have hrn : ((r.size : Int) - 1).toNat = r.size - 1 := by omega
 have HD3 := Lib.hid hd3
 clear hl hd3 hd
 go_enter Tryz.func39, Tryz.ntmps39
 go_upto_region 6 with (fail)
 have kz : Hid (Blk ((w.alloc (.cells #[.int .i64 0, .string ⟨#[]⟩, .int .i64 0] 50)).alloc (.cells #[.int .i64 3, .string (r.extract 0 (r.size - 1)), .int .i64 0] 50)) w.heap.size 50 #[.int .i64 0, .string ⟨#[]⟩, .int .i64 0]) := ((Blk.new_ w 50 _).alloc _)
 have kt : Hid (Blk ((w.alloc (.cells #[.int .i64 0, .string ⟨#[]⟩, .int .i64 0] 50)).alloc (.cells #[.int .i64 3, .string (r.extract 0 (r.size - 1)), .int .i64 0] 50)) (w.heap.size + 1) 50 #[.int .i64 3, .string (r.extract 0 (r.size - 1)), .int .i64 0]) := by
  have := Blk.new_ (w.alloc (.cells #[.int .i64 0, .string ⟨#[]⟩, .int .i64 0] 50)) 50 #[.int .i64 3, .string (r.extract 0 (r.size - 1)), .int .i64 0]
  rw [show (w.alloc (.cells #[.int .i64 0, .string ⟨#[]⟩, .int .i64 0] 50)).heap.size = w.heap.size + 1 by simp] at this
  exact this
 have hb : Hid (Below w.heap.size w ((w.alloc (.cells #[.int .i64 0, .string ⟨#[]⟩, .int .i64 0] 50)).alloc (.cells #[.int .i64 3, .string (r.extract 0 (r.size - 1)), .int .i64 0] 50))) := by show Below _ _ _; (repeat (first | with_reducible assumption | with_reducible exact Below.refl _ _ | (refine Below.setCell ?_ (by first | omega | (simp; done) | (simp; omega)) _) | (refine Below.drewN_ ?_ _) | (refine Below.drew ?_) | (refine Below.alloc ?_ (by first | omega | (simp; done) | (simp; omega)) _)))
 generalize ((w.alloc (.cells #[.int .i64 0, .string ⟨#[]⟩, .int .i64 0] 50)).alloc (.cells #[.int .i64 3, .string (r.extract 0 (r.size - 1)), .int .i64 0] 50)) = w1 at *
 obtain ⟨D, hD⟩ : ∃ D : ByteArray, D = r.extract 0 (r.size - 1) := ⟨_, rfl⟩
 have HDR : Hid (digitsOf r = D) := by show _ = _; rw [hD]; exact HDE.out
 rw [← hD] at kt
 have kt' : Blk w1 (w.heap.size + 1) 50 #[.int .i64 3, .string D, .int .i64 0] := kt.out
 have hds : D.size ≤ 4000 ∧ 1 ≤ D.size := by rw [← HDR.out]; omega
 have HAB : Hid (∀ W : World, Calls Tryz.prog 76 #[.string D, .string ⟨#[57, 50, 50, 51, 51, 55, 50, 48, 51, 54, 56, 53, 52, 55, 55, 53, 56, 48, 55]⟩] W fun e w' => e = .returned (.bool (aboveB D.data.toList (mostText true))) ∧ w' = W) := fun W => above_any D ⟨#[57, 50, 50, 51, 51, 55, 50, 48, 51, 54, 56, 53, 52, 55, 55, 53, 56, 48, 55]⟩ W
 clear hD HDE hd1 hd2 HD3
 have x0 := kt'.cell 0 (.int .i64 3) rfl
 have x1 := kt'.cell 1 (.string D) rfl
 have x2 := kt'.cell 2 (.int .i64 0) rfl
 have y0 := kz.out.cell 0 (.int .i64 0) rfl
 have y1 := kz.out.cell 1 (.string ⟨#[]⟩) rfl
 have y2 := kz.out.cell 2 (.int .i64 0) rfl
 have z0 := kz.out.free 0
 have z1 := kz.out.free 1
 have z2 := kz.out.free 2
 clear kt kt'
 obtain ⟨hds1, hds2⟩ := hds
 go_wp2_with fail
 go_loopw [6] (fun i wr => DgI D w1 i wr) (fun i _ => D.size - (intOf i).toNat)
 case atStart => exact ⟨0, rfl, Lib.hid ⟨Nat.zero_le _, fun j h => absurd h (Nat.not_lt_zero j)⟩, rfl⟩
 case round =>
  obtain ⟨k, rfl, HK1, rfl⟩ := hrel
  have hk := HK1.out.1
  by_cases hlt : k < D.size
  ·have g1 : (k : Int) < (D.size : Int) := by omega
   have g0 : (0 : Int) ≤ (k : Int) := by omega
   rcases hp : digitI (byteI D k) with _ | _
   ·have hp' : digitI ((D[k]'hlt).toNat : Int) = false := by rw [← byteI_at hlt]; exact hp
    have HN : Hid (numE r = 2) := numE_form (by
     rw [HDR.out]
     rcases ha : allDigits D with _ | _
     ·rfl
     ·have := allDigits_iff.1 ha k hlt
      rw [hp] at this
      cases this)
    clear hp
    go_wp2_with (go_at_call 38; refine (refDigit_any _ _).mono ?_; rintro e w' ⟨rfl, hw⟩; subst hw)
    exact bodyPost_ret (results_tok (by kernel_rfl) (lblk_set3 kz.out _ _ _) rfl rfl) rfl ⟨by rw [numC_bad HN.out (by decide), HN.out]; rfl, below_set3 hb.out (Nat.le_refl _) _ _ _⟩
   ·have hp' : digitI ((D[k]'hlt).toNat : Int) = true := by rw [← byteI_at hlt]; exact hp
    have HP := Lib.hid hp
    clear hp
    go_wp2_with (go_at_call 38; refine (refDigit_any _ _).mono ?_; rintro e w' ⟨rfl, hw⟩; subst hw)
    go_roundw
    case rel => exact ⟨k + 1, by go_num, Lib.hid ⟨hlt, fun j hj => by
     rcases Nat.lt_or_ge j k with h | h
     ·exact HK1.out.2 j h
     ·rw [show j = k by omega]; exact HP.out⟩, by first | trivial | rfl⟩
    case measure => simp [intOf]; omega
  ·have g1 : ¬ (k : Int) < (D.size : Int) := by omega
   have had : Hid (allDigits D = true) := allDigits_iff.2 fun j hj => HK1.out.2 j (by omega)
   by_cases hn : 1 < D.size ∧ byteI D 0 = 48
   ·have d1 : (1 : Int) < (D.size : Int) := by omega
    have d0 : 0 < D.size := hds2
    have d2 : (((D[0]'(hds2)).toNat : Int) == 48) = true := by rw [beq_iff_eq, ← byteI_at (by omega)]; exact hn.2
    have HN : Hid (numE r = 2) := numE_nought (by rw [HDR.out]; exact had.out) (by rw [HDR.out]; exact hn.1) (by rw [HDR.out]; exact hn.2)
    clear hn
    go_wp2_with fail
    exact bodyPost_ret (results_tok (by kernel_rfl) (lblk_set3 kz.out _ _ _) rfl rfl) rfl ⟨by rw [numC_bad HN.out (by decide), HN.out]; rfl, below_set3 hb.out (Nat.le_refl _) _ _ _⟩
   ·have hov : aboveB D.data.toList (mostText true) = decide (numMost true < decL D.data.toList) := above_most true D.data.toList had.out (head_48 (fun h e => hn ⟨h, e⟩))
    have HNN : Hid (¬(1 < (digitsOf r).size ∧ byteI (digitsOf r) 0 = 48)) := by show ¬ _; rw [HDR.out]; exact hn
    have HE : Hid ((decide (numMost true < decL D.data.toList) = true → numE r = 6) ∧ (decide (numMost true < decL D.data.toList) = false → numE r = 0)) := by
     constructor
     ·intro h
      exact numE_range (by rw [HDR.out]; exact had.out) HNN.out (by rw [HL.out, HDR.out]; simpa using h)
     ·intro h
      exact numE_ok (by rw [HDR.out]; exact had.out) HNN.out (by rw [HL.out, HDR.out]; simpa using h)
    rw [hov] at HAB
    have hN1 : (1 < D.size ∧ byteI D 0 ≠ 48) ∨ D.size ≤ 1 := by omega
    clear hov hn
    generalize decide (numMost true < decL D.data.toList) = ov at *
    rcases hN1 with ⟨d1', d2'⟩ | d1'
    ·have d1 : (1 : Int) < (D.size : Int) := by omega
     have d0 : 0 < D.size := hds2
     have d2 : (((D[0]'(hds2)).toNat : Int) == 48) = false := by rw [beq_eq_false_iff_ne, ← byteI_at (by omega)]; exact d2'
     clear d1' d2'
     rcases ov with _ | _
     ·have HN : Hid (numE r = 0) := HE.out.2 rfl
      clear HE
      go_wp2_with (go_at_call 76; refine (HAB.out _).mono ?_; rintro e w' ⟨rfl, hw⟩; subst hw)
      exact bodyPost_ret (results_tok (by kernel_rfl) (lblk_set3 kz.out _ _ _) rfl rfl) rfl ⟨by rw [numC_ok HN.out, HN.out, HK.out, HDR.out]; rfl, below_set3 hb.out (Nat.le_refl _) _ _ _⟩
     ·have HN : Hid (numE r = 6) := HE.out.1 rfl
      clear HE
      go_wp2_with (go_at_call 76; refine (HAB.out _).mono ?_; rintro e w' ⟨rfl, hw⟩; subst hw)
      exact bodyPost_ret (results_tok (by kernel_rfl) (lblk_set3 kz.out _ _ _) rfl rfl) rfl ⟨by rw [numC_bad HN.out (by decide), HN.out]; rfl, below_set3 hb.out (Nat.le_refl _) _ _ _⟩
    ·have d1 : ¬ (1 : Int) < (D.size : Int) := by omega
     clear d1'
     rcases ov with _ | _
     ·have HN : Hid (numE r = 0) := HE.out.2 rfl
      clear HE
      go_wp2_with (go_at_call 76; refine (HAB.out _).mono ?_; rintro e w' ⟨rfl, hw⟩; subst hw)
      exact bodyPost_ret (results_tok (by kernel_rfl) (lblk_set3 kz.out _ _ _) rfl rfl) rfl ⟨by rw [numC_ok HN.out, HN.out, HK.out, HDR.out]; rfl, below_set3 hb.out (Nat.le_refl _) _ _ _⟩
     ·have HN : Hid (numE r = 6) := HE.out.1 rfl
      clear HE
      go_wp2_with (go_at_call 76; refine (HAB.out _).mono ?_; rintro e w' ⟨rfl, hw⟩; subst hw)
      exact bodyPost_ret (results_tok (by kernel_rfl) (lblk_set3 kz.out _ _ _) rfl rfl) rfl ⟨by rw [numC_bad HN.out (by decide), HN.out]; rfl, below_set3 hb.out (Nat.le_refl _) _ _ _⟩
theorem row_any (r : ByteArray) (w : World) (h1 : 1 ≤ r.size) (h4 : r.size ≤ 4000) (hd : digitI (byteI r 0) = true) : Calls Tryz.prog 39 #[.string r] w (NumOut w r) := by
 rcases hl : isLong r with _ | _
 ·exact row_short r w h1 h4 hd hl
 ·exact row_long r w h1 h4 hd hl
end Go.Proofs.YtgegfbopogcjpaaGreatDoor
namespace Go.Proofs.YtgegfbopogcjpaaGreatDoor
open Go.RowKit Go.Shelf
set_option linter.unusedVariables false
set_option linter.unusedSimpArgs false
set_option maxRecDepth 100000
set_option maxHeartbeats 1000000
def signsL : List ByteArray := [⟨#[46, 46, 46]⟩, ⟨#[61, 61]⟩, ⟨#[123]⟩, ⟨#[125]⟩, ⟨#[40]⟩, ⟨#[41]⟩, ⟨#[59]⟩, ⟨#[44]⟩, ⟨#[46]⟩, ⟨#[61]⟩, ⟨#[60]⟩, ⟨#[43]⟩, ⟨#[45]⟩, ⟨#[42]⟩, ⟨#[47]⟩, ⟨#[37]⟩, ⟨#[38]⟩, ⟨#[124]⟩, ⟨#[94]⟩, ⟨#[33]⟩]
def begins (t p : ByteArray) : Bool := decide (p.size ≤ t.size) && ((t.extract 0 p.size).toList == p.toList)
def findSign : List ByteArray → ByteArray → ByteArray
 | [], _ => ⟨#[]⟩
 | p :: r, t => if begins t p = true then p else findSign r t
theorem begins_eq (t p : ByteArray) : begins t p = Lib.hasPrefix t.data.toList p.data.toList := Lib.hasPrefix_raw t p
theorem find_ones (bs : List UInt8) (t : ByteArray) (h : 0 < t.size) : findSign (bs.map fun b => (⟨#[b]⟩ : ByteArray)) t = if bs.contains (t[0]'h) = true then ⟨#[t[0]'h]⟩ else ⟨#[]⟩ := by
 induction bs with
 | nil => rfl
 | cons b bs ih =>
  rw [List.map_cons, findSign, ih, begins_eq]
  have ht : ∃ r, t.data.toList = t[0]'h :: r := by
   have hl : 0 < t.data.toList.length := by rw [Array.length_toList]; exact h
   obtain ⟨x, r, e⟩ := List.exists_cons_of_ne_nil (List.ne_nil_of_length_pos hl)
   refine ⟨r, ?_⟩
   have : t.data.toList[0]'hl = x := by simp [e]
   rw [e, ← this, Array.getElem_toList]
   rfl
  obtain ⟨r, ht⟩ := ht
  rw [ht]
  have hp : Lib.hasPrefix (t[0]'h :: r) (⟨#[b]⟩ : ByteArray).data.toList = (b == t[0]'h) := by
   simp [Lib.hasPrefix, List.isPrefixOf]
  rw [hp, List.contains_cons]
  by_cases hb : b = t[0]'h
  ·rw [hb]; simp
  ·have h1 : (b == t[0]'h) = false := by simpa using hb
   have h2 : (t[0]'h == b) = false := by simpa using fun e => hb e.symm
   rw [h1, h2]
   simp
theorem find_at (s : ByteArray) (j : Nat) (hj : j < s.size) : findSign signsL (s.extract j s.size) = s.extract j (j + signLen s j) := by
 have h0 : 0 < (s.extract j s.size).size := by rw [ByteArray.size_extract]; omega
 have hone := find_ones oneSigns (s.extract j s.size) h0
 have hb : (s.extract j s.size)[0]'h0 = s[j]'hj := by rw [ByteArray.getElem_extract]; rfl
 rw [hb] at hone
 have hL : signsL = ⟨#[46, 46, 46]⟩ :: ⟨#[61, 61]⟩ :: oneSigns.map fun b => (⟨#[b]⟩ : ByteArray) := rfl
 rw [hL, findSign, findSign, begins_eq, begins_eq, hone]
 rw [show Lib.hasPrefix (s.extract j s.size).data.toList (⟨#[46, 46, 46]⟩ : ByteArray).data.toList = dots s j from dots_prefix s j, show Lib.hasPrefix (s.extract j s.size).data.toList (⟨#[61, 61]⟩ : ByteArray).data.toList = eqs s j from eqs_prefix s j]
 have hc : oneSigns.contains (s[j]'hj) = signI (byteI s j) := by
  rw [byteI_at hj]
  unfold signI
  rw [Bool.eq_iff_iff, List.contains_iff_mem, List.any_eq_true]
  constructor
  ·intro h; exact ⟨_, h, by simp⟩
  ·rintro ⟨b, hb, e⟩
   rw [beq_iff_eq] at e
   have : s[j]'hj = b := UInt8.toNat_inj.1 (by omega)
   rw [this]; exact hb
 rw [hc, signLen_eq]
 rcases hd : dots s j with _ | _
 ·rcases he : eqs s j with _ | _
  ·rcases hs : signI (byteI s j) with _ | _
   ·simp only [Bool.false_eq_true, if_false, Nat.add_zero]
    refine (ByteArray.ext_getElem (by rw [ByteArray.size_extract]; show 0 = _; omega) fun i hi hi' => ?_)
    exact absurd hi (Nat.not_lt_zero i)
   ·simp only [Bool.false_eq_true, if_false, if_true]
    exact (extract_one hj).symm
  ·simp only [Bool.false_eq_true, if_false, if_true]
   exact (eqs_size he).2.symm
 ·simp only [if_true]
  exact (dots_size hd).2.symm
def SgOut (w : World) (e : Ending) (w' : World) : Prop := ∃ b, e = .returned (.slice (some ⟨b, 0, none⟩) 20 20) ∧ Row w' (some ⟨b, 0, none⟩) (signsL.map Value.string) ∧ Below w.heap.size w w'
theorem signs_any (w : World) : Calls Tryz.prog 75 #[] w (SgOut w) := by
 go_enter Tryz.func75, Tryz.ntmps75
 go_wp2_with fail
 go_ret
 refine ⟨w.heap.size, rfl, Row.of_blk (t := 9) (n := 20) (heap_new rfl) rfl, by (repeat (first | with_reducible assumption | with_reducible exact Below.refl _ _ | (refine Below.setCell ?_ (by first | omega | (simp; done) | (simp; omega)) _) | (refine Below.drewN_ ?_ _) | (refine Below.drew ?_) | (refine Below.alloc ?_ (by first | omega | (simp; done) | (simp; omega)) _)))⟩
def SnI (t : ByteArray) (w1 : World) (i : Value) (wr : World) : Prop := ∃ k : Nat, i = .int .i64 k ∧ Hid (k ≤ 20 ∧ findSign (signsL.drop k) t = findSign signsL t) ∧ Hid (Below w1.heap.size w1 wr)
theorem sign_any (t : ByteArray) (w : World) (ht : t.size ≤ 4000) : Calls Tryz.prog 36 #[.string t] w fun e w' => e = .returned (.string (findSign signsL t)) ∧ Below w.heap.size w w' := by
 go_enter Tryz.func36, Tryz.ntmps36
 go_wp2_with fail
 refine (signs_any _).mono ?_
 rintro e w1 ⟨b, rfl, hrow, hb⟩
 obtain ⟨b', o', hA, hlt, hc⟩ := hrow.at_ (by simp [signsL])
 obtain ⟨rfl, rfl⟩ : b = b' ∧ 0 = o' := by injection hA with hA; injection hA with h1 h2; exact ⟨h1, h2⟩
 have HB := Lib.hid hb
 have HC := Lib.hid hc
 clear hb hc hrow hA
 go_wp2_with fail
 go_loopw [4] (fun i wr => SnI t w1 i wr) (fun i _ => 20 - (intOf i).toNat)
 case atStart => exact ⟨0, rfl, Lib.hid ⟨Nat.zero_le _, rfl⟩, Lib.hid (Below.refl _ _)⟩
 case round =>
  obtain ⟨k, rfl, HK, HBR⟩ := hrel
  have hk0 : (0 : Int) ≤ (k : Int) := by omega
  have hk := HK.out.1
  by_cases hk20 : k < 20
  ·have g1 : (k : Int) < 20 := by omega
   have hlen : k < signsL.length := hk20
   have HD : Hid (findSign (signsL.drop k) t = if begins t (signsL[k]'hlen) = true then signsL[k]'hlen else findSign (signsL.drop (k + 1)) t) := by
    show _ = _
    rw [List.drop_eq_getElem_cons hlen, findSign]
   have hcell : wr.cell? ⟨b, k, none⟩ = some (.string (signsL[k]'hlen)) := by
    rw [keep_cell HBR.out hlt]
    have := HC.out k (.string (signsL[k]'hlen)) (by rw [List.getElem?_map, List.getElem?_eq_getElem hlen]; rfl)
    rwa [Nat.zero_add] at this
   have hpl : (signsL[k]'hlen).size ≤ 3 := by
    have : ∀ p ∈ signsL, p.size ≤ 3 := by decide
    exact this _ (List.getElem_mem hlen)
   generalize signsL[k]'hlen = p at *
   by_cases hsz : p.size ≤ t.size
   ·have d1 : decide ((p.size : Int) ≤ (t.size : Int)) = true := by rw [decide_eq_true_eq]; omega
    have d1n : decide (p.size ≤ t.size) = true := decide_eq_true hsz
    rcases hq : ((t.extract 0 p.size).toList == p.toList) with _ | _
    ·have HF : Hid (findSign (signsL.drop (k + 1)) t = findSign signsL t) := by
      show _ = _
      rw [← HK.out.2, HD.out]
      unfold begins
      rw [hq, d1n]
      rfl
     go_wp2_with fail
     go_quiet (fail)
     go_wp2_with fail
     refine ⟨⟨k + 1, by go_num, Lib.hid ⟨by omega, HF.out⟩, Lib.hid (Below.drewN_ HBR.out _)⟩, by simp [intOf]; omega⟩
    ·have HF : Hid (findSign signsL t = p) := by
      show _ = _
      rw [← HK.out.2, HD.out]
      unfold begins
      rw [hq, d1n]
      rfl
     have hcell' : (wr.drewN 0).cell? ⟨b, k, none⟩ = some (.string p) := hcell
     go_wp2_with fail
     go_quiet (fail)
     go_wp2_with fail
     go_ret
     exact ⟨by rw [HF.out]; rfl, Below.drewN_ (below_trans HB.out (Nat.le_refl _) HBR.out) _⟩
   ·have d1 : decide ((p.size : Int) ≤ (t.size : Int)) = false := by rw [decide_eq_false_iff_not]; omega
    have d1n : decide (p.size ≤ t.size) = false := decide_eq_false hsz
    have HF : Hid (findSign (signsL.drop (k + 1)) t = findSign signsL t) := by
     show _ = _
     rw [← HK.out.2, HD.out]
     unfold begins
     rw [d1n]
     rfl
    go_wp2_with fail
    go_quiet (fail)
    go_wp2_with fail
    refine ⟨⟨k + 1, by go_num, Lib.hid ⟨by omega, HF.out⟩, Lib.hid (Below.drewN_ HBR.out _)⟩, by simp [intOf]; omega⟩
  ·have g1 : ¬ (k : Int) < 20 := by omega
   have HF : Hid (findSign signsL t = ⟨#[]⟩) := by
    show _ = _
    rw [← HK.out.2, List.drop_eq_nil_of_le (by show 20 ≤ k; omega)]
    rfl
   go_wp2_with fail
   go_ret
   exact ⟨by rw [HF.out]; rfl, below_trans HB.out (Nat.le_refl _) HBR.out⟩
end Go.Proofs.YtgegfbopogcjpaaGreatDoor
