/- All tokens of a text (lex.Scan). -/
import Derived.Test.YtdhphabncchncaaDoorLexE
import Derived.Deep.RegionHeld3
namespace Go.Proofs.YtdhphabncchncaaDoor
open Go.RowKit Go.Shelf
set_option linter.unusedVariables false
set_option linter.unusedSimpArgs false
set_option maxRecDepth 100000
set_option maxHeartbeats 2000000
def tkC (t : Tok) : List Value := [.int .i64 t.k, .string t.s, .int .i64 (t.p : Int)]
theorem ER.grown {w w' : World} {g : Nat} (h : ER w) (ho : w.grownBy w' (some g)) (hg : ∀ k, Tryd.prog.globalNamed "strconv.ErrRange" = some k → k ≠ g) : ER w' := by
  obtain ⟨tp, p, h⟩ := h
  refine ⟨tp, p, ?_⟩
  unfold World.var? at h ⊢
  cases hk : Tryd.prog.globalNamed "strconv.ErrRange" with
  | none => rw [hk] at h; cases h
  | some k =>
    rw [hk] at h
    simp only [Option.bind_some] at h ⊢
    have hlt : k < w.heap.size := by
      rcases Nat.lt_or_ge k w.heap.size with h' | h'
      · exact h'
      · rw [Array.getElem?_eq_none h'] at h; cases h
    rw [ho.block k hlt (fun e => hg k hk (by injection e))]
    exact h
theorem ER.lt {w : World} (h : ER w) (k : Nat) (hk : Tryd.prog.globalNamed "strconv.ErrRange" = some k) : k < w.heap.size := by
  obtain ⟨tp, p, h⟩ := h
  unfold World.var? at h
  rw [hk] at h
  simp only [Option.bind_some] at h
  rcases Nat.lt_or_ge k w.heap.size with h' | h'
  · exact h'
  · rw [Array.getElem?_eq_none h'] at h; cases h
/-- what Scan answers: the tokens in a row, the fault -/
def LexOut (s : ByteArray) (w : World) (e : Ending) (w' : World) : Prop :=
  ∃ (A : Option Addr) (c : Nat), e = .returned (.tuple #[.slice A (lexOf s).l.length c, .agg #[.int .i64 (lexOf s).e, .int .i64 ((lexOf s).p : Int)]]) ∧ Row w' A ((lexOf s).l.flatMap tkC) ∧ Below w.heap.size w w'
theorem skip_idem {s : ByteArray} {k : Nat} : skip s false (skip s false k) = skip s false k := by
  by_cases h : skip s false k < s.size
  · obtain ⟨h1, h2⟩ := skip_end h
    exact skip_here h h1 h2
  · exact skip_stop fun h' => absurd h' h
def LexI (w : World) (s : ByteArray) (g : Nat) (v : Value) (wr : World) : Prop := ∃ (j : Nat) (acc : List Tok),
  Hid (j ≤ s.size ∧ skip s false j = j ∧ lexA s false j acc = lexA s false 0 [] ∧ acc.length ≤ j ∧ Scn wr g s j 0 0 ∧ wr.ownsRow w.heap.size 29 3 v acc.length (acc.flatMap tkC) ∧ ER wr ∧ Blk wr w.heap.size 25 #[.int .i64 0, .int .i64 0] ∧ Below w.heap.size w wr)
theorem results_scan {fn : Func} (h : fn.results = #[.tmp 2, .cell 3 25]) {w : World} {b : Nat} {a0 a1 x : Value} {tmps : Array Value} (k : Blk w b 25 #[a0, a1]) (h2 : tmps.getD 2 undef = x) (h3 : tmps.getD 3 undef = .pointer (some ⟨b, 0, none⟩)) :
    (results fn tmps).run Tryd.prog w = .ok (.tuple #[x, .agg #[a0, a1]]) w := by
  have c0 := k.cell 0 _ rfl
  have c1 := k.cell 1 _ rfl
  simp at c0 c1
  simp only [Array.getD_eq_getD_getElem?] at h2 h3
  simp [results, h, go_sem, h2, h3, c0, c1]
theorem blk_set2 {w : World} {b : Nat} {t : TypeId} {a0 a1 : Value} (k : Blk w b t #[a0, a1]) (b0 b1 : Value) : Blk ((w.setCell ⟨b, 0, none⟩ b0).setCell ⟨b, 1, none⟩ b1) b t #[b0, b1] := (k.set_ 0 b0).set_ 1 b1
theorem info_token : (Tryd.prog.info? 29).map (fun i => (i.zero, i.size, i.bytes)) = some (some (.agg #[.int .i64 0, .string ⟨#[]⟩, .int .i64 0]), 3, 32) := by kernel_rfl
theorem scan_any (s : ByteArray) (w : World) (he : ER w) : Calls Tryd.prog 5 #[.string s] w (LexOut s w) := by
  by_cases h4 : 4000 < s.size
  · have hL : lexOf s = ⟨[], 1, 0⟩ := by unfold lexOf; rw [if_pos h4]
    have d1 : (4000 : Int) < (s.size : Int) := by omega
    have HL := Lib.hid hL
    have HK := Lib.hid (Blk.new_ w 25 #[.int .i64 0, .int .i64 0])
    clear hL
    go_enter Tryd.func5, Tryd.ntmps5
    go_wp2_with fail
    exact bodyPost_ret (results_scan (by kernel_rfl) (Blk.new_ w 25 #[.int .i64 1, .int .i64 0]) rfl rfl) rfl ⟨none, 0, by rw [HL.out]; rfl, by rw [HL.out]; exact .inl rfl, by (repeat (first | with_reducible assumption | with_reducible exact Below.refl _ _ | (refine Below.setCell ?_ (by first | omega | (simp; done) | (simp; omega)) _) | (refine Below.drewN_ ?_ _) | (refine Below.drew ?_) | (refine Below.alloc ?_ (by first | omega | (simp; done) | (simp; omega)) _)))⟩
  · have hL : lexOf s = lexA s false 0 [] := by unfold lexOf; rw [if_neg h4]
    have d1 : ¬ (4000 : Int) < (s.size : Int) := by omega
    have hs : s.size ≤ 4000 := by omega
    have HL := Lib.hid hL
    have B1 : Below w.heap.size w ((w.alloc (.cells #[.int .i64 0, .int .i64 0] 25)).alloc (.cells #[.string s, .int .i64 0, .int .i64 0, .int .i64 0] 33)) := by (repeat (first | with_reducible assumption | with_reducible exact Below.refl _ _ | (refine Below.setCell ?_ (by first | omega | (simp; done) | (simp; omega)) _) | (refine Below.drewN_ ?_ _) | (refine Below.drew ?_) | (refine Below.alloc ?_ (by first | omega | (simp; done) | (simp; omega)) _)))
    have hz1 : (w.alloc (.cells #[.int .i64 0, .int .i64 0] 25)).heap.size = w.heap.size + 1 := by simp
    have KS : Hid (Scn ((w.alloc (.cells #[.int .i64 0, .int .i64 0] 25)).alloc (.cells #[.string s, .int .i64 0, .int .i64 0, .int .i64 0] 33)) (w.heap.size + 1) s 0 0 0) := by
      have := Blk.new_ (w.alloc (.cells #[.int .i64 0, .int .i64 0] 25)) 33 #[.string s, .int .i64 0, .int .i64 0, .int .i64 0]
      rw [hz1] at this
      exact this
    have KF := Lib.hid ((Blk.new_ w 25 #[.int .i64 0, .int .i64 0]).alloc (.cells #[.string s, .int .i64 0, .int .i64 0, .int .i64 0] 33))
    have HGE : Hid (∀ k, Tryd.prog.globalNamed "strconv.ErrRange" = some k → k ≠ w.heap.size + 1) := fun k hk => by have := he.lt k hk; omega
    have HE0 : Hid (ER ((w.alloc (.cells #[.int .i64 0, .int .i64 0] 25)).alloc (.cells #[.string s, .int .i64 0, .int .i64 0, .int .i64 0] 33))) := ER.keep he B1
    obtain ⟨i0, hi0, hz0, hz1', hz2⟩ := info_parts info_token
    have HB1 := Lib.hid B1
    have HE := Lib.hid he
    clear hL h4 he B1
    go_enter Tryd.func5, Tryd.ntmps5
    go_wp2_with fail
    have HGN : Hid (w.heap.size + 1 ≠ w.heap.size) := fun e => by omega
    have HGL : Hid (w.heap.size ≤ w.heap.size + 1) := Nat.le_succ _
    clear hz1
    generalize w.heap.size + 1 = g at *
    refine (blanks_any g s 0 0 0 _ (Nat.zero_le _) hs KS.out).mono ?_
    rintro e w1 ⟨rfl, hs1, ho1⟩
    have HI : Hid (LexI w s g (.slice none 0 0) w1) := ⟨skip s false 0, [], skip_le (Nat.zero_le _), skip_idem, (lexA_skip []).symm, Nat.zero_le _, hs1, World.ownsRow_nil _ _ _ _, ER.grown HE0.out ho1.1 HGE.out, KF.out.grown ho1.1 (fun e => HGN.out (by injection e with e; exact e.symm)), HB1.out.grown ho1.1 HB1.out.size (fun k hk => by injection hk with hk; rw [← hk]; exact HGL.out)⟩
    clear hs1 ho1 KS KF HE0 HB1
    go_wp2_with fail
    go_loopw [5] (fun v wr => LexI w s g v wr) (fun _ wr => scanLeft s g wr)
    case atStart => exact HI.out
    case round =>
      clear HI w1
      obtain ⟨j, acc, HJ⟩ := hrel
      have c1 := HJ.out.2.2.2.2.1.cell 1 (.int .i64 j) rfl
      have hj := HJ.out.1
      have HM : Hid (scanLeft s g wr = s.size - j) := scanLeft_at c1
      by_cases hlt : j < s.size
      · have g1 : (j : Int) < (s.size : Int) := by omega
        go_wp2_with fail
        refine (next_any g s j 0 0 _ hlt hs HJ.out.2.2.2.2.1 HJ.out.2.2.2.2.2.2.1 HGE.out).mono ?_
        rintro e w2 ⟨rfl, ⟨z, hz, hs2, hz2⟩, hg2⟩
        have hown2 : w2.ownsRow w.heap.size 29 3 u5 acc.length (acc.flatMap tkC) := HJ.out.2.2.2.2.2.1.kept hg2 (.inr (fun e => own_blk HJ.out.2.2.2.2.2.1 HJ.out.2.2.2.2.1 (by decide) e.symm))
        have kf2 := HJ.out.2.2.2.2.2.2.2.1.grown hg2 (fun e => HGN.out (by injection e with e; exact e.symm))
        have he2 : ER w2 := ER.grown HJ.out.2.2.2.2.2.2.1 hg2 HGE.out
        have hb2 : Below w.heap.size w w2 := HJ.out.2.2.2.2.2.2.2.2.grown hg2 HJ.out.2.2.2.2.2.2.2.2.size (fun k hk => by injection hk with hk; rw [← hk]; exact HGL.out)
        have hsz2 : w.heap.size ≤ w2.heap.size := hb2.size
        by_cases h0 : (tokAt s j).e = 0
        · have hzz := hz2 h0
          have HN : Hid (lexA s false j acc = lexA s false z (acc ++ [⟨(tokAt s j).k, (tokAt s j).t, j⟩])) := by
            show _ = _
            have h1 : skip s false j < s.size := by rw [HJ.out.2.1]; exact hlt
            have := lexA_one (s := s) (note := false) (k := j) h1 (by rw [HJ.out.2.1]; exact h0) acc
            rw [HJ.out.2.1] at this
            rw [this, hzz]
          have hgt : j < z := by rw [hzz]; exact tokAt_gt hlt h0
          rw [if_pos h0, h0]
          unfold tokC
          generalize (tokAt s j).k = K at *
          generalize (tokAt s j).t = T at *
          have HS2 := Lib.hid hs2
          have HOW2 := Lib.hid hown2
          have KF2 := Lib.hid kf2
          have HE2 := Lib.hid he2
          have HB2 := Lib.hid hb2
          clear hzz hz2 h0 hs2 hown2 kf2 he2 hb2 hg2
          have hal : acc.length ≤ 4000 := by have := HJ.out.2.2.2.1; omega
          go_wp2_with (at_builtin; refine wpList_append_own _ rfl _ _ 22 rfl w.heap.size 29 i0 (.agg #[.int .i64 0, .string ⟨#[]⟩, .int .i64 0]) 3 32 Tryd.underlying22 hi0 hz0 hz1' hz2 rfl (by decide) _ _ _ rfl ((HOW2.out.alloc _).alloc _) ⟨w2.heap.size + 1, 0, none⟩ 1 1 [.int .i64 K, .string T, .int .i64 (j : Int)] rfl rfl ?c1 ?c2 ?c3 ?c4 ?c5 ?_)
          case c1 => exact World.news_of_block (cs := #[.int .i64 K, .string T, .int .i64 (j : Int)]) (t := 29) (fr := (0, 0)) (heap_new (by simp))
          case c2 => simp [Value.oneCell']
          case c3 => unfold maxLen; omega
          case c4 => omega
          case c5 => simp; omega
          intro v' w3 hown3 hgrow3 _
          have hs3 := ((Blk.alloc HS2.out (.cells #[.int .i64 K, .string T, .int .i64 (j : Int)] 29)).alloc (.cells #[.int .i64 K, .string T, .int .i64 (j : Int)] 29)).grown hgrow3 (own_blk HOW2.out HS2.out (by decide))
          have kf3 := ((KF2.out.alloc (.cells #[.int .i64 K, .string T, .int .i64 (j : Int)] 29)).alloc (.cells #[.int .i64 K, .string T, .int .i64 (j : Int)] 29)).grown hgrow3 (own_blk HOW2.out KF2.out (by decide))
          have hb3 : Below w.heap.size w w3 := ((HB2.out.alloc hsz2 (.cells #[.int .i64 K, .string T, .int .i64 (j : Int)] 29)).alloc (by simp; omega) (.cells #[.int .i64 K, .string T, .int .i64 (j : Int)] 29)).grown hgrow3 (by simp; omega) (own_ge HOW2.out)
          have hx : acc.flatMap tkC ++ [.int .i64 K, .string T, .int .i64 (j : Int)] = (acc ++ [(⟨K, T, j⟩ : Tok)]).flatMap tkC := by simp [tkC]
          have hy : acc.length + 1 = (acc ++ [(⟨K, T, j⟩ : Tok)]).length := by simp
          rw [hx, hy] at hown3
          have HAL : Hid ((acc ++ [(⟨K, T, j⟩ : Tok)]).length ≤ z) := by show _ ≤ _; rw [← hy]; have := HJ.out.2.2.2.1; omega
          have HLA : Hid (lexA s false z (acc ++ [⟨K, T, j⟩]) = lexA s false 0 []) := HN.out.symm.trans HJ.out.2.2.1
          have HS3 := Lib.hid hs3
          have KF3 := Lib.hid kf3
          have HB3 := Lib.hid hb3
          have HO3 := Lib.hid hown3
          clear hs3 kf3 hb3 hown3 hgrow3 HS2 KF2 HB2 HOW2 hx hy HN
          generalize acc ++ [(⟨K, T, j⟩ : Tok)] = acc' at *
          go_wp2_with fail
          refine (blanks_any g s z 0 0 _ hz hs HS3.out).mono ?_
          rintro e w4 ⟨rfl, hs4, ho4⟩
          have HI : Hid (LexI w s g v' w4) := by
            have hb4 : Below w.heap.size w w4 := HB3.out.grown ho4.1 HB3.out.size (fun k hk => by injection hk with hk; rw [← hk]; exact HGL.out)
            refine ⟨skip s false z, acc', skip_le hz, skip_idem, (lexA_skip acc').symm.trans HLA.out, Nat.le_trans HAL.out skip_ge, hs4, HO3.out.kept ho4.1 (.inr (fun e => own_blk HO3.out HS3.out (by decide) e.symm)), ER.keep HE.out hb4, KF3.out.grown ho4.1 (fun e => HGN.out (by injection e with e; exact e.symm)), hb4⟩
          have HM4 : Hid (scanLeft s g w4 = s.size - skip s false z) := scanLeft_at (hs4.cell 1 (.int .i64 (skip s false z : Nat)) rfl)
          have hsk : z ≤ skip s false z := skip_ge
          clear hs4 ho4 HS3 KF3 HB3 HO3 HLA HAL
          go_wp2_with fail
          go_roundw
          case rel => exact HI.out
          case measure =>
            have h1 := HM.out
            have h2 := HM4.out
            omega
        · have HR : Hid (lexOf s = ⟨[], (tokAt s j).e, j⟩) := by
            show _ = _
            rw [HL.out, ← HJ.out.2.2.1]
            have h1 : skip s false j < s.size := by rw [HJ.out.2.1]; exact hlt
            have := lexA_bad (s := s) (note := false) (k := j) h1 (by rw [HJ.out.2.1]; exact h0) acc
            rw [HJ.out.2.1] at this
            exact this
          have hbe : ((tokAt s j).e != 0) = true := by simpa using h0
          rw [if_neg h0]
          unfold zeroT
          generalize (tokAt s j).e = E at *
          have HS2 := Lib.hid hs2
          have HB2 := Lib.hid hb2
          have KF2 := Lib.hid kf2
          have x0 := hs2.cell 0 (.string s) rfl
          have x2 := hs2.cell 2 (.int .i64 0) rfl
          have x3 := hs2.cell 3 (.int .i64 0) rfl
          have y2 := hs2.free 2
          have y3 := hs2.free 3
          have u0 := kf2.cell 0 (.int .i64 0) rfl
          have u1 := kf2.cell 1 (.int .i64 0) rfl
          have t0 := kf2.free 0
          have t1 := kf2.free 1
          have hgl := hs2.lt
          have hgn := HGN.out
          clear hs2 hb2 kf2 he2 hown2 hg2 hz2 h0
          go_wp2_with fail
          obtain ⟨w5, hw5⟩ : ∃ W : World, W = ((w2.setCell ⟨g, 2, none⟩ (.int .i64 E)).setCell ⟨g, 3, none⟩ (.int .i64 (j : Int))).alloc (.cells #[.int .i64 0, .string ⟨#[]⟩, .int .i64 0] 29) := ⟨_, rfl⟩
          rw [← hw5]
          have HS5 : Hid (Scn w5 g s z E j) := by
            show Scn w5 g s z E j
            rw [hw5]
            exact Blk.alloc ((Blk.set_ HS2.out 2 (.int .i64 E)).set_ 3 (.int .i64 (j : Int))) _
          have KF5 : Hid (Blk w5 w.heap.size 25 #[.int .i64 0, .int .i64 0]) := by
            show Blk w5 _ _ _
            rw [hw5]
            exact Blk.alloc ((Blk.far KF2.out (p := ⟨g, 2, none⟩) (fun e => hgn e.symm) (.int .i64 E)).far (p := ⟨g, 3, none⟩) (fun e => hgn e.symm) (.int .i64 (j : Int))) _
          have HB5 : Hid (Below w.heap.size w w5) := by
            show Below _ _ w5
            rw [hw5]
            exact ((HB2.out.setCell (p := ⟨g, 2, none⟩) HGL.out _).setCell (p := ⟨g, 3, none⟩) HGL.out _).alloc (by simpa [World.setCell] using hsz2) _
          clear hw5 x0 x2 x3 y2 y3 u0 u1 t0 t1 HS2 KF2 HB2
          have x2 := HS5.out.cell 2 (.int .i64 E) rfl
          have x3 := HS5.out.cell 3 (.int .i64 (j : Int)) rfl
          have u0 := KF5.out.cell 0 (.int .i64 0) rfl
          have u1 := KF5.out.cell 1 (.int .i64 0) rfl
          have t0 := KF5.out.free 0
          have t1 := KF5.out.free 1
          go_region
          go_wp2_with fail
          exact bodyPost_ret (results_scan (by kernel_rfl) (Blk.drewN (blk_set2 KF5.out _ _) 1) rfl rfl) rfl ⟨none, 0, by rw [HR.out]; rfl, by rw [HR.out]; exact .inl rfl, ((HB5.out.setCell (p := ⟨w.heap.size, 0, none⟩) (Nat.le_refl _) _).setCell (p := ⟨w.heap.size, 1, none⟩) (Nat.le_refl _) _).drew⟩
      · have g1 : ¬ (j : Int) < (s.size : Int) := by omega
        have c2 := HJ.out.2.2.2.2.1.cell 2 (.int .i64 0) rfl
        have c3 := HJ.out.2.2.2.2.1.cell 3 (.int .i64 0) rfl
        have kf := HJ.out.2.2.2.2.2.2.2.1
        have y0 := kf.cell 0 (.int .i64 0) rfl
        have y1 := kf.cell 1 (.int .i64 0) rfl
        have z0 := kf.free 0
        have z1 := kf.free 1
        have KF := Lib.hid kf
        clear kf
        go_wp2_with fail
        go_region
        go_wp2_with fail
        have hR : lexOf s = ⟨acc, 0, 0⟩ := by rw [HL.out, ← HJ.out.2.2.1]; exact lexA_end (by rw [HJ.out.2.1]; exact hlt) _
        have hne := own_blk HJ.out.2.2.2.2.2.1 KF.out (by decide)
        have ho := (own_set (own_set HJ.out.2.2.2.2.2.1 (p := ⟨w.heap.size, 0, none⟩) hne (.int .i64 0)) (p := ⟨w.heap.size, 1, none⟩) hne (.int .i64 0)).drew
        obtain ⟨A, c, hv, hrow⟩ := Row.of_own ho
        exact bodyPost_ret (results_scan (by kernel_rfl) (Blk.drewN (blk_set2 KF.out _ _) 1) rfl rfl) rfl ⟨A, c, by rw [hR]; exact congrArg (fun z => Ending.returned (.tuple #[z, .agg #[.int .i64 0, .int .i64 0]])) hv, by rw [hR]; exact hrow, ((HJ.out.2.2.2.2.2.2.2.2.setCell (p := ⟨w.heap.size, 0, none⟩) (Nat.le_refl _) _).setCell (p := ⟨w.heap.size, 1, none⟩) (Nat.le_refl _) _).drew⟩
end Go.Proofs.YtdhphabncchncaaDoor
