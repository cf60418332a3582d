/- Who gives registers and places: the walks of abi's giver: param; of the inner function of abi.Places. -/
import Derived.Test.YtkkjkbljgaipcaaAbiA
import Derived.Test.YtkkjkbljgaipcaaTypF
import Derived.Test.YtkkjkbljgaipcaaTypT
namespace Go.Proofs.Ytkkjkbljgaipcaa
open Go.RowKit
set_option linter.unusedVariables false
set_option linter.unusedSimpArgs false
set_option maxRecDepth 100000
set_option maxHeartbeats 2000000
theorem info_loc : (Try.prog.info? 52).map (fun i => (i.zero, i.size, i.bytes)) = some (some (.agg #[.bool false, .int .i64 0]), 2, 16) := by kernel_rfl
def lcs (l : List Pl) : List Value := l.flatMap Pl.cells
theorem lcs_snoc (l : List Pl) (x : Pl) : lcs (l ++ [x]) = lcs l ++ [.bool x.s, .int .i64 (x.n : Int)] := by simp [lcs, Pl.cells]
/-- a row at the head of a block of its things' own type -/
def TRow (w : World) (t : TypeId) (A : Option Addr) (xs : List Value) : Prop := xs = [] ∨ ∃ g cur, A = some ⟨g, 0, none⟩ ∧ Blk w g t cur ∧ cur.toList.take xs.length = xs
theorem TRow.row {w : World} {t : TypeId} {A : Option Addr} {xs : List Value} (h : TRow w t A xs) : Row w A xs := by
  rcases h with h | ⟨g, cur, rfl, hb, ht⟩
  · exact .inl h
  · exact Row.of_blk hb ht
theorem TRow.of_own {w : World} {B : Nat} {e : TypeId} {size n : Nat} {v : Value} {xs : List Value} (h : w.ownsRow B e size v n xs) : ∃ A c, v = .slice A n c ∧ TRow w e A xs := by
  have h1 := h.1
  rcases h.2 with ⟨rfl, rfl⟩ | ⟨g, cap, cur, rfl, _, hg, _, _, _, ht⟩
  · exact ⟨_, _, rfl, .inl (List.eq_nil_of_length_eq_zero (by simpa using h1))⟩
  · exact ⟨_, _, rfl, .inr ⟨g, cur, rfl, hg, by rw [h1]; exact ht⟩⟩
theorem own_grown {w w' : World} {base : Nat} {e : TypeId} {size n b : Nat} {v : Value} {xs : List Value} (h : w.ownsRow base e size v n xs) (hg : w.grownBy w' (some b)) (hne : some b ≠ v.ownBlock) : w'.ownsRow base e size v n xs :=
  h.kept (row := some b) hg (by
    cases hv : v.ownBlock
    · exact .inl rfl
    · exact .inr (fun e => hne (by rw [hv, e])))
theorem below_giv {B b : Nat} {w wr w' : World} (h : Below B w wr) (hB : B ≤ b) (hl : B ≤ w.heap.size) (hg : wr.grownBy w' (some b)) : Below B w w' :=
  h.grown hg (Nat.le_trans hl h.size) (fun k hk => by injection hk with hk; omega)
def Gv.nexts : Nat → Gv → List Pl × Gv
  | 0, g => ([], g)
  | n + 1, g => ((g.nexts n).1 ++ [(g.nexts n).2.loc], (g.nexts n).2.next)
theorem nexts_r (g : Gv) (h : g.r ≤ 4) : ∀ n, (g.nexts n).2.r ≤ 4 ∧ (g.nexts n).2.p ≤ g.p + n
  | 0 => ⟨h, Nat.le_refl _⟩
  | n + 1 => by
    have := nexts_r g h n
    simp only [Gv.nexts, Gv.next]
    split <;> simp <;> omega
theorem even_r (g : Gv) (h : g.r ≤ 4) : g.even.r ≤ 4 ∧ g.even.p ≤ g.p + 1 := by
  unfold Gv.even
  split
  · have : g.r = 0 ∨ g.r = 1 ∨ g.r = 2 ∨ g.r = 3 := by omega
    rcases this with h | h | h | h <;> simp [h]
  · simp; omega
theorem nexts_len (g : Gv) : ∀ n, (g.nexts n).1.length = n
  | 0 => rfl
  | n + 1 => by simp [Gv.nexts, nexts_len g n]
/-- what a parameter's words get -/
def Gv.par (g : Gv) (n : Nat) (ev lg : Bool) : List Pl × Bool × Gv :=
  if 4 < n then ([g.loc], true, g.next)
  else
    let g1 := if ev then g.even else g
    let g2 := if lg && decide (4 < g1.r + n) then Gv.even ⟨4, g1.p⟩ else g1
    ((g2.nexts n).1, false, (g2.nexts n).2)
theorem Blk.cells5 {w : World} {m : Nat} {t : TypeId} {a0 a1 a2 a3 a4 : Value} (h : Blk w m t #[a0, a1, a2, a3, a4]) :
    w.cell? ⟨m, 0, none⟩ = some a0 ∧ w.cell? ⟨m, 1, none⟩ = some a1 ∧ w.cell? ⟨m, 2, none⟩ = some a2 ∧ w.cell? ⟨m, 3, none⟩ = some a3 ∧ w.cell? ⟨m, 4, none⟩ = some a4 :=
  ⟨h.cell 0 _ rfl, h.cell 1 _ rfl, h.cell 2 _ rfl, h.cell 3 _ rfl, h.cell 4 _ rfl⟩
theorem field_loc (s : Bool) (n : Int) (w : World) : (Instr.field 52 (.agg #[.bool s, .int .i64 n]) 1).run Try.prog w = .ok (.int .i64 n) w := by kernel_rfl
theorem hidden_no (b : Nat) (w : World) : Calls Try.prog 48 #[.bool false, .pointer (some ⟨b, 0, none⟩)] w fun e w' => e = .returned (.int .i64 (-1)) ∧ w = w' := by
  go_enter Try.func48, Try.ntmps48
  go_wp2
  go_ret
  exact ⟨rfl, rfl⟩
theorem hidden_yes (b bg : Nat) (g : Gv) (w : World) (hb : w.cell? ⟨b, 0, none⟩ = some (.pointer (some ⟨bg, 0, none⟩))) (h : GvAt w bg g) : Calls Try.prog 48 #[.bool true, .pointer (some ⟨b, 0, none⟩)] w fun e w' => e = .returned (.int .i64 (g.loc.n : Int)) ∧ Blk w' bg 86 #[.int .i64 (g.next.r : Int), .int .i64 (g.next.p : Int)] ∧ w.grownBy w' (some bg) := by
  go_enter Try.func48, Try.ntmps48
  go_wp2_with fail
  refine (gnxt_any bg g _ h).mono ?_
  rintro e w1 ⟨rfl, h1, h2⟩
  have hf := field_loc
  go_wp2
  go_ret
  exact ⟨rfl, h1, h2⟩
def ParOut (l : List Pl) (cp : Bool) (g' : Gv) (b : Nat) (w : World) (e : Ending) (w' : World) : Prop :=
  ∃ A c, e = .returned (.tuple #[.slice A l.length c, .bool cp]) ∧ TRow w' 52 A (lcs l) ∧ Blk w' b 86 #[.int .i64 (g'.r : Int), .int .i64 (g'.p : Int)] ∧ w.grownBy w' (some b)
def GivRel (g : Gv) (n : Nat) (b : Nat) (w : World) (v i : Value) (wr : World) : Prop :=
  ∃ k : Nat, k ≤ n ∧ i = .int .i64 k ∧ wr.ownsRow w.heap.size 52 2 v k (lcs (g.nexts k).1) ∧ Blk wr b 86 #[.int .i64 ((g.nexts k).2.r : Int), .int .i64 ((g.nexts k).2.p : Int)] ∧ w.grownBy wr (some b)
theorem param_any (T : Ty) (cs : List Value) (w0 w : World) (b : Nat) (g : Gv) (hr : Rep w0 T cs) (hm : ML w0) (hB : Below w0.heap.size w0 w) (hmy : may T = true) (hb0 : w0.heap.size ≤ b) (h4 : g.r ≤ 4) (hp : g.p ≤ 900)
    (hg : Blk w b 86 #[.int .i64 (g.r : Int), .int .i64 (g.p : Int)]) :
    Calls Try.prog 51 #[.pointer (some ⟨b, 0, none⟩), .agg cs.toArray] w fun e w' =>
      ParOut (g.par (sizeT T).1 (sizeT T).2 (T.k == 2)).1 (g.par (sizeT T).1 (sizeT T).2 (T.k == 2)).2.1 (g.par (sizeT T).1 (sizeT T).2 (T.k == 2)).2.2 b w e w' := by
  obtain ⟨PP, hPP⟩ : ∃ PP, PP = g.par (sizeT T).1 (sizeT T).2 (T.k == 2) := ⟨_, rfl⟩
  rw [← hPP]
  have HPP := Lib.hid hPP
  clear hPP
  have hr0 := hr
  obtain ⟨An, cn, Ap, cp, rfl, hN, hP⟩ := hr.five
  have HWD : Hid (wordsT T = ((sizeT T).1 : Int)) := by show _ = _; simp [wordsT, hmy]
  have HEV : Hid (evenT T = (sizeT T).2) := by show _ = _; simp [evenT, hmy]
  have hbl := hg.lt
  have hsz := hB.size
  have k0 := (Blk.new_ w 25 #[.int .i64 T.k, .string T.nm, .slice An T.ns.length cn, .slice Ap T.ps.length cp, .bool T.many])
  have g0 := hg.alloc (.cells #[.int .i64 T.k, .string T.nm, .slice An T.ns.length cn, .slice Ap T.ps.length cp, .bool T.many] 25)
  have B0 := hB.alloc hsz (.cells #[.int .i64 T.k, .string T.nm, .slice An T.ns.length cn, .slice Ap T.ps.length cp, .bool T.many] 25)
  have X0 : w.grownBy (w.alloc (.cells #[.int .i64 T.k, .string T.nm, .slice An T.ns.length cn, .slice Ap T.ps.length cp, .bool T.many] 25)) (some b) := grow_alloc _ _ _
  go_enter Try.func51, Try.ntmps51
  go_wp2_with fail
  refine (words_any T _ _ (Rep.keep B0 _ _ hr0) (hm.keep B0)).mono ?_
  rintro e w1 ⟨rfl, hb⟩
  rw [HWD.out]
  have k1 := k0.below hb
  have g1 := g0.below hb
  have B1 := B0.trans (hb.mono B0.size)
  have X1 := grow_trans X0 (grow_below hb _)
  clear k0 g0 B0 X0 hb
  by_cases hn : 4 < (sizeT T).1
  · have hi : (4 : Int) < ((sizeT T).1 : Int) := by omega
    have hpar : Hid (PP = ([g.loc], true, g.next)) := by show _ = _; rw [HPP.out]; unfold Gv.par; rw [if_pos hn]
    clear hn
    go_wp2_with fail
    refine (gnxt_any b g _ ⟨g1, by omega, by omega⟩).mono ?_
    rintro e w2 ⟨rfl, g2, hgr⟩
    go_wp2
    go_ret2
    rw [hpar.out]
    refine ⟨some ⟨w2.heap.size, 0, none⟩, 1, rfl, ?_, g2.alloc _, grow_trans (grow_trans X1 hgr) (grow_alloc _ _ _)⟩
    exact .inr ⟨_, _, rfl, Blk.new_ _ _ _, by simp [lcs, Pl.cells]⟩
  · have hi : ¬ (4 : Int) < ((sizeT T).1 : Int) := by omega
    have qq := k1.cells5
    have hpar0 : PP = (((if (T.k == 2) && decide (4 < (if (sizeT T).2 then g.even else g).r + (sizeT T).1) then Gv.even ⟨4, (if (sizeT T).2 then g.even else g).p⟩ else (if (sizeT T).2 then g.even else g)).nexts (sizeT T).1).1, false, ((if (T.k == 2) && decide (4 < (if (sizeT T).2 then g.even else g).r + (sizeT T).1) then Gv.even ⟨4, (if (sizeT T).2 then g.even else g).p⟩ else (if (sizeT T).2 then g.even else g)).nexts (sizeT T).1).2) := by
      rw [HPP.out]; unfold Gv.par; rw [if_neg hn]
    have HP0 := Lib.hid hpar0
    obtain ⟨i0, hi0, hz0, hz1, hz2⟩ := info_parts info_loc
    have hn4 : (sizeT T).1 ≤ 4 := by omega
    have h2e : T.k = 2 → (sizeT T).2 = true ∧ (sizeT T).1 = 2 := fun h => by rw [sizeT_eq, if_pos h]; exact ⟨rfl, rfl⟩
    have H2E := Lib.hid h2e
    clear hn hpar0 h2e HWD
    generalize hnn : (sizeT T).1 = n at *
    have HR0 := Lib.hid hr0
    clear hr0
    go_wp2_with fail
    refine (even_any T _ _ (Rep.keep B1 _ _ HR0.out) (hm.keep B1)).mono ?_
    rintro e w2 ⟨rfl, hb⟩
    rw [HEV.out]
    have k2 := k1.below hb
    have g2 := g1.below hb
    have B2 := B1.trans (hb.mono B1.size)
    have X2 := grow_trans X1 (grow_below hb _)
    clear k1 g1 B1 X1 hb qq HEV
    have qq := k2.cells5
    generalize hev : (sizeT T).2 = ev at *
    clear hnn hev
    cases ev
    · have hk2 : (T.k == 2) = false := by
        rcases h : (T.k == 2) with _ | _
        · rfl
        · have := (H2E.out (by simpa using h)).1; cases this
      have hpar : Hid (PP = ((g.nexts n).1, false, (g.nexts n).2)) := by show _ = _; rw [HP0.out, hk2]; rfl
      have HG2 : Hid (g.r ≤ 4 ∧ g.p ≤ 902) := ⟨h4, by omega⟩
      have gX := g2
      have XX := X2
      clear g2 X2 HP0 H2E
      obtain ⟨G2, hG2⟩ : ∃ G2, G2 = g := ⟨_, rfl⟩
      rw [← hG2] at gX HG2 hpar
      clear hG2
      have hGr := HG2.out
      obtain ⟨hGr4, hGp⟩ := hGr
      go_wp2
      go_loopw [4, 38] (fun v i wr => GivRel G2 n b w v i wr) (fun _ i _ => n - (intOf i).toNat)
      case atStart => exact ⟨0, Nat.zero_le _, rfl, World.ownsRow_nil _ _ _ _, gX, XX⟩
      case round =>
        clear gX XX
        obtain ⟨k, hk, rfl, hown, gk, hb⟩ := hrel
        by_cases hlt : k < n
        · have hi1 : (k : Int) < (n : Int) := by omega
          have hk4 : (k : Int) < 4 := by omega
          have hnr := nexts_r G2 hGr4 k
          have HSN : Hid (lcs (G2.nexts (k + 1)).1 = lcs (G2.nexts k).1 ++ [.bool (G2.nexts k).2.loc.s, .int .i64 ((G2.nexts k).2.loc.n : Int)]) := by show _ = _; simp only [Gv.nexts]; rw [lcs_snoc]
          have HNX : Hid ((G2.nexts (k + 1)).2 = (G2.nexts k).2.next) := rfl
          have HLN := Lib.hid (nexts_len G2 k)
          generalize lcs (G2.nexts k).1 = xs at *
          generalize (G2.nexts k).2 = gg at *
          go_wp2_with fail
          refine (gnxt_any b gg _ ⟨gk, by omega, by omega⟩).mono ?_
          rintro e w5 ⟨rfl, g5, hgr⟩
          have b5 := grow_trans hb hgr
          have hsz5 : w.heap.size ≤ w5.heap.size := b5.size
          have hown5 := own_grown hown hgr (own_blk hown gk (by decide))
          generalize gg.loc = lo at *
          clear hown gk hb hgr
          go_wp2_with (at_builtin; refine wpList_append_own _ rfl _ _ 29 rfl w.heap.size 52 i0 (.agg #[.bool false, .int .i64 0]) 2 16 Try.underlying29 hi0 hz0 hz1 hz2 rfl (by decide) _ _ _ rfl (hown5.alloc _) ⟨w5.heap.size, 0, none⟩ 1 1 [.bool lo.s, .int .i64 (lo.n : Int)] rfl rfl ?c1a ?c2a ?c3a ?c4a ?c5a ?_)
          case c1a => exact World.news_of_block (cs := #[.bool lo.s, .int .i64 (lo.n : Int)]) (t := 52) (fr := (0, 0)) (heap_new rfl)
          case c2a => simp [Value.oneCell']
          case c3a => unfold maxLen; omega
          case c4a => omega
          case c5a => simp; omega
          intro v' w6 hown6 hgrow _
          have b6 : w.grownBy w6 (some b) := ⟨hgrow.os.trans b5.os, hgrow.tape.trans b5.tape, hgrow.output.trans b5.output, Nat.le_trans b5.size (Nat.le_trans (by simp) hgrow.size), fun i hi hne => (hgrow.block i (by have := b5.size; simp; omega) (fun e => by have := (hown5.lt i e.symm).1; omega)).trans ((Below.heap_alloc w5 _ i (Nat.lt_of_lt_of_le hi b5.size)).trans (b5.block i hi hne))⟩
          have g6 := (g5.alloc _).grown hgrow (own_blk hown5 g5 (by decide))
          rw [← HSN.out] at hown6
          rw [← HNX.out] at g6
          have HO := Lib.hid hown6
          clear hown6 hown5 hgrow g5 b5
          go_wp2
          go_roundw
          case rel => exact ⟨k + 1, by omega, by go_num, HO.out, g6, b6⟩
          case measure => (first | (simp [intOf]; done) | (simp [intOf]; omega))
        · have hi1 : ¬ (k : Int) < (n : Int) := by omega
          obtain rfl : k = n := by omega
          have hform := TRow.of_own hown
          clear hown
          obtain ⟨A, c, rfl, hrow⟩ := hform
          go_wp2
          go_ret2
          rw [hpar.out]
          exact ⟨A, c, by rw [nexts_len]; rfl, hrow, gk, hb⟩
    · go_wp2_with fail
      refine (gevn_any b g _ ⟨g2, by omega, by omega⟩).mono ?_
      rintro e w3 ⟨rfl, g3, hgr⟩
      have X3 := grow_trans X2 hgr
      have k3 := k2.grown hgr (by simp; omega)
      have he := even_r g h4
      clear g2 X2 k2 qq hgr
      have qq := k3.cells5
      have d0 := g3.cell 0 _ rfl
      have d1 := g3.cell 1 _ rfl
      have f0 := g3.free 0
      have f1 := g3.free 1
      rcases hk2 : (T.k == 2) with _ | _
      · have hpar : Hid (PP = ((g.even.nexts n).1, false, (g.even.nexts n).2)) := by show _ = _; rw [HP0.out, hk2]; rfl
        have HG2 : Hid (g.even.r ≤ 4 ∧ g.even.p ≤ 902) := ⟨he.1, by omega⟩
        have gX := g3
        have XX := X3
        clear g3 X3 HP0 H2E he d0 d1
        generalize g.even = G2 at *
        have hGr := HG2.out
        obtain ⟨hGr4, hGp⟩ := hGr
        go_wp2
        go_loopw [4, 38] (fun v i wr => GivRel G2 n b w v i wr) (fun _ i _ => n - (intOf i).toNat)
        case atStart => exact ⟨0, Nat.zero_le _, rfl, World.ownsRow_nil _ _ _ _, gX, XX⟩
        case round =>
          clear gX XX
          obtain ⟨k, hk, rfl, hown, gk, hb⟩ := hrel
          by_cases hlt : k < n
          · have hi1 : (k : Int) < (n : Int) := by omega
            have hk4 : (k : Int) < 4 := by omega
            have hnr := nexts_r G2 hGr4 k
            have HSN : Hid (lcs (G2.nexts (k + 1)).1 = lcs (G2.nexts k).1 ++ [.bool (G2.nexts k).2.loc.s, .int .i64 ((G2.nexts k).2.loc.n : Int)]) := by show _ = _; simp only [Gv.nexts]; rw [lcs_snoc]
            have HNX : Hid ((G2.nexts (k + 1)).2 = (G2.nexts k).2.next) := rfl
            have HLN := Lib.hid (nexts_len G2 k)
            generalize lcs (G2.nexts k).1 = xs at *
            generalize (G2.nexts k).2 = gg at *
            go_wp2_with fail
            refine (gnxt_any b gg _ ⟨gk, by omega, by omega⟩).mono ?_
            rintro e w5 ⟨rfl, g5, hgr⟩
            have b5 := grow_trans hb hgr
            have hsz5 : w.heap.size ≤ w5.heap.size := b5.size
            have hown5 := own_grown hown hgr (own_blk hown gk (by decide))
            generalize gg.loc = lo at *
            clear hown gk hb hgr
            go_wp2_with (at_builtin; refine wpList_append_own _ rfl _ _ 29 rfl w.heap.size 52 i0 (.agg #[.bool false, .int .i64 0]) 2 16 Try.underlying29 hi0 hz0 hz1 hz2 rfl (by decide) _ _ _ rfl (hown5.alloc _) ⟨w5.heap.size, 0, none⟩ 1 1 [.bool lo.s, .int .i64 (lo.n : Int)] rfl rfl ?c1b ?c2b ?c3b ?c4b ?c5b ?_)
            case c1b => exact World.news_of_block (cs := #[.bool lo.s, .int .i64 (lo.n : Int)]) (t := 52) (fr := (0, 0)) (heap_new rfl)
            case c2b => simp [Value.oneCell']
            case c3b => unfold maxLen; omega
            case c4b => omega
            case c5b => simp; omega
            intro v' w6 hown6 hgrow _
            have b6 : w.grownBy w6 (some b) := ⟨hgrow.os.trans b5.os, hgrow.tape.trans b5.tape, hgrow.output.trans b5.output, Nat.le_trans b5.size (Nat.le_trans (by simp) hgrow.size), fun i hi hne => (hgrow.block i (by have := b5.size; simp; omega) (fun e => by have := (hown5.lt i e.symm).1; omega)).trans ((Below.heap_alloc w5 _ i (Nat.lt_of_lt_of_le hi b5.size)).trans (b5.block i hi hne))⟩
            have g6 := (g5.alloc _).grown hgrow (own_blk hown5 g5 (by decide))
            rw [← HSN.out] at hown6
            rw [← HNX.out] at g6
            have HO := Lib.hid hown6
            clear hown6 hown5 hgrow g5 b5
            go_wp2
            go_roundw
            case rel => exact ⟨k + 1, by omega, by go_num, HO.out, g6, b6⟩
            case measure => (first | (simp [intOf]; done) | (simp [intOf]; omega))
          · have hi1 : ¬ (k : Int) < (n : Int) := by omega
            obtain rfl : k = n := by omega
            have hform := TRow.of_own hown
            clear hown
            obtain ⟨A, c, rfl, hrow⟩ := hform
            go_wp2
            go_ret2
            rw [hpar.out]
            exact ⟨A, c, by rw [nexts_len]; rfl, hrow, gk, hb⟩
      · by_cases ho : 4 < g.even.r + n
        · have hpar : Hid (PP = (((Gv.even ⟨4, g.even.p⟩).nexts n).1, false, ((Gv.even ⟨4, g.even.p⟩).nexts n).2)) := by show _ = _; rw [HP0.out, hk2]; simp [ho]
          have ho' : (4 : Int) < (g.even.r : Int) + (n : Int) := by omega
          have her : (g.even.r : Int) ≤ 4 := by omega
          clear HP0 H2E ho
          have he2 := even_r ⟨4, g.even.p⟩ (Nat.le_refl _)
          generalize g.even = G at *
          have g4 := g3.set_ 0 (.int .i64 4)
          go_wp2_with fail
          refine (gevn_any b ⟨4, G.p⟩ _ ⟨g4, by show 4 ≤ 100; omega, by show G.p ≤ 1000; omega⟩).mono ?_
          rintro e w4 ⟨rfl, g5, hgr⟩
          have X4 := grow_trans X3 (grow_trans (grow_set _ _ _ _) hgr)
          have HG2 : Hid ((Gv.even ⟨4, G.p⟩).r ≤ 4 ∧ (Gv.even ⟨4, G.p⟩).p ≤ 902) := ⟨he2.1, Nat.le_trans he2.2 (by show G.p + 1 ≤ 902; omega)⟩
          have gX := g5
          have XX := X4
          clear g3 g4 g5 X3 X4 k3 qq d0 d1 f0 f1 hgr he he2 ho' her
          generalize Gv.even ⟨4, G.p⟩ = G2 at *
          have hGr := HG2.out
          obtain ⟨hGr4, hGp⟩ := hGr
          go_wp2
          go_loopw [4, 38] (fun v i wr => GivRel G2 n b w v i wr) (fun _ i _ => n - (intOf i).toNat)
          case atStart => exact ⟨0, Nat.zero_le _, rfl, World.ownsRow_nil _ _ _ _, gX, XX⟩
          case round =>
            clear gX XX
            obtain ⟨k, hk, rfl, hown, gk, hb⟩ := hrel
            by_cases hlt : k < n
            · have hi1 : (k : Int) < (n : Int) := by omega
              have hk4 : (k : Int) < 4 := by omega
              have hnr := nexts_r G2 hGr4 k
              have HSN : Hid (lcs (G2.nexts (k + 1)).1 = lcs (G2.nexts k).1 ++ [.bool (G2.nexts k).2.loc.s, .int .i64 ((G2.nexts k).2.loc.n : Int)]) := by show _ = _; simp only [Gv.nexts]; rw [lcs_snoc]
              have HNX : Hid ((G2.nexts (k + 1)).2 = (G2.nexts k).2.next) := rfl
              have HLN := Lib.hid (nexts_len G2 k)
              generalize lcs (G2.nexts k).1 = xs at *
              generalize (G2.nexts k).2 = gg at *
              go_wp2_with fail
              refine (gnxt_any b gg _ ⟨gk, by omega, by omega⟩).mono ?_
              rintro e w5 ⟨rfl, g5, hgr⟩
              have b5 := grow_trans hb hgr
              have hsz5 : w.heap.size ≤ w5.heap.size := b5.size
              have hown5 := own_grown hown hgr (own_blk hown gk (by decide))
              generalize gg.loc = lo at *
              clear hown gk hb hgr
              go_wp2_with (at_builtin; refine wpList_append_own _ rfl _ _ 29 rfl w.heap.size 52 i0 (.agg #[.bool false, .int .i64 0]) 2 16 Try.underlying29 hi0 hz0 hz1 hz2 rfl (by decide) _ _ _ rfl (hown5.alloc _) ⟨w5.heap.size, 0, none⟩ 1 1 [.bool lo.s, .int .i64 (lo.n : Int)] rfl rfl ?c1d ?c2d ?c3d ?c4d ?c5d ?_)
              case c1d => exact World.news_of_block (cs := #[.bool lo.s, .int .i64 (lo.n : Int)]) (t := 52) (fr := (0, 0)) (heap_new rfl)
              case c2d => simp [Value.oneCell']
              case c3d => unfold maxLen; omega
              case c4d => omega
              case c5d => simp; omega
              intro v' w6 hown6 hgrow _
              have b6 : w.grownBy w6 (some b) := ⟨hgrow.os.trans b5.os, hgrow.tape.trans b5.tape, hgrow.output.trans b5.output, Nat.le_trans b5.size (Nat.le_trans (by simp) hgrow.size), fun i hi hne => (hgrow.block i (by have := b5.size; simp; omega) (fun e => by have := (hown5.lt i e.symm).1; omega)).trans ((Below.heap_alloc w5 _ i (Nat.lt_of_lt_of_le hi b5.size)).trans (b5.block i hi hne))⟩
              have g6 := (g5.alloc _).grown hgrow (own_blk hown5 g5 (by decide))
              rw [← HSN.out] at hown6
              rw [← HNX.out] at g6
              have HO := Lib.hid hown6
              clear hown6 hown5 hgrow g5 b5
              go_wp2
              go_roundw
              case rel => exact ⟨k + 1, by omega, by go_num, HO.out, g6, b6⟩
              case measure => (first | (simp [intOf]; done) | (simp [intOf]; omega))
            · have hi1 : ¬ (k : Int) < (n : Int) := by omega
              obtain rfl : k = n := by omega
              have hform := TRow.of_own hown
              clear hown
              obtain ⟨A, c, rfl, hrow⟩ := hform
              go_wp2
              go_ret2
              rw [hpar.out]
              exact ⟨A, c, by rw [nexts_len]; rfl, hrow, gk, hb⟩
        · have hpar : Hid (PP = ((g.even.nexts n).1, false, (g.even.nexts n).2)) := by show _ = _; rw [HP0.out, hk2]; simp [ho]
          have ho' : ¬ (4 : Int) < (g.even.r : Int) + (n : Int) := by omega
          have her : (g.even.r : Int) ≤ 4 := by omega
          have HG2 : Hid (g.even.r ≤ 4 ∧ g.even.p ≤ 902) := ⟨he.1, by omega⟩
          have gX := g3
          have XX := X3
          clear g3 X3 HP0 H2E he ho
          generalize g.even = G2 at *
          have hGr := HG2.out
          obtain ⟨hGr4, hGp⟩ := hGr
          go_wp2
          go_loopw [4, 38] (fun v i wr => GivRel G2 n b w v i wr) (fun _ i _ => n - (intOf i).toNat)
          case atStart => exact ⟨0, Nat.zero_le _, rfl, World.ownsRow_nil _ _ _ _, gX, XX⟩
          case round =>
            clear gX XX
            obtain ⟨k, hk, rfl, hown, gk, hb⟩ := hrel
            by_cases hlt : k < n
            · have hi1 : (k : Int) < (n : Int) := by omega
              have hk4 : (k : Int) < 4 := by omega
              have hnr := nexts_r G2 hGr4 k
              have HSN : Hid (lcs (G2.nexts (k + 1)).1 = lcs (G2.nexts k).1 ++ [.bool (G2.nexts k).2.loc.s, .int .i64 ((G2.nexts k).2.loc.n : Int)]) := by show _ = _; simp only [Gv.nexts]; rw [lcs_snoc]
              have HNX : Hid ((G2.nexts (k + 1)).2 = (G2.nexts k).2.next) := rfl
              have HLN := Lib.hid (nexts_len G2 k)
              generalize lcs (G2.nexts k).1 = xs at *
              generalize (G2.nexts k).2 = gg at *
              go_wp2_with fail
              refine (gnxt_any b gg _ ⟨gk, by omega, by omega⟩).mono ?_
              rintro e w5 ⟨rfl, g5, hgr⟩
              have b5 := grow_trans hb hgr
              have hsz5 : w.heap.size ≤ w5.heap.size := b5.size
              have hown5 := own_grown hown hgr (own_blk hown gk (by decide))
              generalize gg.loc = lo at *
              clear hown gk hb hgr
              go_wp2_with (at_builtin; refine wpList_append_own _ rfl _ _ 29 rfl w.heap.size 52 i0 (.agg #[.bool false, .int .i64 0]) 2 16 Try.underlying29 hi0 hz0 hz1 hz2 rfl (by decide) _ _ _ rfl (hown5.alloc _) ⟨w5.heap.size, 0, none⟩ 1 1 [.bool lo.s, .int .i64 (lo.n : Int)] rfl rfl ?c1f ?c2f ?c3f ?c4f ?c5f ?_)
              case c1f => exact World.news_of_block (cs := #[.bool lo.s, .int .i64 (lo.n : Int)]) (t := 52) (fr := (0, 0)) (heap_new rfl)
              case c2f => simp [Value.oneCell']
              case c3f => unfold maxLen; omega
              case c4f => omega
              case c5f => simp; omega
              intro v' w6 hown6 hgrow _
              have b6 : w.grownBy w6 (some b) := ⟨hgrow.os.trans b5.os, hgrow.tape.trans b5.tape, hgrow.output.trans b5.output, Nat.le_trans b5.size (Nat.le_trans (by simp) hgrow.size), fun i hi hne => (hgrow.block i (by have := b5.size; simp; omega) (fun e => by have := (hown5.lt i e.symm).1; omega)).trans ((Below.heap_alloc w5 _ i (Nat.lt_of_lt_of_le hi b5.size)).trans (b5.block i hi hne))⟩
              have g6 := (g5.alloc _).grown hgrow (own_blk hown5 g5 (by decide))
              rw [← HSN.out] at hown6
              rw [← HNX.out] at g6
              have HO := Lib.hid hown6
              clear hown6 hown5 hgrow g5 b5
              go_wp2
              go_roundw
              case rel => exact ⟨k + 1, by omega, by go_num, HO.out, g6, b6⟩
              case measure => (first | (simp [intOf]; done) | (simp [intOf]; omega))
            · have hi1 : ¬ (k : Int) < (n : Int) := by omega
              obtain rfl : k = n := by omega
              have hform := TRow.of_own hown
              clear hown
              obtain ⟨A, c, rfl, hrow⟩ := hform
              go_wp2
              go_ret2
              rw [hpar.out]
              exact ⟨A, c, by rw [nexts_len]; rfl, hrow, gk, hb⟩
end Go.Proofs.Ytkkjkbljgaipcaa
