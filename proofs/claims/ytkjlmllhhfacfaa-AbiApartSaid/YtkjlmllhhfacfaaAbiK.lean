/- The walk of the law AbiApart. -/
import Derived.Test.YtkjlmllhhfacfaaAbiL
import Derived.Test.YtkjlmllhhfacfaaAbiM
import Derived.Deep.QuietTactic
import Derived.BigQuiet
import Derived.Deep.CutRange
import Derived.IntWalk
namespace Go.Proofs.Ytkjlmllhhfacfaa
open Go.RowKit
set_option linter.unusedVariables false
set_option linter.unusedSimpArgs false
set_option maxRecDepth 100000
set_option maxHeartbeats 6000000
theorem apart_bad (T : Ty) (cs : List Value) (bs : List Ty) (Ab : Option Addr) (cb : Nat) (w : World) (hr : Rep w T cs) (hbs : RepL w bs Ab) (hm : ML w) (hE : abiE T bs ≠ 0) : Calls Try.prog 6 #[.agg cs.toArray, .slice Ab bs.length cb] w fun e w' => e = .returned (.bool true) ∧ Below w.heap.size w w' := by
  have hV := abiV_bad hE
  have hr0 := hr
  obtain ⟨An, cn, Ap, cp, rfl, hN, hP⟩ := hr.five
  have b0 : Below w.heap.size w (w.alloc (.cells #[.int .i64 T.k, .string T.nm, .slice An T.ns.length cn, .slice Ap T.ps.length cp, .bool T.many] 25)) := by (repeat (first | with_reducible assumption | with_reducible exact Below.refl _ _ | (refine Below.setCell ?_ (by first | omega | (simp; done) | (simp; omega)) _) | (refine Below.drewN_ ?_ _) | (refine Below.drew ?_) | (refine Below.alloc ?_ (by first | omega | (simp; done) | (simp; omega)) _)))
  have HC := Lib.hid (abiP_any T _ bs Ab cb _ (Rep.keep b0 _ _ hr0) (RepL.keep b0 _ _ hbs) (hm.keep b0))
  have b0H := Lib.hid b0
  obtain ⟨E, hE'⟩ : ∃ E, abiE T bs = E := ⟨_, rfl⟩
  rw [hE'] at hE
  have HE := Lib.hid hE'
  have HV := Lib.hid hV
  have e0 : (E != 0) = true := by simpa using hE
  clear b0 hE' hV hr hr0 hbs hm hN hP hE
  go_enter Try.func6, Try.ntmps6
  go_wp2_with fail
  ((with_reducible refine (HC.out).mono ?_); rintro e w1 ⟨cs1, rfl, hp1, hb1⟩)
  rw [HE.out]
  rw [HV.out] at hp1
  have b1 := b0H.out.trans (hb1.mono b0H.out.size)
  obtain ⟨A1, c1, A2, c2, A3, c3, vs, rfl, -, -, -, -⟩ := hp1
  simp only [Plc.zero, List.length_nil]
  have b2 : Below w.heap.size w (w1.alloc (.cells #[.int .i64 0, .int .i64 0, .slice A1 0 c1, .slice A2 0 c2, .slice A3 0 c3, .int .i64 ((0 : Nat) : Int), .int .i64 ((0 : Nat) : Int)] 37)) := b1.alloc b1.size _
  have kp := Blk.new_ w1 37 #[.int .i64 0, .int .i64 0, .slice A1 0 c1, .slice A2 0 c2, .slice A3 0 c3, .int .i64 ((0 : Nat) : Int), .int .i64 ((0 : Nat) : Int)]
  have x2 := kp.cell 2 (.slice A1 0 c1) rfl
  clear HC hb1 b1 kp
  go_wp2
  go_ret
  exact ⟨rfl, b2⟩
theorem abiP_nil (T : Ty) (cs : List Value) (w : World) (hr : Rep w T cs) (hm : ML w) : Calls Try.prog 20 #[.agg cs.toArray, .slice none 0 0] w (PlOut T [] w) := abiP_any T cs [] none 0 w hr (by unfold RepL; trivial) hm
theorem toNat_nn {x : Int} (h : 0 ≤ x) : Value.int .i64 x = .int .i64 ((x.toNat : Nat) : Int) := by rw [Int.toNat_of_nonneg h]
theorem flat_le (ls : List (List Pl)) (h : ∀ l ∈ ls, l.length ≤ 4) : ∀ k, ls.length ≤ k → ls.flatten.length ≤ 4 * k := by
  induction ls with
  | nil => intro k _; simp
  | cons l ls ih =>
    intro k hk
    simp only [List.length_cons] at hk
    obtain ⟨m, rfl⟩ : ∃ m, k = m + 1 := ⟨k - 1, by omega⟩
    have := ih (fun l hl => h l (List.mem_cons_of_mem _ hl)) m (by omega)
    have := h l (List.mem_cons_self ..)
    rw [List.flatten_cons, List.length_append]
    omega
/-- what has been collected: words l, in a row of one's own -/
def Col (wy : World) (l : List Pl) (v : Value) (wx : World) : Prop := wx.ownsRow wy.heap.size 45 2 v l.length (lcs l) ∧ Below wy.heap.size wy wx
theorem Col.below {wy wx wz : World} {l : List Pl} {v : Value} (h : Col wy l v wx) (hb : Below wx.heap.size wx wz) : Col wy l v wz := ⟨own_below h.1 hb, h.2.trans (hb.mono h.2.size)⟩
theorem Col.app {wy wx wz : World} {l : List Pl} {v v' : Value} {o : Obj} {x : Pl} (h : Col wy l v wx) (ho : wz.ownsRow wy.heap.size 45 2 v' (l.length + 1) (lcs l ++ Pl.cells x)) (hg : (wx.alloc o).grownBy wz v.ownBlock) : Col wy (l ++ [x]) v' wz :=
  ⟨by rw [List.length_append]; simpa [lcs] using ho, below_app h.2 (Nat.le_refl _) h.1 hg⟩
def ApO (V : Plc) (wy : World) (v i : Value) (wr : World) : Prop := ∃ k : Nat, k ≤ V.pars.length ∧ i = .int .i64 k ∧ Col wy (hidL V ++ (V.pars.take k).flatten) v wr
def ApI (L0 row : List Pl) (wy : World) (v i : Value) (wr : World) : Prop := ∃ m : Nat, m ≤ row.length ∧ i = .int .i64 m ∧ Col wy (L0 ++ row.take m) v wr
theorem eq_locs_no {x y : Pl} (h : y ≠ x) (w : World) : (binOp .eql 45 (.agg #[.bool y.s, .int .i64 (y.n : Int)]) (.agg #[.bool x.s, .int .i64 (x.n : Int)])).run Try.prog w = .ok (.bool false) w := by
  rw [run_eql_struct]
  by_cases h1 : y.s = x.s
  · have h2 : ¬ (y.n : Int) = (x.n : Int) := fun h2 => h (by obtain ⟨ys, yn⟩ := y; obtain ⟨xs, xn⟩ := x; simp only at h1 h2; subst h1; congr; omega)
    simp [go_sem, h1, h2, Try.underlying45, Op.eqFields, Program.fieldsOf]
  · simp [go_sem, h1, Try.underlying45, Op.eqFields, Program.fieldsOf]
theorem apart_ok (T : Ty) (cs : List Value) (bs : List Ty) (Ab : Option Addr) (cb : Nat) (w : World) (hr : Rep w T cs) (hbs : RepL w bs Ab) (hm : ML w) (hE : abiE T bs = 0) : Calls Try.prog 6 #[.agg cs.toArray, .slice Ab bs.length cb] w fun e w' => e = .returned (.bool true) ∧ Below w.heap.size w w' := by
  have hE2 := abiE_nil hE
  have hlen := abiV_len T bs
  obtain ⟨hND, hAll⟩ := apart_all hE
  have hEx := apart_extra hE
  have hLg := apart_long hE
  obtain ⟨aa, bb, hV, hV2, ha2⟩ := abiV_nil hE
  have hArea : (abiV T bs).area = aa := by rw [hV]
  have hRB : (abiG T).res = 0 ∨ (abiG T).res = -1 := by unfold abiG; simp only; split <;> simp
  have hCB : ((abiG T).cnt = 0 ∨ (abiG T).cnt = 1) ∨ (abiG T).cnt = -1 := by unfold abiG gvA; simp only; split <;> simp; split <;> simp
  have hpars : (abiV T bs).pars = (abiG T).pars := by rw [hV]
  have hextra : (abiV T bs).extra = (abiG T).extra := by rw [hV]
  have hallL : allL (abiV T bs) = hidL (abiG T) ++ (abiG T).pars.flatten := by rw [hV]; rfl
  rw [hallL, hArea] at hAll
  rw [hallL] at hND
  obtain ⟨l7, -, l2, l4⟩ := hlen
  rw [hpars] at l7 l4 hEx
  rw [hextra] at hEx
  have hress : (abiV T bs).ress = (abiG T).ress := by rw [hV]
  rw [hress] at l2
  have hLg' : ∀ i (hi : i < (abiG T).pars.length), i < T.ps.length - 1 ∧ ∀ (hp : i < T.ps.length), T.ps[i].k = 2 → ∃ n s, (abiG T).pars[i] = [⟨s, n⟩, ⟨s, n + 1⟩] ∧ n % 2 = 0 := by
    intro i hi
    have := hLg i (by rw [hpars]; exact hi)
    simpa only [hpars] using this
  have hT7 : T.ps.length ≤ 7 := by
    rcases hm' : may T with _ | _
    · unfold abiE at hE; rw [if_pos (.inr hm')] at hE; cases hE
    · exact may_len hm'
  have hid2 : (hidL (abiG T)).length ≤ 2 := by unfold hidL; split <;> split <;> simp
  have hHL : Hid (hidL (abiG T) = (if 0 ≤ (abiG T).res then [⟨false, (abiG T).res.toNat⟩] else []) ++ (if 0 ≤ (abiG T).cnt then [⟨false, (abiG T).cnt.toNat⟩] else [])) := rfl
  have HV := Lib.hid hV
  have HV2 := Lib.hid hV2
  have HE := Lib.hid hE
  have HE2 := Lib.hid hE2
  have HA2 := Lib.hid ha2
  have HND := Lib.hid hND
  have HALL := Lib.hid hAll
  have HEX := Lib.hid hEx
  have HLG := Lib.hid hLg'
  have HL4 := Lib.hid l4
  have HRB := Lib.hid hRB
  have HCB := Lib.hid hCB
  clear hV hV2 hE hE2 ha2 hND hAll hEx hLg hLg' hArea hpars hextra hress hallL l4 hRB hCB
  generalize abiG T = V at *
  have hr0 := hr
  obtain ⟨An, cn, Ap, cp, rfl, hN, hP⟩ := hr.five
  have HR := Lib.hid (fun (W : World) (h : Below w.heap.size w W) => Rep.keep h _ _ hr0)
  have HM := Lib.hid (fun (W : World) (h : Below w.heap.size w W) => hm.keep h)
  have HP := Lib.hid hP
  have b0 : Below w.heap.size w (w.alloc (.cells #[.int .i64 T.k, .string T.nm, .slice An T.ns.length cn, .slice Ap T.ps.length cp, .bool T.many] 25)) := by (repeat (first | with_reducible assumption | with_reducible exact Below.refl _ _ | (refine Below.setCell ?_ (by first | omega | (simp; done) | (simp; omega)) _) | (refine Below.drewN_ ?_ _) | (refine Below.drew ?_) | (refine Below.alloc ?_ (by first | omega | (simp; done) | (simp; omega)) _)))
  have kt := Blk.new_ w 25 #[.int .i64 T.k, .string T.nm, .slice An T.ns.length cn, .slice Ap T.ps.length cp, .bool T.many]
  have HC := Lib.hid (abiP_any T _ bs Ab cb _ (HR.out _ b0) (RepL.keep b0 _ _ hbs) (HM.out _ b0))
  have b0H := Lib.hid b0
  clear b0 hr hr0 hbs hm hN hP
  obtain ⟨mny, hmny⟩ : ∃ mny, T.many = mny := ⟨_, rfl⟩
  rw [hmny] at kt HC HEX b0H ⊢
  go_enter Try.func6, Try.ntmps6
  go_wp2_with fail
  ((with_reducible refine (HC.out).mono ?_); rintro e w1 ⟨cs1, rfl, hp1, hb1⟩)
  rw [HE.out]
  rw [HV.out] at hp1
  have b1 := b0H.out.trans (hb1.mono b0H.out.size)
  have kt1 := kt.below hb1
  obtain ⟨A1, c1, A2, c2, A3, c3, vs, rfl, r1, sl, -, -⟩ := hp1
  simp only at r1 sl
  have X2 : Below w1.heap.size w1 (w1.alloc (.cells #[.int .i64 V.res, .int .i64 V.cnt, .slice A1 V.pars.length c1, .slice A2 V.cops.length c2, .slice A3 V.ress.length c3, .int .i64 (aa : Int), .int .i64 (V.extra : Int)] 37)) := by (repeat (first | with_reducible assumption | with_reducible exact Below.refl _ _ | (refine Below.setCell ?_ (by first | omega | (simp; done) | (simp; omega)) _) | (refine Below.drewN_ ?_ _) | (refine Below.drew ?_) | (refine Below.alloc ?_ (by first | omega | (simp; done) | (simp; omega)) _)))
  replace r1 := r1.keep X2
  replace sl := sl.keep X2
  have kt2 := kt1.below X2
  have kp := Blk.new_ w1 37 #[.int .i64 V.res, .int .i64 V.cnt, .slice A1 V.pars.length c1, .slice A2 V.cops.length c2, .slice A3 V.ress.length c3, .int .i64 (aa : Int), .int .i64 (V.extra : Int)]
  have b2 := b1.trans (X2.mono b1.size)
  have hlt := kt1.lt
  have HC2 := Lib.hid (abiP_nil T _ _ (HR.out _ b2) (HM.out _ b2))
  rw [hmny] at HC2
  have HMN := Lib.hid hmny
  clear hmny
  have t0 := kt1.cell 0 (.int .i64 T.k) rfl
  have t1 := kt1.cell 1 (.string T.nm) rfl
  have t2 := kt1.cell 2 (.slice An T.ns.length cn) rfl
  have t3 := kt1.cell 3 (.slice Ap T.ps.length cp) rfl
  have t4 := kt1.cell 4 (.bool mny) rfl
  clear HC hb1 kt X2 kt1 b1
  go_wp2_with fail
  ((with_reducible refine (HC2.out).mono ?_); rintro e w3 ⟨cs3, rfl, hp3, hb3⟩)
  rw [HE2.out]
  rw [HV2.out] at hp3
  obtain ⟨B1, d1, B2, d2, B3, d3, us, rfl, s1, sl', -, -⟩ := hp3
  simp only at s1 sl'
  have X4 : Below w3.heap.size w3 (w3.alloc (.cells #[.int .i64 V.res, .int .i64 V.cnt, .slice B1 V.pars.length d1, .slice B2 V.cops.length d2, .slice B3 V.ress.length d3, .int .i64 (bb : Int), .int .i64 (V.extra : Int)] 37)) := by (repeat (first | with_reducible assumption | with_reducible exact Below.refl _ _ | (refine Below.setCell ?_ (by first | omega | (simp; done) | (simp; omega)) _) | (refine Below.drewN_ ?_ _) | (refine Below.drew ?_) | (refine Below.alloc ?_ (by first | omega | (simp; done) | (simp; omega)) _)))
  have Y := hb3.trans (X4.mono hb3.size)
  replace r1 := r1.keep Y
  replace sl := sl.keep Y
  replace s1 := s1.keep X4
  replace sl' := sl'.keep X4
  have kp3 := kp.below hb3
  have kp4 := kp.below Y
  have kt4 := kt2.below Y
  have kq := Blk.new_ w3 37 #[.int .i64 V.res, .int .i64 V.cnt, .slice B1 V.pars.length d1, .slice B2 V.cops.length d2, .slice B3 V.ress.length d3, .int .i64 (bb : Int), .int .i64 (V.extra : Int)]
  have b4 := b2.trans (Y.mono b2.size)
  have HP4 := Lib.hid (RepL.keep b4 _ _ HP.out)
  have hltp := kp3.lt
  have x0 := kp3.cell 0 (.int .i64 V.res) rfl
  have x1 := kp3.cell 1 (.int .i64 V.cnt) rfl
  have x2 := kp3.cell 2 (.slice A1 V.pars.length c1) rfl
  have x4 := kp3.cell 4 (.slice A3 V.ress.length c3) rfl
  have x5 := kp3.cell 5 (.int .i64 (aa : Int)) rfl
  have x6 := kp3.cell 6 (.int .i64 (V.extra : Int)) rfl
  have e1 : (V.res != V.res) = false := by simp
  have e2 : (V.cnt != V.cnt) = false := by simp
  have e4 : ((V.extra : Int) != (V.extra : Int)) = false := by simp
  have e5 : ((V.pars.length : Int) != (V.pars.length : Int)) = false := by simp
  have e7 : (V.pars.length != V.pars.length) = false := by simp
  have e6 : ((V.ress.length : Int) != (V.ress.length : Int)) = false := by simp
  have e8 : (V.ress.length != V.ress.length) = false := by simp
  have e9 : ((aa : Int) % 2 == 1) = false := by have := HA2.out; simp; omega
  have ha0 : (0 : Int) ≤ (aa : Int) := by omega
  clear t0 t1 t2 t3 t4 HC2 hb3 Y X4 kt2 b2 kp hlt
  go_upto_region 8 with (fail)
  generalize hW : w3.alloc (.cells #[.int .i64 V.res, .int .i64 V.cnt, .slice B1 V.pars.length d1, .slice B2 V.cops.length d2, .slice B3 V.ress.length d3, .int .i64 (bb : Int), .int .i64 (V.extra : Int)] 37) = wy at *
  clear hW
  obtain ⟨i0, hi0, hz0, hz1, hz2⟩ := info_parts info_loc
  replace x0 := kp4.cell 0 (.int .i64 V.res) rfl
  replace x1 := kp4.cell 1 (.int .i64 V.cnt) rfl
  have hpl := kp4.lt
  have hql := kq.lt
  have htl := kt4.lt
  clear x2 x4 x5 x6 e1 e2 e4 e5 e6 e7 e8 e9 ha0 kp3 hltp
  obtain ⟨b1, hb1⟩ : ∃ b1, decide ((0 : Int) ≤ V.res) = b1 := ⟨_, rfl⟩
  go_upto_if 81 with (fail)
  have HB1 := Lib.hid hb1
  clear hb1
  go_cut [9] from 82 to 87 (fun v wx => Col wy (if 0 ≤ V.res then [⟨false, V.res.toNat⟩] else []) v wx)
  case first =>
    cases b1
    · have h0 : Hid (¬ (0 : Int) ≤ V.res) := by have := HB1.out; show ¬ _; simpa using this
      go_wp2_with fail
      go_meet
      rw [if_neg (by have := h0.out; omega)]
      exact ⟨World.ownsRow_nil _ _ _ _, Below.refl _ _⟩
    · have h0 : Hid ((0 : Int) ≤ V.res) := by have := HB1.out; show _ ≤ _; simpa using this
      have HX := Lib.hid (toNat_nn h0.out)
      go_wp2_with (at_builtin; go_must ((refine wpList_append_lies _ rfl _ _ _ rfl wy.heap.size 45 i0 _ 2 16 Try.underlying42 hi0 hz0 hz1 hz2 rfl (by omega) _ 0 [] (by rfl) ((World.ownsRow_nil _ _ _ _).alloc _) ⟨wy.heap.size, 0, none⟩ 1 1 [.bool false, .int .i64 V.res] (by rfl) (by rfl) (World.news_of_block (cs := #[.bool false, .int .i64 V.res]) (t := 45) (fr := (0, 0)) (heap_new (by simp))) (by simp [Value.oneCell']) (by omega) (by unfold maxLen; omega) (by omega) (by simp) (wy.heap.size + 1) (by simp) ?_; intro gg cap w5 hown1 hgrow hat hlt1)))
      go_meet
      rw [if_pos (by have := h0.out; omega)]
      exact Col.app (l := []) (x := ⟨false, V.res.toNat⟩) ⟨World.ownsRow_nil _ _ _ _, Below.refl _ _⟩ (by rw [HX.out] at hown1; exact hown1) hgrow
  case rest =>
    obtain ⟨b2, hb2⟩ : ∃ b2, decide ((0 : Int) ≤ V.cnt) = b2 := ⟨_, rfl⟩
    obtain ⟨w6, rfl⟩ : ∃ w6 : World, w6 = wc := ⟨_, rfl⟩
    obtain ⟨v6, rfl⟩ : ∃ v6 : Value, v6 = u9 := ⟨_, rfl⟩
    have hcol := hcut
    clear hcut
    have x1' : w6.cell? ⟨w1.heap.size, 1, none⟩ = some (.int .i64 V.cnt) := (hcol.2.cell (p := ⟨w1.heap.size, 1, none⟩) hpl).trans x1
    clear x0 x1
    have hl1 : (if 0 ≤ V.res then [(⟨false, V.res.toNat⟩ : Pl)] else []).length ≤ 1 := by split <;> simp
    generalize (if 0 ≤ V.res then [(⟨false, V.res.toNat⟩ : Pl)] else []) = L1 at *
    go_upto_if 90 with (fail)
    have HB2 := Lib.hid hb2
    clear hb2
    go_cut [9] from 91 to 96 (fun v wx => Col wy (hidL V) v wx)
    case first =>
      have hsz := hcol.2.size
      cases b2
      · have h0 : Hid (¬ (0 : Int) ≤ V.cnt) := by have := HB2.out; show ¬ _; simpa using this
        have hL : Hid (hidL V = L1) := by show _ = _; rw [hHL.out, if_neg (by have := h0.out; omega)]; simp
        clear h0
        go_wp2_with fail
        go_meet
        rw [hL.out]
        exact hcol
      · have h0 : Hid ((0 : Int) ≤ V.cnt) := by have := HB2.out; show _ ≤ _; simpa using this
        have HX := Lib.hid (toNat_nn h0.out)
        have hL : Hid (hidL V = L1 ++ [⟨false, V.cnt.toNat⟩]) := by show _ = _; rw [hHL.out, if_pos (by have := h0.out; omega)]
        have ho := hcol.1
        clear h0
        go_wp2_with (at_builtin; go_must ((refine wpList_append_lies _ rfl _ _ _ rfl wy.heap.size 45 i0 _ 2 16 Try.underlying42 hi0 hz0 hz1 hz2 rfl (by omega) _ L1.length (lcs L1) (by rfl) (ho.alloc _) ⟨w6.heap.size, 0, none⟩ 1 1 [.bool false, .int .i64 V.cnt] (by rfl) (by rfl) (World.news_of_block (cs := #[.bool false, .int .i64 V.cnt]) (t := 45) (fr := (0, 0)) (heap_new (by simp))) (by simp [Value.oneCell']) (by omega) (by unfold maxLen; omega) (by omega) (by simp; omega) (w6.heap.size + 1) (by simp) ?_; intro gg cap w5 hown1 hgrow hat hlt1)))
        go_meet
        rw [hL.out]
        exact Col.app (x := ⟨false, V.cnt.toNat⟩) hcol (by rw [HX.out] at hown1; exact hown1) hgrow
    case rest =>
      have hcol2 := hcut
      clear hcut hcol hl1 x1' hHL
      go_wp2
      go_loopw [9, 10] (fun v i wr => ApO V wy v i wr) (fun _ i _ => V.pars.length - (intOf i).toNat)
      case atStart => exact ⟨0, Nat.zero_le _, rfl, by simpa using hcol2⟩
      case round =>
        clear hcol2
        obtain ⟨k, hk, rfl, hcol⟩ := hrel
        have hb := hcol.2
        have x2 := (kp4.below hb).cell 2 (.slice A1 V.pars.length c1) rfl
        have y2 := (kq.below hb).cell 2 (.slice B1 V.pars.length d1) rfl
        by_cases hlt : k < V.pars.length
        · have hi : (k : Int) < (V.pars.length : Int) := by omega
          have hik0 : (0 : Int) ≤ (k : Int) := by omega
          have hk7 : (k : Int) < 7 := by omega
          obtain ⟨hkp, hlong⟩ := HLG.out k hlt
          have t3 := (kt4.below hb).cell 3 (.slice Ap T.ps.length cp) rfl
          obtain ⟨P1, q1, hv1, rl⟩ := sl.at_ k hlt
          obtain ⟨P2, q2, hv2, rl'⟩ := sl'.at_ k hlt
          obtain ⟨ba, oa, rfl, hba, ca0⟩ := row_at r1 hv1
          obtain ⟨bb', ob, rfl, hbb, cb0⟩ := row_at s1 hv2
          have ca := (hb.cell (p := ⟨ba, oa + k, none⟩) hba).trans ca0
          have cb1 := (hb.cell (p := ⟨bb', ob + k, none⟩) hbb).trans cb0
          obtain ⟨bt, ot, ct, rfl, hbt, ctc, htc⟩ := RepL.at_ T.ps _ HP4.out k (by omega)
          have ck0 := ctc 0 (.int .i64 (T.ps[k]'(by omega)).k) (by obtain ⟨_, _, _, _, rfl, _, _⟩ := htc.five; rfl)
          clear ctc htc
          have hl4 := HL4.out _ (List.getElem_mem hlt)
          have HEX2 : Hid (mny = true → ∀ x ∈ V.pars[k], x.s = true → x.n < V.extra) := fun h x hx hs => HEX.out h _ (List.getElem_mem hlt) x hx hs
          have HT : Hid (hidL V ++ (V.pars.take (k + 1)).flatten = (hidL V ++ (V.pars.take k).flatten) ++ V.pars[k]) := by
            show _ = _
            rw [List.take_succ_eq_append_getElem hlt, List.flatten_append]
            simp
          have HLN : Hid ((hidL V ++ (V.pars.take k).flatten).length ≤ 30) := by
            show _ ≤ _
            rw [List.length_append]
            have : ((V.pars.take k).flatten).length ≤ 4 * k := flat_le _ (fun l hl => HL4.out l (List.mem_of_mem_take hl)) k (by rw [List.length_take]; omega)
            omega
          have hkT : k < T.ps.length := by omega
          have HLO := Lib.hid (hlong hkT)
          generalize V.pars[k] = pl at *
          generalize hidL V ++ (V.pars.take k).flatten = L0 at *
          have e1 : (pl.length != pl.length) = false := by simp
          have e2 : ((pl.length : Int) != (pl.length : Int)) = false := by simp
          have e3 : IntKind.i64.wrap ((T.ps.length : Int) - 1) = (T.ps.length : Int) - 1 := IntWalk.i64_in _ (by omega)
          have e4 : decide ((T.ps.length : Int) - 1 ≤ (k : Int)) = false := by simp; omega
          clear hv1 hv2 hlong
          go_wp2_with fail
          go_quiet (fail)
          go_wp2_with fail
          have hcol3 := hcol.below (Below.drewN_ (Below.refl _ _) nq)
          obtain ⟨wo, rfl⟩ : ∃ wo : World, wo = wr := ⟨_, rfl⟩
          go_loopw [9, 11] (fun v i wr => ApI L0 pl wy v i wr) (fun _ i _ => pl.length - (intOf i).toNat)
          case atStart => exact ⟨0, Nat.zero_le _, rfl, by simpa using hcol3⟩
          case round =>
            clear hcol3 hcol x2 y2 t3 ca cb1 hb
            obtain ⟨m, hm, rfl, hcol⟩ := hrel
            have hb := hcol.2
            have x2 := (kp4.below hb).cell 2 (.slice (some ⟨ba, oa, none⟩) V.pars.length c1) rfl
            have ca := (hb.cell (p := ⟨ba, oa + k, none⟩) hba).trans ca0
            by_cases hlm : m < pl.length
            · have hj : (m : Int) < (pl.length : Int) := by omega
              have hj0 : (0 : Int) ≤ (m : Int) := by omega
              have hj4 : (m : Int) < 4 := by omega
              obtain ⟨bp, op, rfl, hbp, p0, p1⟩ := lcs_at rl hlm
              obtain ⟨bq, oq, rfl, hbq, z0, z1⟩ := lcs_at rl' hlm
              obtain ⟨bp', op', hpe, -, p00, -⟩ := lcs_at rl (show 0 < pl.length by omega)
              injection hpe with hpe
              injection hpe with he1 he2
              subst he1 he2
              have HF : Hid (∀ W, Below wy.heap.size wy W → W.cell? ⟨bp, op + m * 2, none⟩ = some (.bool pl[m].s) ∧ W.cell? ⟨bp, op + m * 2 + 1, none⟩ = some (.int .i64 (pl[m].n : Int)) ∧
                  W.cell? ⟨bq, oq + m * 2, none⟩ = some (.bool pl[m].s) ∧ W.cell? ⟨bq, oq + m * 2 + 1, none⟩ = some (.int .i64 (pl[m].n : Int)) ∧ W.cell? ⟨bp, op, none⟩ = some (.bool pl[0].s) ∧
                  W.cell? ⟨w1.heap.size, 2, none⟩ = some (.slice (some ⟨ba, oa, none⟩) V.pars.length c1) ∧ W.cell? ⟨w1.heap.size, 6, none⟩ = some (.int .i64 (V.extra : Int)) ∧
                  W.cell? ⟨w3.heap.size, 2, none⟩ = some (.slice (some ⟨bb', ob, none⟩) V.pars.length d1) ∧ W.cell? ⟨w.heap.size, 3, none⟩ = some (.slice (some ⟨bt, ot, none⟩) T.ps.length cp) ∧
                  W.cell? ⟨w.heap.size, 4, none⟩ = some (.bool mny) ∧ W.cell? ⟨ba, oa + k, none⟩ = some (.slice (some ⟨bp, op, none⟩) pl.length q1) ∧ W.cell? ⟨bb', ob + k, none⟩ = some (.slice (some ⟨bq, oq, none⟩) pl.length q2) ∧
                  W.cell? ⟨bt, ot + k * 5, none⟩ = some (.int .i64 T.ps[k].k)) := by
                intro W h
                refine ⟨(h.cell hbp).trans p0, (h.cell hbp).trans p1, (h.cell hbq).trans z0, (h.cell hbq).trans z1, ?_, (kp4.below h).cell 2 _ rfl, (kp4.below h).cell 6 _ rfl, (kq.below h).cell 2 _ rfl, (kt4.below h).cell 3 _ rfl, (kt4.below h).cell 4 _ rfl, (h.cell hba).trans ca0, (h.cell hbb).trans cb0, ?_⟩
                · have := (h.cell (p := ⟨bp, op + 0 * 2, none⟩) hbp).trans p00
                  simpa using this
                · have := (h.cell (p := ⟨bt, ot + k * 5 + 0, none⟩) hbt).trans ck0
                  simpa using this
              clear p0 p1 z0 z1 p00
              have HXT : Hid (L0 ++ pl.take (m + 1) = (L0 ++ pl.take m) ++ [pl[m]]) := by show _ = _; rw [List.take_succ_eq_append_getElem hlm, List.append_assoc]
              have HXE : Hid (mny = true → pl[m].s = true → pl[m].n < V.extra) := fun h => HEX2.out h _ (List.getElem_mem hlm)
              have HXL : Hid (T.ps[k].k = 2 → pl[m].n % 2 = m ∧ pl[0].s = pl[m].s) := fun h => by
                obtain ⟨n, s, e, he⟩ := HLO.out h
                have hm2 : m < 2 := by rw [e] at hlm; simpa using hlm
                have : m = 0 ∨ m = 1 := by omega
                rcases this with rfl | rfl
                · simp [e, he]
                · simp [e]; omega
              have HLL : Hid ((L0 ++ pl.take m).length ≤ 40) := by show _ ≤ _; have := HLN.out; rw [List.length_append, List.length_take]; omega
              generalize pl[m] = x at *
              generalize pl[0] = y at *
              generalize L0 ++ pl.take m = L at *
              generalize T.ps[k].k = kk at *
              have t := ne_locs x.s x.n
              have hx0 : (0 : Int) ≤ (x.n : Int) := by omega
              have hsz := hcol.2.size
              obtain ⟨xs, xn⟩ := x
              simp only at t hx0 HXE HXL HXT HF
              obtain ⟨p0, p1, -⟩ := HF.out _ hb
              have hb7 : Below wr.heap.size wr (wr.alloc (.cells #[.bool xs, .int .i64 (xn : Int)] 45)) := by (repeat (first | with_reducible assumption | with_reducible exact Below.refl _ _ | (refine Below.setCell ?_ (by first | omega | (simp; done) | (simp; omega)) _) | (refine Below.drewN_ ?_ _) | (refine Below.drew ?_) | (refine Below.alloc ?_ (by first | omega | (simp; done) | (simp; omega)) _)))
              have hcol7 := hcol.below hb7
              have kx := Blk.new_ wr 45 #[.bool xs, .int .i64 (xn : Int)]
              go_wp2_with fail
              generalize hw7 : wr.alloc (.cells #[.bool xs, .int .i64 (xn : Int)] 45) = w7 at *
              have k0 := kx.cell 0 _ rfl
              have k1 := kx.cell 1 _ rfl
              have hx7 := kx.lt
              clear p0 p1 x2 ca hw7 hb7 kx
              obtain ⟨p0, p1, z0, z1, p00, x2, x6, y2, t3, t4, ca, cb1, ck⟩ := HF.out _ hcol7.2
              have hLL := HLL.out
              by_cases hk2 : kk = 2
              · obtain ⟨f1, f2⟩ := HXL.out hk2
                subst hk2
                have g1 : ((xn : Int) % 2 != (m : Int)) = false := by simp; omega
                have g2 : (xs != xs) = false := by simp
                have g3 : ((2 : Int) == 2) = true := rfl
                rw [f2] at p00
                clear f1 f2 HXL
                go_quiet (fail)
                have ho7 := own_below hcol7.1 (Below.drewN_ (Below.refl _ _) nq)
                cases mny
                · go_wp2_with (at_builtin; go_must ((refine wpList_append_lies _ rfl _ _ _ rfl wy.heap.size 45 i0 _ 2 16 Try.underlying42 hi0 hz0 hz1 hz2 rfl (by omega) _ L.length (lcs L) (by rfl) (ho7.alloc _) ⟨w7.heap.size, 0, none⟩ 1 1 [.bool xs, .int .i64 (xn : Int)] (by rfl) (by rfl) (World.news_of_block (cs := #[.bool xs, .int .i64 (xn : Int)]) (t := 45) (fr := (0, 0)) (heap_new (by simp))) (by simp [Value.oneCell']) (by omega) (by unfold maxLen; omega) (by omega) (by simp; omega) (w7.heap.size + 1) (by simp) ?_; intro gg cap w8 hown1 hgrow hat hlt1)))
                  have hc8 : Col wy (L0 ++ pl.take (m + 1)) (.slice (some ⟨gg, 0, none⟩) (L.length + 1) cap) w8 := by
                    rw [HXT.out]
                    exact Col.app (x := ⟨xs, xn⟩) (hcol7.below (Below.drewN_ (Below.refl _ _) nq)) hown1 hgrow
                  clear hown1 hgrow
                  go_wp2
                  go_roundw
                  case rel => exact ⟨m + 1, by omega, by go_num, hc8⟩
                  case measure => (first | (simp [intOf]; done) | (simp [intOf]; omega))
                · cases xs
                  · go_wp2_with (at_builtin; go_must ((refine wpList_append_lies _ rfl _ _ _ rfl wy.heap.size 45 i0 _ 2 16 Try.underlying42 hi0 hz0 hz1 hz2 rfl (by omega) _ L.length (lcs L) (by rfl) (ho7.alloc _) ⟨w7.heap.size, 0, none⟩ 1 1 [.bool false, .int .i64 (xn : Int)] (by rfl) (by rfl) (World.news_of_block (cs := #[.bool false, .int .i64 (xn : Int)]) (t := 45) (fr := (0, 0)) (heap_new (by simp))) (by simp [Value.oneCell']) (by omega) (by unfold maxLen; omega) (by omega) (by simp; omega) (w7.heap.size + 1) (by simp) ?_; intro gg cap w8 hown1 hgrow hat hlt1)))
                    have hc8 : Col wy (L0 ++ pl.take (m + 1)) (.slice (some ⟨gg, 0, none⟩) (L.length + 1) cap) w8 := by
                      rw [HXT.out]
                      exact Col.app (x := ⟨false, xn⟩) (hcol7.below (Below.drewN_ (Below.refl _ _) nq)) hown1 hgrow
                    clear hown1 hgrow
                    go_wp2
                    go_roundw
                    case rel => exact ⟨m + 1, by omega, by go_num, hc8⟩
                    case measure => (first | (simp [intOf]; done) | (simp [intOf]; omega))
                  · have hxe := HXE.out rfl rfl
                    have hx8 : ¬ (V.extra : Int) ≤ (xn : Int) := by omega
                    have hx9 : ¬ V.extra ≤ xn := by omega
                    go_wp2_with (at_builtin; go_must ((refine wpList_append_lies _ rfl _ _ _ rfl wy.heap.size 45 i0 _ 2 16 Try.underlying42 hi0 hz0 hz1 hz2 rfl (by omega) _ L.length (lcs L) (by rfl) (ho7.alloc _) ⟨w7.heap.size, 0, none⟩ 1 1 [.bool true, .int .i64 (xn : Int)] (by rfl) (by rfl) (World.news_of_block (cs := #[.bool true, .int .i64 (xn : Int)]) (t := 45) (fr := (0, 0)) (heap_new (by simp))) (by simp [Value.oneCell']) (by omega) (by unfold maxLen; omega) (by omega) (by simp; omega) (w7.heap.size + 1) (by simp) ?_; intro gg cap w8 hown1 hgrow hat hlt1)))
                    have hc8 : Col wy (L0 ++ pl.take (m + 1)) (.slice (some ⟨gg, 0, none⟩) (L.length + 1) cap) w8 := by
                      rw [HXT.out]
                      exact Col.app (x := ⟨true, xn⟩) (hcol7.below (Below.drewN_ (Below.refl _ _) nq)) hown1 hgrow
                    clear hown1 hgrow
                    go_wp2
                    go_roundw
                    case rel => exact ⟨m + 1, by omega, by go_num, hc8⟩
                    case measure => (first | (simp [intOf]; done) | (simp [intOf]; omega))
              · have g3 : (kk == 2) = false := by simpa using hk2
                clear hk2 HXL
                go_quiet (fail)
                have ho7 := own_below hcol7.1 (Below.drewN_ (Below.refl _ _) nq)
                cases mny
                · go_wp2_with (at_builtin; go_must ((refine wpList_append_lies _ rfl _ _ _ rfl wy.heap.size 45 i0 _ 2 16 Try.underlying42 hi0 hz0 hz1 hz2 rfl (by omega) _ L.length (lcs L) (by rfl) (ho7.alloc _) ⟨w7.heap.size, 0, none⟩ 1 1 [.bool xs, .int .i64 (xn : Int)] (by rfl) (by rfl) (World.news_of_block (cs := #[.bool xs, .int .i64 (xn : Int)]) (t := 45) (fr := (0, 0)) (heap_new (by simp))) (by simp [Value.oneCell']) (by omega) (by unfold maxLen; omega) (by omega) (by simp; omega) (w7.heap.size + 1) (by simp) ?_; intro gg cap w8 hown1 hgrow hat hlt1)))
                  have hc8 : Col wy (L0 ++ pl.take (m + 1)) (.slice (some ⟨gg, 0, none⟩) (L.length + 1) cap) w8 := by
                    rw [HXT.out]
                    exact Col.app (x := ⟨xs, xn⟩) (hcol7.below (Below.drewN_ (Below.refl _ _) nq)) hown1 hgrow
                  clear hown1 hgrow
                  go_wp2
                  go_roundw
                  case rel => exact ⟨m + 1, by omega, by go_num, hc8⟩
                  case measure => (first | (simp [intOf]; done) | (simp [intOf]; omega))
                · cases xs
                  · go_wp2_with (at_builtin; go_must ((refine wpList_append_lies _ rfl _ _ _ rfl wy.heap.size 45 i0 _ 2 16 Try.underlying42 hi0 hz0 hz1 hz2 rfl (by omega) _ L.length (lcs L) (by rfl) (ho7.alloc _) ⟨w7.heap.size, 0, none⟩ 1 1 [.bool false, .int .i64 (xn : Int)] (by rfl) (by rfl) (World.news_of_block (cs := #[.bool false, .int .i64 (xn : Int)]) (t := 45) (fr := (0, 0)) (heap_new (by simp))) (by simp [Value.oneCell']) (by omega) (by unfold maxLen; omega) (by omega) (by simp; omega) (w7.heap.size + 1) (by simp) ?_; intro gg cap w8 hown1 hgrow hat hlt1)))
                    have hc8 : Col wy (L0 ++ pl.take (m + 1)) (.slice (some ⟨gg, 0, none⟩) (L.length + 1) cap) w8 := by
                      rw [HXT.out]
                      exact Col.app (x := ⟨false, xn⟩) (hcol7.below (Below.drewN_ (Below.refl _ _) nq)) hown1 hgrow
                    clear hown1 hgrow
                    go_wp2
                    go_roundw
                    case rel => exact ⟨m + 1, by omega, by go_num, hc8⟩
                    case measure => (first | (simp [intOf]; done) | (simp [intOf]; omega))
                  · have hxe := HXE.out rfl rfl
                    have hx8 : ¬ (V.extra : Int) ≤ (xn : Int) := by omega
                    have hx9 : ¬ V.extra ≤ xn := by omega
                    go_wp2_with (at_builtin; go_must ((refine wpList_append_lies _ rfl _ _ _ rfl wy.heap.size 45 i0 _ 2 16 Try.underlying42 hi0 hz0 hz1 hz2 rfl (by omega) _ L.length (lcs L) (by rfl) (ho7.alloc _) ⟨w7.heap.size, 0, none⟩ 1 1 [.bool true, .int .i64 (xn : Int)] (by rfl) (by rfl) (World.news_of_block (cs := #[.bool true, .int .i64 (xn : Int)]) (t := 45) (fr := (0, 0)) (heap_new (by simp))) (by simp [Value.oneCell']) (by omega) (by unfold maxLen; omega) (by omega) (by simp; omega) (w7.heap.size + 1) (by simp) ?_; intro gg cap w8 hown1 hgrow hat hlt1)))
                    have hc8 : Col wy (L0 ++ pl.take (m + 1)) (.slice (some ⟨gg, 0, none⟩) (L.length + 1) cap) w8 := by
                      rw [HXT.out]
                      exact Col.app (x := ⟨true, xn⟩) (hcol7.below (Below.drewN_ (Below.refl _ _) nq)) hown1 hgrow
                    clear hown1 hgrow
                    go_wp2
                    go_roundw
                    case rel => exact ⟨m + 1, by omega, by go_num, hc8⟩
                    case measure => (first | (simp [intOf]; done) | (simp [intOf]; omega))
            · have hj : ¬ (m : Int) < (pl.length : Int) := by omega
              obtain rfl : m = pl.length := by omega
              rw [List.take_length, ← HT.out] at hcol
              go_wp2
              go_roundw
              case rel => exact ⟨k + 1, by omega, by go_num, hcol⟩
              case measure => (first | (simp [intOf]; done) | (simp [intOf]; omega))
        · have hi : ¬ (k : Int) < (V.pars.length : Int) := by omega
          obtain rfl : k = V.pars.length := by omega
          rw [List.take_length] at hcol
          have HLN : Hid ((hidL V ++ V.pars.flatten).length ≤ 30) := by
            show _ ≤ _
            rw [List.length_append]
            have := flat_le V.pars HL4.out 7 l7
            omega
          generalize hidL V ++ V.pars.flatten = L at *
          obtain ⟨hown, hbw⟩ := hcol
          obtain ⟨A9, c9, rfl, hrow⟩ := Row.of_own hown
          have hln := HLN.out
          have b6 := b4.trans (hbw.mono b4.size)
          have kpw := kp4.below hbw
          clear hown kp4 kq kt4 sl sl' HLG HL4 HEX HP4 r1 s1 y2 hb hbw b4
          go_wp2
          obtain ⟨wx, rfl⟩ : ∃ wx : World, wx = wr := ⟨_, rfl⟩
          go_loopw [13] (fun i wr => AtRel L.length w wx i wr) (fun i _ => L.length - (intOf i).toNat)
          case atStart => exact ⟨0, Nat.zero_le _, rfl, Below.refl _ _, b6⟩
          case round =>
            clear b6
            obtain ⟨k, hk, rfl, hb, hbw⟩ := hrel
            by_cases hlt : k < L.length
            · obtain ⟨b, o, rfl, hbl, c0, c1⟩ := lcs_at hrow hlt
              have hi1 : (k : Int) < (L.length : Int) := by omega
              have hi2 : (0 : Int) ≤ (k : Int) := by omega
              have hi3 : (k : Int) < 100 := by omega
              obtain ⟨hx3, hxa⟩ := HALL.out _ (List.getElem_mem hlt)
              have HX := Lib.hid hx3
              have HXA := Lib.hid hxa
              have HNE : Hid (∀ j (hj : j < L.length), j < k → L[j] ≠ L[k]) := fun j hj hjk he => by
                have := (List.pairwise_iff_getElem.1 HND.out) j k hj hlt hjk
                exact this he
              have d0 := (hb.cell (p := ⟨b, o + k * 2, none⟩) hbl).trans c0
              have d1 := (hb.cell (p := ⟨b, o + k * 2 + 1, none⟩) hbl).trans c1
              have x5 := (kpw.below hb).cell 5 (.int .i64 (aa : Int)) rfl
              clear hx3 hxa
              generalize hxe : L[k] = x at *
              obtain ⟨xs, xn⟩ := x
              have HXE := Lib.hid hxe
              simp only at c0 c1 d0 d1 HX HXA
              have hx0 : decide ((xn : Int) < 0) = false := by simp
              have hx1 : (0 : Int) ≤ (xn : Int) := by omega
              clear hxe
              cases xs
              all_goals
                first
                | (have hx3 : decide ((3 : Int) < (xn : Int)) = false := by have := HX.out rfl; simp; omega)
                | (have hx4 : decide ((aa : Int) ≤ (xn : Int)) = false := by have := HXA.out rfl; simp; omega
                   have hx5 : decide (aa ≤ xn) = false := by have := HXA.out rfl; simp; omega)
                go_wp2_with fail
                go_quiet (fail)
                go_wp2_with fail
                have hb2 := Below.drewN_ hb nq
                have hbw2 := Below.drewN_ hbw nq
                obtain ⟨wz, rfl⟩ : ∃ wz : World, wz = wr := ⟨_, rfl⟩
                go_loopw [14] (fun i wr => AtRel k w wx i wr) (fun i _ => k - (intOf i).toNat)
                case atStart => exact ⟨0, Nat.zero_le _, rfl, hb2, hbw2⟩
                case round =>
                  clear hb2 hbw2 d0 d1 x5 hb hbw
                  obtain ⟨j, hj, rfl, hb, hbw⟩ := hrel
                  by_cases hjk : j < k
                  · obtain ⟨b', o', he, -, z0, z1⟩ := lcs_at hrow (show j < L.length by omega)
                    injection he with he
                    injection he with he1 he2
                    subst he1 he2
                    have hne := HNE.out j (by omega) hjk
                    have hj1 : (j : Int) < (k : Int) := by omega
                    have hj2 : (0 : Int) ≤ (j : Int) := by omega
                    have hj3 : (j : Int) < (L.length : Int) := by omega
                    have d0 := (hb.cell (p := ⟨b, o + k * 2, none⟩) hbl).trans c0
                    have d1 := (hb.cell (p := ⟨b, o + k * 2 + 1, none⟩) hbl).trans c1
                    have z0' := (hb.cell (p := ⟨b, o + j * 2, none⟩) hbl).trans z0
                    have z1' := (hb.cell (p := ⟨b, o + j * 2 + 1, none⟩) hbl).trans z1
                    clear z0 z1
                    generalize L[j] = y at *
                    have t := eq_locs_no hne
                    simp only at t
                    clear hne
                    go_wp2_with fail
                    go_quiet (fail)
                    go_wp2
                    go_roundw
                    case rel => exact ⟨j + 1, by omega, by go_num, Below.drewN_ hb _, Below.drewN_ hbw _⟩
                    case measure => (first | (simp [intOf]; done) | (simp [intOf]; omega))
                  · have hj1 : ¬ (j : Int) < (k : Int) := by omega
                    go_wp2
                    go_roundw
                    case rel => exact ⟨k + 1, by omega, by go_num, hb, hbw⟩
                    case measure => (first | (simp [intOf]; done) | (simp [intOf]; omega))
            · have hi1 : ¬ (k : Int) < (L.length : Int) := by omega
              go_wp2
              go_ret
              exact ⟨rfl, hbw⟩
theorem apart_any (T : Ty) (cs : List Value) (bs : List Ty) (Ab : Option Addr) (cb : Nat) (w : World) (hr : Rep w T cs) (hbs : RepL w bs Ab) (hm : ML w) : Calls Try.prog 6 #[.agg cs.toArray, .slice Ab bs.length cb] w fun e w' => e = .returned (.bool true) ∧ Below w.heap.size w w' := by
  by_cases hE : abiE T bs = 0
  · exact apart_ok T cs bs Ab cb w hr hbs hm hE
  · exact apart_bad T cs bs Ab cb w hr hbs hm hE
end Go.Proofs.Ytkjlmllhhfacfaa
