/- The walk of abi.Places: the types beyond. -/
import Derived.Test.YtkkjkbljgaipcaaAbiS
import Derived.Deep.CutRange
import Derived.Deep.QuietTactic
import Derived.BigQuiet
import Derived.IntWalk
namespace Go.Proofs.Ytkkjkbljgaipcaa
open Go.RowKit
set_option linter.unusedVariables false
set_option linter.unusedSimpArgs false
set_option maxRecDepth 100000
set_option maxHeartbeats 6000000
theorem mayT_up : ∀ (d : Nat) (T : Ty), mayT d T = true → mayT (d + 1) T = true
  | 0, T, h => by cases h
  | d + 1, T, h => by
    unfold mayT at h ⊢
    by_cases h12 : T.k = 1 ∨ T.k = 2
    · rw [if_pos h12] at h ⊢; exact h
    · rw [if_neg h12] at h ⊢
      by_cases h3 : T.k = 3
      · rw [if_pos h3] at h ⊢
        simp only [Bool.and_eq_true, decide_eq_true_eq, List.all_eq_true] at h ⊢
        exact ⟨⟨⟨h.1.1.1, ⟨h.1.1.2.1, fun p hp => mayT_up d p (h.1.1.2.2 p hp)⟩⟩, h.1.2⟩, h.2⟩
      · rw [if_neg h3] at h ⊢
        by_cases h4 : T.k = 4
        · rw [if_pos h4] at h ⊢
          simp only [Bool.and_eq_true, decide_eq_true_eq, List.all_eq_true] at h ⊢
          exact ⟨h.1, ⟨h.2.1, fun p hp => mayT_up d p (h.2.2 p hp)⟩⟩
        · rw [if_neg h4] at h; cases h
theorem mayT_le {T : Ty} (h : mayT 3 T = true) : may T = true := mayT_up 3 T h
theorem abiP_range (T : Ty) (cs : List Value) (bs : List Ty) (Ab : Option Addr) (cb : Nat) (w : World) (hr : Rep w T cs) (hm : ML w) (h4 : T.k = 4) (hmy : may T = true) (hx : 6 < bs.length ∨ (0 < bs.length ∧ T.many = false)) : Calls Try.prog 24 #[.agg cs.toArray, .slice Ab bs.length cb] w (PlOut T bs w) := by
  have he : Hid (abiE T bs = 6) := by show _ = _; unfold abiE; rw [if_neg (by simp [h4, hmy]), if_pos hx]
  have hr0 := hr
  obtain ⟨An, cn, Ap, cp, rfl, hN, hP⟩ := hr.five
  have hcap := hr.cap
  have hb0 : Below w.heap.size w ((w.alloc (.cells #[.int .i64 T.k, .string T.nm, .slice An T.ns.length cn, .slice Ap T.ps.length cp, .bool T.many] 25)).alloc (.cells zeroP 67)) := by (repeat (first | with_reducible assumption | with_reducible exact Below.refl _ _ | (refine Below.setCell ?_ (by first | omega | (simp; done) | (simp; omega)) _) | (refine Below.drewN_ ?_ _) | (refine Below.drew ?_) | (refine Below.alloc ?_ (by first | omega | (simp; done) | (simp; omega)) _)))
  have HR := Lib.hid (Rep.keep hb0 _ _ hr0)
  have HM := Lib.hid (hm.keep hb0)
  unfold zeroP at hb0 HR HM
  rw [h4] at hb0 HR HM ⊢
  have H4 := Lib.hid h4
  clear hr h4
  go_enter Try.func24, Try.ntmps24
  go_wp2_with fail
  refine (may_any T _ _ HR.out HM.out).mono ?_
  rintro e w1 ⟨rfl, hb⟩
  rw [hmy]
  have b1 := hb0.trans (hb.mono hb0.size)
  have kr := (Blk.nxt1 w (.cells #[.int .i64 4, .string T.nm, .slice An T.ns.length cn, .slice Ap T.ps.length cp, .bool T.many] 25) 67 zeroP).below hb
  have kt := ((Blk.new_ w 25 #[.int .i64 4, .string T.nm, .slice An T.ns.length cn, .slice Ap T.ps.length cp, .bool T.many]).alloc (.cells zeroP 67)).below hb
  unfold zeroP at kr
  clear hb hb0 HR HM
  have q4 := kt.cell 4 _ rfl
  have f := fun i => kr.free i
  have c0 := kr.cell 0 _ rfl
  have c1 := kr.cell 1 _ rfl
  have c2 := kr.cell 2 _ rfl
  have c3 := kr.cell 3 _ rfl
  have c4 := kr.cell 4 _ rfl
  have c5 := kr.cell 5 _ rfl
  have c6 := kr.cell 6 _ rfl
  by_cases h6 : 6 < bs.length
  · have h6' : (6 : Int) < (bs.length : Int) := by omega
    clear hx h6
    go_wp2
    have k2 := kr.set7 (.int .i64 0) (.int .i64 0) (.slice none 0 0) (.slice none 0 0) (.slice none 0 0) (.int .i64 0) (.int .i64 0)
    exact bodyPost_ret (results_places (by kernel_rfl) k2 rfl rfl) rfl (PlOut.bad he.out (by decide) (below_set7 b1 (by omega) _ _ _ _ _ _ _))
  · have h6' : ¬ (6 : Int) < (bs.length : Int) := by omega
    obtain ⟨hx1, hx2⟩ : 0 < bs.length ∧ T.many = false := by
      rcases hx with h | h
      · exact absurd h h6
      · exact h
    have h0' : (0 : Int) < (bs.length : Int) := by omega
    rw [hx2] at q4
    clear hx h6 hx2 hx1
    go_wp2
    have k2 := kr.set7 (.int .i64 0) (.int .i64 0) (.slice none 0 0) (.slice none 0 0) (.slice none 0 0) (.int .i64 0) (.int .i64 0)
    exact bodyPost_ret (results_places (by kernel_rfl) k2 rfl rfl) rfl (PlOut.bad he.out (by decide) (below_set7 b1 (by omega) _ _ _ _ _ _ _))
def ByRel (bs : List Ty) (w : World) (H : Nat) (ts ps : Array Value) (i : Value) (wr : World) : Prop :=
  ∃ k : Nat, k ≤ bs.length ∧ i = .int .i64 k ∧ (∀ j (h : j < bs.length), j < k → beyT bs[j] = true) ∧ Below w.heap.size w wr ∧ Blk wr H 25 ts ∧ Blk wr (H + 1) 67 ps
def CutA (T : Ty) (w : World) (H G : Nat) (tt : Array Value) (s : Value) (wx : World) : Prop :=
  ∃ P, s = .pointer (some ⟨P, 0, none⟩) ∧ G + 1 < P ∧ Blk wx P 67 #[.int .i64 (abiG T).res, .int .i64 0, .slice none 0 0, .slice none 0 0, .slice none 0 0, .int .i64 0, .int .i64 0] ∧ Blk wx G 86 #[.int .i64 ((gvA T).r : Int), .int .i64 ((gvA T).p : Int)] ∧
    Blk wx (G + 1) 84 #[.pointer (some ⟨G, 0, none⟩)] ∧ Blk wx H 25 tt ∧ Blk wx (H + 1) 67 zeroP ∧ Below w.heap.size w wx
def CutB (T : Ty) (w : World) (H G P : Nat) (tt : Array Value) (wx : World) : Prop :=
  Blk wx P 67 #[.int .i64 (abiG T).res, .int .i64 (abiG T).cnt, .slice none 0 0, .slice none 0 0, .slice none 0 0, .int .i64 0, .int .i64 0] ∧ Blk wx G 86 #[.int .i64 ((gvB T).r : Int), .int .i64 ((gvB T).p : Int)] ∧
    Blk wx (G + 1) 84 #[.pointer (some ⟨G, 0, none⟩)] ∧ Blk wx H 25 tt ∧ Blk wx (H + 1) 67 zeroP ∧ Below w.heap.size w wx
theorem parK_bd (ts : List Ty) (g : Gv) (h : g.r ≤ 4) : ∀ k, (parK ts g k).2.2.r ≤ 4 ∧ (parK ts g k).2.2.p ≤ g.p + 6 * k
  | 0 => ⟨h, Nat.le_refl _⟩
  | k + 1 => by
    have ih := parK_bd ts g h k
    have := par_bd (parK ts g k).2.2 ih.1 (sizeT (ts.getD k (.mk 0 ⟨#[]⟩ [] [] false))).1 (sizeT (ts.getD k (.mk 0 ⟨#[]⟩ [] [] false))).2 ((ts.getD k (.mk 0 ⟨#[]⟩ [] [] false)).k == 2)
    simp only [parK]
    omega
theorem gvB_bd (T : Ty) : (gvB T).r ≤ 4 ∧ (gvB T).p = 0 := by unfold gvB gvA Gv.next; split <;> split <;> simp
theorem info_lrow : (Try.prog.info? 29).map (fun i => (i.zero, i.size, i.bytes)) = some (some (.slice none 0 0), 1, 24) := by kernel_rfl
theorem info_bool : (Try.prog.info? 4).map (fun i => (i.zero, i.size, i.bytes)) = some (some (.bool false), 1, 1) := by kernel_rfl
def PksRel (T : Ty) (w : World) (H G P m : Nat) (tt : Array Value) (i : Value) (wx : World) : Prop :=
  ∃ k : Nat, k ≤ m ∧ i = .int .i64 k ∧ ∃ A1 c1 A2 c2 vs, Blk wx P 67 #[.int .i64 (abiG T).res, .int .i64 (abiG T).cnt, .slice A1 k c1, .slice A2 k c2, .slice none 0 0, .int .i64 0, .int .i64 0] ∧
    wx.ownsRow w.heap.size 29 1 (.slice A1 k c1) k vs ∧ wx.ownsRow w.heap.size 4 1 (.slice A2 k c2) k ((parK T.ps (gvB T) k).2.1.map .bool) ∧ SlOk wx none vs (parK T.ps (gvB T) k).1 ∧
    Blk wx G 86 #[.int .i64 ((parK T.ps (gvB T) k).2.2.r : Int), .int .i64 ((parK T.ps (gvB T) k).2.2.p : Int)] ∧
    Blk wx (G + 1) 84 #[.pointer (some ⟨G, 0, none⟩)] ∧ Blk wx H 25 tt ∧ Blk wx (H + 1) 67 zeroP ∧ Below w.heap.size w wx
theorem TRow.keepB {w w' : World} {A : Option Addr} {l : List Pl} (h : TRow w 52 A (lcs l)) (hb : Below w.heap.size w w') : TRow w' 52 A (lcs l) := h.but (grow_below hb none) (fun _ _ _ _ _ e => by cases e)
def SumRel (bs : List Ty) (F : Nat → World → Prop) (i : Value) (wr : World) : Prop := ∃ k : Nat, k ≤ bs.length ∧ i = .int .i64 k ∧ F (bsum (bs.take k)) wr
def ResRel (n : Nat) (F : Nat → Option Addr → Nat → World → Prop) (i : Value) (wr : World) : Prop := ∃ k : Nat, k ≤ n ∧ i = .int .i64 k ∧ ∃ A c, F k A c wr
theorem info_int : (Try.prog.info? 3).map (fun i => (i.zero, i.size, i.bytes)) = some (some (.int .i64 0), 1, 8) := by kernel_rfl
theorem bey_words {b : Ty} (h : beyT b = true) : wordsT b = ((sizeT b).1 : Int) ∧ (sizeT b).1 ≤ 2 := by
  unfold beyT at h
  simp only [Bool.and_eq_true, Bool.or_eq_true, beq_iff_eq] at h
  refine ⟨by simp [wordsT, h.1], ?_⟩
  rw [sizeT_eq]
  rcases h.2 with h | h
  · rw [if_neg (by omega), if_neg (by omega)]; decide
  · rw [if_pos h]; decide
theorem bsum_le (bs : List Ty) (h : ∀ j (hj : j < bs.length), j < bs.length → beyT bs[j] = true) : ∀ k, k ≤ bs.length → bsum (bs.take k) ≤ 2 * k
  | 0, _ => by simp [bsum]
  | k + 1, hk => by
    rw [bsum_take (by omega)]
    have h1 := bsum_le bs h k (by omega)
    have h2 := (bey_words (h k (by omega) (by omega))).2
    omega
theorem PksRel.mk {T : Ty} {w : World} {H G P m : Nat} {tt : Array Value} {i : Value} {wx : World} (k : Nat) (S : List (List Pl) × List Bool × Gv) (hS : parK T.ps (gvB T) k = S) (hk : k ≤ m) (hi : i = .int .i64 k) (A1 : Option Addr) (c1 : Nat) (A2 : Option Addr) (c2 : Nat) (vs : List Value)
    (kp : Blk wx P 67 #[.int .i64 (abiG T).res, .int .i64 (abiG T).cnt, .slice A1 k c1, .slice A2 k c2, .slice none 0 0, .int .i64 0, .int .i64 0])
    (o1 : wx.ownsRow w.heap.size 29 1 (.slice A1 k c1) k vs) (o2 : wx.ownsRow w.heap.size 4 1 (.slice A2 k c2) k (S.2.1.map .bool)) (s : SlOk wx none vs S.1)
    (gv : Blk wx G 86 #[.int .i64 (S.2.2.r : Int), .int .i64 (S.2.2.p : Int)]) (gp : Blk wx (G + 1) 84 #[.pointer (some ⟨G, 0, none⟩)]) (kt : Blk wx H 25 tt) (kr : Blk wx (H + 1) 67 zeroP) (hb : Below w.heap.size w wx) : PksRel T w H G P m tt i wx := by
  subst hS; exact ⟨k, hk, hi, A1, c1, A2, c2, vs, kp, o1, o2, s, gv, gp, kt, kr, hb⟩
theorem abiP_go (T : Ty) (cs : List Value) (bs : List Ty) (Ab : Option Addr) (cb : Nat) (w : World) (hr : Rep w T cs) (hm : ML w) (h4 : T.k = 4) (hmy : may T = true) (hbs : RepL w bs Ab) (h6 : bs.length ≤ 6) (hx : 0 < bs.length → T.many = true) : Calls Try.prog 24 #[.agg cs.toArray, .slice Ab bs.length cb] w (PlOut T bs w) := by
  have he0 : Hid (¬ (T.k ≠ 4 ∨ may T = false) ∧ ¬ (6 < bs.length ∨ (0 < bs.length ∧ T.many = false))) := ⟨by simp [h4, hmy], by rintro (h | ⟨h, h'⟩); omega; rw [hx h] at h'; cases h'⟩
  have hr0 := hr
  obtain ⟨An, cn, Ap, cp, rfl, hN, hP⟩ := hr.five
  have hcap := hr.cap
  have hb0 : Below w.heap.size w ((w.alloc (.cells #[.int .i64 T.k, .string T.nm, .slice An T.ns.length cn, .slice Ap T.ps.length cp, .bool T.many] 25)).alloc (.cells zeroP 67)) := by (repeat (first | with_reducible assumption | with_reducible exact Below.refl _ _ | (refine Below.setCell ?_ (by first | omega | (simp; done) | (simp; omega)) _) | (refine Below.drewN_ ?_ _) | (refine Below.drew ?_) | (refine Below.alloc ?_ (by first | omega | (simp; done) | (simp; omega)) _)))
  have HR := Lib.hid (Rep.keep hb0 _ _ hr0)
  have HM := Lib.hid (hm.keep hb0)
  unfold zeroP at hb0 HR HM
  rw [h4] at hb0 HR HM ⊢
  have H4 := Lib.hid h4
  clear hr h4
  go_enter Try.func24, Try.ntmps24
  go_wp2_with fail
  refine (may_any T _ _ HR.out HM.out).mono ?_
  rintro e w1 ⟨rfl, hb⟩
  rw [hmy]
  have b1 := hb0.trans (hb.mono hb0.size)
  have kr := (Blk.nxt1 w (.cells #[.int .i64 4, .string T.nm, .slice An T.ns.length cn, .slice Ap T.ps.length cp, .bool T.many] 25) 67 zeroP).below hb
  have kt := ((Blk.new_ w 25 #[.int .i64 4, .string T.nm, .slice An T.ns.length cn, .slice Ap T.ps.length cp, .bool T.many]).alloc (.cells zeroP 67)).below hb
  unfold zeroP at kr
  clear hb hb0 HR HM
  have q4 := kt.cell 4 _ rfl
  have h6' : ¬ (6 : Int) < (bs.length : Int) := by omega
  have HX := Lib.hid hx
  clear hx
  have hd6 : decide ((6 : Int) < (bs.length : Int)) = false := by simp; omega
  go_upto_region 3 with (fail)
  go_cut [41] from 20 to 41 (fun s wx => s = .bool false ∧ wx = w1)
  case first =>
    by_cases h0 : 0 < bs.length
    · have hmt := HX.out h0
      rw [hmt] at q4
      have h0' : (0 : Int) < (bs.length : Int) := by omega
      clear h0 hmt
      go_wp2_with fail
      go_meet
      exact ⟨rfl, rfl⟩
    · have h0' : ¬ (0 : Int) < (bs.length : Int) := by omega
      clear h0
      go_wp2_with fail
      go_meet
      exact ⟨rfl, rfl⟩
  case rest =>
    obtain ⟨rfl, rfl⟩ := hcut
    go_wp2
    go_loopw [7, 45] (fun _ i wr => ByRel bs w w.heap.size #[.int .i64 4, .string T.nm, .slice An T.ns.length cn, .slice Ap T.ps.length cp, .bool T.many] #[.int .i64 0, .int .i64 0, .slice none 0 0, .slice none 0 0, .slice none 0 0, .int .i64 0, .int .i64 0] i wr) (fun _ i _ => bs.length - (intOf i).toNat)
    case atStart => exact ⟨0, Nat.zero_le _, rfl, fun j _ h => absurd h (by omega), b1, kt, kr⟩
    case round =>
      clear kt kr b1 q4
      obtain ⟨k, hk, rfl, hg, hb, kt, kr⟩ := hrel
      by_cases hlt : k < bs.length
      · obtain ⟨b, o, An', cn', Ap', cp', rfl, hbl, hrep, hc⟩ := (RepL.keep hb bs _ hbs).five hlt
        have hi : (k : Int) < (bs.length : Int) := by omega
        have hk7 : (k : Int) < 7 := by omega
        have HG := Lib.hid hg
        clear hg
        have HBAD : Hid (beyT bs[k] = false → abiE T bs = 3) := fun h => by
          unfold abiE
          rw [if_neg he0.out.1, if_neg he0.out.2, if_neg]
          intro hall
          rw [List.all_eq_true.1 hall _ (List.getElem_mem hlt)] at h
          cases h
        have HOK : Hid (beyT bs[k] = true → ∀ j (h : j < bs.length), j < k + 1 → beyT bs[j] = true) := fun h0 j h hj => by
          rcases Nat.lt_or_ge j k with h1 | h1
          · exact HG.out j h h1
          · obtain rfl : j = k := by omega
            exact h0
        generalize bs[k] = p at *
        have hsz := hb.size
        go_wp2_with fail
        refine (may_any p _ _ (Rep.keep ((Below.refl _ _).alloc (Nat.le_refl _) _) _ _ hrep) (hm.keep (hb.alloc hsz _))).mono ?_
        rintro e w2 ⟨rfl, hb2⟩
        have b3 := (hb.alloc hsz (.cells #[.int .i64 p.k, .string p.nm, .slice An' p.ns.length cn', .slice Ap' p.ps.length cp', .bool p.many] 25)).trans (hb2.mono (by simp; omega))
        have kp := (Blk.new_ wr 25 #[.int .i64 p.k, .string p.nm, .slice An' p.ns.length cn', .slice Ap' p.ps.length cp', .bool p.many]).below hb2
        have kt2 := (kt.alloc (.cells #[.int .i64 p.k, .string p.nm, .slice An' p.ns.length cn', .slice Ap' p.ps.length cp', .bool p.many] 25)).below hb2
        have kr2 := (kr.alloc (.cells #[.int .i64 p.k, .string p.nm, .slice An' p.ns.length cn', .slice Ap' p.ps.length cp', .bool p.many] 25)).below hb2
        have d0 := kp.cell 0 _ rfl
        clear hc kt kr hb2 hrep
        have kr := kr2
        rcases hpm : may p with _ | _
        · have he := Lib.hid (HBAD.out (by simp [beyT, hpm]))
          have f := fun i => kr.free i
          have c0 := kr.cell 0 _ rfl
          have c1 := kr.cell 1 _ rfl
          have c2 := kr.cell 2 _ rfl
          have c3 := kr.cell 3 _ rfl
          have c4 := kr.cell 4 _ rfl
          have c5 := kr.cell 5 _ rfl
          have c6 := kr.cell 6 _ rfl
          go_wp2
          have k2 := kr.set7 (.int .i64 0) (.int .i64 0) (.slice none 0 0) (.slice none 0 0) (.slice none 0 0) (.int .i64 0) (.int .i64 0)
          exact bodyPost_ret (results_places (by kernel_rfl) k2 rfl rfl) rfl (PlOut.bad he.out (by decide) (below_set7 b3 (by omega) _ _ _ _ _ _ _))
        · by_cases h1 : p.k = 1
          · have hok := Lib.hid (HOK.out (by simp [beyT, hpm, h1]))
            rw [h1] at d0
            go_wp2
            go_roundw
            case rel => exact ⟨k + 1, by omega, by go_num, hok.out, b3, kt2, kr⟩
            case measure => (first | (simp [intOf]; done) | (simp [intOf]; omega))
          · by_cases h2 : p.k = 2
            · have hok := Lib.hid (HOK.out (by simp [beyT, hpm, h2]))
              rw [h2] at d0
              go_wp2
              go_roundw
              case rel => exact ⟨k + 1, by omega, by go_num, hok.out, b3, kt2, kr⟩
              case measure => (first | (simp [intOf]; done) | (simp [intOf]; omega))
            · have he := Lib.hid (HBAD.out (by simp [beyT, hpm, h1, h2]))
              have t1 : (p.k != 1) = true := by simpa using h1
              have t2 : (p.k != 2) = true := by simpa using h2
              have f := fun i => kr.free i
              have c0 := kr.cell 0 _ rfl
              have c1 := kr.cell 1 _ rfl
              have c2 := kr.cell 2 _ rfl
              have c3 := kr.cell 3 _ rfl
              have c4 := kr.cell 4 _ rfl
              have c5 := kr.cell 5 _ rfl
              have c6 := kr.cell 6 _ rfl
              go_wp2
              have k2 := kr.set7 (.int .i64 0) (.int .i64 0) (.slice none 0 0) (.slice none 0 0) (.slice none 0 0) (.int .i64 0) (.int .i64 0)
              exact bodyPost_ret (results_places (by kernel_rfl) k2 rfl rfl) rfl (PlOut.bad he.out (by decide) (below_set7 b3 (by omega) _ _ _ _ _ _ _))
      · have hi : ¬ (k : Int) < (bs.length : Int) := by omega
        obtain rfl : k = bs.length := by omega
        have he : Hid (abiE T bs = 0) := by
          show _ = _
          unfold abiE
          rw [if_neg he0.out.1, if_neg he0.out.2, if_pos]
          rw [List.all_eq_true]
          intro x hx
          obtain ⟨j, hj, rfl⟩ := List.getElem_of_mem hx
          exact hg j hj hj
        have HBEY := Lib.hid hg
        clear hg
        have q3 := kt.cell 3 _ rfl
        have q4 := kt.cell 4 _ rfl
        obtain ⟨m, hmm⟩ : ∃ m, T.ps.length = m + 1 := ⟨T.ps.length - 1, by have := List.length_pos_iff.2 (may_fn hmy H4.out).2.2.1; omega⟩
        have hmx := may_len hmy
        have hps := (may_fn hmy H4.out).2.2.2
        have hlast : lastT T = T.ps[m]'(by omega) := by
          unfold lastT
          have e : T.ps.length - 1 = m := by omega
          rw [e]
          simp [hmm]
        obtain ⟨b, o, An', cn', Ap', cp', rfl, hbl, hrep, hc⟩ := (RepL.keep hb T.ps _ hP).five (by omega : m < T.ps.length)
        rw [← hlast] at hrep hc
        have hmyl : mayT 3 (lastT T) = true := by rw [hlast]; exact hps _ (List.getElem_mem _)
        have HML := Lib.hid (mayT_le hmyl)
        have HW : Hid (wordsT (lastT T) = ((sizeT (lastT T)).1 : Int)) := by show _ = _; simp [wordsT, HML.out]
        have HHM := Lib.hid hmm
        have hm7 : (m : Int) < 7 := by omega
        have hmc : (m : Int) ≤ (cp : Int) := by omega
        rw [hmm] at q3
        clear hmm hlast hmyl
        obtain ⟨w2, rfl⟩ : ∃ w2 : World, w2 = wr := ⟨_, rfl⟩
        have hltH := kt.lt
        have HLT1 := Lib.hid kr.lt
        have hszw := hb.size
        have X2 : Below w2.heap.size w2 ((w2.alloc (.cells #[.int .i64 0, .int .i64 0] 86)).alloc (.cells #[.pointer (some ⟨w2.heap.size, 0, none⟩)] 84)) := by (repeat (first | with_reducible assumption | with_reducible exact Below.refl _ _ | (refine Below.setCell ?_ (by first | omega | (simp; done) | (simp; omega)) _) | (refine Below.drewN_ ?_ _) | (refine Below.drew ?_) | (refine Below.alloc ?_ (by first | omega | (simp; done) | (simp; omega)) _)))
        have gv := (Blk.new_ w2 86 #[.int .i64 0, .int .i64 0]).alloc (.cells #[.pointer (some ⟨w2.heap.size, 0, none⟩)] 84)
        have gp := Blk.nxt1 w2 (.cells #[.int .i64 0, .int .i64 0] 86) 84 #[.pointer (some ⟨w2.heap.size, 0, none⟩)]
        have kt3 := kt.below X2
        have kr3 := kr.below X2
        have b3 := hb.trans (X2.mono hszw)
        go_wp2_with fail
        refine (words_any (lastT T) _ _ (Rep.keep X2 _ _ hrep) (hm.keep b3)).mono ?_
        rintro e w3 ⟨rfl, hb3⟩
        rw [HW.out]
        have gv := gv.below hb3
        have gp := gp.below hb3
        have kt4 := kt3.below hb3
        have kr4 := kr3.below hb3
        have b4 := b3.trans (hb3.mono b3.size)
        have hgH : w.heap.size + 1 < w2.heap.size := HLT1.out
        clear q3 q4 hc hrep X2 kt kr kt3 kr3 b3 hb hb3 hltH
        go_upto_region 15 with (fail)
        go_cut [12] from 77 to 86 (fun s wx => CutA T w w.heap.size w2.heap.size #[.int .i64 4, .string T.nm, .slice An T.ns.length cn, .slice (some ⟨b, o, none⟩) T.ps.length cp, .bool T.many] s wx)
        case first =>
          by_cases h2 : 2 < (sizeT (lastT T)).1
          · have h2' : (2 : Int) < ((sizeT (lastT T)).1 : Int) := by omega
            have hp0 := gp.cell 0 _ rfl
            go_wp2_with fail
            refine (hidden_yes (w2.heap.size + 1) w2.heap.size ⟨0, 0⟩ _ hp0 ⟨gv, by decide, by decide⟩).mono ?_
            rintro e w5 ⟨rfl, g5, hgr⟩
            go_wp2_with fail
            go_meet
            have e1 : (abiG T).res = ((Gv.loc ⟨0, 0⟩).n : Int) := by simp [abiG, h2, Gv.loc]
            have e2 : gvA T = Gv.next ⟨0, 0⟩ := by unfold gvA; rw [if_pos h2]; rfl
            have hs1 := gp.lt
            have hs2 := hgr.size
            refine ⟨w5.heap.size, rfl, by omega, by rw [e1]; exact Blk.new_ _ _ _, by rw [e2]; exact g5.alloc _, (gp.grown hgr (by simp)).alloc _, (kt4.grown hgr (by simp; omega)).alloc _, (kr4.grown hgr (by simp; omega)).alloc _, Below.alloc (below_giv b4 (by omega) (Nat.le_refl _) hgr) (Nat.le_trans b4.size hgr.size) _⟩
          · have h2' : ¬ (2 : Int) < ((sizeT (lastT T)).1 : Int) := by omega
            go_wp2_with fail
            refine (hidden_no (w2.heap.size + 1) _).mono ?_
            rintro e w5 ⟨rfl, rfl⟩
            go_wp2_with fail
            go_meet
            have e1 : (abiG T).res = -1 := by simp [abiG, h2]
            have e2 : gvA T = ⟨0, 0⟩ := by unfold gvA; rw [if_neg h2]
            have hs1 := gp.lt
            refine ⟨w3.heap.size, rfl, by omega, by rw [e1]; exact Blk.new_ _ _ _, by rw [e2]; exact gv.alloc _, gp.alloc _, kt4.alloc _, kr4.alloc _, b4.alloc b4.size _⟩
        case rest =>
          obtain ⟨P, rfl, hGP, kp, gvx, gpx, ktx, krx, hbx⟩ := hcut
          clear gv gp kt4 kr4 b4
          have hgr4 : (gvA T).r ≤ 4 ∧ (gvA T).p = 0 := by unfold gvA; split <;> simp
          have q4 := ktx.cell 4 _ rfl
          have fp := kp.free 1
          have fc := kp.cell 1 _ rfl
          obtain ⟨w6, rfl⟩ : ∃ w6 : World, w6 = wc := ⟨_, rfl⟩
          go_upto_region 16 with (fail)
          go_cut [] from 82 to 86 (fun wx => CutB T w w.heap.size w2.heap.size P #[.int .i64 4, .string T.nm, .slice An T.ns.length cn, .slice (some ⟨b, o, none⟩) T.ps.length cp, .bool T.many] wx)
          case first =>
            rcases Bool.eq_false_or_eq_true T.many with hmt | hmt
            · rw [hmt] at q4
              have HMT := Lib.hid hmt
              clear hmt
              have hp0 := gpx.cell 0 _ rfl
              go_wp2_with fail
              refine (hidden_yes (w2.heap.size + 1) w2.heap.size (gvA T) _ hp0 ⟨gvx, by omega, by omega⟩).mono ?_
              rintro e w7 ⟨rfl, g7, hgr⟩
              have kp7 := kp.grown hgr (by simp; omega)
              have fp7 := kp7.free 1
              have fc7 := kp7.cell 1 _ rfl
              go_wp2_with fail
              go_meet
              have e1 : (abiG T).cnt = ((gvA T).loc.n : Int) := by
                have : (gvA T).loc.n = (gvA T).r := by unfold gvA Gv.loc; split <;> simp
                rw [this]; simp [abiG, HMT.out]
              have e2 : gvB T = (gvA T).next := by unfold gvB; rw [if_pos HMT.out]
              refine ⟨by rw [e1]; exact kp7.set_ 1 _, by rw [e2]; exact g7.far (by simp; omega) _, (gpx.grown hgr (by simp)).far (by simp; omega) _, (ktx.grown hgr (by simp; omega)).far (by simp; omega) _, (krx.grown hgr (by simp; omega)).far (by simp; omega) _, (below_giv hbx (by omega) (Nat.le_refl _) hgr).setCell (p := ⟨P, 1, none⟩) (by simp; omega) _⟩
            · rw [hmt] at q4
              have HMT := Lib.hid hmt
              clear hmt
              go_wp2_with fail
              refine (hidden_no (w2.heap.size + 1) _).mono ?_
              rintro e w7 ⟨rfl, rfl⟩
              go_wp2_with fail
              go_meet
              have e1 : (abiG T).cnt = -1 := by simp [abiG, HMT.out]
              have e2 : gvB T = gvA T := by unfold gvB; rw [HMT.out]; rfl
              refine ⟨by rw [e1]; exact kp.set_ 1 _, by rw [e2]; exact gvx.far (by simp; omega) _, gpx.far (by simp; omega) _, ktx.far (by simp; omega) _, krx.far (by simp; omega) _, hbx.setCell (p := ⟨P, 1, none⟩) (by simp; omega) _⟩
          case rest =>
            obtain ⟨kp8, gv8, gp8, kt8, kr8, hb8⟩ := hcut
            clear kp gvx gpx ktx krx hbx q4 fp fc
            have q3 := kt8.cell 3 _ rfl
            rw [HHM.out] at q3
            clear gv gp
            go_wp2_with fail
            go_loopw [14, 15, 16, 92] (fun _ _ _ i wr => PksRel T w w.heap.size w2.heap.size P m #[.int .i64 4, .string T.nm, .slice An T.ns.length cn, .slice (some ⟨b, o, none⟩) T.ps.length cp, .bool T.many] i wr) (fun _ _ _ i _ => m - (intOf i).toNat)
            case atStart =>
              exact ⟨0, Nat.zero_le _, rfl, none, 0, none, 0, [], kp8, World.ownsRow_nil _ _ _ _, World.ownsRow_nil _ _ _ _, trivial, gv8, gp8, kt8, kr8, hb8⟩
            case round =>
              clear kp8 gv8 gp8 kt8 kr8 hb8 q3
              obtain ⟨k, hk, rfl, A1, c1, A2, c2, vs, kp, hO1, hO2, hS, gv, gp, kt, kr, hb⟩ := hrel
              by_cases hkm : k < m
              · have hi2 : (k : Int) < (m : Int) := by omega
                have hk7 : (k : Int) < 7 := by omega
                have hkl : k < T.ps.length := by have := HHM.out; omega
                obtain ⟨b', o', An3, cn3, Ap3, cp3, hA', hbl', hrep, hc⟩ := hP.five hkl
                injection hA' with hA'
                injection hA' with hA1 hA2
                subst hA1 hA2
                have hc := keep5 hb hbl' hc
                have hmp : may T.ps[k] = true := mayT_le (hps _ (List.getElem_mem hkl))
                have hbd := parK_bd T.ps (gvB T) (gvB_bd T).1 k
                have hbp := (gvB_bd T).2
                have HK := Lib.hid (parK_succ hkl (gvB T))
                obtain ⟨S1, hS1⟩ : ∃ S1, parK T.ps (gvB T) (k + 1) = S1 := ⟨_, rfl⟩
                rw [hS1] at HK
                have HS1 := Lib.hid hS1
                clear hS1
                generalize parK T.ps (gvB T) k = S at *
                generalize T.ps[k] = p at *
                obtain ⟨i0, hi0, hz0, hz1, hz2⟩ := info_parts info_lrow
                obtain ⟨i1, hi1, hy0, hy1, hy2⟩ := info_parts info_bool
                have hp0 := gp.cell 0 _ rfl
                have hltg := gp.lt
                have hsz := hb.size
                go_wp2_with fail
                refine (param_any p _ w _ w2.heap.size S.2.2 hrep hm (hb.alloc hsz _) hmp hszw hbd.1 (by omega) (gv.alloc _)).mono ?_
                rintro e w9 ⟨A9, c9, rfl, hT9, g9, hgr9⟩
                have hs0 : Below wr.heap.size wr (wr.alloc (.cells #[.int .i64 p.k, .string p.nm, .slice An3 p.ns.length cn3, .slice Ap3 p.ps.length cp3, .bool p.many] 25)) := by (repeat (first | with_reducible assumption | with_reducible exact Below.refl _ _ | (refine Below.setCell ?_ (by first | omega | (simp; done) | (simp; omega)) _) | (refine Below.drewN_ ?_ _) | (refine Below.drew ?_) | (refine Below.alloc ?_ (by first | omega | (simp; done) | (simp; omega)) _)))
                have o1 := own_grown (hO1.alloc _) hgr9 (own_blk (hO1.alloc (.cells #[.int .i64 p.k, .string p.nm, .slice An3 p.ns.length cn3, .slice Ap3 p.ps.length cp3, .bool p.many] 25)) (gv.alloc _) (by decide))
                have o2 := own_grown (hO2.alloc _) hgr9 (own_blk (hO2.alloc (.cells #[.int .i64 p.k, .string p.nm, .slice An3 p.ns.length cn3, .slice Ap3 p.ps.length cp3, .bool p.many] 25)) (gv.alloc _) (by decide))
                have kp9 := (kp.alloc _).grown hgr9 (by simp; omega)
                have gp9 := (gp.alloc _).grown hgr9 (by simp)
                have kt9 := (kt.alloc _).grown hgr9 (by simp; omega)
                have kr9 := (kr.alloc _).grown hgr9 (by simp; omega)
                have b9 := below_giv (hb.alloc hsz _) hszw (Nat.le_refl _) hgr9
                have s9 := (hS.keep hs0).away hgr9 (gv.alloc _) (by decide)
                clear hO1 hO2 kp gp kt kr hb hS hs0 hgr9 hp0 hc gv hrep hmp hltg hsz
                have q2 := kp9.cell 2 (.slice A1 k c1) rfl
                generalize S.2.2.par (sizeT p).1 (sizeT p).2 (p.k == 2) = pr at *
                obtain ⟨pl, pc, pg⟩ := pr
                simp only at hT9 g9 HK ⊢
                have hsz9 := b9.size
                have HB := Lib.hid hbd
                clear hbd
                go_wp2_with (at_builtin; refine wpList_append_own _ rfl _ _ 65 rfl w.heap.size 29 i0 (.slice none 0 0) 1 24 Try.underlying65 hi0 hz0 hz1 hz2 rfl (by decide) _ _ _ rfl (o1.alloc _) ⟨w9.heap.size, 0, none⟩ 1 1 [.slice A9 pl.length c9] rfl rfl ?c1a ?c2a ?c3a ?c4a ?c5a ?_)
                case c1a => exact World.news_of_block (cs := #[.slice A9 pl.length c9]) (t := 29) (fr := (0, 0)) (heap_new rfl)
                case c2a => simp [Value.oneCell']
                case c3a => unfold maxLen; omega
                case c4a => omega
                case c5a => simp; omega
                intro v1 w10 o1' hg10 _
                obtain ⟨A1', c1', rfl, -⟩ := Row.of_own o1'
                have o2' := own_apart (o2.alloc _) (o1.alloc _) (by decide) hg10
                have kp10 := (kp9.alloc _).grown hg10 (own_blk (o1.alloc (.cells #[.slice A9 pl.length c9] 29)) (kp9.alloc _) (by decide))
                have gp10 := (gp9.alloc _).grown hg10 (own_blk (o1.alloc (.cells #[.slice A9 pl.length c9] 29)) (gp9.alloc _) (by decide))
                have kt10 := (kt9.alloc _).grown hg10 (own_blk (o1.alloc (.cells #[.slice A9 pl.length c9] 29)) (kt9.alloc _) (by decide))
                have kr10 := (kr9.alloc _).grown hg10 (own_blk (o1.alloc (.cells #[.slice A9 pl.length c9] 29)) (kr9.alloc _) (by decide))
                have gv10 := (g9.alloc _).grown hg10 (own_blk (o1.alloc (.cells #[.slice A9 pl.length c9] 29)) (g9.alloc _) (by decide))
                have b10 := below_app b9 (Nat.le_refl _) o1 hg10
                have s10 := (s9.keep (by (repeat (first | with_reducible assumption | with_reducible exact Below.refl _ _ | (refine Below.setCell ?_ (by first | omega | (simp; done) | (simp; omega)) _) | (refine Below.drewN_ ?_ _) | (refine Below.drew ?_) | (refine Below.alloc ?_ (by first | omega | (simp; done) | (simp; omega)) _))) : Below w9.heap.size w9 (w9.alloc (.cells #[.slice A9 pl.length c9] 29)))).aside (o1.alloc (.cells #[.slice A9 pl.length c9] 29)) (by decide) hg10
                have t10 : TRow w10 52 A9 (lcs pl) := (hT9.keepB (by (repeat (first | with_reducible assumption | with_reducible exact Below.refl _ _ | (refine Below.setCell ?_ (by first | omega | (simp; done) | (simp; omega)) _) | (refine Below.drewN_ ?_ _) | (refine Below.drew ?_) | (refine Below.alloc ?_ (by first | omega | (simp; done) | (simp; omega)) _))) : Below w9.heap.size w9 (w9.alloc (.cells #[.slice A9 pl.length c9] 29)))).but hg10 (fun b cur hb _ _ => own_blk (o1.alloc (.cells #[.slice A9 pl.length c9] 29)) hb (by decide))
                clear o1 o2 kp9 gp9 kt9 kr9 b9 s9 hT9 hg10 q2 hsz9
                have f2 := kp10.free 2
                have q2 := kp10.cell 2 (.slice A1 k c1) rfl
                have q3 := kp10.cell 3 (.slice A2 k c2) rfl
                have f3 := kp10.free 3
                have kp11 := kp10.set_ 2 (.slice A1' (k + 1) c1')
                have gp11 := gp10.far (p := ⟨P, 2, none⟩) (by simp; omega) (.slice A1' (k + 1) c1')
                have kt11 := kt10.far (p := ⟨P, 2, none⟩) (by simp; omega) (.slice A1' (k + 1) c1')
                have kr11 := kr10.far (p := ⟨P, 2, none⟩) (by simp; omega) (.slice A1' (k + 1) c1')
                have gv11 := gv10.far (p := ⟨P, 2, none⟩) (by simp; omega) (.slice A1' (k + 1) c1')
                have o1s := own_set (p := ⟨P, 2, none⟩) o1' (own_blk o1' kp10 (by decide)) (.slice A1' (k + 1) c1')
                have o2s := own_set (p := ⟨P, 2, none⟩) o2' (own_blk o2' kp10 (by decide)) (.slice A1' (k + 1) c1')
                have b11 : Below w.heap.size w (w10.setCell ⟨P, 2, none⟩ (.slice A1' (k + 1) c1')) := b10.setCell (p := ⟨P, 2, none⟩) (by simp; omega) _
                have s11 := s10.away (grow_set w10 P 2 (.slice A1' (k + 1) c1')) kp10 (by decide)
                have t11 := t10.but (grow_set w10 P 2 (.slice A1' (k + 1) c1')) (fun b cur hb _ _ e => Blk.ne_ hb kp10 (by decide) (by injection e))
                have g11 : w10.heap.size = (w10.setCell ⟨P, 2, none⟩ (.slice A1' (k + 1) c1')).heap.size := by simp [World.setCell]
                clear kp10 gp10 kt10 kr10 gv10 o1' o2' b10 s10 t10
                have W11 := Lib.hid g11
                clear g11
                go_wp2_with (at_builtin; refine wpList_append_own _ rfl _ _ 48 rfl w.heap.size 4 i1 (.bool false) 1 1 Try.underlying48 hi1 hy0 hy1 hy2 rfl (by decide) _ _ _ rfl (o2s.alloc _) ⟨w10.heap.size, 0, none⟩ 1 1 [.bool pc] rfl rfl ?c1b ?c2b ?c3b ?c4b ?c5b ?_)
                case c1b => exact World.news_of_block (cs := #[.bool pc]) (t := 4) (fr := (0, 0)) (heap_new W11.out)
                case c2b => simp [Value.oneCell']
                case c3b => unfold maxLen; omega
                case c4b => omega
                case c5b => have := b11.size; simp at this ⊢; omega
                intro v2 w12 o2' hg12 _
                obtain ⟨A2', c2', rfl, -⟩ := Row.of_own o2'
                have o1' := own_apart (o1s.alloc _) (o2s.alloc (.cells #[.bool pc] 4)) (by decide) hg12
                have kp12 := (kp11.alloc _).grown hg12 (own_blk (o2s.alloc (.cells #[.bool pc] 4)) (kp11.alloc (.cells #[.bool pc] 4)) (by decide))
                have gp12 := (gp11.alloc _).grown hg12 (own_blk (o2s.alloc (.cells #[.bool pc] 4)) (gp11.alloc (.cells #[.bool pc] 4)) (by decide))
                have kt12 := (kt11.alloc _).grown hg12 (own_blk (o2s.alloc (.cells #[.bool pc] 4)) (kt11.alloc (.cells #[.bool pc] 4)) (by decide))
                have kr12 := (kr11.alloc _).grown hg12 (own_blk (o2s.alloc (.cells #[.bool pc] 4)) (kr11.alloc (.cells #[.bool pc] 4)) (by decide))
                have gv12 := (gv11.alloc _).grown hg12 (own_blk (o2s.alloc (.cells #[.bool pc] 4)) (gv11.alloc (.cells #[.bool pc] 4)) (by decide))
                have b12 := below_app b11 (Nat.le_refl _) o2s hg12
                have s12 := (s11.keep (by (repeat (first | with_reducible assumption | with_reducible exact Below.refl _ _ | (refine Below.setCell ?_ (by first | omega | (simp; done) | (simp; omega)) _) | (refine Below.drewN_ ?_ _) | (refine Below.drew ?_) | (refine Below.alloc ?_ (by first | omega | (simp; done) | (simp; omega)) _))) : Below (w10.setCell ⟨P, 2, none⟩ (.slice A1' (k + 1) c1')).heap.size (w10.setCell ⟨P, 2, none⟩ (.slice A1' (k + 1) c1')) ((w10.setCell ⟨P, 2, none⟩ (.slice A1' (k + 1) c1')).alloc (.cells #[.bool pc] 4)))).aside (o2s.alloc (.cells #[.bool pc] 4)) (by decide) hg12
                have t12 := (t11.keepB (by (repeat (first | with_reducible assumption | with_reducible exact Below.refl _ _ | (refine Below.setCell ?_ (by first | omega | (simp; done) | (simp; omega)) _) | (refine Below.drewN_ ?_ _) | (refine Below.drew ?_) | (refine Below.alloc ?_ (by first | omega | (simp; done) | (simp; omega)) _))) : Below (w10.setCell ⟨P, 2, none⟩ (.slice A1' (k + 1) c1')).heap.size (w10.setCell ⟨P, 2, none⟩ (.slice A1' (k + 1) c1')) ((w10.setCell ⟨P, 2, none⟩ (.slice A1' (k + 1) c1')).alloc (.cells #[.bool pc] 4)))).but hg12 (fun b cur hb _ _ => own_blk (o2s.alloc (.cells #[.bool pc] 4)) hb (by decide))
                clear o1s o2s kp11 gp11 kt11 kr11 gv11 b11 s11 t11 hg12 f2 q2 q3 f3 W11
                have f3 := kp12.free 3
                have q3 := kp12.cell 3 (.slice A2 k c2) (by simp)
                have FIN : PksRel T w w.heap.size w2.heap.size P m #[.int .i64 4, .string T.nm, .slice An T.ns.length cn, .slice (some ⟨b, o, none⟩) T.ps.length cp, .bool T.many] (.int .i64 ((k : Int) + 1)) (w12.setCell ⟨P, 3, none⟩ (.slice A2' (k + 1) c2')) :=
                  PksRel.mk (k + 1) S1 HS1.out (by omega) (by go_num) A1' c1' A2' c2' (vs ++ [.slice A9 pl.length c9])
                    (by have := kp12.set_ 3 (.slice A2' (k + 1) c2'); simpa using this)
                    (own_set (p := ⟨P, 3, none⟩) o1' (own_blk o1' kp12 (by decide)) _)
                    (by rw [HK.out]; have := own_set (p := ⟨P, 3, none⟩) o2' (own_blk o2' kp12 (by decide)) (.slice A2' (k + 1) c2'); simpa using this)
                    (by rw [HK.out]; exact SlOk.snoc (s12.away (grow_set w12 P 3 _) kp12 (by decide)) ⟨A9, c9, rfl, t12.but (grow_set w12 P 3 _) (fun b cur hb _ _ e => Blk.ne_ hb kp12 (by decide) (by injection e)), fun _ _ _ _ e => by cases e⟩)
                    (by rw [HK.out]; exact gv12.far (p := ⟨P, 3, none⟩) (by simp; omega) _)
                    (gp12.far (p := ⟨P, 3, none⟩) (by simp; omega) _) (kt12.far (p := ⟨P, 3, none⟩) (by simp; omega) _) (kr12.far (p := ⟨P, 3, none⟩) (by simp; omega) _) (b12.setCell (p := ⟨P, 3, none⟩) (by simp; omega) _)
                have HF := Lib.hid FIN
                clear FIN o1' o2' kp12 gp12 kt12 kr12 gv12 b12 s12 t12 HK HS1 HB
                go_wp2
                go_roundw
                case rel => exact HF.out
                case measure => (first | (simp [intOf]; done) | (simp [intOf]; omega))
              · have hi2 : ¬ (k : Int) < (m : Int) := by omega
                obtain rfl : m = k := by omega
                have hST : AbiSt w w.heap.size w2.heap.size P #[.int .i64 4, .string T.nm, .slice An T.ns.length cn, .slice (some ⟨b, o, none⟩) T.ps.length cp, .bool T.many] #[.int .i64 (abiG T).res, .int .i64 (abiG T).cnt, .slice A1 m c1, .slice A2 m c2, .slice none 0 0, .int .i64 0, .int .i64 0] (parK T.ps (gvB T) m).2.2 (.slice A1 m c1) (.slice A2 m c2) (.slice none 0 0) m 0 vs (parK T.ps (gvB T) m).1 (parK T.ps (gvB T) m).2.1 [] wr := ⟨Nat.le_refl _, hgH, hGP, kp, hO1, hO2, World.ownsRow_nil _ _ _ _, hS, gv, gp, kt, kr, hb⟩
                have hbd := parK_bd T.ps (gvB T) (gvB_bd T).1 m
                rw [(gvB_bd T).2] at hbd
                have HMM := HHM.out
                have HSS : Hid (∃ S, S = parK T.ps (gvB T) m) := ⟨_, rfl⟩
                have hp36 : (parK T.ps (gvB T) m).2.2.p ≤ 36 := by omega
                have hr4 := hbd.1
                clear hbd HMM kp hO1 hO2 hS gv gp kt kr hb hgr4
                obtain ⟨S, hS⟩ : ∃ S, parK T.ps (gvB T) m = S := ⟨_, rfl⟩
                rw [hS] at hST hp36 hr4
                have HS := Lib.hid hS
                clear hS HSS
                obtain ⟨pls, cps, r, q⟩ := S
                simp only at hST hp36 hr4 HS
                obtain ⟨w4, rfl⟩ : ∃ w4 : World, w4 = wr := ⟨_, rfl⟩
                have X := Lib.hid hST
                have q4 := hST.kt.cell 4 (.bool T.many) rfl
                have hp0 := hST.gp.cell 0 _ rfl
                have g1 := hST.gv.cell 1 (.int .i64 (q : Int)) rfl
                have fg := hST.gv.free 1
                have k6 := hST.kp.cell 6 (.int .i64 0) rfl
                have f6 := hST.kp.free 6
                have hq0 : (0 : Int) ≤ (q : Int) := by omega
                have hq1 : (q : Int) ≤ 36 := by omega
                clear hST
                obtain ⟨mny, hmny⟩ : ∃ mny, T.many = mny := ⟨_, rfl⟩
                rw [hmny] at q4
                have HMT := Lib.hid hmny
                clear hmny
                go_upto_if 116 with (fail)
                go_cut [] from 117 to 133 (fun wx => AbiSt w w.heap.size w2.heap.size P #[.int .i64 4, .string T.nm, .slice An T.ns.length cn, .slice (some ⟨b, o, none⟩) T.ps.length cp, .bool T.many] #[.int .i64 (abiG T).res, .int .i64 (abiG T).cnt, .slice A1 m c1, .slice A2 m c2, .slice none 0 0, .int .i64 0, .int .i64 ((if mny then q + q % 2 else 0 : Nat) : Int)] ⟨r, if mny then q + q % 2 else q⟩ (.slice A1 m c1) (.slice A2 m c2) (.slice none 0 0) m 0 vs pls cps [] wx)
                case first =>
                  cases mny
                  · go_wp2_with fail
                    go_meet
                    exact X.out
                  · go_wp2_with fail
                    go_region
                    all_goals
                      go_wp2_with fail
                      go_meet
                      have e : Value.int .i64 ((q : Int) + (q : Int) % 2) = .int .i64 ((q + q % 2 : Nat) : Int) := by congr 1
                      have Y := ((X.out.setG (q + q % 2) _ e).setP 6 (.int .i64 ((q : Int) + (q : Int) % 2))).drew
                      simpa using Y
                case rest =>
                  obtain ⟨qq, hqq⟩ : ∃ qq, (if mny then q + q % 2 else q) = qq := ⟨_, rfl⟩
                  obtain ⟨ex, hex⟩ : ∃ ex, (if mny then q + q % 2 else 0) = ex := ⟨_, rfl⟩
                  rw [hqq, hex] at hcut
                  have hq38 : qq ≤ 38 := by rw [← hqq]; split <;> omega
                  have HQQ := Lib.hid hqq
                  have HEX := Lib.hid hex
                  clear hqq hex X q4 hp0 g1 fg k6 f6 hq0 hq1 hp36
                  have hp0 := hcut.gp.cell 0 _ rfl
                  have X := Lib.hid hcut
                  clear hcut
                  go_wp2_with fail
                  go_loopw [18, 136] (fun _ i wr => SumRel bs (fun s wx => AbiSt w w.heap.size w2.heap.size P #[.int .i64 4, .string T.nm, .slice An T.ns.length cn, .slice (some ⟨b, o, none⟩) T.ps.length cp, .bool T.many] #[.int .i64 (abiG T).res, .int .i64 (abiG T).cnt, .slice A1 m c1, .slice A2 m c2, .slice none 0 0, .int .i64 0, .int .i64 (ex : Int)] ⟨r, qq + s⟩ (.slice A1 m c1) (.slice A2 m c2) (.slice none 0 0) m 0 vs pls cps [] wx) i wr) (fun _ i _ => bs.length - (intOf i).toNat)
                  case atStart => exact ⟨0, Nat.zero_le _, rfl, X.out⟩
                  case round =>
                    clear X hp0
                    obtain ⟨k, hk, rfl, hst⟩ := hrel
                    have X := Lib.hid hst
                    clear hst
                    by_cases hlt : k < bs.length
                    · have hgk := HBEY.out k hlt hlt
                      have hbt := bsum_take hlt
                      have hb2 := bsum_le bs HBEY.out k hk
                      have hw := bey_words hgk
                      obtain ⟨b', o', An3, cn3, Ap3, cp3, rfl, hbl', hrep, hc⟩ := (RepL.keep X.out.bb bs _ hbs).five hlt
                      have HW2 : Hid (wordsT bs[k] = ((sizeT bs[k]).1 : Int)) := hw.1
                      have hw2 := hw.2
                      have HBT := Lib.hid hbt
                      clear hgk hbt hw
                      generalize bs[k] = p at *
                      have hi3 : (k : Int) < (bs.length : Int) := by omega
                      have hk7 : (k : Int) < 7 := by omega
                      have hp0 := X.out.gp.cell 0 _ rfl
                      have ltg := X.out.gp.lt
                      have g1 := X.out.gv.cell 1 (.int .i64 ((qq + bsum (bs.take k) : Nat) : Int)) rfl
                      have fg := X.out.gv.free 1
                      have ltg2 : w2.heap.size < wr.heap.size := by omega
                      have hbX := X.out.bb
                      have hszX := hbX.size
                      generalize bsum (bs.take k) = s0 at *
                      have hwr : IntKind.i64.wrap ((qq : Int) + (s0 : Int) + ((sizeT p).1 : Int)) = (qq : Int) + (s0 : Int) + ((sizeT p).1 : Int) := IntWalk.i64_in _ (by omega)
                      go_upto_region 30 with (fail)
                      go_region_with ((go_at_call 50; ((with_reducible refine (words_any p _ _ (Rep.keep (by (repeat (first | with_reducible assumption | with_reducible exact Below.refl _ _ | (refine Below.setCell ?_ (by first | omega | (simp; done) | (simp; omega)) _) | (refine Below.drewN_ ?_ _) | (refine Below.drew ?_) | (refine Below.alloc ?_ (by first | omega | (simp; done) | (simp; omega)) _))) : Below wr.heap.size wr _) _ _ hrep) (hm.keep (by (repeat (first | with_reducible assumption | with_reducible exact Below.refl _ _ | (refine Below.setCell ?_ (by first | omega | (simp; done) | (simp; omega)) _) | (refine Below.drewN_ ?_ _) | (refine Below.drew ?_) | (refine Below.alloc ?_ (by first | omega | (simp; done) | (simp; omega)) _))) : Below w.heap.size w _))).mono ?_); rintro e w' ⟨rfl, hbw⟩; rw [HW2.out]; have hX := X.out.below (Below.trans (by (repeat (first | with_reducible assumption | with_reducible exact Below.refl _ _ | (refine Below.setCell ?_ (by first | omega | (simp; done) | (simp; omega)) _) | (refine Below.drewN_ ?_ _) | (refine Below.drew ?_) | (refine Below.alloc ?_ (by first | omega | (simp; done) | (simp; omega)) _))) : Below wr.heap.size wr _) (hbw.mono (by simp))); have c1' := hX.gv.cell 1 (.int .i64 ((qq + s0 : Nat) : Int)) rfl; have f1' := hX.gv.free 1; have c0' := hX.gp.cell 0 _ rfl)))
                      all_goals
                        have Z := Lib.hid (hX.setG (qq + (s0 + (sizeT p).1)) (.int .i64 ((qq : Int) + (s0 : Int) + ((sizeT p).1 : Int))) (by congr 1; push_cast; omega))
                        clear hX c1' f1' c0' hbw
                        go_wp2
                        go_roundw
                        case rel => exact ⟨k + 1, by omega, by go_num, by rw [HBT.out]; exact Z.out⟩
                        case measure => (first | (simp [intOf]; done) | (simp [intOf]; omega))
                    · have hi3 : ¬ (k : Int) < (bs.length : Int) := by omega
                      obtain rfl : k = bs.length := by omega
                      rw [List.take_length] at X
                      have hb2 := bsum_le bs HBEY.out bs.length (Nat.le_refl _)
                      rw [List.take_length] at hb2
                      obtain ⟨sb, hsb⟩ : ∃ sb, bsum bs = sb := ⟨_, rfl⟩
                      rw [hsb] at X hb2
                      obtain ⟨ar, har⟩ : ∃ ar, (qq + sb) + (qq + sb) % 2 = ar := ⟨_, rfl⟩
                      have HV0 : Hid (abiV T bs = ⟨(abiG T).res, (abiG T).cnt, pls, cps, if (sizeT (lastT T)).1 ≤ 2 then List.range (sizeT (lastT T)).1 else [], ar, ex⟩) := by
                        show _ = _
                        have e1 : T.ps.length - 1 = m := by have := HHM.out; omega
                        unfold abiV
                        rw [if_pos he.out]
                        simp only [abiG, e1, HS.out, HMT.out, hsb, HQQ.out, HEX.out, har]
                      have HSB := Lib.hid hsb
                      have HLS : Hid (m = pls.length) := by show _ = _; have := (parK_len T.ps (gvB T) m).1; rw [HS.out] at this; exact this.symm
                      have har2 : (ar : Int) = (qq : Int) + (sb : Int) + ((qq : Int) + (sb : Int)) % 2 := by omega
                      have HAR := Lib.hid har2
                      clear hsb har har2
                      obtain ⟨w6, rfl⟩ : ∃ w6 : World, w6 = wr := ⟨_, rfl⟩
                      have hp0 := X.out.gp.cell 0 _ rfl
                      have g1 := X.out.gv.cell 1 (.int .i64 ((qq + sb : Nat) : Int)) rfl
                      have fg := X.out.gv.free 1
                      have k5 := X.out.kp.cell 5 (.int .i64 0) rfl
                      have f5 := X.out.kp.free 5
                      have hqs0 : (0 : Int) ≤ (qq : Int) + (sb : Int) := by omega
                      have hqs1 : (qq : Int) + (sb : Int) ≤ 60 := by omega
                      go_upto_region 32 with (fail)
                      go_cut [] from 150 to 160 (fun wx => AbiSt w w.heap.size w2.heap.size P #[.int .i64 4, .string T.nm, .slice An T.ns.length cn, .slice (some ⟨b, o, none⟩) T.ps.length cp, .bool T.many] #[.int .i64 (abiG T).res, .int .i64 (abiG T).cnt, .slice A1 m c1, .slice A2 m c2, (.slice none 0 0), .int .i64 (ar : Int), .int .i64 (ex : Int)] ⟨r, qq + sb⟩ (.slice A1 m c1) (.slice A2 m c2) (.slice none 0 0) m 0 vs pls cps [] wx)
                      case first =>
                        go_region
                        all_goals
                          go_wp2_with fail
                          go_meet
                          have Y := (X.out.setP 5 (.int .i64 (ar : Int))).drew
                          rw [HAR.out] at Y ⊢
                          simpa using Y
                      case rest =>
                        clear X hp0 g1 fg k5 f5 hqs0 hqs1
                        by_cases hn2 : (sizeT (lastT T)).1 ≤ 2
                        · have hn2' : ((sizeT (lastT T)).1 : Int) ≤ 2 := by omega
                          have HV : Hid (abiV T bs = ⟨(abiG T).res, (abiG T).cnt, pls, cps, List.range (sizeT (lastT T)).1, ar, ex⟩) := by show _ = _; rw [HV0.out, if_pos hn2]
                          have X := Lib.hid hcut
                          clear hcut HV0 hn2
                          generalize (sizeT (lastT T)).1 = nr at *
                          obtain ⟨w7, rfl⟩ : ∃ w7 : World, w7 = wc := ⟨_, rfl⟩
                          go_wp2_with fail
                          go_loopw [19, 164] (fun _ i wr => ResRel nr (fun k A3 c3 wx => AbiSt w w.heap.size w2.heap.size P #[.int .i64 4, .string T.nm, .slice An T.ns.length cn, .slice (some ⟨b, o, none⟩) T.ps.length cp, .bool T.many] #[.int .i64 (abiG T).res, .int .i64 (abiG T).cnt, .slice A1 m c1, .slice A2 m c2, (.slice A3 k c3), .int .i64 (ar : Int), .int .i64 (ex : Int)] ⟨r, qq + sb⟩ (.slice A1 m c1) (.slice A2 m c2) (.slice A3 k c3) m k vs pls cps (List.range k) wx) i wr) (fun _ i _ => nr - (intOf i).toNat)
                          case atStart => exact ⟨0, Nat.zero_le _, rfl, none, 0, X.out⟩
                          case round =>
                            clear X
                            obtain ⟨k, hk, rfl, A3, c3, hst⟩ := hrel
                            by_cases hlt : k < nr
                            · have hi4 : (k : Int) < (nr : Int) := by omega
                              obtain ⟨i2, hx0, hx1, hx2, hx3⟩ := info_parts info_int
                              have X := Lib.hid hst
                              have q4 := hst.kp.cell 4 (.slice A3 k c3) rfl
                              clear hst
                              have hszr := X.out.size
                              go_wp2_with (at_builtin; refine wpList_append_own _ rfl _ _ 35 rfl w.heap.size 3 i2 (.int .i64 0) 1 8 Try.underlying35 hx0 hx1 hx2 hx3 rfl (by decide) _ _ _ rfl (X.out.o3.alloc _) ⟨wr.heap.size, 0, none⟩ 1 1 [.int .i64 (k : Int)] rfl rfl ?c1d ?c2d ?c3d ?c4d ?c5d ?_)
                              case c1d => exact World.news_of_block (cs := #[.int .i64 (k : Int)]) (t := 3) (fr := (0, 0)) (heap_new rfl)
                              case c2d => simp [Value.oneCell']
                              case c3d => unfold maxLen; omega
                              case c4d => omega
                              case c5d => simp; omega
                              intro v3 w8 o3' hg8 _
                              obtain ⟨A3', c3', rfl, -⟩ := Row.of_own o3'
                              have Y := X.out.app (.cells #[.int .i64 (k : Int)] 3) (ns' := List.range (k + 1)) hg8 (by rw [List.range_succ, List.map_append]; exact o3')
                              have q4' := Y.kp.cell 4 (.slice A3 k c3) rfl
                              have f4 := Y.kp.free 4
                              have Z := Lib.hid (Y.setP 4 (.slice A3' (k + 1) c3'))
                              clear Y o3' hg8 X q4 hszr
                              go_wp2
                              go_roundw
                              case rel => exact ⟨k + 1, by omega, by go_num, A3', c3', Z.out⟩
                              case measure => (first | (simp [intOf]; done) | (simp [intOf]; omega))
                            · have hi4 : ¬ (k : Int) < (nr : Int) := by omega
                              obtain rfl : k = nr := by omega
                              have X := Lib.hid hst
                              clear hst 
                              have j0 := X.out.kp.cell 0 (.int .i64 (abiG T).res) rfl
                              have j1 := X.out.kp.cell 1 (.int .i64 (abiG T).cnt) rfl
                              have j2 := X.out.kp.cell 2 (.slice A1 m c1) rfl
                              have j3 := X.out.kp.cell 3 (.slice A2 m c2) rfl
                              have j4 := X.out.kp.cell 4 (.slice A3 k c3) rfl
                              have j5 := X.out.kp.cell 5 (.int .i64 (ar : Int)) rfl
                              have j6 := X.out.kp.cell 6 (.int .i64 (ex : Int)) rfl
                              have f := fun i => X.out.kr.free i
                              have d0 := X.out.kr.cell 0 (.int .i64 0) rfl
                              have d1 := X.out.kr.cell 1 (.int .i64 0) rfl
                              have d2 := X.out.kr.cell 2 (.slice none 0 0) rfl
                              have d3 := X.out.kr.cell 3 (.slice none 0 0) rfl
                              have d4 := X.out.kr.cell 4 (.slice none 0 0) rfl
                              have d5 := X.out.kr.cell 5 (.int .i64 0) rfl
                              have d6 := X.out.kr.cell 6 (.int .i64 0) rfl
                              have k2 := Lib.hid (X.out.kr.set7 (.int .i64 (abiG T).res) (.int .i64 (abiG T).cnt) (.slice A1 m c1) (.slice A2 m c2) (.slice A3 k c3) (.int .i64 (ar : Int)) (.int .i64 (ex : Int)))
                              have HO : Hid _ := Lib.hid (X.out.out HLS.out)
                              go_wp2
                              exact bodyPost_ret (results_places (by kernel_rfl) k2.out rfl rfl) rfl ⟨_, by rw [he.out]; rfl, by rw [HV.out]; exact HO.out.1, HO.out.2⟩
                        · have hn2' : ¬ ((sizeT (lastT T)).1 : Int) ≤ 2 := by omega
                          have HV : Hid (abiV T bs = ⟨(abiG T).res, (abiG T).cnt, pls, cps, [], ar, ex⟩) := by show _ = _; rw [HV0.out, if_neg hn2]
                          obtain ⟨w7, rfl⟩ : ∃ w7 : World, w7 = wc := ⟨_, rfl⟩
                          clear hn2 HV0
                          have X := Lib.hid hcut
                          clear hcut 
                          have j0 := X.out.kp.cell 0 (.int .i64 (abiG T).res) rfl
                          have j1 := X.out.kp.cell 1 (.int .i64 (abiG T).cnt) rfl
                          have j2 := X.out.kp.cell 2 (.slice A1 m c1) rfl
                          have j3 := X.out.kp.cell 3 (.slice A2 m c2) rfl
                          have j4 := X.out.kp.cell 4 (.slice none 0 0) rfl
                          have j5 := X.out.kp.cell 5 (.int .i64 (ar : Int)) rfl
                          have j6 := X.out.kp.cell 6 (.int .i64 (ex : Int)) rfl
                          have f := fun i => X.out.kr.free i
                          have d0 := X.out.kr.cell 0 (.int .i64 0) rfl
                          have d1 := X.out.kr.cell 1 (.int .i64 0) rfl
                          have d2 := X.out.kr.cell 2 (.slice none 0 0) rfl
                          have d3 := X.out.kr.cell 3 (.slice none 0 0) rfl
                          have d4 := X.out.kr.cell 4 (.slice none 0 0) rfl
                          have d5 := X.out.kr.cell 5 (.int .i64 0) rfl
                          have d6 := X.out.kr.cell 6 (.int .i64 0) rfl
                          have k2 := Lib.hid (X.out.kr.set7 (.int .i64 (abiG T).res) (.int .i64 (abiG T).cnt) (.slice A1 m c1) (.slice A2 m c2) (.slice none 0 0) (.int .i64 (ar : Int)) (.int .i64 (ex : Int)))
                          have HO : Hid _ := Lib.hid (X.out.out HLS.out)
                          go_wp2
                          exact bodyPost_ret (results_places (by kernel_rfl) k2.out rfl rfl) rfl ⟨_, by rw [he.out]; rfl, by rw [HV.out]; exact HO.out.1, HO.out.2⟩
end Go.Proofs.Ytkkjkbljgaipcaa
