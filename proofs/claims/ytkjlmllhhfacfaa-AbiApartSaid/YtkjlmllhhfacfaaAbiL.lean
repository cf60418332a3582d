/- The walk of the law AbiTells. -/
import Derived.Test.YtkjlmllhhfacfaaAbiQ
import Derived.Test.YtkjlmllhhfacfaaAbiG
import Derived.Test.YtkjlmllhhfacfaaTypM
namespace Go.Proofs.Ytkjlmllhhfacfaa
open Go.RowKit
set_option linter.unusedVariables false
set_option linter.unusedSimpArgs false
set_option maxRecDepth 100000
set_option maxHeartbeats 4000000
theorem abiP_any (T : Ty) (cs : List Value) (bs : List Ty) (Ab : Option Addr) (cb : Nat) (w : World) (hr : Rep w T cs) (hbs : RepL w bs Ab) (hm : ML w) : Calls Try.prog 20 #[.agg cs.toArray, .slice Ab bs.length cb] w (PlOut T bs w) := by
  by_cases h4 : T.k = 4
  · rcases hmy : may T with _ | _
    · exact abiP_may T cs bs Ab cb w hr hm h4 hmy
    · by_cases hx : 6 < bs.length ∨ (0 < bs.length ∧ T.many = false)
      · exact abiP_range T cs bs Ab cb w hr hm h4 hmy hx
      · exact abiP_go T cs bs Ab cb w hr hm h4 hmy hbs (by omega) (fun h => by
          rcases h' : T.many with _ | _
          · exact absurd (.inr ⟨h, h'⟩) hx
          · rfl)
  · exact abiP_kind T cs bs Ab cb w hr h4
theorem abiR_any (T : Ty) (cs : List Value) (bs : List Ty) (Ab : Option Addr) (cb : Nat) (w : World) (hr : Rep w T cs) (hbs : RepL w bs Ab) : Calls Try.prog 21 #[.agg cs.toArray, .slice Ab bs.length cb] w (PlOut T bs w) := by
  by_cases h4 : T.k = 4
  · rcases hmy : may T with _ | _
    · exact abiR_may T cs bs Ab cb w hr h4 hmy
    · by_cases hx : 6 < bs.length ∨ (0 < bs.length ∧ T.many = false)
      · exact abiR_range T cs bs Ab cb w hr h4 hmy hx
      · exact abiR_go T cs bs Ab cb w hr h4 hmy hbs (by omega) (fun h => by
          rcases h' : T.many with _ | _
          · exact absurd (.inr ⟨h, h'⟩) hx
          · rfl)
  · exact abiR_kind T cs bs Ab cb w hr h4
theorem parK_rows (ts : List Ty) (g : Gv) (h : g.r ≤ 4) : ∀ k, ∀ l ∈ (parK ts g k).1, l.length ≤ 4
  | 0 => fun l hl => by cases hl
  | k + 1 => fun l hl => by
    have ih := parK_rows ts g h k
    have hb := (parK_p ts g h k).1
    simp only [parK] at hl
    rcases List.mem_append.1 hl with hl | hl
    · exact ih l hl
    · rw [List.mem_singleton] at hl
      subst hl
      exact (par_bd _ hb _ _ _).2.2.1
theorem abiV_len (T : Ty) (bs : List Ty) : (abiV T bs).pars.length ≤ 7 ∧ (abiV T bs).cops.length = (abiV T bs).pars.length ∧ (abiV T bs).ress.length ≤ 2 ∧ ∀ l ∈ (abiV T bs).pars, l.length ≤ 4 := by
  unfold abiV
  split
  · rename_i h
    have hmy : may T = true := by
      rcases hm : may T with _ | _
      · unfold abiE at h; rw [if_pos (.inr hm)] at h; cases h
      · rfl
    have h7 := may_len hmy
    have hl := parK_len T.ps (gvB T) (T.ps.length - 1)
    simp only [abiG]
    refine ⟨by omega, by omega, ?_, parK_rows _ _ (gvB_p T).1 _⟩
    split <;> simp
    omega
  · simp [Plc.zero]
theorem ne_locs (a : Bool) (b : Int) (w : World) : (binOp .neq 45 (.agg #[.bool a, .int .i64 b]) (.agg #[.bool a, .int .i64 b])).run Try.prog w = .ok (.bool false) w := by
  rw [run_neq_struct]
  simp [go_sem, Try.underlying45, Op.eqFields, Program.fieldsOf]
def LocsRel (l : List Pl) (w : World) (i : Value) (wr : World) : Prop := ∃ k : Nat, k ≤ l.length ∧ i = .int .i64 k ∧ ∃ n, wr = w.drewN n
def QOut (b : Bool) (w : World) (e : Ending) (w' : World) : Prop := e = .returned (.bool b) ∧ ∃ n, w' = w.drewN n
theorem locsSame_any (A A' : Option Addr) (c c' : Nat) (l : List Pl) (w : World) (hr : Row w A (lcs l)) (hr' : Row w A' (lcs l)) (hn : l.length ≤ 100) :
    Calls Try.prog 22 #[.slice A l.length c, .slice A' l.length c'] w (QOut true w) := by
  go_enter Try.func22, Try.ntmps22
  go_wp2
  go_loopw [5] (fun i wr => LocsRel l w i wr) (fun i _ => l.length - (intOf i).toNat)
  case atStart => exact ⟨0, Nat.zero_le _, rfl, 0, rfl⟩
  case round =>
    obtain ⟨k, hk, rfl, nd, rfl⟩ := hrel
    by_cases hlt : k < l.length
    · obtain ⟨b, o, rfl, hbl, c0, c1⟩ := lcs_at hr hlt
      obtain ⟨b', o', rfl, hbl', c0', c1'⟩ := lcs_at hr' hlt
      have hi : (k : Int) < (l.length : Int) := by omega
      have hi0 : (0 : Int) ≤ (k : Int) := by omega
      have hk6 : (k : Int) < 100 := by omega
      generalize l[k] = x at *
      have t := ne_locs x.s x.n
      go_wp2_with fail
      go_quiet (fail)
      go_wp2
      go_roundw
      case rel => exact ⟨k + 1, by omega, by go_num, _, rfl⟩
      case measure => (first | (simp [intOf]; done) | (simp [intOf]; omega))
    · have hi : ¬ (k : Int) < (l.length : Int) := by omega
      go_wp2
      go_ret
      exact ⟨rfl, nd, rfl⟩
theorem row_at {w : World} {A : Option Addr} {xs : List Value} (h : Row w A xs) {k : Nat} {v : Value} (hk : xs[k]? = some v) : ∃ b o, A = some ⟨b, o, none⟩ ∧ b < w.heap.size ∧ w.cell? ⟨b, o + k, none⟩ = some v := by
  obtain ⟨b, o, hA, hl, hc⟩ := h.at_ (fun e => by rw [e] at hk; cases hk)
  exact ⟨b, o, hA, hl, hc k v hk⟩
def AtRel (n : Nat) (w0 w : World) (i : Value) (wr : World) : Prop := ∃ k : Nat, k ≤ n ∧ i = .int .i64 k ∧ Below w.heap.size w wr ∧ Below w0.heap.size w0 wr
theorem tellsA_any (T : Ty) (cs : List Value) (bs : List Ty) (Ab : Option Addr) (cb : Nat) (w : World) (hr : Rep w T cs) (hbs : RepL w bs Ab) (hm : ML w) : Calls Try.prog 5 #[.agg cs.toArray, .slice Ab bs.length cb] w fun e w' => e = .returned (.bool true) ∧ Below w.heap.size w w' := by
  obtain ⟨V, hV⟩ : ∃ V, abiV T bs = V := ⟨_, rfl⟩
  obtain ⟨E, hE⟩ : ∃ E, abiE T bs = E := ⟨_, rfl⟩
  have hlen := abiV_len T bs
  rw [hV] at hlen
  have HV := Lib.hid hV
  have HE := Lib.hid hE
  clear hV hE
  obtain ⟨hl7, hlc, hl2, hl4⟩ := hlen
  have HLC := Lib.hid hlc
  clear hlc
  have hr0 := hr
  obtain ⟨An, cn, Ap, cp, rfl, hN, hP⟩ := hr.five
  have HR := Lib.hid (fun (W : World) (h : Below w.heap.size w W) => Rep.keep h _ _ hr0)
  have HB := Lib.hid (fun (W : World) (h : Below w.heap.size w W) => RepL.keep h _ _ hbs)
  have HM := Lib.hid (fun (W : World) (h : Below w.heap.size w W) => hm.keep h)
  clear hr hr0 hbs hm hN hP
  have b0 : Below w.heap.size w (w.alloc (.cells #[.int .i64 T.k, .string T.nm, .slice An T.ns.length cn, .slice Ap T.ps.length cp, .bool T.many] 25)) := by (repeat (first | with_reducible assumption | with_reducible exact Below.refl _ _ | (refine Below.setCell ?_ (by first | omega | (simp; done) | (simp; omega)) _) | (refine Below.drewN_ ?_ _) | (refine Below.drew ?_) | (refine Below.alloc ?_ (by first | omega | (simp; done) | (simp; omega)) _)))
  have kt := Blk.new_ w 25 #[.int .i64 T.k, .string T.nm, .slice An T.ns.length cn, .slice Ap T.ps.length cp, .bool T.many]
  have HC := Lib.hid (abiP_any T _ bs Ab cb _ (HR.out _ b0) (HB.out _ b0) (HM.out _ b0))
  have b0H := Lib.hid b0
  clear b0
  go_enter Try.func5, Try.ntmps5
  go_wp2_with fail
  ((with_reducible refine (HC.out).mono ?_); rintro e w1 ⟨cs1, rfl, hp1, hb1⟩)
  rw [HE.out]
  rw [HV.out] at hp1
  have b1 := b0H.out.trans (hb1.mono b0H.out.size)
  have kt1 := kt.below hb1
  obtain ⟨A1, c1, A2, c2, A3, c3, vs, rfl, r1, sl, r2, r3⟩ := hp1
  have X2 : Below w1.heap.size w1 (w1.alloc (.cells #[.int .i64 V.res, .int .i64 V.cnt, .slice A1 V.pars.length c1, .slice A2 V.cops.length c2, .slice A3 V.ress.length c3, .int .i64 (V.area : Int), .int .i64 (V.extra : Int)] 37)) := by (repeat (first | with_reducible assumption | with_reducible exact Below.refl _ _ | (refine Below.setCell ?_ (by first | omega | (simp; done) | (simp; omega)) _) | (refine Below.drewN_ ?_ _) | (refine Below.drew ?_) | (refine Below.alloc ?_ (by first | omega | (simp; done) | (simp; omega)) _)))
  replace r1 := r1.keep X2
  replace r2 := r2.keep X2
  replace r3 := r3.keep X2
  replace sl := sl.keep X2
  have kt2 := kt1.below X2
  have kp := Blk.new_ w1 37 #[.int .i64 V.res, .int .i64 V.cnt, .slice A1 V.pars.length c1, .slice A2 V.cops.length c2, .slice A3 V.ress.length c3, .int .i64 (V.area : Int), .int .i64 (V.extra : Int)]
  have b2 := b1.trans (X2.mono b1.size)
  have t0 := kt2.cell 0 (.int .i64 T.k) rfl
  have t1 := kt2.cell 1 (.string T.nm) rfl
  have t2 := kt2.cell 2 (.slice An T.ns.length cn) rfl
  have t3 := kt2.cell 3 (.slice Ap T.ps.length cp) rfl
  have t4 := kt2.cell 4 (.bool T.many) rfl
  have hlt := kt1.lt
  have HC2 := Lib.hid (abiR_any T _ bs Ab cb _ (HR.out _ b2) (HB.out _ b2))
  have tt0 := kt1.cell 0 (.int .i64 T.k) rfl
  have tt1 := kt1.cell 1 (.string T.nm) rfl
  have tt2 := kt1.cell 2 (.slice An T.ns.length cn) rfl
  have tt3 := kt1.cell 3 (.slice Ap T.ps.length cp) rfl
  have tt4 := kt1.cell 4 (.bool T.many) rfl
  clear HC hb1 kt X2 kt1 b1
  go_wp2_with fail
  ((with_reducible refine (HC2.out).mono ?_); rintro e w3 ⟨cs3, rfl, hp3, hb3⟩)
  rw [HE.out]
  rw [HV.out] at hp3
  obtain ⟨B1, d1, B2, d2, B3, d3, us, rfl, s1, sl', s2, s3⟩ := hp3
  have X4 : Below w3.heap.size w3 (w3.alloc (.cells #[.int .i64 V.res, .int .i64 V.cnt, .slice B1 V.pars.length d1, .slice B2 V.cops.length d2, .slice B3 V.ress.length d3, .int .i64 (V.area : Int), .int .i64 (V.extra : Int)] 37)) := by (repeat (first | with_reducible assumption | with_reducible exact Below.refl _ _ | (refine Below.setCell ?_ (by first | omega | (simp; done) | (simp; omega)) _) | (refine Below.drewN_ ?_ _) | (refine Below.drew ?_) | (refine Below.alloc ?_ (by first | omega | (simp; done) | (simp; omega)) _)))
  have Y := hb3.trans (X4.mono hb3.size)
  replace r1 := r1.keep Y
  replace r2 := r2.keep Y
  replace r3 := r3.keep Y
  replace sl := sl.keep Y
  replace s1 := s1.keep X4
  replace s2 := s2.keep X4
  replace s3 := s3.keep X4
  replace sl' := sl'.keep X4
  have kp3 := kp.below hb3
  have kp4 := kp.below Y
  have kq := Blk.new_ w3 37 #[.int .i64 V.res, .int .i64 V.cnt, .slice B1 V.pars.length d1, .slice B2 V.cops.length d2, .slice B3 V.ress.length d3, .int .i64 (V.area : Int), .int .i64 (V.extra : Int)]
  have b4 := b2.trans (Y.mono b2.size)
  have hltp := kp3.lt
  have x0 := kp3.cell 0 (.int .i64 V.res) rfl
  have x1 := kp3.cell 1 (.int .i64 V.cnt) rfl
  have x2 := kp3.cell 2 (.slice A1 V.pars.length c1) rfl
  have x3 := kp3.cell 3 (.slice A2 V.cops.length c2) rfl
  have x4 := kp3.cell 4 (.slice A3 V.ress.length c3) rfl
  have x5 := kp3.cell 5 (.int .i64 (V.area : Int)) rfl
  have x6 := kp3.cell 6 (.int .i64 (V.extra : Int)) rfl
  have e0 : (E != E) = false := by simp
  have e1 : (V.res != V.res) = false := by simp
  have e2 : (V.cnt != V.cnt) = false := by simp
  have e3 : ((V.area : Int) != (V.area : Int)) = false := by simp
  have e4 : ((V.extra : Int) != (V.extra : Int)) = false := by simp
  have e5 : ((V.pars.length : Int) != (V.pars.length : Int)) = false := by simp
  have e6 : ((V.cops.length : Int) != (V.cops.length : Int)) = false := by simp
  have HI := Lib.hid (intsSame_any A3 B3 c3 d3 V.ress _ r3 s3 (by omega))
  clear t0 t1 t2 t3 t4 tt0 tt1 tt2 tt3 tt4 HC2 hb3 Y X4 kt2 b2 kp r3 s3 hlt
  go_wp2_with fail
  ((with_reducible refine (HI.out).mono ?_); rintro e w5 ⟨rfl, hb5⟩)
  have b5 := b4.trans (hb5.mono b4.size)
  replace r1 := r1.keep hb5
  replace r2 := r2.keep hb5
  replace sl := sl.keep hb5
  replace s1 := s1.keep hb5
  replace s2 := s2.keep hb5
  replace sl' := sl'.keep hb5
  have kp5 := kp4.below hb5
  have kq5 := kq.below hb5
  replace x2 := kp5.cell 2 (.slice A1 V.pars.length c1) rfl
  replace x3 := kp5.cell 3 (.slice A2 V.cops.length c2) rfl
  have y2 := kq5.cell 2 (.slice B1 V.pars.length d1) rfl
  have y3 := kq5.cell 3 (.slice B2 V.cops.length d2) rfl
  have hpl := kp5.lt
  have hql := kq5.lt
  clear HI hb5 b4 kp4 kq kp3 hltp x0 x1 x4 x5 x6 e0 e1 e2 e3 e4
  have e7 : (V.pars.length != V.pars.length) = false := by simp
  have e8 : (V.cops.length != V.cops.length) = false := by simp
  go_wp2_with fail
  go_loopw [9] (fun i wr => AtRel V.pars.length w w5 i wr) (fun i _ => V.pars.length - (intOf i).toNat)
  case atStart => exact ⟨0, Nat.zero_le _, rfl, Below.refl _ _, b5⟩
  case round =>
    clear x2 x3 y2 y3 e5 e6 e7 e8 b5
    obtain ⟨k, hk, rfl, hb, hbw⟩ := hrel
    have x2 := (kp5.below hb).cell 2 (.slice A1 V.pars.length c1) rfl
    have x3 := (kp5.below hb).cell 3 (.slice A2 V.cops.length c2) rfl
    have y2 := (kq5.below hb).cell 2 (.slice B1 V.pars.length d1) rfl
    have y3 := (kq5.below hb).cell 3 (.slice B2 V.cops.length d2) rfl
    by_cases hlt : k < V.pars.length
    · have hi : (k : Int) < (V.pars.length : Int) := by omega
      have hi0 : (0 : Int) ≤ (k : Int) := by omega
      have hk7 : (k : Int) < 7 := by omega
      have hci : (k : Int) < (V.cops.length : Int) := by have := HLC.out; omega
      obtain ⟨P1, q1, hv1, rl⟩ := (sl.keep hb).at_ k hlt
      obtain ⟨P2, q2, hv2, rl'⟩ := (sl'.keep hb).at_ k hlt
      obtain ⟨ba, oa, rfl, hba, ca⟩ := row_at (r1.keep hb) hv1
      obtain ⟨bb, ob, rfl, hbb, cb1⟩ := row_at (s1.keep hb) hv2
      obtain ⟨cop, hck⟩ : ∃ cop, (V.cops.map Value.bool)[k]? = some (.bool cop) := ⟨V.cops[k]'(by have := HLC.out; omega), by rw [List.getElem?_map, List.getElem?_eq_getElem (by have := HLC.out; omega)]; rfl⟩
      obtain ⟨bc, oc, rfl, hbc, cc⟩ := row_at (r2.keep hb) hck
      obtain ⟨bd, od, rfl, hbd, cd⟩ := row_at (s2.keep hb) hck
      have hl4 := hl4 _ (List.getElem_mem hlt)
      generalize V.pars[k] = pl at *
      have HL := Lib.hid (fun n => locsSame_any P1 P2 q1 q2 pl (wr.drewN n) (rl.keep (Below.drewN_ (Below.refl _ _) n)) (rl'.keep (Below.drewN_ (Below.refl _ _) n)) (by omega))
      have e9 : (cop != cop) = false := by simp
      clear rl rl' hv1 hv2 hck
      go_wp2_with fail
      go_quiet ((go_at_call 22; exact Calls.quiet_of (HL.out _)))
      go_wp2
      go_roundw
      case rel => exact ⟨k + 1, by omega, by go_num, Below.drewN_ hb _, Below.drewN_ hbw _⟩
      case measure => (first | (simp [intOf]; done) | (simp [intOf]; omega))
    · have hi : ¬ (k : Int) < (V.pars.length : Int) := by omega
      go_wp2
      go_ret
      exact ⟨rfl, hbw⟩
end Go.Proofs.Ytkjlmllhhfacfaa
