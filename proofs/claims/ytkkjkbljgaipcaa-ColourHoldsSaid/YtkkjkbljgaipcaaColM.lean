/- ref13.Holds, the law. -/
import Derived.Test.YtkkjkbljgaipcaaColL
import Derived.BigQuiet
import Derived.Test.YtkkjkbljgaipcaaOrdI
/- The walk of ref13.Holds, at places that may be. -/
namespace Go.Proofs.Ytkkjkbljgaipcaa
open Go.RowKit
set_option linter.unusedVariables false
set_option linter.unusedSimpArgs false
set_option maxRecDepth 100000
set_option maxHeartbeats 16000000
/-- what Holds asks, plain -/
structure HoldsP (code : List Or) (ls : List (Bool × Int)) (regs : Nat) : Prop where
  len : ls.length = regs
  pos : ∀ r (h : r < ls.length), 0 ≤ ls[r].2 ∧ (ls[r].1 = false → ls[r].2 ≤ 11) ∧ (ls[r].1 = true → ls[r].2 < (regs : Int))
  zero : ∀ r q (h : r < ls.length) (h' : q < ls.length), q < r → liveB code 0 (r : Int) = true → liveB code 0 (q : Int) = true → ls[r] ≠ ls[q]
  def_ : ∀ i (hi : i < code.length) a q (h : a < ls.length) (h' : q < ls.length), (a : Int) ∈ code[i].d → q ≠ a → (behB code (leadsR code[i] i) (q : Int) = true ∨ (q : Int) ∈ code[i].d) → ls[a] ≠ ls[q]
  call : ∀ i (hi : i < code.length) q (h : q < ls.length), (code[i].op = 7 ∨ code[i].op = 8) → behB code (leadsR code[i] i) (q : Int) = true → (q : Int) ∉ code[i].d → ls[q].1 = false → 4 ≤ ls[q].2
theorem beh_iff (code : List Or) (i : Nat) (hi : i < code.length) {regs : Int} (hw : WfC code regs) (q : Int) (h : behB code (leadsR code[i] i) q = true) : Beh code i q := by
  rw [behB, List.any_eq_true] at h
  obtain ⟨x, hx, hl⟩ := h
  have hx' := (leadsR_mem _ _ _).1 hx
  obtain ⟨h0, h1⟩ := hw.leads i hi x hx'
  exact ⟨hi, x.toNat, by rw [show ((x.toNat : Nat) : Int) = x by omega]; exact hx', hl⟩
theorem LocsOk.ne {G : Nat → Int → Bool} {lg : Int → Bool} {ls : List (Bool × Int)} {n : Nat} (h : LocsOk G lg ls n) (hn : ls.length = n) {a q : Nat} (ha : a < ls.length) (hq : q < ls.length) (hne : a ≠ q) (hs : Sym G a q) : ls[a] ≠ ls[q] := by
  rcases hs with hs | ⟨h1, h2⟩
  · exact absurd hs hne
  · rcases Nat.lt_or_gt_of_ne hne with h3 | h3
    · exact fun e => (h q hq (by omega)).2.2.2 a h3 h2 e.symm
    · exact (h a ha (by omega)).2.2.2 q h3 h1
theorem HoldsP.of {code : List Or} {ls : List (Bool × Int)} {regs : Nat} {G : Nat → Int → Bool} {lg : Int → Bool} (hw : WfC code (regs : Int)) (hl : ls.length = regs) (h : LocsOk G lg ls regs) (h0 : Req0 code G) (hk : ReqK code code.length G lg) : HoldsP code ls regs where
  len := hl
  pos r hr := by
    obtain ⟨a1, a2, a3, -⟩ := h r hr (by omega)
    exact ⟨a1, fun e => (a2 e).1, fun e => by have := a3 e; omega⟩
  zero r q hr hq hqr h1 h2 := h.ne hl hr hq (by omega) (h0 r q h1 h2)
  def_ i hi a q ha hq hm hne hb := h.ne hl ha hq (Ne.symm hne) ((hk i hi hi).1 a q hm (hb.imp (fun hb => beh_iff code i hi hw _ hb) id))
  call i hi q hq ho hb hm hf := by
    have := (hk i hi hi).2 (by rcases ho with ho | ho <;> simp [ho]) (q : Int) (beh_iff code i hi hw _ hb) hm
    exact ((h q hq (by omega)).2.1 hf).2 this
def H1 (regs H : Nat) (bo : Array Value) (w : World) (i : Value) (wx : World) : Prop := ∃ k : Nat, k ≤ regs ∧ i = .int .i64 (k : Int) ∧ Blk wx H 28 bo ∧ Below H w wx
theorem eq_pair_no {p q : Bool × Int} (h : p ≠ q) (w : World) : (binOp .eql 52 (.agg #[.bool p.1, .int .i64 p.2]) (.agg #[.bool q.1, .int .i64 q.2])).run Try.prog w = .ok (.bool false) w := by
  rw [run_eql_struct]
  by_cases h1 : p.1 = q.1
  · have h2 : ¬ p.2 = q.2 := fun h2 => h (Prod.ext h1 h2)
    simp [go_sem, h1, h2, Try.underlying52, Op.eqFields, Program.fieldsOf]
  · simp [go_sem, h1, Try.underlying52, Op.eqFields, Program.fieldsOf]
structure Hst (code : List Or) (regs H : Nat) (bo : Array Value) (I : Nat) (bs : List Nat) (w wx : World) : Prop where
  body : Blk wx H 28 bo
  rows : Blk wx I 48 (bs.map fun m => Value.slice (some ⟨m, 0, none⟩) regs regs).toArray
  live : ∀ i (h : i < bs.length), Blk wx bs[i] 4 (bits regs (liveB code i))
  below : Below H w wx
theorem Hst.keep {code : List Or} {regs H : Nat} {bo : Array Value} {I : Nat} {bs : List Nat} {w wx w' : World} (h : Hst code regs H bo I bs w wx) (hb : Below wx.heap.size wx w') : Hst code regs H bo I bs w w' :=
  ⟨h.body.below hb, h.rows.below hb, fun i hi => (h.live i hi).below hb, h.below.trans (hb.mono (Nat.le_of_lt h.body.lt))⟩
theorem Hst.drewN {code : List Or} {regs H : Nat} {bo : Array Value} {I : Nat} {bs : List Nat} {w wx : World} (h : Hst code regs H bo I bs w wx) (n : Nat) : Hst code regs H bo I bs w (wx.drewN n) := h.keep (Below.drewN_ (Below.refl _ _) n)
def H2 (lim : Nat) (st : World → Prop) (i : Value) (wx : World) : Prop := ∃ r : Nat, r ≤ lim ∧ i = .int .i64 (r : Int) ∧ st wx
theorem holds_any (b : Bo) (cs : List Value) (w : World) (O regs : Nat) (ls : List (Bool × Int)) (hr : RepB w b cs) (hbo : bodyB b = true) (hregs : b.regs = (regs : Int)) (hO : Blk w O 52 (locCells ls).toArray) (hH : HoldsP b.code ls regs) :
    Calls Try.prog 8 #[.agg cs.toArray, .slice (some ⟨O, 0, none⟩) regs regs] w (BehOut true w) := by
  have hlen := code_le hbo
  have HWF := Lib.hid (wf_of hbo)
  have HR := Lib.hid hr
  have HBO := Lib.hid hbo
  have hr8 : regs ≤ 8000 := by have := (head_parts (head_of hbo)).2.2.2.2.1; omega
  have hpos := (head_parts (head_of hbo)).2.2.2.2.2.1
  obtain ⟨An, cn, Ap, cp, A, c, rfl, -, -, hO', -⟩ := hr.nine
  obtain ⟨bb, oo, -, -, -, -, -, -, -, -, rfl, -⟩ := hO'.ten (k := 0) (by omega)
  have HO := Lib.hid hO'
  have HLV := Lib.hid (fun W (hW : Below w.heap.size w W) => liveR_any b _ W (HR.out.keep hW) hbo)
  have HBE := Lib.hid (fun (W : World) (I i r : Nat) (bs : List Nat) (hW : Below w.heap.size w W) hi hrr hbl hI hB => behind_any b _ W I regs i r bs (HR.out.keep hW) hbo hregs hi hrr hbl hI hB)
  rw [hregs] at HLV HBE ⊢
  have HRG := Lib.hid hregs
  have HP := Lib.hid hH
  have HLS := Lib.hid hO
  have X : Below w.heap.size w (w.alloc (.cells #[.string b.nm, .bool b.static, .int .i64 b.ty.k, .string b.ty.nm, .slice An b.ty.ns.length cn, .slice Ap b.ty.ps.length cp, .bool b.ty.many, .int .i64 (regs : Int), .slice (some ⟨bb, oo, none⟩) b.code.length c] 28)) := by (repeat (first | with_reducible assumption | with_reducible exact Below.refl _ _ | (refine Below.setCell ?_ (by first | omega | (simp; done) | (simp; omega)) _) | (refine Below.drewN_ ?_ _) | (refine Below.drew ?_) | (refine Below.alloc ?_ (by first | omega | (simp; done) | (simp; omega)) _)))
  have kb := Blk.new_ w 28 #[.string b.nm, .bool b.static, .int .i64 b.ty.k, .string b.ty.nm, .slice An b.ty.ns.length cn, .slice Ap b.ty.ps.length cp, .bool b.ty.many, .int .i64 (regs : Int), .slice (some ⟨bb, oo, none⟩) b.code.length c]
  have HX := Lib.hid X
  have HKB := Lib.hid kb
  have hOl := hO.lt
  clear hr hO' hbo hregs hH hO X kb HR
  go_enter Try.func8, Try.ntmps8
  go_upto_region 3 with (fail)
  generalize hW3 : w.alloc (.cells #[.string b.nm, .bool b.static, .int .i64 b.ty.k, .string b.ty.nm, .slice An b.ty.ns.length cn, .slice Ap b.ty.ps.length cp, .bool b.ty.many, .int .i64 (regs : Int), .slice (some ⟨bb, oo, none⟩) b.code.length c] 28) = w3 at *
  clear hW3
  go_wp2
  go_loopw [5] (fun i wx => H1 regs w.heap.size #[.string b.nm, .bool b.static, .int .i64 b.ty.k, .string b.ty.nm, .slice An b.ty.ns.length cn, .slice Ap b.ty.ps.length cp, .bool b.ty.many, .int .i64 (regs : Int), .slice (some ⟨bb, oo, none⟩) b.code.length c] w i wx) (fun i _ => regs - (intOf i).toNat)
  case atStart => exact ⟨0, Nat.zero_le _, rfl, HKB.out, HX.out⟩
  case round =>
    clear HKB HX
    obtain ⟨k, hk, rfl, hbo, hb⟩ := hrel
    by_cases hlt : k < regs
    · have hkl : k < ls.length := by have := HP.out.len; omega
      obtain ⟨hp0, hp1, hp2⟩ := HP.out.pos k hkl
      obtain ⟨la, lb2⟩ := locCells_at ls hkl
      rw [Nat.mul_comm 2 k] at la lb2
      have c0 := (HLS.out.below hb).cell (k * 2) (.bool ls[k].1) (by simpa using la)
      have c1 := (HLS.out.below hb).cell (k * 2 + 1) (.int .i64 ls[k].2) (by simpa using lb2)
      have y7 := hbo.cell 7 (.int .i64 (regs : Int)) rfl
      have k0 : (0 : Int) ≤ (k : Int) := by omega
      have k1 : (k : Int) < (regs : Int) := by omega
      have k6 : (k : Int) < 8000 := by omega
      have HB := Lib.hid hb
      have HBO1 := Lib.hid hbo
      clear la lb2 hb hbo
      generalize ls[k].2 = x at *
      generalize ls[k].1 = st at *
      have g0 : decide (x < 0) = false := decide_eq_false (by omega)
      cases st
      · have g1 : decide (11 < x) = false := decide_eq_false (by have := hp1 rfl; omega)
        clear hp0 hp1 hp2
        go_upto_region 6 with (fail)
        go_quiet (fail)
        go_wp2
        go_roundw
        case rel => exact ⟨k + 1, by omega, by go_num, HBO1.out.drewN _, Below.drewN_ HB.out _⟩
        case measure => (first | (simp [intOf]; done) | (simp [intOf]; omega))
      · have g1 : decide ((regs : Int) ≤ x) = false := decide_eq_false (by have := hp2 rfl; omega)
        clear hp0 hp1 hp2
        go_upto_region 6 with (fail)
        go_quiet (fail)
        go_wp2
        go_roundw
        case rel => exact ⟨k + 1, by omega, by go_num, HBO1.out.drewN _, Below.drewN_ HB.out _⟩
        case measure => (first | (simp [intOf]; done) | (simp [intOf]; omega))
    · have k1 : ¬ (k : Int) < (regs : Int) := by omega
      obtain rfl : k = regs := by omega
      have HLC := Lib.hid (HLV.out wr hb)
      have q0 := hbo.cell 0 (.string b.nm) rfl
      have q1 := hbo.cell 1 (.bool b.static) rfl
      have q2 := hbo.cell 2 (.int .i64 b.ty.k) rfl
      have q3 := hbo.cell 3 (.string b.ty.nm) rfl
      have q4 := hbo.cell 4 (.slice An b.ty.ns.length cn) rfl
      have q5 := hbo.cell 5 (.slice Ap b.ty.ps.length cp) rfl
      have q6 := hbo.cell 6 (.bool b.ty.many) rfl
      have q7 := hbo.cell 7 (.int .i64 (k : Int)) rfl
      have q8 := hbo.cell 8 (.slice (some ⟨bb, oo, none⟩) b.code.length c) rfl
      have HB := Lib.hid hb
      have HBO1 := Lib.hid hbo
      clear hb hbo HLV hlt hk
      go_wp2_with fail
      (refine (HLC.out).mono ?_; rintro e w4 ⟨regs', I, bs, hregs', rfl, hbl, hI, hB, hb4⟩)
      obtain rfl : regs' = k := by have := HRG.out; omega
      have S0 : Hst b.code regs' w.heap.size #[.string b.nm, .bool b.static, .int .i64 b.ty.k, .string b.ty.nm, .slice An b.ty.ns.length cn, .slice Ap b.ty.ps.length cp, .bool b.ty.many, .int .i64 (regs' : Int), .slice (some ⟨bb, oo, none⟩) b.code.length c] I bs w w4 := ⟨HBO1.out.below hb4, hI, hB, HB.out.trans (hb4.mono HB.out.size)⟩
      have HS0 := Lib.hid S0
      have hp0 : (0 : Int) < (b.code.length : Int) := by omega
      have hb0 : 0 < bs.length := by omega
      clear q0 q1 q2 q3 q4 q5 q6 q7 q8 HB HBO1 hI hB hb4 S0 HLC hregs'
      generalize regs' = regs at *
      go_wp2
      go_loopw [7] (fun i wx => H2 regs (Hst b.code regs w.heap.size #[.string b.nm, .bool b.static, .int .i64 b.ty.k, .string b.ty.nm, .slice An b.ty.ns.length cn, .slice Ap b.ty.ps.length cp, .bool b.ty.many, .int .i64 (regs : Int), .slice (some ⟨bb, oo, none⟩) b.code.length c] I bs w) i wx) (fun i _ => regs - (intOf i).toNat)
      case atStart => exact ⟨0, Nat.zero_le _, rfl, HS0.out⟩
      case round =>
        clear HS0
        obtain ⟨r, hr, rfl, hst⟩ := hrel
        have y7 := hst.body.cell 7 (.int .i64 (regs : Int)) rfl
        have r0 : (0 : Int) ≤ (r : Int) := by omega
        have r6 : (r : Int) ≤ 8000 := by omega
        have HST := Lib.hid hst
        clear hst
        by_cases hrr : r < regs
        · have r1 : (r : Int) < (regs : Int) := by omega
          go_wp2
          clear y7
          go_loopw [8] (fun i wx => H2 r (Hst b.code regs w.heap.size #[.string b.nm, .bool b.static, .int .i64 b.ty.k, .string b.ty.nm, .slice An b.ty.ns.length cn, .slice Ap b.ty.ps.length cp, .bool b.ty.many, .int .i64 (regs : Int), .slice (some ⟨bb, oo, none⟩) b.code.length c] I bs w) i wx) (fun i _ => r - (intOf i).toNat)
          case atStart => exact ⟨0, Nat.zero_le _, rfl, HST.out⟩
          case round =>
            clear HST
            obtain ⟨q, hq, rfl, hst⟩ := hrel
            have HST := Lib.hid hst
            clear hst
            have q0 : (0 : Int) ≤ (q : Int) := by omega
            have q6 : (q : Int) ≤ 8000 := by omega
            by_cases hqr : q < r
            · have q1 : (q : Int) < (regs : Int) := by omega
              have q2 : (q : Int) < (r : Int) := by omega
              have hrl : r < ls.length := by have := HP.out.len; omega
              have hql : q < ls.length := by omega
              have c0 := HST.out.rows.cell 0 (.slice (some ⟨bs[0], 0, none⟩) regs regs) (by simp [hb0])
              have c1 := (HST.out.live 0 hb0).cell r (.bool (liveB b.code 0 (r : Int))) (bits_at _ (by omega))
              have c2 := (HST.out.live 0 hb0).cell q (.bool (liveB b.code 0 (q : Int))) (bits_at _ (by omega))
              obtain ⟨la, lb2⟩ := locCells_at ls hrl
              obtain ⟨la', lb2'⟩ := locCells_at ls hql
              rw [Nat.mul_comm 2 r] at la lb2
              rw [Nat.mul_comm 2 q] at la' lb2'
              have d0 := (HLS.out.below HST.out.below).cell (r * 2) (.bool ls[r].1) (by simpa using la)
              have d1 := (HLS.out.below HST.out.below).cell (r * 2 + 1) (.int .i64 ls[r].2) (by simpa using lb2)
              have e0 := (HLS.out.below HST.out.below).cell (q * 2) (.bool ls[q].1) (by simpa using la')
              have e1 := (HLS.out.below HST.out.below).cell (q * 2 + 1) (.int .i64 ls[q].2) (by simpa using lb2')
              have HZ := Lib.hid (HP.out.zero r q hrl hql hqr)
              clear la lb2 la' lb2'
              rcases h1 : liveB b.code 0 (r : Int) with _ | _
              · rw [h1] at c1
                clear HZ h1
                go_upto_region 15 with (fail)
                go_quiet (fail)
                go_wp2
                go_roundw
                case rel => exact ⟨q + 1, by omega, by go_num, HST.out.drewN _⟩
                case measure => (first | (simp [intOf]; done) | (simp [intOf]; omega))
              · rcases h2 : liveB b.code 0 (q : Int) with _ | _
                · rw [h1] at c1
                  rw [h2] at c2
                  clear HZ h1 h2
                  go_upto_region 15 with (fail)
                  go_quiet (fail)
                  go_wp2
                  go_roundw
                  case rel => exact ⟨q + 1, by omega, by go_num, HST.out.drewN _⟩
                  case measure => (first | (simp [intOf]; done) | (simp [intOf]; omega))
                · have hne := HZ.out h1 h2
                  have t := eq_pair_no hne
                  rw [h1] at c1
                  rw [h2] at c2
                  clear HZ h1 h2 hne
                  go_upto_region 15 with (fail)
                  go_quiet (fail)
                  go_wp2
                  go_roundw
                  case rel => exact ⟨q + 1, by omega, by go_num, HST.out.drewN _⟩
                  case measure => (first | (simp [intOf]; done) | (simp [intOf]; omega))
            · have q2 : ¬ (q : Int) < (r : Int) := by omega
              go_wp2
              go_roundw
              case rel => exact ⟨r + 1, by omega, by go_num, HST.out⟩
              case measure => (first | (simp [intOf]; done) | (simp [intOf]; omega))
        · have r1 : ¬ (r : Int) < (regs : Int) := by omega
          go_wp2
          clear y7
          go_loopw [9] (fun i wx => H2 b.code.length (Hst b.code regs w.heap.size #[.string b.nm, .bool b.static, .int .i64 b.ty.k, .string b.ty.nm, .slice An b.ty.ns.length cn, .slice Ap b.ty.ps.length cp, .bool b.ty.many, .int .i64 (regs : Int), .slice (some ⟨bb, oo, none⟩) b.code.length c] I bs w) i wx) (fun i _ => b.code.length - (intOf i).toNat)
          case atStart => exact ⟨0, Nat.zero_le _, rfl, HST.out⟩
          case round =>
            clear HST
            obtain ⟨i, hi, rfl, hst⟩ := hrel
            have y8 := hst.body.cell 8 (.slice (some ⟨bb, oo, none⟩) b.code.length c) rfl
            have i0 : (0 : Int) ≤ (i : Int) := by omega
            have i6 : (i : Int) ≤ 6000 := by omega
            by_cases hil : i < b.code.length
            · have i1 : (i : Int) < (b.code.length : Int) := by omega
              obtain ⟨bb2, oo2, Ad, cd, As, c', An', cn', Ap', cp', hA, hbl2, hrep, hcs⟩ := HO.out.ten hil
              obtain ⟨rfl, rfl⟩ : bb = bb2 ∧ oo = oo2 := by simpa using hA
              obtain ⟨c0, c1, c2, c3, c4, c5, c6, c7, c8, c9⟩ := hcs wr hst.below
              obtain ⟨Adx, cdx, Asx, csx, Anx, cnx, Apx, cpx, hcsx, hD, hS, -, -, hdl, hsl, -⟩ := hrep.ten
              obtain ⟨rfl, rfl, rfl, rfl⟩ : Ad = Adx ∧ cd = cdx ∧ As = Asx ∧ c' = csx := by
                simp only [List.cons.injEq, Value.slice.injEq] at hcsx
                exact ⟨hcsx.2.1.1, hcsx.2.1.2.2, hcsx.2.2.1.1, hcsx.2.2.1.2.2⟩
              have X5 : Below wr.heap.size wr (wr.alloc (.cells #[.int .i64 b.code[i].op, .slice Ad b.code[i].d.length cd, .slice As b.code[i].s.length c', .int .i64 b.code[i].n, .string b.code[i].nm, .int .i64 b.code[i].ty.k, .string b.code[i].ty.nm, .slice An' b.code[i].ty.ns.length cn', .slice Ap' b.code[i].ty.ps.length cp', .bool b.code[i].ty.many] 60)) := by (repeat (first | with_reducible assumption | with_reducible exact Below.refl _ _ | (refine Below.setCell ?_ (by first | omega | (simp; done) | (simp; omega)) _) | (refine Below.drewN_ ?_ _) | (refine Below.drew ?_) | (refine Below.alloc ?_ (by first | omega | (simp; done) | (simp; omega)) _)))
              have HST5 := Lib.hid (hst.keep X5)
              have HKO := Lib.hid (Blk.new_ wr 60 #[.int .i64 b.code[i].op, .slice Ad b.code[i].d.length cd, .slice As b.code[i].s.length c', .int .i64 b.code[i].n, .string b.code[i].nm, .int .i64 b.code[i].ty.k, .string b.code[i].ty.nm, .slice An' b.code[i].ty.ns.length cn', .slice Ap' b.code[i].ty.ps.length cp', .bool b.code[i].ty.many])
              have hlHr := hst.body.lt
              have HD := Lib.hid hD
              have HPD := Lib.hid (HP.out.def_ i hil)
              have HPC := Lib.hid (HP.out.call i hil)
              have HWD : Hid (∀ n (h : n < b.code[i].d.length), 0 ≤ b.code[i].d[n] ∧ b.code[i].d[n] < (regs : Int)) := fun n h => by
                have := HWF.out.writes i hil _ (List.getElem_mem h)
                rw [HRG.out] at this
                exact this
              have HBV := Lib.hid (fun (W : World) (q : Nat) (hW : Hst b.code regs w.heap.size #[.string b.nm, .bool b.static, .int .i64 b.ty.k, .string b.ty.nm, .slice An b.ty.ns.length cn, .slice Ap b.ty.ps.length cp, .bool b.ty.many, .int .i64 (regs : Int), .slice (some ⟨bb, oo, none⟩) b.code.length c] I bs w W) (hq : q < regs) => HBE.out W I i q bs hW.below hil hq hbl hW.rows hW.live)
              clear hst hrep hcs hcsx hD hS hA X5
              generalize leadsR b.code[i] i = ld at *
              generalize b.code[i] = o at *
              unfold maxLen at hdl hsl
              go_upto_region 21 with (fail)
              generalize wr.alloc (.cells #[.int .i64 o.op, .slice Ad o.d.length cd, .slice As o.s.length c', .int .i64 o.n, .string o.nm, .int .i64 o.ty.k, .string o.ty.nm, .slice An' o.ty.ns.length cn', .slice Ap' o.ty.ps.length cp', .bool o.ty.many] 60) = w5 at *
              generalize wr.heap.size = ob at *
              clear c0 c1 c2 c3 c4 c5 c6 c7 c8 c9 y8 hlHr
              go_wp2
              go_loopw [11] (fun i wx => H2 regs (fun wx => Hst b.code regs w.heap.size #[.string b.nm, .bool b.static, .int .i64 b.ty.k, .string b.ty.nm, .slice An b.ty.ns.length cn, .slice Ap b.ty.ps.length cp, .bool b.ty.many, .int .i64 (regs : Int), .slice (some ⟨bb, oo, none⟩) b.code.length c] I bs w wx ∧ Blk wx ob 60 #[.int .i64 o.op, .slice Ad o.d.length cd, .slice As o.s.length c', .int .i64 o.n, .string o.nm, .int .i64 o.ty.k, .string o.ty.nm, .slice An' o.ty.ns.length cn', .slice Ap' o.ty.ps.length cp', .bool o.ty.many]) i wx) (fun i _ => regs - (intOf i).toNat)
              case atStart => exact ⟨0, Nat.zero_le _, rfl, HST5.out, HKO.out⟩
              case round =>
                clear HST5 HKO
                obtain ⟨q, hq, rfl, hst, hOb⟩ := hrel
                have y0 := hst.body.cell 0 (.string b.nm) rfl
                have y1 := hst.body.cell 1 (.bool b.static) rfl
                have y2 := hst.body.cell 2 (.int .i64 b.ty.k) rfl
                have y3 := hst.body.cell 3 (.string b.ty.nm) rfl
                have y4 := hst.body.cell 4 (.slice An b.ty.ns.length cn) rfl
                have y5 := hst.body.cell 5 (.slice Ap b.ty.ps.length cp) rfl
                have y6 := hst.body.cell 6 (.bool b.ty.many) rfl
                have y7 := hst.body.cell 7 (.int .i64 (regs : Int)) rfl
                have y8 := hst.body.cell 8 (.slice (some ⟨bb, oo, none⟩) b.code.length c) rfl
                have q0 : (0 : Int) ≤ (q : Int) := by omega
                have q6 : (q : Int) ≤ 8000 := by omega
                have HST := Lib.hid hst
                have HOB := Lib.hid hOb
                clear hst hOb
                by_cases hqr : q < regs
                · have q1 : (q : Int) < (regs : Int) := by omega
                  have hql : q < ls.length := by have := HP.out.len; omega
                  have HBW := Lib.hid (HBV.out wr q HST.out hqr)
                  have HPD2 : Hid (∀ n (h : n < o.d.length) a (ha : a < ls.length), o.d[n] = (a : Int) → q ≠ a → (behB b.code ld (q : Int) = true ∨ (q : Int) ∈ o.d) → ls[a] ≠ ls[q]) := fun n h a ha e hne hb => HPD.out a q ha hql (e ▸ List.getElem_mem h) hne hb
                  have HPC2 := Lib.hid (HPC.out q hql)
                  generalize behB b.code ld (q : Int) = B at *
                  go_wp2_with fail
                  (refine (HBW.out).mono ?_; rintro e w6 ⟨rfl, hb6⟩)
                  have HST6 := Lib.hid (HST.out.keep hb6)
                  have HOB6 := Lib.hid (HOB.out.below hb6)
                  obtain ⟨la, lb2⟩ := locCells_at ls hql
                  rw [Nat.mul_comm 2 q] at la lb2
                  have HLA : Hid ((locCells ls)[q * 2]? = some (.bool ls[q].1)) := la
                  have HLB : Hid ((locCells ls)[q * 2 + 1]? = some (.int .i64 ls[q].2)) := lb2
                  clear y0 y1 y2 y3 y4 y5 y6 y7 y8 HST HOB HBW hb6 la lb2
                  go_wp2
                  go_loopw [13] (fun i wx => H2 o.d.length (fun wx => Hst b.code regs w.heap.size #[.string b.nm, .bool b.static, .int .i64 b.ty.k, .string b.ty.nm, .slice An b.ty.ns.length cn, .slice Ap b.ty.ps.length cp, .bool b.ty.many, .int .i64 (regs : Int), .slice (some ⟨bb, oo, none⟩) b.code.length c] I bs w wx ∧ Blk wx ob 60 #[.int .i64 o.op, .slice Ad o.d.length cd, .slice As o.s.length c', .int .i64 o.n, .string o.nm, .int .i64 o.ty.k, .string o.ty.nm, .slice An' o.ty.ns.length cn', .slice Ap' o.ty.ps.length cp', .bool o.ty.many]) i wx) (fun i _ => o.d.length - (intOf i).toNat)
                  case atStart => exact ⟨0, Nat.zero_le _, rfl, HST6.out, HOB6.out⟩
                  case round =>
                    clear HST6 HOB6
                    obtain ⟨n, hn, rfl, hst, hOb⟩ := hrel
                    have o1 := hOb.cell 1 (.slice Ad o.d.length cd) rfl
                    have HST := Lib.hid hst
                    have HOB := Lib.hid hOb
                    have n0 : (0 : Int) ≤ (n : Int) := by omega
                    have HCO : Hid (∀ m, Calls Try.prog 23 #[.slice Ad o.d.length cd, .int .i64 (q : Int)] (wr.drewN m) fun e w' => e = .returned (.bool (o.d.contains (q : Int))) ∧ w' = wr.drewN m) := fun m => hasR_any Ad cd o.d (q : Int) (wr.drewN m) (Row.keep HD.out (Below.drewN_ hst.below m)) (by unfold maxLen; omega)
                    have l0 := (HLS.out.below hst.below).cell (q * 2) (.bool ls[q].1) (by have := HLA.out; simpa using this)
                    have l1 := (HLS.out.below hst.below).cell (q * 2 + 1) (.int .i64 ls[q].2) (by have := HLB.out; simpa using this)
                    by_cases hnl : n < o.d.length
                    · have n1 : (n : Int) < (o.d.length : Int) := by omega
                      obtain ⟨bs9, os9, rfl, hbs9, cs0⟩ := (Row.keep HD.out hst.below).i64 hnl
                      obtain ⟨a, ha⟩ : ∃ a : Nat, o.d[n] = (a : Int) := ⟨o.d[n].toNat, by have := HWD.out n hnl; omega⟩
                      have hal : a < ls.length := by have := HWD.out n hnl; have := HP.out.len; omega
                      have a0 : (0 : Int) ≤ (a : Int) := by omega
                      have a1 : (a : Int) < (regs : Int) := by have := HP.out.len; omega
                      rw [ha] at cs0
                      obtain ⟨la, lb2⟩ := locCells_at ls hal
                      rw [Nat.mul_comm 2 a] at la lb2
                      have d0 := (HLS.out.below hst.below).cell (a * 2) (.bool ls[a].1) (by simpa using la)
                      have d1 := (HLS.out.below hst.below).cell (a * 2 + 1) (.int .i64 ls[a].2) (by simpa using lb2)
                      have HNE := Lib.hid (HPD2.out n hnl a hal ha)
                      clear hst hOb la lb2 ha
                      by_cases e : q = a
                      · subst e
                        go_upto_region 29 with (fail)
                        go_quiet (fail)
                        go_wp2
                        go_roundw
                        case rel => exact ⟨n + 1, by omega, by go_num, HST.out.drewN _, HOB.out.drewN _⟩
                        case measure => (first | (simp [intOf]; done) | (simp [intOf]; omega))
                      · have e' : ((q : Int) != (a : Int)) = true := by simp; omega
                        cases B
                        · obtain ⟨ct, hct⟩ : ∃ ct, o.d.contains (q : Int) = ct := ⟨_, rfl⟩
                          have HCT := Lib.hid hct
                          rw [hct] at HCO
                          clear hct
                          cases ct
                          · clear HNE
                            go_upto_region 29 with (fail)
                            go_quiet ((go_at_call 23; exact Calls.quiet_of_same (HCO.out _)))
                            go_wp2
                            go_roundw
                            case rel => exact ⟨n + 1, by omega, by go_num, HST.out.drewN _, HOB.out.drewN _⟩
                            case measure => (first | (simp [intOf]; done) | (simp [intOf]; omega))
                          · have t := eq_pair_no (HNE.out e (.inr (List.contains_iff_mem.1 HCT.out)))
                            clear HNE
                            go_upto_region 29 with (fail)
                            go_quiet ((go_at_call 23; exact Calls.quiet_of_same (HCO.out _)))
                            go_wp2
                            go_roundw
                            case rel => exact ⟨n + 1, by omega, by go_num, HST.out.drewN _, HOB.out.drewN _⟩
                            case measure => (first | (simp [intOf]; done) | (simp [intOf]; omega))
                        · have t := eq_pair_no (HNE.out e (.inl rfl))
                          clear HNE
                          go_upto_region 29 with (fail)
                          go_quiet (fail)
                          go_wp2
                          go_roundw
                          case rel => exact ⟨n + 1, by omega, by go_num, HST.out.drewN _, HOB.out.drewN _⟩
                          case measure => (first | (simp [intOf]; done) | (simp [intOf]; omega))
                    · have n1 : ¬ (n : Int) < (o.d.length : Int) := by omega
                      have o0 := hOb.cell 0 (.int .i64 o.op) rfl
                      have HC0 : Hid (Calls Try.prog 23 #[.slice Ad o.d.length cd, .int .i64 (q : Int)] wr fun e w' => e = .returned (.bool (o.d.contains (q : Int))) ∧ w' = wr) := hasR_any Ad cd o.d (q : Int) wr (Row.keep HD.out hst.below) (by unfold maxLen; omega)
                      clear hst hOb HCO HPD2
                      rcases Bool.eq_false_or_eq_true (o.op == 7) with e7 | e7
                      · have HOP7 := Lib.hid (show o.op = 7 by simpa using e7)
                        cases B
                        · clear HC0 HPC2
                          go_wp2
                          go_roundw
                          case rel => exact ⟨q + 1, by omega, by go_num, HST.out, HOB.out⟩
                          case measure => (first | (simp [intOf]; done) | (simp [intOf]; omega))
                        · obtain ⟨ct, hct⟩ : ∃ ct, o.d.contains (q : Int) = ct := ⟨_, rfl⟩
                          have HCT := Lib.hid hct
                          rw [hct] at HC0
                          clear hct
                          cases ct
                          · have hnd : (q : Int) ∉ o.d := fun h => by
                              have h1 := List.contains_iff_mem.2 h
                              rw [HCT.out] at h1
                              cases h1
                            have HPQ := Lib.hid (HPC2.out (Or.inl HOP7.out) rfl hnd)
                            clear hnd HPC2
                            generalize ls[q].2 = x at *
                            generalize ls[q].1 = st at *
                            cases st
                            · have g4 : decide (x < 4) = false := decide_eq_false (by have := HPQ.out rfl; omega)
                              clear HPQ
                              go_wp2_with fail
                              (refine (HC0.out).mono ?_; rintro e w9 ⟨rfl, rfl⟩)
                              go_wp2
                              go_roundw
                              case rel => exact ⟨q + 1, by omega, by go_num, HST.out, HOB.out⟩
                              case measure => (first | (simp [intOf]; done) | (simp [intOf]; omega))
                            · clear HPQ
                              go_wp2_with fail
                              (refine (HC0.out).mono ?_; rintro e w9 ⟨rfl, rfl⟩)
                              go_wp2
                              go_roundw
                              case rel => exact ⟨q + 1, by omega, by go_num, HST.out, HOB.out⟩
                              case measure => (first | (simp [intOf]; done) | (simp [intOf]; omega))
                          · clear HPC2
                            go_wp2_with fail
                            (refine (HC0.out).mono ?_; rintro e w9 ⟨rfl, rfl⟩)
                            go_wp2
                            go_roundw
                            case rel => exact ⟨q + 1, by omega, by go_num, HST.out, HOB.out⟩
                            case measure => (first | (simp [intOf]; done) | (simp [intOf]; omega))
                      · rcases Bool.eq_false_or_eq_true (o.op == 8) with e8 | e8
                        · have HOP8 := Lib.hid (show o.op = 8 by simpa using e8)
                          cases B
                          · clear HC0 HPC2
                            go_wp2
                            go_roundw
                            case rel => exact ⟨q + 1, by omega, by go_num, HST.out, HOB.out⟩
                            case measure => (first | (simp [intOf]; done) | (simp [intOf]; omega))
                          · obtain ⟨ct, hct⟩ : ∃ ct, o.d.contains (q : Int) = ct := ⟨_, rfl⟩
                            have HCT := Lib.hid hct
                            rw [hct] at HC0
                            clear hct
                            cases ct
                            · have hnd : (q : Int) ∉ o.d := fun h => by
                                have h1 := List.contains_iff_mem.2 h
                                rw [HCT.out] at h1
                                cases h1
                              have HPQ := Lib.hid (HPC2.out (Or.inr HOP8.out) rfl hnd)
                              clear hnd HPC2
                              generalize ls[q].2 = x at *
                              generalize ls[q].1 = st at *
                              cases st
                              · have g4 : decide (x < 4) = false := decide_eq_false (by have := HPQ.out rfl; omega)
                                clear HPQ
                                go_wp2_with fail
                                (refine (HC0.out).mono ?_; rintro e w9 ⟨rfl, rfl⟩)
                                go_wp2
                                go_roundw
                                case rel => exact ⟨q + 1, by omega, by go_num, HST.out, HOB.out⟩
                                case measure => (first | (simp [intOf]; done) | (simp [intOf]; omega))
                              · clear HPQ
                                go_wp2_with fail
                                (refine (HC0.out).mono ?_; rintro e w9 ⟨rfl, rfl⟩)
                                go_wp2
                                go_roundw
                                case rel => exact ⟨q + 1, by omega, by go_num, HST.out, HOB.out⟩
                                case measure => (first | (simp [intOf]; done) | (simp [intOf]; omega))
                            · clear HPC2
                              go_wp2_with fail
                              (refine (HC0.out).mono ?_; rintro e w9 ⟨rfl, rfl⟩)
                              go_wp2
                              go_roundw
                              case rel => exact ⟨q + 1, by omega, by go_num, HST.out, HOB.out⟩
                              case measure => (first | (simp [intOf]; done) | (simp [intOf]; omega))
                        · clear HC0 HPC2
                          go_wp2
                          go_roundw
                          case rel => exact ⟨q + 1, by omega, by go_num, HST.out, HOB.out⟩
                          case measure => (first | (simp [intOf]; done) | (simp [intOf]; omega))
                · have q1 : ¬ (q : Int) < (regs : Int) := by omega
                  clear y0 y1 y2 y3 y4 y5 y6 y8
                  go_wp2
                  go_roundw
                  case rel => exact ⟨i + 1, by omega, by go_num, HST.out⟩
                  case measure => (first | (simp [intOf]; done) | (simp [intOf]; omega))
            · have i1 : ¬ (i : Int) < (b.code.length : Int) := by omega
              have HBX := Lib.hid hst.below
              clear hst
              go_wp2
              go_ret
              exact ⟨rfl, HBX.out⟩
end Go.Proofs.Ytkkjkbljgaipcaa
/- The walk of the law ColourHolds. -/
namespace Go.Proofs.Ytkkjkbljgaipcaa
open Go.RowKit
set_option linter.unusedVariables false
set_option linter.unusedSimpArgs false
set_option maxRecDepth 100000
set_option maxHeartbeats 8000000
theorem coloured_any (b : Bo) (cs : List Value) (w : World) (hr : RepB w b cs) (hm : ML w) : Calls Try.prog 3 #[.agg cs.toArray] w fun e w' => e = .returned (.bool true) ∧ Below w.heap.size w w' := by
  have HR := Lib.hid hr
  obtain ⟨An, cn, Ap, cp, A, c, rfl, -, -, -, hl⟩ := hr.nine
  have B0 : Below w.heap.size w (w.alloc (.cells #[.string b.nm, .bool b.static, .int .i64 b.ty.k, .string b.ty.nm, .slice An b.ty.ns.length cn, .slice Ap b.ty.ps.length cp, .bool b.ty.many, .int .i64 b.regs, .slice A b.code.length c] 28)) := by (repeat (first | with_reducible assumption | with_reducible exact Below.refl _ _ | (refine Below.setCell ?_ (by first | omega | (simp; done) | (simp; omega)) _) | (refine Below.drewN_ ?_ _) | (refine Below.drew ?_) | (refine Below.alloc ?_ (by first | omega | (simp; done) | (simp; omega)) _)))
  have kb := Blk.new_ w 28 #[.string b.nm, .bool b.static, .int .i64 b.ty.k, .string b.ty.nm, .slice An b.ty.ns.length cn, .slice Ap b.ty.ps.length cp, .bool b.ty.many, .int .i64 b.regs, .slice A b.code.length c]
  have HC := Lib.hid (colourOf_any b _ _ (HR.out.keep B0) (hm.keep B0))
  have HB0 := Lib.hid B0
  unfold maxLen at hl
  clear hr hm B0
  by_cases h1 : 200 < b.regs
  · have g1 : decide (200 < b.regs) = true := by simpa using h1
    go_enter Try.func3, Try.ntmps3
    go_wp2
    go_ret
    exact ⟨rfl, HB0.out⟩
  have g1 : decide (200 < b.regs) = false := by simpa using h1
  by_cases h2 : 200 < b.code.length
  · have g2 : decide ((200 : Int) < (b.code.length : Int)) = true := by simp; omega
    go_enter Try.func3, Try.ntmps3
    go_wp2
    go_ret
    exact ⟨rfl, HB0.out⟩
  have g2 : decide ((200 : Int) < (b.code.length : Int)) = false := by simp; omega
  go_enter Try.func3, Try.ntmps3
  go_wp2_with fail
  (refine (HC.out).mono ?_; rintro e w2 hout)
  rcases hout with ⟨hbo, rfl, hb2⟩ | ⟨hbo, regs, O, ls, G, lg, hregs, rfl, hls, hO, hok, hq0, hqk, hb2⟩
  · have b2 := HB0.out.trans (hb2.mono HB0.out.size)
    have kb2 := kb.below hb2
    have HM := Lib.hid (mayR11_any b _ w2 (HR.out.keep b2))
    rw [hbo] at HM
    have q0 := kb2.cell 0 (.string b.nm) rfl
    have q1 := kb2.cell 1 (.bool b.static) rfl
    have q2 := kb2.cell 2 (.int .i64 b.ty.k) rfl
    have q3 := kb2.cell 3 (.string b.ty.nm) rfl
    have q4 := kb2.cell 4 (.slice An b.ty.ns.length cn) rfl
    have q5 := kb2.cell 5 (.slice Ap b.ty.ps.length cp) rfl
    have q6 := kb2.cell 6 (.bool b.ty.many) rfl
    have q7 := kb2.cell 7 (.int .i64 b.regs) rfl
    have q8 := kb2.cell 8 (.slice A b.code.length c) rfl
    clear hbo kb hb2 HC
    go_wp2_with fail
    (refine (HM.out).mono ?_; rintro e w3 ⟨rfl, hb3⟩)
    go_wp2
    go_ret
    exact ⟨rfl, b2.trans (hb3.mono b2.size)⟩
  · have b2 := HB0.out.trans (hb2.mono HB0.out.size)
    have kb2 := kb.below hb2
    have HM := Lib.hid (mayR11_any b _ w2 (HR.out.keep b2))
    have hwf := wf_of hbo
    rw [hregs] at hwf
    have HH := Lib.hid (HoldsP.of hwf hls hok hq0 hqk)
    have HBO := Lib.hid hbo
    have HRG := Lib.hid hregs
    have HLO := Lib.hid hO
    have HKB := Lib.hid kb2
    rw [hbo] at HM
    have q0 := kb2.cell 0 (.string b.nm) rfl
    have q1 := kb2.cell 1 (.bool b.static) rfl
    have q2 := kb2.cell 2 (.int .i64 b.ty.k) rfl
    have q3 := kb2.cell 3 (.string b.ty.nm) rfl
    have q4 := kb2.cell 4 (.slice An b.ty.ns.length cn) rfl
    have q5 := kb2.cell 5 (.slice Ap b.ty.ps.length cp) rfl
    have q6 := kb2.cell 6 (.bool b.ty.many) rfl
    have q7 := kb2.cell 7 (.int .i64 b.regs) rfl
    have q8 := kb2.cell 8 (.slice A b.code.length c) rfl
    clear hbo kb hb2 HC hregs hls hO hok hq0 hqk hwf kb2
    go_wp2_with fail
    (refine (HM.out).mono ?_; rintro e w3 ⟨rfl, hb3⟩)
    have b3 := b2.trans (hb3.mono b2.size)
    have kb3 := HKB.out.below hb3
    have HHO := Lib.hid (holds_any b _ w3 O regs ls (HR.out.keep b3) HBO.out HRG.out (HLO.out.below hb3) HH.out)
    clear q0 q1 q2 q3 q4 q5 q6 q7 q8
    have q0 := kb3.cell 0 (.string b.nm) rfl
    have q1 := kb3.cell 1 (.bool b.static) rfl
    have q2 := kb3.cell 2 (.int .i64 b.ty.k) rfl
    have q3 := kb3.cell 3 (.string b.ty.nm) rfl
    have q4 := kb3.cell 4 (.slice An b.ty.ns.length cn) rfl
    have q5 := kb3.cell 5 (.slice Ap b.ty.ps.length cp) rfl
    have q6 := kb3.cell 6 (.bool b.ty.many) rfl
    have q7 := kb3.cell 7 (.int .i64 b.regs) rfl
    have q8 := kb3.cell 8 (.slice A b.code.length c) rfl
    clear hb3 kb3
    go_wp2_with fail
    (refine (HHO.out).mono ?_; rintro e w4 ⟨rfl, hb4⟩)
    go_wp2
    go_ret
    exact ⟨rfl, b3.trans (hb4.mono b3.size)⟩
end Go.Proofs.Ytkkjkbljgaipcaa
