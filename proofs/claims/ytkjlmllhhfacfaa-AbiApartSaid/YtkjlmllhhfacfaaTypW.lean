/- The walk of types.write: it writes a type's text into a builder. -/
import Derived.Test.YtkjlmllhhfacfaaTypT
import Derived.Test.YtkjlmllhhfacfaaBld
namespace Go.Proofs.Ytkjlmllhhfacfaa
open Go.RowKit Go.Shelf
set_option linter.unusedVariables false
set_option linter.unusedSimpArgs false
set_option maxRecDepth 100000
set_option maxHeartbeats 2000000
theorem fieldsTx_snoc : ∀ (ns : List ByteArray) (ts : List (List UInt8)) (n : ByteArray) (t : List UInt8), ns.length = ts.length → fieldsTx (ns ++ [n]) (ts ++ [t]) = fieldsTx ns ts ++ (t ++ 32 :: (n.data.toList ++ [59]))
  | [], [], n, t, _ => by simp [fieldsTx]
  | m :: ns, u :: ts, n, t, h => by
    simp only [List.cons_append, fieldsTx]
    rw [fieldsTx_snoc ns ts n t (by simpa using h)]
    simp
  | [], _ :: _, _, _, h => by simp at h
  | _ :: _, [], _, _, h => by simp at h
theorem fieldsTx_app : ∀ (ns ms : List ByteArray) (ts us : List (List UInt8)), ns.length = ts.length → fieldsTx (ns ++ ms) (ts ++ us) = fieldsTx ns ts ++ fieldsTx ms us
  | [], ms, [], us, _ => by simp [fieldsTx]
  | m :: ns, ms, u :: ts, us, h => by
    simp only [List.cons_append, fieldsTx]
    rw [fieldsTx_app ns ms ts us (by simpa using h)]
    simp
  | [], _, _ :: _, _, h => by simp at h
  | _ :: _, _, [], _, h => by simp at h
theorem fieldsTx_take {ns : List ByteArray} {ts : List (List UInt8)} (h : ns.length = ts.length) {k : Nat} (hn : k < ns.length) (ht : k < ts.length) :
    fieldsTx (ns.take (k + 1)) (ts.take (k + 1)) = fieldsTx (ns.take k) (ts.take k) ++ (ts[k] ++ 32 :: (ns[k].data.toList ++ [59])) := by
  rw [List.take_succ_eq_append_getElem hn, List.take_succ_eq_append_getElem ht, fieldsTx_snoc _ _ _ _ (by simp; omega)]
theorem fieldsTx_le {ns : List ByteArray} {ts : List (List UInt8)} (h : ns.length = ts.length) {k : Nat} (hn : k < ns.length) (ht : k < ts.length) :
    (fieldsTx (ns.take k) (ts.take k)).length + ts[k].length + ns[k].size + 2 ≤ (fieldsTx ns ts).length := by
  have h1 := fieldsTx_app (ns.take (k + 1)) (ns.drop (k + 1)) (ts.take (k + 1)) (ts.drop (k + 1)) (by simp; omega)
  rw [List.take_append_drop, List.take_append_drop, fieldsTx_take h hn ht] at h1
  rw [h1]
  simp
  omega
theorem paramsTx_snoc : ∀ (first : Bool) (ts : List (List UInt8)) (t : List UInt8), paramsTx false first (ts ++ [t]) = paramsTx false first ts ++ (if first && ts.isEmpty then t else 44 :: t)
  | first, [], t => by cases first <;> simp [paramsTx]
  | first, u :: ts, t => by
    simp only [List.cons_append, paramsTx]
    rw [paramsTx_snoc false ts t]
    simp
theorem paramsTx_many : ∀ (many first : Bool) (ts : List (List UInt8)), paramsTx many first ts = paramsTx false first ts ++ (if many then (if first && ts.isEmpty then [46, 46, 46] else [44, 46, 46, 46]) else [])
  | many, first, [] => by cases many <;> cases first <;> simp [paramsTx]
  | many, first, u :: ts => by
    simp only [paramsTx]
    rw [paramsTx_many many false ts]
    simp
theorem paramsTx_app (first : Bool) (us : List (List UInt8)) : ∀ (ts : List (List UInt8)), (paramsTx false first us).length ≤ (paramsTx false first (us ++ ts)).length
  | [] => by simp
  | t :: ts => by
    have h1 := paramsTx_app first (us ++ [t]) ts
    rw [paramsTx_snoc] at h1
    rw [List.append_assoc] at h1
    simp only [List.length_append, List.cons_append, List.nil_append] at h1
    omega
termination_by ts => ts.length
theorem paramsTx_take {ts : List (List UInt8)} {k : Nat} (h : k < ts.length) : paramsTx false true (ts.take (k + 1)) = paramsTx false true (ts.take k) ++ (if k = 0 then ts[k] else 44 :: ts[k]) := by
  rw [List.take_succ_eq_append_getElem h, paramsTx_snoc]
  by_cases hk : k = 0
  · subst hk; simp
  · rw [if_neg hk]
    have : (ts.take k).isEmpty = false := by
      rcases he : (ts.take k).isEmpty with _ | _
      · rfl
      · simp at he; rcases he with he | he
        · exact absurd he hk
        · subst he; simp at h
    simp [this]
theorem paramsTx_le {ts : List (List UInt8)} {k : Nat} (h : k < ts.length) : (paramsTx false true (ts.take k)).length + ts[k].length + (if k = 0 then 0 else 1) ≤ (paramsTx false true ts).length := by
  have h1 := paramsTx_app true (ts.take (k + 1)) (ts.drop (k + 1))
  rw [List.take_append_drop, paramsTx_take h] at h1
  by_cases hk : k = 0
  · rw [if_pos hk] at h1 ⊢; simp at h1 ⊢; omega
  · rw [if_neg hk] at h1 ⊢; simp at h1 ⊢; omega
theorem Bld.alloc {B b : Nat} {bs : List Value} {w : World} (h : Bld B b bs w) (o : Obj) : Bld B b bs (w.alloc o) := h.elim (fun x => .inl (x.alloc o)) (fun x => .inr (x.alloc o))
theorem Bld.lt {B b : Nat} {bs : List Value} {w : World} (h : Bld B b bs w) : B ≤ b ∧ b < w.heap.size := h.elim (fun x => ⟨x.1, x.lt⟩) (fun x => ⟨x.1, x.lt⟩)
theorem BKept.alloc {b : Nat} {w w' : World} (h : BKept b w w') (o : Obj) : BKept b w (w'.alloc o) := Lib.OthersKept.alloc h o
theorem BKept.refl (b : Nat) (w : World) : BKept b w w := Lib.OthersKept.refl _ _ _
theorem BKept.trans {b : Nat} {u v w : World} (h : BKept b u v) (k : BKept b v w) : BKept b u w := Lib.OthersKept.trans h k
theorem Blk.bkept {w w' : World} {b k : Nat} {t : TypeId} {cs : Array Value} (h : Blk w k t cs) (hk : BKept b w w') (hb : k ≠ b) (ht : t ≠ 5) : Blk w' k t cs :=
  hk k _ h (fun e => hb (by simpa using e)) (fun c fz e => ht (by injection e))
theorem bld_writeL (B b : Nat) (l : List UInt8) (s : ByteArray) (w : World) (h : Bld B b (Lib.byteCells l) w) (hlen : l.length + s.data.toList.length ≤ 140737488355328) :
    Calls Try.prog 40 #[.pointer (some ⟨b, 0, none⟩), .string s] w fun e w' => e = .returned (.tuple #[.int .i64 s.size, .nilIface]) ∧ (Bld B b (Lib.byteCells (l ++ s.data.toList)) w' ∧ Below B w w' ∧ BKept b w w') := by
  have h1 := bld_write B b (Lib.byteCells l) s w h (by simpa [Lib.byteCells] using hlen) (by have := h.lt; omega)
  have e : Lib.byteCells l ++ Lib.strCells s = Lib.byteCells (l ++ s.data.toList) := by simp [Lib.byteCells, Lib.strCells]
  rw [e] at h1
  exact h1
def Wr (T : Ty) : Prop := ∀ (cs : List Value) (w0 w : World) (b : Nat) (l : List UInt8), Rep w0 T cs → Below w0.heap.size w0 w → Bld w0.heap.size b (Lib.byteCells l) w → l.length + (textT T).length ≤ 140737488355328 →
  Calls Try.prog 25 #[.pointer (some ⟨b, 0, none⟩), .agg cs.toArray] w fun e w' => e = .returned (.tuple #[]) ∧ (Bld w0.heap.size b (Lib.byteCells (l ++ textT T)) w' ∧ Below w0.heap.size w w' ∧ BKept b w w')
theorem write_int (T : Ty) (hk : T.k = 1) : Wr T := by
  intro cs w0 w b l hr hb0 hB hl
  obtain ⟨An, cn, Ap, cp, rfl, -, -⟩ := hr.five
  rw [text_1 hk] at hl ⊢
  rw [hk]
  have hlt := hB.lt
  simp at hl
  go_enter Try.func25, Try.ntmps25
  go_wp2_with fail
  refine (bld_writeL _ _ _ _ _ (hB.alloc _) ?hq).mono ?_
  case hq => simp; omega
  rintro e w1 ⟨rfl, h1, h2, h3⟩
  go_wp2
  go_end0
  exact ⟨rfl, h1, Below.trans ((Below.refl _ _).alloc (by omega) _) h2, ((BKept.refl _ _).alloc _).trans h3⟩
theorem write_long (T : Ty) (hk : T.k = 2) : Wr T := by
  intro cs w0 w b l hr hb0 hB hl
  obtain ⟨An, cn, Ap, cp, rfl, -, -⟩ := hr.five
  rw [text_2 hk] at hl ⊢
  rw [hk]
  have hlt := hB.lt
  simp at hl
  go_enter Try.func25, Try.ntmps25
  go_wp2_with fail
  refine (bld_writeL _ _ _ _ _ (hB.alloc _) ?hq).mono ?_
  case hq => simp; omega
  rintro e w1 ⟨rfl, h1, h2, h3⟩
  go_wp2
  go_end0
  exact ⟨rfl, h1, Below.trans ((Below.refl _ _).alloc (by omega) _) h2, ((BKept.refl _ _).alloc _).trans h3⟩
theorem may_len {d : Nat} {T : Ty} (h : mayT (d + 1) T = true) : T.ps.length ≤ 7 := by
  unfold mayT at h
  by_cases h12 : T.k = 1 ∨ T.k = 2
  · rw [if_pos h12] at h
    simp only [Bool.and_eq_true, beq_iff_eq] at h
    omega
  · rw [if_neg h12] at h
    by_cases h3 : T.k = 3
    · rw [if_pos h3] at h
      simp only [Bool.and_eq_true, decide_eq_true_eq] at h
      omega
    · rw [if_neg h3] at h
      by_cases h4 : T.k = 4
      · rw [if_pos h4] at h
        simp only [Bool.and_eq_true, decide_eq_true_eq] at h
        omega
      · rw [if_neg h4] at h; cases h
def FieldRel (T : Ty) (l : List UInt8) (w0 w : World) (b : Nat) (vn vp : Value) (i : Value) (wr : World) : Prop :=
  ∃ k : Nat, k ≤ T.ps.length ∧ i = .int .i64 k ∧ Bld w0.heap.size b (Lib.byteCells (l ++ ([115, 116, 114, 117, 99, 116, 32] ++ (T.nm.data.toList ++ 123 :: fieldsTx (T.ns.take k) ((T.ps.map textT).take k))))) wr ∧
    Below w0.heap.size w wr ∧ BKept b w wr ∧ Blk wr w.heap.size 25 #[.int .i64 3, .string T.nm, vn, vp, .bool T.many]
theorem write_struct (d : Nat) (T : Ty) (hm : mayT (d + 1) T = true) (hk : T.k = 3) (IH : ∀ p ∈ T.ps, Wr p) : Wr T := by
  intro cs w0 w b l hr hb0 hB hl
  obtain ⟨An, cn, Ap, cp, rfl, hN, hP⟩ := hr.five
  obtain ⟨-, hnm, hlen, -, hns⟩ := may_st hm hk
  have hmx := may_len hm
  have hnm16 : T.nm.size ≤ 16 := (name_false hnm).2.1
  rw [text_3 hk] at hl ⊢
  rw [hk]
  have hlt := hB.lt
  have HLT : Hid (T.ns.length = (T.ps.map textT).length) := by show _ = _; simpa using hlen
  have HL := Lib.hid hlen
  have HNS := Lib.hid hns
  clear hlen hnm hns
  simp only [List.length_append, List.length_cons, List.length_nil, Array.length_toList, ByteArray.size_data] at hl
  have hk0 : Blk (w.alloc (.cells #[.int .i64 3, .string T.nm, .slice An T.ns.length cn, .slice Ap T.ps.length cp, .bool T.many] 25)) w.heap.size 25 #[.int .i64 3, .string T.nm, .slice An T.ns.length cn, .slice Ap T.ps.length cp, .bool T.many] := Blk.new_ _ _ _
  go_enter Try.func25, Try.ntmps25
  go_wp2_with fail
  refine (bld_writeL _ _ _ _ _ (hB.alloc _) ?hq).mono ?_
  case hq => simp; omega
  rintro e w1 ⟨rfl, h1, h2, h3⟩
  have k1 := hk0.bkept h3 (by omega) (by decide)
  have b1 : Below w0.heap.size w w1 := Below.trans ((Below.refl _ _).alloc (by omega) _) h2
  have x1 := (BKept.alloc (BKept.refl b w) _).trans h3
  clear hk0 h2 h3
  have q1 := k1.cell 1 _ rfl
  have q2 := k1.cell 2 _ rfl
  have q3 := k1.cell 3 _ rfl
  have e1 : l ++ (({ data := #[115, 116, 114, 117, 99, 116, 32] } : ByteArray) ++ T.nm ++ { data := #[123] }).data.toList = l ++ ([115, 116, 114, 117, 99, 116, 32] ++ (T.nm.data.toList ++ 123 :: fieldsTx (T.ns.take 0) ((T.ps.map textT).take 0))) := by simp [fieldsTx]
  rw [e1] at h1
  clear e1
  go_wp2
  go_loopw [4, 5, 30] (fun _ _ i wr => FieldRel T l w0 w b (.slice An T.ns.length cn) (.slice Ap T.ps.length cp) i wr) (fun _ _ i _ => T.ps.length - (intOf i).toNat)
  case atStart => exact ⟨0, Nat.zero_le _, rfl, h1, b1, x1, k1⟩
  case round =>
    clear h1 b1 x1 k1 q1 q2 q3
    obtain ⟨k, hk', rfl, h1, b1, x1, k1⟩ := hrel
    have q2 := k1.cell 2 _ rfl
    have q3 := k1.cell 3 _ rfl
    have bw := hb0.trans b1
    by_cases hlt' : k < T.ps.length
    · obtain ⟨bp, op, cs, rfl, hbl, hc, hrep⟩ := RepL.at_ T.ps _ hP k hlt'
      have hln : k < T.ns.length := by rw [HL.out]; exact hlt'
      obtain ⟨bn, on, rfl, hbn, cn0⟩ := hN.str hln
      have hn16 : T.ns[k].size ≤ 16 := (name_false (HNS.out _ (List.getElem_mem hln))).2.1
      have hlk : k < (T.ps.map textT).length := by simpa using hlt'
      have hle := fieldsTx_le HLT.out hln hlk
      have HT := Lib.hid (fieldsTx_take HLT.out hln hlk)
      simp only [List.getElem_map] at hle
      have HT2 : Hid (fieldsTx (T.ns.take (k + 1)) ((T.ps.map textT).take (k + 1)) = fieldsTx (T.ns.take k) ((T.ps.map textT).take k) ++ (textT T.ps[k] ++ 32 :: (T.ns[k].data.toList ++ [59]))) := by
        have := HT.out
        simp only [List.getElem_map] at this
        exact this
      clear HT
      have hIH := Lib.hid (IH _ (List.getElem_mem hlt'))
      have hrep' := hrep
      obtain ⟨An', cn', Ap', cp', rfl, -, -⟩ := hrep'.five
      have c0 := (bw.cell (p := ⟨bp, op + k * 5 + 0, none⟩) hbl).trans (hc 0 _ rfl)
      have c1 := (bw.cell (p := ⟨bp, op + k * 5 + 1, none⟩) hbl).trans (hc 1 _ rfl)
      have c2 := (bw.cell (p := ⟨bp, op + k * 5 + 2, none⟩) hbl).trans (hc 2 _ rfl)
      have c3 := (bw.cell (p := ⟨bp, op + k * 5 + 3, none⟩) hbl).trans (hc 3 _ rfl)
      have c4 := (bw.cell (p := ⟨bp, op + k * 5 + 4, none⟩) hbl).trans (hc 4 _ rfl)
      rw [Nat.add_zero] at c0
      clear hc hrep'
      have hlt1 := h1.lt
      have hi : (k : Int) < (T.ps.length : Int) := by omega
      have hk7 : (k : Int) < 7 := by omega
      have hi2 : (k : Int) < (T.ns.length : Int) := by omega
      generalize T.ps[k] = p at *
      generalize T.ns[k] = nk at *
      generalize fieldsTx (T.ns.take k) ((T.ps.map textT).take k) = F at *
      go_wp2_with fail
      refine (hIH.out _ w0 _ b _ hrep (bw.alloc (by omega) _) (h1.alloc _) ?hq).mono ?_
      case hq => simp; omega
      rintro e w2 ⟨rfl, h2, b2, x2⟩
      have b3 : Below w0.heap.size w w2 := b1.trans (Below.trans ((Below.refl _ _).alloc (by omega) _) b2)
      have x3 := x1.trans (BKept.trans (BKept.alloc (BKept.refl b wr) _) x2)
      have k2 := Blk.bkept (k1.alloc _) x2 (by omega) (by decide)
      have cn2 := ((hb0.trans b3).cell (p := ⟨bn, on + k, none⟩) hbn).trans cn0
      clear h1 b1 x1 k1 q2 q3 c0 c1 c2 c3 c4 bw b2 x2 hlt1
      have q2 := k2.cell 2 _ rfl
      have q3 := k2.cell 3 _ rfl
      go_wp2_with fail
      refine (bld_writeL _ _ _ _ _ h2 ?hq).mono ?_
      case hq => simp; omega
      rintro e w3 ⟨rfl, h3, b4, x4⟩
      have b5 := b3.trans b4
      have x5 := x3.trans x4
      have k3 := k2.bkept x4 (by have := h2.lt; omega) (by decide)
      clear h2 b3 x3 k2 q2 q3 b4 x4 cn2
      go_wp2
      go_roundw
      case rel =>
        refine ⟨k + 1, by omega, by go_num, ?_, b5, x5, k3⟩
        rw [HT2.out]
        simpa using h3
      case measure => (first | (simp [intOf]; done) | (simp [intOf]; omega))
    · have hi : (T.ps.length : Int) ≤ (k : Int) := by omega
      obtain rfl : k = T.ps.length := by omega
      have hlt1 := h1.lt
      have e2 : (T.ns.take T.ps.length) = T.ns := by rw [← HL.out]; exact List.take_length
      have e3 : ((T.ps.map textT).take T.ps.length) = T.ps.map textT := List.take_of_length_le (by simp)
      rw [e2, e3] at h1
      clear e2 e3
      go_wp2_with fail
      refine (bld_writeL _ _ _ _ _ h1 ?hq).mono ?_
      case hq => simp; omega
      rintro e w3 ⟨rfl, h3, b4, x4⟩
      go_wp2
      go_end0
      exact ⟨rfl, by simpa using h3, b1.trans b4, x1.trans x4⟩
def ParRel (ts : List (List UInt8)) (l : List UInt8) (w0 w : World) (b m : Nat) (a0 a1 a2 a3 a4 : Value) (i : Value) (wr : World) : Prop :=
  ∃ k : Nat, k ≤ m ∧ i = .int .i64 k ∧ Bld w0.heap.size b (Lib.byteCells (l ++ ([102, 110, 40] ++ paramsTx false true (ts.take k)))) wr ∧
    Below w0.heap.size w wr ∧ BKept b w wr ∧ Blk wr w.heap.size 25 #[a0, a1, a2, a3, a4]
theorem write_fn (d : Nat) (T : Ty) (hm : mayT (d + 1) T = true) (hk : T.k = 4) (IH : ∀ p ∈ T.ps, Wr p) : Wr T := by
  intro cs w0 w b l hr hb0 hB hl
  obtain ⟨An, cn, Ap, cp, rfl, hN, hP⟩ := hr.five
  have hcap := hr.cap
  obtain ⟨-, -, hp, -⟩ := may_fn hm hk
  have hmx := may_len hm
  rw [text_4 hk hp] at hl ⊢
  rw [hk]
  obtain ⟨m, hmm⟩ : ∃ m, T.ps.length = m + 1 := ⟨T.ps.length - 1, by have := List.length_pos_iff.2 hp; omega⟩
  have hlt := hB.lt
  have HM := Lib.hid hmm
  have HTL : Hid ((T.ps.dropLast.map textT).length = m) := by show _ = _; simp; omega
  have HTK : Hid (∀ k (h : k < m) (h2 : k < T.ps.length) (h3 : k < (T.ps.dropLast.map textT).length), (T.ps.dropLast.map textT)[k] = textT T.ps[k]) := fun k h h2 h3 => by simp
  have hL : T.ps.getLast hp = T.ps[m]'(by omega) := by rw [List.getLast_eq_getElem]; congr 1; omega
  rw [hL] at hl ⊢
  clear hL
  have hIHL := Lib.hid (IH _ (List.getElem_mem (by omega : m < T.ps.length)))
  have hPL := RepL.at_ T.ps _ hP m (by omega)
  generalize hgl : T.ps[m]'(by omega) = pl at *
  clear hgl
  have HPM := Lib.hid (paramsTx_many T.many true (T.ps.dropLast.map textT))
  have HPLE : Hid (∀ k (h : k < (T.ps.dropLast.map textT).length), (paramsTx false true ((T.ps.dropLast.map textT).take k)).length + (T.ps.dropLast.map textT)[k].length + (if k = 0 then 0 else 1) ≤ (paramsTx false true (T.ps.dropLast.map textT)).length) := fun k h => paramsTx_le h
  generalize hts : T.ps.dropLast.map textT = ts at *
  clear hts
  rw [HPM.out] at hl
  simp only [List.length_append, List.length_cons, List.length_nil] at hl
  have hmc : (m : Int) ≤ (cp : Int) := by omega
  have hm7 : (m : Int) < 7 := by omega
  rw [hmm]
  clear hmm
  have hk0 : Blk (w.alloc (.cells #[.int .i64 4, .string T.nm, .slice An T.ns.length cn, .slice Ap (m + 1) cp, .bool T.many] 25)) w.heap.size 25 #[.int .i64 4, .string T.nm, .slice An T.ns.length cn, .slice Ap (m + 1) cp, .bool T.many] := Blk.new_ _ _ _
  go_enter Try.func25, Try.ntmps25
  go_wp2_with fail
  refine (bld_writeL _ _ _ _ _ (hB.alloc _) ?hq1).mono ?_
  case hq1 => simp; omega
  rintro e w1 ⟨rfl, h1, h2, h3⟩
  have k1 := hk0.bkept h3 (by omega) (by decide)
  have b1 : Below w0.heap.size w w1 := Below.trans ((Below.refl _ _).alloc (by omega) _) h2
  have x1 := (BKept.alloc (BKept.refl b w) _).trans h3
  clear hk0 h2 h3
  have q3 := k1.cell 3 _ rfl
  have q4 := k1.cell 4 _ rfl
  have e1 : l ++ ({ data := #[102, 110, 40] } : ByteArray).data.toList = l ++ ([102, 110, 40] ++ paramsTx false true (ts.take 0)) := by simp [paramsTx]
  rw [e1] at h1
  clear e1
  go_wp2
  go_loopw [7, 8, 63] (fun _ _ i wr => ParRel ts l w0 w b m (.int .i64 4) (.string T.nm) (.slice An T.ns.length cn) (.slice Ap (m + 1) cp) (.bool T.many) i wr) (fun _ _ i _ => m - (intOf i).toNat)
  case atStart => exact ⟨0, Nat.zero_le _, rfl, h1, b1, x1, k1⟩
  case round =>
    clear h1 b1 x1 k1 q3 q4
    obtain ⟨k, hk', rfl, h1, b1, x1, k1⟩ := hrel
    have q3 := k1.cell 3 _ rfl
    have q4 := k1.cell 4 _ rfl
    have bw := hb0.trans b1
    by_cases hlt' : k < m
    · have hltp : k < T.ps.length := by have := HM.out; omega
      obtain ⟨bp, op, cs, rfl, hbl, hc, hrep⟩ := RepL.at_ T.ps _ hP k hltp
      have hlk : k < ts.length := by have := HTL.out; omega
      have hle := HPLE.out k hlk
      have HT := Lib.hid (paramsTx_take hlk)
      have htk := HTK.out k hlt' hltp hlk
      rw [htk] at hle HT
      clear htk
      have hIH := Lib.hid (IH _ (List.getElem_mem hltp))
      have hrep' := hrep
      obtain ⟨An', cn', Ap', cp', rfl, -, -⟩ := hrep'.five
      have c0 := (bw.cell (p := ⟨bp, op + k * 5 + 0, none⟩) hbl).trans (hc 0 _ rfl)
      have c1 := (bw.cell (p := ⟨bp, op + k * 5 + 1, none⟩) hbl).trans (hc 1 _ rfl)
      have c2 := (bw.cell (p := ⟨bp, op + k * 5 + 2, none⟩) hbl).trans (hc 2 _ rfl)
      have c3 := (bw.cell (p := ⟨bp, op + k * 5 + 3, none⟩) hbl).trans (hc 3 _ rfl)
      have c4 := (bw.cell (p := ⟨bp, op + k * 5 + 4, none⟩) hbl).trans (hc 4 _ rfl)
      rw [Nat.add_zero] at c0
      clear hc hrep'
      have hlt1 := h1.lt
      have hi : (k : Int) < (m : Int) := by omega
      have hk7 : (k : Int) < 7 := by omega
      generalize T.ps[k] = p at *
      generalize paramsTx false true (ts.take k) = F at *
      by_cases h0 : k = 0
      · subst h0
        rw [if_pos rfl] at hle HT
        simp only [Nat.zero_mul, Nat.add_zero] at c0 c1 c2 c3 c4
        go_wp2_with fail
        refine (hIH.out _ w0 _ b _ hrep (bw.alloc (by omega) _) (h1.alloc _) ?hq2).mono ?_
        case hq2 => simp; omega
        rintro e w2 ⟨rfl, h2, b2, x2⟩
        have b3 : Below w0.heap.size w w2 := b1.trans (Below.trans ((Below.refl _ _).alloc (by omega) _) b2)
        have x3 := x1.trans (BKept.trans (BKept.alloc (BKept.refl b wr) _) x2)
        have k2 := Blk.bkept (k1.alloc _) x2 (by omega) (by decide)
        clear h1 b1 x1 k1 q3 q4 c0 c1 c2 c3 c4 bw b2 x2 hlt1
        go_wp2
        go_roundw
        case rel =>
          refine ⟨0 + 1, by omega, by go_num, ?_, b3, x3, k2⟩
          rw [HT.out]
          simpa using h2
        case measure => (first | (simp [intOf]; done) | (simp [intOf]; omega))
      · rw [if_neg h0] at hle HT
        have hk0' : (0 : Int) < (k : Int) := by omega
        go_wp2_with fail
        refine (bld_writeL _ _ _ _ _ (h1.alloc _) ?hq3).mono ?_
        case hq3 => simp; omega
        rintro e w2 ⟨rfl, h2, b2, x2⟩
        have b3 : Below w0.heap.size w w2 := b1.trans (Below.trans ((Below.refl _ _).alloc (by omega) _) b2)
        have x3 := x1.trans (BKept.trans (BKept.alloc (BKept.refl b wr) _) x2)
        have k2 := Blk.bkept (k1.alloc _) x2 (by omega) (by decide)
        have k3 := Blk.bkept (Blk.new_ wr 25 #[.int .i64 p.k, .string p.nm, .slice An' p.ns.length cn', .slice Ap' p.ps.length cp', .bool p.many]) x2 (by omega) (by decide)
        have c0 := k3.cell 0 _ rfl
        have c1 := k3.cell 1 _ rfl
        have c2 := k3.cell 2 _ rfl
        have c3 := k3.cell 3 _ rfl
        have c4 := k3.cell 4 _ rfl
        clear h1 b1 x1 k1 q3 q4 bw b2 x2 k3
        go_wp2_with fail
        refine (hIH.out _ w0 _ b _ hrep (hb0.trans b3) h2 ?hq4).mono ?_
        case hq4 => simp; omega
        rintro e w3 ⟨rfl, h3, b4, x4⟩
        have b5 := b3.trans b4
        have x5 := x3.trans x4
        have k3 := k2.bkept x4 (by have := h2.lt; omega) (by decide)
        clear h2 b3 x3 k2 c0 c1 c2 c3 c4 b4 x4 hlt1
        go_wp2
        go_roundw
        case rel =>
          refine ⟨k + 1, by omega, by go_num, ?_, b5, x5, k3⟩
          rw [HT.out]
          simpa using h3
        case measure => (first | (simp [intOf]; done) | (simp [intOf]; omega))
    · have hi : (m : Int) ≤ (k : Int) := by omega
      obtain rfl : k = m := by omega
      have hlt1 := h1.lt
      obtain ⟨bp, op, cs, rfl, hbl, hc, hrep⟩ := hPL
      have hrep' := hrep
      obtain ⟨An', cn', Ap', cp', rfl, -, -⟩ := hrep'.five
      have e3 : ts.take k = ts := List.take_of_length_le (by have := HTL.out; omega)
      rw [e3] at h1
      clear e3
      rcases hmn : T.many with _ | _
      · rw [hmn] at HPM hl q4 k1
        simp only [Bool.false_eq_true, if_false, List.append_nil] at HPM hl
        go_wp2_with fail
        refine (bld_writeL _ _ _ _ _ h1 ?hq5).mono ?_
        case hq5 => simp; omega
        rintro e w3 ⟨rfl, h3, b4, x4⟩
        have b5 := b1.trans b4
        have x5 := x1.trans x4
        have k3 := k1.bkept x4 (by omega) (by decide)
        clear h1 b1 x1 k1 q3 q4 bw b4 x4
        have q3 := k3.cell 3 _ rfl
        have bw := hb0.trans b5
        have c0 := (bw.cell (p := ⟨bp, op + k * 5 + 0, none⟩) hbl).trans (hc 0 _ rfl)
        have c1 := (bw.cell (p := ⟨bp, op + k * 5 + 1, none⟩) hbl).trans (hc 1 _ rfl)
        have c2 := (bw.cell (p := ⟨bp, op + k * 5 + 2, none⟩) hbl).trans (hc 2 _ rfl)
        have c3 := (bw.cell (p := ⟨bp, op + k * 5 + 3, none⟩) hbl).trans (hc 3 _ rfl)
        have c4 := (bw.cell (p := ⟨bp, op + k * 5 + 4, none⟩) hbl).trans (hc 4 _ rfl)
        rw [Nat.add_zero] at c0
        clear hc
        have hk7 : (k : Int) < 7 := by omega
        go_wp2_with fail
        refine (hIHL.out _ w0 _ b _ hrep bw h3 ?hq6).mono ?_
        case hq6 => simp; omega
        rintro e w4 ⟨rfl, h4, b6, x6⟩
        go_wp2
        go_end0
        exact ⟨rfl, by rw [hmn]; simpa using h4, b5.trans b6, x5.trans x6⟩
      · rw [hmn] at HPM hl q4 k1
        simp only [if_true, Bool.true_and] at HPM hl
        have hte : ts.isEmpty = decide (k = 0) := by
          have := HTL.out
          cases ts with
          | nil => simp at this; simp [← this]
          | cons x xs => simp at this; simp [← this]
        rw [hte] at HPM hl
        clear hte
        by_cases h0 : k = 0
        · have hk0 : ¬ (0 : Int) < (k : Int) := by omega
          simp only [h0, decide_true, if_true] at HPM hl
          simp only [List.length_cons, List.length_nil] at hl
          have H0 := Lib.hid h0
          clear h0
          go_wp2_with fail
          refine (bld_writeL _ _ _ _ _ h1 ?hr1).mono ?_
          case hr1 => simp; omega
          rintro e w2 ⟨rfl, h2, b2, x2⟩
          have k2 := k1.bkept x2 (by omega) (by decide)
          have b3 := b1.trans b2
          have x3 := x1.trans x2
          clear h1 b1 x1 k1 q3 q4 bw b2 x2
          go_wp2_with fail
          refine (bld_writeL _ _ _ _ _ h2 ?hr2).mono ?_
          case hr2 => simp; omega
          rintro e w3 ⟨rfl, h3, b4, x4⟩
          have b5 := b3.trans b4
          have x5 := x3.trans x4
          have k3 := k2.bkept x4 (by omega) (by decide)
          clear h2 b3 x3 k2 b4 x4
          have q3 := k3.cell 3 _ rfl
          have bw := hb0.trans b5
          have c0 := (bw.cell (p := ⟨bp, op + k * 5 + 0, none⟩) hbl).trans (hc 0 _ rfl)
          have c1 := (bw.cell (p := ⟨bp, op + k * 5 + 1, none⟩) hbl).trans (hc 1 _ rfl)
          have c2 := (bw.cell (p := ⟨bp, op + k * 5 + 2, none⟩) hbl).trans (hc 2 _ rfl)
          have c3 := (bw.cell (p := ⟨bp, op + k * 5 + 3, none⟩) hbl).trans (hc 3 _ rfl)
          have c4 := (bw.cell (p := ⟨bp, op + k * 5 + 4, none⟩) hbl).trans (hc 4 _ rfl)
          rw [Nat.add_zero] at c0
          clear hc
          have hk7 : (k : Int) < 7 := by omega
          go_wp2_with fail
          refine (hIHL.out _ w0 _ b _ hrep bw h3 ?hr3).mono ?_
          case hr3 => simp; omega
          rintro e w4 ⟨rfl, h4, b6, x6⟩
          go_wp2
          go_end0
          exact ⟨rfl, by rw [hmn, HPM.out]; simpa using h4, b5.trans b6, x5.trans x6⟩
        · have hk0 : (0 : Int) < (k : Int) := by omega
          simp only [h0, decide_false, Bool.false_eq_true, if_false] at HPM hl
          simp only [List.length_cons, List.length_nil] at hl
          go_wp2_with fail
          refine (bld_writeL _ _ _ _ _ h1 ?hr4).mono ?_
          case hr4 => simp; omega
          rintro e w1' ⟨rfl, h1', b1', x1'⟩
          have k1' := k1.bkept x1' (by omega) (by decide)
          have b1'' := b1.trans b1'
          have x1'' := x1.trans x1'
          clear h1 b1 x1 k1 q3 q4 bw b1' x1'
          go_wp2_with fail
          refine (bld_writeL _ _ _ _ _ h1' ?hr5).mono ?_
          case hr5 => simp; omega
          rintro e w2 ⟨rfl, h2, b2, x2⟩
          have k2 := k1'.bkept x2 (by omega) (by decide)
          have b3 := b1''.trans b2
          have x3 := x1''.trans x2
          clear h1' b1'' x1'' k1' b2 x2
          go_wp2_with fail
          refine (bld_writeL _ _ _ _ _ h2 ?hr6).mono ?_
          case hr6 => simp; omega
          rintro e w3 ⟨rfl, h3, b4, x4⟩
          have b5 := b3.trans b4
          have x5 := x3.trans x4
          have k3 := k2.bkept x4 (by omega) (by decide)
          clear h2 b3 x3 k2 b4 x4
          have q3 := k3.cell 3 _ rfl
          have bw := hb0.trans b5
          have c0 := (bw.cell (p := ⟨bp, op + k * 5 + 0, none⟩) hbl).trans (hc 0 _ rfl)
          have c1 := (bw.cell (p := ⟨bp, op + k * 5 + 1, none⟩) hbl).trans (hc 1 _ rfl)
          have c2 := (bw.cell (p := ⟨bp, op + k * 5 + 2, none⟩) hbl).trans (hc 2 _ rfl)
          have c3 := (bw.cell (p := ⟨bp, op + k * 5 + 3, none⟩) hbl).trans (hc 3 _ rfl)
          have c4 := (bw.cell (p := ⟨bp, op + k * 5 + 4, none⟩) hbl).trans (hc 4 _ rfl)
          rw [Nat.add_zero] at c0
          clear hc
          have hk7 : (k : Int) < 7 := by omega
          go_wp2_with fail
          refine (hIHL.out _ w0 _ b _ hrep bw h3 ?hr7).mono ?_
          case hr7 => simp; omega
          rintro e w4 ⟨rfl, h4, b6, x6⟩
          go_wp2
          go_end0
          exact ⟨rfl, by rw [hmn, HPM.out]; simpa using h4, b5.trans b6, x5.trans x6⟩
theorem write_any : ∀ (d : Nat) (T : Ty), mayT d T = true → Wr T
  | 0, T, h => by cases h
  | d + 1, T, h => by
    rcases may_kind h with k | k | k | k
    · exact write_int T k
    · exact write_long T k
    · exact write_struct d T h k fun p hp => write_any d p ((may_st h k).2.2.2.1 p hp)
    · exact write_fn d T h k fun p hp => write_any d p ((may_fn h k).2.2.2 p hp)
end Go.Proofs.Ytkjlmllhhfacfaa
