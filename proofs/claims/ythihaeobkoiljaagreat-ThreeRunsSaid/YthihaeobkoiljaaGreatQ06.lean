/- Lemmas for the law. -/
import Derived.Test.YthihaeobkoiljaaGreatQ05
set_option linter.unusedVariables false
set_option linter.unusedSimpArgs false
set_option maxRecDepth 100000
set_option maxHeartbeats 40000000
namespace Go.Proofs.YthihaeobkoiljaaGreat
open Go.RowKit Go.Shelf
theorem fieldsTx_snoc : ∀ (ns : List ByteArray) (ts : List (List UInt8)) (n : ByteArray) (t : List UInt8), ns.length = ts.length → fieldsTx (ns ++ [n]) (ts ++ [t]) = fieldsTx ns ts ++ (t ++ 32 :: (n.data.toList ++ [59]))
 | [], [], n, t, _ => by simp [fieldsTx]
 | m :: ns, u :: ts, n, t, h => by
  simp only [List.cons_append, fieldsTx]
  rw [fieldsTx_snoc ns ts n t (by simpa using h)]
  simp
 | [], _ :: _, _, _, h => by simp at h
 | _ :: _, [], _, _, h => by simp at h
theorem fieldsTx_app : ∀ (ns ms : List ByteArray) (ts us : List (List UInt8)), ns.length = ts.length → fieldsTx (ns ++ ms) (ts ++ us) = fieldsTx ns ts ++ fieldsTx ms us
 | [], ms, [], us, _ => by simp [fieldsTx]
 | m :: ns, ms, u :: ts, us, h => by
  simp only [List.cons_append, fieldsTx]
  rw [fieldsTx_app ns ms ts us (by simpa using h)]
  simp
 | [], _, _ :: _, _, h => by simp at h
 | _ :: _, _, [], _, h => by simp at h
theorem fieldsTx_take {ns : List ByteArray} {ts : List (List UInt8)} (h : ns.length = ts.length) {k : Nat} (hn : k < ns.length) (ht : k < ts.length) :
 fieldsTx (ns.take (k + 1)) (ts.take (k + 1)) = fieldsTx (ns.take k) (ts.take k) ++ (ts[k] ++ 32 :: (ns[k].data.toList ++ [59])) := by
 rw [List.take_succ_eq_append_getElem hn, List.take_succ_eq_append_getElem ht, fieldsTx_snoc _ _ _ _ (by simp; omega)]
theorem fieldsTx_le {ns : List ByteArray} {ts : List (List UInt8)} (h : ns.length = ts.length) {k : Nat} (hn : k < ns.length) (ht : k < ts.length) :
 (fieldsTx (ns.take k) (ts.take k)).length + ts[k].length + ns[k].size + 2 ≤ (fieldsTx ns ts).length := by
 have h1 := fieldsTx_app (ns.take (k + 1)) (ns.drop (k + 1)) (ts.take (k + 1)) (ts.drop (k + 1)) (by simp; omega)
 rw [List.take_append_drop, List.take_append_drop, fieldsTx_take h hn ht] at h1
 rw [h1]
 simp
 omega
theorem paramsTx_snoc : ∀ (first : Bool) (ts : List (List UInt8)) (t : List UInt8), paramsTx false first (ts ++ [t]) = paramsTx false first ts ++ (if first && ts.isEmpty then t else 44 :: t)
 | first, [], t => by cases first <;> simp [paramsTx]
 | first, u :: ts, t => by
  simp only [List.cons_append, paramsTx]
  rw [paramsTx_snoc false ts t]
  simp
theorem paramsTx_many : ∀ (many first : Bool) (ts : List (List UInt8)), paramsTx many first ts = paramsTx false first ts ++ (if many then (if first && ts.isEmpty then [46, 46, 46] else [44, 46, 46, 46]) else [])
 | many, first, [] => by cases many <;> cases first <;> simp [paramsTx]
 | many, first, u :: ts => by
  simp only [paramsTx]
  rw [paramsTx_many many false ts]
  simp
theorem paramsTx_app (first : Bool) (us : List (List UInt8)) : ∀ (ts : List (List UInt8)), (paramsTx false first us).length ≤ (paramsTx false first (us ++ ts)).length
 | [] => by simp
 | t :: ts => by
  have h1 := paramsTx_app first (us ++ [t]) ts
  rw [paramsTx_snoc] at h1
  rw [List.append_assoc] at h1
  simp only [List.length_append, List.cons_append, List.nil_append] at h1
  omega
termination_by ts => ts.length
theorem paramsTx_take {ts : List (List UInt8)} {k : Nat} (h : k < ts.length) : paramsTx false true (ts.take (k + 1)) = paramsTx false true (ts.take k) ++ (if k = 0 then ts[k] else 44 :: ts[k]) := by
 rw [List.take_succ_eq_append_getElem h, paramsTx_snoc]
 by_cases hk : k = 0
 ·subst hk; simp
 ·rw [if_neg hk]
  have : (ts.take k).isEmpty = false := by
   rcases he : (ts.take k).isEmpty with _ | _
   ·rfl
   ·simp at he; rcases he with he | he
    ·exact absurd he hk
    ·subst he; simp at h
  simp [this]
theorem paramsTx_le {ts : List (List UInt8)} {k : Nat} (h : k < ts.length) : (paramsTx false true (ts.take k)).length + ts[k].length + (if k = 0 then 0 else 1) ≤ (paramsTx false true ts).length := by
 have h1 := paramsTx_app true (ts.take (k + 1)) (ts.drop (k + 1))
 rw [List.take_append_drop, paramsTx_take h] at h1
 by_cases hk : k = 0
 ·rw [if_pos hk] at h1 ⊢; simp at h1 ⊢; omega
 ·rw [if_neg hk] at h1 ⊢; simp at h1 ⊢; omega
theorem Bld.alloc {B b : Nat} {bs : List Value} {w : World} (h : Bld B b bs w) (o : Obj) : Bld B b bs (w.alloc o) := h.elim (fun x => .inl (x.alloc o)) (fun x => .inr (x.alloc o))
theorem Bld.lt {B b : Nat} {bs : List Value} {w : World} (h : Bld B b bs w) : B ≤ b ∧ b < w.heap.size := h.elim (fun x => ⟨x.1, x.lt⟩) (fun x => ⟨x.1, x.lt⟩)
theorem BKept.alloc {b : Nat} {w w' : World} (h : BKept b w w') (o : Obj) : BKept b w (w'.alloc o) := Lib.OthersKept.alloc h o
theorem BKept.refl (b : Nat) (w : World) : BKept b w w := Lib.OthersKept.refl _ _ _
theorem BKept.trans {b : Nat} {u v w : World} (h : BKept b u v) (k : BKept b v w) : BKept b u w := Lib.OthersKept.trans h k
theorem Blk.bkept {w w' : World} {b k : Nat} {t : TypeId} {cs : Array Value} (h : Blk w k t cs) (hk : BKept b w w') (hb : k ≠ b) (ht : t ≠ 5) : Blk w' k t cs :=
 hk k _ h (fun e => hb (by simpa using e)) (fun c fz e => ht (by injection e))
theorem bld_writeL (B b : Nat) (l : List UInt8) (s : ByteArray) (w : World) (h : Bld B b (Lib.byteCells l) w) (hlen : l.length + s.data.toList.length ≤ 140737488355328) :
 Calls Tryz.prog 89 #[.pointer (some ⟨b, 0, none⟩), .string s] w fun e w' => e = .returned (.tuple #[.int .i64 s.size, .nilIface]) ∧ (Bld B b (Lib.byteCells (l ++ s.data.toList)) w' ∧ Below B w w' ∧ BKept b w w') := by
 have h1 := bld_write B b (Lib.byteCells l) s w h (by simpa [Lib.byteCells] using hlen) (by have := h.lt; omega)
 have e : Lib.byteCells l ++ Lib.strCells s = Lib.byteCells (l ++ s.data.toList) := by simp [Lib.byteCells, Lib.strCells]
 rw [e] at h1
 exact h1
def Wr (T : Ty) : Prop := ∀ (cs : List Value) (w0 w : World) (b : Nat) (l : List UInt8), Rep w0 T cs → Below w0.heap.size w0 w → Bld w0.heap.size b (Lib.byteCells l) w → l.length + (textT T).length ≤ 140737488355328 →
 Calls Tryz.prog 68 #[.pointer (some ⟨b, 0, none⟩), .agg cs.toArray] w fun e w' => e = .returned (.tuple #[]) ∧ (Bld w0.heap.size b (Lib.byteCells (l ++ textT T)) w' ∧ Below w0.heap.size w w' ∧ BKept b w w')
theorem write_int (T : Ty) (hk : T.k = 1) : Wr T := by
 intro cs w0 w b l hr hb0 hB hl
 obtain ⟨An, cn, Ap, cp, rfl, -, -⟩ := hr.five
 rw [text_1 hk] at hl ⊢
 rw [hk]
 have hlt := hB.lt
 simp at hl
 go_enter Tryz.func68, Tryz.ntmps68
 go_wp2_with fail
 refine (bld_writeL _ _ _ _ _ (hB.alloc _) ?hq).mono ?_
 case hq => simp; omega
 rintro e w1 ⟨rfl, h1, h2, h3⟩
 go_wp2
 go_end0
 exact ⟨rfl, h1, Below.trans ((Below.refl _ _).alloc (by omega) _) h2, ((BKept.refl _ _).alloc _).trans h3⟩
theorem write_long (T : Ty) (hk : T.k = 2) : Wr T := by
 intro cs w0 w b l hr hb0 hB hl
 obtain ⟨An, cn, Ap, cp, rfl, -, -⟩ := hr.five
 rw [text_2 hk] at hl ⊢
 rw [hk]
 have hlt := hB.lt
 simp at hl
 go_enter Tryz.func68, Tryz.ntmps68
 go_wp2_with fail
 refine (bld_writeL _ _ _ _ _ (hB.alloc _) ?hq).mono ?_
 case hq => simp; omega
 rintro e w1 ⟨rfl, h1, h2, h3⟩
 go_wp2
 go_end0
 exact ⟨rfl, h1, Below.trans ((Below.refl _ _).alloc (by omega) _) h2, ((BKept.refl _ _).alloc _).trans h3⟩
def FieldRel (T : Ty) (l : List UInt8) (w0 w : World) (b : Nat) (vn vp : Value) (i : Value) (wr : World) : Prop :=
 ∃ k : Nat, k ≤ T.ps.length ∧ i = .int .i64 k ∧ Bld w0.heap.size b (Lib.byteCells (l ++ ([115, 116, 114, 117, 99, 116, 32] ++ (T.nm.data.toList ++ 123 :: fieldsTx (T.ns.take k) ((T.ps.map textT).take k))))) wr ∧
  Below w0.heap.size w wr ∧ BKept b w wr ∧ Blk wr w.heap.size 34 #[.int .i64 3, .string T.nm, vn, vp, .bool T.many]
theorem write_struct (d : Nat) (T : Ty) (hm : mayT (d + 1) T = true) (hk : T.k = 3) (IH : ∀ p ∈ T.ps, Wr p) : Wr T := by
 intro cs w0 w b l hr hb0 hB hl
 obtain ⟨An, cn, Ap, cp, rfl, hN, hP⟩ := hr.five
 obtain ⟨-, hnm, hlen, -, hns⟩ := may_st hm hk
 have hmx := may_len hm
 have hnm16 : T.nm.size ≤ 16 := (name_false hnm).2.1
 rw [text_3 hk] at hl ⊢
 rw [hk]
 have hlt := hB.lt
 have HLT : Hid (T.ns.length = (T.ps.map textT).length) := by show _ = _; simpa using hlen
 have HL := Lh hlen
 have HNS := Lh hns
 clear hlen hnm hns
 simp only [List.length_append, List.length_cons, List.length_nil, Array.length_toList, ByteArray.size_data] at hl
 have hk0 : Blk (w.alloc (.cells #[.int .i64 3, .string T.nm, .slice An T.ns.length cn, .slice Ap T.ps.length cp, .bool T.many] 34)) w.heap.size 34 #[.int .i64 3, .string T.nm, .slice An T.ns.length cn, .slice Ap T.ps.length cp, .bool T.many] := Blk.new_ _ _ _
 go_enter Tryz.func68, Tryz.ntmps68
 go_wp2_with fail
 refine (bld_writeL _ _ _ _ _ (hB.alloc _) ?hq).mono ?_
 case hq => simp; omega
 rintro e w1 ⟨rfl, h1, h2, h3⟩
 have k1 := hk0.bkept h3 (by omega) (by decide)
 have b1 : Below w0.heap.size w w1 := Below.trans ((Below.refl _ _).alloc (by omega) _) h2
 have x1 := (BKept.alloc (BKept.refl b w) _).trans h3
 clear hk0 h2 h3
 have q1 := k1.cell 1 _ rfl
 have q2 := k1.cell 2 _ rfl
 have q3 := k1.cell 3 _ rfl
 have e1 : l ++ (({ data := #[115, 116, 114, 117, 99, 116, 32] } : ByteArray) ++ T.nm ++ { data := #[123] }).data.toList = l ++ ([115, 116, 114, 117, 99, 116, 32] ++ (T.nm.data.toList ++ 123 :: fieldsTx (T.ns.take 0) ((T.ps.map textT).take 0))) := by simp [fieldsTx]
 rw [e1] at h1
 clear e1
 go_wp2
 go_loopw [4, 5, 30] (fun _ _ i wr => FieldRel T l w0 w b (.slice An T.ns.length cn) (.slice Ap T.ps.length cp) i wr) (fun _ _ i _ => T.ps.length - (intOf i).toNat)
 case atStart => exact ⟨0, Nat.zero_le _, rfl, h1, b1, x1, k1⟩
 case round =>
  clear h1 b1 x1 k1 q1 q2 q3
  obtain ⟨k, hk', rfl, h1, b1, x1, k1⟩ := hrel
  have q2 := k1.cell 2 _ rfl
  have q3 := k1.cell 3 _ rfl
  have bw := hb0.trans b1
  by_cases hlt' : k < T.ps.length
  ·obtain ⟨bp, op, cs, rfl, hbl, hc, hrep⟩ := RepL.at_ T.ps _ hP k hlt'
   have hln : k < T.ns.length := by rw [HL.out]; exact hlt'
   obtain ⟨bn, on, rfl, hbn, cn0⟩ := hN.str hln
   have hn16 : T.ns[k].size ≤ 16 := (name_false (HNS.out _ (List.getElem_mem hln))).2.1
   have hlk : k < (T.ps.map textT).length := by simpa using hlt'
   have hle := fieldsTx_le HLT.out hln hlk
   have HT := Lh (fieldsTx_take HLT.out hln hlk)
   simp only [List.getElem_map] at hle
   have HT2 : Hid (fieldsTx (T.ns.take (k + 1)) ((T.ps.map textT).take (k + 1)) = fieldsTx (T.ns.take k) ((T.ps.map textT).take k) ++ (textT T.ps[k] ++ 32 :: (T.ns[k].data.toList ++ [59]))) := by
    have := HT.out
    simp only [List.getElem_map] at this
    exact this
   clear HT
   have hIH := Lh (IH _ (List.getElem_mem hlt'))
   have hrep' := hrep
   obtain ⟨An', cn', Ap', cp', rfl, -, -⟩ := hrep'.five
   have c0 := (bw.cell (p := ⟨bp, op + k * 5 + 0, none⟩) hbl).trans (hc 0 _ rfl)
   have c1 := (bw.cell (p := ⟨bp, op + k * 5 + 1, none⟩) hbl).trans (hc 1 _ rfl)
   have c2 := (bw.cell (p := ⟨bp, op + k * 5 + 2, none⟩) hbl).trans (hc 2 _ rfl)
   have c3 := (bw.cell (p := ⟨bp, op + k * 5 + 3, none⟩) hbl).trans (hc 3 _ rfl)
   have c4 := (bw.cell (p := ⟨bp, op + k * 5 + 4, none⟩) hbl).trans (hc 4 _ rfl)
   rw [Nat.add_zero] at c0
   clear hc hrep'
   have hlt1 := h1.lt
   have hi : (k : Int) < (T.ps.length : Int) := by omega
   have hk7 : (k : Int) < 7 := by omega
   have hi2 : (k : Int) < (T.ns.length : Int) := by omega
   generalize T.ps[k] = p at *
   generalize T.ns[k] = nk at *
   generalize fieldsTx (T.ns.take k) ((T.ps.map textT).take k) = F at *
   go_wp2_with fail
   refine (hIH.out _ w0 _ b _ hrep (bw.alloc (by omega) _) (h1.alloc _) ?hq).mono ?_
   case hq => simp; omega
   rintro e w2 ⟨rfl, h2, b2, x2⟩
   have b3 : Below w0.heap.size w w2 := b1.trans (Below.trans ((Below.refl _ _).alloc (by omega) _) b2)
   have x3 := x1.trans (BKept.trans (BKept.alloc (BKept.refl b wr) _) x2)
   have k2 := Blk.bkept (k1.alloc _) x2 (by omega) (by decide)
   have cn2 := ((hb0.trans b3).cell (p := ⟨bn, on + k, none⟩) hbn).trans cn0
   clear h1 b1 x1 k1 q2 q3 c0 c1 c2 c3 c4 bw b2 x2 hlt1
   have q2 := k2.cell 2 _ rfl
   have q3 := k2.cell 3 _ rfl
   go_wp2_with fail
   refine (bld_writeL _ _ _ _ _ h2 ?hq).mono ?_
   case hq => simp; omega
   rintro e w3 ⟨rfl, h3, b4, x4⟩
   have b5 := b3.trans b4
   have x5 := x3.trans x4
   have k3 := k2.bkept x4 (by have := h2.lt; omega) (by decide)
   clear h2 b3 x3 k2 q2 q3 b4 x4 cn2
   go_wp2
   go_roundw
   case rel =>
    refine ⟨k + 1, by omega, by go_num, ?_, b5, x5, k3⟩
    rw [HT2.out]
    simpa using h3
   case measure => simp [intOf] <;> omega
  ·have hi : (T.ps.length : Int) ≤ (k : Int) := by omega
   obtain rfl : k = T.ps.length := by omega
   have hlt1 := h1.lt
   have e2 : (T.ns.take T.ps.length) = T.ns := by rw [← HL.out]; exact List.take_length
   have e3 : ((T.ps.map textT).take T.ps.length) = T.ps.map textT := List.take_of_length_le (by simp)
   rw [e2, e3] at h1
   clear e2 e3
   go_wp2_with fail
   refine (bld_writeL _ _ _ _ _ h1 ?hq).mono ?_
   case hq => simp; omega
   rintro e w3 ⟨rfl, h3, b4, x4⟩
   go_wp2
   go_end0
   exact ⟨rfl, by simpa using h3, b1.trans b4, x1.trans x4⟩
def ParRel (ts : List (List UInt8)) (l : List UInt8) (w0 w : World) (b m : Nat) (a0 a1 a2 a3 a4 : Value) (i : Value) (wr : World) : Prop :=
 ∃ k : Nat, k ≤ m ∧ i = .int .i64 k ∧ Bld w0.heap.size b (Lib.byteCells (l ++ ([102, 110, 40] ++ paramsTx false true (ts.take k)))) wr ∧
  Below w0.heap.size w wr ∧ BKept b w wr ∧ Blk wr w.heap.size 34 #[a0, a1, a2, a3, a4]
theorem write_fn (d : Nat) (T : Ty) (hm : mayT (d + 1) T = true) (hk : T.k = 4) (IH : ∀ p ∈ T.ps, Wr p) : Wr T := by
 intro cs w0 w b l hr hb0 hB hl
 obtain ⟨An, cn, Ap, cp, rfl, hN, hP⟩ := hr.five
 have hcap := hr.cap
 obtain ⟨-, -, hp, -⟩ := may_fn hm hk
 have hmx := may_len hm
 rw [text_4 hk hp] at hl ⊢
 rw [hk]
 obtain ⟨m, hmm⟩ : ∃ m, T.ps.length = m + 1 := ⟨T.ps.length - 1, by have := List.length_pos_iff.2 hp; omega⟩
 have hlt := hB.lt
 have HM := Lh hmm
 have HTL : Hid ((T.ps.dropLast.map textT).length = m) := by show _ = _; simp; omega
 have HTK : Hid (∀ k (h : k < m) (h2 : k < T.ps.length) (h3 : k < (T.ps.dropLast.map textT).length), (T.ps.dropLast.map textT)[k] = textT T.ps[k]) := fun k h h2 h3 => by simp
 have hL : T.ps.getLast hp = T.ps[m]'(by omega) := by rw [List.getLast_eq_getElem]; congr 1; omega
 rw [hL] at hl ⊢
 clear hL
 have hIHL := Lh (IH _ (List.getElem_mem (by omega : m < T.ps.length)))
 have hPL := RepL.at_ T.ps _ hP m (by omega)
 generalize hgl : T.ps[m]'(by omega) = pl at *
 clear hgl
 have HPM := Lh (paramsTx_many T.many true (T.ps.dropLast.map textT))
 have HPLE : Hid (∀ k (h : k < (T.ps.dropLast.map textT).length), (paramsTx false true ((T.ps.dropLast.map textT).take k)).length + (T.ps.dropLast.map textT)[k].length + (if k = 0 then 0 else 1) ≤ (paramsTx false true (T.ps.dropLast.map textT)).length) := fun k h => paramsTx_le h
 generalize hts : T.ps.dropLast.map textT = ts at *
 clear hts
 rw [HPM.out] at hl
 simp only [List.length_append, List.length_cons, List.length_nil] at hl
 have hmc : (m : Int) ≤ (cp : Int) := by omega
 have hm7 : (m : Int) < 7 := by omega
 rw [hmm]
 clear hmm
 have hk0 : Blk (w.alloc (.cells #[.int .i64 4, .string T.nm, .slice An T.ns.length cn, .slice Ap (m + 1) cp, .bool T.many] 34)) w.heap.size 34 #[.int .i64 4, .string T.nm, .slice An T.ns.length cn, .slice Ap (m + 1) cp, .bool T.many] := Blk.new_ _ _ _
 go_enter Tryz.func68, Tryz.ntmps68
 go_wp2_with fail
 refine (bld_writeL _ _ _ _ _ (hB.alloc _) ?hq1).mono ?_
 case hq1 => simp; omega
 rintro e w1 ⟨rfl, h1, h2, h3⟩
 have k1 := hk0.bkept h3 (by omega) (by decide)
 have b1 : Below w0.heap.size w w1 := Below.trans ((Below.refl _ _).alloc (by omega) _) h2
 have x1 := (BKept.alloc (BKept.refl b w) _).trans h3
 clear hk0 h2 h3
 have q3 := k1.cell 3 _ rfl
 have q4 := k1.cell 4 _ rfl
 have e1 : l ++ ({ data := #[102, 110, 40] } : ByteArray).data.toList = l ++ ([102, 110, 40] ++ paramsTx false true (ts.take 0)) := by simp [paramsTx]
 rw [e1] at h1
 clear e1
 go_wp2
 go_loopw [7, 8, 63] (fun _ _ i wr => ParRel ts l w0 w b m (.int .i64 4) (.string T.nm) (.slice An T.ns.length cn) (.slice Ap (m + 1) cp) (.bool T.many) i wr) (fun _ _ i _ => m - (intOf i).toNat)
 case atStart => exact ⟨0, Nat.zero_le _, rfl, h1, b1, x1, k1⟩
 case round =>
  clear h1 b1 x1 k1 q3 q4
  obtain ⟨k, hk', rfl, h1, b1, x1, k1⟩ := hrel
  have q3 := k1.cell 3 _ rfl
  have q4 := k1.cell 4 _ rfl
  have bw := hb0.trans b1
  by_cases hlt' : k < m
  ·have hltp : k < T.ps.length := by have := HM.out; omega
   obtain ⟨bp, op, cs, rfl, hbl, hc, hrep⟩ := RepL.at_ T.ps _ hP k hltp
   have hlk : k < ts.length := by have := HTL.out; omega
   have hle := HPLE.out k hlk
   have HT := Lh (paramsTx_take hlk)
   have htk := HTK.out k hlt' hltp hlk
   rw [htk] at hle HT
   clear htk
   have hIH := Lh (IH _ (List.getElem_mem hltp))
   have hrep' := hrep
   obtain ⟨An', cn', Ap', cp', rfl, -, -⟩ := hrep'.five
   have c0 := (bw.cell (p := ⟨bp, op + k * 5 + 0, none⟩) hbl).trans (hc 0 _ rfl)
   have c1 := (bw.cell (p := ⟨bp, op + k * 5 + 1, none⟩) hbl).trans (hc 1 _ rfl)
   have c2 := (bw.cell (p := ⟨bp, op + k * 5 + 2, none⟩) hbl).trans (hc 2 _ rfl)
   have c3 := (bw.cell (p := ⟨bp, op + k * 5 + 3, none⟩) hbl).trans (hc 3 _ rfl)
   have c4 := (bw.cell (p := ⟨bp, op + k * 5 + 4, none⟩) hbl).trans (hc 4 _ rfl)
   rw [Nat.add_zero] at c0
   clear hc hrep'
   have hlt1 := h1.lt
   have hi : (k : Int) < (m : Int) := by omega
   have hk7 : (k : Int) < 7 := by omega
   generalize T.ps[k] = p at *
   generalize paramsTx false true (ts.take k) = F at *
   by_cases h0 : k = 0
   ·subst h0
    rw [if_pos rfl] at hle HT
    simp only [Nat.zero_mul, Nat.add_zero] at c0 c1 c2 c3 c4
    go_wp2_with fail
    refine (hIH.out _ w0 _ b _ hrep (bw.alloc (by omega) _) (h1.alloc _) ?hq2).mono ?_
    case hq2 => simp; omega
    rintro e w2 ⟨rfl, h2, b2, x2⟩
    have b3 : Below w0.heap.size w w2 := b1.trans (Below.trans ((Below.refl _ _).alloc (by omega) _) b2)
    have x3 := x1.trans (BKept.trans (BKept.alloc (BKept.refl b wr) _) x2)
    have k2 := Blk.bkept (k1.alloc _) x2 (by omega) (by decide)
    clear h1 b1 x1 k1 q3 q4 c0 c1 c2 c3 c4 bw b2 x2 hlt1
    go_wp2
    go_roundw
    case rel =>
     refine ⟨0 + 1, by omega, by go_num, ?_, b3, x3, k2⟩
     rw [HT.out]
     simpa using h2
    case measure => simp [intOf] <;> omega
   ·rw [if_neg h0] at hle HT
    have hk0' : (0 : Int) < (k : Int) := by omega
    go_wp2_with fail
    refine (bld_writeL _ _ _ _ _ (h1.alloc _) ?hq3).mono ?_
    case hq3 => simp; omega
    rintro e w2 ⟨rfl, h2, b2, x2⟩
    have b3 : Below w0.heap.size w w2 := b1.trans (Below.trans ((Below.refl _ _).alloc (by omega) _) b2)
    have x3 := x1.trans (BKept.trans (BKept.alloc (BKept.refl b wr) _) x2)
    have k2 := Blk.bkept (k1.alloc _) x2 (by omega) (by decide)
    have k3 := Blk.bkept (Blk.new_ wr 34 #[.int .i64 p.k, .string p.nm, .slice An' p.ns.length cn', .slice Ap' p.ps.length cp', .bool p.many]) x2 (by omega) (by decide)
    have c0 := k3.cell 0 _ rfl
    have c1 := k3.cell 1 _ rfl
    have c2 := k3.cell 2 _ rfl
    have c3 := k3.cell 3 _ rfl
    have c4 := k3.cell 4 _ rfl
    clear h1 b1 x1 k1 q3 q4 bw b2 x2 k3
    go_wp2_with fail
    refine (hIH.out _ w0 _ b _ hrep (hb0.trans b3) h2 ?hq4).mono ?_
    case hq4 => simp; omega
    rintro e w3 ⟨rfl, h3, b4, x4⟩
    have b5 := b3.trans b4
    have x5 := x3.trans x4
    have k3 := k2.bkept x4 (by have := h2.lt; omega) (by decide)
    clear h2 b3 x3 k2 c0 c1 c2 c3 c4 b4 x4 hlt1
    go_wp2
    go_roundw
    case rel =>
     refine ⟨k + 1, by omega, by go_num, ?_, b5, x5, k3⟩
     rw [HT.out]
     simpa using h3
    case measure => simp [intOf] <;> omega
  ·have hi : (m : Int) ≤ (k : Int) := by omega
   obtain rfl : k = m := by omega
   have hlt1 := h1.lt
   obtain ⟨bp, op, cs, rfl, hbl, hc, hrep⟩ := hPL
   have hrep' := hrep
   obtain ⟨An', cn', Ap', cp', rfl, -, -⟩ := hrep'.five
   have e3 : ts.take k = ts := List.take_of_length_le (by have := HTL.out; omega)
   rw [e3] at h1
   clear e3
   rcases hmn : T.many with _ | _
   ·rw [hmn] at HPM hl q4 k1
    simp only [Bool.false_eq_true, if_false, List.append_nil] at HPM hl
    go_wp2_with fail
    refine (bld_writeL _ _ _ _ _ h1 ?hq5).mono ?_
    case hq5 => simp; omega
    rintro e w3 ⟨rfl, h3, b4, x4⟩
    have b5 := b1.trans b4
    have x5 := x1.trans x4
    have k3 := k1.bkept x4 (by omega) (by decide)
    clear h1 b1 x1 k1 q3 q4 bw b4 x4
    have q3 := k3.cell 3 _ rfl
    have bw := hb0.trans b5
    have c0 := (bw.cell (p := ⟨bp, op + k * 5 + 0, none⟩) hbl).trans (hc 0 _ rfl)
    have c1 := (bw.cell (p := ⟨bp, op + k * 5 + 1, none⟩) hbl).trans (hc 1 _ rfl)
    have c2 := (bw.cell (p := ⟨bp, op + k * 5 + 2, none⟩) hbl).trans (hc 2 _ rfl)
    have c3 := (bw.cell (p := ⟨bp, op + k * 5 + 3, none⟩) hbl).trans (hc 3 _ rfl)
    have c4 := (bw.cell (p := ⟨bp, op + k * 5 + 4, none⟩) hbl).trans (hc 4 _ rfl)
    rw [Nat.add_zero] at c0
    clear hc
    have hk7 : (k : Int) < 7 := by omega
    go_wp2_with fail
    refine (hIHL.out _ w0 _ b _ hrep bw h3 ?hq6).mono ?_
    case hq6 => simp; omega
    rintro e w4 ⟨rfl, h4, b6, x6⟩
    go_wp2
    go_end0
    exact ⟨rfl, by rw [hmn]; simpa using h4, b5.trans b6, x5.trans x6⟩
   ·rw [hmn] at HPM hl q4 k1
    simp only [if_true, Bool.true_and] at HPM hl
    have hte : ts.isEmpty = decide (k = 0) := by
     have := HTL.out
     cases ts with
     | nil => simp at this; simp [← this]
     | cons x xs => simp at this; simp [← this]
    rw [hte] at HPM hl
    clear hte
    by_cases h0 : k = 0
    ·have hk0 : ¬ (0 : Int) < (k : Int) := by omega
     simp only [h0, decide_true, if_true] at HPM hl
     simp only [List.length_cons, List.length_nil] at hl
     have H0 := Lh h0
     clear h0
     go_wp2_with fail
     refine (bld_writeL _ _ _ _ _ h1 ?hr1).mono ?_
     case hr1 => simp; omega
     rintro e w2 ⟨rfl, h2, b2, x2⟩
     have k2 := k1.bkept x2 (by omega) (by decide)
     have b3 := b1.trans b2
     have x3 := x1.trans x2
     clear h1 b1 x1 k1 q3 q4 bw b2 x2
     go_wp2_with fail
     refine (bld_writeL _ _ _ _ _ h2 ?hr2).mono ?_
     case hr2 => simp; omega
     rintro e w3 ⟨rfl, h3, b4, x4⟩
     have b5 := b3.trans b4
     have x5 := x3.trans x4
     have k3 := k2.bkept x4 (by omega) (by decide)
     clear h2 b3 x3 k2 b4 x4
     have q3 := k3.cell 3 _ rfl
     have bw := hb0.trans b5
     have c0 := (bw.cell (p := ⟨bp, op + k * 5 + 0, none⟩) hbl).trans (hc 0 _ rfl)
     have c1 := (bw.cell (p := ⟨bp, op + k * 5 + 1, none⟩) hbl).trans (hc 1 _ rfl)
     have c2 := (bw.cell (p := ⟨bp, op + k * 5 + 2, none⟩) hbl).trans (hc 2 _ rfl)
     have c3 := (bw.cell (p := ⟨bp, op + k * 5 + 3, none⟩) hbl).trans (hc 3 _ rfl)
     have c4 := (bw.cell (p := ⟨bp, op + k * 5 + 4, none⟩) hbl).trans (hc 4 _ rfl)
     rw [Nat.add_zero] at c0
     clear hc
     have hk7 : (k : Int) < 7 := by omega
     go_wp2_with fail
     refine (hIHL.out _ w0 _ b _ hrep bw h3 ?hr3).mono ?_
     case hr3 => simp; omega
     rintro e w4 ⟨rfl, h4, b6, x6⟩
     go_wp2
     go_end0
     exact ⟨rfl, by rw [hmn, HPM.out]; simpa using h4, b5.trans b6, x5.trans x6⟩
    ·have hk0 : (0 : Int) < (k : Int) := by omega
     simp only [h0, decide_false, Bool.false_eq_true, if_false] at HPM hl
     simp only [List.length_cons, List.length_nil] at hl
     go_wp2_with fail
     refine (bld_writeL _ _ _ _ _ h1 ?hr4).mono ?_
     case hr4 => simp; omega
     rintro e w1' ⟨rfl, h1', b1', x1'⟩
     have k1' := k1.bkept x1' (by omega) (by decide)
     have b1'' := b1.trans b1'
     have x1'' := x1.trans x1'
     clear h1 b1 x1 k1 q3 q4 bw b1' x1'
     go_wp2_with fail
     refine (bld_writeL _ _ _ _ _ h1' ?hr5).mono ?_
     case hr5 => simp; omega
     rintro e w2 ⟨rfl, h2, b2, x2⟩
     have k2 := k1'.bkept x2 (by omega) (by decide)
     have b3 := b1''.trans b2
     have x3 := x1''.trans x2
     clear h1' b1'' x1'' k1' b2 x2
     go_wp2_with fail
     refine (bld_writeL _ _ _ _ _ h2 ?hr6).mono ?_
     case hr6 => simp; omega
     rintro e w3 ⟨rfl, h3, b4, x4⟩
     have b5 := b3.trans b4
     have x5 := x3.trans x4
     have k3 := k2.bkept x4 (by omega) (by decide)
     clear h2 b3 x3 k2 b4 x4
     have q3 := k3.cell 3 _ rfl
     have bw := hb0.trans b5
     have c0 := (bw.cell (p := ⟨bp, op + k * 5 + 0, none⟩) hbl).trans (hc 0 _ rfl)
     have c1 := (bw.cell (p := ⟨bp, op + k * 5 + 1, none⟩) hbl).trans (hc 1 _ rfl)
     have c2 := (bw.cell (p := ⟨bp, op + k * 5 + 2, none⟩) hbl).trans (hc 2 _ rfl)
     have c3 := (bw.cell (p := ⟨bp, op + k * 5 + 3, none⟩) hbl).trans (hc 3 _ rfl)
     have c4 := (bw.cell (p := ⟨bp, op + k * 5 + 4, none⟩) hbl).trans (hc 4 _ rfl)
     rw [Nat.add_zero] at c0
     clear hc
     have hk7 : (k : Int) < 7 := by omega
     go_wp2_with fail
     refine (hIHL.out _ w0 _ b _ hrep bw h3 ?hr7).mono ?_
     case hr7 => simp; omega
     rintro e w4 ⟨rfl, h4, b6, x6⟩
     go_wp2
     go_end0
     exact ⟨rfl, by rw [hmn, HPM.out]; simpa using h4, b5.trans b6, x5.trans x6⟩
theorem write_any : ∀ (d : Nat) (T : Ty), mayT d T = true → Wr T
 | 0, T, h => by cases h
 | d + 1, T, h => by
  rcases may_kind h with k | k | k | k
  ·exact write_int T k
  ·exact write_long T k
  ·exact write_struct d T h k fun p hp => write_any d p ((may_st h k).2.2.2.1 p hp)
  ·exact write_fn d T h k fun p hp => write_any d p ((may_fn h k).2.2.2 p hp)
def lenB : Nat → Nat
 | 0 => 0
 | d + 1 => 7 * lenB d + 200
theorem fieldsTx_bd (L : Nat) : ∀ (ns : List ByteArray) (ts : List (List UInt8)), (∀ n ∈ ns, n.size ≤ 16) → (∀ t ∈ ts, t.length ≤ L) → (fieldsTx ns ts).length ≤ ts.length * (L + 18)
 | [], [], _, _ => by simp [fieldsTx]
 | [], _ :: _, _, _ => by simp [fieldsTx]
 | _ :: _, [], _, _ => by simp [fieldsTx]
 | n :: ns, t :: ts, hn, ht => by
  have h1 := fieldsTx_bd L ns ts (fun a h => hn a (by simp [h])) (fun a h => ht a (by simp [h]))
  have h2 := hn n (by simp)
  have h3 := ht t (by simp)
  simp only [fieldsTx, List.length_append, List.length_cons, Array.length_toList, ByteArray.size_data, Nat.succ_mul]
  omega
theorem paramsTx_bd (L : Nat) (many : Bool) : ∀ (first : Bool) (ts : List (List UInt8)), (∀ t ∈ ts, t.length ≤ L) → (paramsTx many first ts).length ≤ ts.length * (L + 1) + 4
 | first, [], _ => by cases many <;> cases first <;> simp [paramsTx]
 | first, t :: ts, ht => by
  have h1 := paramsTx_bd L many false ts (fun a h => ht a (by simp [h]))
  have h3 := ht t (by simp)
  simp only [paramsTx, List.length_append, List.length_cons, Nat.succ_mul]
  cases first <;> simp <;> omega
theorem text_bd : ∀ (d : Nat) (T : Ty), mayT d T = true → (textT T).length ≤ lenB d
 | 0, T, h => by cases h
 | d + 1, T, h => by
  have hl := may_len h
  have e : lenB (d + 1) = 7 * lenB d + 200 := rfl
  rcases may_kind h with k | k | k | k
  ·rw [text_1 k, e]; simp only [List.length_cons, List.length_nil]; omega
  ·rw [text_2 k, e]; simp only [List.length_cons, List.length_nil]; omega
  ·obtain ⟨-, hn, hln, hp, hns⟩ := may_st h k
   have h16 := (name_false hn).2.1
   have hf := fieldsTx_bd (lenB d) T.ns (T.ps.map textT) (fun n h => (name_false (hns n h)).2.1) (fun t ht => by
    obtain ⟨p, hpp, rfl⟩ := List.mem_map.1 ht
    exact text_bd d p (hp p hpp))
   have hm : (T.ps.map textT).length * (lenB d + 18) ≤ 7 * (lenB d + 18) := Nat.mul_le_mul_right _ (by simpa using hl)
   rw [text_3 k, e]
   simp only [List.length_append, List.length_cons, List.length_nil, Array.length_toList, ByteArray.size_data]
   omega
  ·obtain ⟨-, -, hne, hp⟩ := may_fn h k
   have hf := paramsTx_bd (lenB d) T.many true (T.ps.dropLast.map textT) (fun t ht => by
    obtain ⟨p, hpp, rfl⟩ := List.mem_map.1 ht
    exact text_bd d p (hp p (List.dropLast_subset _ hpp)))
   have hm : (T.ps.dropLast.map textT).length * (lenB d + 1) ≤ 6 * (lenB d + 1) := Nat.mul_le_mul_right _ (by simp; omega)
   have hg := text_bd d _ (hp _ (List.getLast_mem hne))
   rw [text_4 k hne, e]
   simp only [List.length_append, List.length_cons, List.length_nil]
   omega
noncomputable def textB (T : Ty) : ByteArray := ⟨(if may T then textT T else []).toArray⟩
theorem textB_no {T : Ty} (h : may T = false) : textB T = ⟨#[]⟩ := by simp [textB, h]
theorem textB_yes {T : Ty} (h : may T = true) : textB T = ⟨(textT T).toArray⟩ := by simp [textB, h]
theorem bytes_ext {l m : List UInt8} (h : (⟨l.toArray⟩ : ByteArray) = ⟨m.toArray⟩) : l = m := by
 injection h with h
 exact List.toArray_inj h
theorem textB_ne {T : Ty} (h : may T = true) : textB T ≠ ⟨#[]⟩ := by
 rw [textB_yes h]
 obtain ⟨c, r, e, -⟩ := text_head h
 rw [e]
 intro hh
 have := bytes_ext (m := []) hh
 cases this
theorem textB_inj {T U : Ty} (h : may T = true) (e : textB T = textB U) : may U = true ∧ T = U := by
 rcases hu : may U with _ | _
 ·rw [textB_no hu] at e
  exact absurd e (textB_ne h)
 ·rw [textB_yes h, textB_yes hu] at e
  exact ⟨rfl, text_inj h hu (bytes_ext e)⟩
theorem bld_new (w : World) (B : Nat) (hB : B ≤ w.heap.size) : Bld B w.heap.size (Lib.byteCells []) (w.alloc (.cells #[.pointer none, .slice none 0 0] 132)) :=
 .inl ⟨hB, _, heap_alloc_new w _, ⟨rfl, .inl ⟨rfl, rfl⟩⟩, by simp [Value.ownBlock]⟩
theorem text_any (T : Ty) (cs : List Value) (w : World) (hr : Rep w T cs) (hm : ML w) : Calls Tryz.prog 38 #[.agg cs.toArray] w fun e w' => e = .returned (.string (textB T)) ∧ Below w.heap.size w w' := by
 have hr0 := hr
 obtain ⟨An, cn, Ap, cp, rfl, hN, hP⟩ := hr.five
 have hb0 : Below w.heap.size w (w.alloc (.cells #[.int .i64 T.k, .string T.nm, .slice An T.ns.length cn, .slice Ap T.ps.length cp, .bool T.many] 34)) := bel
 rcases hmy : may T with _ | _
 ·rw [textB_no hmy]
  go_enter Tryz.func38, Tryz.ntmps38
  go_wp2_with fail
  refine (may_any T _ _ (Rep.keep hb0 _ _ hr0) (hm.keep hb0)).mono ?_
  rintro e w1 ⟨rfl, hb⟩
  have hb1 := hb0.trans (hb.mono (by simp))
  go_wp2
  go_ret
  exact ⟨rfl, hb1⟩
 ·rw [textB_yes hmy]
  have hbd := text_bd 4 T hmy
  have hWr := Lh (write_any 4 T hmy)
  go_enter Tryz.func38, Tryz.ntmps38
  go_wp2_with fail
  refine (may_any T _ _ (Rep.keep hb0 _ _ hr0) (hm.keep hb0)).mono ?_
  rintro e w1 ⟨rfl, hb⟩
  rw [hmy]
  have hb1 := hb0.trans (hb.mono (by simp))
  have q0 : w1.cell? ⟨w.heap.size, 0, none⟩ = some (.int .i64 T.k) := (hb.cell (p := ⟨w.heap.size, 0, none⟩) (by simp)).trans (by go_simp)
  have q1 : w1.cell? ⟨w.heap.size, 1, none⟩ = some (.string T.nm) := (hb.cell (p := ⟨w.heap.size, 1, none⟩) (by simp)).trans (by go_simp)
  have q2 : w1.cell? ⟨w.heap.size, 2, none⟩ = some (.slice An T.ns.length cn) := (hb.cell (p := ⟨w.heap.size, 2, none⟩) (by simp)).trans (by go_simp)
  have q3 : w1.cell? ⟨w.heap.size, 3, none⟩ = some (.slice Ap T.ps.length cp) := (hb.cell (p := ⟨w.heap.size, 3, none⟩) (by simp)).trans (by go_simp)
  have q4 : w1.cell? ⟨w.heap.size, 4, none⟩ = some (.bool T.many) := (hb.cell (p := ⟨w.heap.size, 4, none⟩) (by simp)).trans (by go_simp)
  have hlt1 : w.heap.size < w1.heap.size := by have := hb.size; simp at this; omega
  clear hb hb0 hmy
  go_wp2_with fail
  refine (hWr.out _ w _ _ _ hr0 (hb1.alloc hb1.size _) (bld_new _ _ hb1.size) ?hq).mono ?_
  case hq => have : lenB 4 = 80000 := rfl; simp; omega
  rintro e w2 ⟨rfl, h2, b2, x2⟩
  have b3 := hb1.trans (Below.trans ((Below.refl _ _).alloc hb1.size _) b2)
  clear q0 q1 q2 q3 q4 b2 x2
  go_wp2_with fail
  refine (bld_string _ _ _ _ h2 (by have := h2.lt; omega)).mono ?_
  rintro e w3 ⟨rfl, h3, b4, x4⟩
  go_wp2
  go_ret
  exact ⟨by simp, b3.trans b4⟩
theorem str_beq_iff (x y : ByteArray) : (x.toList == y.toList) = true ↔ x = y := by
 rw [beq_iff_eq, ByteArray.toList_eq, ByteArray.toList_eq]
 exact ⟨fun h => ByteArray.ext (Array.toList_inj.mp h), fun h => by rw [h]⟩
open Classical in
noncomputable def sameB (T U : Ty) : Bool := may T && decide (T = U)
theorem sameB_iff (T U : Ty) : sameB T U = true ↔ may T = true ∧ T = U := by simp [sameB]
theorem same_any (T U : Ty) (cs ds : List Value) (w : World) (hr : Rep w T cs) (hu : Rep w U ds) (hm : ML w) : Calls Tryz.prog 80 #[.agg cs.toArray, .agg ds.toArray] w fun e w' => e = .returned (.bool (sameB T U)) ∧ Below w.heap.size w w' := by
 have hr0 := hr
 have hu0 := hu
 obtain ⟨An, cn, Ap, cp, rfl, -, -⟩ := hr.five
 obtain ⟨Bn, dn, Bp, dp, rfl, -, -⟩ := hu.five
 have hb0 : Below w.heap.size w ((w.alloc (.cells #[.int .i64 T.k, .string T.nm, .slice An T.ns.length cn, .slice Ap T.ps.length cp, .bool T.many] 34)).alloc (.cells #[.int .i64 U.k, .string U.nm, .slice Bn U.ns.length dn, .slice Bp U.ps.length dp, .bool U.many] 34)) := bel
 go_enter Tryz.func80, Tryz.ntmps80
 go_wp2_with fail
 refine (text_any T _ _ (Rep.keep hb0 _ _ hr0) (hm.keep hb0)).mono ?_
 rintro e w1 ⟨rfl, hb⟩
 have hb1 := hb0.trans (hb.mono (by simp; omega))
 have q0 : w1.cell? ⟨w.heap.size + 1, 0, none⟩ = some (.int .i64 U.k) := (hb.cell (p := ⟨w.heap.size + 1, 0, none⟩) (by simp)).trans (by go_simp)
 have q1 : w1.cell? ⟨w.heap.size + 1, 1, none⟩ = some (.string U.nm) := (hb.cell (p := ⟨w.heap.size + 1, 1, none⟩) (by simp)).trans (by go_simp)
 have q2 : w1.cell? ⟨w.heap.size + 1, 2, none⟩ = some (.slice Bn U.ns.length dn) := (hb.cell (p := ⟨w.heap.size + 1, 2, none⟩) (by simp)).trans (by go_simp)
 have q3 : w1.cell? ⟨w.heap.size + 1, 3, none⟩ = some (.slice Bp U.ps.length dp) := (hb.cell (p := ⟨w.heap.size + 1, 3, none⟩) (by simp)).trans (by go_simp)
 have q4 : w1.cell? ⟨w.heap.size + 1, 4, none⟩ = some (.bool U.many) := (hb.cell (p := ⟨w.heap.size + 1, 4, none⟩) (by simp)).trans (by go_simp)
 clear hb hb0
 rcases hmy : may T with _ | _
 ·have hs : Hid (sameB T U = false) := by show _ = _; simp [sameB, hmy]
  rw [textB_no hmy]
  go_wp2
  go_ret
  exact ⟨by rw [hs.out]; rfl, hb1⟩
 ·have hne := textB_ne hmy
  have hs : Hid (sameB T U = ((textB T).toList == (textB U).toList)) := by
   show _ = _
   rw [Bool.eq_iff_iff, sameB_iff, str_beq_iff]
   exact ⟨fun h => by rw [h.2], fun h => ⟨hmy, (textB_inj hmy h).2⟩⟩
  generalize textB T = s at *
  have t1 : s.toList.isEmpty = false := by
   rcases hh : s.toList.isEmpty with _ | _
   ·rfl
   ·exact absurd (empty_of hh) hne
  have HN := Lh hne
  clear hne
  go_wp2_with fail
  refine (text_any U _ _ (Rep.keep hb1 _ _ hu0) (hm.keep hb1)).mono ?_
  rintro e w2 ⟨rfl, hb2⟩
  go_wp2
  go_ret
  exact ⟨by rw [hs.out]; rfl, hb1.trans (hb2.mono hb1.size)⟩
end Go.Proofs.YthihaeobkoiljaaGreat
namespace Go.Proofs.YthihaeobkoiljaaGreat
open Go.RowKit
noncomputable def cntB (T : Ty) : Bool := ((T.k == 1) || (T.k == 2)) && may T
theorem counts_any (T : Ty) (cs : List Value) (w : World) (hr : Rep w T cs) : Calls Tryz.prog 42 #[.agg cs.toArray] w fun e w' => e = .returned (.bool (cntB T)) ∧ Below w.heap.size w w' := by
 have hr0 := hr
 obtain ⟨An, cn, Ap, cp, rfl, -, -⟩ := hr.five
 have b0 : Below w.heap.size w (w.alloc (.cells #[.int .i64 T.k, .string T.nm, .slice An T.ns.length cn, .slice Ap T.ps.length cp, .bool T.many] 34)) := bel
 have HC := Lh (mayRef_any T _ _ (Rep.keep b0 _ _ hr0))
 have HB := Lh b0
 have HQ : Hid (cntB T = (((T.k == 1) || (T.k == 2)) && may T)) := rfl
 rw [HQ.out]
 clear hr hr0 b0
 rcases e1 : (T.k == 1) with _ | _
 ·rcases e2 : (T.k == 2) with _ | _
  ·go_enter Tryz.func42, Tryz.ntmps42
   go_wp2_with fail
   go_ret
   exact ⟨rfl, HB.out⟩
  ·go_enter Tryz.func42, Tryz.ntmps42
   go_wp2_with fail
   ((with_reducible refine (HC.out).mono ?_); rintro e w2 ⟨rfl, hb2⟩)
   go_wp2
   go_ret
   exact ⟨rfl, HB.out.trans (hb2.mono HB.out.size)⟩
 ·go_enter Tryz.func42, Tryz.ntmps42
  go_wp2_with fail
  ((with_reducible refine (HC.out).mono ?_); rintro e w2 ⟨rfl, hb2⟩)
  go_wp2
  go_ret
  exact ⟨rfl, HB.out.trans (hb2.mono HB.out.size)⟩
theorem number_any (T : Ty) (cs : List Value) (w : World) (hr : Rep w T cs) (hm : ML w) : Calls Tryz.prog 39 #[.agg cs.toArray] w fun e w' => e = .returned (.bool (cntB T)) ∧ Below w.heap.size w w' := by
 have hr0 := hr
 obtain ⟨An, cn, Ap, cp, rfl, -, -⟩ := hr.five
 have k0 := Blk.new_ w 34 #[.int .i64 T.k, .string T.nm, .slice An T.ns.length cn, .slice Ap T.ps.length cp, .bool T.many]
 have b0 : Below w.heap.size w (w.alloc (.cells #[.int .i64 T.k, .string T.nm, .slice An T.ns.length cn, .slice Ap T.ps.length cp, .bool T.many] 34)) := bel
 have HC := Lh (may_any T _ _ (Rep.keep b0 _ _ hr0) (hm.keep b0))
 have HB := Lh b0
 have HQ : Hid (cntB T = (((T.k == 1) || (T.k == 2)) && may T)) := rfl
 rw [HQ.out]
 clear hr hr0 b0 hm
 go_enter Tryz.func39, Tryz.ntmps39
 go_wp2_with fail
 generalize (w.alloc (.cells #[.int .i64 T.k, .string T.nm, .slice An T.ns.length cn, .slice Ap T.ps.length cp, .bool T.many] 34)) = w1 at *
 ((with_reducible refine (HC.out).mono ?_); rintro e w2 ⟨rfl, hb2⟩)
 have b2 := HB.out.trans (hb2.mono HB.out.size)
 have k2 := k0.below hb2
 have c0 := k2.cell 0 _ rfl
 rcases e0 : may T with _ | _
 ·go_wp2_with fail
  go_ret
  exact ⟨by rw [e0, Bool.and_false]; rfl, b2⟩
 ·rcases e1 : (T.k == 1) with _ | _
  ·rcases e2 : (T.k == 2) with _ | _
   ·go_wp2_with fail
    go_ret
    exact ⟨by rw [e0, e1, e2]; rfl, b2⟩
   ·go_wp2_with fail
    go_ret
    exact ⟨by rw [e0, e1, e2]; rfl, b2⟩
  ·go_wp2_with fail
   go_ret
   exact ⟨by rw [e0, e1]; rfl, b2⟩
/-! what a name is -/
def idx (l : List ByteArray) (s : ByteArray) : Option Nat := l.findIdx? fun x => decide (x = s)
def giv (u : Un) (s : ByteArray) : Int × Nat :=
 match idx (u.bs.map (·.nm)) s with
 | some i => (1, i)
 | none => match idx (u.gs.map (·.nm)) s with
  | some i => (2, i)
  | none => match idx (u.os.map (·.nm)) s with
   | some i => (3, i)
   | none => (0, 0)
theorem idx_some {l : List ByteArray} {s : ByteArray} {k : Nat} (hk : k < l.length) (h : l[k] = s) (hn : ∀ j (h : j < l.length), j < k → l[j] ≠ s) : idx l s = some k := by
 unfold idx
 rw [List.findIdx?_eq_some_iff_getElem]
 exact ⟨hk, by simp [h], fun j hj => by simp [hn j (by omega) hj]⟩
theorem idx_none {l : List ByteArray} {s : ByteArray} (hn : ∀ j (h : j < l.length), l[j] ≠ s) : idx l s = none := by
 unfold idx
 rw [List.findIdx?_eq_none_iff]
 intro x hx
 obtain ⟨j, hj, rfl⟩ := List.getElem_of_mem hx
 simp [hn j hj]
def GivRel (l : List ByteArray) (s : ByteArray) (w : World) (i : Value) (wr : World) : Prop := ∃ k : Nat, k ≤ l.length ∧ i = .int .i64 k ∧ (∀ j (h : j < l.length), j < k → l[j] ≠ s) ∧ ∃ n, wr = w.drewN n
theorem str_ne {x y : ByteArray} (h : ¬ x = y) : (x.toList == y.toList) = false := by
 rw [Bool.eq_false_iff]
 intro e
 exact h ((str_beq_iff x y).1 e)
theorem RepS.at {α : Type} {k : Nat} {R : World → α → List Value → Prop} {w : World} {A : Option Addr} {l : List α} (h : RepS k R w A l) {i : Nat} (hi : i < l.length) : ∃ b o cs, A = some ⟨b, o, none⟩ ∧ b < w.heap.size ∧ R w l[i] cs ∧ ∀ W, Below w.heap.size w W → ∀ j v, cs[j]? = some v → W.cell? ⟨b, o + i * k + j, none⟩ = some v := by
 obtain ⟨b, o, cs, hA, hlt, -, hc, hr⟩ := h i hi
 exact ⟨b, o, cs, hA, hlt, hr, fun W hW j v hj => (hW.cell hlt).trans (hc j v hj)⟩
theorem RepB.nm {w : World} {b : Bo} {cs : List Value} (h : RepB w b cs) : cs[0]? = some (.string b.nm) := by
 obtain ⟨tc, A, c, rfl, -⟩ := h
 rfl
theorem RepG.nm {w : World} {b : Gl} {cs : List Value} (h : RepG w b cs) : cs[0]? = some (.string b.nm) := by
 obtain ⟨tc, rfl, -⟩ := h
 rfl
theorem RepX.nm {w : World} {b : Ou} {cs : List Value} (h : RepX w b cs) : cs[0]? = some (.string b.nm) := by
 obtain ⟨tc, rfl, -⟩ := h
 rfl
def GivOut (u : Un) (s : ByteArray) (w : World) (e : Ending) (w' : World) : Prop := e = .returned (.tuple #[.int .i64 (giv u s).1, .int .i64 ((giv u s).2 : Int)]) ∧ Below w.heap.size w w'
theorem given_any (u : Un) (s : ByteArray) (cs : List Value) (w : World) (hr : RepU w u cs) : Calls Tryz.prog 59 #[.agg cs.toArray, .string s] w (GivOut u s w) := by
 obtain ⟨A, a, B, b, C, c, rfl, rA, rB, rC, lA, lB, lC⟩ := hr
 unfold maxLen at lA lB lC
 have k0 := Blk.new_ w 29 #[.slice A u.bs.length a, .slice B u.gs.length b, .slice C u.os.length c]
 have b0 : Below w.heap.size w (w.alloc (.cells #[.slice A u.bs.length a, .slice B u.gs.length b, .slice C u.os.length c] 29)) := bel
 have HA := Lh rA
 have HB := Lh rB
 have HC := Lh rC
 have HG : Hid (giv u s = giv u s) := rfl
 have HU : Hid (giv u s = match idx (u.bs.map (·.nm)) s with
 | some i => (1, i)
 | none => match idx (u.gs.map (·.nm)) s with
  | some i => (2, i)
  | none => match idx (u.os.map (·.nm)) s with
   | some i => (3, i)
   | none => (0, 0)) := rfl
 unfold GivOut
 generalize giv u s = R at *
 clear HG rA rB rC
 go_enter Tryz.func59, Tryz.ntmps59
 go_wp2_with fail
 generalize hw1 : (w.alloc (.cells #[.slice A u.bs.length a, .slice B u.gs.length b, .slice C u.os.length c] 29)) = w1 at *
 clear hw1
 have c00 := k0.cell 0 _ rfl
 have c01 := k0.cell 1 _ rfl
 have c02 := k0.cell 2 _ rfl
 have B0 := Lh b0
 clear b0
 go_loopw [6] (fun i wr => GivRel (u.bs.map (·.nm)) s w1 i wr) (fun i _ => u.bs.length - (intOf i).toNat)
 case atStart => exact ⟨0, Nat.zero_le _, rfl, fun j _ h => absurd h (by omega), 0, rfl⟩
 case round =>
  obtain ⟨k, hk, rfl, hg, nd, rfl⟩ := hrel
  by_cases hlt : k < u.bs.length
  ·obtain ⟨bb, oo, cs', rfl, hbl, hrep, hc⟩ := HA.out.at hlt
   have hn := hc w1 B0.out 0 _ hrep.nm
   have hi : (k : Int) < (u.bs.length : Int) := by omega
   have hi0 : (0 : Int) ≤ (k : Int) := by omega
   have hi6 : (k : Int) < 9223372036854775807 := by omega
   rw [Nat.add_zero] at hn
   by_cases hs : u.bs[k].nm = s
   ·have hR : R = (1, k) := by rw [HU.out, idx_some (l := u.bs.map (·.nm)) (k := k) (by simpa using hlt) (by simpa using hs) hg]
    have hq := (str_beq_iff _ _).2 hs
    clear HU HA HB HC hg hs hrep hc
    generalize u.bs[k].nm = nm at *
    go_wp2_with fail
    go_ret2
    exact ⟨by rw [hR]; rfl, Below.drewN_ B0.out _⟩
   ·have hq := str_ne hs
    have HG := Lh (fun j (h : j < (u.bs.map (·.nm)).length) (hj : j < k + 1) => by
     rcases Nat.lt_or_ge j k with h1 | h1
     ·exact hg j h h1
     ·have e : j = k := by omega
      subst e
      simpa using hs)
    clear hg hs hrep hc
    generalize u.bs[k].nm = nm at *
    go_wp2_with fail
    go_roundw
    case rel => exact ⟨k + 1, by simp; omega, by go_num, HG.out, _, rfl⟩
    case measure => simp [intOf] <;> omega
  ·have hi : ¬ (k : Int) < (u.bs.length : Int) := by omega
   have hN : idx (u.bs.map (·.nm)) s = none := idx_none fun j h => hg j h (Nat.lt_of_lt_of_le (by simpa using h : j < u.bs.length) (by omega : u.bs.length ≤ k))
   replace HU : Hid (R = match idx (u.gs.map (·.nm)) s with | some i => (2, i) | none => (match idx (u.os.map (·.nm)) s with | some i => (3, i) | none => (0, 0))) := by
    show _ = _
    have h := HU.out
    rw [hN] at h
    exact h
   clear hg hN
   go_wp2_with fail
   go_loopw [7] (fun i wr => GivRel (u.gs.map (·.nm)) s w1 i wr) (fun i _ => u.gs.length - (intOf i).toNat)
   case atStart => exact ⟨0, Nat.zero_le _, rfl, fun j _ h => absurd h (by omega), _, rfl⟩
   case round =>
    obtain ⟨k, hk, rfl, hg, nd, rfl⟩ := hrel
    by_cases hlt : k < u.gs.length
    ·obtain ⟨bb, oo, cs', rfl, hbl, hrep, hc⟩ := HB.out.at hlt
     have hn := hc w1 B0.out 0 _ hrep.nm
     have hi : (k : Int) < (u.gs.length : Int) := by omega
     have hi0 : (0 : Int) ≤ (k : Int) := by omega
     have hi6 : (k : Int) < 9223372036854775807 := by omega
     rw [Nat.add_zero] at hn
     by_cases hs : u.gs[k].nm = s
     ·have hR : R = (2, k) := by rw [HU.out, idx_some (l := u.gs.map (·.nm)) (k := k) (by simpa using hlt) (by simpa using hs) hg]
      have hq := (str_beq_iff _ _).2 hs
      clear HU HA HB HC hg hs hrep hc
      generalize u.gs[k].nm = nm at *
      go_wp2_with fail
      go_ret2
      exact ⟨by rw [hR]; rfl, Below.drewN_ B0.out _⟩
     ·have hq := str_ne hs
      have HG := Lh (fun j (h : j < (u.gs.map (·.nm)).length) (hj : j < k + 1) => by
       rcases Nat.lt_or_ge j k with h1 | h1
       ·exact hg j h h1
       ·have e : j = k := by omega
        subst e
        simpa using hs)
      clear hg hs hrep hc
      generalize u.gs[k].nm = nm at *
      go_wp2_with fail
      go_roundw
      case rel => exact ⟨k + 1, by simp; omega, by go_num, HG.out, _, rfl⟩
      case measure => simp [intOf] <;> omega
    ·have hi : ¬ (k : Int) < (u.gs.length : Int) := by omega
     have hN : idx (u.gs.map (·.nm)) s = none := idx_none fun j h => hg j h (Nat.lt_of_lt_of_le (by simpa using h : j < u.gs.length) (by omega : u.gs.length ≤ k))
     replace HU : Hid (R = match idx (u.os.map (·.nm)) s with | some i => (3, i) | none => (0, 0)) := by
      show _ = _
      have h := HU.out
      rw [hN] at h
      exact h
     clear hg hN
     go_wp2_with fail
     go_loopw [8] (fun i wr => GivRel (u.os.map (·.nm)) s w1 i wr) (fun i _ => u.os.length - (intOf i).toNat)
     case atStart => exact ⟨0, Nat.zero_le _, rfl, fun j _ h => absurd h (by omega), _, rfl⟩
     case round =>
      obtain ⟨k, hk, rfl, hg, nd, rfl⟩ := hrel
      by_cases hlt : k < u.os.length
      ·obtain ⟨bb, oo, cs', rfl, hbl, hrep, hc⟩ := HC.out.at hlt
       have hn := hc w1 B0.out 0 _ hrep.nm
       have hi : (k : Int) < (u.os.length : Int) := by omega
       have hi0 : (0 : Int) ≤ (k : Int) := by omega
       have hi6 : (k : Int) < 9223372036854775807 := by omega
       rw [Nat.add_zero] at hn
       by_cases hs : u.os[k].nm = s
       ·have hR : R = (3, k) := by rw [HU.out, idx_some (l := u.os.map (·.nm)) (k := k) (by simpa using hlt) (by simpa using hs) hg]
        have hq := (str_beq_iff _ _).2 hs
        clear HU HA HB HC hg hs hrep hc
        generalize u.os[k].nm = nm at *
        go_wp2_with fail
        go_ret2
        exact ⟨by rw [hR]; rfl, Below.drewN_ B0.out _⟩
       ·have hq := str_ne hs
        have HG := Lh (fun j (h : j < (u.os.map (·.nm)).length) (hj : j < k + 1) => by
         rcases Nat.lt_or_ge j k with h1 | h1
         ·exact hg j h h1
         ·have e : j = k := by omega
          subst e
          simpa using hs)
        clear hg hs hrep hc
        generalize u.os[k].nm = nm at *
        go_wp2_with fail
        go_roundw
        case rel => exact ⟨k + 1, by simp; omega, by go_num, HG.out, _, rfl⟩
        case measure => simp [intOf] <;> omega
      ·have hi : ¬ (k : Int) < (u.os.length : Int) := by omega
       have hN : idx (u.os.map (·.nm)) s = none := idx_none fun j h => hg j h (Nat.lt_of_lt_of_le (by simpa using h : j < u.os.length) (by omega : u.os.length ≤ k))
       replace HU : Hid (R = (0, 0)) := by
        show _ = _
        have h := HU.out
        rw [hN] at h
        exact h
       clear hg hN
       go_wp2_with fail
       go_ret2
       exact ⟨by rw [HU.out]; rfl, Below.drewN_ B0.out _⟩
def zT : Ty := .mk 0 ⟨#[]⟩ [] [] false
def tyF (u : Un) (s : ByteArray) : Ty × Bool × Bool :=
 if (giv u s).1 = 1 then ((u.bs.getD (giv u s).2 default).ty, true, true)
 else if (giv u s).1 = 2 then ((u.gs.getD (giv u s).2 default).ty, false, true)
 else if (giv u s).1 = 3 then ((u.os.getD (giv u s).2 default).ty, (u.os.getD (giv u s).2 default).fn, true)
 else (zT, false, false)
theorem idx_at {l : List ByteArray} {s : ByteArray} {k : Nat} (h : idx l s = some k) : ∃ hk : k < l.length, l[k] = s ∧ ∀ j (hj : j < k), l[j] ≠ s := by
 unfold idx at h
 rw [List.findIdx?_eq_some_iff_getElem] at h
 obtain ⟨hk, h1, h2⟩ := h
 exact ⟨hk, by simpa using h1, fun j hj => by simpa using h2 j hj⟩
theorem giv_cases (u : Un) (s : ByteArray) : (∃ i, ∃ h : i < u.bs.length, giv u s = (1, i) ∧ u.bs[i].nm = s) ∨ (∃ i, ∃ h : i < u.gs.length, giv u s = (2, i) ∧ u.gs[i].nm = s) ∨ (∃ i, ∃ h : i < u.os.length, giv u s = (3, i) ∧ u.os[i].nm = s) ∨ giv u s = (0, 0) := by
 unfold giv
 rcases e1 : idx (u.bs.map (·.nm)) s with _ | i
 ·rcases e2 : idx (u.gs.map (·.nm)) s with _ | i
  ·rcases e3 : idx (u.os.map (·.nm)) s with _ | i
   ·exact .inr (.inr (.inr (by rw [e1, e2, e3])))
   ·obtain ⟨hk, h1, -⟩ := idx_at e3
    exact .inr (.inr (.inl ⟨i, by simpa using hk, by rw [e1, e2, e3], by simpa using h1⟩))
  ·obtain ⟨hk, h1, -⟩ := idx_at e2
   exact .inr (.inl ⟨i, by simpa using hk, by rw [e1, e2], by simpa using h1⟩)
 ·obtain ⟨hk, h1, -⟩ := idx_at e1
  exact .inl ⟨i, by simpa using hk, by rw [e1], by simpa using h1⟩
theorem rep_zero (w : World) : Rep w zT [.int .i64 0, .string ⟨#[]⟩, .slice none 0 0, .slice none 0 0, .bool false] := by
 unfold zT Rep
 exact ⟨none, 0, none, 0, rfl, .inl rfl, by unfold RepL; trivial⟩
theorem results_type {fn : Func} (h : fn.results = #[.cell 4 34, .tmp 5, .tmp 6]) {w : World} {b : Nat} {a0 a1 a2 a3 a4 x y : Value} {tmps : Array Value} (k : Blk w b 34 #[a0, a1, a2, a3, a4]) (h4 : tmps.getD 4 undef = .pointer (some ⟨b, 0, none⟩)) (h5 : tmps.getD 5 undef = x) (h6 : tmps.getD 6 undef = y) :
 (results fn tmps).run Tryz.prog w = .ok (.tuple #[.agg #[a0, a1, a2, a3, a4], x, y]) w := by
 have c0 := k.cell 0 _ rfl
 have c1 := k.cell 1 _ rfl
 have c2 := k.cell 2 _ rfl
 have c3 := k.cell 3 _ rfl
 have c4 := k.cell 4 _ rfl
 simp at c0 c1 c2 c3 c4
 simp only [Array.getD_eq_getD_getElem?] at h4 h5 h6
 simp [results, h, go_sem, h4, h5, h6, c0, c1, c2, c3, c4]
def TyOut (R : Ty × Bool × Bool) (w : World) (e : Ending) (w' : World) : Prop := ∃ cs : List Value, e = .returned (.tuple #[.agg cs.toArray, .bool R.2.1, .bool R.2.2]) ∧ Rep w' R.1 cs ∧ Below w.heap.size w w'
def TyOut2 (B : World) (R : Ty × Bool × Bool) (w : World) (e : Ending) (w' : World) : Prop := ∃ cs : List Value, e = .returned (.tuple #[.agg cs.toArray, .bool R.2.1, .bool R.2.2]) ∧ Rep B R.1 cs ∧ Below w.heap.size w w'
theorem RepB.ty {w : World} {b : Bo} {cs : List Value} (h : RepB w b cs) : ∃ An cn Ap cp, Rep w b.ty [.int .i64 b.ty.k, .string b.ty.nm, .slice An b.ty.ns.length cn, .slice Ap b.ty.ps.length cp, .bool b.ty.many] ∧ cs[2]? = some (.int .i64 b.ty.k) ∧ cs[3]? = some (.string b.ty.nm) ∧ cs[4]? = some (.slice An b.ty.ns.length cn) ∧ cs[5]? = some (.slice Ap b.ty.ps.length cp) ∧ cs[6]? = some (.bool b.ty.many) := by
 obtain ⟨tc, A, c, rfl, h1, -⟩ := h
 have h1' := h1
 obtain ⟨An, cn, Ap, cp, rfl, -, -⟩ := h1.five
 exact ⟨An, cn, Ap, cp, h1', rfl, rfl, rfl, rfl, rfl⟩
theorem Blk.drewC {w : World} {b : Nat} {t : TypeId} {cs : Array Value} (h : Blk w b t cs) : Blk w.drew b t cs := h
theorem Blk.set5 {w : World} {b : Nat} {t : TypeId} {a0 a1 a2 a3 a4 : Value} (h : Blk w b t #[a0, a1, a2, a3, a4]) (b0 b1 b2 b3 b4 : Value) :
 Blk (((((w.setCell ⟨b, 0, none⟩ b0).setCell ⟨b, 1, none⟩ b1).setCell ⟨b, 2, none⟩ b2).setCell ⟨b, 3, none⟩ b3).setCell ⟨b, 4, none⟩ b4) b t #[b0, b1, b2, b3, b4] := by
 have := ((((h.set_ 0 b0).set_ 1 b1).set_ 2 b2).set_ 3 b3).set_ 4 b4
 simpa using this
theorem below_set5 {B : Nat} {u w : World} {b : Nat} (h : Below B u w) (hB : B ≤ b) (b0 b1 b2 b3 b4 : Value) :
 Below B u (((((w.setCell ⟨b, 0, none⟩ b0).setCell ⟨b, 1, none⟩ b1).setCell ⟨b, 2, none⟩ b2).setCell ⟨b, 3, none⟩ b3).setCell ⟨b, 4, none⟩ b4) :=
 ((((h.setCell (p := ⟨b, 0, none⟩) hB _).setCell (p := ⟨b, 1, none⟩) hB _).setCell (p := ⟨b, 2, none⟩) hB _).setCell (p := ⟨b, 3, none⟩) hB _).setCell (p := ⟨b, 4, none⟩) hB _
theorem ty_out {R : Ty × Bool × Bool} {T : Ty} {x y : Bool} {B w w' : World} {a0 a1 a2 a3 a4 : Value} (hR : R = (T, x, y)) (hr : Rep B T [a0, a1, a2, a3, a4]) (hb : Below w.heap.size w w') : TyOut2 B R w (.returned (.tuple #[.agg #[a0, a1, a2, a3, a4], .bool x, .bool y])) w' := by
 subst hR
 exact ⟨_, rfl, hr, hb⟩
theorem RepG.ty5 {w : World} {b : Gl} {cs : List Value} (h : RepG w b cs) : ∃ An cn Ap cp, Rep w b.ty [.int .i64 b.ty.k, .string b.ty.nm, .slice An b.ty.ns.length cn, .slice Ap b.ty.ps.length cp, .bool b.ty.many] ∧ cs[2]? = some (.int .i64 b.ty.k) ∧ cs[3]? = some (.string b.ty.nm) ∧ cs[4]? = some (.slice An b.ty.ns.length cn) ∧ cs[5]? = some (.slice Ap b.ty.ps.length cp) ∧ cs[6]? = some (.bool b.ty.many) := by
 obtain ⟨tc, rfl, h1, -⟩ := h
 have h1' := h1
 obtain ⟨An, cn, Ap, cp, rfl, -, -⟩ := h1.five
 exact ⟨An, cn, Ap, cp, h1', rfl, rfl, rfl, rfl, rfl⟩
theorem RepX.ty5 {w : World} {b : Ou} {cs : List Value} (h : RepX w b cs) : ∃ An cn Ap cp, Rep w b.ty [.int .i64 b.ty.k, .string b.ty.nm, .slice An b.ty.ns.length cn, .slice Ap b.ty.ps.length cp, .bool b.ty.many] ∧ cs[1]? = some (.int .i64 b.ty.k) ∧ cs[2]? = some (.string b.ty.nm) ∧ cs[3]? = some (.slice An b.ty.ns.length cn) ∧ cs[4]? = some (.slice Ap b.ty.ps.length cp) ∧ cs[5]? = some (.bool b.ty.many) ∧ cs[6]? = some (.bool b.fn) := by
 obtain ⟨tc, rfl, h1⟩ := h
 have h1' := h1
 obtain ⟨An, cn, Ap, cp, rfl, -, -⟩ := h1.five
 exact ⟨An, cn, Ap, cp, h1', rfl, rfl, rfl, rfl, rfl, rfl⟩
theorem typeOf_any2 (u : Un) (s : ByteArray) (cs : List Value) (B0' w : World) (hr : RepU B0' u cs) (hB0 : Below B0'.heap.size B0' w) : Calls Tryz.prog 28 #[.agg cs.toArray, .string s] w (TyOut2 B0' (tyF u s) w) := by
 have hr0 := hr
 obtain ⟨A, a, B, b, C, c, rfl, rA, rB, rC, lA, lB, lC⟩ := hr
 unfold maxLen at lA lB lC
 have k0 := (Blk.new_ w 29 #[.slice A u.bs.length a, .slice B u.gs.length b, .slice C u.os.length c]).alloc (.cells #[.int .i64 0, .string ⟨#[]⟩, .slice none 0 0, .slice none 0 0, .bool false] 34)
 have k1 := Blk.nxt1 w (.cells #[.slice A u.bs.length a, .slice B u.gs.length b, .slice C u.os.length c] 29) 34 #[.int .i64 0, .string ⟨#[]⟩, .slice none 0 0, .slice none 0 0, .bool false]
 have b0 : Below w.heap.size w ((w.alloc (.cells #[.slice A u.bs.length a, .slice B u.gs.length b, .slice C u.os.length c] 29)).alloc (.cells #[.int .i64 0, .string ⟨#[]⟩, .slice none 0 0, .slice none 0 0, .bool false] 34)) := bel
 have HG := Lh (given_any u s _ _ (hr0.keep (hB0.trans (b0.mono hB0.size))))
 have HA := Lh rA
 have HB := Lh rB
 have HC := Lh rC
 have B0 := Lh b0
 clear hr0 rA rB rC b0
 go_enter Tryz.func28, Tryz.ntmps28
 go_wp2_with fail
 generalize (w.alloc _).alloc _ = w1 at *
 refine (HG.out).mono ?_
 rintro e w2 ⟨rfl, hb2⟩
 have b2 := B0.out.trans (hb2.mono B0.out.size)
 have bB := hB0.trans (b2.mono hB0.size)
 replace k0 := k0.below hb2
 replace k1 := k1.below hb2
 clear HG hb2
 have c00 := k0.cell 0 _ rfl
 have c01 := k0.cell 1 _ rfl
 have c02 := k0.cell 2 _ rfl
 have hw1 := B0.out
 clear B0 lA lB lC
 have f := fun i => k1.free i
 have d0 := k1.cell 0 _ rfl
 have d1 := k1.cell 1 _ rfl
 have d2 := k1.cell 2 _ rfl
 have d3 := k1.cell 3 _ rfl
 have d4 := k1.cell 4 _ rfl
 rcases giv_cases u s with ⟨i, hi, hR, -⟩ | ⟨i, hi, hR, -⟩ | ⟨i, hi, hR, -⟩ | hR
 ·have hT : Hid (tyF u s = (u.bs[i].ty, true, true)) := by show _ = _; unfold tyF; rw [hR]; simp [List.getD_eq_getElem?_getD, hi]
  rw [hR]
  obtain ⟨bb, oo, cs', rfl, hbl, hrep, hc⟩ := HA.out.at hi
  obtain ⟨An, cn, Ap, cp, hT5, q0, q1, q2, q3, q4⟩ := hrep.ty
  have c0 := hc w2 bB _ _ q0
  have c1 := hc w2 bB _ _ q1
  have c2 := hc w2 bB _ _ q2
  have c3 := hc w2 bB _ _ q3
  have c4 := hc w2 bB _ _ q4
  have HT5 := Lh hT5
  clear hT5 q0 q1 q2 q3 q4 hc hrep HA HB HC hR
  generalize u.bs[i].ty = T at *
  have hi1 : (i : Int) < (u.bs.length : Int) := by omega
  have hi0 : (0 : Int) ≤ (i : Int) := by omega
  go_wp2_with fail
  have b5 := below_set5 b2 (by omega : w.heap.size ≤ w.heap.size + 1) (.int .i64 T.k) (.string T.nm) (.slice An T.ns.length cn) (.slice Ap T.ps.length cp) (.bool T.many)
  exact bodyPost_ret (v := .tuple _) (results_type (fn := Tryz.f28) rfl (k1.set5 _ _ _ _ _) rfl rfl rfl) rfl (ty_out hT.out HT5.out b5)
 ·have hT : Hid (tyF u s = (u.gs[i].ty, false, true)) := by show _ = _; unfold tyF; rw [hR]; simp [List.getD_eq_getElem?_getD, hi]
  rw [hR]
  obtain ⟨bb, oo, cs', rfl, hbl, hrep, hc⟩ := HB.out.at hi
  obtain ⟨An, cn, Ap, cp, hT5, q0, q1, q2, q3, q4⟩ := hrep.ty5
  have c0 := hc w2 bB _ _ q0
  have c1 := hc w2 bB _ _ q1
  have c2 := hc w2 bB _ _ q2
  have c3 := hc w2 bB _ _ q3
  have c4 := hc w2 bB _ _ q4
  have HT5 := Lh hT5
  clear hT5 q0 q1 q2 q3 q4 hc hrep HA HB HC hR
  generalize u.gs[i].ty = T at *
  have hi1 : (i : Int) < (u.gs.length : Int) := by omega
  have hi0 : (0 : Int) ≤ (i : Int) := by omega
  go_wp2_with fail
  have b5 := below_set5 b2 (by omega : w.heap.size ≤ w.heap.size + 1) (.int .i64 T.k) (.string T.nm) (.slice An T.ns.length cn) (.slice Ap T.ps.length cp) (.bool T.many)
  exact bodyPost_ret (v := .tuple _) (results_type (fn := Tryz.f28) rfl (k1.set5 _ _ _ _ _) rfl rfl rfl) rfl (ty_out hT.out HT5.out b5)
 ·have hT : Hid (tyF u s = (u.os[i].ty, u.os[i].fn, true)) := by show _ = _; unfold tyF; rw [hR]; simp [List.getD_eq_getElem?_getD, hi]
  rw [hR]
  obtain ⟨bb, oo, cs', rfl, hbl, hrep, hc⟩ := HC.out.at hi
  obtain ⟨An, cn, Ap, cp, hT5, q0, q1, q2, q3, q4, q5⟩ := hrep.ty5
  have c0 := hc w2 bB _ _ q0
  have c1 := hc w2 bB _ _ q1
  have c2 := hc w2 bB _ _ q2
  have c3 := hc w2 bB _ _ q3
  have c4 := hc w2 bB _ _ q4
  have c5 := hc w2 bB _ _ q5
  have HT5 := Lh hT5
  clear hT5 q0 q1 q2 q3 q4 q5 hc hrep HA HB HC hR
  generalize u.os[i].ty = T at *
  generalize u.os[i].fn = x at *
  have hi1 : (i : Int) < (u.os.length : Int) := by omega
  have hi0 : (0 : Int) ≤ (i : Int) := by omega
  go_upto_region 8 with (fail)
  go_region
  go_wp2_with fail
  have b5 := below_set5 b2 (by omega : w.heap.size ≤ w.heap.size + 1) (.int .i64 T.k) (.string T.nm) (.slice An T.ns.length cn) (.slice Ap T.ps.length cp) (.bool T.many)
  exact bodyPost_ret (v := .tuple _) (results_type (fn := Tryz.f28) rfl (Blk.drewC (k1.set5 _ _ _ _ _)) rfl rfl rfl) rfl (ty_out hT.out HT5.out b5.drew)
 ·have hT : Hid (tyF u s = (zT, false, false)) := by show _ = _; unfold tyF; rw [hR]; rfl
  rw [hR]
  clear hR HA HB HC
  go_wp2_with fail
  have b5 := below_set5 b2 (by omega : w.heap.size ≤ w.heap.size + 1) (.int .i64 0) (.string ⟨#[]⟩) (.slice none 0 0) (.slice none 0 0) (.bool false)
  exact bodyPost_ret (v := .tuple _) (results_type (fn := Tryz.f28) rfl (k1.set5 _ _ _ _ _) rfl rfl rfl) rfl (ty_out hT.out (rep_zero _) b5)
theorem typeOf_any (u : Un) (s : ByteArray) (cs : List Value) (w : World) (hr : RepU w u cs) : Calls Tryz.prog 28 #[.agg cs.toArray, .string s] w (TyOut (tyF u s) w) :=
 (typeOf_any2 u s cs w w hr (Below.refl _ _)).mono fun e w' ⟨cs', h1, h2, h3⟩ => ⟨cs', h1, Rep.keep h3 _ _ h2, h3⟩
end Go.Proofs.YthihaeobkoiljaaGreat
