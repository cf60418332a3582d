/- The document's words on a type's text: Text. -/
import Derived.Test.YtkjlmllhhfacfaaRefB
import Derived.Test.YtkjlmllhhfacfaaTypS
namespace Go.Proofs.Ytkjlmllhhfacfaa
open Go.RowKit
set_option linter.unusedVariables false
set_option linter.unusedSimpArgs false
set_option maxRecDepth 100000
set_option maxHeartbeats 2000000
def tB (T : Ty) : ByteArray := ⟨(textT T).toArray⟩
theorem tB_data (T : Ty) : (tB T).data.toList = textT T := by simp [tB]
theorem tB_of {T : Ty} {s : ByteArray} (h : s.data.toList = textT T) : s = tB T := Go.WideShapes.bytes_inj (h.trans (tB_data T).symm)
theorem size_data (s : ByteArray) : s.size = s.data.toList.length := by simp
def TextR (T : Ty) : Prop := ∀ (cs : List Value) (w : World), Rep w T cs → Calls Try.prog 16 #[.agg cs.toArray] w fun e w' => e = .returned (.string (tB T)) ∧ Below w.heap.size w w'
theorem textR_int (T : Ty) (hk : T.k = 1) : TextR T := by
  intro cs w hr
  obtain ⟨An, cn, Ap, cp, rfl, -, -⟩ := hr.five
  have e : Hid (tB T = ⟨#[105, 110, 116]⟩) := by show _ = _; unfold tB; rw [text_1 hk]
  rw [hk]
  go_enter Try.func16, Try.ntmps16
  go_wp2
  go_ret
  exact ⟨by rw [e.out]; rfl, by (repeat (first | with_reducible assumption | with_reducible exact Below.refl _ _ | (refine Below.setCell ?_ (by first | omega | (simp; done) | (simp; omega)) _) | (refine Below.drewN_ ?_ _) | (refine Below.drew ?_) | (refine Below.alloc ?_ (by first | omega | (simp; done) | (simp; omega)) _)))⟩
theorem textR_long (T : Ty) (hk : T.k = 2) : TextR T := by
  intro cs w hr
  obtain ⟨An, cn, Ap, cp, rfl, -, -⟩ := hr.five
  have e : Hid (tB T = ⟨#[108, 111, 110, 103]⟩) := by show _ = _; unfold tB; rw [text_2 hk]
  rw [hk]
  go_enter Try.func16, Try.ntmps16
  go_wp2
  go_ret
  exact ⟨by rw [e.out]; rfl, by (repeat (first | with_reducible assumption | with_reducible exact Below.refl _ _ | (refine Below.setCell ?_ (by first | omega | (simp; done) | (simp; omega)) _) | (refine Below.drewN_ ?_ _) | (refine Below.drew ?_) | (refine Below.alloc ?_ (by first | omega | (simp; done) | (simp; omega)) _)))⟩
def TxRel (T : Ty) (w : World) (s i : Value) (H : Nat) (bs : Array Value) (wr : World) : Prop :=
  ∃ (k : Nat) (S : ByteArray), k ≤ T.ps.length ∧ i = .int .i64 k ∧ s = .string S ∧ S.data.toList = [115, 116, 114, 117, 99, 116, 32] ++ (T.nm.data.toList ++ 123 :: fieldsTx (T.ns.take k) ((T.ps.map textT).take k)) ∧ Below w.heap.size w wr ∧ Blk wr H 25 bs
theorem textR_struct (d : Nat) (T : Ty) (hm : mayT (d + 1) T = true) (hbd : (textT T).length ≤ 80000) (hk : T.k = 3) (IH : ∀ p ∈ T.ps, TextR p) : TextR T := by
  intro cs w hr
  obtain ⟨An, cn, Ap, cp, rfl, hN, hP⟩ := hr.five
  obtain ⟨-, hnm, hlen, -, hns⟩ := may_st hm hk
  have hmx := may_len hm
  have hnm16 : T.nm.size ≤ 16 := (name_false hnm).2.1
  have HTX := Lib.hid (text_3 hk)
  rw [HTX.out] at hbd
  rw [hk]
  have HLT : Hid (T.ns.length = (T.ps.map textT).length) := by show _ = _; simpa using hlen
  have HL := Lib.hid hlen
  have HNS := Lib.hid hns
  clear hlen hnm hns
  simp only [List.length_append, List.length_cons, List.length_nil, Array.length_toList, ByteArray.size_data] at hbd
  have k0 := Blk.new_ w 25 #[.int .i64 3, .string T.nm, .slice An T.ns.length cn, .slice Ap T.ps.length cp, .bool T.many]
  go_enter Try.func16, Try.ntmps16
  go_wp2
  go_loopw [3, 4, 5] (fun s i _ wr => TxRel T w s i w.heap.size #[.int .i64 3, .string T.nm, .slice An T.ns.length cn, .slice Ap T.ps.length cp, .bool T.many] wr) (fun _ i _ _ => T.ps.length - (intOf i).toNat)
  case atStart => exact ⟨0, _, Nat.zero_le _, rfl, rfl, by simp [fieldsTx], by (repeat (first | with_reducible assumption | with_reducible exact Below.refl _ _ | (refine Below.setCell ?_ (by first | omega | (simp; done) | (simp; omega)) _) | (refine Below.drewN_ ?_ _) | (refine Below.drew ?_) | (refine Below.alloc ?_ (by first | omega | (simp; done) | (simp; omega)) _))), k0⟩
  case round =>
    clear k0
    obtain ⟨k, S, hk', rfl, rfl, hS, hb, k1⟩ := hrel
    have q := k1.five
    by_cases hlt : k < T.ps.length
    · obtain ⟨b, o, An', cn', Ap', cp', rfl, hbl, hrep, hc⟩ := (RepL.keep hb T.ps _ hP).five hlt
      have hln : k < T.ns.length := by rw [HL.out]; exact hlt
      obtain ⟨bn, on, rfl, hbn, cn0⟩ := hN.str hln
      have hbn' : bn < wr.heap.size := Nat.lt_of_lt_of_le hbn hb.size
      rw [← keep_cell hb hbn] at cn0
      have hn16 : T.ns[k].size ≤ 16 := (name_false (HNS.out _ (List.getElem_mem hln))).2.1
      have hlk : k < (T.ps.map textT).length := by simpa using hlt
      have hle := fieldsTx_le HLT.out hln hlk
      simp only [List.getElem_map] at hle
      have HT2 : Hid (fieldsTx (T.ns.take (k + 1)) ((T.ps.map textT).take (k + 1)) = fieldsTx (T.ns.take k) ((T.ps.map textT).take k) ++ (textT T.ps[k] ++ 32 :: (T.ns[k].data.toList ++ [59]))) := by
        have := fieldsTx_take HLT.out hln hlk
        simp only [List.getElem_map] at this
        exact this
      have hIH := Lib.hid (IH _ (List.getElem_mem hlt))
      have hi : (k : Int) < (T.ps.length : Int) := by omega
      have hk7 : (k : Int) < 7 := by omega
      have hi2 : (k : Int) < (T.ns.length : Int) := by omega
      have HS := Lib.hid hS
      have hSl : S.size ≤ 24 + (fieldsTx (T.ns.take k) ((T.ps.map textT).take k)).length := by
        rw [size_data, hS]
        simp only [List.length_append, List.length_cons, List.length_nil, Array.length_toList, ByteArray.size_data]
        omega
      clear hS
      have HTB : Hid ((tB T.ps[k]).data.toList = textT T.ps[k]) := tB_data _
      have hTl : (tB T.ps[k]).size = (textT T.ps[k]).length := by rw [size_data, tB_data]
      have hTl' : (tB T.ps[k]).size ≤ 80000 := by omega
      have hSl' : S.size ≤ 80100 := by omega
      clear hle hTl hSl
      generalize T.ps[k] = p at *
      generalize T.ns[k] = nk at *
      generalize fieldsTx (T.ns.take k) ((T.ps.map textT).take k) = F at *
      go_wp2_with fail
      refine (hIH.out _ _ hrep).mono ?_
      rintro e w2 ⟨rfl, hb2⟩
      have b3 := hb.trans (hb2.mono hb.size)
      have k2 := k1.below hb2
      have cn2 := (keep_cell hb2 hbn').trans cn0
      clear q k1 hc cn0
      have q := k2.five
      generalize tB p = P at *
      go_wp2
      go_roundw
      case rel =>
        refine ⟨k + 1, _, by omega, by go_num, rfl, ?_, b3, k2⟩
        rw [HT2.out]
        simp [HS.out, HTB.out]
      case measure => (first | (simp [intOf]; done) | (simp [intOf]; omega))
    · have hi : ¬ (k : Int) < (T.ps.length : Int) := by omega
      obtain rfl : k = T.ps.length := by omega
      have e2 : (T.ns.take T.ps.length) = T.ns := by rw [← HL.out]; exact List.take_length
      have e3 : ((T.ps.map textT).take T.ps.length) = T.ps.map textT := List.take_of_length_le (by simp)
      rw [e2, e3] at hS
      clear e2 e3
      have hSl : S.size ≤ 80100 := by
        rw [size_data, hS]
        simp only [List.length_append, List.length_cons, List.length_nil, Array.length_toList, ByteArray.size_data]
        omega
      have HS := Lib.hid hS
      clear hS
      go_wp2
      go_ret
      refine ⟨?_, hb⟩
      rw [← tB_of (T := T) (s := S ++ ⟨#[125]⟩) (by rw [HTX.out]; simp [HS.out])]
      rfl
theorem lenB_4 : ∀ {d : Nat}, d ≤ 4 → lenB d ≤ 80000
  | 0, _ => by decide
  | 1, _ => by decide
  | 2, _ => by decide
  | 3, _ => by decide
  | 4, _ => by decide
  | d + 5, h => absurd h (by omega)
/-- parameters with what stands behind each -/
def joinR (many : Bool) (ts : List (List UInt8)) (k : Nat) : List UInt8 := (ts.take k).flatMap (fun t => t ++ [44])
theorem params_join (many : Bool) : ∀ (first : Bool) (ts : List (List UInt8)) (t : List UInt8), paramsTx many first (ts ++ [t]) = (if first then [] else [44]) ++ ts.flatMap (fun t => t ++ [44]) ++ (t ++ (if many then [44, 46, 46, 46] else []))
  | first, [], t => by cases many <;> cases first <;> simp [paramsTx]
  | first, u :: ts, t => by
    simp only [List.cons_append, paramsTx]
    rw [params_join many false ts t]
    cases first <;> simp
theorem params_all (many : Bool) (ts : List (List UInt8)) (t : List UInt8) : paramsTx many true (ts ++ [t]) = (ts ++ [t]).flatMap (fun t => t ++ [44]) ++ (if many then [46, 46, 46] else []) ∨ many = false := by
  cases many
  · exact .inr rfl
  · left
    rw [params_join]
    simp
/-- what has been written behind k of m parameters -/
def parS (many : Bool) (ts : List (List UInt8)) (k : Nat) : List UInt8 :=
  if k < ts.length ∨ many = true then (ts.take k).flatMap (fun t => t ++ [44]) else paramsTx false true ts
theorem parS_end (many : Bool) (ts : List (List UInt8)) : paramsTx many true ts = parS many ts ts.length ++ (if many then [46, 46, 46] else []) := by
  cases many
  · simp [parS]
  · simp only [parS, or_true, if_true, List.take_length]
    rcases List.eq_nil_or_concat ts with rfl | ⟨us, t, rfl⟩
    · rfl
    · rw [List.concat_eq_append, params_join]
      simp
theorem parS_zero (many : Bool) (ts : List (List UInt8)) : parS many ts 0 = [] := by
  unfold parS
  split
  · simp
  · cases ts with
    | nil => rfl
    | cons t ts => simp_all
theorem parS_succ (many : Bool) (ts : List (List UInt8)) (k : Nat) (h : k < ts.length) : parS many ts (k + 1) = parS many ts k ++ (ts[k] ++ (if k + 1 < ts.length ∨ many = true then [44] else [])) := by
  have h0 : parS many ts k = (ts.take k).flatMap (fun t => t ++ [44]) := by unfold parS; rw [if_pos (.inl h)]
  rw [h0]
  by_cases hc : k + 1 < ts.length ∨ many = true
  · rw [if_pos hc]
    unfold parS
    rw [if_pos hc, List.take_succ_eq_append_getElem h, List.flatMap_append]
    simp only [List.flatMap_cons, List.flatMap_nil, List.append_nil, List.append_assoc]
  · rw [if_neg hc]
    unfold parS
    rw [if_neg hc]
    have hk : k + 1 = ts.length := by omega
    have e : ts = ts.take k ++ [ts[k]] := by
      rw [← List.take_succ_eq_append_getElem h, hk, List.take_length]
    conv => lhs; rw [e]
    rw [params_join]
    simp
theorem parS_len (many : Bool) (ts : List (List UInt8)) (L : Nat) (hL : ∀ t ∈ ts, t.length ≤ L) (k : Nat) (hk : k ≤ ts.length) : (parS many ts k).length ≤ k * (L + 1) := by
  induction k with
  | zero => rw [parS_zero]; simp
  | succ k ih =>
    have := ih (by omega)
    have hkl : k < ts.length := by omega
    have h1 := hL _ (List.getElem_mem hkl)
    rw [parS_succ many ts k hkl, Nat.succ_mul]
    simp only [List.length_append]
    split <;> simp <;> omega
def FnRel (T : Ty) (ts : List (List UInt8)) (m : Nat) (w : World) (s i : Value) (H : Nat) (bs : Array Value) (wr : World) : Prop :=
  ∃ (k : Nat) (S : ByteArray), k ≤ m ∧ i = .int .i64 k ∧ s = .string S ∧ S.data.toList = [102, 110, 40] ++ parS T.many ts k ∧ Below w.heap.size w wr ∧ Blk wr H 25 bs
theorem textR_fn (d : Nat) (T : Ty) (hm : mayT (d + 1) T = true) (hbd : ∀ p ∈ T.ps, (textT p).length ≤ 80000) (hk : T.k = 4) (IH : ∀ p ∈ T.ps, TextR p) : TextR T := by
  intro cs w hr
  obtain ⟨An, cn, Ap, cp, rfl, hN, hP⟩ := hr.five
  obtain ⟨-, -, hp, -⟩ := may_fn hm hk
  have hmx := may_len hm
  have HTX := Lib.hid (text_4 hk hp)
  rw [hk]
  obtain ⟨m, hmm⟩ : ∃ m, T.ps.length = m + 1 := ⟨T.ps.length - 1, by have := List.length_pos_iff.2 hp; omega⟩
  have HM := Lib.hid hmm
  have HTL : Hid ((T.ps.dropLast.map textT).length = m) := by show _ = _; simp; omega
  have HTK : Hid (∀ k (h : k < m) (h2 : k < T.ps.length) (h3 : k < (T.ps.dropLast.map textT).length), (T.ps.dropLast.map textT)[k] = textT T.ps[k]) := fun k h h2 h3 => by simp
  have HBD : Hid (∀ t ∈ T.ps.dropLast.map textT, t.length ≤ 80000) := fun t ht => by
    obtain ⟨p, hpp, rfl⟩ := List.mem_map.1 ht
    exact hbd p (List.dropLast_subset _ hpp)
  have hL : T.ps.getLast hp = T.ps[m]'(by omega) := by rw [List.getLast_eq_getElem]; congr 1; omega
  rw [hL] at HTX
  have hIHL := Lib.hid (IH _ (List.getElem_mem (by omega : m < T.ps.length)))
  have HPL := Lib.hid (fun (W : World) (hb : Below w.heap.size w W) => (RepL.keep hb T.ps _ hP).five (by omega : m < T.ps.length))
  have hbl := hbd _ (List.getElem_mem (by omega : m < T.ps.length))
  rw [show (textT (T.ps[m]'(by omega))).length = (tB (T.ps[m]'(by omega))).size from by rw [size_data, tB_data]] at hbl
  have HBL := Lib.hid (tB_data (T.ps[m]'(by omega)))
  generalize hgl : T.ps[m]'(by omega) = pl at *
  clear hgl hL
  have HPE := Lib.hid (parS_end T.many (T.ps.dropLast.map textT))
  generalize hts : T.ps.dropLast.map textT = ts at *
  clear hts
  rw [hmm]
  have hm7 : m < 7 := by omega
  have hm7' : (m : Int) < 7 := by omega
  clear hmm
  have k0 := Blk.new_ w 25 #[.int .i64 4, .string T.nm, .slice An T.ns.length cn, .slice Ap (m + 1) cp, .bool T.many]
  go_enter Try.func16, Try.ntmps16
  go_wp2
  go_loopw [6, 8, 9] (fun s i _ wr => FnRel T ts m w s i w.heap.size #[.int .i64 4, .string T.nm, .slice An T.ns.length cn, .slice Ap (m + 1) cp, .bool T.many] wr) (fun _ i _ _ => m - (intOf i).toNat)
  case atStart => exact ⟨0, _, Nat.zero_le _, rfl, rfl, by simp [parS_zero], by (repeat (first | with_reducible assumption | with_reducible exact Below.refl _ _ | (refine Below.setCell ?_ (by first | omega | (simp; done) | (simp; omega)) _) | (refine Below.drewN_ ?_ _) | (refine Below.drew ?_) | (refine Below.alloc ?_ (by first | omega | (simp; done) | (simp; omega)) _))), k0⟩
  case round =>
    clear k0
    obtain ⟨k, S, hk', rfl, rfl, hS, hb, k1⟩ := hrel
    have q := k1.five
    have hSl : S.size ≤ 600000 := by
      have h1 := parS_len T.many ts 80000 HBD.out k (by have := HTL.out; omega)
      have h2 : k * (80000 + 1) ≤ 7 * (80000 + 1) := Nat.mul_le_mul_right _ (by omega)
      rw [size_data, hS]
      simp only [List.length_append, List.length_cons, List.length_nil]
      omega
    have HS := Lib.hid hS
    clear hS
    by_cases hlt : k < m
    · have hltp : k < T.ps.length := by have := HM.out; omega
      obtain ⟨b, o, An', cn', Ap', cp', rfl, hbl', hrep, hc⟩ := (RepL.keep hb T.ps _ hP).five hltp
      have hlk : k < ts.length := by have := HTL.out; omega
      have hsu := parS_succ T.many ts k hlk
      rw [HTK.out k hlt hltp hlk, HTL.out] at hsu
      have HSU := Lib.hid hsu
      have hIH := Lib.hid (IH _ (List.getElem_mem hltp))
      have hi : (k : Int) < (m : Int) := by omega
      have hk7 : (k : Int) < 7 := by omega
      have hi2 : (k : Int) < (m : Int) + 1 := by omega
      have HTB : Hid ((tB T.ps[k]).data.toList = textT T.ps[k]) := tB_data _
      have hTl : (tB T.ps[k]).size ≤ 80000 := by
        have := hbd _ (List.getElem_mem hltp)
        rw [size_data, tB_data]; exact this
      clear hsu
      generalize T.ps[k] = p at *
      generalize parS T.many ts k = F at *
      go_wp2_with fail
      refine (hIH.out _ _ hrep).mono ?_
      rintro e w2 ⟨rfl, hb2⟩
      have b3 := hb.trans (hb2.mono hb.size)
      have k2 := k1.below hb2
      clear q k1 hc
      have q := k2.five
      generalize tB p = P at *
      by_cases hc1 : k + 1 < m
      · have g1 : (k : Int) + 1 < (m : Int) := by omega
        have hf := HSU.out
        rw [if_pos (.inl hc1)] at hf
        have HF := Lib.hid hf
        clear hf HSU
        go_wp2
        go_roundw
        case rel =>
          refine ⟨k + 1, _, by omega, by go_num, rfl, ?_, b3, k2⟩
          rw [HF.out]
          simp [HS.out, HTB.out]
        case measure => (first | (simp [intOf]; done) | (simp [intOf]; omega))
      · have g1 : ¬ (k : Int) + 1 < (m : Int) := by omega
        rcases Bool.eq_false_or_eq_true T.many with hmn | hmn
        rotate_left
        · have hf := HSU.out
          rw [if_neg (by rw [hmn]; simp; omega)] at hf
          have HF := Lib.hid hf
          have HMN := Lib.hid hmn
          have k2' := k2
          rw [hmn] at q
          clear hf HSU hmn
          go_wp2
          go_roundw
          case rel =>
            refine ⟨k + 1, _, by omega, by go_num, rfl, ?_, b3, k2'⟩
            rw [HF.out]
            simp [HS.out, HTB.out]
          case measure => (first | (simp [intOf]; done) | (simp [intOf]; omega))
        · have hf := HSU.out
          rw [if_pos (.inr hmn)] at hf
          have HF := Lib.hid hf
          have k2' := k2
          rw [hmn] at q
          clear hf HSU hmn
          go_wp2
          go_roundw
          case rel =>
            refine ⟨k + 1, _, by omega, by go_num, rfl, ?_, b3, k2'⟩
            rw [HF.out]
            simp [HS.out, HTB.out]
          case measure => (first | (simp [intOf]; done) | (simp [intOf]; omega))
    · have hi : ¬ (k : Int) < (m : Int) := by omega
      obtain rfl : k = m := by omega
      obtain ⟨b, o, An', cn', Ap', cp', rfl, hbl', hrep, hc⟩ := HPL.out _ hb
      have HPE' := HPE
      rw [HTL.out] at HPE'
      rcases hmn : T.many with _ | _
      · rw [hmn] at q
        have HMN := Lib.hid hmn
        clear hmn
        go_wp2_with fail
        refine (hIHL.out _ _ hrep).mono ?_
        rintro e w2 ⟨rfl, hb2⟩
        clear q hc k1
        generalize tB pl = P at *
        go_wp2
        go_ret
        refine ⟨?_, hb.trans (hb2.mono hb.size)⟩
        rw [← tB_of (T := T) (s := S ++ ⟨#[41]⟩ ++ P) (by rw [HTX.out, HPE'.out, HMN.out]; simp [HS.out, HBL.out, HMN.out])]
        rfl
      · rw [hmn] at q
        have HMN := Lib.hid hmn
        clear hmn
        go_wp2_with fail
        refine (hIHL.out _ _ hrep).mono ?_
        rintro e w2 ⟨rfl, hb2⟩
        clear q hc k1
        generalize tB pl = P at *
        go_wp2
        go_ret
        refine ⟨?_, hb.trans (hb2.mono hb.size)⟩
        rw [← tB_of (T := T) (s := S ++ ⟨#[46, 46, 46]⟩ ++ ⟨#[41]⟩ ++ P) (by rw [HTX.out, HPE'.out, HMN.out]; simp [HS.out, HBL.out, HMN.out])]
        rfl
theorem textR_all : ∀ (d : Nat), d ≤ 4 → ∀ (T : Ty), mayT d T = true → TextR T
  | 0, _, T, h => by cases h
  | d + 1, hd, T, h => by
    rcases may_kind h with k | k | k | k
    · exact textR_int T k
    · exact textR_long T k
    · exact textR_struct d T h (Nat.le_trans (text_bd _ _ h) (lenB_4 hd)) k fun p hp => textR_all d (by omega) p ((may_st h k).2.2.2.1 p hp)
    · exact textR_fn d T h (fun p hp => Nat.le_trans (text_bd _ _ ((may_fn h k).2.2.2 p hp)) (lenB_4 (by omega))) k fun p hp => textR_all d (by omega) p ((may_fn h k).2.2.2 p hp)
end Go.Proofs.Ytkjlmllhhfacfaa
