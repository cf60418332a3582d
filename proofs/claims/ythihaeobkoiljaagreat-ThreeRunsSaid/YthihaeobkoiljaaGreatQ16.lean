/- Lemmas for the law. -/
import Derived.Test.YthihaeobkoiljaaGreatQ15
set_option linter.unusedVariables false
set_option linter.unusedSimpArgs false
set_option maxRecDepth 100000
set_option maxHeartbeats 40000000
namespace Go.Proofs.YthihaeobkoiljaaGreat
open Go.RowKit
def i32 (x : Int) : Value := .int .i32 x
def rI (B : Nat) (v : Value) (xs : List Int) : Rc := ow B 21 1 v xs.length (xs.map i32)
def RowAt (w : World) (L : List Rc) (Sa : Option Addr) (s : List Int) : Prop := ∀ j (h : j < s.length), ∃ b o, Sa = some ⟨b, o, none⟩ ∧ ∀ Y, Hp w Y L → Y.cell? ⟨b, o + j, none⟩ = some (.int .i32 s[j])
theorem RowAt.sub {w : World} {L L' : List Rc} {Sa : Option Addr} {s : List Int} (h : RowAt w L Sa s) (hs : L.Sublist L') : RowAt w L' Sa s := fun j hj => by
 obtain ⟨b, o, e, hc⟩ := h j hj
 exact ⟨b, o, e, fun Y hY => hc Y (hY.sub hs)⟩
theorem RowAt.nil {w : World} {L : List Rc} {Sa : Option Addr} : RowAt w L Sa [] := fun j hj => by simp at hj
theorem RowAt.own {w W : World} {L : List Rc} {B c : Nat} {A : Option Addr} {s : List Int} (h : Hp w W L) (hm : rI B (.slice A s.length c) s ∈ L) : RowAt w L A s := fun j hj => by
 have h1 : W.ownsRow B 21 1 (.slice A s.length c) s.length (s.map i32) := h.ok _ hm
 obtain ⟨g, rfl, -⟩ := own_at h1 (k := j) (by simpa using hj)
 refine ⟨g, 0, rfl, fun Y hY => ?_⟩
 have h2 : Y.ownsRow B 21 1 (.slice (some ⟨g, 0, none⟩) s.length c) s.length (s.map i32) := hY.ok _ hm
 rw [Nat.zero_add]
 exact own_cell h2 j _ (by simp [i32, hj])
theorem info_i32 : (Tryz.prog.info? 21).map (fun i => (i.zero, i.size, i.bytes)) = some (some (.int .i32 0), 1, 4) := by kernel_rfl
theorem zeros_made (n : Nat) : madeCells (Value.cells (.int .i32 0)) (n * 1) = Array.replicate n (Value.int .i32 0) := by
 apply Array.ext'
 apply List.ext_getElem?
 intro j
 rcases Nat.lt_or_ge j n with h | h
 ·simp [madeCells, Value.cells, h, Nat.mod_one]
 ·rw [List.getElem?_eq_none (by rw [Array.length_toList, size_madeCells]; omega), List.getElem?_eq_none (by simp; omega)]
theorem make_i32 (n : Nat) (hn : n ≤ 8000) (w : World) : (Instr.makeSlice 42 (.int .i64 (n : Int)) (.int .i64 (n : Int))).run Tryz.prog w = .ok (.slice (some ⟨w.heap.size, 0, none⟩) n n) (w.alloc (.cells (Array.replicate n (Value.int .i32 0)) 21)) := by
 obtain ⟨i, hi, hzz⟩ := Option.map_eq_some_iff.1 info_i32
 simp only [Prod.mk.injEq] at hzz
 obtain ⟨hz, hs, hb⟩ := hzz
 have hr := run_make (P := Tryz.prog) w 42 21 i _ Tryz.underlying42 hi hz .i64 .i64 n n (by omega) (Int.le_refl _) (by rw [hb]; omega) (by omega)
 simp only [Int.toNat_natCast, hs] at hr
 rw [← zeros_made]
 exact hr
theorem Hp.mkrow {w W : World} {L : List Rc} (h : Hp w W L) (n : Nat) (hn : n ≤ 8000) : Hp w (W.alloc (.cells (Array.replicate n (Value.int .i32 0)) 21)) (rI w.heap.size (.slice (some ⟨W.heap.size, 0, none⟩) n n) (List.replicate n 0) :: L) := by
 have h' := (h.box 21 (Array.replicate n (Value.int .i32 0))).drop
 refine h.add h' ?_ fun b hb => ?_
 ·have := World.ownsRow_lit (base := w.heap.size) (e := 21) (size := 1) W (Array.replicate n (Value.int .i32 0)) n h.mv.size (by unfold maxLen; omega) (by simp)
  show (W.alloc _).ownsRow w.heap.size 21 1 (.slice (some ⟨W.heap.size, 0, none⟩) n n) (List.replicate n (0 : Int)).length ((List.replicate n (0 : Int)).map i32)
  rw [List.length_replicate, List.map_replicate]
  rw [Array.toList_replicate] at this
  exact this
 ·have hb : (Value.slice (some (⟨W.heap.size, 0, none⟩ : Addr)) n n).ownBlock = some b := hb
  injection hb with hb
  have hb : W.heap.size = b := hb
  subst hb
  exact ⟨Nat.le_refl _, by rw [World.alloc]; show W.heap.size < (W.heap.push _).size; rw [Array.size_push]; exact Nat.lt_succ_self _⟩
structure Fm where
 f : Fr
 R : Value
 B : Value
def Fm.cs (x : Fm) : List Value := [.int .i64 (x.f.u : Int), .int .i64 (x.f.i : Int), x.R, x.B, .int .i64 (x.f.pc : Int)]
def callsC : List Fm → List Value
 | [] => []
 | x :: K => callsC K ++ x.cs
theorem callsC_len (K : List Fm) : (callsC K).length = K.length * 5 := by
 induction K with
 | nil => rfl
 | cons x K ih => simp [callsC, ih, Fm.cs]; omega
theorem elt_call : Elt Tryz.prog 120 5 72 := Elt.of (by kernel_rfl) (by decide)
def rK (s : List Int) (n R k : Nat) : List Int := (s.take k).take n ++ List.replicate (R - min k n) 0
def bK (s : List Int) (n k : Nat) : List Int := (s.take k).drop n
theorem rK_len {s : List Int} {n R k : Nat} (hk : k ≤ s.length) (hn : n ≤ R) : (rK s n R k).length = R := by unfold rK; simp; omega
theorem rK_zero (s : List Int) (n R : Nat) : rK s n R 0 = List.replicate R 0 := by unfold rK; simp
theorem bK_zero (s : List Int) (n : Nat) : bK s n 0 = [] := by unfold bK; simp
theorem rK_in {s : List Int} {n R k : Nat} (hk : k < s.length) (hkn : k < n) (hn : n ≤ R) : rK s n R (k + 1) = (rK s n R k).set k s[k] := by
 unfold rK
 rw [List.take_of_length_le (l := List.take (k + 1) s) (by rw [List.length_take]; omega), List.take_of_length_le (l := List.take k s) (by rw [List.length_take]; omega), List.take_succ_eq_append_getElem hk, Nat.min_eq_left (show k + 1 ≤ n by omega), Nat.min_eq_left (show k ≤ n by omega), List.set_append_right _ _ (by rw [List.length_take]; omega), List.append_assoc]
 congr 1
 have e : R - k = (R - (k + 1)) + 1 := by omega
 rw [e, List.replicate_succ]
 have e2 : k - (List.take k s).length = 0 := by simp; omega
 rw [e2]
 rfl
theorem rK_out {s : List Int} {n R k : Nat} (hkn : n ≤ k) : rK s n R (k + 1) = rK s n R k := by
 unfold rK
 rw [List.take_take, List.take_take, Nat.min_eq_left (show n ≤ k + 1 by omega), Nat.min_eq_left hkn, Nat.min_eq_right (show n ≤ k + 1 by omega), Nat.min_eq_right hkn]
theorem bK_in {s : List Int} {n k : Nat} (hkn : k < n) : bK s n (k + 1) = bK s n k := by
 unfold bK
 rw [List.drop_eq_nil_of_le (by simp; omega), List.drop_eq_nil_of_le (by simp; omega)]
theorem bK_out {s : List Int} {n k : Nat} (hk : k < s.length) (hkn : n ≤ k) : bK s n (k + 1) = bK s n k ++ [s[k]] := by
 unfold bK
 rw [List.take_succ_eq_append_getElem hk, List.drop_append_of_le_length (by simp; omega)]
theorem rK_all {s : List Int} {n R : Nat} (h : n ≤ s.length) : rK s n R s.length = s.take n ++ List.replicate (R - n) 0 := by unfold rK; simp [Nat.min_eq_right h]
theorem bK_all (s : List Int) (n : Nat) : bK s n s.length = s.drop n := by unfold bK; simp
theorem rK_map {s : List Int} {n R k : Nat} (hk : k < s.length) (hkn : k < n) (hn : n ≤ R) : (rK s n R (k + 1)).map i32 = ((rK s n R k).map i32).set k (.int .i32 s[k]) := by
 rw [rK_in hk hkn hn, List.map_set]; rfl
theorem bK_map {s : List Int} {n k : Nat} (hk : k < s.length) (hkn : n ≤ k) : (bK s n (k + 1)).map i32 = (bK s n k).map i32 ++ [.int .i32 s[k]] := by
 rw [bK_out hk hkn, List.map_append]; rfl
theorem bK_len1 {s : List Int} {n k : Nat} (hk : k < s.length) (hkn : n ≤ k) : (bK s n (k + 1)).length = (bK s n k).length + 1 := by
 rw [bK_out hk hkn, List.length_append]; rfl
def BegOut (l : List Un) (u i : Nat) (s : List Int) (KF : List Fm) (w : World) (rv : Nat) (a0 a2 a3 a4 a5 a6 a7 : Value) (Lr : List Rc) (e : Ending) (w' : World) : Prop := e = .returned (.tuple #[]) ∧ ∃ C' dc' R Bv, Hid (Hp w w' (bx rv 85 #[a0, .slice C' (KF.length + 1) dc', a2, a3, a4, a5, a6, a7] :: ow w.heap.size 120 5 (.slice C' (KF.length + 1) dc') (KF.length + 1) (callsC (⟨beg l u i s, R, Bv⟩ :: KF)) :: rI w.heap.size R (beg l u i s).r :: rI w.heap.size Bv (beg l u i s).b :: Lr))
theorem begin_any (l : List Un) (L : Lnk l) (u i : Nat) (s : List Int) (A : Option Addr) (c rv : Nat) {w W : World} {Lr : List Rc} {C : Option Addr} {dc sc : Nat} {Sa : Option Addr} {a2 a3 a4 a5 a6 a7 : Value} (KF : List Fm)
 (hr : RepS 3 RepU w A l) (hA : ArgOk l u i s) (hK : KF.length ≤ 3000) (hh : ∀ (h : u < l.length), l[u].bs.length ≤ 40) (hs : RowAt w Lr Sa s)
 (h : Hp w W (bx rv 85 #[.slice A l.length c, .slice C KF.length dc, a2, a3, a4, a5, a6, a7] :: ow w.heap.size 120 5 (.slice C KF.length dc) KF.length (callsC KF) :: Lr)) :
 Calls Tryz.prog 34 #[.pointer (some ⟨rv, 0, none⟩), .int .i64 (u : Int), .int .i64 (i : Int), .slice Sa s.length sc] W (BegOut l u i s KF w rv (.slice A l.length c) a2 a3 a4 a5 a6 a7 Lr) := by
 have hu := hA.hu
 replace hh := hh hu
 have hi : i < l[u].bs.length := by have := hA.hi; rwa [unAt_at hu] at this
 have B0 := body_ok (bod_ok L hA.hu hA.hi)
 have hln := hA.ln
 have HBE : Hid (∀ b, b = bod l u i → beg l u i s = ⟨u, i, s.take (parW b.ty) ++ List.replicate (b.regs.toNat - parW b.ty) 0, s.drop (parW b.ty), 0⟩) := fun b e => by subst e; rfl
 have HBD : Hid (l[u].bs[i] = bod l u i) := (bod_at hu hi).symm
 have hl4 := L.n4
 obtain ⟨bb, oo, rfl, -⟩ := hr.adr (by omega)
 obtain ⟨cs, hrep, hc⟩ := hr.row hu
 obtain ⟨UA, ua, UB, ub', UC, uc, rfl, rA, -⟩ := hrep
 obtain ⟨b2, o2, rfl, -⟩ := rA.adr (by omega)
 obtain ⟨cs2, hrb, hd⟩ := rA.row hi
 obtain ⟨An, cn, Ap, cp, A', c', rfl, hTy, -⟩ := hrb.nine
 have HS := Lh h
 have c0 := hc W h.mv 0 _ rfl
 rw [Nat.add_zero] at c0
 have c0' := hd W h.mv 0 _ rfl
 have c1' := hd W h.mv 1 _ rfl
 have c2' := hd W h.mv 2 _ rfl
 have c3' := hd W h.mv 3 _ rfl
 have c4' := hd W h.mv 4 _ rfl
 have c5' := hd W h.mv 5 _ rfl
 have c6' := hd W h.mv 6 _ rfl
 have c7' := hd W h.mv 7 _ rfl
 have c8' := hd W h.mv 8 _ rfl
 rw [Nat.add_zero] at c0'
 rw [← HBD.out] at B0 hln
 generalize l[u].bs[i] = b at *
 have HB := Lh (HBE.out b HBD.out)
 clear HBE HBD hc hd hrb rA hr L hA
 obtain ⟨bnm, bst, bty, bregs, bcode⟩ := b
 have hty4 := B0.ty
 have hmy := B0.my
 have hrl := B0.rl
 have hrh := B0.rh
 clear B0
 dsimp only at HB hTy hln hty4 hmy hrl hrh c0' c1' c2' c3' c4' c5' c6' c7' c8'
 obtain ⟨R, rfl⟩ : ∃ R : Nat, bregs = (R : Int) := ⟨bregs.toNat, by omega⟩
 rw [Int.toNat_natCast] at HB
 have hp84 := parW_le hmy
 have HTY := Lh hTy
 have HW := Lh (fun (W2 : World) (hb : Below w.heap.size w W2) => wordsR_any bty _ W2 (Rep.keep hb _ _ HTY.out) hmy hty4)
 clear hTy hty4 hmy
 generalize parW bty = n at *
 generalize resW bty = rw_ at *
 have g1 : (u : Int) < (l.length : Int) := by omega
 have g2 : (0 : Int) ≤ (u : Int) := by omega
 have g3 : (u : Int) < 9 := by omega
 have g4 : (i : Int) < (l[u].bs.length : Int) := by omega
 have g5 : (0 : Int) ≤ (i : Int) := by omega
 have g6 : (i : Int) < 100 := by omega
 have r0 := HS.out.c 0 0
 generalize l[u].bs.length = nb at *
 clear h
 go_enter Tryz.func34, Tryz.ntmps34
 go_upto_region 1 with (fail)
 clear c0 c0' c1' c2' c3' c4' c5' c6' c7' c8' r0 g1 g2 g3 g4 g5 g6
 obtain ⟨w0, hw0⟩ : ∃ x, x = W := ⟨_, rfl⟩
 subst hw0
 replace HS := Lh (HS.out.box 37 #[.string bnm, .bool bst, .int .i64 bty.k, .string bty.nm, .slice An bty.ns.length cn, .slice Ap bty.ps.length cp, .bool bty.many, .int .i64 (R : Int), .slice A' bcode.length c'])
 generalize w0.alloc _ = w1 at *
 generalize w0.heap.size = tb at *
 have p2 := HS.out.c 0 2
 have p3 := HS.out.c 0 3
 have p4 := HS.out.c 0 4
 have p5 := HS.out.c 0 5
 have p6 := HS.out.c 0 6
 have HW0 := Lh (HW.out w1 HS.out.mv)
 clear HW
 go_wp2_with fail
 refine (HW0.out).mono ?_
 rintro e w2 ⟨rfl, hb⟩
 replace HS := Lh (HS.out.below hb)
 clear hb
 clear HW0 p2 p3 p4 p5 p6
 have p7 := HS.out.c 0 7
 have hmk := make_i32 R (by omega) w2
 go_upto_region 3 with (fail)
 clear hmk p7
 replace HS := Lh HS.out.drop
 have hz : (w2.alloc (.cells (Array.replicate R (Value.int .i32 0)) 21)).heap.size = w2.heap.size + 1 := by simp
 replace HS := Lh ((HS.out.mkrow R (by omega)).box 120 #[.int .i64 (u : Int), .int .i64 (i : Int), .slice (some ⟨w2.heap.size, 0, none⟩) R R, .slice none 0 0, .int .i64 0])
 rw [hz] at HS
 clear hz
 generalize (w2.alloc _).alloc _ = w3 at *
 generalize w2.heap.size + 1 = cb at *
 generalize w2.heap.size = g at *
 replace HS := Lh (HS.out.row0 w.heap.size 21 1)
 replace HS := Lh HS.out.f4.f4.f2.f4.f4
 go_wp2_with fail
 go_loopw [12] (fun iv wr => ∃ (k : Nat) (Ba : Option Addr) (d : Nat), k ≤ s.length ∧ iv = .int .i64 k ∧ Hid (Hp w wr (bx cb 120 #[.int .i64 (u : Int), .int .i64 (i : Int), .slice (some ⟨g, 0, none⟩) R R, .slice Ba (bK s n k).length d, .int .i64 0] :: ow w.heap.size 21 1 (.slice (some ⟨g, 0, none⟩) R R) R ((rK s n R k).map i32) :: ow w.heap.size 21 1 (.slice Ba (bK s n k).length d) (bK s n k).length ((bK s n k).map i32) :: bx rv 85 #[.slice (some ⟨bb, oo, none⟩) l.length c, .slice C KF.length dc, a2, a3, a4, a5, a6, a7] :: ow w.heap.size 120 5 (.slice C KF.length dc) KF.length (callsC KF) :: Lr))) (fun iv _ => s.length - (intOf iv).toNat)
 case atStart =>
  refine ⟨0, none, 0, Nat.zero_le _, rfl, ?_⟩
  show Hp _ _ _
  rw [rK_zero, bK_zero]
  have := HS.out
  unfold rI at this
  simpa using this
 case round =>
  clear HS; obtain ⟨k, Ba, d, hk, rfl, HS⟩ := hrel
  obtain ⟨w4, rfl⟩ : ∃ x, x = wr := ⟨_, rfl⟩
  by_cases hlt : k < s.length
  ·obtain ⟨sb, so, rfl, hsc⟩ := hs k hlt
   have HSC := Lh hsc
   clear hsc
   have g1 : (k : Int) < (s.length : Int) := by omega
   have g2 : (0 : Int) ≤ (k : Int) := by omega
   have g3 : (k : Int) < 9000 := by omega
   obtain ⟨sv, hsv⟩ : ∃ x, s[k] = x := ⟨_, rfl⟩
   rw [hsv] at HSC
   by_cases hkn : k < n
   ·have g4 : (k : Int) < (n : Int) := by omega
    have g5 : (k : Int) < (R : Int) := by omega
    go_upto_region 7 with (fail)
    replace HS := Lh HS.out.drew
    refine dQ (fun W => At W cb 2 (.slice (some ⟨g, 0, none⟩) R R) ∧ At W sb (so + k) (.int .i32 sv)) (⟨((HS.out).blk 0 rfl).cell 2 _ rfl, HSC.out _ (HS.out).drop.drop.drop.drop.drop⟩) fun _ => ?_
    generalize w4.drew = w5 at *
    refine tQ4 0 1 2 3 ?_; try simp only [sq]
    refine tQ4 4 5 6 7 ?_; try simp only [sq]
    refine rQ 8 (fun K hK => ?_)
    replace HS := Lh HS.out.f1
    have fz := HS.out.one.frozenAt k
    have ce := HS.out.one.cellAt k (by omega)
    rw [List.getElem?_map, List.getElem?_eq_getElem (by rw [rK_len (by omega) (by omega)]; omega)] at ce
    simp only [Option.map_some, i32] at ce
    go_simp
    clear fz ce
    replace HS := Lh (HS.out.rowput k (.int .i32 sv))
    generalize w5.setCell _ _ = w6 at *
    rw [← hsv, ← rK_map hlt hkn (by omega)] at HS
    replace HS := Lh HS.out.f4.f4.f4.f3.f4
    refine hK.out _ _ (⟨((HS.out).blk 0 rfl).cell 2 _ rfl, HSC.out _ (HS.out).drop.drop.drop.drop.drop⟩) (fun _ => ?_)
    clear hK K
    try simp only [sq]
    refine fQ ?_ _
    rw [← bK_in hkn] at HS
    go_wp2_with fail
    go_roundw
    case rel => exact ⟨k + 1, Ba, d, by omega, by go_num, HS⟩
    case measure => simp [intOf] <;> omega
   ·have g4 : ¬ (k : Int) < (n : Int) := by omega
    go_upto_region 8 with (fail)
    have hbl : (bK s n k).length ≤ 9000 := by unfold bK; simp; omega
    have hl1 := bK_len1 hlt (Nat.le_of_not_lt hkn)
    replace HS := Lh HS.out.f4.f4.f4.f4.f4.drew
    refine dQ (fun W => At W sb (so + k) (.int .i32 sv)) (HSC.out _ HS.out.drop.drop.drop.drop.drop) fun _ => ?_
    generalize w4.drew = w5 at *
    refine tQ4 0 2 3 4 ?_; try simp only [sq]
    refine tQ 5 ?_; try simp only [sq]
    refine wpAnyH_grp [⟨1, some 54, []⟩, ⟨6, some 59, []⟩] 3 (fun vs W => ∃ y_ : Nat, Hid (Hp w W (ifq (vs 6) (bx y_ 21 #[.int .i32 sv]) ++ (bx cb 120 #[.int .i64 (u : Int), .int .i64 (i : Int), .slice (some ⟨g, 0, none⟩) R R, .slice Ba (bK s n k).length d, .int .i64 0] :: ow w.heap.size 21 1 (.slice (some ⟨g, 0, none⟩) R R) R ((rK s n R k).map i32) :: ow w.heap.size 21 1 (.slice Ba (bK s n k).length d) (bK s n k).length ((bK s n k).map i32) :: bx rv 85 #[.slice (some ⟨bb, oo, none⟩) l.length c, .slice C KF.length dc, a2, a3, a4, a5, a6, a7] :: ow w.heap.size 120 5 (.slice C KF.length dc) KF.length (callsC KF) :: Lr))) ∧ OV (vs 1) (.slice (Ba) ((bK s n k).length) (d)) ∧ OV (vs 6) (.slice (some ⟨y_, 0, none⟩) 1 1)) (by rfl) (by decide +kernel) ⟨0, HS, OP.no _ rfl, OP.no _ rfl⟩ (fun vs W ⟨y_, HS, _⟩ => HSC.out _ (HS.out.sub (List.Sublist.trans (.cons _ (.cons _ (.cons _ (.cons _ (.cons _ (List.Sublist.refl _)))))) (List.sublist_append_right _ _)))) ⟨?_, ?_, trivial⟩ ?_
    ·clear HS; refine ⟨_, rfl, fun vs W h1 hd hn ⟨y_, HS, e1, e6⟩ => ?_⟩
     have hk := HS.out.ok (bx cb 120 #[.int .i64 (u : Int), .int .i64 (i : Int), .slice (some ⟨g, 0, none⟩) R R, .slice Ba (bK s n k).length d, .int .i64 0]) (by simp)
     have hk := (show Blk W cb 120 #[.int .i64 (u : Int), .int .i64 (i : Int), .slice (some ⟨g, 0, none⟩) R R, .slice Ba (bK s n k).length d, .int .i64 0] from hk)
     have c3 := hk.cell 3 _ rfl
     clear hk
     simp only [actG, old, Option.getD_some]; try simp only [sq]; intro K hK
     go_simp
     exact hK.out _ _ ⟨y_, HS, OP.is rfl, e6⟩
    ·clear HS; refine ⟨_, rfl, fun vs W h6 hd hn ⟨y_, HS, e1, e6⟩ => ?_⟩
     rw [h6] at HS
     simp only [actG, old, Option.getD_some]; try simp only [sq]; intro K hK
     go_simp
     exact hK.out _ _ ⟨W.heap.size, Lh (HS.out.box 21 #[.int .i32 sv]), e1, OP.is rfl⟩
    clear HS; intro vs W ⟨y_, HS, e1, e6⟩ hall
    obtain ⟨⟨v1, h1⟩, ⟨v6, h6⟩, -⟩ := hall
    obtain rfl := e1 _ h1
    obtain rfl := e6 _ h6
    rw [h6] at HS
    simp only [ifq, List.cons_append, List.nil_append] at HS
    simp only [actG, lisG, old, h1, h6, Option.getD_some, Option.isSome_some, if_true, List.length_cons, List.length_nil]; try simp only [sq]
    clear h1 e1 h6 e6 vs
    obtain ⟨w6, rfl⟩ : ∃ x, x = W := ⟨_, rfl⟩
    refine rQ 7 (fun K hK => ?_)
    replace HS := Lh HS.out.f3
    refine oper_push_own HS.out (Nat.le_refl _) _ _ 42 4 rfl Tryz.underlying42 elt_i32 (by rfl) ⟨y_, 0, none⟩ 1 _ [.int .i32 sv] (by rfl) (by rfl) (HS.out.blk 1 rfl).news (by simp [Value.oneCell']) (by unfold maxLen; omega) (by omega) ?_
    clear HS; intro Bx dx w7 HS
    refine hK.out _ _ (HSC.out _ HS.out.drop.drop.drop.drop.drop.drop) (fun _ => ?_)
    clear hK K
    try simp only [sq]
    replace HS := Lh HS.out.f1.drop
    refine tQ 8 ?_; try simp only [sq]
    replace HS := Lh HS.out.f4.f4.f2.f4.f4
    refine rQ 9 (fun K hK => ?_)
    have f3 := (HS.out.blk 0 rfl).free 3
    have g3 := HS.out.c 0 3
    go_simp
    clear f3 g3
    replace HS := Lh (HS.out.put1 3 (.slice Bx ((bK s n k).length + 1) dx))
    simp only [sq] at HS
    generalize w7.setCell _ _ = w8 at *
    refine hK.out _ _ (HSC.out _ HS.out.drop.drop.drop.drop.drop) (fun _ => ?_)
    clear hK K
    try simp only [sq]
    refine fQ ?_ _
    rw [← hl1, ← hsv, ← bK_map hlt (Nat.le_of_not_lt hkn), ← rK_out (Nat.le_of_not_lt hkn)] at HS
    clear hsv hl1
    go_wp2_with fail
    go_roundw
    case rel => exact ⟨k + 1, Bx, dx, by omega, by go_num, HS⟩
    case measure => simp [intOf] <;> omega
  have g1 : ¬ (k : Int) < (s.length : Int) := by omega
  obtain rfl : k = s.length := by omega
  have hbl : (bK s n s.length).length ≤ 9000 := by unfold bK; simp; omega
  generalize hbk : (bK s n s.length).length = bl at *
  go_upto_region 9 with (fail)
  replace HS := Lh HS.out.f2.f2.f4.f4.f4.drew
  refine dQ (fun _ => True) (trivial) fun _ => ?_
  generalize w4.drew = w5 at *
  refine tQ4 0 1 2 3 ?_; try simp only [sq]
  refine wpAnyH_grp [⟨4, some 66, []⟩, ⟨5, some 67, []⟩, ⟨6, some 68, [5]⟩] 4 (fun vs W => ∃ y_ : Nat, Hid (Hp w W (ifq (vs 6) (bx y_ 120 #[.int .i64 (u : Int), .int .i64 (i : Int), .slice (some ⟨g, 0, none⟩) R R, .slice Ba bl d, .int .i64 0]) ++ (bx cb 120 #[.int .i64 (u : Int), .int .i64 (i : Int), .slice (some ⟨g, 0, none⟩) R R, .slice Ba bl d, .int .i64 0] :: bx rv 85 #[.slice (some ⟨bb, oo, none⟩) l.length c, .slice C KF.length dc, a2, a3, a4, a5, a6, a7] :: ow w.heap.size 120 5 (.slice C KF.length dc) KF.length (callsC KF) :: ow w.heap.size 21 1 (.slice (some ⟨g, 0, none⟩) R R) R ((rK s n R s.length).map i32) :: ow w.heap.size 21 1 (.slice Ba bl d) bl ((bK s n s.length).map i32) :: Lr))) ∧ OV (vs 4) (.slice C KF.length dc) ∧ OV (vs 5) (.agg #[.int .i64 (u : Int), .int .i64 (i : Int), .slice (some ⟨g, 0, none⟩) R R, .slice Ba bl d, .int .i64 0]) ∧ OV (vs 6) (.slice (some ⟨y_, 0, none⟩) 1 1)) (by rfl) (by decide +kernel) ⟨0, HS, OP.no _ rfl, OP.no _ rfl, OP.no _ rfl⟩ (fun _ _ _ => trivial) ⟨?_, ?_, ?_, trivial⟩ ?_
  ·clear HS; refine ⟨_, rfl, fun vs W h4 hd hn ⟨y_, HS, e4, e5, e6⟩ => ?_⟩
   have hk := HS.out.ok (bx rv 85 #[.slice (some ⟨bb, oo, none⟩) l.length c, .slice C KF.length dc, a2, a3, a4, a5, a6, a7]) (by simp)
   have hk := (show Blk W rv 85 #[.slice (some ⟨bb, oo, none⟩) l.length c, .slice C KF.length dc, a2, a3, a4, a5, a6, a7] from hk)
   have c1 := hk.cell 1 _ rfl
   clear hk
   simp only [actG, old, Option.getD_some]; try simp only [sq]; intro K hK
   go_simp
   exact hK.out _ _ ⟨y_, HS, OP.is rfl, e5, e6⟩
  ·clear HS; refine ⟨_, rfl, fun vs W h5 hd hn ⟨y_, HS, e4, e5, e6⟩ => ?_⟩
   have hk := HS.out.ok (bx cb 120 #[.int .i64 (u : Int), .int .i64 (i : Int), .slice (some ⟨g, 0, none⟩) R R, .slice Ba bl d, .int .i64 0]) (by simp)
   have hk := (show Blk W cb 120 #[.int .i64 (u : Int), .int .i64 (i : Int), .slice (some ⟨g, 0, none⟩) R R, .slice Ba bl d, .int .i64 0] from hk)
   have c0 := hk.cell 0 _ rfl
   have c1 := hk.cell 1 _ rfl
   have c2 := hk.cell 2 _ rfl
   have c3 := hk.cell 3 _ rfl
   have c4 := hk.cell 4 _ rfl
   clear hk
   simp only [actG, old, Option.getD_some]; try simp only [sq]; intro K hK
   go_simp
   exact hK.out _ _ ⟨y_, HS, e4, OP.is rfl, OP.no _ hn.2.2.1⟩
  ·clear HS; refine ⟨_, rfl, fun vs W h6 hd hn ⟨y_, HS, e4, e5, e6⟩ => ?_⟩
   obtain ⟨⟨v5, h5⟩, -⟩ := hd
   obtain rfl := e5 _ h5
   rw [h6] at HS
   simp only [actG, old, h5, Option.getD_some]; try simp only [sq]; intro K hK
   go_simp
   exact hK.out _ _ ⟨W.heap.size, Lh (HS.out.box 120 #[.int .i64 (u : Int), .int .i64 (i : Int), .slice (some ⟨g, 0, none⟩) R R, .slice Ba bl d, .int .i64 0]), e4, e5, OP.is rfl⟩
  clear HS; intro vs W ⟨y_, HS, e4, e5, e6⟩ hall
  obtain ⟨⟨v4, h4⟩, ⟨v5, h5⟩, ⟨v6, h6⟩, -⟩ := hall
  obtain rfl := e4 _ h4
  obtain rfl := e5 _ h5
  obtain rfl := e6 _ h6
  rw [h6] at HS
  simp only [ifq, List.cons_append, List.nil_append] at HS
  simp only [actG, lisG, old, h4, h5, h6, Option.getD_some, Option.isSome_some, if_true, List.length_cons, List.length_nil]; try simp only [sq]
  clear h4 e4 h5 e5 h6 e6 vs
  obtain ⟨w6, rfl⟩ : ∃ x, x = W := ⟨_, rfl⟩
  refine rQ 7 (fun K hK => ?_)
  replace HS := Lh HS.out.f3
  refine oper_push_own HS.out (Nat.le_refl _) _ _ 82 72 rfl Tryz.underlying82 elt_call (by rfl) ⟨y_, 0, none⟩ 1 _ [.int .i64 (u : Int), .int .i64 (i : Int), .slice (some ⟨g, 0, none⟩) R R, .slice Ba bl d, .int .i64 0] (by rfl) (by rfl) (HS.out.blk 1 rfl).news (by simp [Value.oneCell']) (by unfold maxLen; omega) (by omega) ?_
  clear HS; intro Cx dcx w7 HS
  refine hK.out _ _ (trivial) (fun _ => ?_)
  clear hK K
  try simp only [sq]
  replace HS := Lh HS.out.f1.drop
  refine tQ2 8 9 ?_; try simp only [sq]
  replace HS := Lh HS.out.f1.f4.f4.f3.f4
  refine rQ 10 (fun K hK => ?_)
  have f1 := (HS.out.blk 0 rfl).free 1
  have g1 := HS.out.c 0 1
  go_simp
  clear f1 g1
  replace HS := Lh (HS.out.put1 1 (.slice Cx (KF.length + 1) dcx))
  simp only [sq] at HS
  generalize w7.setCell _ _ = w8 at *
  refine hK.out _ _ (trivial) (fun _ => ?_)
  clear hK K
  try simp only [sq]
  refine fQ ?_ _
  replace HS := Lh HS.out.f4.drop
  go_wp2_with fail
  refine bodyPost_end (v := .tuple #[]) (results_none_ rfl _ _ _) rfl ?_
  refine ⟨rfl, Cx, dcx, .slice (some ⟨g, 0, none⟩) R R, .slice Ba bl d, ?_⟩
  show Hp _ _ _
  rw [HB.out]
  unfold callsC rI Fm.cs
  dsimp only
  have hRl : (List.take n s ++ List.replicate (R - n) 0).length = R := by simp; omega
  have hBl : (List.drop n s).length = bl := by rw [← hbk, bK_all]
  rw [hRl, hBl, ← rK_all (by omega), ← bK_all]
  exact HS.out
def frP (B : Nat) (x : Fm) : List Rc := [rI B x.R x.f.r, rI B x.B x.f.b]
def varC (v : List (Int × Int)) : List Value := v.flatMap fun q => [i32 q.1, i32 q.2]
def vrP (B : Nat) : List Value → List (List (Int × Int)) → List Rc
 | S :: VS, v :: vs => ow B 89 2 S v.length (varC v) :: vrP B VS vs
 | _, _ => []
def rfP (B rv : Nat) (LV : Value) (C : Option Addr) (dc : Nat) (K : List Fm) (O : Option Addr) (od : Nat) (out : List Int) (V : Option Addr) (vd : Nat) (VS : List Value) (vs : List (List (Int × Int))) (e v : Int) (t : Nat) (ov : Bool) (base : List Rc) : List Rc :=
 bx rv 85 #[LV, .slice C K.length dc, .slice V VS.length vd, .int .i64 e, .int .i32 v, .slice O out.length od, .int .i64 (t : Int), .bool ov] ::
 ow B 120 5 (.slice C K.length dc) K.length (callsC K) :: ow B 21 1 (.slice O out.length od) out.length (out.map i32) :: ow B 86 1 (.slice V VS.length vd) VS.length VS ::
 (K.flatMap (frP B) ++ (vrP B VS vs ++ base))
def KOk (l : List Un) : Nat → List Fr → Prop
 | n, [] => 1 ≤ n
 | n, g :: K => FrOk l g ∧ 1 ≤ g.pc ∧ (ord l { g with pc := g.pc - 1 }).d.length = n ∧ KOk l (resW (bod l g.u g.i).ty) K
def Going (l : List Un) (w : World) (rv : Nat) (LV : Value) (V : Option Addr) (vd : Nat) (VS : List Value) (base : List Rc) (n t : Nat) (E : Shw) (W : World) : Prop :=
 ∃ C dc x K O od m, Hid (Hp w W (rfP w.heap.size rv LV C dc (x :: K) O od m.out V vd VS m.vs 0 0 t false base)) ∧ FrOk l x.f ∧ KOk l (resW (bod l x.f.u x.f.i).ty) (K.map Fm.f) ∧ MsOk l m ∧ m.out.length ≤ t ∧ K.length + 1 ≤ 3000 ∧ run l n x.f (K.map Fm.f) m t = E
def Over (w : World) (rv : Nat) (LV : Value) (V : Option Addr) (vd : Nat) (VS : List Value) (base : List Rc) (E : Shw) (W : World) : Prop :=
 ∃ C dc K O od vs, Hid (Hp w W (rfP w.heap.size rv LV C dc K O od E.out V vd VS vs E.e E.v E.t true base))
def StpOut (l : List Un) (w : World) (rv : Nat) (LV : Value) (V : Option Addr) (vd : Nat) (VS : List Value) (base : List Rc) (n t : Nat) (E : Shw) (e : Ending) (W : World) : Prop :=
 e = .returned (.tuple #[]) ∧ (Over w rv LV V vd VS base E W ∨ Going l w rv LV V vd VS base n t E W)
theorem own_some {w : World} {B : Nat} {e : TypeId} {s n c : Nat} {A : Option Addr} {xs : List Value} (h : w.ownsRow B e s (.slice A n c) n xs) (hn : 0 < n) : ∃ g, A = some ⟨g, 0, none⟩ := by
 rcases h.2 with ⟨-, h0⟩ | ⟨g, cap, cur, hv, -⟩
 ·omega
 ·injection hv with h1 h2 h3
  exact ⟨g, h1⟩
theorem own_at5 {w : World} {B g : Nat} {e : TypeId} {s n c : Nat} {xs : List Value} (h : w.ownsRow B e s (.slice (some ⟨g, 0, none⟩) n c) n xs) (j : Nat) (u : Value) (hj : xs[j]? = some u) : w.cell? ⟨g, j, none⟩ = some u := by
 have := h.cells (g := g) rfl j u hj
 rwa [add_plain_, Nat.zero_add] at this
theorem call_cells {w : World} {B cb n c : Nat} {K : List Fm} {a0 a1 a2 a3 a4 : Value} (h : w.ownsRow B 120 5 (.slice (some ⟨cb, 0, none⟩) n c) n (callsC K ++ [a0, a1, a2, a3, a4])) :
 w.cell? ⟨cb, K.length * 5, none⟩ = some a0 ∧ w.cell? ⟨cb, K.length * 5 + 1, none⟩ = some a1 ∧ w.cell? ⟨cb, K.length * 5 + 2, none⟩ = some a2 ∧ w.cell? ⟨cb, K.length * 5 + 3, none⟩ = some a3 ∧ w.cell? ⟨cb, K.length * 5 + 4, none⟩ = some a4 := by
 have hg : ∀ j u, [a0, a1, a2, a3, a4][j]? = some u → w.cell? ⟨cb, K.length * 5 + j, none⟩ = some u := fun j u hj => own_at5 h _ u (by
  rw [List.getElem?_append_right (by rw [callsC_len]; omega), callsC_len]
  rw [show K.length * 5 + j - K.length * 5 = j by omega]
  exact hj)
 exact ⟨hg 0 _ rfl, hg 1 _ rfl, hg 2 _ rfl, hg 3 _ rfl, hg 4 _ rfl⟩
theorem Hp.cut {w W : World} {L : List Rc} {B : Nat} {e : TypeId} {s n c : Nat} {A : Option Addr} {xs ys : List Value} (h : Hp w W (ow B e s (.slice A (n + 1) c) (n + 1) (xs ++ ys) :: L)) (hx : xs.length = n * s) : Hp w W (ow B e s (.slice A n c) n xs :: L) :=
 h.turn (fun b hb => (show (Value.slice A (n + 1) c).ownBlock = some b by have hb : (Value.slice A n c).ownBlock = some b := hb; cases A <;> exact hb)) fun hP => by
  have hP : W.ownsRow B e s (.slice A (n + 1) c) (n + 1) (xs ++ ys) := hP
  show W.ownsRow B e s (.slice A n c) n xs
  refine ⟨hx, ?_⟩
  rcases hP.2 with ⟨-, h0⟩ | ⟨g, cap, cur, hv, hb, hg, hle, hcap, hsz, htk⟩
  ·omega
  ·injection hv with h1 h2 h3
   subst h1 h3
   refine .inr ⟨g, c, cur, rfl, hb, hg, by omega, hcap, hsz, ?_⟩
   have := congrArg (List.take (n * s)) htk
   rw [List.take_take, Nat.min_eq_left (Nat.mul_le_mul_right _ (Nat.le_succ n)), List.take_append_of_le_length (Nat.le_of_eq hx.symm), List.take_of_length_le (Nat.le_of_eq hx)] at this
   exact this
def cod (l : List Un) (u i q : Nat) : Or := (bod l u i).code.getD q default
theorem fr_mem {l : List Un} {w : World} {bb oo : Nat} (hr : RepS 3 RepU w (some ⟨bb, oo, none⟩) l) {u i q : Nat} (hu : u < l.length) (hi : i < (unAt l u).bs.length) (hq : q < (bod l u i).code.length) :
 ∃ b2 o2 ua b3 o3 c' Ad cd As cs An cn Ap cp, Row w Ad ((cod l u i q).d.map i64) ∧ Row w As ((cod l u i q).s.map i64) ∧ Rep w (cod l u i q).ty [.int .i64 (cod l u i q).ty.k, .string (cod l u i q).ty.nm, .slice An (cod l u i q).ty.ns.length cn, .slice Ap (cod l u i q).ty.ps.length cp, .bool (cod l u i q).ty.many] ∧ ∀ W, Below w.heap.size w W → (W.cell? ⟨bb, oo + u * 3, none⟩ = some (.slice (some ⟨b2, o2, none⟩) (unAt l u).bs.length ua) ∧ W.cell? ⟨b2, o2 + i * 9 + 8, none⟩ = some (.slice (some ⟨b3, o3, none⟩) (bod l u i).code.length c') ∧
W.cell? ⟨b3, o3 + q * 10, none⟩ = some (.int .i64 (cod l u i q).op) ∧ W.cell? ⟨b3, o3 + q * 10 + 1, none⟩ = some (.slice Ad (cod l u i q).d.length cd) ∧ W.cell? ⟨b3, o3 + q * 10 + 2, none⟩ = some (.slice As (cod l u i q).s.length cs) ∧ W.cell? ⟨b3, o3 + q * 10 + 3, none⟩ = some (.int .i64 (cod l u i q).n) ∧ W.cell? ⟨b3, o3 + q * 10 + 4, none⟩ = some (.string (cod l u i q).nm) ∧ W.cell? ⟨b3, o3 + q * 10 + 5, none⟩ = some (.int .i64 (cod l u i q).ty.k) ∧ W.cell? ⟨b3, o3 + q * 10 + 6, none⟩ = some (.string (cod l u i q).ty.nm) ∧ W.cell? ⟨b3, o3 + q * 10 + 7, none⟩ = some (.slice An (cod l u i q).ty.ns.length cn) ∧ W.cell? ⟨b3, o3 + q * 10 + 8, none⟩ = some (.slice Ap (cod l u i q).ty.ps.length cp) ∧ W.cell? ⟨b3, o3 + q * 10 + 9, none⟩ = some (.bool (cod l u i q).ty.many)) := by
 have hi' : i < l[u].bs.length := by rwa [unAt_at hu] at hi
 rw [unAt_at hu]
 unfold cod
 generalize hB : bod l u i = b at *
 have hB2 : l[u].bs[i] = b := by rw [← hB]; exact (bod_at hu hi').symm
 have hcd : b.code.getD q default = b.code[q] := by simp [List.getD_eq_getElem?_getD, hq]
 rw [hcd]
 obtain ⟨cs0, hrep, hc⟩ := hr.row hu
 obtain ⟨UA, ua, UB, ub', UC, uc, rfl, rA, -⟩ := hrep
 obtain ⟨b2, o2, rfl, -⟩ := rA.adr (by omega)
 obtain ⟨cs2, hrb, hd⟩ := rA.row hi'
 rw [hB2] at hrb
 obtain ⟨An0, cn0, Ap0, cp0, A', c', rfl, -, -, hOL, -⟩ := hrb.nine
 obtain ⟨b3, o3, cs3, rfl, hlt3, hc3, hr3⟩ := hOL q hq
 obtain ⟨Ad, cd, As, cs, An, cn, Ap, cp, rfl, hD, hS, hTy, -⟩ := hr3.ten
 refine ⟨b2, o2, ua, b3, o3, c', Ad, cd, As, cs, An, cn, Ap, cp, hD, hS, hTy, fun W hW => ⟨?_, ?_, ?_⟩⟩
 ·have := hc W hW 0 _ rfl
  rwa [Nat.add_zero] at this
 ·exact hd W hW 8 _ rfl
 ·exact ⟨(hW.cell hlt3).trans (hc3 0 _ rfl), (hW.cell hlt3).trans (hc3 1 _ rfl), (hW.cell hlt3).trans (hc3 2 _ rfl), (hW.cell hlt3).trans (hc3 3 _ rfl), (hW.cell hlt3).trans (hc3 4 _ rfl), (hW.cell hlt3).trans (hc3 5 _ rfl), (hW.cell hlt3).trans (hc3 6 _ rfl), (hW.cell hlt3).trans (hc3 7 _ rfl), (hW.cell hlt3).trans (hc3 8 _ rfl), (hW.cell hlt3).trans (hc3 9 _ rfl)⟩
theorem giveR_any {l : List Un} {w W : World} {bb oo c rv : Nat} (hr : RepS 3 RepU w (some ⟨bb, oo, none⟩) l) (s : List Int) (hsw : ∀ x ∈ s, W32 x) {Sa : Option Addr} {sc : Nat} {C : Option Addr} {dc : Nat} (K : List Fm) {O : Option Addr} {od : Nat} {V : Option Addr} {vd : Nat} {VS : List Value} (m : Ms) {n t : Nat} {E : Shw} {base : List Rc} (L : Lnk l) (hh : ∀ u (h : u < l.length), l[u].bs.length ≤ 40)
 (hs : RowAt w base Sa s) (hs12 : s.length ≤ 100) (h : Hp w W (rfP w.heap.size rv (.slice (some ⟨bb, oo, none⟩) l.length c) C dc K O od m.out V vd VS m.vs 0 0 t false base)) (hk : KOk l s.length (K.map Fm.f)) (hm : MsOk l m) (ho : m.out.length ≤ t) (hK : K.length ≤ 3000) (hE : rgv l n (K.map Fm.f) s m t = E) :
 Calls Tryz.prog 67 #[.pointer (some ⟨rv, 0, none⟩), .slice Sa s.length sc] W (StpOut l w rv (.slice (some ⟨bb, oo, none⟩) l.length c) V vd VS base n t E) := by
 cases K with
 | nil =>
  have hE' : E = ⟨1, s.getD 0 0, m.out, t⟩ := hE.symm
  subst hE'
  have hk1 : 1 ≤ s.length := hk
  obtain ⟨sb, so, rfl, hsc⟩ := hs 0 hk1
  have HSC := Lh hsc
  have hsv : s.getD 0 0 = s[0] := by simp [List.getD_eq_getElem?_getD, List.getElem?_eq_getElem (show 0 < s.length from hk1)]
  rw [hsv]
  generalize s[0] = sv at *
  have g1 : (0 : Int) < (s.length : Int) := by omega
  have HS : Hid (Hp w W (bx rv 85 #[.slice (some ⟨bb, oo, none⟩) l.length c, .slice C 0 dc, .slice V VS.length vd, .int .i64 0, .int .i32 0, .slice O m.out.length od, .int .i64 (t : Int), .bool false] :: ow w.heap.size 120 5 (.slice C 0 dc) 0 [] :: ow w.heap.size 21 1 (.slice O m.out.length od) m.out.length (m.out.map i32) :: ow w.heap.size 86 1 (.slice V VS.length vd) VS.length VS :: (vrP w.heap.size VS m.vs ++ base))) := h
  clear h hE hk hs hsv
  have r1 := HS.out.c 0 1
  generalize s.length = sl at *
  go_enter Tryz.func67, Tryz.ntmps67
  go_wp2_with fail
  refine (end_any 1 HS.out).mono ?_
  clear HS r1
  rintro e w1 ⟨rfl, hS⟩
  have HS := Lh hS
  clear hS
  have s0 := HSC.out _ (HS.out.drop.drop.drop.drop.sub (List.sublist_append_right _ _))
  rw [Nat.add_zero] at s0
  have f4 := HS.out.one.free 4
  have c4 := HS.out.c 0 4
  go_wp2_with fail
  replace HS := Lh (HS.out.put1 4 (.int .i32 sv))
  simp only [sq] at HS
  refine bodyPost_ret (v := .tuple #[]) (results_none_ rfl _ _ _) rfl ?_
  exact ⟨rfl, .inl ⟨C, dc, [], O, od, m.vs, HS⟩⟩
 | cons x KT =>
  obtain ⟨⟨gu, gi, gr, gb, gp⟩, gR, gB⟩ := x
  obtain ⟨hF, hp1, hd, hk2⟩ := hk
  obtain ⟨q, rfl⟩ : ∃ q, gp = q + 1 := ⟨gp - 1, by have : 1 ≤ gp := hp1; omega⟩
  have hdl : (cod l gu gi q).d.length = s.length := hd
  have hE2 : run l n (gv l ⟨gu, gi, gr, gb, q + 1⟩ s) (KT.map Fm.f) m t = E := hE
  have hgv : gv l ⟨gu, gi, gr, gb, q + 1⟩ s = ⟨gu, gi, setR gr (cod l gu gi q).d s, gb, q + 1⟩ := rfl
  have hpc : q + 1 < (bod l gu gi).code.length := hF.pc
  have hoo : OrdOk (bod l gu gi).ty (bod l gu gi).regs (bod l gu gi).code.length (cod l gu gi q) := (show FrOk l ⟨gu, gi, gr, gb, q⟩ from hF.at (pc := q) (by show q < (bod l gu gi).code.length; omega)).oo L
  have hgl : gr.length = (bod l gu gi).regs.toNat := hF.hr
  have HD : Hid (∀ i (h : i < (cod l gu gi q).d.length), ∃ k : Nat, (cod l gu gi q).d[i] = (k : Int) ∧ k < gr.length ∧ k < 8000) := fun i h => by
   have := hoo.d _ (List.getElem_mem h)
   have hrh : (bod l gu gi).regs ≤ 8000 := (hF.bo L).rh
   refine ⟨((cod l gu gi q).d[i]).toNat, by omega, by omega, by omega⟩
  have HFIN : Hid (∀ W', Hp w W' (rfP w.heap.size rv (.slice (some ⟨bb, oo, none⟩) l.length c) C dc (⟨⟨gu, gi, setR gr (cod l gu gi q).d s, gb, q + 1⟩, gR, gB⟩ :: KT) O od m.out V vd VS m.vs 0 0 t false base) → Going l w rv (.slice (some ⟨bb, oo, none⟩) l.length c) V vd VS base n t E W') := fun W' h' => by
   rw [hgv] at hE2
   exact ⟨C, dc, _, KT, O, od, m, Lh h', hF.set (fun x hx => hsw x hx) hpc, hk2, hm, ho, hK, hE2⟩
  have hl4 := L.n4
  have hu := hF.hu
  have hi := hF.hi
  dsimp only at hu hi
  have hb40 : q < 10000 := by have := (hF.bo L).n2; dsimp only at this; omega
  obtain ⟨b2, o2, ua, b3, o3, c', Ad, cd, As, cs, An, cn, Ap, cp, hRD, -, -, hmem⟩ := fr_mem hr hu hi (show q < (bod l gu gi).code.length by omega)
  have HMEM := Lh hmem
  clear hmem hE hd hoo hF hp1 hk2 hm hE2 hgv hr
  have HRD := Lh hRD
  have hnb : (gu : Int) < (l.length : Int) := by omega
  have hnb0 : (0 : Int) ≤ (gu : Int) := by omega
  have hnb6 : (gu : Int) < 9 := by omega
  generalize hbl : (unAt l gu).bs.length = nb at *
  generalize hcl : (bod l gu gi).code.length = nc at *
  generalize cod l gu gi q = o at *
  have HDL := Lh hdl
  clear hdl
  have HN : Hid (gi < nb ∧ q + 1 < nc ∧ nb ≤ 40) := ⟨hi, hpc, by rw [← hbl, unAt_at hu]; exact hh gu hu⟩
  clear hbl hcl hgl hRD hi hpc hh
  obtain ⟨RA, rc, hgR, -⟩ := Row.of_own (show W.ownsRow w.heap.size 21 1 gR gr.length (gr.map i32) from h.ok (rI w.heap.size gR gr) (by simp [rfP, frP]))
  subst hgR
  have h : Hp w W (bx rv 85 #[.slice (some ⟨bb, oo, none⟩) l.length c, .slice C (KT.length + 1) dc, .slice V VS.length vd, .int .i64 0, .int .i32 0, .slice O m.out.length od, .int .i64 (t : Int), .bool false] :: ow w.heap.size 120 5 (.slice C (KT.length + 1) dc) (KT.length + 1) (callsC KT ++ [.int .i64 (gu : Int), .int .i64 (gi : Int), .slice RA gr.length rc, gB, .int .i64 ((q + 1 : Nat) : Int)]) :: ow w.heap.size 21 1 (.slice O m.out.length od) m.out.length (m.out.map i32) :: ow w.heap.size 86 1 (.slice V VS.length vd) VS.length VS :: ow w.heap.size 21 1 (.slice RA gr.length rc) gr.length (gr.map i32) :: rI w.heap.size gB gb :: (KT.flatMap (frP w.heap.size) ++ (vrP w.heap.size VS m.vs ++ base))) := h
  obtain ⟨cb, rfl⟩ := own_some (h.own 1 rfl) (Nat.succ_pos _)
  have HS := Lh h
  clear h
  have r1 := HS.out.c 0 1
  have k1 : (KT.length : Int) < 3000 := by simp at hK; omega
  have k0 : (0 : Int) ≤ (KT.length : Int) := by omega
  have hwr : IntKind.i64.wrap (KT.length : Int) = (KT.length : Int) := by rw [IntKind.wrap_i64]; omega
  have k2 : (KT.length : Int) < (KT.length : Int) + 1 := by omega
  have hwq : IntKind.i64.wrap (q : Int) = (q : Int) := by rw [IntKind.wrap_i64]; omega
  clear hK
  go_enter Tryz.func67, Tryz.ntmps67
  go_upto_region 3 with (fail)
  clear r1
  obtain ⟨w0, rfl⟩ : ∃ x, x = W := ⟨_, rfl⟩
  replace HS := Lh HS.out.drew
  refine dQ (fun W => At W rv 1 (.slice (some ⟨cb, 0, none⟩) (KT.length + 1) dc)) (HS.out.c 0 1) fun _ => ?_
  generalize w0.drew = w1 at *
  refine tQ4 0 1 2 3 ?_; try simp only [sq]
  refine tQ4 4 5 6 7 ?_; try simp only [sq]
  refine tQ4 8 9 10 11 ?_; try simp only [sq]
  refine fQ ?_ _
  go_upto_region 4 with (fail)
  obtain ⟨hgi, hqc, hn40⟩ := HN.out
  have j1 : (gi : Int) < (nb : Int) := by omega
  have j2 : (0 : Int) ≤ (gi : Int) := by omega
  have j3 : (gi : Int) < 100 := by omega
  have j4 : (q : Int) < (nc : Int) := by omega
  have j5 : (0 : Int) ≤ (q : Int) := by omega
  have j6 : (q : Int) < 10000 := by omega
  clear hgi hqc hn40
  replace HS := Lh HS.out.drew
  refine dQ (fun W => At W rv 0 (.slice (some ⟨bb, oo, none⟩) l.length c) ∧ At W cb (KT.length * 5) (.int .i64 (gu : Int)) ∧ At W cb (KT.length * 5 + 1) (.int .i64 (gi : Int)) ∧ At W cb (KT.length * 5 + 4) (.int .i64 ((q + 1 : Nat) : Int)) ∧ At W bb (oo + gu * 3) (.slice (some ⟨b2, o2, none⟩) nb ua) ∧ At W b2 (o2 + gi * 9 + 8) (.slice (some ⟨b3, o3, none⟩) nc c') ∧ At W b3 (o3 + q * 10) (.int .i64 o.op) ∧ At W b3 (o3 + q * 10 + 1) (.slice Ad o.d.length cd) ∧ At W b3 (o3 + q * 10 + 2) (.slice As o.s.length cs) ∧ At W b3 (o3 + q * 10 + 3) (.int .i64 o.n) ∧ At W b3 (o3 + q * 10 + 4) (.string o.nm) ∧ At W b3 (o3 + q * 10 + 5) (.int .i64 o.ty.k) ∧ At W b3 (o3 + q * 10 + 6) (.string o.ty.nm) ∧ At W b3 (o3 + q * 10 + 7) (.slice An o.ty.ns.length cn) ∧ At W b3 (o3 + q * 10 + 8) (.slice Ap o.ty.ps.length cp) ∧ At W b3 (o3 + q * 10 + 9) (.bool o.ty.many)) (⟨HS.out.c 0 0, (call_cells (HS.out.own 1 rfl)).1, (call_cells (HS.out.own 1 rfl)).2.1, (call_cells (HS.out.own 1 rfl)).2.2.2.2, HMEM.out _ HS.out.mv⟩) fun _ => ?_
  generalize w1.drew = w2 at *
  refine tQ4 0 1 2 3 ?_; try simp only [sq]
  refine tQ4 4 5 6 7 ?_; try simp only [sq]
  refine tQ4 8 9 10 11 ?_; try simp only [sq]
  refine tQ4 12 13 14 15 ?_; try simp only [sq]
  refine tQ4 16 17 18 19 ?_; try simp only [sq]
  refine tQ4 20 21 22 23 ?_; try simp only [sq]
  refine tQ 24 ?_; try simp only [sq]
  refine rQ 25 (fun K hK => ?_)
  go_simp
  have HS0 := HS
  replace HS := Lh (HS.out.box 63 #[.int .i64 0, .slice none 0 0, .slice none 0 0, .int .i64 0, .string ⟨#[]⟩, .int .i64 0, .string ⟨#[]⟩, .slice none 0 0, .slice none 0 0, .bool false])
  refine hK.out _ _ (⟨HS.out.c 1 0, (call_cells (HS.out.own 2 rfl)).1, (call_cells (HS.out.own 2 rfl)).2.1, (call_cells (HS.out.own 2 rfl)).2.2.2.2, HMEM.out _ HS.out.mv⟩) (fun _ => ?_)
  clear hK K
  try simp only [sq]
  refine rQ 26 (fun K hK => ?_)
  go_simp
  replace HS := Lh (HS0.out.box 63 #[.int .i64 o.op, .slice Ad o.d.length cd, .slice As o.s.length cs, .int .i64 o.n, .string o.nm, .int .i64 o.ty.k, .string o.ty.nm, .slice An o.ty.ns.length cn, .slice Ap o.ty.ps.length cp, .bool o.ty.many])
  clear HS0
  generalize w2.alloc _ = w3 at *
  generalize w2.heap.size = ob at *
  refine hK.out _ _ (⟨HS.out.c 1 0, (call_cells (HS.out.own 2 rfl)).1, (call_cells (HS.out.own 2 rfl)).2.1, (call_cells (HS.out.own 2 rfl)).2.2.2.2, HMEM.out _ HS.out.mv⟩) (fun _ => ?_)
  clear hK K
  try simp only [sq]
  refine fQ ?_ _
  clear HMEM HN j1 j2 j3 j4 j5 j6
  have H0 : Hid (gr = setR gr (o.d.take 0) (s.take 0)) := by show _ = _; rw [List.take_zero, List.take_zero]; rfl
  go_wp2_with fail
  go_loopw [6] (fun iv wr => ∃ i : Nat, i ≤ s.length ∧ iv = .int .i64 i ∧ Hid (Hp w wr (bx ob 63 #[.int .i64 o.op, .slice Ad o.d.length cd, .slice As o.s.length cs, .int .i64 o.n, .string o.nm, .int .i64 o.ty.k, .string o.ty.nm, .slice An o.ty.ns.length cn, .slice Ap o.ty.ps.length cp, .bool o.ty.many] :: bx rv 85 #[.slice (some ⟨bb, oo, none⟩) l.length c, .slice (some ⟨cb, 0, none⟩) (KT.length + 1) dc, .slice V VS.length vd, .int .i64 0, .int .i32 0, .slice O m.out.length od, .int .i64 (t : Int), .bool false] :: ow w.heap.size 120 5 (.slice (some ⟨cb, 0, none⟩) (KT.length + 1) dc) (KT.length + 1) (callsC KT ++ [.int .i64 (gu : Int), .int .i64 (gi : Int), .slice RA gr.length rc, gB, .int .i64 ((q + 1 : Nat) : Int)]) :: ow w.heap.size 21 1 (.slice O m.out.length od) m.out.length (m.out.map i32) :: ow w.heap.size 86 1 (.slice V VS.length vd) VS.length VS :: ow w.heap.size 21 1 (.slice RA gr.length rc) gr.length ((setR gr (o.d.take i) (s.take i)).map i32) :: rI w.heap.size gB gb :: (KT.flatMap (frP w.heap.size) ++ (vrP w.heap.size VS m.vs ++ base))))) (fun iv _ => s.length - (intOf iv).toNat)
  case atStart => exact ⟨0, Nat.zero_le _, rfl, by show Hp _ _ _; rw [← H0.out]; exact HS.out⟩
  case round =>
   clear HS; obtain ⟨i, hik, rfl, HS⟩ := hrel
   obtain ⟨w4, rfl⟩ : ∃ x, x = wr := ⟨_, rfl⟩
   by_cases hlt : i < s.length
   ·obtain ⟨sb, so, rfl, hsc⟩ := hs i hlt
    have HSC := Lh hsc
    obtain ⟨sv, hsv⟩ : ∃ x, s[i] = x := ⟨_, rfl⟩
    rw [hsv] at HSC
    have hid : i < o.d.length := by have := HDL.out; omega
    obtain ⟨dn, hdn, hdr, hd8⟩ := HD.out i hid
    obtain ⟨ad, ao, rfl, hal, hac⟩ := HRD.out.i64 hid
    rw [hdn] at hac
    have HDC : Hid (∀ Y, Below w.heap.size w Y → Y.cell? ⟨ad, ao + i, none⟩ = some (.int .i64 (dn : Int))) := fun Y hY => (hY.cell (p := ⟨ad, ao + i, none⟩) hal).trans hac
    have hst : ((setR gr (o.d.take i) (s.take i)).map i32).set dn (.int .i32 sv) = (setR gr (o.d.take (i + 1)) (s.take (i + 1))).map i32 := by
     rw [setR_take hid hlt, List.map_set, hdn, hsv, Int.toNat_natCast]; rfl
    have HST := Lh hst
    obtain ⟨rg, rfl⟩ := own_some (HS.out.own 5 rfl) (by omega)
    have g1 : (i : Int) < (s.length : Int) := by omega
    have g2 : (0 : Int) ≤ (i : Int) := by omega
    have g3 : (i : Int) < 1000 := by omega
    have g4 : (i : Int) < (o.d.length : Int) := by omega
    clear hst
    have g5 : (dn : Int) < (gr.length : Int) := by omega
    have g6 : (0 : Int) ≤ (dn : Int) := by omega
    have g7 : (dn : Int) < 100000 := by omega
    clear hsc hac hal
    go_upto_region 8 with (fail)
    replace HS := Lh HS.out.drew
    refine dQ (fun W => At W cb (KT.length * 5 + 2) (.slice (some ⟨rg, 0, none⟩) gr.length rc) ∧ At W ob 1 (.slice (some ⟨ad, ao, none⟩) o.d.length cd) ∧ At W ad (ao + i) (.int .i64 (dn : Int)) ∧ At W sb (so + i) (.int .i32 sv)) (⟨(call_cells (HS.out.own 2 rfl)).2.2.1, HS.out.c 0 1, HDC.out _ HS.out.mv, HSC.out _ (HS.out.drop.drop.drop.drop.drop.drop.drop.sub (List.Sublist.trans (List.sublist_append_right _ _) (List.sublist_append_right _ _)))⟩) fun _ => ?_
    generalize w4.drew = w5 at *
    refine tQ4 0 1 2 3 ?_; try simp only [sq]
    refine tQ4 4 5 6 7 ?_; try simp only [sq]
    refine tQ4 8 9 10 11 ?_; try simp only [sq]
    refine tQ2 12 13 ?_; try simp only [sq]
    refine rQ 14 (fun K hK => ?_)
    replace HS := Lh HS.out.f5
    have fz := HS.out.one.frozenAt dn
    have ce := HS.out.one.cellAt dn (by omega)
    rw [List.getElem?_map, List.getElem?_eq_getElem (by rw [setR_len]; omega)] at ce
    simp only [Option.map_some, i32] at ce
    go_simp
    clear fz ce
    replace HS := Lh (HS.out.rowput dn (.int .i32 sv))
    generalize w5.setCell _ _ = w6 at *
    rw [HST.out] at HS
    refine hK.out _ _ (⟨(call_cells (HS.out.own 3 rfl)).2.2.1, HS.out.c 1 1, HDC.out _ HS.out.mv, HSC.out _ (HS.out.drop.drop.drop.drop.drop.drop.drop.sub (List.Sublist.trans (List.sublist_append_right _ _) (List.sublist_append_right _ _)))⟩) (fun _ => ?_)
    clear hK K
    try simp only [sq]
    refine fQ ?_ _
    replace HS := Lh HS.out.f6.f1.f6.f6.f6.f6.f6
    go_wp2_with fail
    go_roundw
    case rel => exact ⟨i + 1, by omega, by go_num, HS⟩
    case measure => simp [intOf] <;> omega
   have g1 : ¬ (i : Int) < (s.length : Int) := by omega
   obtain rfl : i = s.length := by omega
   have e1 : o.d.take s.length = o.d := List.take_of_length_le (by have := HDL.out; omega)
   have e2 : s.take s.length = s := List.take_of_length_le (Nat.le_refl _)
   rw [e1, e2] at HS
   clear e1 e2
   replace HS := Lh HS.out.drop
   go_wp2_with fail
   refine bodyPost_end (v := .tuple #[]) (results_none_ rfl _ _ _) rfl ?_
   refine ⟨rfl, .inr (HFIN.out _ ?_)⟩
   unfold rfP
   simp only [List.flatMap_cons, frP, rI, setR_len, List.cons_append, List.nil_append]
   exact HS.out
end Go.Proofs.YthihaeobkoiljaaGreat
