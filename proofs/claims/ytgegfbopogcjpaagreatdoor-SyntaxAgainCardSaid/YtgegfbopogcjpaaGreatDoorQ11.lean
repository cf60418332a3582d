/- The printer: expressions that take no parentheses. -/
import Derived.Test.YtgegfbopogcjpaaGreatDoorQ10
namespace Go.Proofs.YtgegfbopogcjpaaGreatDoor
open Go.RowKit
set_option linter.unusedVariables false
set_option linter.unusedSimpArgs false
set_option maxRecDepth 100000
set_option maxHeartbeats 2000000
def EOk (w0 : World) (p : Nat) (m : Nd) : Prop :=
 ∀ (cs : List Value) (w : World) (ws : List ByteArray) (least : Int), 0 ≤ least → least ≤ 4 → RepN w0 m cs → Stq w0 p ws w → ws.length + 10 * many m ≤ 90000 → Calls Tryz.prog 103 #[.pointer (some ⟨p, 0, none⟩), .agg cs.toArray, .int .i64 least] w (NOut w0 p ws (okC 4 m) (atW least (bindN m) (shw m)) (10 * many m - 3) w)
theorem sgnB_vals (op : Int) : sgnB op = -1 ∨ sgnB op = 0 ∨ sgnB op = 1 ∨ sgnB op = 2 := by
 rcases hs : sgn op with _ | x
 ·left; unfold sgnB; rw [hs]
 ·unfold sgnB
  rw [hs]
  unfold sgn at hs
  repeat' split at hs
  all_goals simp at hs
  all_goals (subst hs; simp)
theorem bind_ok {n : Nd} (h : okC 4 n = true) : 0 ≤ bindN n := by
 unfold okC at h
 rw [Bool.and_eq_true] at h
 obtain ⟨h1, h2⟩ := h
 unfold bindN bindK
 split
 ·omega
 ·split
  ·rename_i h32
   have hs : shp n.k = some ⟨false, 12, 2, 2⟩ := by rw [h32]; rfl
   rw [isN_plain n false 12 2 2 hs (by omega) (by omega) (by omega)] at h2
   rw [h32] at h2
   simp only [Bool.and_eq_true] at h2
   have h3 : (sgn n.num).isSome = true := by simpa using h2.1.1.1.2
   unfold sgnB
   rcases hs : sgn n.num with _ | x
   ·rw [hs] at h3; cases h3
   ·have := sgnB_vals n.num
    unfold sgnB at this
    rw [hs] at this
    simp only at this ⊢
    rcases this with h | h | h | h
    ·exfalso
     unfold sgn at hs
     repeat' split at hs
     all_goals simp at hs
     all_goals (subst hs; simp at h)
    all_goals omega
  ·omega
theorem atW_not {least b : Int} (w : List ByteArray) (h : ¬ b < least) : atW least b w = w := by unfold atW; rw [if_neg h]
theorem NOut.renew {w0 w w' : World} {p m : Nat} {ws new new' : List ByteArray} {ok : Bool} {e : Ending} (h : NOut w0 p ws ok new m w e w') (hn : ok = true → new = new') : NOut w0 p ws ok new' m w e w' := by
 obtain ⟨ws', h1, h2, h3, (⟨h4, h5, h6⟩ | h4)⟩ := h
 ·exact ⟨ws', h1, h2, h3, .inl ⟨h4, h5, by rw [h6, hn h4]⟩⟩
 ·exact ⟨ws', h1, h2, h3, .inr h4⟩
theorem whole_of (w0 : World) (p : Nat) (m : Nd) (h : EOk w0 p m) : LOk 134 (okC 4) shw w0 p m := by
 intro cs w ws hr hst hb
 have HE := Lib.hid h
 have HR := Lib.hid hr
 have HS := Lib.hid hst
 clear h hst
 obtain ⟨A, c, rfl, -⟩ := hr.four
 clear hr
 obtain ⟨ok, HK⟩ : ∃ b, Hid (okC 4 m = b) := ⟨_, rfl⟩
 have HX : Hid (ok = true → atW 0 (bindN m) (shw m) = shw m) := by
  intro h
  exact atW_not _ (by have := bind_ok (HK.out.trans h); omega)
 rw [HK.out]
 generalize hnw : shw m = nw at *
 have HNW := Lib.hid hnw
 clear hnw
 obtain ⟨gm, HG⟩ : ∃ b, Hid (10 * many m - 3 = b) := ⟨_, rfl⟩
 rw [HG.out]
 have hlt := HS.out.2.lt
 go_enter Tryz.func134, Tryz.ntmps134
 go_wp2_with fail
 refine (HE.out _ _ _ 0 (by omega) (by omega) HR.out (HS.out.alloc _) (by omega)).mono ?_
 rintro e w1 hq
 rw [HNW.out, HK.out, HG.out] at hq
 obtain ⟨ws1, h1, p1, l1, (⟨o1, rfl, e1⟩ | ⟨o1, rfl⟩)⟩ := hq
 ·have H1 := Lib.hid h1
  have P1 := Lib.hid ((PK.alloc_ _ _ hlt).trans_ p1)
  have O1 := Lib.hid o1
  have E1 := Lib.hid e1
  clear h1 p1 o1 e1
  go_wp2
  go_end0
  exact NOut.yes2 H1.out P1.out O1.out (by rw [E1.out, HX.out O1.out]) l1
 ·have H1 := Lib.hid h1
  have P1 := Lib.hid ((PK.alloc_ _ _ hlt).trans_ p1)
  have O1 := Lib.hid o1
  clear h1 p1 o1
  unfold noneE
  go_wp2
  exact ⟨rfl, NOut.no H1.out P1.out O1.out l1⟩
theorem sl_lo (bb oo n c : Nat) (w : World) (h : 1 ≤ n) (hn : n ≤ c) (hc : n ≤ maxLen) : (Instr.slice 22 (.slice (some ⟨bb, oo, none⟩) n c) (some (.int .i64 1)) none none).run Tryz.prog w = .ok (.slice (some ⟨bb, if c = 1 then oo else oo + 4, none⟩) (n - 1) (c - 1)) w := by
 have e : (some ⟨bb, if c = 1 then oo else oo + 4, none⟩ : Option Addr) = (if c = 1 then some ⟨bb, oo, none⟩ else some ⟨bb, oo + 4, none⟩) := by split <;> rfl
 rw [e]
 simp [go_sem, Tryz.underlying22]
 intro h0
 exact absurd h0 (by omega)
def MakeRel (w0 w : World) (p : Nat) (ws pre : List ByteArray) (l : List Nd) (i : Value) (wr : World) : Prop :=
 ∃ (k : Nat) (ws1 : List ByteArray), i = .int .i64 k ∧ k ≤ l.length ∧ Hid (Stq w0 p ws1 wr ∧ PK p w wr ∧ ws1 = ws ++ (pre ++ commas ((l.take k).map shw)) ∧ (l.take k).all (okC 4) = true ∧ ws1.length ≤ ws.length + pre.length + 10 * manyL (l.take k))
theorem cf_whole : ∀ (args : Array Value) (w : World), (callFunc 134 args).run Tryz.prog w = .ok (.enter 134 args) w := cf_of Tryz.func134 (by kernel_rfl) (by kernel_rfl)
theorem expr_23 (w0 : World) (p : Nat) (hE : Env w0) (n : Nd) (hk : Hid (n.k = 23)) : EOk w0 p n := by
 intro cs w ws least hl0 hl4 hr hst hb
 obtain ⟨A, c, rfl, hR, hcap, hlm, hn64, hts⟩ := hr.four
 have HR := Lib.hid hR
 have hmany := many_eq n
 clear hr hR
 obtain ⟨ok, HK⟩ : ∃ b, Hid (okC 4 n = b) := ⟨_, rfl⟩
 rw [HK.out]
 obtain ⟨nw, HW⟩ : ∃ b, Hid (atW least (bindN n) (shw n) = b) := ⟨_, rfl⟩
 rw [HW.out]
 generalize hgm : 10 * many n - 3 = gm
 have hgm2 : 10 * manyL n.kids + 7 = gm := by omega
 have HGM := Lib.hid hgm
 clear hgm
 have HOK : Hid (ok = plainB n true false 0 0) := by
  show _ = _
  rw [← HK.out, okC_of (by rw [hk.out]; rfl), isN_leaf (text := true) (by rw [hk.out]; rfl)] <;> rw [hk.out] <;> decide
 have b32 : (n.k == 32) = false := by rw [hk.out]; rfl
 have b28 : (n.k == 28) = false := by rw [hk.out]; rfl
 have b29 : (n.k == 29) = false := by rw [hk.out]; rfl
 have b24 : (n.k == 24) = false := by rw [hk.out]; rfl
 have b25 : (n.k == 25) = false := by rw [hk.out]; rfl
 have b23 : (n.k == 23) = true := by rw [hk.out]; rfl
 have b26 : (n.k == 26) = false := by rw [hk.out]; rfl
 have b27 : (n.k == 27) = false := by rw [hk.out]; rfl
 have b33 : (n.k == 33) = false := by rw [hk.out]; rfl
 have b30 : (n.k == 30) = false := by rw [hk.out]; rfl
 have b31 : (n.k == 31) = false := by rw [hk.out]; rfl
 have b34 : (n.k == 34) = false := by rw [hk.out]; rfl
 have X0 := Lib.hid (Bx.start n A c hst)
 have hlw := hst.2.lt
 clear hst
 have HBN : Hid (bindN n = 4) := by
  show _ = _
  unfold bindN bindK
  rw [hk.out]
  rfl
 have dl : decide ((4 : Int) < least) = false := by rw [decide_eq_false_iff_not]; omega
 have dl2 : ¬ (4 : Int) < least := by omega
 go_enter Tryz.func103, Tryz.ntmps103
 go_wp2_with fail
 refine (level_any n _ _ _).mono ?_
 rintro e w1 ⟨rfl, hb1⟩
 rw [HBN.out]
 have X1 := Lib.hid (X0.out.below hb1)
 clear hb1
 have q0 := X1.out.blk.cell 0 (.int .i64 n.k) rfl
 have q1 := X1.out.blk.cell 1 (.string n.t) rfl
 have q2 := X1.out.blk.cell 2 (.int .i64 n.num) rfl
 have q3 := X1.out.blk.cell 3 (.slice A n.kids.length c) rfl
 go_wp2_with fail
 refine (plain_any n _ _ _ _ _ _ _ (X1.out.st.env hE).ml).mono ?_
 rintro e w2 ⟨(⟨hq, rfl⟩ | ⟨hq, rfl⟩), hb2⟩
 rotate_left
 ·have X2 := Lib.hid (X1.out.below hb2)
  have Q2 := Lib.hid hq
  clear hq hb2
  unfold noneE
  go_wp2
  exact ⟨rfl, NOut.no X2.out.st X2.out.pk (by rw [HOK.out, Q2.out] <;> simp) (by omega)⟩
 have X2 := Lib.hid (X1.out.below hb2)
 have Q2 := Lib.hid hq
 clear hq hb2
 clear q0 q1 q2 q3 
 have q0 := X2.out.blk.cell 0 (.int .i64 n.k) rfl
 have q1 := X2.out.blk.cell 1 (.string n.t) rfl
 have q2 := X2.out.blk.cell 2 (.int .i64 n.num) rfl
 have q3 := X2.out.blk.cell 3 (.slice A n.kids.length c) rfl
 go_wp2_with fail
 refine (psay1 _ X2.out.st (by omega)).mono ?_
 rintro e w3 ⟨rfl, h3, p3⟩
 obtain ⟨ws3, e3⟩ : ∃ l : List ByteArray, l = ws ++ [n.t] := ⟨_, rfl⟩
 rw [← e3] at h3
 have L3 : ws3.length = ws.length + 1 := by rw [e3]; simp
 have E3 := Lib.hid e3
 have X3 := Lib.hid (X2.out.step h3 p3)
 clear e3 h3 p3 q0 q1 q2 q3 
 have q0 := X3.out.blk.cell 0 (.int .i64 n.k) rfl
 have q1 := X3.out.blk.cell 1 (.string n.t) rfl
 have q2 := X3.out.blk.cell 2 (.int .i64 n.num) rfl
 have q3 := X3.out.blk.cell 3 (.slice A n.kids.length c) rfl
 go_wp2
 go_end0
 exact NOut.yes2 X3.out.st X3.out.pk (by rw [HOK.out, Q2.out] <;> simp) (by rw [E3.out, ← HW.out, HBN.out, atW_not _ (by omega), shw_eq, hk.out]; rfl) (by omega)
theorem expr_26 (w0 : World) (p : Nat) (hE : Env w0) (n : Nd) (hk : Hid (n.k = 26)) : EOk w0 p n := by
 intro cs w ws least hl0 hl4 hr hst hb
 obtain ⟨A, c, rfl, hR, hcap, hlm, hn64, hts⟩ := hr.four
 have HR := Lib.hid hR
 have hmany := many_eq n
 clear hr hR
 obtain ⟨ok, HK⟩ : ∃ b, Hid (okC 4 n = b) := ⟨_, rfl⟩
 rw [HK.out]
 obtain ⟨nw, HW⟩ : ∃ b, Hid (atW least (bindN n) (shw n) = b) := ⟨_, rfl⟩
 rw [HW.out]
 generalize hgm : 10 * many n - 3 = gm
 have hgm2 : 10 * manyL n.kids + 7 = gm := by omega
 have HGM := Lib.hid hgm
 clear hgm
 have HOK : Hid (ok = plainB n true false 0 0) := by
  show _ = _
  rw [← HK.out, okC_of (by rw [hk.out]; rfl), isN_leaf (text := true) (by rw [hk.out]; rfl)] <;> rw [hk.out] <;> decide
 have b32 : (n.k == 32) = false := by rw [hk.out]; rfl
 have b28 : (n.k == 28) = false := by rw [hk.out]; rfl
 have b29 : (n.k == 29) = false := by rw [hk.out]; rfl
 have b24 : (n.k == 24) = false := by rw [hk.out]; rfl
 have b25 : (n.k == 25) = false := by rw [hk.out]; rfl
 have b23 : (n.k == 23) = false := by rw [hk.out]; rfl
 have b26 : (n.k == 26) = true := by rw [hk.out]; rfl
 have b27 : (n.k == 27) = false := by rw [hk.out]; rfl
 have b33 : (n.k == 33) = false := by rw [hk.out]; rfl
 have b30 : (n.k == 30) = false := by rw [hk.out]; rfl
 have b31 : (n.k == 31) = false := by rw [hk.out]; rfl
 have b34 : (n.k == 34) = false := by rw [hk.out]; rfl
 have X0 := Lib.hid (Bx.start n A c hst)
 have hlw := hst.2.lt
 clear hst
 have HBN : Hid (bindN n = 4) := by
  show _ = _
  unfold bindN bindK
  rw [hk.out]
  rfl
 have dl : decide ((4 : Int) < least) = false := by rw [decide_eq_false_iff_not]; omega
 have dl2 : ¬ (4 : Int) < least := by omega
 go_enter Tryz.func103, Tryz.ntmps103
 go_wp2_with fail
 refine (level_any n _ _ _).mono ?_
 rintro e w1 ⟨rfl, hb1⟩
 rw [HBN.out]
 have X1 := Lib.hid (X0.out.below hb1)
 clear hb1
 have q0 := X1.out.blk.cell 0 (.int .i64 n.k) rfl
 have q1 := X1.out.blk.cell 1 (.string n.t) rfl
 have q2 := X1.out.blk.cell 2 (.int .i64 n.num) rfl
 have q3 := X1.out.blk.cell 3 (.slice A n.kids.length c) rfl
 go_wp2_with fail
 refine (plain_any n _ _ _ _ _ _ _ (X1.out.st.env hE).ml).mono ?_
 rintro e w2 ⟨(⟨hq, rfl⟩ | ⟨hq, rfl⟩), hb2⟩
 rotate_left
 ·have X2 := Lib.hid (X1.out.below hb2)
  have Q2 := Lib.hid hq
  clear hq hb2
  unfold noneE
  go_wp2
  exact ⟨rfl, NOut.no X2.out.st X2.out.pk (by rw [HOK.out, Q2.out] <;> simp) (by omega)⟩
 have X2 := Lib.hid (X1.out.below hb2)
 have Q2 := Lib.hid hq
 clear hq hb2
 clear q0 q1 q2 q3 
 have q0 := X2.out.blk.cell 0 (.int .i64 n.k) rfl
 have q1 := X2.out.blk.cell 1 (.string n.t) rfl
 have q2 := X2.out.blk.cell 2 (.int .i64 n.num) rfl
 have q3 := X2.out.blk.cell 3 (.slice A n.kids.length c) rfl
 go_wp2_with fail
 refine (psay2 _ _ X2.out.st (by omega)).mono ?_
 rintro e w3 ⟨rfl, h3, p3⟩
 obtain ⟨ws3, e3⟩ : ∃ l : List ByteArray, l = ws ++ [⟨#[38]⟩, n.t] := ⟨_, rfl⟩
 rw [← e3] at h3
 have L3 : ws3.length = ws.length + 2 := by rw [e3]; simp
 have E3 := Lib.hid e3
 have X3 := Lib.hid (X2.out.step h3 p3)
 clear e3 h3 p3 q0 q1 q2 q3 
 have q0 := X3.out.blk.cell 0 (.int .i64 n.k) rfl
 have q1 := X3.out.blk.cell 1 (.string n.t) rfl
 have q2 := X3.out.blk.cell 2 (.int .i64 n.num) rfl
 have q3 := X3.out.blk.cell 3 (.slice A n.kids.length c) rfl
 go_wp2
 go_end0
 exact NOut.yes2 X3.out.st X3.out.pk (by rw [HOK.out, Q2.out] <;> simp) (by rw [E3.out, ← HW.out, HBN.out, atW_not _ (by omega), shw_eq, hk.out]; rfl) (by omega)
theorem expr_33 (w0 : World) (p : Nat) (hE : Env w0) (n : Nd) (hk : Hid (n.k = 33)) : EOk w0 p n := by
 intro cs w ws least hl0 hl4 hr hst hb
 obtain ⟨A, c, rfl, hR, hcap, hlm, hn64, hts⟩ := hr.four
 have HR := Lib.hid hR
 have hmany := many_eq n
 clear hr hR
 obtain ⟨ok, HK⟩ : ∃ b, Hid (okC 4 n = b) := ⟨_, rfl⟩
 rw [HK.out]
 obtain ⟨nw, HW⟩ : ∃ b, Hid (atW least (bindN n) (shw n) = b) := ⟨_, rfl⟩
 rw [HW.out]
 generalize hgm : 10 * many n - 3 = gm
 have hgm2 : 10 * manyL n.kids + 7 = gm := by omega
 have HGM := Lib.hid hgm
 clear hgm
 have HOK : Hid (ok = plainB n false false 0 0) := by
  show _ = _
  rw [← HK.out, okC_of (by rw [hk.out]; rfl), isN_leaf (text := false) (by rw [hk.out]; rfl)] <;> rw [hk.out] <;> decide
 have b32 : (n.k == 32) = false := by rw [hk.out]; rfl
 have b28 : (n.k == 28) = false := by rw [hk.out]; rfl
 have b29 : (n.k == 29) = false := by rw [hk.out]; rfl
 have b24 : (n.k == 24) = false := by rw [hk.out]; rfl
 have b25 : (n.k == 25) = false := by rw [hk.out]; rfl
 have b23 : (n.k == 23) = false := by rw [hk.out]; rfl
 have b26 : (n.k == 26) = false := by rw [hk.out]; rfl
 have b27 : (n.k == 27) = false := by rw [hk.out]; rfl
 have b33 : (n.k == 33) = true := by rw [hk.out]; rfl
 have b30 : (n.k == 30) = false := by rw [hk.out]; rfl
 have b31 : (n.k == 31) = false := by rw [hk.out]; rfl
 have b34 : (n.k == 34) = false := by rw [hk.out]; rfl
 have X0 := Lib.hid (Bx.start n A c hst)
 have hlw := hst.2.lt
 clear hst
 have HBN : Hid (bindN n = 4) := by
  show _ = _
  unfold bindN bindK
  rw [hk.out]
  rfl
 have dl : decide ((4 : Int) < least) = false := by rw [decide_eq_false_iff_not]; omega
 have dl2 : ¬ (4 : Int) < least := by omega
 go_enter Tryz.func103, Tryz.ntmps103
 go_wp2_with fail
 refine (level_any n _ _ _).mono ?_
 rintro e w1 ⟨rfl, hb1⟩
 rw [HBN.out]
 have X1 := Lib.hid (X0.out.below hb1)
 clear hb1
 have q0 := X1.out.blk.cell 0 (.int .i64 n.k) rfl
 have q1 := X1.out.blk.cell 1 (.string n.t) rfl
 have q2 := X1.out.blk.cell 2 (.int .i64 n.num) rfl
 have q3 := X1.out.blk.cell 3 (.slice A n.kids.length c) rfl
 go_wp2_with fail
 refine (plain_any n _ _ _ _ _ _ _ (X1.out.st.env hE).ml).mono ?_
 rintro e w2 ⟨(⟨hq, rfl⟩ | ⟨hq, rfl⟩), hb2⟩
 rotate_left
 ·have X2 := Lib.hid (X1.out.below hb2)
  have Q2 := Lib.hid hq
  clear hq hb2
  unfold noneE
  go_wp2
  exact ⟨rfl, NOut.no X2.out.st X2.out.pk (by rw [HOK.out, Q2.out] <;> simp) (by omega)⟩
 have X2 := Lib.hid (X1.out.below hb2)
 have Q2 := Lib.hid hq
 clear hq hb2
 clear q0 q1 q2 q3 
 have q0 := X2.out.blk.cell 0 (.int .i64 n.k) rfl
 have q1 := X2.out.blk.cell 1 (.string n.t) rfl
 have q2 := X2.out.blk.cell 2 (.int .i64 n.num) rfl
 have q3 := X2.out.blk.cell 3 (.slice A n.kids.length c) rfl
 go_wp2_with fail
 refine (psay1 _ X2.out.st (by omega)).mono ?_
 rintro e w3 ⟨rfl, h3, p3⟩
 obtain ⟨ws3, e3⟩ : ∃ l : List ByteArray, l = ws ++ [⟨#[99, 111, 117, 110, 116]⟩] := ⟨_, rfl⟩
 rw [← e3] at h3
 have L3 : ws3.length = ws.length + 1 := by rw [e3]; simp
 have E3 := Lib.hid e3
 have X3 := Lib.hid (X2.out.step h3 p3)
 clear e3 h3 p3 q0 q1 q2 q3 
 have q0 := X3.out.blk.cell 0 (.int .i64 n.k) rfl
 have q1 := X3.out.blk.cell 1 (.string n.t) rfl
 have q2 := X3.out.blk.cell 2 (.int .i64 n.num) rfl
 have q3 := X3.out.blk.cell 3 (.slice A n.kids.length c) rfl
 go_wp2
 go_end0
 exact NOut.yes2 X3.out.st X3.out.pk (by rw [HOK.out, Q2.out] <;> simp) (by rw [E3.out, ← HW.out, HBN.out, atW_not _ (by omega), shw_eq, hk.out]; rfl) (by omega)
theorem expr_24 (w0 : World) (p : Nat) (hE : Env w0) (n : Nd) (hk : Hid (n.k = 24)) (IH : ∀ m ∈ n.kids, EOk w0 p m) : EOk w0 p n := by
 intro cs w ws least hl0 hl4 hr hst hb
 obtain ⟨A, c, rfl, hR, hcap, hlm, hn64, hts⟩ := hr.four
 have HR := Lib.hid hR
 have hmany := many_eq n
 clear hr hR
 obtain ⟨ok, HK⟩ : ∃ b, Hid (okC 4 n = b) := ⟨_, rfl⟩
 rw [HK.out]
 obtain ⟨nw, HW⟩ : ∃ b, Hid (atW least (bindN n) (shw n) = b) := ⟨_, rfl⟩
 rw [HW.out]
 generalize hgm : 10 * many n - 3 = gm
 have hgm2 : 10 * manyL n.kids + 7 = gm := by omega
 have HGM := Lib.hid hgm
 clear hgm
 obtain ⟨rest, HRR⟩ : ∃ b, Hid (isNL n.k 0 n.kids.length n.kids = b) := ⟨_, rfl⟩
 have HOK : Hid (ok = (plainB n true false 1 1 && rest)) := by
  show _ = _
  rw [← HK.out, okC_of (by rw [hk.out]; rfl), isN_p0 (text := true) (least := 1) (most := 1) (by rw [hk.out]; rfl) (by rw [hk.out]; decide) (by rw [hk.out]; decide) (by rw [hk.out]; decide) (by rw [hk.out]; decide), HRR.out]
  rfl
 have b32 : (n.k == 32) = false := by rw [hk.out]; rfl
 have b28 : (n.k == 28) = false := by rw [hk.out]; rfl
 have b29 : (n.k == 29) = false := by rw [hk.out]; rfl
 have b24 : (n.k == 24) = true := by rw [hk.out]; rfl
 have b25 : (n.k == 25) = false := by rw [hk.out]; rfl
 have b23 : (n.k == 23) = false := by rw [hk.out]; rfl
 have b26 : (n.k == 26) = false := by rw [hk.out]; rfl
 have b27 : (n.k == 27) = false := by rw [hk.out]; rfl
 have b33 : (n.k == 33) = false := by rw [hk.out]; rfl
 have b30 : (n.k == 30) = false := by rw [hk.out]; rfl
 have b31 : (n.k == 31) = false := by rw [hk.out]; rfl
 have b34 : (n.k == 34) = false := by rw [hk.out]; rfl
 have X0 := Lib.hid (Bx.start n A c hst)
 have hlw := hst.2.lt
 clear hst
 have HBN : Hid (bindN n = 4) := by
  show _ = _
  unfold bindN bindK
  rw [hk.out]
  rfl
 have dl : decide ((4 : Int) < least) = false := by rw [decide_eq_false_iff_not]; omega
 have dl2 : ¬ (4 : Int) < least := by omega
 go_enter Tryz.func103, Tryz.ntmps103
 go_wp2_with fail
 refine (level_any n _ _ _).mono ?_
 rintro e w1 ⟨rfl, hb1⟩
 rw [HBN.out]
 have X1 := Lib.hid (X0.out.below hb1)
 clear hb1
 have q0 := X1.out.blk.cell 0 (.int .i64 n.k) rfl
 have q1 := X1.out.blk.cell 1 (.string n.t) rfl
 have q2 := X1.out.blk.cell 2 (.int .i64 n.num) rfl
 have q3 := X1.out.blk.cell 3 (.slice A n.kids.length c) rfl
 go_wp2_with fail
 refine (plain_any n _ _ _ _ _ _ _ (X1.out.st.env hE).ml).mono ?_
 rintro e w2 ⟨(⟨hq, rfl⟩ | ⟨hq, rfl⟩), hb2⟩
 rotate_left
 ·have X2 := Lib.hid (X1.out.below hb2)
  have Q2 := Lib.hid hq
  clear hq hb2
  unfold noneE
  go_wp2
  exact ⟨rfl, NOut.no X2.out.st X2.out.pk (by rw [HOK.out, Q2.out] <;> simp) (by omega)⟩
 have X2 := Lib.hid (X1.out.below hb2)
 have Q2 := Lib.hid hq
 clear hq hb2
 clear q0 q1 q2 q3 
 have q0 := X2.out.blk.cell 0 (.int .i64 n.k) rfl
 have q1 := X2.out.blk.cell 1 (.string n.t) rfl
 have q2 := X2.out.blk.cell 2 (.int .i64 n.num) rfl
 have q3 := X2.out.blk.cell 3 (.slice A n.kids.length c) rfl
 obtain ⟨x, hkx⟩ := oneKid Q2.out
 obtain ⟨bb, oo, Ax, cx, hA, hbl, k0, k1, k2, k3, rx⟩ := first_kid HR.out (by rw [hkx]; rfl : n.kids[0]? = some x)
 subst hA
 have RX := Lib.hid rx
 have hml : many x = manyL n.kids := by rw [hkx, manyL_one]
 have hposx := many_pos x
 have hlen : n.kids.length = 1 := by rw [hkx]; rfl
 have hjp : 0 < n.kids.length := by omega
 have HKX := Lib.hid hkx
 have HLEN := Lib.hid hlen
 clear rx hkx hlen
 have HREST : Hid (rest = okC 4 x) := by
  show _ = _
  rw [← HRR.out, hk.out, isNL_okC (c := 4) _ _ (fun _ _ _ => rfl), HKX.out]
  simp
 have HSH : Hid (nw = atW 4 (bindN x) (shw x) ++ [⟨#[46]⟩, n.t]) := by
  show _ = _
  rw [← HW.out, HBN.out, atW_not _ (by omega), shw_eq, hk.out, HKX.out]
  rfl
 have IHX := Lib.hid (IH x (by rw [HKX.out]; simp))
 clear IH
 have bw := X2.out.st.1
 have z0 := (bw.cell (p := ⟨bb, oo + 0 * 4, none⟩) hbl).trans k0
 have z1 := (bw.cell (p := ⟨bb, oo + 0 * 4 + 1, none⟩) hbl).trans k1
 have z2 := (bw.cell (p := ⟨bb, oo + 0 * 4 + 2, none⟩) hbl).trans k2
 have z3 := (bw.cell (p := ⟨bb, oo + 0 * 4 + 3, none⟩) hbl).trans k3
 clear bw
 simp only [Nat.zero_mul, Nat.add_zero] at z0 z1 z2 z3
 go_wp2_with fail
 refine (IHX.out _ _ _ (4) (by omega) (by omega) RX.out X2.out.st (by omega)).mono ?_
 rintro e w3 ⟨ws3, h3, p3, L3, (⟨o3, rfl, e3⟩ | ⟨o3, rfl⟩)⟩
 rotate_left
 ·have X3 := Lib.hid (X2.out.step h3 p3)
  have Q3 := Lib.hid o3
  clear h3 p3 o3
  unfold noneE
  go_wp2
  exact ⟨rfl, NOut.no X3.out.st X3.out.pk (by rw [HOK.out, Q2.out, HREST.out, Q3.out] <;> simp) (by omega)⟩
 have X3 := Lib.hid (X2.out.step h3 p3)
 have Q3 := Lib.hid o3
 have E3 := Lib.hid e3
 clear h3 p3 o3 e3 q0 q1 q2 q3 z0 z1 z2 z3
 have q0 := X3.out.blk.cell 0 (.int .i64 n.k) rfl
 have q1 := X3.out.blk.cell 1 (.string n.t) rfl
 have q2 := X3.out.blk.cell 2 (.int .i64 n.num) rfl
 have q3 := X3.out.blk.cell 3 (.slice (some ⟨bb, oo, none⟩) n.kids.length c) rfl
 go_wp2_with fail
 refine (psay2 _ _ X3.out.st (by omega)).mono ?_
 rintro e w4 ⟨rfl, h4, p4⟩
 obtain ⟨ws4, e4⟩ : ∃ l : List ByteArray, l = ws3 ++ [⟨#[46]⟩, n.t] := ⟨_, rfl⟩
 rw [← e4] at h4
 have L4 : ws4.length = ws3.length + 2 := by rw [e4]; simp
 have E4 := Lib.hid e4
 have X4 := Lib.hid (X3.out.step h4 p4)
 clear e4 h4 p4 q0 q1 q2 q3 
 have q0 := X4.out.blk.cell 0 (.int .i64 n.k) rfl
 have q1 := X4.out.blk.cell 1 (.string n.t) rfl
 have q2 := X4.out.blk.cell 2 (.int .i64 n.num) rfl
 have q3 := X4.out.blk.cell 3 (.slice (some ⟨bb, oo, none⟩) n.kids.length c) rfl
 go_wp2
 go_end0
 exact NOut.yes2 X4.out.st X4.out.pk (by rw [HOK.out, Q2.out, HREST.out, Q3.out] <;> simp) (by rw [E4.out, E3.out, HSH.out]; simp) (by omega)
theorem expr_30 (w0 : World) (p : Nat) (hE : Env w0) (n : Nd) (hk : Hid (n.k = 30)) (IH : ∀ m ∈ n.kids, EOk w0 p m) : EOk w0 p n := by
 intro cs w ws least hl0 hl4 hr hst hb
 obtain ⟨A, c, rfl, hR, hcap, hlm, hn64, hts⟩ := hr.four
 have HR := Lib.hid hR
 have hmany := many_eq n
 clear hr hR
 obtain ⟨ok, HK⟩ : ∃ b, Hid (okC 4 n = b) := ⟨_, rfl⟩
 rw [HK.out]
 obtain ⟨nw, HW⟩ : ∃ b, Hid (atW least (bindN n) (shw n) = b) := ⟨_, rfl⟩
 rw [HW.out]
 generalize hgm : 10 * many n - 3 = gm
 have hgm2 : 10 * manyL n.kids + 7 = gm := by omega
 have HGM := Lib.hid hgm
 clear hgm
 obtain ⟨rest, HRR⟩ : ∃ b, Hid (isNL n.k 0 n.kids.length n.kids = b) := ⟨_, rfl⟩
 have HOK : Hid (ok = (plainB n false false 1 1 && rest)) := by
  show _ = _
  rw [← HK.out, okC_of (by rw [hk.out]; rfl), isN_p0 (text := false) (least := 1) (most := 1) (by rw [hk.out]; rfl) (by rw [hk.out]; decide) (by rw [hk.out]; decide) (by rw [hk.out]; decide) (by rw [hk.out]; decide), HRR.out]
  rfl
 have b32 : (n.k == 32) = false := by rw [hk.out]; rfl
 have b28 : (n.k == 28) = false := by rw [hk.out]; rfl
 have b29 : (n.k == 29) = false := by rw [hk.out]; rfl
 have b24 : (n.k == 24) = false := by rw [hk.out]; rfl
 have b25 : (n.k == 25) = false := by rw [hk.out]; rfl
 have b23 : (n.k == 23) = false := by rw [hk.out]; rfl
 have b26 : (n.k == 26) = false := by rw [hk.out]; rfl
 have b27 : (n.k == 27) = false := by rw [hk.out]; rfl
 have b33 : (n.k == 33) = false := by rw [hk.out]; rfl
 have b30 : (n.k == 30) = true := by rw [hk.out]; rfl
 have b31 : (n.k == 31) = false := by rw [hk.out]; rfl
 have b34 : (n.k == 34) = false := by rw [hk.out]; rfl
 have hmk := fun w : World => run_makeMap (P := Tryz.prog) 141 w
 have hu1 := mu_i1
 have hu2 := mu_i2
 have hu3 := mu_i3
 have hlk := lk_i30
 have X0 := Lib.hid (Bx.start n A c hst)
 have hlw := hst.2.lt
 clear hst
 have HBN : Hid (bindN n = 4) := by
  show _ = _
  unfold bindN bindK
  rw [hk.out]
  rfl
 have dl : decide ((4 : Int) < least) = false := by rw [decide_eq_false_iff_not]; omega
 have dl2 : ¬ (4 : Int) < least := by omega
 go_enter Tryz.func103, Tryz.ntmps103
 go_wp2_with fail
 refine (level_any n _ _ _).mono ?_
 rintro e w1 ⟨rfl, hb1⟩
 rw [HBN.out]
 have X1 := Lib.hid (X0.out.below hb1)
 clear hb1
 have q0 := X1.out.blk.cell 0 (.int .i64 n.k) rfl
 have q1 := X1.out.blk.cell 1 (.string n.t) rfl
 have q2 := X1.out.blk.cell 2 (.int .i64 n.num) rfl
 have q3 := X1.out.blk.cell 3 (.slice A n.kids.length c) rfl
 go_wp2_with fail
 refine (plain_any n _ _ _ _ _ _ _ (X1.out.st.env hE).ml).mono ?_
 rintro e w2 ⟨(⟨hq, rfl⟩ | ⟨hq, rfl⟩), hb2⟩
 rotate_left
 ·have X2 := Lib.hid (X1.out.below hb2)
  have Q2 := Lib.hid hq
  clear hq hb2
  unfold noneE
  go_wp2
  exact ⟨rfl, NOut.no X2.out.st X2.out.pk (by rw [HOK.out, Q2.out] <;> simp) (by omega)⟩
 have X2 := Lib.hid (X1.out.below hb2)
 have Q2 := Lib.hid hq
 clear hq hb2
 clear q0 q1 q2 q3 
 have q0 := X2.out.blk.cell 0 (.int .i64 n.k) rfl
 have q1 := X2.out.blk.cell 1 (.string n.t) rfl
 have q2 := X2.out.blk.cell 2 (.int .i64 n.num) rfl
 have q3 := X2.out.blk.cell 3 (.slice A n.kids.length c) rfl
 obtain ⟨x, hkx⟩ := oneKid Q2.out
 obtain ⟨bb, oo, Ax, cx, hA, hbl, k0, k1, k2, k3, rx⟩ := first_kid HR.out (by rw [hkx]; rfl : n.kids[0]? = some x)
 subst hA
 have RX := Lib.hid rx
 have hml : many x = manyL n.kids := by rw [hkx, manyL_one]
 have hposx := many_pos x
 have hlen : n.kids.length = 1 := by rw [hkx]; rfl
 have hjp : 0 < n.kids.length := by omega
 have HKX := Lib.hid hkx
 have HLEN := Lib.hid hlen
 clear rx hkx hlen
 have HREST : Hid (rest = okC 4 x) := by
  show _ = _
  rw [← HRR.out, hk.out, isNL_okC (c := 4) _ _ (fun _ _ _ => rfl), HKX.out]
  simp
 have HSH : Hid (nw = [⟨#[105, 110, 116]⟩, ⟨#[40]⟩] ++ shw x ++ [⟨#[41]⟩]) := by
  show _ = _
  rw [← HW.out, HBN.out, atW_not _ (by omega), shw_eq, hk.out, HKX.out]
  rfl
 have IHX := Lib.hid (IH x (by rw [HKX.out]; simp))
 clear IH
 have X3 := Lib.hid (X2.out.alloc (.map mapI3 3))
 clear q0 q1 q2 q3
 have hkk := hk.out
 have q0 := X3.out.blk.cell 0 (.int .i64 n.k) rfl
 have q1 := X3.out.blk.cell 1 (.string n.t) rfl
 have q2 := X3.out.blk.cell 2 (.int .i64 n.num) rfl
 have q3 := X3.out.blk.cell 3 (.slice (some ⟨bb, oo, none⟩) n.kids.length c) rfl
 rw [hkk] at q0
 go_wp2_with fail
 refine (psay2 _ _ X3.out.st (by omega)).mono ?_
 rintro e w4 ⟨rfl, h4, p4⟩
 obtain ⟨ws4, e4⟩ : ∃ l : List ByteArray, l = ws ++ [⟨#[105, 110, 116]⟩, ⟨#[40]⟩] := ⟨_, rfl⟩
 rw [← e4] at h4
 have L4 : ws4.length = ws.length + 2 := by rw [e4]; simp
 have E4 := Lib.hid e4
 have X4 := Lib.hid (X3.out.step h4 p4)
 clear e4 h4 p4 q0 q1 q2 q3 
 have q0 := X4.out.blk.cell 0 (.int .i64 n.k) rfl
 have q1 := X4.out.blk.cell 1 (.string n.t) rfl
 have q2 := X4.out.blk.cell 2 (.int .i64 n.num) rfl
 have q3 := X4.out.blk.cell 3 (.slice (some ⟨bb, oo, none⟩) n.kids.length c) rfl
 have bw := X4.out.st.1
 have z0 := (bw.cell (p := ⟨bb, oo + 0 * 4, none⟩) hbl).trans k0
 have z1 := (bw.cell (p := ⟨bb, oo + 0 * 4 + 1, none⟩) hbl).trans k1
 have z2 := (bw.cell (p := ⟨bb, oo + 0 * 4 + 2, none⟩) hbl).trans k2
 have z3 := (bw.cell (p := ⟨bb, oo + 0 * 4 + 3, none⟩) hbl).trans k3
 clear bw
 simp only [Nat.zero_mul, Nat.add_zero] at z0 z1 z2 z3
 go_wp2_with fail
 refine (whole_of w0 p x IHX.out _ _ _ RX.out X4.out.st (by omega)).mono ?_
 rintro e w5 ⟨ws5, h5, p5, L5, (⟨o5, rfl, e5⟩ | ⟨o5, rfl⟩)⟩
 rotate_left
 ·have X5 := Lib.hid (X4.out.step h5 p5)
  have Q5 := Lib.hid o5
  clear h5 p5 o5
  unfold noneE
  go_wp2
  exact ⟨rfl, NOut.no X5.out.st X5.out.pk (by rw [HOK.out, Q2.out, HREST.out, Q5.out] <;> simp) (by omega)⟩
 have X5 := Lib.hid (X4.out.step h5 p5)
 have Q5 := Lib.hid o5
 have E5 := Lib.hid e5
 clear h5 p5 o5 e5 q0 q1 q2 q3 z0 z1 z2 z3
 have q0 := X5.out.blk.cell 0 (.int .i64 n.k) rfl
 have q1 := X5.out.blk.cell 1 (.string n.t) rfl
 have q2 := X5.out.blk.cell 2 (.int .i64 n.num) rfl
 have q3 := X5.out.blk.cell 3 (.slice (some ⟨bb, oo, none⟩) n.kids.length c) rfl
 go_wp2_with fail
 refine (psay1 _ X5.out.st (by omega)).mono ?_
 rintro e w6 ⟨rfl, h6, p6⟩
 obtain ⟨ws6, e6⟩ : ∃ l : List ByteArray, l = ws5 ++ [⟨#[41]⟩] := ⟨_, rfl⟩
 rw [← e6] at h6
 have L6 : ws6.length = ws5.length + 1 := by rw [e6]; simp
 have E6 := Lib.hid e6
 have X6 := Lib.hid (X5.out.step h6 p6)
 clear e6 h6 p6 q0 q1 q2 q3 
 have q0 := X6.out.blk.cell 0 (.int .i64 n.k) rfl
 have q1 := X6.out.blk.cell 1 (.string n.t) rfl
 have q2 := X6.out.blk.cell 2 (.int .i64 n.num) rfl
 have q3 := X6.out.blk.cell 3 (.slice (some ⟨bb, oo, none⟩) n.kids.length c) rfl
 go_wp2
 go_end0
 exact NOut.yes2 X6.out.st X6.out.pk (by rw [HOK.out, Q2.out, HREST.out, Q5.out] <;> simp) (by rw [E6.out, E5.out, E4.out, HSH.out]; simp) (by omega)
theorem expr_31 (w0 : World) (p : Nat) (hE : Env w0) (n : Nd) (hk : Hid (n.k = 31)) (IH : ∀ m ∈ n.kids, EOk w0 p m) : EOk w0 p n := by
 intro cs w ws least hl0 hl4 hr hst hb
 obtain ⟨A, c, rfl, hR, hcap, hlm, hn64, hts⟩ := hr.four
 have HR := Lib.hid hR
 have hmany := many_eq n
 clear hr hR
 obtain ⟨ok, HK⟩ : ∃ b, Hid (okC 4 n = b) := ⟨_, rfl⟩
 rw [HK.out]
 obtain ⟨nw, HW⟩ : ∃ b, Hid (atW least (bindN n) (shw n) = b) := ⟨_, rfl⟩
 rw [HW.out]
 generalize hgm : 10 * many n - 3 = gm
 have hgm2 : 10 * manyL n.kids + 7 = gm := by omega
 have HGM := Lib.hid hgm
 clear hgm
 obtain ⟨rest, HRR⟩ : ∃ b, Hid (isNL n.k 0 n.kids.length n.kids = b) := ⟨_, rfl⟩
 have HOK : Hid (ok = (plainB n false false 1 1 && rest)) := by
  show _ = _
  rw [← HK.out, okC_of (by rw [hk.out]; rfl), isN_p0 (text := false) (least := 1) (most := 1) (by rw [hk.out]; rfl) (by rw [hk.out]; decide) (by rw [hk.out]; decide) (by rw [hk.out]; decide) (by rw [hk.out]; decide), HRR.out]
  rfl
 have b32 : (n.k == 32) = false := by rw [hk.out]; rfl
 have b28 : (n.k == 28) = false := by rw [hk.out]; rfl
 have b29 : (n.k == 29) = false := by rw [hk.out]; rfl
 have b24 : (n.k == 24) = false := by rw [hk.out]; rfl
 have b25 : (n.k == 25) = false := by rw [hk.out]; rfl
 have b23 : (n.k == 23) = false := by rw [hk.out]; rfl
 have b26 : (n.k == 26) = false := by rw [hk.out]; rfl
 have b27 : (n.k == 27) = false := by rw [hk.out]; rfl
 have b33 : (n.k == 33) = false := by rw [hk.out]; rfl
 have b30 : (n.k == 30) = false := by rw [hk.out]; rfl
 have b31 : (n.k == 31) = true := by rw [hk.out]; rfl
 have b34 : (n.k == 34) = false := by rw [hk.out]; rfl
 have hmk := fun w : World => run_makeMap (P := Tryz.prog) 141 w
 have hu1 := mu_i1
 have hu2 := mu_i2
 have hu3 := mu_i3
 have hlk := lk_i31
 have X0 := Lib.hid (Bx.start n A c hst)
 have hlw := hst.2.lt
 clear hst
 have HBN : Hid (bindN n = 4) := by
  show _ = _
  unfold bindN bindK
  rw [hk.out]
  rfl
 have dl : decide ((4 : Int) < least) = false := by rw [decide_eq_false_iff_not]; omega
 have dl2 : ¬ (4 : Int) < least := by omega
 go_enter Tryz.func103, Tryz.ntmps103
 go_wp2_with fail
 refine (level_any n _ _ _).mono ?_
 rintro e w1 ⟨rfl, hb1⟩
 rw [HBN.out]
 have X1 := Lib.hid (X0.out.below hb1)
 clear hb1
 have q0 := X1.out.blk.cell 0 (.int .i64 n.k) rfl
 have q1 := X1.out.blk.cell 1 (.string n.t) rfl
 have q2 := X1.out.blk.cell 2 (.int .i64 n.num) rfl
 have q3 := X1.out.blk.cell 3 (.slice A n.kids.length c) rfl
 go_wp2_with fail
 refine (plain_any n _ _ _ _ _ _ _ (X1.out.st.env hE).ml).mono ?_
 rintro e w2 ⟨(⟨hq, rfl⟩ | ⟨hq, rfl⟩), hb2⟩
 rotate_left
 ·have X2 := Lib.hid (X1.out.below hb2)
  have Q2 := Lib.hid hq
  clear hq hb2
  unfold noneE
  go_wp2
  exact ⟨rfl, NOut.no X2.out.st X2.out.pk (by rw [HOK.out, Q2.out] <;> simp) (by omega)⟩
 have X2 := Lib.hid (X1.out.below hb2)
 have Q2 := Lib.hid hq
 clear hq hb2
 clear q0 q1 q2 q3 
 have q0 := X2.out.blk.cell 0 (.int .i64 n.k) rfl
 have q1 := X2.out.blk.cell 1 (.string n.t) rfl
 have q2 := X2.out.blk.cell 2 (.int .i64 n.num) rfl
 have q3 := X2.out.blk.cell 3 (.slice A n.kids.length c) rfl
 obtain ⟨x, hkx⟩ := oneKid Q2.out
 obtain ⟨bb, oo, Ax, cx, hA, hbl, k0, k1, k2, k3, rx⟩ := first_kid HR.out (by rw [hkx]; rfl : n.kids[0]? = some x)
 subst hA
 have RX := Lib.hid rx
 have hml : many x = manyL n.kids := by rw [hkx, manyL_one]
 have hposx := many_pos x
 have hlen : n.kids.length = 1 := by rw [hkx]; rfl
 have hjp : 0 < n.kids.length := by omega
 have HKX := Lib.hid hkx
 have HLEN := Lib.hid hlen
 clear rx hkx hlen
 have HREST : Hid (rest = okC 4 x) := by
  show _ = _
  rw [← HRR.out, hk.out, isNL_okC (c := 4) _ _ (fun _ _ _ => rfl), HKX.out]
  simp
 have HSH : Hid (nw = [⟨#[108, 111, 110, 103]⟩, ⟨#[40]⟩] ++ shw x ++ [⟨#[41]⟩]) := by
  show _ = _
  rw [← HW.out, HBN.out, atW_not _ (by omega), shw_eq, hk.out, HKX.out]
  rfl
 have IHX := Lib.hid (IH x (by rw [HKX.out]; simp))
 clear IH
 have X3 := Lib.hid (X2.out.alloc (.map mapI3 3))
 clear q0 q1 q2 q3
 have hkk := hk.out
 have q0 := X3.out.blk.cell 0 (.int .i64 n.k) rfl
 have q1 := X3.out.blk.cell 1 (.string n.t) rfl
 have q2 := X3.out.blk.cell 2 (.int .i64 n.num) rfl
 have q3 := X3.out.blk.cell 3 (.slice (some ⟨bb, oo, none⟩) n.kids.length c) rfl
 rw [hkk] at q0
 go_wp2_with fail
 refine (psay2 _ _ X3.out.st (by omega)).mono ?_
 rintro e w4 ⟨rfl, h4, p4⟩
 obtain ⟨ws4, e4⟩ : ∃ l : List ByteArray, l = ws ++ [⟨#[108, 111, 110, 103]⟩, ⟨#[40]⟩] := ⟨_, rfl⟩
 rw [← e4] at h4
 have L4 : ws4.length = ws.length + 2 := by rw [e4]; simp
 have E4 := Lib.hid e4
 have X4 := Lib.hid (X3.out.step h4 p4)
 clear e4 h4 p4 q0 q1 q2 q3 
 have q0 := X4.out.blk.cell 0 (.int .i64 n.k) rfl
 have q1 := X4.out.blk.cell 1 (.string n.t) rfl
 have q2 := X4.out.blk.cell 2 (.int .i64 n.num) rfl
 have q3 := X4.out.blk.cell 3 (.slice (some ⟨bb, oo, none⟩) n.kids.length c) rfl
 have bw := X4.out.st.1
 have z0 := (bw.cell (p := ⟨bb, oo + 0 * 4, none⟩) hbl).trans k0
 have z1 := (bw.cell (p := ⟨bb, oo + 0 * 4 + 1, none⟩) hbl).trans k1
 have z2 := (bw.cell (p := ⟨bb, oo + 0 * 4 + 2, none⟩) hbl).trans k2
 have z3 := (bw.cell (p := ⟨bb, oo + 0 * 4 + 3, none⟩) hbl).trans k3
 clear bw
 simp only [Nat.zero_mul, Nat.add_zero] at z0 z1 z2 z3
 go_wp2_with fail
 refine (whole_of w0 p x IHX.out _ _ _ RX.out X4.out.st (by omega)).mono ?_
 rintro e w5 ⟨ws5, h5, p5, L5, (⟨o5, rfl, e5⟩ | ⟨o5, rfl⟩)⟩
 rotate_left
 ·have X5 := Lib.hid (X4.out.step h5 p5)
  have Q5 := Lib.hid o5
  clear h5 p5 o5
  unfold noneE
  go_wp2
  exact ⟨rfl, NOut.no X5.out.st X5.out.pk (by rw [HOK.out, Q2.out, HREST.out, Q5.out] <;> simp) (by omega)⟩
 have X5 := Lib.hid (X4.out.step h5 p5)
 have Q5 := Lib.hid o5
 have E5 := Lib.hid e5
 clear h5 p5 o5 e5 q0 q1 q2 q3 z0 z1 z2 z3
 have q0 := X5.out.blk.cell 0 (.int .i64 n.k) rfl
 have q1 := X5.out.blk.cell 1 (.string n.t) rfl
 have q2 := X5.out.blk.cell 2 (.int .i64 n.num) rfl
 have q3 := X5.out.blk.cell 3 (.slice (some ⟨bb, oo, none⟩) n.kids.length c) rfl
 go_wp2_with fail
 refine (psay1 _ X5.out.st (by omega)).mono ?_
 rintro e w6 ⟨rfl, h6, p6⟩
 obtain ⟨ws6, e6⟩ : ∃ l : List ByteArray, l = ws5 ++ [⟨#[41]⟩] := ⟨_, rfl⟩
 rw [← e6] at h6
 have L6 : ws6.length = ws5.length + 1 := by rw [e6]; simp
 have E6 := Lib.hid e6
 have X6 := Lib.hid (X5.out.step h6 p6)
 clear e6 h6 p6 q0 q1 q2 q3 
 have q0 := X6.out.blk.cell 0 (.int .i64 n.k) rfl
 have q1 := X6.out.blk.cell 1 (.string n.t) rfl
 have q2 := X6.out.blk.cell 2 (.int .i64 n.num) rfl
 have q3 := X6.out.blk.cell 3 (.slice (some ⟨bb, oo, none⟩) n.kids.length c) rfl
 go_wp2
 go_end0
 exact NOut.yes2 X6.out.st X6.out.pk (by rw [HOK.out, Q2.out, HREST.out, Q5.out] <;> simp) (by rw [E6.out, E5.out, E4.out, HSH.out]; simp) (by omega)
theorem expr_34 (w0 : World) (p : Nat) (hE : Env w0) (n : Nd) (hk : Hid (n.k = 34)) (IH : ∀ m ∈ n.kids, EOk w0 p m) : EOk w0 p n := by
 intro cs w ws least hl0 hl4 hr hst hb
 obtain ⟨A, c, rfl, hR, hcap, hlm, hn64, hts⟩ := hr.four
 have HR := Lib.hid hR
 have hmany := many_eq n
 clear hr hR
 obtain ⟨ok, HK⟩ : ∃ b, Hid (okC 4 n = b) := ⟨_, rfl⟩
 rw [HK.out]
 obtain ⟨nw, HW⟩ : ∃ b, Hid (atW least (bindN n) (shw n) = b) := ⟨_, rfl⟩
 rw [HW.out]
 generalize hgm : 10 * many n - 3 = gm
 have hgm2 : 10 * manyL n.kids + 7 = gm := by omega
 have HGM := Lib.hid hgm
 clear hgm
 obtain ⟨rest, HRR⟩ : ∃ b, Hid (isNL n.k 0 n.kids.length n.kids = b) := ⟨_, rfl⟩
 have HOK : Hid (ok = (plainB n false false 1 1 && rest)) := by
  show _ = _
  rw [← HK.out, okC_of (by rw [hk.out]; rfl), isN_p0 (text := false) (least := 1) (most := 1) (by rw [hk.out]; rfl) (by rw [hk.out]; decide) (by rw [hk.out]; decide) (by rw [hk.out]; decide) (by rw [hk.out]; decide), HRR.out]
  rfl
 have b32 : (n.k == 32) = false := by rw [hk.out]; rfl
 have b28 : (n.k == 28) = false := by rw [hk.out]; rfl
 have b29 : (n.k == 29) = false := by rw [hk.out]; rfl
 have b24 : (n.k == 24) = false := by rw [hk.out]; rfl
 have b25 : (n.k == 25) = false := by rw [hk.out]; rfl
 have b23 : (n.k == 23) = false := by rw [hk.out]; rfl
 have b26 : (n.k == 26) = false := by rw [hk.out]; rfl
 have b27 : (n.k == 27) = false := by rw [hk.out]; rfl
 have b33 : (n.k == 33) = false := by rw [hk.out]; rfl
 have b30 : (n.k == 30) = false := by rw [hk.out]; rfl
 have b31 : (n.k == 31) = false := by rw [hk.out]; rfl
 have b34 : (n.k == 34) = true := by rw [hk.out]; rfl
 have hmk := fun w : World => run_makeMap (P := Tryz.prog) 141 w
 have hu1 := mu_i1
 have hu2 := mu_i2
 have hu3 := mu_i3
 have hlk := lk_i34
 have X0 := Lib.hid (Bx.start n A c hst)
 have hlw := hst.2.lt
 clear hst
 have HBN : Hid (bindN n = 4) := by
  show _ = _
  unfold bindN bindK
  rw [hk.out]
  rfl
 have dl : decide ((4 : Int) < least) = false := by rw [decide_eq_false_iff_not]; omega
 have dl2 : ¬ (4 : Int) < least := by omega
 go_enter Tryz.func103, Tryz.ntmps103
 go_wp2_with fail
 refine (level_any n _ _ _).mono ?_
 rintro e w1 ⟨rfl, hb1⟩
 rw [HBN.out]
 have X1 := Lib.hid (X0.out.below hb1)
 clear hb1
 have q0 := X1.out.blk.cell 0 (.int .i64 n.k) rfl
 have q1 := X1.out.blk.cell 1 (.string n.t) rfl
 have q2 := X1.out.blk.cell 2 (.int .i64 n.num) rfl
 have q3 := X1.out.blk.cell 3 (.slice A n.kids.length c) rfl
 go_wp2_with fail
 refine (plain_any n _ _ _ _ _ _ _ (X1.out.st.env hE).ml).mono ?_
 rintro e w2 ⟨(⟨hq, rfl⟩ | ⟨hq, rfl⟩), hb2⟩
 rotate_left
 ·have X2 := Lib.hid (X1.out.below hb2)
  have Q2 := Lib.hid hq
  clear hq hb2
  unfold noneE
  go_wp2
  exact ⟨rfl, NOut.no X2.out.st X2.out.pk (by rw [HOK.out, Q2.out] <;> simp) (by omega)⟩
 have X2 := Lib.hid (X1.out.below hb2)
 have Q2 := Lib.hid hq
 clear hq hb2
 clear q0 q1 q2 q3 
 have q0 := X2.out.blk.cell 0 (.int .i64 n.k) rfl
 have q1 := X2.out.blk.cell 1 (.string n.t) rfl
 have q2 := X2.out.blk.cell 2 (.int .i64 n.num) rfl
 have q3 := X2.out.blk.cell 3 (.slice A n.kids.length c) rfl
 obtain ⟨x, hkx⟩ := oneKid Q2.out
 obtain ⟨bb, oo, Ax, cx, hA, hbl, k0, k1, k2, k3, rx⟩ := first_kid HR.out (by rw [hkx]; rfl : n.kids[0]? = some x)
 subst hA
 have RX := Lib.hid rx
 have hml : many x = manyL n.kids := by rw [hkx, manyL_one]
 have hposx := many_pos x
 have hlen : n.kids.length = 1 := by rw [hkx]; rfl
 have hjp : 0 < n.kids.length := by omega
 have HKX := Lib.hid hkx
 have HLEN := Lib.hid hlen
 clear rx hkx hlen
 have HREST : Hid (rest = okC 4 x) := by
  show _ = _
  rw [← HRR.out, hk.out, isNL_okC (c := 4) _ _ (fun _ _ _ => rfl), HKX.out]
  simp
 have HSH : Hid (nw = [⟨#[101, 120, 116, 114, 97]⟩, ⟨#[40]⟩] ++ shw x ++ [⟨#[41]⟩]) := by
  show _ = _
  rw [← HW.out, HBN.out, atW_not _ (by omega), shw_eq, hk.out, HKX.out]
  rfl
 have IHX := Lib.hid (IH x (by rw [HKX.out]; simp))
 clear IH
 have X3 := Lib.hid (X2.out.alloc (.map mapI3 3))
 clear q0 q1 q2 q3
 have hkk := hk.out
 have q0 := X3.out.blk.cell 0 (.int .i64 n.k) rfl
 have q1 := X3.out.blk.cell 1 (.string n.t) rfl
 have q2 := X3.out.blk.cell 2 (.int .i64 n.num) rfl
 have q3 := X3.out.blk.cell 3 (.slice (some ⟨bb, oo, none⟩) n.kids.length c) rfl
 rw [hkk] at q0
 go_wp2_with fail
 refine (psay2 _ _ X3.out.st (by omega)).mono ?_
 rintro e w4 ⟨rfl, h4, p4⟩
 obtain ⟨ws4, e4⟩ : ∃ l : List ByteArray, l = ws ++ [⟨#[101, 120, 116, 114, 97]⟩, ⟨#[40]⟩] := ⟨_, rfl⟩
 rw [← e4] at h4
 have L4 : ws4.length = ws.length + 2 := by rw [e4]; simp
 have E4 := Lib.hid e4
 have X4 := Lib.hid (X3.out.step h4 p4)
 clear e4 h4 p4 q0 q1 q2 q3 
 have q0 := X4.out.blk.cell 0 (.int .i64 n.k) rfl
 have q1 := X4.out.blk.cell 1 (.string n.t) rfl
 have q2 := X4.out.blk.cell 2 (.int .i64 n.num) rfl
 have q3 := X4.out.blk.cell 3 (.slice (some ⟨bb, oo, none⟩) n.kids.length c) rfl
 have bw := X4.out.st.1
 have z0 := (bw.cell (p := ⟨bb, oo + 0 * 4, none⟩) hbl).trans k0
 have z1 := (bw.cell (p := ⟨bb, oo + 0 * 4 + 1, none⟩) hbl).trans k1
 have z2 := (bw.cell (p := ⟨bb, oo + 0 * 4 + 2, none⟩) hbl).trans k2
 have z3 := (bw.cell (p := ⟨bb, oo + 0 * 4 + 3, none⟩) hbl).trans k3
 clear bw
 simp only [Nat.zero_mul, Nat.add_zero] at z0 z1 z2 z3
 go_wp2_with fail
 refine (whole_of w0 p x IHX.out _ _ _ RX.out X4.out.st (by omega)).mono ?_
 rintro e w5 ⟨ws5, h5, p5, L5, (⟨o5, rfl, e5⟩ | ⟨o5, rfl⟩)⟩
 rotate_left
 ·have X5 := Lib.hid (X4.out.step h5 p5)
  have Q5 := Lib.hid o5
  clear h5 p5 o5
  unfold noneE
  go_wp2
  exact ⟨rfl, NOut.no X5.out.st X5.out.pk (by rw [HOK.out, Q2.out, HREST.out, Q5.out] <;> simp) (by omega)⟩
 have X5 := Lib.hid (X4.out.step h5 p5)
 have Q5 := Lib.hid o5
 have E5 := Lib.hid e5
 clear h5 p5 o5 e5 q0 q1 q2 q3 z0 z1 z2 z3
 have q0 := X5.out.blk.cell 0 (.int .i64 n.k) rfl
 have q1 := X5.out.blk.cell 1 (.string n.t) rfl
 have q2 := X5.out.blk.cell 2 (.int .i64 n.num) rfl
 have q3 := X5.out.blk.cell 3 (.slice (some ⟨bb, oo, none⟩) n.kids.length c) rfl
 go_wp2_with fail
 refine (psay1 _ X5.out.st (by omega)).mono ?_
 rintro e w6 ⟨rfl, h6, p6⟩
 obtain ⟨ws6, e6⟩ : ∃ l : List ByteArray, l = ws5 ++ [⟨#[41]⟩] := ⟨_, rfl⟩
 rw [← e6] at h6
 have L6 : ws6.length = ws5.length + 1 := by rw [e6]; simp
 have E6 := Lib.hid e6
 have X6 := Lib.hid (X5.out.step h6 p6)
 clear e6 h6 p6 q0 q1 q2 q3 
 have q0 := X6.out.blk.cell 0 (.int .i64 n.k) rfl
 have q1 := X6.out.blk.cell 1 (.string n.t) rfl
 have q2 := X6.out.blk.cell 2 (.int .i64 n.num) rfl
 have q3 := X6.out.blk.cell 3 (.slice (some ⟨bb, oo, none⟩) n.kids.length c) rfl
 go_wp2
 go_end0
 exact NOut.yes2 X6.out.st X6.out.pk (by rw [HOK.out, Q2.out, HREST.out, Q5.out] <;> simp) (by rw [E6.out, E5.out, E4.out, HSH.out]; simp) (by omega)
theorem expr_25 (w0 : World) (p : Nat) (hE : Env w0) (n : Nd) (hk : Hid (n.k = 25)) (IH : ∀ m ∈ n.kids, EOk w0 p m) : EOk w0 p n := by
 intro cs w ws least hl0 hl4 hr hst hb
 obtain ⟨A, c, rfl, hR, hcap, hlm, hn64, hts⟩ := hr.four
 have HR := Lib.hid hR
 have hmany := many_eq n
 clear hr hR
 obtain ⟨ok, HK⟩ : ∃ b, Hid (okC 4 n = b) := ⟨_, rfl⟩
 rw [HK.out]
 obtain ⟨nw, HW⟩ : ∃ b, Hid (atW least (bindN n) (shw n) = b) := ⟨_, rfl⟩
 rw [HW.out]
 generalize hgm : 10 * many n - 3 = gm
 have hgm2 : 10 * manyL n.kids + 7 = gm := by omega
 have HGM := Lib.hid hgm
 clear hgm
 obtain ⟨rest, HRR⟩ : ∃ b, Hid (isNL n.k 0 n.kids.length n.kids = b) := ⟨_, rfl⟩
 have HOK : Hid (ok = (plainB n false false 1 (-1) && rest)) := by
  show _ = _
  rw [← HK.out, okC_of (by rw [hk.out]; rfl), isN_p0 (text := false) (least := 1) (most := (-1)) (by rw [hk.out]; rfl) (by rw [hk.out]; decide) (by rw [hk.out]; decide) (by rw [hk.out]; decide) (by rw [hk.out]; decide), HRR.out]
  rfl
 have b32 : (n.k == 32) = false := by rw [hk.out]; rfl
 have b28 : (n.k == 28) = false := by rw [hk.out]; rfl
 have b29 : (n.k == 29) = false := by rw [hk.out]; rfl
 have b24 : (n.k == 24) = false := by rw [hk.out]; rfl
 have b25 : (n.k == 25) = true := by rw [hk.out]; rfl
 have b23 : (n.k == 23) = false := by rw [hk.out]; rfl
 have b26 : (n.k == 26) = false := by rw [hk.out]; rfl
 have b27 : (n.k == 27) = false := by rw [hk.out]; rfl
 have b33 : (n.k == 33) = false := by rw [hk.out]; rfl
 have b30 : (n.k == 30) = false := by rw [hk.out]; rfl
 have b31 : (n.k == 31) = false := by rw [hk.out]; rfl
 have b34 : (n.k == 34) = false := by rw [hk.out]; rfl
 have hmf : ∀ (fn : Fn) (first cap : Array Value) (w : World), (Instr.makeFunc fn first cap).run Tryz.prog w = .ok (.func fn first cap) w := fun _ _ _ _ => rfl
 have X0 := Lib.hid (Bx.start n A c hst)
 have hlw := hst.2.lt
 clear hst
 have HBN : Hid (bindN n = 4) := by
  show _ = _
  unfold bindN bindK
  rw [hk.out]
  rfl
 have dl : decide ((4 : Int) < least) = false := by rw [decide_eq_false_iff_not]; omega
 have dl2 : ¬ (4 : Int) < least := by omega
 go_enter Tryz.func103, Tryz.ntmps103
 go_wp2_with fail
 refine (level_any n _ _ _).mono ?_
 rintro e w1 ⟨rfl, hb1⟩
 rw [HBN.out]
 have X1 := Lib.hid (X0.out.below hb1)
 clear hb1
 have q0 := X1.out.blk.cell 0 (.int .i64 n.k) rfl
 have q1 := X1.out.blk.cell 1 (.string n.t) rfl
 have q2 := X1.out.blk.cell 2 (.int .i64 n.num) rfl
 have q3 := X1.out.blk.cell 3 (.slice A n.kids.length c) rfl
 go_wp2_with fail
 refine (plain_any n _ _ _ _ _ _ _ (X1.out.st.env hE).ml).mono ?_
 rintro e w2 ⟨(⟨hq, rfl⟩ | ⟨hq, rfl⟩), hb2⟩
 rotate_left
 ·have X2 := Lib.hid (X1.out.below hb2)
  have Q2 := Lib.hid hq
  clear hq hb2
  unfold noneE
  go_wp2
  exact ⟨rfl, NOut.no X2.out.st X2.out.pk (by rw [HOK.out, Q2.out] <;> simp) (by omega)⟩
 have X2 := Lib.hid (X1.out.below hb2)
 have Q2 := Lib.hid hq
 clear hq hb2
 clear q0 q1 q2 q3 
 have q0 := X2.out.blk.cell 0 (.int .i64 n.k) rfl
 have q1 := X2.out.blk.cell 1 (.string n.t) rfl
 have q2 := X2.out.blk.cell 2 (.int .i64 n.num) rfl
 have q3 := X2.out.blk.cell 3 (.slice A n.kids.length c) rfl
 obtain ⟨x, l, hkx⟩ : ∃ x l, n.kids = x :: l := List.exists_cons_of_length_pos (by have := (plain_len Q2.out).1; omega)
 obtain ⟨bb, oo, Ax, cx, hA, hbl, k0, k1, k2, k3, rx⟩ := first_kid HR.out (by rw [hkx]; rfl : n.kids[0]? = some x)
 subst hA
 have RX := Lib.hid rx
 have hml : many x + manyL l = manyL n.kids := by rw [hkx, manyL]
 have hposx := many_pos x
 have hlen : n.kids.length = l.length + 1 := by rw [hkx]; rfl
 have hl1 : n.kids.length - 1 = l.length := by omega
 have hjp : 0 < n.kids.length := by omega
 have hs := fun w => sl_lo bb oo n.kids.length c w hjp hcap hlm
 obtain ⟨oc, HOC⟩ : ∃ oc, Hid ((if c = 1 then oo else oo + 4) = oc) := ⟨_, rfl⟩
 rw [hl1, HOC.out] at hs
 have RL : Hid (RepNL w0 l (some ⟨bb, oc, none⟩)) := by
  rw [← HOC.out]
  cases l with
  | nil => show RepNL _ _ _; unfold RepNL; trivial
  | cons y ys =>
   have hc1 : c ≠ 1 := by simp at hlen; omega
   rw [if_neg hc1]
   obtain ⟨A', h3, h4⟩ := RepNL.drop n.kids _ 1 (by omega) HR.out
   rw [h4 (by simp at hlen; omega) bb oo rfl, hkx] at h3
   show RepNL _ _ _
   simpa using h3
 have HKX := Lib.hid hkx
 have HLEN := Lib.hid hlen
 have IHX := Lib.hid (IH x (by rw [hkx]; simp))
 have IHL := Lib.hid (fun m (hm : m ∈ l) => whole_of w0 p m (IH m (by rw [hkx]; simp [hm])))
 have HREST : Hid (rest = (okC 4 x && l.all (okC 4))) := by
  show _ = _
  rw [← HRR.out, hk.out, isNL_okC (c := 4) _ _ (fun _ _ _ => rfl), HKX.out]
  simp
 have HSH : Hid (nw = atW 4 (bindN x) (shw x) ++ rowW (l.map shw) false) := by
  show _ = _
  rw [← HW.out, HBN.out, atW_not _ (by omega), shw_eq, hk.out, HKX.out]
  rfl
 clear rx hkx hlen IH hl1
 have bw := X2.out.st.1
 have z0 := (bw.cell (p := ⟨bb, oo + 0 * 4, none⟩) hbl).trans k0
 have z1 := (bw.cell (p := ⟨bb, oo + 0 * 4 + 1, none⟩) hbl).trans k1
 have z2 := (bw.cell (p := ⟨bb, oo + 0 * 4 + 2, none⟩) hbl).trans k2
 have z3 := (bw.cell (p := ⟨bb, oo + 0 * 4 + 3, none⟩) hbl).trans k3
 clear bw
 simp only [Nat.zero_mul, Nat.add_zero] at z0 z1 z2 z3
 go_wp2_with fail
 refine (IHX.out _ _ _ (4) (by omega) (by omega) RX.out X2.out.st (by omega)).mono ?_
 rintro e w3 ⟨ws3, h3, p3, L3, (⟨o3, rfl, e3⟩ | ⟨o3, rfl⟩)⟩
 rotate_left
 ·have X3 := Lib.hid (X2.out.step h3 p3)
  have Q3 := Lib.hid o3
  clear h3 p3 o3
  unfold noneE
  go_wp2
  exact ⟨rfl, NOut.no X3.out.st X3.out.pk (by rw [HOK.out, Q2.out, HREST.out, Q3.out] <;> simp) (by omega)⟩
 have X3 := Lib.hid (X2.out.step h3 p3)
 have Q3 := Lib.hid o3
 have E3 := Lib.hid e3
 clear h3 p3 o3 e3 q0 q1 q2 q3 z0 z1 z2 z3
 have q0 := X3.out.blk.cell 0 (.int .i64 n.k) rfl
 have q1 := X3.out.blk.cell 1 (.string n.t) rfl
 have q2 := X3.out.blk.cell 2 (.int .i64 n.num) rfl
 have q3 := X3.out.blk.cell 3 (.slice (some ⟨bb, oo, none⟩) n.kids.length c) rfl
 clear k0 k1 k2 k3
 go_wp2_with fail
 refine (pr_list_any 134 (okC 4) shw w0 _ p _ l _ (c - 1) false RL.out X3.out.st (by omega) cf_whole IHL.out).mono ?_
 rintro e w4 ⟨ws4, h4, p4, L4, (⟨o4, rfl, e4⟩ | ⟨o4, rfl⟩)⟩
 rotate_left
 ·have X4 := Lib.hid (X3.out.step h4 p4)
  have Q4 := Lib.hid o4
  clear h4 p4 o4
  unfold noneE
  go_wp2
  exact ⟨rfl, NOut.no X4.out.st X4.out.pk (by rw [HOK.out, Q2.out, HREST.out, Q3.out, Q4.out] <;> simp) (by omega)⟩
 have X4 := Lib.hid (X3.out.step h4 p4)
 have Q4 := Lib.hid o4
 have E4 := Lib.hid e4
 clear h4 p4 o4 e4 q0 q1 q2 q3 
 have q0 := X4.out.blk.cell 0 (.int .i64 n.k) rfl
 have q1 := X4.out.blk.cell 1 (.string n.t) rfl
 have q2 := X4.out.blk.cell 2 (.int .i64 n.num) rfl
 have q3 := X4.out.blk.cell 3 (.slice (some ⟨bb, oo, none⟩) n.kids.length c) rfl
 go_wp2
 go_end0
 exact NOut.yes2 X4.out.st X4.out.pk (by rw [HOK.out, Q2.out, HREST.out, Q3.out, Q4.out] <;> simp) (by rw [E4.out, E3.out, HSH.out]; simp) (by omega)
theorem expr_21 (w0 : World) (p : Nat) (hE : Env w0) (n : Nd) (hk : Hid (n.k = 21)) : EOk w0 p n := by
 intro cs w ws least hl0 hl4 hr hst hb
 obtain ⟨A, c, rfl, hR, hcap, hlm, hn64, hts⟩ := hr.four
 have HR := Lib.hid hR
 have hmany := many_eq n
 clear hr hR
 obtain ⟨ok, HK⟩ : ∃ b, Hid (okC 4 n = b) := ⟨_, rfl⟩
 rw [HK.out]
 obtain ⟨nw, HW⟩ : ∃ b, Hid (atW least (bindN n) (shw n) = b) := ⟨_, rfl⟩
 rw [HW.out]
 generalize hgm : 10 * many n - 3 = gm
 have hgm2 : 10 * manyL n.kids + 7 = gm := by omega
 have HGM := Lib.hid hgm
 clear hgm
 have HOK : Hid (ok = numOk n false) := by
  show _ = _
  rw [← HK.out, okC_of (by rw [hk.out]; rfl), ← pr_num_ok n false hn64, hk.out]
  simp
 have b32 : (n.k == 32) = false := by rw [hk.out]; rfl
 have b28 : (n.k == 28) = false := by rw [hk.out]; rfl
 have b29 : (n.k == 29) = false := by rw [hk.out]; rfl
 have b24 : (n.k == 24) = false := by rw [hk.out]; rfl
 have b25 : (n.k == 25) = false := by rw [hk.out]; rfl
 have b23 : (n.k == 23) = false := by rw [hk.out]; rfl
 have b26 : (n.k == 26) = false := by rw [hk.out]; rfl
 have b27 : (n.k == 27) = false := by rw [hk.out]; rfl
 have b33 : (n.k == 33) = false := by rw [hk.out]; rfl
 have b30 : (n.k == 30) = false := by rw [hk.out]; rfl
 have b31 : (n.k == 31) = false := by rw [hk.out]; rfl
 have b34 : (n.k == 34) = false := by rw [hk.out]; rfl
 have X0 := Lib.hid (Bx.start n A c hst)
 have hlw := hst.2.lt
 clear hst
 have HBN : Hid (bindN n = 4) := by
  show _ = _
  unfold bindN bindK
  rw [hk.out]
  rfl
 have dl : decide ((4 : Int) < least) = false := by rw [decide_eq_false_iff_not]; omega
 have dl2 : ¬ (4 : Int) < least := by omega
 go_enter Tryz.func103, Tryz.ntmps103
 go_wp2_with fail
 refine (level_any n _ _ _).mono ?_
 rintro e w1 ⟨rfl, hb1⟩
 rw [HBN.out]
 have X1 := Lib.hid (X0.out.below hb1)
 clear hb1
 have q0 := X1.out.blk.cell 0 (.int .i64 n.k) rfl
 have q1 := X1.out.blk.cell 1 (.string n.t) rfl
 have q2 := X1.out.blk.cell 2 (.int .i64 n.num) rfl
 have q3 := X1.out.blk.cell 3 (.slice A n.kids.length c) rfl
 go_wp2_with fail
 refine (pr_number_any w0 _ p _ n _ _ false hE X1.out.st hn64 (by omega)).mono ?_
 rintro e w2 ⟨ws2, h2, p2, L2, (⟨o2, rfl, e2⟩ | ⟨o2, rfl⟩)⟩
 rotate_left
 ·have X2 := Lib.hid (X1.out.step h2 p2)
  have Q2 := Lib.hid o2
  clear h2 p2 o2
  unfold noneE
  go_wp2
  exact ⟨rfl, NOut.no X2.out.st X2.out.pk (by rw [HOK.out, Q2.out] <;> simp) (by omega)⟩
 have X2 := Lib.hid (X1.out.step h2 p2)
 have Q2 := Lib.hid o2
 have E2 := Lib.hid e2
 clear h2 p2 o2 e2 q0 q1 q2 q3 
 have q0 := X2.out.blk.cell 0 (.int .i64 n.k) rfl
 have q1 := X2.out.blk.cell 1 (.string n.t) rfl
 have q2 := X2.out.blk.cell 2 (.int .i64 n.num) rfl
 have q3 := X2.out.blk.cell 3 (.slice A n.kids.length c) rfl
 go_wp2
 go_end0
 exact NOut.yes2 X2.out.st X2.out.pk (by rw [HOK.out, Q2.out] <;> simp) (by rw [E2.out, ← HW.out, HBN.out, atW_not _ (by omega), shw_eq, hk.out]; rfl) (by omega)
theorem expr_22 (w0 : World) (p : Nat) (hE : Env w0) (n : Nd) (hk : Hid (n.k = 22)) : EOk w0 p n := by
 intro cs w ws least hl0 hl4 hr hst hb
 obtain ⟨A, c, rfl, hR, hcap, hlm, hn64, hts⟩ := hr.four
 have HR := Lib.hid hR
 have hmany := many_eq n
 clear hr hR
 obtain ⟨ok, HK⟩ : ∃ b, Hid (okC 4 n = b) := ⟨_, rfl⟩
 rw [HK.out]
 obtain ⟨nw, HW⟩ : ∃ b, Hid (atW least (bindN n) (shw n) = b) := ⟨_, rfl⟩
 rw [HW.out]
 generalize hgm : 10 * many n - 3 = gm
 have hgm2 : 10 * manyL n.kids + 7 = gm := by omega
 have HGM := Lib.hid hgm
 clear hgm
 have HOK : Hid (ok = numOk n false) := by
  show _ = _
  rw [← HK.out, okC_of (by rw [hk.out]; rfl), ← pr_num_ok n false hn64, hk.out]
  simp
 have b32 : (n.k == 32) = false := by rw [hk.out]; rfl
 have b28 : (n.k == 28) = false := by rw [hk.out]; rfl
 have b29 : (n.k == 29) = false := by rw [hk.out]; rfl
 have b24 : (n.k == 24) = false := by rw [hk.out]; rfl
 have b25 : (n.k == 25) = false := by rw [hk.out]; rfl
 have b23 : (n.k == 23) = false := by rw [hk.out]; rfl
 have b26 : (n.k == 26) = false := by rw [hk.out]; rfl
 have b27 : (n.k == 27) = false := by rw [hk.out]; rfl
 have b33 : (n.k == 33) = false := by rw [hk.out]; rfl
 have b30 : (n.k == 30) = false := by rw [hk.out]; rfl
 have b31 : (n.k == 31) = false := by rw [hk.out]; rfl
 have b34 : (n.k == 34) = false := by rw [hk.out]; rfl
 have X0 := Lib.hid (Bx.start n A c hst)
 have hlw := hst.2.lt
 clear hst
 have HBN : Hid (bindN n = 4) := by
  show _ = _
  unfold bindN bindK
  rw [hk.out]
  rfl
 have dl : decide ((4 : Int) < least) = false := by rw [decide_eq_false_iff_not]; omega
 have dl2 : ¬ (4 : Int) < least := by omega
 go_enter Tryz.func103, Tryz.ntmps103
 go_wp2_with fail
 refine (level_any n _ _ _).mono ?_
 rintro e w1 ⟨rfl, hb1⟩
 rw [HBN.out]
 have X1 := Lib.hid (X0.out.below hb1)
 clear hb1
 have q0 := X1.out.blk.cell 0 (.int .i64 n.k) rfl
 have q1 := X1.out.blk.cell 1 (.string n.t) rfl
 have q2 := X1.out.blk.cell 2 (.int .i64 n.num) rfl
 have q3 := X1.out.blk.cell 3 (.slice A n.kids.length c) rfl
 go_wp2_with fail
 refine (pr_number_any w0 _ p _ n _ _ false hE X1.out.st hn64 (by omega)).mono ?_
 rintro e w2 ⟨ws2, h2, p2, L2, (⟨o2, rfl, e2⟩ | ⟨o2, rfl⟩)⟩
 rotate_left
 ·have X2 := Lib.hid (X1.out.step h2 p2)
  have Q2 := Lib.hid o2
  clear h2 p2 o2
  unfold noneE
  go_wp2
  exact ⟨rfl, NOut.no X2.out.st X2.out.pk (by rw [HOK.out, Q2.out] <;> simp) (by omega)⟩
 have X2 := Lib.hid (X1.out.step h2 p2)
 have Q2 := Lib.hid o2
 have E2 := Lib.hid e2
 clear h2 p2 o2 e2 q0 q1 q2 q3 
 have q0 := X2.out.blk.cell 0 (.int .i64 n.k) rfl
 have q1 := X2.out.blk.cell 1 (.string n.t) rfl
 have q2 := X2.out.blk.cell 2 (.int .i64 n.num) rfl
 have q3 := X2.out.blk.cell 3 (.slice A n.kids.length c) rfl
 go_wp2
 go_end0
 exact NOut.yes2 X2.out.st X2.out.pk (by rw [HOK.out, Q2.out] <;> simp) (by rw [E2.out, ← HW.out, HBN.out, atW_not _ (by omega), shw_eq, hk.out]; rfl) (by omega)
theorem expr_no (w0 : World) (p : Nat) (hE : Env w0) (n : Nd) (hk : Hid (n.k < 21 ∨ 34 < n.k)) : EOk w0 p n := by
 intro cs w ws least hl0 hl4 hr hst hb
 obtain ⟨A, c, rfl, hR, hcap, hlm, hn64, hts⟩ := hr.four
 have HR := Lib.hid hR
 have hmany := many_eq n
 clear hr hR
 obtain ⟨ok, HK⟩ : ∃ b, Hid (okC 4 n = b) := ⟨_, rfl⟩
 rw [HK.out]
 obtain ⟨nw, HW⟩ : ∃ b, Hid (atW least (bindN n) (shw n) = b) := ⟨_, rfl⟩
 rw [HW.out]
 generalize hgm : 10 * many n - 3 = gm
 have hgm2 : 10 * manyL n.kids + 7 = gm := by omega
 have HGM := Lib.hid hgm
 clear hgm
 have HOKF : Hid (ok = false) := by
  show _ = _
  rw [← HK.out]
  unfold okC cls
  have := hk.out
  by_cases h1 : n.k = 2 ∨ 4 ≤ n.k ∧ n.k ≤ 7
  ·rw [if_pos h1]; rfl
  ·rw [if_neg h1]
   by_cases h2 : 9 ≤ n.k ∧ n.k ≤ 12
   ·rw [if_pos h2]; rfl
   ·rw [if_neg h2]
    by_cases h3 : 14 ≤ n.k ∧ n.k ≤ 20
    ·rw [if_pos h3]; rfl
    ·rw [if_neg h3, if_neg (by omega)]; rfl
 have HNF : Hid (numOk n false = false) := by
  show _ = _
  rw [← pr_num_ok n false hn64]
  have := hk.out
  have a1 : (n.k == 21) = false := by simp; omega
  have a2 : (n.k == 22) = false := by simp; omega
  rw [a1, a2]; rfl
 have b32 : (n.k == 32) = false := by simp; have := hk.out; omega
 have b28 : (n.k == 28) = false := by simp; have := hk.out; omega
 have b29 : (n.k == 29) = false := by simp; have := hk.out; omega
 have b24 : (n.k == 24) = false := by simp; have := hk.out; omega
 have b25 : (n.k == 25) = false := by simp; have := hk.out; omega
 have b23 : (n.k == 23) = false := by simp; have := hk.out; omega
 have b26 : (n.k == 26) = false := by simp; have := hk.out; omega
 have b27 : (n.k == 27) = false := by simp; have := hk.out; omega
 have b33 : (n.k == 33) = false := by simp; have := hk.out; omega
 have b30 : (n.k == 30) = false := by simp; have := hk.out; omega
 have b31 : (n.k == 31) = false := by simp; have := hk.out; omega
 have b34 : (n.k == 34) = false := by simp; have := hk.out; omega
 have X0 := Lib.hid (Bx.start n A c hst)
 have hlw := hst.2.lt
 clear hst
 have HBN : Hid (bindN n = 4) := by
  show _ = _
  unfold bindN bindK
  have := hk.out
  rw [if_neg (by omega), if_neg (by omega)]
 have dl : decide ((4 : Int) < least) = false := by rw [decide_eq_false_iff_not]; omega
 have dl2 : ¬ (4 : Int) < least := by omega
 go_enter Tryz.func103, Tryz.ntmps103
 go_wp2_with fail
 refine (level_any n _ _ _).mono ?_
 rintro e w1 ⟨rfl, hb1⟩
 rw [HBN.out]
 have X1 := Lib.hid (X0.out.below hb1)
 clear hb1
 have q0 := X1.out.blk.cell 0 (.int .i64 n.k) rfl
 have q1 := X1.out.blk.cell 1 (.string n.t) rfl
 have q2 := X1.out.blk.cell 2 (.int .i64 n.num) rfl
 have q3 := X1.out.blk.cell 3 (.slice A n.kids.length c) rfl
 go_wp2_with fail
 refine (pr_number_any w0 _ p _ n _ _ false hE X1.out.st hn64 (by omega)).mono ?_
 rintro e w2 ⟨ws2, h2, p2, L2, (⟨o2, rfl, e2⟩ | ⟨o2, rfl⟩)⟩
 ·exfalso
  rw [HNF.out] at o2
  cases o2
 ·have X2 := Lib.hid (X1.out.step h2 p2)
  clear h2 p2 o2
  unfold noneE
  go_wp2
  exact ⟨rfl, NOut.no X2.out.st X2.out.pk HOKF.out (by omega)⟩
theorem expr_27 (w0 : World) (p : Nat) (hE : Env w0) (n : Nd) (hk : Hid (n.k = 27)) (IH : ∀ m ∈ n.kids, EOk w0 p m) : EOk w0 p n := by
 intro cs w ws least hl0 hl4 hr hst hb
 obtain ⟨A, c, rfl, hR, hcap, hlm, hn64, hts⟩ := hr.four
 have HR := Lib.hid hR
 have hmany := many_eq n
 clear hr hR
 obtain ⟨ok, HK⟩ : ∃ b, Hid (okC 4 n = b) := ⟨_, rfl⟩
 rw [HK.out]
 obtain ⟨nw, HW⟩ : ∃ b, Hid (atW least (bindN n) (shw n) = b) := ⟨_, rfl⟩
 rw [HW.out]
 generalize hgm : 10 * many n - 3 = gm
 have hgm2 : 10 * manyL n.kids + 7 = gm := by omega
 have HGM := Lib.hid hgm
 clear hgm
 obtain ⟨rest, HRR⟩ : ∃ b, Hid (isNL n.k 0 n.kids.length n.kids = b) := ⟨_, rfl⟩
 have HOK : Hid (ok = (plainB n true false 0 (-1) && rest)) := by
  show _ = _
  rw [← HK.out, okC_of (by rw [hk.out]; rfl), isN_p0 (text := true) (least := 0) (most := (-1)) (by rw [hk.out]; rfl) (by rw [hk.out]; decide) (by rw [hk.out]; decide) (by rw [hk.out]; decide) (by rw [hk.out]; decide), HRR.out]
  rfl
 have b32 : (n.k == 32) = false := by rw [hk.out]; rfl
 have b28 : (n.k == 28) = false := by rw [hk.out]; rfl
 have b29 : (n.k == 29) = false := by rw [hk.out]; rfl
 have b24 : (n.k == 24) = false := by rw [hk.out]; rfl
 have b25 : (n.k == 25) = false := by rw [hk.out]; rfl
 have b23 : (n.k == 23) = false := by rw [hk.out]; rfl
 have b26 : (n.k == 26) = false := by rw [hk.out]; rfl
 have b27 : (n.k == 27) = true := by rw [hk.out]; rfl
 have b33 : (n.k == 33) = false := by rw [hk.out]; rfl
 have b30 : (n.k == 30) = false := by rw [hk.out]; rfl
 have b31 : (n.k == 31) = false := by rw [hk.out]; rfl
 have b34 : (n.k == 34) = false := by rw [hk.out]; rfl
 have hll := manyL_len n.kids
 have IHW := Lib.hid (fun m (hm : m ∈ n.kids) => whole_of w0 p m (IH m hm))
 have HREST : Hid (rest = n.kids.all (okC 4)) := by
  show _ = _
  rw [← HRR.out, hk.out, isNL_okC (c := 4) _ _ (fun _ _ _ => rfl)]
 clear IH
 have X0 := Lib.hid (Bx.start n A c hst)
 have hlw := hst.2.lt
 clear hst
 have HBN : Hid (bindN n = 4) := by
  show _ = _
  unfold bindN bindK
  rw [hk.out]
  rfl
 have dl : decide ((4 : Int) < least) = false := by rw [decide_eq_false_iff_not]; omega
 have dl2 : ¬ (4 : Int) < least := by omega
 go_enter Tryz.func103, Tryz.ntmps103
 go_wp2_with fail
 refine (level_any n _ _ _).mono ?_
 rintro e w1 ⟨rfl, hb1⟩
 rw [HBN.out]
 have X1 := Lib.hid (X0.out.below hb1)
 clear hb1
 have q0 := X1.out.blk.cell 0 (.int .i64 n.k) rfl
 have q1 := X1.out.blk.cell 1 (.string n.t) rfl
 have q2 := X1.out.blk.cell 2 (.int .i64 n.num) rfl
 have q3 := X1.out.blk.cell 3 (.slice A n.kids.length c) rfl
 go_wp2_with fail
 refine (plain_any n _ _ _ _ _ _ _ (X1.out.st.env hE).ml).mono ?_
 rintro e w2 ⟨(⟨hq, rfl⟩ | ⟨hq, rfl⟩), hb2⟩
 rotate_left
 ·have X2 := Lib.hid (X1.out.below hb2)
  have Q2 := Lib.hid hq
  clear hq hb2
  unfold noneE
  go_wp2
  exact ⟨rfl, NOut.no X2.out.st X2.out.pk (by rw [HOK.out, Q2.out] <;> simp) (by omega)⟩
 have X2 := Lib.hid (X1.out.below hb2)
 have Q2 := Lib.hid hq
 clear hq hb2
 clear q0 q1 q2 q3 
 have q0 := X2.out.blk.cell 0 (.int .i64 n.k) rfl
 have q1 := X2.out.blk.cell 1 (.string n.t) rfl
 have q2 := X2.out.blk.cell 2 (.int .i64 n.num) rfl
 have q3 := X2.out.blk.cell 3 (.slice A n.kids.length c) rfl
 go_wp2_with fail
 refine (psay2 _ _ X2.out.st (by omega)).mono ?_
 rintro e w3 ⟨rfl, h3, p3⟩
 obtain ⟨ws3, e3⟩ : ∃ l : List ByteArray, l = ws ++ [n.t, ⟨#[123]⟩] := ⟨_, rfl⟩
 rw [← e3] at h3
 have L3 : ws3.length = ws.length + 2 := by rw [e3]; simp
 have E3 := Lib.hid e3
 have X3 := Lib.hid (X2.out.step h3 p3)
 clear e3 h3 p3 q0 q1 q2 q3 
 have q0 := X3.out.blk.cell 0 (.int .i64 n.k) rfl
 have q1 := X3.out.blk.cell 1 (.string n.t) rfl
 have q2 := X3.out.blk.cell 2 (.int .i64 n.num) rfl
 have q3 := X3.out.blk.cell 3 (.slice A n.kids.length c) rfl
 have HSH : Hid (nw = [n.t, ⟨#[123]⟩] ++ commas (n.kids.map shw) ++ [⟨#[125]⟩]) := by
  show _ = _
  rw [← HW.out, HBN.out, atW_not _ (by omega), shw_eq, hk.out]
  rfl
 generalize n.kids = l at *
 go_wp2_with fail
 go_loopw [139] (fun i wr => MakeRel w0 w p ws [n.t, ⟨#[123]⟩] l i wr) (fun i _ => l.length - (intOf i).toNat)
 case atStart => exact ⟨0, ws3, rfl, Nat.zero_le _, Lib.hid ⟨X3.out.st, X3.out.pk, by rw [E3.out]; simp [commas], by simp, by rw [L3]; simp⟩⟩
 case round =>
  obtain ⟨k, ws1, rfl, hk1, HRL⟩ := hrel
  clear X3 L3 E3 q0 q1 q2 q3
  have hle := HRL.out.2.2.2.2
  simp only [List.length_cons, List.length_nil, Nat.zero_add, Nat.reduceAdd] at hle
  have hmt := manyL_take_le l k
  by_cases hlt : k < l.length
  ·have hi : (k : Int) < (l.length : Int) := by omega
   obtain ⟨b, o, cs, hAA, hbl, hc, hrep⟩ := RepNL.at_ l _ HR.out k hlt
   subst hAA
   obtain ⟨A', c', rfl, -⟩ := hrep.four
   have bw := HRL.out.1.1
   have c0 := (bw.cell (p := ⟨b, o + k * 4 + 0, none⟩) hbl).trans (hc 0 _ rfl)
   have c1 := (bw.cell (p := ⟨b, o + k * 4 + 1, none⟩) hbl).trans (hc 1 _ rfl)
   have c2 := (bw.cell (p := ⟨b, o + k * 4 + 2, none⟩) hbl).trans (hc 2 _ rfl)
   have c3 := (bw.cell (p := ⟨b, o + k * 4 + 3, none⟩) hbl).trans (hc 3 _ rfl)
   rw [Nat.add_zero] at c0
   clear hc bw
   have HL := Lib.hid (IHW.out _ (List.getElem_mem hlt))
   have HT := Lib.hid (manyL_take hlt)
   have HAT := Lib.hid (all_take (okf := okC 4) hlt HRL.out.2.2.2.1)
   have HAF := Lib.hid (all_false (okf := okC 4) hlt)
   have HTS : Hid ((l.take (k + 1)).map shw = (l.take k).map shw ++ [shw l[k]]) := by show _ = _; rw [List.take_succ_eq_append_getElem hlt, List.map_append]; rfl
   have HREP := Lib.hid hrep
   have hmm : manyL (l.take k) + many l[k] ≤ manyL l := by rw [← HT.out]; exact manyL_take_le _ _
   have hpos := many_pos l[k]
   clear hrep
   generalize l[k] = x at *
   have hlw2 := HRL.out.1.2.lt
   by_cases h0 : k = 0
   ·have d0 : decide ((0 : Int) < (k : Int)) = false := by rw [decide_eq_false_iff_not]; omega
    have d1 : ¬ (0 : Int) < (k : Int) := by omega
    have H0 := Lib.hid h0
    clear h0
    go_wp2_with fail
    refine (HL.out _ _ _ HREP.out (HRL.out.1.alloc _) (by omega)).mono ?_
    rintro e w2 ⟨ws2, h2, p2, l2, (⟨o2, rfl, e2⟩ | ⟨o2, rfl⟩)⟩
    ·have H2 := Lib.hid h2
     have P2 := Lib.hid ((HRL.out.2.1.trans_ (PK.alloc_ _ _ hlw2)).trans_ p2)
     have E2 := Lib.hid e2
     have O2 := Lib.hid o2
     clear h2 p2 e2 o2
     go_wp2
     go_roundw
     case rel =>
      refine ⟨k + 1, ws2, by go_num, by omega, Lib.hid ⟨H2.out, P2.out, ?_, HAT.out.trans O2.out, by rw [HT.out]; simp; omega⟩⟩
      rw [E2.out, HRL.out.2.2.1, HTS.out, commas_snoc, if_pos (by rw [H0.out]; rfl), H0.out]
      simp [commas]
     case measure => (first | (simp [intOf]; done) | (simp [intOf]; omega))
    ·have H2 := Lib.hid h2
     have P2 := Lib.hid ((HRL.out.2.1.trans_ (PK.alloc_ _ _ hlw2)).trans_ p2)
     have O2 := Lib.hid o2
     clear h2 p2 o2
     unfold noneE
     go_wp2
     exact ⟨rfl, NOut.no H2.out P2.out (by rw [HOK.out, HREST.out, HAF.out O2.out]; simp) (by omega)⟩
   ·have d0 : decide ((0 : Int) < (k : Int)) = true := by rw [decide_eq_true_eq]; omega
    have d1 : (0 : Int) < (k : Int) := by omega
    have d2 : 0 < k := by omega
    have HB1 : Hid (Stq w0 p ws1 (wr.alloc (.cells #[.int .i64 x.k, .string x.t, .int .i64 x.num, .slice A' x.kids.length c'] 24)) ∧ PK p w (wr.alloc (.cells #[.int .i64 x.k, .string x.t, .int .i64 x.num, .slice A' x.kids.length c'] 24))) := ⟨HRL.out.1.alloc _, HRL.out.2.1.trans_ (PK.alloc_ _ _ hlw2)⟩
    have KB := Lib.hid (Blk.new_ wr 24 #[.int .i64 x.k, .string x.t, .int .i64 x.num, .slice A' x.kids.length c'])
    go_wp2_with fail
    refine (psay1 _ HB1.out.1 (by omega)).mono ?_
    rintro e w3 ⟨rfl, h3, p3⟩
    have H3 := Lib.hid h3
    have P3 := Lib.hid (HB1.out.2.trans_ p3)
    have K3 := p3.blk HB1.out.1.2 KB.out (by decide) (by decide)
    clear h3 p3
    have q0 := K3.cell 0 (.int .i64 x.k) rfl
    have q1 := K3.cell 1 (.string x.t) rfl
    have q2 := K3.cell 2 (.int .i64 x.num) rfl
    have q3 := K3.cell 3 (.slice A' x.kids.length c') rfl
    have hl3 : (ws1 ++ [(⟨#[44]⟩ : ByteArray)]).length = ws1.length + 1 := by simp
    have HL3 := Lib.hid hl3
    clear hl3 K3
    go_wp2_with fail
    refine (HL.out _ _ _ HREP.out H3.out (by rw [HL3.out]; omega)).mono ?_
    rintro e w2 ⟨ws2, h2, p2, l2, (⟨o2, rfl, e2⟩ | ⟨o2, rfl⟩)⟩
    ·have H2 := Lib.hid h2
     have P2 := Lib.hid (P3.out.trans_ p2)
     have E2 := Lib.hid e2
     have O2 := Lib.hid o2
     rw [HL3.out] at l2
     clear h2 p2 e2 o2
     go_wp2
     go_roundw
     case rel =>
      refine ⟨k + 1, ws2, by go_num, by omega, Lib.hid ⟨H2.out, P2.out, ?_, HAT.out.trans O2.out, by rw [HT.out]; simp; omega⟩⟩
      rw [E2.out, HRL.out.2.2.1, HTS.out, commas_snoc, if_neg (by
       intro he
       have : ((l.take k).map shw).length = 0 := by rw [he]; rfl
       rw [List.length_map, List.length_take] at this
       omega)]
      simp
     case measure => (first | (simp [intOf]; done) | (simp [intOf]; omega))
    ·have H2 := Lib.hid h2
     have P2 := Lib.hid (P3.out.trans_ p2)
     have O2 := Lib.hid o2
     rw [HL3.out] at l2
     clear h2 p2 o2
     unfold noneE
     go_wp2
     exact ⟨rfl, NOut.no H2.out P2.out (by rw [HOK.out, HREST.out, HAF.out O2.out]; simp) (by omega)⟩
  ·have hi : ¬ (k : Int) < (l.length : Int) := by omega
   have ek : k = l.length := by omega
   have HT1 : Hid (ws1 = ws ++ ([n.t, ⟨#[123]⟩] ++ commas (l.map shw)) ∧ l.all (okC 4) = true) := by
    have h1 := HRL.out.2.2.1
    have h2 := HRL.out.2.2.2.1
    rw [ek, List.take_length] at h1 h2
    exact ⟨h1, h2⟩
   have hle2 : ws1.length ≤ ws.length + 2 + 10 * manyL l := by omega
   clear ek
   go_wp2_with fail
   refine (psay1 _ HRL.out.1 (by omega)).mono ?_
   rintro e w3 ⟨rfl, h3, p3⟩
   have H3 := Lib.hid h3
   have P3 := Lib.hid (HRL.out.2.1.trans_ p3)
   clear h3 p3
   go_wp2
   go_end0
   exact NOut.yes2 H3.out P3.out (by rw [HOK.out, Q2.out, HREST.out, HT1.out.2]; rfl) (by rw [HT1.out.1, HSH.out]; simp) (by simp; omega)
end Go.Proofs.YtgegfbopogcjpaaGreatDoor
