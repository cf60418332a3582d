/- The printer: expressions that may take parentheses of their own. -/
import Derived.Test.YtgegfbopogcjpaaGreatDoorQ11
namespace Go.Proofs.YtgegfbopogcjpaaGreatDoor
open Go.RowKit
set_option linter.unusedVariables false
set_option linter.unusedSimpArgs false
set_option maxRecDepth 100000
set_option maxHeartbeats 2000000
theorem sayD_any (B p : Nat) (ws new : List ByteArray) (g c m : Nat) (u : FrameMode) (w : World) (hp : Pr B p ws w) (hm : new.length = m) (hn : ∀ j u, (new.map Value.string)[j]? = some u → w.cell? ((⟨g, 0, none⟩ : Addr).add j) = some u) (hb : ws.length + m ≤ 100000) :
 CallsD Tryz.prog 51 #[.pointer (some ⟨p, 0, none⟩), .slice (some ⟨g, 0, none⟩) m c] u w fun e u' w' => u' = u ∧ SayOut B p (ws ++ new) w e w' := by
 subst hm
 have hle := hp.le
 obtain ⟨h0, v, hk, hown⟩ := hp
 obtain ⟨i0, hi, hz0, hz1, hz2⟩ := info_parts info_text
 have c0 := hk.cell 0 v rfl
 have f0 := hk.free 0
 have HN := Lib.hid hn
 clear hn
 go_enter_d Tryz.func51, Tryz.ntmps51
 go_wp2_with (at_builtin; refine @wpList_append_own_at Tryz.prog w _ _ _ _ _ rfl (.tmp 8) (.tmp 9) 56 rfl B 9 i0 (.string ⟨#[]⟩) 1 16 Tryz.underlying56 hi hz0 hz1 hz2 rfl (by decide) v ws.length (ws.map .string) rfl hown ⟨g, 0, none⟩ new.length c (new.map Value.string) rfl ?c1 ?c2 ?c3 ?c4 ?c5 ?c6 ?_)
 case c1 => simp
 case c2 => exact HN.out
 case c3 => intro u hu; obtain ⟨x, -, rfl⟩ := List.mem_map.1 hu; rfl
 case c4 => unfold maxLen; omega
 case c5 => omega
 case c6 => exact hle
 intro v' w1 hown' hgrow _ hat
 obtain ⟨A', cp', rfl, -⟩ := Row.of_own hown'
 have H := say_end h0 hk hown hown' hgrow hat
 have f1 : w1.frozen? ⟨p, 0, none⟩ = false := (hk.grown hgrow (own_blk hown hk (by decide))).free 0
 have c1 : w1.cell? ⟨p, 0, none⟩ = some v := (hk.grown hgrow (own_blk hown hk (by decide))).cell 0 v rfl
 have H2 := Lib.hid H
 clear H
 go_wp2
 go_end0
 exact ⟨rfl, H2.out⟩
theorem cfi (args : Array Value) (w : World) : (invoke (.fn (.func 51) #[]) args).run Tryz.prog w = .ok (.enter 51 args) w := by
 have := cf_of Tryz.func51 (by kernel_rfl) (by kernel_rfl) args w
 first | (simp [invoke]; done) | simpa [invoke] using this
def Dx (g : Nat) (w0 : World) (p : Nat) (w : World) (b : Nat) (n : Nd) (A : Option Addr) (c : Nat) (ws : List ByteArray) (w' : World) : Prop :=
 Bx w0 p w b n A c ws w' ∧ Blk w' g 9 #[.string ⟨#[41]⟩] ∧ some g ≠ rowAt w' p
theorem Dx.st {w0 w w' : World} {p b c g : Nat} {ws : List ByteArray} {n : Nd} {A : Option Addr} (h : Dx g w0 p w b n A c ws w') : Stq w0 p ws w' := h.1.1
theorem Dx.pk {w0 w w' : World} {p b c g : Nat} {ws : List ByteArray} {n : Nd} {A : Option Addr} (h : Dx g w0 p w b n A c ws w') : PK p w w' := h.1.2.1
theorem Dx.blk {w0 w w' : World} {p b c g : Nat} {ws : List ByteArray} {n : Nd} {A : Option Addr} (h : Dx g w0 p w b n A c ws w') : Blk w' b 24 #[.int .i64 n.k, .string n.t, .int .i64 n.num, .slice A n.kids.length c] := h.1.2.2
theorem Dx.ne {w0 w w' : World} {p b c g : Nat} {ws : List ByteArray} {n : Nd} {A : Option Addr} (h : Dx g w0 p w b n A c ws w') : g ≠ p := fun e => by
 obtain ⟨⟨⟨-, -, v, hb, -⟩, -⟩, hg, -⟩ := h
 subst e
 unfold Blk at hb hg
 rw [hg] at hb
 injection hb with hb
 injection hb with _ hb
 exact absurd hb (by decide)
theorem Dx.of {w0 w w1 : World} {p b c : Nat} {ws : List ByteArray} {n : Nd} {A : Option Addr} (h : Bx w0 p w b n A c ws w1) : Dx w1.heap.size w0 p w b n A c ws (w1.alloc (.cells #[.string ⟨#[41]⟩] 9)) :=
 ⟨h.alloc _, Blk.new_ _ _ _, fun e => by
  rw [rowAt_alloc _ h.1.2.lt] at e
  have := (h.1.2.row _ e.symm).2
  omega⟩
theorem Dx.step {w0 w w1 w2 : World} {p b c g : Nat} {ws ws2 : List ByteArray} {n : Nd} {A : Option Addr} (h : Dx g w0 p w b n A c ws w1) (hs : Stq w0 p ws2 w2) (hp : PK p w1 w2) : Dx g w0 p w b n A c ws2 w2 := by
 obtain ⟨h1, h2⟩ := hp.keep g h.2.1.lt h.ne h.2.2
 exact ⟨h.1.step hs hp, h1.trans h.2.1, h2⟩
theorem Dx.below {w0 w w1 w2 : World} {p b c g : Nat} {ws : List ByteArray} {n : Nd} {A : Option Addr} (h : Dx g w0 p w b n A c ws w1) (hb : Below w1.heap.size w1 w2) : Dx g w0 p w b n A c ws w2 :=
 h.step (h.st.below hb) (PK.of_below h.st.2 hb)
theorem Dx.alloc {w0 w w1 : World} {p b c g : Nat} {ws : List ByteArray} {n : Nd} {A : Option Addr} (h : Dx g w0 p w b n A c ws w1) (o : Obj) : Dx g w0 p w b n A c ws (w1.alloc o) :=
 h.step (h.st.alloc o) (PK.alloc_ _ _ h.st.2.lt)
theorem Dx.say {w0 w w1 : World} {p b c g : Nat} {ws : List ByteArray} {n : Nd} {A : Option Addr} (h : Dx g w0 p w b n A c ws w1) (u : FrameMode) (hl : ws.length + 1 ≤ 100000) :
 CallsD Tryz.prog 51 #[.pointer (some ⟨p, 0, none⟩), .slice (some ⟨g, 0, none⟩) 1 1] u w1 fun e u' w' => u' = u ∧ e = .returned (.tuple #[]) ∧ Stq w0 p (ws ++ [⟨#[41]⟩]) w' ∧ PK p w w' := by
 refine (sayD_any w0.heap.size p ws [⟨#[41]⟩] g 1 1 u w1 h.st.2 rfl ?_ hl).mono ?_
 ·intro j x hx
  rw [add_plain_, Nat.zero_add]
  exact h.2.1.cell j x (by simpa using hx)
 ·rintro e u' w' ⟨rfl, hs⟩
  have := hs.st h.st
  exact ⟨rfl, this.1, this.2.1, h.pk.trans_ this.2.2⟩
theorem leave_yes {w0 w w1 : World} {p b c g gm : Nat} {ws ws1 nw : List ByteArray} {n : Nd} {A : Option Addr} {ok : Bool} (tmps : Array Value) (h : Dx g w0 p w b n A c ws1 w1) (hl : ws1.length + 1 ≤ 100000) (h1 : ok = true) (h2 : ws1 ++ [⟨#[41]⟩] = ws ++ nw) (h3 : ws1.length + 1 ≤ ws.length + gm) :
 Leaves Tryz.prog Tryz.f103 tmps (NOut w0 p ws ok nw gm w) [{ target := .fn (.func 51) #[], args := #[.pointer (some ⟨p, 0, none⟩), .slice (some ⟨g, 0, none⟩) 1 1] }] .returning w1 := by
 refine leaves_cons (f := 51) (args := #[.pointer (some ⟨p, 0, none⟩), .slice (some ⟨g, 0, none⟩) 1 1]) (by simp) ?_ ?_
 ·exact cfi _ _
 refine (h.say _ hl).mono ?_
 rintro e u' w' ⟨rfl, rfl, hs, hp⟩
 exact ⟨_, results_none rfl _ _ _, NOut.yes2 hs hp h1 h2 (by rw [List.length_append]; exact h3)⟩
theorem leave_no {w0 w w1 : World} {p b c g gm : Nat} {ws ws1 nw : List ByteArray} {n : Nd} {A : Option Addr} {ok : Bool} (tmps : Array Value) (h : Dx g w0 p w b n A c ws1 w1) (hl : ws1.length + 1 ≤ 100000) (h1 : ok = false) (h3 : ws1.length + 1 ≤ ws.length + gm) :
 Leaves Tryz.prog Tryz.f103 tmps (NOut w0 p ws ok nw gm w) [{ target := .fn (.func 51) #[], args := #[.pointer (some ⟨p, 0, none⟩), .slice (some ⟨g, 0, none⟩) 1 1] }] (.panicking [{ v := .iface 52 (.agg #[]), recovered := false }]) w1 := by
 refine leaves_cons (f := 51) (args := #[.pointer (some ⟨p, 0, none⟩), .slice (some ⟨g, 0, none⟩) 1 1]) (by simp) ?_ ?_
 ·exact cfi _ _
 refine (h.say _ hl).mono ?_
 rintro e u' w' ⟨rfl, rfl, hs, hp⟩
 exact NOut.no hs hp h1 (by rw [List.length_append]; exact h3)
def E1 (w0 : World) (p : Nat) (m : Nd) (least : Int) : Prop :=
 ∀ (cs : List Value) (w : World) (ws : List ByteArray), RepN w0 m cs → Stq w0 p ws w → ws.length + 10 * many m ≤ 90000 → Calls Tryz.prog 103 #[.pointer (some ⟨p, 0, none⟩), .agg cs.toArray, .int .i64 least] w (NOut w0 p ws (okC 4 m) (atW least (bindN m) (shw m)) (10 * many m - 3) w)
theorem atW_yes {least b : Int} (w : List ByteArray) (h : b < least) : atW least b w = ⟨#[40]⟩ :: (w ++ [⟨#[41]⟩]) := by unfold atW; rw [if_pos h]
theorem sgn_dec (op : Int) : ((decide (0 ≤ op) && decide (op ≤ 12)) && (sgn op).isSome) = decide (0 ≤ sgnB op) := by
 rcases hs : sgn op with _ | x
 ·have : sgnB op = -1 := by unfold sgnB; rw [hs]
  rw [this]; simp
 ·have h0 : 0 ≤ op ∧ op ≤ 12 := by
   unfold sgn at hs
   repeat' split at hs
   all_goals simp at hs
   all_goals omega
  have h1 := sgnB_vals op
  have h2 : sgnB op ≠ -1 := by
   unfold sgnB
   rw [hs]
   unfold sgn at hs
   repeat' split at hs
   all_goals simp at hs
   all_goals (subst hs; simp)
  have h3 : 0 ≤ sgnB op := by omega
  simp [h0.1, h0.2, h3]
theorem isN_op {n : Nd} (hk : n.k = 32) : isN n false = (plainB n false true 2 2 && decide (0 ≤ sgnB n.num) && isNL n.k 0 n.kids.length n.kids) := by
 rw [isN_plain n false 12 2 2 (by rw [hk]; rfl) (by omega) (by omega) (by omega), ← sgn_dec, hk]
 simp [Bool.and_assoc]
theorem expr_28 (w0 : World) (p : Nat) (hE : Env w0) (n : Nd) (hk : Hid (n.k = 28)) (least : Int) (hl0 : 0 ≤ least) (hl4 : least ≤ 4) (hl3 : ¬ 3 < least) (IH : ∀ m ∈ n.kids, EOk w0 p m) : E1 w0 p n least := by
 intro cs w ws hr hst hb
 obtain ⟨A, c, rfl, hR, hcap, hlm, hn64, hts⟩ := hr.four
 have HR := Lib.hid hR
 have hmany := many_eq n
 clear hr hR
 obtain ⟨ok, HK⟩ : ∃ b, Hid (okC 4 n = b) := ⟨_, rfl⟩
 rw [HK.out]
 obtain ⟨nw, HW⟩ : ∃ b, Hid (atW least (bindN n) (shw n) = b) := ⟨_, rfl⟩
 rw [HW.out]
 generalize hgm : 10 * many n - 3 = gm
 have hgm2 : 10 * manyL n.kids + 7 = gm := by omega
 have HGM := Lib.hid hgm
 clear hgm
 obtain ⟨rest, HRR⟩ : ∃ b, Hid (isNL n.k 0 n.kids.length n.kids = b) := ⟨_, rfl⟩
 have HOK : Hid (ok = (plainB n false false 1 1 && rest)) := by
  show _ = _
  rw [← HK.out, okC_of (by rw [hk.out]; rfl), isN_p0 (text := false) (least := 1) (most := 1) (by rw [hk.out]; rfl) (by rw [hk.out]; decide) (by rw [hk.out]; decide) (by rw [hk.out]; decide) (by rw [hk.out]; decide), HRR.out]
  rfl
 have b32 : (n.k == 32) = false := by rw [hk.out]; rfl
 have b28 : (n.k == 28) = true := by rw [hk.out]; rfl
 have b29 : (n.k == 29) = false := by rw [hk.out]; rfl
 have b24 : (n.k == 24) = false := by rw [hk.out]; rfl
 have b25 : (n.k == 25) = false := by rw [hk.out]; rfl
 have b23 : (n.k == 23) = false := by rw [hk.out]; rfl
 have b26 : (n.k == 26) = false := by rw [hk.out]; rfl
 have b27 : (n.k == 27) = false := by rw [hk.out]; rfl
 have b33 : (n.k == 33) = false := by rw [hk.out]; rfl
 have b30 : (n.k == 30) = false := by rw [hk.out]; rfl
 have b31 : (n.k == 31) = false := by rw [hk.out]; rfl
 have b34 : (n.k == 34) = false := by rw [hk.out]; rfl
 have hmk := fun w : World => run_makeMap (P := Tryz.prog) 140 w
 have hu1 := mu_b1
 have hu2 := mu_b2
 have hlk := lk_b true
 have X0 := Lib.hid (Bx.start n A c hst)
 have hlw := hst.2.lt
 clear hst
 have HBN : Hid (bindN n = 3) := by
  show _ = _
  unfold bindN bindK
  rw [hk.out]
  rfl
 have dl : decide ((3 : Int) < least) = false := by rw [decide_eq_false_iff_not]; omega
 have dl2 : ¬ (3 : Int) < least := by omega
 go_enter Tryz.func103, Tryz.ntmps103
 go_wp2_with fail
 refine (level_any n _ _ _).mono ?_
 rintro e w1 ⟨rfl, hb1⟩
 rw [HBN.out]
 have X1 := Lib.hid (X0.out.below hb1)
 clear hb1
 have q0 := X1.out.blk.cell 0 (.int .i64 n.k) rfl
 have q1 := X1.out.blk.cell 1 (.string n.t) rfl
 have q2 := X1.out.blk.cell 2 (.int .i64 n.num) rfl
 have q3 := X1.out.blk.cell 3 (.slice A n.kids.length c) rfl
 go_wp2_with fail
 refine (plain_any n _ _ _ _ _ _ _ (X1.out.st.env hE).ml).mono ?_
 rintro e w2 ⟨(⟨hq, rfl⟩ | ⟨hq, rfl⟩), hb2⟩
 rotate_left
 ·have X2 := Lib.hid (X1.out.below hb2)
  have Q2 := Lib.hid hq
  clear hq hb2
  unfold noneE
  go_wp2
  exact ⟨rfl, NOut.no X2.out.st X2.out.pk (by rw [HOK.out, Q2.out] <;> simp) (by omega)⟩
 have X2 := Lib.hid (X1.out.below hb2)
 have Q2 := Lib.hid hq
 clear hq hb2
 clear q0 q1 q2 q3 
 have q0 := X2.out.blk.cell 0 (.int .i64 n.k) rfl
 have q1 := X2.out.blk.cell 1 (.string n.t) rfl
 have q2 := X2.out.blk.cell 2 (.int .i64 n.num) rfl
 have q3 := X2.out.blk.cell 3 (.slice A n.kids.length c) rfl
 obtain ⟨x, hkx⟩ := oneKid Q2.out
 obtain ⟨bb, oo, Ax, cx, hA, hbl, k0, k1, k2, k3, rx⟩ := first_kid HR.out (by rw [hkx]; rfl : n.kids[0]? = some x)
 subst hA
 have RX := Lib.hid rx
 have hml : many x = manyL n.kids := by rw [hkx, manyL_one]
 have hposx := many_pos x
 have hlen : n.kids.length = 1 := by rw [hkx]; rfl
 have hjp : 0 < n.kids.length := by omega
 have HKX := Lib.hid hkx
 have HLEN := Lib.hid hlen
 clear rx hkx hlen
 have HREST : Hid (rest = okC 4 x) := by
  show _ = _
  rw [← HRR.out, hk.out, isNL_okC (c := 4) _ _ (fun _ _ _ => rfl), HKX.out]
  simp
 have HSH : Hid (nw = ⟨#[45]⟩ :: atW 3 (bindN x) (shw x)) := by
  show _ = _
  rw [← HW.out, HBN.out, atW_not _ (by omega), shw_eq, hk.out, HKX.out]
  rfl
 have IHX := Lib.hid (IH x (by rw [HKX.out]; simp))
 clear IH
 have X3 := Lib.hid (X2.out.alloc (.map mapB2 2))
 clear q0 q1 q2 q3
 have q0 := X3.out.blk.cell 0 (.int .i64 n.k) rfl
 have q1 := X3.out.blk.cell 1 (.string n.t) rfl
 have q2 := X3.out.blk.cell 2 (.int .i64 n.num) rfl
 have q3 := X3.out.blk.cell 3 (.slice (some ⟨bb, oo, none⟩) n.kids.length c) rfl
 go_wp2_with fail
 refine (psay1 _ X3.out.st (by omega)).mono ?_
 rintro e w4 ⟨rfl, h4, p4⟩
 obtain ⟨ws4, e4⟩ : ∃ l : List ByteArray, l = ws ++ [⟨#[45]⟩] := ⟨_, rfl⟩
 rw [← e4] at h4
 have L4 : ws4.length = ws.length + 1 := by rw [e4]; simp
 have E4 := Lib.hid e4
 have X4 := Lib.hid (X3.out.step h4 p4)
 clear e4 h4 p4 q0 q1 q2 q3 
 have q0 := X4.out.blk.cell 0 (.int .i64 n.k) rfl
 have q1 := X4.out.blk.cell 1 (.string n.t) rfl
 have q2 := X4.out.blk.cell 2 (.int .i64 n.num) rfl
 have q3 := X4.out.blk.cell 3 (.slice (some ⟨bb, oo, none⟩) n.kids.length c) rfl
 have bw := X4.out.st.1
 have z0 := (bw.cell (p := ⟨bb, oo + 0 * 4, none⟩) hbl).trans k0
 have z1 := (bw.cell (p := ⟨bb, oo + 0 * 4 + 1, none⟩) hbl).trans k1
 have z2 := (bw.cell (p := ⟨bb, oo + 0 * 4 + 2, none⟩) hbl).trans k2
 have z3 := (bw.cell (p := ⟨bb, oo + 0 * 4 + 3, none⟩) hbl).trans k3
 clear bw
 simp only [Nat.zero_mul, Nat.add_zero] at z0 z1 z2 z3
 go_wp2_with fail
 refine (IHX.out _ _ _ (3) (by omega) (by omega) RX.out X4.out.st (by omega)).mono ?_
 rintro e w5 ⟨ws5, h5, p5, L5, (⟨o5, rfl, e5⟩ | ⟨o5, rfl⟩)⟩
 rotate_left
 ·have X5 := Lib.hid (X4.out.step h5 p5)
  have Q5 := Lib.hid o5
  clear h5 p5 o5
  unfold noneE
  go_wp2
  exact ⟨rfl, NOut.no X5.out.st X5.out.pk (by rw [HOK.out, Q2.out, HREST.out, Q5.out] <;> simp) (by omega)⟩
 have X5 := Lib.hid (X4.out.step h5 p5)
 have Q5 := Lib.hid o5
 have E5 := Lib.hid e5
 clear h5 p5 o5 e5 q0 q1 q2 q3 z0 z1 z2 z3
 have q0 := X5.out.blk.cell 0 (.int .i64 n.k) rfl
 have q1 := X5.out.blk.cell 1 (.string n.t) rfl
 have q2 := X5.out.blk.cell 2 (.int .i64 n.num) rfl
 have q3 := X5.out.blk.cell 3 (.slice (some ⟨bb, oo, none⟩) n.kids.length c) rfl
 go_wp2
 go_end0
 exact NOut.yes2 X5.out.st X5.out.pk (by rw [HOK.out, Q2.out, HREST.out, Q5.out] <;> simp) (by rw [E5.out, E4.out, HSH.out]; simp) (by omega)
theorem expr_28d (w0 : World) (p : Nat) (hE : Env w0) (n : Nd) (hk : Hid (n.k = 28)) (least : Int) (hl0 : 0 ≤ least) (hl4 : least ≤ 4) (hl3 : 3 < least) (IH : ∀ m ∈ n.kids, EOk w0 p m) : E1 w0 p n least := by
 intro cs w ws hr hst hb
 obtain ⟨A, c, rfl, hR, hcap, hlm, hn64, hts⟩ := hr.four
 have HR := Lib.hid hR
 have hmany := many_eq n
 clear hr hR
 obtain ⟨ok, HK⟩ : ∃ b, Hid (okC 4 n = b) := ⟨_, rfl⟩
 rw [HK.out]
 obtain ⟨nw, HW⟩ : ∃ b, Hid (atW least (bindN n) (shw n) = b) := ⟨_, rfl⟩
 rw [HW.out]
 generalize hgm : 10 * many n - 3 = gm
 have hgm2 : 10 * manyL n.kids + 7 = gm := by omega
 have HGM := Lib.hid hgm
 clear hgm
 obtain ⟨rest, HRR⟩ : ∃ b, Hid (isNL n.k 0 n.kids.length n.kids = b) := ⟨_, rfl⟩
 have HOK : Hid (ok = (plainB n false false 1 1 && rest)) := by
  show _ = _
  rw [← HK.out, okC_of (by rw [hk.out]; rfl), isN_p0 (text := false) (least := 1) (most := 1) (by rw [hk.out]; rfl) (by rw [hk.out]; decide) (by rw [hk.out]; decide) (by rw [hk.out]; decide) (by rw [hk.out]; decide), HRR.out]
  rfl
 have b32 : (n.k == 32) = false := by rw [hk.out]; rfl
 have b28 : (n.k == 28) = true := by rw [hk.out]; rfl
 have b29 : (n.k == 29) = false := by rw [hk.out]; rfl
 have b24 : (n.k == 24) = false := by rw [hk.out]; rfl
 have b25 : (n.k == 25) = false := by rw [hk.out]; rfl
 have b23 : (n.k == 23) = false := by rw [hk.out]; rfl
 have b26 : (n.k == 26) = false := by rw [hk.out]; rfl
 have b27 : (n.k == 27) = false := by rw [hk.out]; rfl
 have b33 : (n.k == 33) = false := by rw [hk.out]; rfl
 have b30 : (n.k == 30) = false := by rw [hk.out]; rfl
 have b31 : (n.k == 31) = false := by rw [hk.out]; rfl
 have b34 : (n.k == 34) = false := by rw [hk.out]; rfl
 have hmk := fun w : World => run_makeMap (P := Tryz.prog) 140 w
 have hu1 := mu_b1
 have hu2 := mu_b2
 have hlk := lk_b true
 have X0 := Lib.hid (Bx.start n A c hst)
 have hlw := hst.2.lt
 clear hst
 have HBN : Hid (bindN n = 3) := by
  show _ = _
  unfold bindN bindK
  rw [hk.out]
  rfl
 have dl : decide ((3 : Int) < least) = true := by rw [decide_eq_true_eq]; omega
 have dl2 : (3 : Int) < least := by omega
 go_enter_defers Tryz.func103, Tryz.ntmps103
 go_wp2_with fail
 refine (level_any n _ _ _).mono ?_
 rintro e w1 ⟨rfl, hb1⟩
 rw [HBN.out]
 have X1 := Lib.hid (X0.out.below hb1)
 clear hb1
 have q0 := X1.out.blk.cell 0 (.int .i64 n.k) rfl
 have q1 := X1.out.blk.cell 1 (.string n.t) rfl
 have q2 := X1.out.blk.cell 2 (.int .i64 n.num) rfl
 have q3 := X1.out.blk.cell 3 (.slice A n.kids.length c) rfl
 go_wp2_with fail
 refine (psay1 _ X1.out.st (by omega)).mono ?_
 rintro e w2 ⟨rfl, h2, p2⟩
 obtain ⟨ws2, e2⟩ : ∃ l : List ByteArray, l = ws ++ [⟨#[40]⟩] := ⟨_, rfl⟩
 rw [← e2] at h2
 have L2 : ws2.length = ws.length + 1 := by rw [e2]; simp
 have E2 := Lib.hid e2
 have X2 := Lib.hid (X1.out.step h2 p2)
 clear e2 h2 p2 q0 q1 q2 q3 
 have q0 := X2.out.blk.cell 0 (.int .i64 n.k) rfl
 have q1 := X2.out.blk.cell 1 (.string n.t) rfl
 have q2 := X2.out.blk.cell 2 (.int .i64 n.num) rfl
 have q3 := X2.out.blk.cell 3 (.slice A n.kids.length c) rfl
 have X3 := Lib.hid (Dx.of X2.out)
 clear q0 q1 q2 q3
 have q0 := X3.out.blk.cell 0 (.int .i64 n.k) rfl
 have q1 := X3.out.blk.cell 1 (.string n.t) rfl
 have q2 := X3.out.blk.cell 2 (.int .i64 n.num) rfl
 have q3 := X3.out.blk.cell 3 (.slice A n.kids.length c) rfl
 go_wp2_with fail
 refine (plain_any n _ _ _ _ _ _ _ (X3.out.st.env hE).ml).mono ?_
 rintro e w4 ⟨(⟨hq, rfl⟩ | ⟨hq, rfl⟩), hb4⟩
 rotate_left
 ·have X4 := Lib.hid (X3.out.below hb4)
  have Q4 := Lib.hid hq
  clear hq hb4
  unfold noneE
  go_wp2
  exact leave_no _ X4.out (by omega) (by rw [HOK.out, Q4.out] <;> simp) (by omega)
 have X4 := Lib.hid (X3.out.below hb4)
 have Q4 := Lib.hid hq
 clear hq hb4
 clear q0 q1 q2 q3 
 have q0 := X4.out.blk.cell 0 (.int .i64 n.k) rfl
 have q1 := X4.out.blk.cell 1 (.string n.t) rfl
 have q2 := X4.out.blk.cell 2 (.int .i64 n.num) rfl
 have q3 := X4.out.blk.cell 3 (.slice A n.kids.length c) rfl
 obtain ⟨x, hkx⟩ := oneKid Q4.out
 obtain ⟨bb, oo, Ax, cx, hA, hbl, k0, k1, k2, k3, rx⟩ := first_kid HR.out (by rw [hkx]; rfl : n.kids[0]? = some x)
 subst hA
 have RX := Lib.hid rx
 have hml : many x = manyL n.kids := by rw [hkx, manyL_one]
 have hposx := many_pos x
 have hlen : n.kids.length = 1 := by rw [hkx]; rfl
 have hjp : 0 < n.kids.length := by omega
 have HKX := Lib.hid hkx
 have HLEN := Lib.hid hlen
 clear rx hkx hlen
 have HREST : Hid (rest = okC 4 x) := by
  show _ = _
  rw [← HRR.out, hk.out, isNL_okC (c := 4) _ _ (fun _ _ _ => rfl), HKX.out]
  simp
 have HSH : Hid (nw = ⟨#[40]⟩ :: ((⟨#[45]⟩ :: atW 3 (bindN x) (shw x)) ++ [⟨#[41]⟩])) := by
  show _ = _
  rw [← HW.out, HBN.out, atW_yes _ (by omega), shw_eq, hk.out, HKX.out]
  rfl
 have IHX := Lib.hid (IH x (by rw [HKX.out]; simp))
 clear IH
 have X5 := Lib.hid (X4.out.alloc (.map mapB2 2))
 clear q0 q1 q2 q3
 have q0 := X5.out.blk.cell 0 (.int .i64 n.k) rfl
 have q1 := X5.out.blk.cell 1 (.string n.t) rfl
 have q2 := X5.out.blk.cell 2 (.int .i64 n.num) rfl
 have q3 := X5.out.blk.cell 3 (.slice (some ⟨bb, oo, none⟩) n.kids.length c) rfl
 go_wp2_with fail
 refine (psay1 _ X5.out.st (by omega)).mono ?_
 rintro e w6 ⟨rfl, h6, p6⟩
 obtain ⟨ws6, e6⟩ : ∃ l : List ByteArray, l = ws2 ++ [⟨#[45]⟩] := ⟨_, rfl⟩
 rw [← e6] at h6
 have L6 : ws6.length = ws2.length + 1 := by rw [e6]; simp
 have E6 := Lib.hid e6
 have X6 := Lib.hid (X5.out.step h6 p6)
 clear e6 h6 p6 q0 q1 q2 q3 
 have q0 := X6.out.blk.cell 0 (.int .i64 n.k) rfl
 have q1 := X6.out.blk.cell 1 (.string n.t) rfl
 have q2 := X6.out.blk.cell 2 (.int .i64 n.num) rfl
 have q3 := X6.out.blk.cell 3 (.slice (some ⟨bb, oo, none⟩) n.kids.length c) rfl
 have bw := X6.out.st.1
 have z0 := (bw.cell (p := ⟨bb, oo + 0 * 4, none⟩) hbl).trans k0
 have z1 := (bw.cell (p := ⟨bb, oo + 0 * 4 + 1, none⟩) hbl).trans k1
 have z2 := (bw.cell (p := ⟨bb, oo + 0 * 4 + 2, none⟩) hbl).trans k2
 have z3 := (bw.cell (p := ⟨bb, oo + 0 * 4 + 3, none⟩) hbl).trans k3
 clear bw
 simp only [Nat.zero_mul, Nat.add_zero] at z0 z1 z2 z3
 go_wp2_with fail
 refine (IHX.out _ _ _ (3) (by omega) (by omega) RX.out X6.out.st (by omega)).mono ?_
 rintro e w7 ⟨ws7, h7, p7, L7, (⟨o7, rfl, e7⟩ | ⟨o7, rfl⟩)⟩
 rotate_left
 ·have X7 := Lib.hid (X6.out.step h7 p7)
  have Q7 := Lib.hid o7
  clear h7 p7 o7
  unfold noneE
  go_wp2
  exact leave_no _ X7.out (by omega) (by rw [HOK.out, Q4.out, HREST.out, Q7.out] <;> simp) (by omega)
 have X7 := Lib.hid (X6.out.step h7 p7)
 have Q7 := Lib.hid o7
 have E7 := Lib.hid e7
 clear h7 p7 o7 e7 q0 q1 q2 q3 z0 z1 z2 z3
 have q0 := X7.out.blk.cell 0 (.int .i64 n.k) rfl
 have q1 := X7.out.blk.cell 1 (.string n.t) rfl
 have q2 := X7.out.blk.cell 2 (.int .i64 n.num) rfl
 have q3 := X7.out.blk.cell 3 (.slice (some ⟨bb, oo, none⟩) n.kids.length c) rfl
 go_wp2
 exact leave_yes _ X7.out (by omega) (by rw [HOK.out, Q4.out, HREST.out, Q7.out] <;> simp) (by rw [E7.out, E6.out, E2.out, HSH.out]; simp) (by omega)
theorem expr_29 (w0 : World) (p : Nat) (hE : Env w0) (n : Nd) (hk : Hid (n.k = 29)) (least : Int) (hl0 : 0 ≤ least) (hl4 : least ≤ 4) (hl3 : ¬ 3 < least) (IH : ∀ m ∈ n.kids, EOk w0 p m) : E1 w0 p n least := by
 intro cs w ws hr hst hb
 obtain ⟨A, c, rfl, hR, hcap, hlm, hn64, hts⟩ := hr.four
 have HR := Lib.hid hR
 have hmany := many_eq n
 clear hr hR
 obtain ⟨ok, HK⟩ : ∃ b, Hid (okC 4 n = b) := ⟨_, rfl⟩
 rw [HK.out]
 obtain ⟨nw, HW⟩ : ∃ b, Hid (atW least (bindN n) (shw n) = b) := ⟨_, rfl⟩
 rw [HW.out]
 generalize hgm : 10 * many n - 3 = gm
 have hgm2 : 10 * manyL n.kids + 7 = gm := by omega
 have HGM := Lib.hid hgm
 clear hgm
 obtain ⟨rest, HRR⟩ : ∃ b, Hid (isNL n.k 0 n.kids.length n.kids = b) := ⟨_, rfl⟩
 have HOK : Hid (ok = (plainB n false false 1 1 && rest)) := by
  show _ = _
  rw [← HK.out, okC_of (by rw [hk.out]; rfl), isN_p0 (text := false) (least := 1) (most := 1) (by rw [hk.out]; rfl) (by rw [hk.out]; decide) (by rw [hk.out]; decide) (by rw [hk.out]; decide) (by rw [hk.out]; decide), HRR.out]
  rfl
 have b32 : (n.k == 32) = false := by rw [hk.out]; rfl
 have b28 : (n.k == 28) = false := by rw [hk.out]; rfl
 have b29 : (n.k == 29) = true := by rw [hk.out]; rfl
 have b24 : (n.k == 24) = false := by rw [hk.out]; rfl
 have b25 : (n.k == 25) = false := by rw [hk.out]; rfl
 have b23 : (n.k == 23) = false := by rw [hk.out]; rfl
 have b26 : (n.k == 26) = false := by rw [hk.out]; rfl
 have b27 : (n.k == 27) = false := by rw [hk.out]; rfl
 have b33 : (n.k == 33) = false := by rw [hk.out]; rfl
 have b30 : (n.k == 30) = false := by rw [hk.out]; rfl
 have b31 : (n.k == 31) = false := by rw [hk.out]; rfl
 have b34 : (n.k == 34) = false := by rw [hk.out]; rfl
 have hmk := fun w : World => run_makeMap (P := Tryz.prog) 140 w
 have hu1 := mu_b1
 have hu2 := mu_b2
 have hlk := lk_b false
 have X0 := Lib.hid (Bx.start n A c hst)
 have hlw := hst.2.lt
 clear hst
 have HBN : Hid (bindN n = 3) := by
  show _ = _
  unfold bindN bindK
  rw [hk.out]
  rfl
 have dl : decide ((3 : Int) < least) = false := by rw [decide_eq_false_iff_not]; omega
 have dl2 : ¬ (3 : Int) < least := by omega
 go_enter Tryz.func103, Tryz.ntmps103
 go_wp2_with fail
 refine (level_any n _ _ _).mono ?_
 rintro e w1 ⟨rfl, hb1⟩
 rw [HBN.out]
 have X1 := Lib.hid (X0.out.below hb1)
 clear hb1
 have q0 := X1.out.blk.cell 0 (.int .i64 n.k) rfl
 have q1 := X1.out.blk.cell 1 (.string n.t) rfl
 have q2 := X1.out.blk.cell 2 (.int .i64 n.num) rfl
 have q3 := X1.out.blk.cell 3 (.slice A n.kids.length c) rfl
 go_wp2_with fail
 refine (plain_any n _ _ _ _ _ _ _ (X1.out.st.env hE).ml).mono ?_
 rintro e w2 ⟨(⟨hq, rfl⟩ | ⟨hq, rfl⟩), hb2⟩
 rotate_left
 ·have X2 := Lib.hid (X1.out.below hb2)
  have Q2 := Lib.hid hq
  clear hq hb2
  unfold noneE
  go_wp2
  exact ⟨rfl, NOut.no X2.out.st X2.out.pk (by rw [HOK.out, Q2.out] <;> simp) (by omega)⟩
 have X2 := Lib.hid (X1.out.below hb2)
 have Q2 := Lib.hid hq
 clear hq hb2
 clear q0 q1 q2 q3 
 have q0 := X2.out.blk.cell 0 (.int .i64 n.k) rfl
 have q1 := X2.out.blk.cell 1 (.string n.t) rfl
 have q2 := X2.out.blk.cell 2 (.int .i64 n.num) rfl
 have q3 := X2.out.blk.cell 3 (.slice A n.kids.length c) rfl
 obtain ⟨x, hkx⟩ := oneKid Q2.out
 obtain ⟨bb, oo, Ax, cx, hA, hbl, k0, k1, k2, k3, rx⟩ := first_kid HR.out (by rw [hkx]; rfl : n.kids[0]? = some x)
 subst hA
 have RX := Lib.hid rx
 have hml : many x = manyL n.kids := by rw [hkx, manyL_one]
 have hposx := many_pos x
 have hlen : n.kids.length = 1 := by rw [hkx]; rfl
 have hjp : 0 < n.kids.length := by omega
 have HKX := Lib.hid hkx
 have HLEN := Lib.hid hlen
 clear rx hkx hlen
 have HREST : Hid (rest = okC 4 x) := by
  show _ = _
  rw [← HRR.out, hk.out, isNL_okC (c := 4) _ _ (fun _ _ _ => rfl), HKX.out]
  simp
 have HSH : Hid (nw = ⟨#[33]⟩ :: atW 3 (bindN x) (shw x)) := by
  show _ = _
  rw [← HW.out, HBN.out, atW_not _ (by omega), shw_eq, hk.out, HKX.out]
  rfl
 have IHX := Lib.hid (IH x (by rw [HKX.out]; simp))
 clear IH
 have X3 := Lib.hid (X2.out.alloc (.map mapB2 2))
 clear q0 q1 q2 q3
 have q0 := X3.out.blk.cell 0 (.int .i64 n.k) rfl
 have q1 := X3.out.blk.cell 1 (.string n.t) rfl
 have q2 := X3.out.blk.cell 2 (.int .i64 n.num) rfl
 have q3 := X3.out.blk.cell 3 (.slice (some ⟨bb, oo, none⟩) n.kids.length c) rfl
 go_wp2_with fail
 refine (psay1 _ X3.out.st (by omega)).mono ?_
 rintro e w4 ⟨rfl, h4, p4⟩
 obtain ⟨ws4, e4⟩ : ∃ l : List ByteArray, l = ws ++ [⟨#[33]⟩] := ⟨_, rfl⟩
 rw [← e4] at h4
 have L4 : ws4.length = ws.length + 1 := by rw [e4]; simp
 have E4 := Lib.hid e4
 have X4 := Lib.hid (X3.out.step h4 p4)
 clear e4 h4 p4 q0 q1 q2 q3 
 have q0 := X4.out.blk.cell 0 (.int .i64 n.k) rfl
 have q1 := X4.out.blk.cell 1 (.string n.t) rfl
 have q2 := X4.out.blk.cell 2 (.int .i64 n.num) rfl
 have q3 := X4.out.blk.cell 3 (.slice (some ⟨bb, oo, none⟩) n.kids.length c) rfl
 have bw := X4.out.st.1
 have z0 := (bw.cell (p := ⟨bb, oo + 0 * 4, none⟩) hbl).trans k0
 have z1 := (bw.cell (p := ⟨bb, oo + 0 * 4 + 1, none⟩) hbl).trans k1
 have z2 := (bw.cell (p := ⟨bb, oo + 0 * 4 + 2, none⟩) hbl).trans k2
 have z3 := (bw.cell (p := ⟨bb, oo + 0 * 4 + 3, none⟩) hbl).trans k3
 clear bw
 simp only [Nat.zero_mul, Nat.add_zero] at z0 z1 z2 z3
 go_wp2_with fail
 refine (IHX.out _ _ _ (3) (by omega) (by omega) RX.out X4.out.st (by omega)).mono ?_
 rintro e w5 ⟨ws5, h5, p5, L5, (⟨o5, rfl, e5⟩ | ⟨o5, rfl⟩)⟩
 rotate_left
 ·have X5 := Lib.hid (X4.out.step h5 p5)
  have Q5 := Lib.hid o5
  clear h5 p5 o5
  unfold noneE
  go_wp2
  exact ⟨rfl, NOut.no X5.out.st X5.out.pk (by rw [HOK.out, Q2.out, HREST.out, Q5.out] <;> simp) (by omega)⟩
 have X5 := Lib.hid (X4.out.step h5 p5)
 have Q5 := Lib.hid o5
 have E5 := Lib.hid e5
 clear h5 p5 o5 e5 q0 q1 q2 q3 z0 z1 z2 z3
 have q0 := X5.out.blk.cell 0 (.int .i64 n.k) rfl
 have q1 := X5.out.blk.cell 1 (.string n.t) rfl
 have q2 := X5.out.blk.cell 2 (.int .i64 n.num) rfl
 have q3 := X5.out.blk.cell 3 (.slice (some ⟨bb, oo, none⟩) n.kids.length c) rfl
 go_wp2
 go_end0
 exact NOut.yes2 X5.out.st X5.out.pk (by rw [HOK.out, Q2.out, HREST.out, Q5.out] <;> simp) (by rw [E5.out, E4.out, HSH.out]; simp) (by omega)
theorem expr_29d (w0 : World) (p : Nat) (hE : Env w0) (n : Nd) (hk : Hid (n.k = 29)) (least : Int) (hl0 : 0 ≤ least) (hl4 : least ≤ 4) (hl3 : 3 < least) (IH : ∀ m ∈ n.kids, EOk w0 p m) : E1 w0 p n least := by
 intro cs w ws hr hst hb
 obtain ⟨A, c, rfl, hR, hcap, hlm, hn64, hts⟩ := hr.four
 have HR := Lib.hid hR
 have hmany := many_eq n
 clear hr hR
 obtain ⟨ok, HK⟩ : ∃ b, Hid (okC 4 n = b) := ⟨_, rfl⟩
 rw [HK.out]
 obtain ⟨nw, HW⟩ : ∃ b, Hid (atW least (bindN n) (shw n) = b) := ⟨_, rfl⟩
 rw [HW.out]
 generalize hgm : 10 * many n - 3 = gm
 have hgm2 : 10 * manyL n.kids + 7 = gm := by omega
 have HGM := Lib.hid hgm
 clear hgm
 obtain ⟨rest, HRR⟩ : ∃ b, Hid (isNL n.k 0 n.kids.length n.kids = b) := ⟨_, rfl⟩
 have HOK : Hid (ok = (plainB n false false 1 1 && rest)) := by
  show _ = _
  rw [← HK.out, okC_of (by rw [hk.out]; rfl), isN_p0 (text := false) (least := 1) (most := 1) (by rw [hk.out]; rfl) (by rw [hk.out]; decide) (by rw [hk.out]; decide) (by rw [hk.out]; decide) (by rw [hk.out]; decide), HRR.out]
  rfl
 have b32 : (n.k == 32) = false := by rw [hk.out]; rfl
 have b28 : (n.k == 28) = false := by rw [hk.out]; rfl
 have b29 : (n.k == 29) = true := by rw [hk.out]; rfl
 have b24 : (n.k == 24) = false := by rw [hk.out]; rfl
 have b25 : (n.k == 25) = false := by rw [hk.out]; rfl
 have b23 : (n.k == 23) = false := by rw [hk.out]; rfl
 have b26 : (n.k == 26) = false := by rw [hk.out]; rfl
 have b27 : (n.k == 27) = false := by rw [hk.out]; rfl
 have b33 : (n.k == 33) = false := by rw [hk.out]; rfl
 have b30 : (n.k == 30) = false := by rw [hk.out]; rfl
 have b31 : (n.k == 31) = false := by rw [hk.out]; rfl
 have b34 : (n.k == 34) = false := by rw [hk.out]; rfl
 have hmk := fun w : World => run_makeMap (P := Tryz.prog) 140 w
 have hu1 := mu_b1
 have hu2 := mu_b2
 have hlk := lk_b false
 have X0 := Lib.hid (Bx.start n A c hst)
 have hlw := hst.2.lt
 clear hst
 have HBN : Hid (bindN n = 3) := by
  show _ = _
  unfold bindN bindK
  rw [hk.out]
  rfl
 have dl : decide ((3 : Int) < least) = true := by rw [decide_eq_true_eq]; omega
 have dl2 : (3 : Int) < least := by omega
 go_enter_defers Tryz.func103, Tryz.ntmps103
 go_wp2_with fail
 refine (level_any n _ _ _).mono ?_
 rintro e w1 ⟨rfl, hb1⟩
 rw [HBN.out]
 have X1 := Lib.hid (X0.out.below hb1)
 clear hb1
 have q0 := X1.out.blk.cell 0 (.int .i64 n.k) rfl
 have q1 := X1.out.blk.cell 1 (.string n.t) rfl
 have q2 := X1.out.blk.cell 2 (.int .i64 n.num) rfl
 have q3 := X1.out.blk.cell 3 (.slice A n.kids.length c) rfl
 go_wp2_with fail
 refine (psay1 _ X1.out.st (by omega)).mono ?_
 rintro e w2 ⟨rfl, h2, p2⟩
 obtain ⟨ws2, e2⟩ : ∃ l : List ByteArray, l = ws ++ [⟨#[40]⟩] := ⟨_, rfl⟩
 rw [← e2] at h2
 have L2 : ws2.length = ws.length + 1 := by rw [e2]; simp
 have E2 := Lib.hid e2
 have X2 := Lib.hid (X1.out.step h2 p2)
 clear e2 h2 p2 q0 q1 q2 q3 
 have q0 := X2.out.blk.cell 0 (.int .i64 n.k) rfl
 have q1 := X2.out.blk.cell 1 (.string n.t) rfl
 have q2 := X2.out.blk.cell 2 (.int .i64 n.num) rfl
 have q3 := X2.out.blk.cell 3 (.slice A n.kids.length c) rfl
 have X3 := Lib.hid (Dx.of X2.out)
 clear q0 q1 q2 q3
 have q0 := X3.out.blk.cell 0 (.int .i64 n.k) rfl
 have q1 := X3.out.blk.cell 1 (.string n.t) rfl
 have q2 := X3.out.blk.cell 2 (.int .i64 n.num) rfl
 have q3 := X3.out.blk.cell 3 (.slice A n.kids.length c) rfl
 go_wp2_with fail
 refine (plain_any n _ _ _ _ _ _ _ (X3.out.st.env hE).ml).mono ?_
 rintro e w4 ⟨(⟨hq, rfl⟩ | ⟨hq, rfl⟩), hb4⟩
 rotate_left
 ·have X4 := Lib.hid (X3.out.below hb4)
  have Q4 := Lib.hid hq
  clear hq hb4
  unfold noneE
  go_wp2
  exact leave_no _ X4.out (by omega) (by rw [HOK.out, Q4.out] <;> simp) (by omega)
 have X4 := Lib.hid (X3.out.below hb4)
 have Q4 := Lib.hid hq
 clear hq hb4
 clear q0 q1 q2 q3 
 have q0 := X4.out.blk.cell 0 (.int .i64 n.k) rfl
 have q1 := X4.out.blk.cell 1 (.string n.t) rfl
 have q2 := X4.out.blk.cell 2 (.int .i64 n.num) rfl
 have q3 := X4.out.blk.cell 3 (.slice A n.kids.length c) rfl
 obtain ⟨x, hkx⟩ := oneKid Q4.out
 obtain ⟨bb, oo, Ax, cx, hA, hbl, k0, k1, k2, k3, rx⟩ := first_kid HR.out (by rw [hkx]; rfl : n.kids[0]? = some x)
 subst hA
 have RX := Lib.hid rx
 have hml : many x = manyL n.kids := by rw [hkx, manyL_one]
 have hposx := many_pos x
 have hlen : n.kids.length = 1 := by rw [hkx]; rfl
 have hjp : 0 < n.kids.length := by omega
 have HKX := Lib.hid hkx
 have HLEN := Lib.hid hlen
 clear rx hkx hlen
 have HREST : Hid (rest = okC 4 x) := by
  show _ = _
  rw [← HRR.out, hk.out, isNL_okC (c := 4) _ _ (fun _ _ _ => rfl), HKX.out]
  simp
 have HSH : Hid (nw = ⟨#[40]⟩ :: ((⟨#[33]⟩ :: atW 3 (bindN x) (shw x)) ++ [⟨#[41]⟩])) := by
  show _ = _
  rw [← HW.out, HBN.out, atW_yes _ (by omega), shw_eq, hk.out, HKX.out]
  rfl
 have IHX := Lib.hid (IH x (by rw [HKX.out]; simp))
 clear IH
 have X5 := Lib.hid (X4.out.alloc (.map mapB2 2))
 clear q0 q1 q2 q3
 have q0 := X5.out.blk.cell 0 (.int .i64 n.k) rfl
 have q1 := X5.out.blk.cell 1 (.string n.t) rfl
 have q2 := X5.out.blk.cell 2 (.int .i64 n.num) rfl
 have q3 := X5.out.blk.cell 3 (.slice (some ⟨bb, oo, none⟩) n.kids.length c) rfl
 go_wp2_with fail
 refine (psay1 _ X5.out.st (by omega)).mono ?_
 rintro e w6 ⟨rfl, h6, p6⟩
 obtain ⟨ws6, e6⟩ : ∃ l : List ByteArray, l = ws2 ++ [⟨#[33]⟩] := ⟨_, rfl⟩
 rw [← e6] at h6
 have L6 : ws6.length = ws2.length + 1 := by rw [e6]; simp
 have E6 := Lib.hid e6
 have X6 := Lib.hid (X5.out.step h6 p6)
 clear e6 h6 p6 q0 q1 q2 q3 
 have q0 := X6.out.blk.cell 0 (.int .i64 n.k) rfl
 have q1 := X6.out.blk.cell 1 (.string n.t) rfl
 have q2 := X6.out.blk.cell 2 (.int .i64 n.num) rfl
 have q3 := X6.out.blk.cell 3 (.slice (some ⟨bb, oo, none⟩) n.kids.length c) rfl
 have bw := X6.out.st.1
 have z0 := (bw.cell (p := ⟨bb, oo + 0 * 4, none⟩) hbl).trans k0
 have z1 := (bw.cell (p := ⟨bb, oo + 0 * 4 + 1, none⟩) hbl).trans k1
 have z2 := (bw.cell (p := ⟨bb, oo + 0 * 4 + 2, none⟩) hbl).trans k2
 have z3 := (bw.cell (p := ⟨bb, oo + 0 * 4 + 3, none⟩) hbl).trans k3
 clear bw
 simp only [Nat.zero_mul, Nat.add_zero] at z0 z1 z2 z3
 go_wp2_with fail
 refine (IHX.out _ _ _ (3) (by omega) (by omega) RX.out X6.out.st (by omega)).mono ?_
 rintro e w7 ⟨ws7, h7, p7, L7, (⟨o7, rfl, e7⟩ | ⟨o7, rfl⟩)⟩
 rotate_left
 ·have X7 := Lib.hid (X6.out.step h7 p7)
  have Q7 := Lib.hid o7
  clear h7 p7 o7
  unfold noneE
  go_wp2
  exact leave_no _ X7.out (by omega) (by rw [HOK.out, Q4.out, HREST.out, Q7.out] <;> simp) (by omega)
 have X7 := Lib.hid (X6.out.step h7 p7)
 have Q7 := Lib.hid o7
 have E7 := Lib.hid e7
 clear h7 p7 o7 e7 q0 q1 q2 q3 z0 z1 z2 z3
 have q0 := X7.out.blk.cell 0 (.int .i64 n.k) rfl
 have q1 := X7.out.blk.cell 1 (.string n.t) rfl
 have q2 := X7.out.blk.cell 2 (.int .i64 n.num) rfl
 have q3 := X7.out.blk.cell 3 (.slice (some ⟨bb, oo, none⟩) n.kids.length c) rfl
 go_wp2
 exact leave_yes _ X7.out (by omega) (by rw [HOK.out, Q4.out, HREST.out, Q7.out] <;> simp) (by rw [E7.out, E6.out, E2.out, HSH.out]; simp) (by omega)
theorem expr_32_0 (w0 : World) (p : Nat) (hE : Env w0) (n : Nd) (hk : Hid (n.k = 32)) (least : Int) (hl0 : 0 ≤ least) (hl4 : least ≤ 4) (HKK : Hid (sgnB n.num = 0)) (hl3 : ¬ 0 < least) (IH : ∀ m ∈ n.kids, EOk w0 p m) : E1 w0 p n least := by
 intro cs w ws hr hst hb
 obtain ⟨A, c, rfl, hR, hcap, hlm, hn64, hts⟩ := hr.four
 have HR := Lib.hid hR
 have hmany := many_eq n
 clear hr hR
 obtain ⟨ok, HK⟩ : ∃ b, Hid (okC 4 n = b) := ⟨_, rfl⟩
 rw [HK.out]
 obtain ⟨nw, HW⟩ : ∃ b, Hid (atW least (bindN n) (shw n) = b) := ⟨_, rfl⟩
 rw [HW.out]
 generalize hgm : 10 * many n - 3 = gm
 have hgm2 : 10 * manyL n.kids + 7 = gm := by omega
 have HGM := Lib.hid hgm
 clear hgm
 obtain ⟨rest, HRR⟩ : ∃ b, Hid (isNL n.k 0 n.kids.length n.kids = b) := ⟨_, rfl⟩
 have HOK : Hid (ok = (plainB n false true 2 2 && decide (0 ≤ sgnB n.num) && rest)) := by
  show _ = _
  rw [← HK.out, okC_of (by rw [hk.out]; rfl), isN_op hk.out, HRR.out]
 have b32 : (n.k == 32) = true := by rw [hk.out]; rfl
 have b28 : (n.k == 28) = false := by rw [hk.out]; rfl
 have b29 : (n.k == 29) = false := by rw [hk.out]; rfl
 have b24 : (n.k == 24) = false := by rw [hk.out]; rfl
 have b25 : (n.k == 25) = false := by rw [hk.out]; rfl
 have b23 : (n.k == 23) = false := by rw [hk.out]; rfl
 have b26 : (n.k == 26) = false := by rw [hk.out]; rfl
 have b27 : (n.k == 27) = false := by rw [hk.out]; rfl
 have b33 : (n.k == 33) = false := by rw [hk.out]; rfl
 have b30 : (n.k == 30) = false := by rw [hk.out]; rfl
 have b31 : (n.k == 31) = false := by rw [hk.out]; rfl
 have b34 : (n.k == 34) = false := by rw [hk.out]; rfl
 have X0 := Lib.hid (Bx.start n A c hst)
 have hlw := hst.2.lt
 clear hst
 have HBN : Hid (bindN n = 0) := by
  show _ = _
  unfold bindN bindK
  rw [hk.out]
  exact HKK.out
 have dl : decide ((0 : Int) < least) = false := by rw [decide_eq_false_iff_not]; omega
 have dl2 : ¬ (0 : Int) < least := by omega
 go_enter Tryz.func103, Tryz.ntmps103
 go_wp2_with fail
 refine (level_any n _ _ _).mono ?_
 rintro e w1 ⟨rfl, hb1⟩
 rw [HBN.out]
 have X1 := Lib.hid (X0.out.below hb1)
 clear hb1
 have q0 := X1.out.blk.cell 0 (.int .i64 n.k) rfl
 have q1 := X1.out.blk.cell 1 (.string n.t) rfl
 have q2 := X1.out.blk.cell 2 (.int .i64 n.num) rfl
 have q3 := X1.out.blk.cell 3 (.slice A n.kids.length c) rfl
 go_wp2_with fail
 refine (plain_any n _ _ _ _ _ _ _ (X1.out.st.env hE).ml).mono ?_
 rintro e w2 ⟨(⟨hq, rfl⟩ | ⟨hq, rfl⟩), hb2⟩
 rotate_left
 ·have X2 := Lib.hid (X1.out.below hb2)
  have Q2 := Lib.hid hq
  clear hq hb2
  unfold noneE
  go_wp2
  exact ⟨rfl, NOut.no X2.out.st X2.out.pk (by rw [HOK.out, Q2.out] <;> simp) (by omega)⟩
 have X2 := Lib.hid (X1.out.below hb2)
 have Q2 := Lib.hid hq
 clear hq hb2
 clear q0 q1 q2 q3 
 have q0 := X2.out.blk.cell 0 (.int .i64 n.k) rfl
 have q1 := X2.out.blk.cell 1 (.string n.t) rfl
 have q2 := X2.out.blk.cell 2 (.int .i64 n.num) rfl
 have q3 := X2.out.blk.cell 3 (.slice A n.kids.length c) rfl
 have Q2s : Hid (decide (0 ≤ sgnB n.num) = true) := by show _ = _; rw [HKK.out]; rfl
 go_wp2_with fail
 refine (psign_any _ _).mono ?_
 rintro e w' ⟨rfl, rfl⟩
 rw [HKK.out]
 obtain ⟨x, y, hkx⟩ := twoKids Q2.out
 obtain ⟨bb, oo, Ax, cx, hA, hbl, k0, k1, k2, k3, rx⟩ := first_kid HR.out (by rw [hkx]; rfl : n.kids[0]? = some x)
 obtain ⟨bb2, oo2, Ay, cy, hA2, hbl2, m0, m1, m2, m3, ry⟩ := first_kid HR.out (by rw [hkx]; rfl : n.kids[1]? = some y)
 obtain ⟨rfl, rfl⟩ : bb = bb2 ∧ oo = oo2 := by rw [hA] at hA2; simpa using hA2
 clear hA2 hbl2
 subst hA
 have RX := Lib.hid rx
 have RY := Lib.hid ry
 have hml : many x + many y = manyL n.kids := by rw [hkx]; simp [manyL]
 have hposx := many_pos x
 have hposy := many_pos y
 have hlen : n.kids.length = 2 := by rw [hkx]; rfl
 have hjp : 0 < n.kids.length := by omega
 have hjp1 : 1 < n.kids.length := by omega
 have hjp2 : (1 : Int) < (n.kids.length : Int) := by omega
 have HKX := Lib.hid hkx
 have HLEN := Lib.hid hlen
 have IHX := Lib.hid (IH x (by rw [hkx]; simp))
 have IHY := Lib.hid (IH y (by rw [hkx]; simp))
 have HREST : Hid (rest = (okC 4 x && okC 4 y)) := by
  show _ = _
  rw [← HRR.out, hk.out, isNL_okC (c := 4) _ _ (fun _ _ _ => rfl), HKX.out]
  simp
 clear rx ry hkx hlen IH
 have HSH : Hid (nw = atW 1 (bindN x) (shw x) ++ [sgnT n.num] ++ atW 1 (bindN y) (shw y)) := by
  show _ = _
  rw [← HW.out, HBN.out, atW_not _ (by omega), shw_eq, hk.out, HKX.out]
  show atW (max (sgnB n.num) 1) (bindN x) (shw x) ++ [sgnT n.num] ++ atW (sgnB n.num + 1) (bindN y) (shw y) = _
  rw [HKK.out]
  rfl
 go_wp2_with fail
 refine (must_yes _).mono ?_
 rintro e w' ⟨rfl, rfl⟩
 have bw := X2.out.st.1
 have z0 := (bw.cell (p := ⟨bb, oo + 0 * 4, none⟩) hbl).trans k0
 have z1 := (bw.cell (p := ⟨bb, oo + 0 * 4 + 1, none⟩) hbl).trans k1
 have z2 := (bw.cell (p := ⟨bb, oo + 0 * 4 + 2, none⟩) hbl).trans k2
 have z3 := (bw.cell (p := ⟨bb, oo + 0 * 4 + 3, none⟩) hbl).trans k3
 clear bw
 simp only [Nat.zero_mul, Nat.add_zero] at z0 z1 z2 z3
 go_wp2_with fail
 refine (IHX.out _ _ _ 1 (by omega) (by omega) RX.out X2.out.st (by omega)).mono ?_
 rintro e w3 ⟨ws3, h3, p3, L3, (⟨o3, rfl, e3⟩ | ⟨o3, rfl⟩)⟩
 rotate_left
 ·have X3 := Lib.hid (X2.out.step h3 p3)
  have Q3 := Lib.hid o3
  clear h3 p3 o3
  unfold noneE
  go_wp2
  exact ⟨rfl, NOut.no X3.out.st X3.out.pk (by rw [HOK.out, Q2.out, Q2s.out, HREST.out, Q3.out] <;> simp) (by omega)⟩
 have X3 := Lib.hid (X2.out.step h3 p3)
 have Q3 := Lib.hid o3
 have E3 := Lib.hid e3
 clear h3 p3 o3 e3 q0 q1 q2 q3 z0 z1 z2 z3
 have q0 := X3.out.blk.cell 0 (.int .i64 n.k) rfl
 have q1 := X3.out.blk.cell 1 (.string n.t) rfl
 have q2 := X3.out.blk.cell 2 (.int .i64 n.num) rfl
 have q3 := X3.out.blk.cell 3 (.slice (some ⟨bb, oo, none⟩) n.kids.length c) rfl
 go_wp2_with fail
 refine (psay1 _ X3.out.st (by omega)).mono ?_
 rintro e w4 ⟨rfl, h4, p4⟩
 obtain ⟨ws4, e4⟩ : ∃ l : List ByteArray, l = ws3 ++ [sgnT n.num] := ⟨_, rfl⟩
 rw [← e4] at h4
 have L4 : ws4.length = ws3.length + 1 := by rw [e4]; simp
 have E4 := Lib.hid e4
 have X4 := Lib.hid (X3.out.step h4 p4)
 clear e4 h4 p4 q0 q1 q2 q3 
 have q0 := X4.out.blk.cell 0 (.int .i64 n.k) rfl
 have q1 := X4.out.blk.cell 1 (.string n.t) rfl
 have q2 := X4.out.blk.cell 2 (.int .i64 n.num) rfl
 have q3 := X4.out.blk.cell 3 (.slice (some ⟨bb, oo, none⟩) n.kids.length c) rfl
 have bw := X4.out.st.1
 have z0 := (bw.cell (p := ⟨bb, oo + 1 * 4, none⟩) hbl).trans m0
 have z1 := (bw.cell (p := ⟨bb, oo + 1 * 4 + 1, none⟩) hbl).trans m1
 have z2 := (bw.cell (p := ⟨bb, oo + 1 * 4 + 2, none⟩) hbl).trans m2
 have z3 := (bw.cell (p := ⟨bb, oo + 1 * 4 + 3, none⟩) hbl).trans m3
 clear bw
 simp only [Nat.one_mul] at z0 z1 z2 z3
 go_wp2_with fail
 refine (IHY.out _ _ _ 1 (by omega) (by omega) RY.out X4.out.st (by omega)).mono ?_
 rintro e w5 ⟨ws5, h5, p5, L5, (⟨o5, rfl, e5⟩ | ⟨o5, rfl⟩)⟩
 rotate_left
 ·have X5 := Lib.hid (X4.out.step h5 p5)
  have Q5 := Lib.hid o5
  clear h5 p5 o5
  unfold noneE
  go_wp2
  exact ⟨rfl, NOut.no X5.out.st X5.out.pk (by rw [HOK.out, Q2.out, Q2s.out, HREST.out, Q3.out, Q5.out] <;> simp) (by omega)⟩
 have X5 := Lib.hid (X4.out.step h5 p5)
 have Q5 := Lib.hid o5
 have E5 := Lib.hid e5
 clear h5 p5 o5 e5 q0 q1 q2 q3 z0 z1 z2 z3
 have q0 := X5.out.blk.cell 0 (.int .i64 n.k) rfl
 have q1 := X5.out.blk.cell 1 (.string n.t) rfl
 have q2 := X5.out.blk.cell 2 (.int .i64 n.num) rfl
 have q3 := X5.out.blk.cell 3 (.slice (some ⟨bb, oo, none⟩) n.kids.length c) rfl
 go_wp2
 go_end0
 exact NOut.yes2 X5.out.st X5.out.pk (by rw [HOK.out, Q2.out, Q2s.out, HREST.out, Q3.out, Q5.out] <;> simp) (by rw [E5.out, E4.out, E3.out, HSH.out]; simp) (by omega)
theorem expr_32_0d (w0 : World) (p : Nat) (hE : Env w0) (n : Nd) (hk : Hid (n.k = 32)) (least : Int) (hl0 : 0 ≤ least) (hl4 : least ≤ 4) (HKK : Hid (sgnB n.num = 0)) (hl3 : 0 < least) (IH : ∀ m ∈ n.kids, EOk w0 p m) : E1 w0 p n least := by
 intro cs w ws hr hst hb
 obtain ⟨A, c, rfl, hR, hcap, hlm, hn64, hts⟩ := hr.four
 have HR := Lib.hid hR
 have hmany := many_eq n
 clear hr hR
 obtain ⟨ok, HK⟩ : ∃ b, Hid (okC 4 n = b) := ⟨_, rfl⟩
 rw [HK.out]
 obtain ⟨nw, HW⟩ : ∃ b, Hid (atW least (bindN n) (shw n) = b) := ⟨_, rfl⟩
 rw [HW.out]
 generalize hgm : 10 * many n - 3 = gm
 have hgm2 : 10 * manyL n.kids + 7 = gm := by omega
 have HGM := Lib.hid hgm
 clear hgm
 obtain ⟨rest, HRR⟩ : ∃ b, Hid (isNL n.k 0 n.kids.length n.kids = b) := ⟨_, rfl⟩
 have HOK : Hid (ok = (plainB n false true 2 2 && decide (0 ≤ sgnB n.num) && rest)) := by
  show _ = _
  rw [← HK.out, okC_of (by rw [hk.out]; rfl), isN_op hk.out, HRR.out]
 have b32 : (n.k == 32) = true := by rw [hk.out]; rfl
 have b28 : (n.k == 28) = false := by rw [hk.out]; rfl
 have b29 : (n.k == 29) = false := by rw [hk.out]; rfl
 have b24 : (n.k == 24) = false := by rw [hk.out]; rfl
 have b25 : (n.k == 25) = false := by rw [hk.out]; rfl
 have b23 : (n.k == 23) = false := by rw [hk.out]; rfl
 have b26 : (n.k == 26) = false := by rw [hk.out]; rfl
 have b27 : (n.k == 27) = false := by rw [hk.out]; rfl
 have b33 : (n.k == 33) = false := by rw [hk.out]; rfl
 have b30 : (n.k == 30) = false := by rw [hk.out]; rfl
 have b31 : (n.k == 31) = false := by rw [hk.out]; rfl
 have b34 : (n.k == 34) = false := by rw [hk.out]; rfl
 have X0 := Lib.hid (Bx.start n A c hst)
 have hlw := hst.2.lt
 clear hst
 have HBN : Hid (bindN n = 0) := by
  show _ = _
  unfold bindN bindK
  rw [hk.out]
  exact HKK.out
 have dl : decide ((0 : Int) < least) = true := by rw [decide_eq_true_eq]; omega
 have dl2 : (0 : Int) < least := by omega
 go_enter_defers Tryz.func103, Tryz.ntmps103
 go_wp2_with fail
 refine (level_any n _ _ _).mono ?_
 rintro e w1 ⟨rfl, hb1⟩
 rw [HBN.out]
 have X1 := Lib.hid (X0.out.below hb1)
 clear hb1
 have q0 := X1.out.blk.cell 0 (.int .i64 n.k) rfl
 have q1 := X1.out.blk.cell 1 (.string n.t) rfl
 have q2 := X1.out.blk.cell 2 (.int .i64 n.num) rfl
 have q3 := X1.out.blk.cell 3 (.slice A n.kids.length c) rfl
 go_wp2_with fail
 refine (psay1 _ X1.out.st (by omega)).mono ?_
 rintro e w2 ⟨rfl, h2, p2⟩
 obtain ⟨ws2, e2⟩ : ∃ l : List ByteArray, l = ws ++ [⟨#[40]⟩] := ⟨_, rfl⟩
 rw [← e2] at h2
 have L2 : ws2.length = ws.length + 1 := by rw [e2]; simp
 have E2 := Lib.hid e2
 have X2 := Lib.hid (X1.out.step h2 p2)
 clear e2 h2 p2 q0 q1 q2 q3 
 have q0 := X2.out.blk.cell 0 (.int .i64 n.k) rfl
 have q1 := X2.out.blk.cell 1 (.string n.t) rfl
 have q2 := X2.out.blk.cell 2 (.int .i64 n.num) rfl
 have q3 := X2.out.blk.cell 3 (.slice A n.kids.length c) rfl
 have X3 := Lib.hid (Dx.of X2.out)
 clear q0 q1 q2 q3
 have q0 := X3.out.blk.cell 0 (.int .i64 n.k) rfl
 have q1 := X3.out.blk.cell 1 (.string n.t) rfl
 have q2 := X3.out.blk.cell 2 (.int .i64 n.num) rfl
 have q3 := X3.out.blk.cell 3 (.slice A n.kids.length c) rfl
 go_wp2_with fail
 refine (plain_any n _ _ _ _ _ _ _ (X3.out.st.env hE).ml).mono ?_
 rintro e w4 ⟨(⟨hq, rfl⟩ | ⟨hq, rfl⟩), hb4⟩
 rotate_left
 ·have X4 := Lib.hid (X3.out.below hb4)
  have Q4 := Lib.hid hq
  clear hq hb4
  unfold noneE
  go_wp2
  exact leave_no _ X4.out (by omega) (by rw [HOK.out, Q4.out] <;> simp) (by omega)
 have X4 := Lib.hid (X3.out.below hb4)
 have Q4 := Lib.hid hq
 clear hq hb4
 clear q0 q1 q2 q3 
 have q0 := X4.out.blk.cell 0 (.int .i64 n.k) rfl
 have q1 := X4.out.blk.cell 1 (.string n.t) rfl
 have q2 := X4.out.blk.cell 2 (.int .i64 n.num) rfl
 have q3 := X4.out.blk.cell 3 (.slice A n.kids.length c) rfl
 have Q4s : Hid (decide (0 ≤ sgnB n.num) = true) := by show _ = _; rw [HKK.out]; rfl
 go_wp2_with fail
 refine (psign_any _ _).mono ?_
 rintro e w' ⟨rfl, rfl⟩
 rw [HKK.out]
 obtain ⟨x, y, hkx⟩ := twoKids Q4.out
 obtain ⟨bb, oo, Ax, cx, hA, hbl, k0, k1, k2, k3, rx⟩ := first_kid HR.out (by rw [hkx]; rfl : n.kids[0]? = some x)
 obtain ⟨bb2, oo2, Ay, cy, hA2, hbl2, m0, m1, m2, m3, ry⟩ := first_kid HR.out (by rw [hkx]; rfl : n.kids[1]? = some y)
 obtain ⟨rfl, rfl⟩ : bb = bb2 ∧ oo = oo2 := by rw [hA] at hA2; simpa using hA2
 clear hA2 hbl2
 subst hA
 have RX := Lib.hid rx
 have RY := Lib.hid ry
 have hml : many x + many y = manyL n.kids := by rw [hkx]; simp [manyL]
 have hposx := many_pos x
 have hposy := many_pos y
 have hlen : n.kids.length = 2 := by rw [hkx]; rfl
 have hjp : 0 < n.kids.length := by omega
 have hjp1 : 1 < n.kids.length := by omega
 have hjp2 : (1 : Int) < (n.kids.length : Int) := by omega
 have HKX := Lib.hid hkx
 have HLEN := Lib.hid hlen
 have IHX := Lib.hid (IH x (by rw [hkx]; simp))
 have IHY := Lib.hid (IH y (by rw [hkx]; simp))
 have HREST : Hid (rest = (okC 4 x && okC 4 y)) := by
  show _ = _
  rw [← HRR.out, hk.out, isNL_okC (c := 4) _ _ (fun _ _ _ => rfl), HKX.out]
  simp
 clear rx ry hkx hlen IH
 have HSH : Hid (nw = ⟨#[40]⟩ :: ((atW 1 (bindN x) (shw x) ++ [sgnT n.num] ++ atW 1 (bindN y) (shw y)) ++ [⟨#[41]⟩])) := by
  show _ = _
  rw [← HW.out, HBN.out, atW_yes _ (by omega), shw_eq, hk.out, HKX.out]
  show ⟨#[40]⟩ :: ((atW (max (sgnB n.num) 1) (bindN x) (shw x) ++ [sgnT n.num] ++ atW (sgnB n.num + 1) (bindN y) (shw y)) ++ [⟨#[41]⟩]) = _
  rw [HKK.out]
  rfl
 go_wp2_with fail
 refine (must_yes _).mono ?_
 rintro e w' ⟨rfl, rfl⟩
 have bw := X4.out.st.1
 have z0 := (bw.cell (p := ⟨bb, oo + 0 * 4, none⟩) hbl).trans k0
 have z1 := (bw.cell (p := ⟨bb, oo + 0 * 4 + 1, none⟩) hbl).trans k1
 have z2 := (bw.cell (p := ⟨bb, oo + 0 * 4 + 2, none⟩) hbl).trans k2
 have z3 := (bw.cell (p := ⟨bb, oo + 0 * 4 + 3, none⟩) hbl).trans k3
 clear bw
 simp only [Nat.zero_mul, Nat.add_zero] at z0 z1 z2 z3
 go_wp2_with fail
 refine (IHX.out _ _ _ 1 (by omega) (by omega) RX.out X4.out.st (by omega)).mono ?_
 rintro e w5 ⟨ws5, h5, p5, L5, (⟨o5, rfl, e5⟩ | ⟨o5, rfl⟩)⟩
 rotate_left
 ·have X5 := Lib.hid (X4.out.step h5 p5)
  have Q5 := Lib.hid o5
  clear h5 p5 o5
  unfold noneE
  go_wp2
  exact leave_no _ X5.out (by omega) (by rw [HOK.out, Q4.out, Q4s.out, HREST.out, Q5.out] <;> simp) (by omega)
 have X5 := Lib.hid (X4.out.step h5 p5)
 have Q5 := Lib.hid o5
 have E5 := Lib.hid e5
 clear h5 p5 o5 e5 q0 q1 q2 q3 z0 z1 z2 z3
 have q0 := X5.out.blk.cell 0 (.int .i64 n.k) rfl
 have q1 := X5.out.blk.cell 1 (.string n.t) rfl
 have q2 := X5.out.blk.cell 2 (.int .i64 n.num) rfl
 have q3 := X5.out.blk.cell 3 (.slice (some ⟨bb, oo, none⟩) n.kids.length c) rfl
 go_wp2_with fail
 refine (psay1 _ X5.out.st (by omega)).mono ?_
 rintro e w6 ⟨rfl, h6, p6⟩
 obtain ⟨ws6, e6⟩ : ∃ l : List ByteArray, l = ws5 ++ [sgnT n.num] := ⟨_, rfl⟩
 rw [← e6] at h6
 have L6 : ws6.length = ws5.length + 1 := by rw [e6]; simp
 have E6 := Lib.hid e6
 have X6 := Lib.hid (X5.out.step h6 p6)
 clear e6 h6 p6 q0 q1 q2 q3 
 have q0 := X6.out.blk.cell 0 (.int .i64 n.k) rfl
 have q1 := X6.out.blk.cell 1 (.string n.t) rfl
 have q2 := X6.out.blk.cell 2 (.int .i64 n.num) rfl
 have q3 := X6.out.blk.cell 3 (.slice (some ⟨bb, oo, none⟩) n.kids.length c) rfl
 have bw := X6.out.st.1
 have z0 := (bw.cell (p := ⟨bb, oo + 1 * 4, none⟩) hbl).trans m0
 have z1 := (bw.cell (p := ⟨bb, oo + 1 * 4 + 1, none⟩) hbl).trans m1
 have z2 := (bw.cell (p := ⟨bb, oo + 1 * 4 + 2, none⟩) hbl).trans m2
 have z3 := (bw.cell (p := ⟨bb, oo + 1 * 4 + 3, none⟩) hbl).trans m3
 clear bw
 simp only [Nat.one_mul] at z0 z1 z2 z3
 go_wp2_with fail
 refine (IHY.out _ _ _ 1 (by omega) (by omega) RY.out X6.out.st (by omega)).mono ?_
 rintro e w7 ⟨ws7, h7, p7, L7, (⟨o7, rfl, e7⟩ | ⟨o7, rfl⟩)⟩
 rotate_left
 ·have X7 := Lib.hid (X6.out.step h7 p7)
  have Q7 := Lib.hid o7
  clear h7 p7 o7
  unfold noneE
  go_wp2
  exact leave_no _ X7.out (by omega) (by rw [HOK.out, Q4.out, Q4s.out, HREST.out, Q5.out, Q7.out] <;> simp) (by omega)
 have X7 := Lib.hid (X6.out.step h7 p7)
 have Q7 := Lib.hid o7
 have E7 := Lib.hid e7
 clear h7 p7 o7 e7 q0 q1 q2 q3 z0 z1 z2 z3
 have q0 := X7.out.blk.cell 0 (.int .i64 n.k) rfl
 have q1 := X7.out.blk.cell 1 (.string n.t) rfl
 have q2 := X7.out.blk.cell 2 (.int .i64 n.num) rfl
 have q3 := X7.out.blk.cell 3 (.slice (some ⟨bb, oo, none⟩) n.kids.length c) rfl
 go_wp2
 exact leave_yes _ X7.out (by omega) (by rw [HOK.out, Q4.out, Q4s.out, HREST.out, Q5.out, Q7.out] <;> simp) (by rw [E7.out, E6.out, E5.out, E2.out, HSH.out]; simp) (by omega)
theorem expr_32_1 (w0 : World) (p : Nat) (hE : Env w0) (n : Nd) (hk : Hid (n.k = 32)) (least : Int) (hl0 : 0 ≤ least) (hl4 : least ≤ 4) (HKK : Hid (sgnB n.num = 1)) (hl3 : ¬ 1 < least) (IH : ∀ m ∈ n.kids, EOk w0 p m) : E1 w0 p n least := by
 intro cs w ws hr hst hb
 obtain ⟨A, c, rfl, hR, hcap, hlm, hn64, hts⟩ := hr.four
 have HR := Lib.hid hR
 have hmany := many_eq n
 clear hr hR
 obtain ⟨ok, HK⟩ : ∃ b, Hid (okC 4 n = b) := ⟨_, rfl⟩
 rw [HK.out]
 obtain ⟨nw, HW⟩ : ∃ b, Hid (atW least (bindN n) (shw n) = b) := ⟨_, rfl⟩
 rw [HW.out]
 generalize hgm : 10 * many n - 3 = gm
 have hgm2 : 10 * manyL n.kids + 7 = gm := by omega
 have HGM := Lib.hid hgm
 clear hgm
 obtain ⟨rest, HRR⟩ : ∃ b, Hid (isNL n.k 0 n.kids.length n.kids = b) := ⟨_, rfl⟩
 have HOK : Hid (ok = (plainB n false true 2 2 && decide (0 ≤ sgnB n.num) && rest)) := by
  show _ = _
  rw [← HK.out, okC_of (by rw [hk.out]; rfl), isN_op hk.out, HRR.out]
 have b32 : (n.k == 32) = true := by rw [hk.out]; rfl
 have b28 : (n.k == 28) = false := by rw [hk.out]; rfl
 have b29 : (n.k == 29) = false := by rw [hk.out]; rfl
 have b24 : (n.k == 24) = false := by rw [hk.out]; rfl
 have b25 : (n.k == 25) = false := by rw [hk.out]; rfl
 have b23 : (n.k == 23) = false := by rw [hk.out]; rfl
 have b26 : (n.k == 26) = false := by rw [hk.out]; rfl
 have b27 : (n.k == 27) = false := by rw [hk.out]; rfl
 have b33 : (n.k == 33) = false := by rw [hk.out]; rfl
 have b30 : (n.k == 30) = false := by rw [hk.out]; rfl
 have b31 : (n.k == 31) = false := by rw [hk.out]; rfl
 have b34 : (n.k == 34) = false := by rw [hk.out]; rfl
 have X0 := Lib.hid (Bx.start n A c hst)
 have hlw := hst.2.lt
 clear hst
 have HBN : Hid (bindN n = 1) := by
  show _ = _
  unfold bindN bindK
  rw [hk.out]
  exact HKK.out
 have dl : decide ((1 : Int) < least) = false := by rw [decide_eq_false_iff_not]; omega
 have dl2 : ¬ (1 : Int) < least := by omega
 go_enter Tryz.func103, Tryz.ntmps103
 go_wp2_with fail
 refine (level_any n _ _ _).mono ?_
 rintro e w1 ⟨rfl, hb1⟩
 rw [HBN.out]
 have X1 := Lib.hid (X0.out.below hb1)
 clear hb1
 have q0 := X1.out.blk.cell 0 (.int .i64 n.k) rfl
 have q1 := X1.out.blk.cell 1 (.string n.t) rfl
 have q2 := X1.out.blk.cell 2 (.int .i64 n.num) rfl
 have q3 := X1.out.blk.cell 3 (.slice A n.kids.length c) rfl
 go_wp2_with fail
 refine (plain_any n _ _ _ _ _ _ _ (X1.out.st.env hE).ml).mono ?_
 rintro e w2 ⟨(⟨hq, rfl⟩ | ⟨hq, rfl⟩), hb2⟩
 rotate_left
 ·have X2 := Lib.hid (X1.out.below hb2)
  have Q2 := Lib.hid hq
  clear hq hb2
  unfold noneE
  go_wp2
  exact ⟨rfl, NOut.no X2.out.st X2.out.pk (by rw [HOK.out, Q2.out] <;> simp) (by omega)⟩
 have X2 := Lib.hid (X1.out.below hb2)
 have Q2 := Lib.hid hq
 clear hq hb2
 clear q0 q1 q2 q3 
 have q0 := X2.out.blk.cell 0 (.int .i64 n.k) rfl
 have q1 := X2.out.blk.cell 1 (.string n.t) rfl
 have q2 := X2.out.blk.cell 2 (.int .i64 n.num) rfl
 have q3 := X2.out.blk.cell 3 (.slice A n.kids.length c) rfl
 have Q2s : Hid (decide (0 ≤ sgnB n.num) = true) := by show _ = _; rw [HKK.out]; rfl
 go_wp2_with fail
 refine (psign_any _ _).mono ?_
 rintro e w' ⟨rfl, rfl⟩
 rw [HKK.out]
 obtain ⟨x, y, hkx⟩ := twoKids Q2.out
 obtain ⟨bb, oo, Ax, cx, hA, hbl, k0, k1, k2, k3, rx⟩ := first_kid HR.out (by rw [hkx]; rfl : n.kids[0]? = some x)
 obtain ⟨bb2, oo2, Ay, cy, hA2, hbl2, m0, m1, m2, m3, ry⟩ := first_kid HR.out (by rw [hkx]; rfl : n.kids[1]? = some y)
 obtain ⟨rfl, rfl⟩ : bb = bb2 ∧ oo = oo2 := by rw [hA] at hA2; simpa using hA2
 clear hA2 hbl2
 subst hA
 have RX := Lib.hid rx
 have RY := Lib.hid ry
 have hml : many x + many y = manyL n.kids := by rw [hkx]; simp [manyL]
 have hposx := many_pos x
 have hposy := many_pos y
 have hlen : n.kids.length = 2 := by rw [hkx]; rfl
 have hjp : 0 < n.kids.length := by omega
 have hjp1 : 1 < n.kids.length := by omega
 have hjp2 : (1 : Int) < (n.kids.length : Int) := by omega
 have HKX := Lib.hid hkx
 have HLEN := Lib.hid hlen
 have IHX := Lib.hid (IH x (by rw [hkx]; simp))
 have IHY := Lib.hid (IH y (by rw [hkx]; simp))
 have HREST : Hid (rest = (okC 4 x && okC 4 y)) := by
  show _ = _
  rw [← HRR.out, hk.out, isNL_okC (c := 4) _ _ (fun _ _ _ => rfl), HKX.out]
  simp
 clear rx ry hkx hlen IH
 have HSH : Hid (nw = atW 1 (bindN x) (shw x) ++ [sgnT n.num] ++ atW 2 (bindN y) (shw y)) := by
  show _ = _
  rw [← HW.out, HBN.out, atW_not _ (by omega), shw_eq, hk.out, HKX.out]
  show atW (max (sgnB n.num) 1) (bindN x) (shw x) ++ [sgnT n.num] ++ atW (sgnB n.num + 1) (bindN y) (shw y) = _
  rw [HKK.out]
  rfl
 go_wp2_with fail
 refine (must_yes _).mono ?_
 rintro e w' ⟨rfl, rfl⟩
 have bw := X2.out.st.1
 have z0 := (bw.cell (p := ⟨bb, oo + 0 * 4, none⟩) hbl).trans k0
 have z1 := (bw.cell (p := ⟨bb, oo + 0 * 4 + 1, none⟩) hbl).trans k1
 have z2 := (bw.cell (p := ⟨bb, oo + 0 * 4 + 2, none⟩) hbl).trans k2
 have z3 := (bw.cell (p := ⟨bb, oo + 0 * 4 + 3, none⟩) hbl).trans k3
 clear bw
 simp only [Nat.zero_mul, Nat.add_zero] at z0 z1 z2 z3
 go_wp2_with fail
 refine (IHX.out _ _ _ 1 (by omega) (by omega) RX.out X2.out.st (by omega)).mono ?_
 rintro e w3 ⟨ws3, h3, p3, L3, (⟨o3, rfl, e3⟩ | ⟨o3, rfl⟩)⟩
 rotate_left
 ·have X3 := Lib.hid (X2.out.step h3 p3)
  have Q3 := Lib.hid o3
  clear h3 p3 o3
  unfold noneE
  go_wp2
  exact ⟨rfl, NOut.no X3.out.st X3.out.pk (by rw [HOK.out, Q2.out, Q2s.out, HREST.out, Q3.out] <;> simp) (by omega)⟩
 have X3 := Lib.hid (X2.out.step h3 p3)
 have Q3 := Lib.hid o3
 have E3 := Lib.hid e3
 clear h3 p3 o3 e3 q0 q1 q2 q3 z0 z1 z2 z3
 have q0 := X3.out.blk.cell 0 (.int .i64 n.k) rfl
 have q1 := X3.out.blk.cell 1 (.string n.t) rfl
 have q2 := X3.out.blk.cell 2 (.int .i64 n.num) rfl
 have q3 := X3.out.blk.cell 3 (.slice (some ⟨bb, oo, none⟩) n.kids.length c) rfl
 go_wp2_with fail
 refine (psay1 _ X3.out.st (by omega)).mono ?_
 rintro e w4 ⟨rfl, h4, p4⟩
 obtain ⟨ws4, e4⟩ : ∃ l : List ByteArray, l = ws3 ++ [sgnT n.num] := ⟨_, rfl⟩
 rw [← e4] at h4
 have L4 : ws4.length = ws3.length + 1 := by rw [e4]; simp
 have E4 := Lib.hid e4
 have X4 := Lib.hid (X3.out.step h4 p4)
 clear e4 h4 p4 q0 q1 q2 q3 
 have q0 := X4.out.blk.cell 0 (.int .i64 n.k) rfl
 have q1 := X4.out.blk.cell 1 (.string n.t) rfl
 have q2 := X4.out.blk.cell 2 (.int .i64 n.num) rfl
 have q3 := X4.out.blk.cell 3 (.slice (some ⟨bb, oo, none⟩) n.kids.length c) rfl
 have bw := X4.out.st.1
 have z0 := (bw.cell (p := ⟨bb, oo + 1 * 4, none⟩) hbl).trans m0
 have z1 := (bw.cell (p := ⟨bb, oo + 1 * 4 + 1, none⟩) hbl).trans m1
 have z2 := (bw.cell (p := ⟨bb, oo + 1 * 4 + 2, none⟩) hbl).trans m2
 have z3 := (bw.cell (p := ⟨bb, oo + 1 * 4 + 3, none⟩) hbl).trans m3
 clear bw
 simp only [Nat.one_mul] at z0 z1 z2 z3
 go_wp2_with fail
 refine (IHY.out _ _ _ 2 (by omega) (by omega) RY.out X4.out.st (by omega)).mono ?_
 rintro e w5 ⟨ws5, h5, p5, L5, (⟨o5, rfl, e5⟩ | ⟨o5, rfl⟩)⟩
 rotate_left
 ·have X5 := Lib.hid (X4.out.step h5 p5)
  have Q5 := Lib.hid o5
  clear h5 p5 o5
  unfold noneE
  go_wp2
  exact ⟨rfl, NOut.no X5.out.st X5.out.pk (by rw [HOK.out, Q2.out, Q2s.out, HREST.out, Q3.out, Q5.out] <;> simp) (by omega)⟩
 have X5 := Lib.hid (X4.out.step h5 p5)
 have Q5 := Lib.hid o5
 have E5 := Lib.hid e5
 clear h5 p5 o5 e5 q0 q1 q2 q3 z0 z1 z2 z3
 have q0 := X5.out.blk.cell 0 (.int .i64 n.k) rfl
 have q1 := X5.out.blk.cell 1 (.string n.t) rfl
 have q2 := X5.out.blk.cell 2 (.int .i64 n.num) rfl
 have q3 := X5.out.blk.cell 3 (.slice (some ⟨bb, oo, none⟩) n.kids.length c) rfl
 go_wp2
 go_end0
 exact NOut.yes2 X5.out.st X5.out.pk (by rw [HOK.out, Q2.out, Q2s.out, HREST.out, Q3.out, Q5.out] <;> simp) (by rw [E5.out, E4.out, E3.out, HSH.out]; simp) (by omega)
theorem expr_32_1d (w0 : World) (p : Nat) (hE : Env w0) (n : Nd) (hk : Hid (n.k = 32)) (least : Int) (hl0 : 0 ≤ least) (hl4 : least ≤ 4) (HKK : Hid (sgnB n.num = 1)) (hl3 : 1 < least) (IH : ∀ m ∈ n.kids, EOk w0 p m) : E1 w0 p n least := by
 intro cs w ws hr hst hb
 obtain ⟨A, c, rfl, hR, hcap, hlm, hn64, hts⟩ := hr.four
 have HR := Lib.hid hR
 have hmany := many_eq n
 clear hr hR
 obtain ⟨ok, HK⟩ : ∃ b, Hid (okC 4 n = b) := ⟨_, rfl⟩
 rw [HK.out]
 obtain ⟨nw, HW⟩ : ∃ b, Hid (atW least (bindN n) (shw n) = b) := ⟨_, rfl⟩
 rw [HW.out]
 generalize hgm : 10 * many n - 3 = gm
 have hgm2 : 10 * manyL n.kids + 7 = gm := by omega
 have HGM := Lib.hid hgm
 clear hgm
 obtain ⟨rest, HRR⟩ : ∃ b, Hid (isNL n.k 0 n.kids.length n.kids = b) := ⟨_, rfl⟩
 have HOK : Hid (ok = (plainB n false true 2 2 && decide (0 ≤ sgnB n.num) && rest)) := by
  show _ = _
  rw [← HK.out, okC_of (by rw [hk.out]; rfl), isN_op hk.out, HRR.out]
 have b32 : (n.k == 32) = true := by rw [hk.out]; rfl
 have b28 : (n.k == 28) = false := by rw [hk.out]; rfl
 have b29 : (n.k == 29) = false := by rw [hk.out]; rfl
 have b24 : (n.k == 24) = false := by rw [hk.out]; rfl
 have b25 : (n.k == 25) = false := by rw [hk.out]; rfl
 have b23 : (n.k == 23) = false := by rw [hk.out]; rfl
 have b26 : (n.k == 26) = false := by rw [hk.out]; rfl
 have b27 : (n.k == 27) = false := by rw [hk.out]; rfl
 have b33 : (n.k == 33) = false := by rw [hk.out]; rfl
 have b30 : (n.k == 30) = false := by rw [hk.out]; rfl
 have b31 : (n.k == 31) = false := by rw [hk.out]; rfl
 have b34 : (n.k == 34) = false := by rw [hk.out]; rfl
 have X0 := Lib.hid (Bx.start n A c hst)
 have hlw := hst.2.lt
 clear hst
 have HBN : Hid (bindN n = 1) := by
  show _ = _
  unfold bindN bindK
  rw [hk.out]
  exact HKK.out
 have dl : decide ((1 : Int) < least) = true := by rw [decide_eq_true_eq]; omega
 have dl2 : (1 : Int) < least := by omega
 go_enter_defers Tryz.func103, Tryz.ntmps103
 go_wp2_with fail
 refine (level_any n _ _ _).mono ?_
 rintro e w1 ⟨rfl, hb1⟩
 rw [HBN.out]
 have X1 := Lib.hid (X0.out.below hb1)
 clear hb1
 have q0 := X1.out.blk.cell 0 (.int .i64 n.k) rfl
 have q1 := X1.out.blk.cell 1 (.string n.t) rfl
 have q2 := X1.out.blk.cell 2 (.int .i64 n.num) rfl
 have q3 := X1.out.blk.cell 3 (.slice A n.kids.length c) rfl
 go_wp2_with fail
 refine (psay1 _ X1.out.st (by omega)).mono ?_
 rintro e w2 ⟨rfl, h2, p2⟩
 obtain ⟨ws2, e2⟩ : ∃ l : List ByteArray, l = ws ++ [⟨#[40]⟩] := ⟨_, rfl⟩
 rw [← e2] at h2
 have L2 : ws2.length = ws.length + 1 := by rw [e2]; simp
 have E2 := Lib.hid e2
 have X2 := Lib.hid (X1.out.step h2 p2)
 clear e2 h2 p2 q0 q1 q2 q3 
 have q0 := X2.out.blk.cell 0 (.int .i64 n.k) rfl
 have q1 := X2.out.blk.cell 1 (.string n.t) rfl
 have q2 := X2.out.blk.cell 2 (.int .i64 n.num) rfl
 have q3 := X2.out.blk.cell 3 (.slice A n.kids.length c) rfl
 have X3 := Lib.hid (Dx.of X2.out)
 clear q0 q1 q2 q3
 have q0 := X3.out.blk.cell 0 (.int .i64 n.k) rfl
 have q1 := X3.out.blk.cell 1 (.string n.t) rfl
 have q2 := X3.out.blk.cell 2 (.int .i64 n.num) rfl
 have q3 := X3.out.blk.cell 3 (.slice A n.kids.length c) rfl
 go_wp2_with fail
 refine (plain_any n _ _ _ _ _ _ _ (X3.out.st.env hE).ml).mono ?_
 rintro e w4 ⟨(⟨hq, rfl⟩ | ⟨hq, rfl⟩), hb4⟩
 rotate_left
 ·have X4 := Lib.hid (X3.out.below hb4)
  have Q4 := Lib.hid hq
  clear hq hb4
  unfold noneE
  go_wp2
  exact leave_no _ X4.out (by omega) (by rw [HOK.out, Q4.out] <;> simp) (by omega)
 have X4 := Lib.hid (X3.out.below hb4)
 have Q4 := Lib.hid hq
 clear hq hb4
 clear q0 q1 q2 q3 
 have q0 := X4.out.blk.cell 0 (.int .i64 n.k) rfl
 have q1 := X4.out.blk.cell 1 (.string n.t) rfl
 have q2 := X4.out.blk.cell 2 (.int .i64 n.num) rfl
 have q3 := X4.out.blk.cell 3 (.slice A n.kids.length c) rfl
 have Q4s : Hid (decide (0 ≤ sgnB n.num) = true) := by show _ = _; rw [HKK.out]; rfl
 go_wp2_with fail
 refine (psign_any _ _).mono ?_
 rintro e w' ⟨rfl, rfl⟩
 rw [HKK.out]
 obtain ⟨x, y, hkx⟩ := twoKids Q4.out
 obtain ⟨bb, oo, Ax, cx, hA, hbl, k0, k1, k2, k3, rx⟩ := first_kid HR.out (by rw [hkx]; rfl : n.kids[0]? = some x)
 obtain ⟨bb2, oo2, Ay, cy, hA2, hbl2, m0, m1, m2, m3, ry⟩ := first_kid HR.out (by rw [hkx]; rfl : n.kids[1]? = some y)
 obtain ⟨rfl, rfl⟩ : bb = bb2 ∧ oo = oo2 := by rw [hA] at hA2; simpa using hA2
 clear hA2 hbl2
 subst hA
 have RX := Lib.hid rx
 have RY := Lib.hid ry
 have hml : many x + many y = manyL n.kids := by rw [hkx]; simp [manyL]
 have hposx := many_pos x
 have hposy := many_pos y
 have hlen : n.kids.length = 2 := by rw [hkx]; rfl
 have hjp : 0 < n.kids.length := by omega
 have hjp1 : 1 < n.kids.length := by omega
 have hjp2 : (1 : Int) < (n.kids.length : Int) := by omega
 have HKX := Lib.hid hkx
 have HLEN := Lib.hid hlen
 have IHX := Lib.hid (IH x (by rw [hkx]; simp))
 have IHY := Lib.hid (IH y (by rw [hkx]; simp))
 have HREST : Hid (rest = (okC 4 x && okC 4 y)) := by
  show _ = _
  rw [← HRR.out, hk.out, isNL_okC (c := 4) _ _ (fun _ _ _ => rfl), HKX.out]
  simp
 clear rx ry hkx hlen IH
 have HSH : Hid (nw = ⟨#[40]⟩ :: ((atW 1 (bindN x) (shw x) ++ [sgnT n.num] ++ atW 2 (bindN y) (shw y)) ++ [⟨#[41]⟩])) := by
  show _ = _
  rw [← HW.out, HBN.out, atW_yes _ (by omega), shw_eq, hk.out, HKX.out]
  show ⟨#[40]⟩ :: ((atW (max (sgnB n.num) 1) (bindN x) (shw x) ++ [sgnT n.num] ++ atW (sgnB n.num + 1) (bindN y) (shw y)) ++ [⟨#[41]⟩]) = _
  rw [HKK.out]
  rfl
 go_wp2_with fail
 refine (must_yes _).mono ?_
 rintro e w' ⟨rfl, rfl⟩
 have bw := X4.out.st.1
 have z0 := (bw.cell (p := ⟨bb, oo + 0 * 4, none⟩) hbl).trans k0
 have z1 := (bw.cell (p := ⟨bb, oo + 0 * 4 + 1, none⟩) hbl).trans k1
 have z2 := (bw.cell (p := ⟨bb, oo + 0 * 4 + 2, none⟩) hbl).trans k2
 have z3 := (bw.cell (p := ⟨bb, oo + 0 * 4 + 3, none⟩) hbl).trans k3
 clear bw
 simp only [Nat.zero_mul, Nat.add_zero] at z0 z1 z2 z3
 go_wp2_with fail
 refine (IHX.out _ _ _ 1 (by omega) (by omega) RX.out X4.out.st (by omega)).mono ?_
 rintro e w5 ⟨ws5, h5, p5, L5, (⟨o5, rfl, e5⟩ | ⟨o5, rfl⟩)⟩
 rotate_left
 ·have X5 := Lib.hid (X4.out.step h5 p5)
  have Q5 := Lib.hid o5
  clear h5 p5 o5
  unfold noneE
  go_wp2
  exact leave_no _ X5.out (by omega) (by rw [HOK.out, Q4.out, Q4s.out, HREST.out, Q5.out] <;> simp) (by omega)
 have X5 := Lib.hid (X4.out.step h5 p5)
 have Q5 := Lib.hid o5
 have E5 := Lib.hid e5
 clear h5 p5 o5 e5 q0 q1 q2 q3 z0 z1 z2 z3
 have q0 := X5.out.blk.cell 0 (.int .i64 n.k) rfl
 have q1 := X5.out.blk.cell 1 (.string n.t) rfl
 have q2 := X5.out.blk.cell 2 (.int .i64 n.num) rfl
 have q3 := X5.out.blk.cell 3 (.slice (some ⟨bb, oo, none⟩) n.kids.length c) rfl
 go_wp2_with fail
 refine (psay1 _ X5.out.st (by omega)).mono ?_
 rintro e w6 ⟨rfl, h6, p6⟩
 obtain ⟨ws6, e6⟩ : ∃ l : List ByteArray, l = ws5 ++ [sgnT n.num] := ⟨_, rfl⟩
 rw [← e6] at h6
 have L6 : ws6.length = ws5.length + 1 := by rw [e6]; simp
 have E6 := Lib.hid e6
 have X6 := Lib.hid (X5.out.step h6 p6)
 clear e6 h6 p6 q0 q1 q2 q3 
 have q0 := X6.out.blk.cell 0 (.int .i64 n.k) rfl
 have q1 := X6.out.blk.cell 1 (.string n.t) rfl
 have q2 := X6.out.blk.cell 2 (.int .i64 n.num) rfl
 have q3 := X6.out.blk.cell 3 (.slice (some ⟨bb, oo, none⟩) n.kids.length c) rfl
 have bw := X6.out.st.1
 have z0 := (bw.cell (p := ⟨bb, oo + 1 * 4, none⟩) hbl).trans m0
 have z1 := (bw.cell (p := ⟨bb, oo + 1 * 4 + 1, none⟩) hbl).trans m1
 have z2 := (bw.cell (p := ⟨bb, oo + 1 * 4 + 2, none⟩) hbl).trans m2
 have z3 := (bw.cell (p := ⟨bb, oo + 1 * 4 + 3, none⟩) hbl).trans m3
 clear bw
 simp only [Nat.one_mul] at z0 z1 z2 z3
 go_wp2_with fail
 refine (IHY.out _ _ _ 2 (by omega) (by omega) RY.out X6.out.st (by omega)).mono ?_
 rintro e w7 ⟨ws7, h7, p7, L7, (⟨o7, rfl, e7⟩ | ⟨o7, rfl⟩)⟩
 rotate_left
 ·have X7 := Lib.hid (X6.out.step h7 p7)
  have Q7 := Lib.hid o7
  clear h7 p7 o7
  unfold noneE
  go_wp2
  exact leave_no _ X7.out (by omega) (by rw [HOK.out, Q4.out, Q4s.out, HREST.out, Q5.out, Q7.out] <;> simp) (by omega)
 have X7 := Lib.hid (X6.out.step h7 p7)
 have Q7 := Lib.hid o7
 have E7 := Lib.hid e7
 clear h7 p7 o7 e7 q0 q1 q2 q3 z0 z1 z2 z3
 have q0 := X7.out.blk.cell 0 (.int .i64 n.k) rfl
 have q1 := X7.out.blk.cell 1 (.string n.t) rfl
 have q2 := X7.out.blk.cell 2 (.int .i64 n.num) rfl
 have q3 := X7.out.blk.cell 3 (.slice (some ⟨bb, oo, none⟩) n.kids.length c) rfl
 go_wp2
 exact leave_yes _ X7.out (by omega) (by rw [HOK.out, Q4.out, Q4s.out, HREST.out, Q5.out, Q7.out] <;> simp) (by rw [E7.out, E6.out, E5.out, E2.out, HSH.out]; simp) (by omega)
theorem expr_32_2 (w0 : World) (p : Nat) (hE : Env w0) (n : Nd) (hk : Hid (n.k = 32)) (least : Int) (hl0 : 0 ≤ least) (hl4 : least ≤ 4) (HKK : Hid (sgnB n.num = 2)) (hl3 : ¬ 2 < least) (IH : ∀ m ∈ n.kids, EOk w0 p m) : E1 w0 p n least := by
 intro cs w ws hr hst hb
 obtain ⟨A, c, rfl, hR, hcap, hlm, hn64, hts⟩ := hr.four
 have HR := Lib.hid hR
 have hmany := many_eq n
 clear hr hR
 obtain ⟨ok, HK⟩ : ∃ b, Hid (okC 4 n = b) := ⟨_, rfl⟩
 rw [HK.out]
 obtain ⟨nw, HW⟩ : ∃ b, Hid (atW least (bindN n) (shw n) = b) := ⟨_, rfl⟩
 rw [HW.out]
 generalize hgm : 10 * many n - 3 = gm
 have hgm2 : 10 * manyL n.kids + 7 = gm := by omega
 have HGM := Lib.hid hgm
 clear hgm
 obtain ⟨rest, HRR⟩ : ∃ b, Hid (isNL n.k 0 n.kids.length n.kids = b) := ⟨_, rfl⟩
 have HOK : Hid (ok = (plainB n false true 2 2 && decide (0 ≤ sgnB n.num) && rest)) := by
  show _ = _
  rw [← HK.out, okC_of (by rw [hk.out]; rfl), isN_op hk.out, HRR.out]
 have b32 : (n.k == 32) = true := by rw [hk.out]; rfl
 have b28 : (n.k == 28) = false := by rw [hk.out]; rfl
 have b29 : (n.k == 29) = false := by rw [hk.out]; rfl
 have b24 : (n.k == 24) = false := by rw [hk.out]; rfl
 have b25 : (n.k == 25) = false := by rw [hk.out]; rfl
 have b23 : (n.k == 23) = false := by rw [hk.out]; rfl
 have b26 : (n.k == 26) = false := by rw [hk.out]; rfl
 have b27 : (n.k == 27) = false := by rw [hk.out]; rfl
 have b33 : (n.k == 33) = false := by rw [hk.out]; rfl
 have b30 : (n.k == 30) = false := by rw [hk.out]; rfl
 have b31 : (n.k == 31) = false := by rw [hk.out]; rfl
 have b34 : (n.k == 34) = false := by rw [hk.out]; rfl
 have X0 := Lib.hid (Bx.start n A c hst)
 have hlw := hst.2.lt
 clear hst
 have HBN : Hid (bindN n = 2) := by
  show _ = _
  unfold bindN bindK
  rw [hk.out]
  exact HKK.out
 have dl : decide ((2 : Int) < least) = false := by rw [decide_eq_false_iff_not]; omega
 have dl2 : ¬ (2 : Int) < least := by omega
 go_enter Tryz.func103, Tryz.ntmps103
 go_wp2_with fail
 refine (level_any n _ _ _).mono ?_
 rintro e w1 ⟨rfl, hb1⟩
 rw [HBN.out]
 have X1 := Lib.hid (X0.out.below hb1)
 clear hb1
 have q0 := X1.out.blk.cell 0 (.int .i64 n.k) rfl
 have q1 := X1.out.blk.cell 1 (.string n.t) rfl
 have q2 := X1.out.blk.cell 2 (.int .i64 n.num) rfl
 have q3 := X1.out.blk.cell 3 (.slice A n.kids.length c) rfl
 go_wp2_with fail
 refine (plain_any n _ _ _ _ _ _ _ (X1.out.st.env hE).ml).mono ?_
 rintro e w2 ⟨(⟨hq, rfl⟩ | ⟨hq, rfl⟩), hb2⟩
 rotate_left
 ·have X2 := Lib.hid (X1.out.below hb2)
  have Q2 := Lib.hid hq
  clear hq hb2
  unfold noneE
  go_wp2
  exact ⟨rfl, NOut.no X2.out.st X2.out.pk (by rw [HOK.out, Q2.out] <;> simp) (by omega)⟩
 have X2 := Lib.hid (X1.out.below hb2)
 have Q2 := Lib.hid hq
 clear hq hb2
 clear q0 q1 q2 q3 
 have q0 := X2.out.blk.cell 0 (.int .i64 n.k) rfl
 have q1 := X2.out.blk.cell 1 (.string n.t) rfl
 have q2 := X2.out.blk.cell 2 (.int .i64 n.num) rfl
 have q3 := X2.out.blk.cell 3 (.slice A n.kids.length c) rfl
 have Q2s : Hid (decide (0 ≤ sgnB n.num) = true) := by show _ = _; rw [HKK.out]; rfl
 go_wp2_with fail
 refine (psign_any _ _).mono ?_
 rintro e w' ⟨rfl, rfl⟩
 rw [HKK.out]
 obtain ⟨x, y, hkx⟩ := twoKids Q2.out
 obtain ⟨bb, oo, Ax, cx, hA, hbl, k0, k1, k2, k3, rx⟩ := first_kid HR.out (by rw [hkx]; rfl : n.kids[0]? = some x)
 obtain ⟨bb2, oo2, Ay, cy, hA2, hbl2, m0, m1, m2, m3, ry⟩ := first_kid HR.out (by rw [hkx]; rfl : n.kids[1]? = some y)
 obtain ⟨rfl, rfl⟩ : bb = bb2 ∧ oo = oo2 := by rw [hA] at hA2; simpa using hA2
 clear hA2 hbl2
 subst hA
 have RX := Lib.hid rx
 have RY := Lib.hid ry
 have hml : many x + many y = manyL n.kids := by rw [hkx]; simp [manyL]
 have hposx := many_pos x
 have hposy := many_pos y
 have hlen : n.kids.length = 2 := by rw [hkx]; rfl
 have hjp : 0 < n.kids.length := by omega
 have hjp1 : 1 < n.kids.length := by omega
 have hjp2 : (1 : Int) < (n.kids.length : Int) := by omega
 have HKX := Lib.hid hkx
 have HLEN := Lib.hid hlen
 have IHX := Lib.hid (IH x (by rw [hkx]; simp))
 have IHY := Lib.hid (IH y (by rw [hkx]; simp))
 have HREST : Hid (rest = (okC 4 x && okC 4 y)) := by
  show _ = _
  rw [← HRR.out, hk.out, isNL_okC (c := 4) _ _ (fun _ _ _ => rfl), HKX.out]
  simp
 clear rx ry hkx hlen IH
 have HSH : Hid (nw = atW 2 (bindN x) (shw x) ++ [sgnT n.num] ++ atW 3 (bindN y) (shw y)) := by
  show _ = _
  rw [← HW.out, HBN.out, atW_not _ (by omega), shw_eq, hk.out, HKX.out]
  show atW (max (sgnB n.num) 1) (bindN x) (shw x) ++ [sgnT n.num] ++ atW (sgnB n.num + 1) (bindN y) (shw y) = _
  rw [HKK.out]
  rfl
 go_wp2_with fail
 refine (must_yes _).mono ?_
 rintro e w' ⟨rfl, rfl⟩
 have bw := X2.out.st.1
 have z0 := (bw.cell (p := ⟨bb, oo + 0 * 4, none⟩) hbl).trans k0
 have z1 := (bw.cell (p := ⟨bb, oo + 0 * 4 + 1, none⟩) hbl).trans k1
 have z2 := (bw.cell (p := ⟨bb, oo + 0 * 4 + 2, none⟩) hbl).trans k2
 have z3 := (bw.cell (p := ⟨bb, oo + 0 * 4 + 3, none⟩) hbl).trans k3
 clear bw
 simp only [Nat.zero_mul, Nat.add_zero] at z0 z1 z2 z3
 go_wp2_with fail
 refine (IHX.out _ _ _ 2 (by omega) (by omega) RX.out X2.out.st (by omega)).mono ?_
 rintro e w3 ⟨ws3, h3, p3, L3, (⟨o3, rfl, e3⟩ | ⟨o3, rfl⟩)⟩
 rotate_left
 ·have X3 := Lib.hid (X2.out.step h3 p3)
  have Q3 := Lib.hid o3
  clear h3 p3 o3
  unfold noneE
  go_wp2
  exact ⟨rfl, NOut.no X3.out.st X3.out.pk (by rw [HOK.out, Q2.out, Q2s.out, HREST.out, Q3.out] <;> simp) (by omega)⟩
 have X3 := Lib.hid (X2.out.step h3 p3)
 have Q3 := Lib.hid o3
 have E3 := Lib.hid e3
 clear h3 p3 o3 e3 q0 q1 q2 q3 z0 z1 z2 z3
 have q0 := X3.out.blk.cell 0 (.int .i64 n.k) rfl
 have q1 := X3.out.blk.cell 1 (.string n.t) rfl
 have q2 := X3.out.blk.cell 2 (.int .i64 n.num) rfl
 have q3 := X3.out.blk.cell 3 (.slice (some ⟨bb, oo, none⟩) n.kids.length c) rfl
 go_wp2_with fail
 refine (psay1 _ X3.out.st (by omega)).mono ?_
 rintro e w4 ⟨rfl, h4, p4⟩
 obtain ⟨ws4, e4⟩ : ∃ l : List ByteArray, l = ws3 ++ [sgnT n.num] := ⟨_, rfl⟩
 rw [← e4] at h4
 have L4 : ws4.length = ws3.length + 1 := by rw [e4]; simp
 have E4 := Lib.hid e4
 have X4 := Lib.hid (X3.out.step h4 p4)
 clear e4 h4 p4 q0 q1 q2 q3 
 have q0 := X4.out.blk.cell 0 (.int .i64 n.k) rfl
 have q1 := X4.out.blk.cell 1 (.string n.t) rfl
 have q2 := X4.out.blk.cell 2 (.int .i64 n.num) rfl
 have q3 := X4.out.blk.cell 3 (.slice (some ⟨bb, oo, none⟩) n.kids.length c) rfl
 have bw := X4.out.st.1
 have z0 := (bw.cell (p := ⟨bb, oo + 1 * 4, none⟩) hbl).trans m0
 have z1 := (bw.cell (p := ⟨bb, oo + 1 * 4 + 1, none⟩) hbl).trans m1
 have z2 := (bw.cell (p := ⟨bb, oo + 1 * 4 + 2, none⟩) hbl).trans m2
 have z3 := (bw.cell (p := ⟨bb, oo + 1 * 4 + 3, none⟩) hbl).trans m3
 clear bw
 simp only [Nat.one_mul] at z0 z1 z2 z3
 go_wp2_with fail
 refine (IHY.out _ _ _ 3 (by omega) (by omega) RY.out X4.out.st (by omega)).mono ?_
 rintro e w5 ⟨ws5, h5, p5, L5, (⟨o5, rfl, e5⟩ | ⟨o5, rfl⟩)⟩
 rotate_left
 ·have X5 := Lib.hid (X4.out.step h5 p5)
  have Q5 := Lib.hid o5
  clear h5 p5 o5
  unfold noneE
  go_wp2
  exact ⟨rfl, NOut.no X5.out.st X5.out.pk (by rw [HOK.out, Q2.out, Q2s.out, HREST.out, Q3.out, Q5.out] <;> simp) (by omega)⟩
 have X5 := Lib.hid (X4.out.step h5 p5)
 have Q5 := Lib.hid o5
 have E5 := Lib.hid e5
 clear h5 p5 o5 e5 q0 q1 q2 q3 z0 z1 z2 z3
 have q0 := X5.out.blk.cell 0 (.int .i64 n.k) rfl
 have q1 := X5.out.blk.cell 1 (.string n.t) rfl
 have q2 := X5.out.blk.cell 2 (.int .i64 n.num) rfl
 have q3 := X5.out.blk.cell 3 (.slice (some ⟨bb, oo, none⟩) n.kids.length c) rfl
 go_wp2
 go_end0
 exact NOut.yes2 X5.out.st X5.out.pk (by rw [HOK.out, Q2.out, Q2s.out, HREST.out, Q3.out, Q5.out] <;> simp) (by rw [E5.out, E4.out, E3.out, HSH.out]; simp) (by omega)
theorem expr_32_2d (w0 : World) (p : Nat) (hE : Env w0) (n : Nd) (hk : Hid (n.k = 32)) (least : Int) (hl0 : 0 ≤ least) (hl4 : least ≤ 4) (HKK : Hid (sgnB n.num = 2)) (hl3 : 2 < least) (IH : ∀ m ∈ n.kids, EOk w0 p m) : E1 w0 p n least := by
 intro cs w ws hr hst hb
 obtain ⟨A, c, rfl, hR, hcap, hlm, hn64, hts⟩ := hr.four
 have HR := Lib.hid hR
 have hmany := many_eq n
 clear hr hR
 obtain ⟨ok, HK⟩ : ∃ b, Hid (okC 4 n = b) := ⟨_, rfl⟩
 rw [HK.out]
 obtain ⟨nw, HW⟩ : ∃ b, Hid (atW least (bindN n) (shw n) = b) := ⟨_, rfl⟩
 rw [HW.out]
 generalize hgm : 10 * many n - 3 = gm
 have hgm2 : 10 * manyL n.kids + 7 = gm := by omega
 have HGM := Lib.hid hgm
 clear hgm
 obtain ⟨rest, HRR⟩ : ∃ b, Hid (isNL n.k 0 n.kids.length n.kids = b) := ⟨_, rfl⟩
 have HOK : Hid (ok = (plainB n false true 2 2 && decide (0 ≤ sgnB n.num) && rest)) := by
  show _ = _
  rw [← HK.out, okC_of (by rw [hk.out]; rfl), isN_op hk.out, HRR.out]
 have b32 : (n.k == 32) = true := by rw [hk.out]; rfl
 have b28 : (n.k == 28) = false := by rw [hk.out]; rfl
 have b29 : (n.k == 29) = false := by rw [hk.out]; rfl
 have b24 : (n.k == 24) = false := by rw [hk.out]; rfl
 have b25 : (n.k == 25) = false := by rw [hk.out]; rfl
 have b23 : (n.k == 23) = false := by rw [hk.out]; rfl
 have b26 : (n.k == 26) = false := by rw [hk.out]; rfl
 have b27 : (n.k == 27) = false := by rw [hk.out]; rfl
 have b33 : (n.k == 33) = false := by rw [hk.out]; rfl
 have b30 : (n.k == 30) = false := by rw [hk.out]; rfl
 have b31 : (n.k == 31) = false := by rw [hk.out]; rfl
 have b34 : (n.k == 34) = false := by rw [hk.out]; rfl
 have X0 := Lib.hid (Bx.start n A c hst)
 have hlw := hst.2.lt
 clear hst
 have HBN : Hid (bindN n = 2) := by
  show _ = _
  unfold bindN bindK
  rw [hk.out]
  exact HKK.out
 have dl : decide ((2 : Int) < least) = true := by rw [decide_eq_true_eq]; omega
 have dl2 : (2 : Int) < least := by omega
 go_enter_defers Tryz.func103, Tryz.ntmps103
 go_wp2_with fail
 refine (level_any n _ _ _).mono ?_
 rintro e w1 ⟨rfl, hb1⟩
 rw [HBN.out]
 have X1 := Lib.hid (X0.out.below hb1)
 clear hb1
 have q0 := X1.out.blk.cell 0 (.int .i64 n.k) rfl
 have q1 := X1.out.blk.cell 1 (.string n.t) rfl
 have q2 := X1.out.blk.cell 2 (.int .i64 n.num) rfl
 have q3 := X1.out.blk.cell 3 (.slice A n.kids.length c) rfl
 go_wp2_with fail
 refine (psay1 _ X1.out.st (by omega)).mono ?_
 rintro e w2 ⟨rfl, h2, p2⟩
 obtain ⟨ws2, e2⟩ : ∃ l : List ByteArray, l = ws ++ [⟨#[40]⟩] := ⟨_, rfl⟩
 rw [← e2] at h2
 have L2 : ws2.length = ws.length + 1 := by rw [e2]; simp
 have E2 := Lib.hid e2
 have X2 := Lib.hid (X1.out.step h2 p2)
 clear e2 h2 p2 q0 q1 q2 q3 
 have q0 := X2.out.blk.cell 0 (.int .i64 n.k) rfl
 have q1 := X2.out.blk.cell 1 (.string n.t) rfl
 have q2 := X2.out.blk.cell 2 (.int .i64 n.num) rfl
 have q3 := X2.out.blk.cell 3 (.slice A n.kids.length c) rfl
 have X3 := Lib.hid (Dx.of X2.out)
 clear q0 q1 q2 q3
 have q0 := X3.out.blk.cell 0 (.int .i64 n.k) rfl
 have q1 := X3.out.blk.cell 1 (.string n.t) rfl
 have q2 := X3.out.blk.cell 2 (.int .i64 n.num) rfl
 have q3 := X3.out.blk.cell 3 (.slice A n.kids.length c) rfl
 go_wp2_with fail
 refine (plain_any n _ _ _ _ _ _ _ (X3.out.st.env hE).ml).mono ?_
 rintro e w4 ⟨(⟨hq, rfl⟩ | ⟨hq, rfl⟩), hb4⟩
 rotate_left
 ·have X4 := Lib.hid (X3.out.below hb4)
  have Q4 := Lib.hid hq
  clear hq hb4
  unfold noneE
  go_wp2
  exact leave_no _ X4.out (by omega) (by rw [HOK.out, Q4.out] <;> simp) (by omega)
 have X4 := Lib.hid (X3.out.below hb4)
 have Q4 := Lib.hid hq
 clear hq hb4
 clear q0 q1 q2 q3 
 have q0 := X4.out.blk.cell 0 (.int .i64 n.k) rfl
 have q1 := X4.out.blk.cell 1 (.string n.t) rfl
 have q2 := X4.out.blk.cell 2 (.int .i64 n.num) rfl
 have q3 := X4.out.blk.cell 3 (.slice A n.kids.length c) rfl
 have Q4s : Hid (decide (0 ≤ sgnB n.num) = true) := by show _ = _; rw [HKK.out]; rfl
 go_wp2_with fail
 refine (psign_any _ _).mono ?_
 rintro e w' ⟨rfl, rfl⟩
 rw [HKK.out]
 obtain ⟨x, y, hkx⟩ := twoKids Q4.out
 obtain ⟨bb, oo, Ax, cx, hA, hbl, k0, k1, k2, k3, rx⟩ := first_kid HR.out (by rw [hkx]; rfl : n.kids[0]? = some x)
 obtain ⟨bb2, oo2, Ay, cy, hA2, hbl2, m0, m1, m2, m3, ry⟩ := first_kid HR.out (by rw [hkx]; rfl : n.kids[1]? = some y)
 obtain ⟨rfl, rfl⟩ : bb = bb2 ∧ oo = oo2 := by rw [hA] at hA2; simpa using hA2
 clear hA2 hbl2
 subst hA
 have RX := Lib.hid rx
 have RY := Lib.hid ry
 have hml : many x + many y = manyL n.kids := by rw [hkx]; simp [manyL]
 have hposx := many_pos x
 have hposy := many_pos y
 have hlen : n.kids.length = 2 := by rw [hkx]; rfl
 have hjp : 0 < n.kids.length := by omega
 have hjp1 : 1 < n.kids.length := by omega
 have hjp2 : (1 : Int) < (n.kids.length : Int) := by omega
 have HKX := Lib.hid hkx
 have HLEN := Lib.hid hlen
 have IHX := Lib.hid (IH x (by rw [hkx]; simp))
 have IHY := Lib.hid (IH y (by rw [hkx]; simp))
 have HREST : Hid (rest = (okC 4 x && okC 4 y)) := by
  show _ = _
  rw [← HRR.out, hk.out, isNL_okC (c := 4) _ _ (fun _ _ _ => rfl), HKX.out]
  simp
 clear rx ry hkx hlen IH
 have HSH : Hid (nw = ⟨#[40]⟩ :: ((atW 2 (bindN x) (shw x) ++ [sgnT n.num] ++ atW 3 (bindN y) (shw y)) ++ [⟨#[41]⟩])) := by
  show _ = _
  rw [← HW.out, HBN.out, atW_yes _ (by omega), shw_eq, hk.out, HKX.out]
  show ⟨#[40]⟩ :: ((atW (max (sgnB n.num) 1) (bindN x) (shw x) ++ [sgnT n.num] ++ atW (sgnB n.num + 1) (bindN y) (shw y)) ++ [⟨#[41]⟩]) = _
  rw [HKK.out]
  rfl
 go_wp2_with fail
 refine (must_yes _).mono ?_
 rintro e w' ⟨rfl, rfl⟩
 have bw := X4.out.st.1
 have z0 := (bw.cell (p := ⟨bb, oo + 0 * 4, none⟩) hbl).trans k0
 have z1 := (bw.cell (p := ⟨bb, oo + 0 * 4 + 1, none⟩) hbl).trans k1
 have z2 := (bw.cell (p := ⟨bb, oo + 0 * 4 + 2, none⟩) hbl).trans k2
 have z3 := (bw.cell (p := ⟨bb, oo + 0 * 4 + 3, none⟩) hbl).trans k3
 clear bw
 simp only [Nat.zero_mul, Nat.add_zero] at z0 z1 z2 z3
 go_wp2_with fail
 refine (IHX.out _ _ _ 2 (by omega) (by omega) RX.out X4.out.st (by omega)).mono ?_
 rintro e w5 ⟨ws5, h5, p5, L5, (⟨o5, rfl, e5⟩ | ⟨o5, rfl⟩)⟩
 rotate_left
 ·have X5 := Lib.hid (X4.out.step h5 p5)
  have Q5 := Lib.hid o5
  clear h5 p5 o5
  unfold noneE
  go_wp2
  exact leave_no _ X5.out (by omega) (by rw [HOK.out, Q4.out, Q4s.out, HREST.out, Q5.out] <;> simp) (by omega)
 have X5 := Lib.hid (X4.out.step h5 p5)
 have Q5 := Lib.hid o5
 have E5 := Lib.hid e5
 clear h5 p5 o5 e5 q0 q1 q2 q3 z0 z1 z2 z3
 have q0 := X5.out.blk.cell 0 (.int .i64 n.k) rfl
 have q1 := X5.out.blk.cell 1 (.string n.t) rfl
 have q2 := X5.out.blk.cell 2 (.int .i64 n.num) rfl
 have q3 := X5.out.blk.cell 3 (.slice (some ⟨bb, oo, none⟩) n.kids.length c) rfl
 go_wp2_with fail
 refine (psay1 _ X5.out.st (by omega)).mono ?_
 rintro e w6 ⟨rfl, h6, p6⟩
 obtain ⟨ws6, e6⟩ : ∃ l : List ByteArray, l = ws5 ++ [sgnT n.num] := ⟨_, rfl⟩
 rw [← e6] at h6
 have L6 : ws6.length = ws5.length + 1 := by rw [e6]; simp
 have E6 := Lib.hid e6
 have X6 := Lib.hid (X5.out.step h6 p6)
 clear e6 h6 p6 q0 q1 q2 q3 
 have q0 := X6.out.blk.cell 0 (.int .i64 n.k) rfl
 have q1 := X6.out.blk.cell 1 (.string n.t) rfl
 have q2 := X6.out.blk.cell 2 (.int .i64 n.num) rfl
 have q3 := X6.out.blk.cell 3 (.slice (some ⟨bb, oo, none⟩) n.kids.length c) rfl
 have bw := X6.out.st.1
 have z0 := (bw.cell (p := ⟨bb, oo + 1 * 4, none⟩) hbl).trans m0
 have z1 := (bw.cell (p := ⟨bb, oo + 1 * 4 + 1, none⟩) hbl).trans m1
 have z2 := (bw.cell (p := ⟨bb, oo + 1 * 4 + 2, none⟩) hbl).trans m2
 have z3 := (bw.cell (p := ⟨bb, oo + 1 * 4 + 3, none⟩) hbl).trans m3
 clear bw
 simp only [Nat.one_mul] at z0 z1 z2 z3
 go_wp2_with fail
 refine (IHY.out _ _ _ 3 (by omega) (by omega) RY.out X6.out.st (by omega)).mono ?_
 rintro e w7 ⟨ws7, h7, p7, L7, (⟨o7, rfl, e7⟩ | ⟨o7, rfl⟩)⟩
 rotate_left
 ·have X7 := Lib.hid (X6.out.step h7 p7)
  have Q7 := Lib.hid o7
  clear h7 p7 o7
  unfold noneE
  go_wp2
  exact leave_no _ X7.out (by omega) (by rw [HOK.out, Q4.out, Q4s.out, HREST.out, Q5.out, Q7.out] <;> simp) (by omega)
 have X7 := Lib.hid (X6.out.step h7 p7)
 have Q7 := Lib.hid o7
 have E7 := Lib.hid e7
 clear h7 p7 o7 e7 q0 q1 q2 q3 z0 z1 z2 z3
 have q0 := X7.out.blk.cell 0 (.int .i64 n.k) rfl
 have q1 := X7.out.blk.cell 1 (.string n.t) rfl
 have q2 := X7.out.blk.cell 2 (.int .i64 n.num) rfl
 have q3 := X7.out.blk.cell 3 (.slice (some ⟨bb, oo, none⟩) n.kids.length c) rfl
 go_wp2
 exact leave_yes _ X7.out (by omega) (by rw [HOK.out, Q4.out, Q4s.out, HREST.out, Q5.out, Q7.out] <;> simp) (by rw [E7.out, E6.out, E5.out, E2.out, HSH.out]; simp) (by omega)
theorem expr_32_n (w0 : World) (p : Nat) (hE : Env w0) (n : Nd) (hk : Hid (n.k = 32)) (least : Int) (hl0 : 0 ≤ least) (hl4 : least ≤ 4) (HKK : Hid (sgnB n.num = -1)) (IH : ∀ m ∈ n.kids, EOk w0 p m) : E1 w0 p n least := by
 intro cs w ws hr hst hb
 obtain ⟨A, c, rfl, hR, hcap, hlm, hn64, hts⟩ := hr.four
 have HR := Lib.hid hR
 have hmany := many_eq n
 clear hr hR
 obtain ⟨ok, HK⟩ : ∃ b, Hid (okC 4 n = b) := ⟨_, rfl⟩
 rw [HK.out]
 obtain ⟨nw, HW⟩ : ∃ b, Hid (atW least (bindN n) (shw n) = b) := ⟨_, rfl⟩
 rw [HW.out]
 generalize hgm : 10 * many n - 3 = gm
 have hgm2 : 10 * manyL n.kids + 7 = gm := by omega
 have HGM := Lib.hid hgm
 clear hgm
 obtain ⟨rest, HRR⟩ : ∃ b, Hid (isNL n.k 0 n.kids.length n.kids = b) := ⟨_, rfl⟩
 have HOK : Hid (ok = (plainB n false true 2 2 && decide (0 ≤ sgnB n.num) && rest)) := by
  show _ = _
  rw [← HK.out, okC_of (by rw [hk.out]; rfl), isN_op hk.out, HRR.out]
 have b32 : (n.k == 32) = true := by rw [hk.out]; rfl
 have b28 : (n.k == 28) = false := by rw [hk.out]; rfl
 have b29 : (n.k == 29) = false := by rw [hk.out]; rfl
 have b24 : (n.k == 24) = false := by rw [hk.out]; rfl
 have b25 : (n.k == 25) = false := by rw [hk.out]; rfl
 have b23 : (n.k == 23) = false := by rw [hk.out]; rfl
 have b26 : (n.k == 26) = false := by rw [hk.out]; rfl
 have b27 : (n.k == 27) = false := by rw [hk.out]; rfl
 have b33 : (n.k == 33) = false := by rw [hk.out]; rfl
 have b30 : (n.k == 30) = false := by rw [hk.out]; rfl
 have b31 : (n.k == 31) = false := by rw [hk.out]; rfl
 have b34 : (n.k == 34) = false := by rw [hk.out]; rfl
 have X0 := Lib.hid (Bx.start n A c hst)
 have hlw := hst.2.lt
 clear hst
 have HBN : Hid (bindN n = -1) := by
  show _ = _
  unfold bindN bindK
  rw [hk.out]
  exact HKK.out
 have dl : decide ((-1 : Int) < least) = true := by rw [decide_eq_true_eq]; omega
 have dl2 : (-1 : Int) < least := by omega
 go_enter_defers Tryz.func103, Tryz.ntmps103
 go_wp2_with fail
 refine (level_any n _ _ _).mono ?_
 rintro e w1 ⟨rfl, hb1⟩
 rw [HBN.out]
 have X1 := Lib.hid (X0.out.below hb1)
 clear hb1
 have q0 := X1.out.blk.cell 0 (.int .i64 n.k) rfl
 have q1 := X1.out.blk.cell 1 (.string n.t) rfl
 have q2 := X1.out.blk.cell 2 (.int .i64 n.num) rfl
 have q3 := X1.out.blk.cell 3 (.slice A n.kids.length c) rfl
 go_wp2_with fail
 refine (psay1 _ X1.out.st (by omega)).mono ?_
 rintro e w2 ⟨rfl, h2, p2⟩
 obtain ⟨ws2, e2⟩ : ∃ l : List ByteArray, l = ws ++ [⟨#[40]⟩] := ⟨_, rfl⟩
 rw [← e2] at h2
 have L2 : ws2.length = ws.length + 1 := by rw [e2]; simp
 have E2 := Lib.hid e2
 have X2 := Lib.hid (X1.out.step h2 p2)
 clear e2 h2 p2 q0 q1 q2 q3 
 have q0 := X2.out.blk.cell 0 (.int .i64 n.k) rfl
 have q1 := X2.out.blk.cell 1 (.string n.t) rfl
 have q2 := X2.out.blk.cell 2 (.int .i64 n.num) rfl
 have q3 := X2.out.blk.cell 3 (.slice A n.kids.length c) rfl
 have X3 := Lib.hid (Dx.of X2.out)
 clear q0 q1 q2 q3
 have q0 := X3.out.blk.cell 0 (.int .i64 n.k) rfl
 have q1 := X3.out.blk.cell 1 (.string n.t) rfl
 have q2 := X3.out.blk.cell 2 (.int .i64 n.num) rfl
 have q3 := X3.out.blk.cell 3 (.slice A n.kids.length c) rfl
 go_wp2_with fail
 refine (plain_any n _ _ _ _ _ _ _ (X3.out.st.env hE).ml).mono ?_
 rintro e w4 ⟨(⟨hq, rfl⟩ | ⟨hq, rfl⟩), hb4⟩
 rotate_left
 ·have X4 := Lib.hid (X3.out.below hb4)
  have Q4 := Lib.hid hq
  clear hq hb4
  unfold noneE
  go_wp2
  exact leave_no _ X4.out (by omega) (by rw [HOK.out, Q4.out] <;> simp) (by omega)
 have X4 := Lib.hid (X3.out.below hb4)
 have Q4 := Lib.hid hq
 clear hq hb4
 clear q0 q1 q2 q3 
 have q0 := X4.out.blk.cell 0 (.int .i64 n.k) rfl
 have q1 := X4.out.blk.cell 1 (.string n.t) rfl
 have q2 := X4.out.blk.cell 2 (.int .i64 n.num) rfl
 have q3 := X4.out.blk.cell 3 (.slice A n.kids.length c) rfl
 have Q4s : Hid (decide (0 ≤ sgnB n.num) = false) := by show _ = _; rw [HKK.out]; rfl
 go_wp2_with fail
 refine (psign_any _ _).mono ?_
 rintro e w' ⟨rfl, rfl⟩
 rw [HKK.out]
 go_wp2_with fail
 refine (must_no _).mono ?_
 rintro e w' ⟨rfl, rfl⟩
 go_wp2
 exact leave_no _ X4.out (by omega) (by rw [HOK.out, Q4.out, Q4s.out] <;> simp) (by omega)
theorem pr_expr_all (w0 : World) (p : Nat) (hE : Env w0) : ∀ (N : Nat) (n : Nd), many n ≤ N → EOk w0 p n
 | 0, n, h => absurd h (by have := many_pos n; omega)
 | N + 1, n, h => by
  have IH : ∀ m ∈ n.kids, EOk w0 p m := fun m hm => pr_expr_all w0 p hE N m (by have := many_kid hm; omega)
  by_cases h32 : n.k = 32
  ·intro cs w ws least hl0 hl4 hr hst hb
   rcases sgnB_vals n.num with hv | hv | hv | hv
   ·exact expr_32_n w0 p hE n h32 least hl0 hl4 hv IH cs w ws hr hst hb
   ·by_cases hl : 0 < least
    ·exact expr_32_0d w0 p hE n h32 least hl0 hl4 hv hl IH cs w ws hr hst hb
    ·exact expr_32_0 w0 p hE n h32 least hl0 hl4 hv hl IH cs w ws hr hst hb
   ·by_cases hl : 1 < least
    ·exact expr_32_1d w0 p hE n h32 least hl0 hl4 hv hl IH cs w ws hr hst hb
    ·exact expr_32_1 w0 p hE n h32 least hl0 hl4 hv hl IH cs w ws hr hst hb
   ·by_cases hl : 2 < least
    ·exact expr_32_2d w0 p hE n h32 least hl0 hl4 hv hl IH cs w ws hr hst hb
    ·exact expr_32_2 w0 p hE n h32 least hl0 hl4 hv hl IH cs w ws hr hst hb
  by_cases h28 : n.k = 28
  ·intro cs w ws least hl0 hl4 hr hst hb
   by_cases hl : 3 < least
   ·exact expr_28d w0 p hE n h28 least hl0 hl4 hl IH cs w ws hr hst hb
   ·exact expr_28 w0 p hE n h28 least hl0 hl4 hl IH cs w ws hr hst hb
  by_cases h29 : n.k = 29
  ·intro cs w ws least hl0 hl4 hr hst hb
   by_cases hl : 3 < least
   ·exact expr_29d w0 p hE n h29 least hl0 hl4 hl IH cs w ws hr hst hb
   ·exact expr_29 w0 p hE n h29 least hl0 hl4 hl IH cs w ws hr hst hb
  by_cases h21 : n.k = 21
  ·exact expr_21 w0 p hE n h21
  by_cases h22 : n.k = 22
  ·exact expr_22 w0 p hE n h22
  by_cases h23 : n.k = 23
  ·exact expr_23 w0 p hE n h23
  by_cases h24 : n.k = 24
  ·exact expr_24 w0 p hE n h24 IH
  by_cases h25 : n.k = 25
  ·exact expr_25 w0 p hE n h25 IH
  by_cases h26 : n.k = 26
  ·exact expr_26 w0 p hE n h26
  by_cases h27 : n.k = 27
  ·exact expr_27 w0 p hE n h27 IH
  by_cases h30 : n.k = 30
  ·exact expr_30 w0 p hE n h30 IH
  by_cases h31 : n.k = 31
  ·exact expr_31 w0 p hE n h31 IH
  by_cases h33 : n.k = 33
  ·exact expr_33 w0 p hE n h33
  by_cases h34 : n.k = 34
  ·exact expr_34 w0 p hE n h34 IH
  exact expr_no w0 p hE n (show n.k < 21 ∨ 34 < n.k by omega)
theorem expr_ok (w0 : World) (p : Nat) (hE : Env w0) (n : Nd) : EOk w0 p n := pr_expr_all w0 p hE _ n (Nat.le_refl _)
end Go.Proofs.YtgegfbopogcjpaaGreatDoor
