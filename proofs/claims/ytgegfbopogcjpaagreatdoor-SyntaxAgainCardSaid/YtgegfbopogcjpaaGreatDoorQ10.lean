/- The printer: types, parameters; Small map literals: made, filled, asked at once. -/
import Derived.Test.YtgegfbopogcjpaaGreatDoorQ09
import Derived.StillTailTactics
import Derived.WideMake
namespace Go.Proofs.YtgegfbopogcjpaaGreatDoor
open Go.RowKit
set_option linter.unusedVariables false
set_option linter.unusedSimpArgs false
set_option maxRecDepth 100000
set_option maxHeartbeats 2000000
def Bx (w0 : World) (p : Nat) (w : World) (b : Nat) (n : Nd) (A : Option Addr) (c : Nat) (ws : List ByteArray) (w' : World) : Prop :=
 Stq w0 p ws w' ∧ PK p w w' ∧ Blk w' b 24 #[.int .i64 n.k, .string n.t, .int .i64 n.num, .slice A n.kids.length c]
theorem Bx.st {w0 w w' : World} {p b c : Nat} {ws : List ByteArray} {n : Nd} {A : Option Addr} (h : Bx w0 p w b n A c ws w') : Stq w0 p ws w' := h.1
theorem Bx.pk {w0 w w' : World} {p b c : Nat} {ws : List ByteArray} {n : Nd} {A : Option Addr} (h : Bx w0 p w b n A c ws w') : PK p w w' := h.2.1
theorem Bx.blk {w0 w w' : World} {p b c : Nat} {ws : List ByteArray} {n : Nd} {A : Option Addr} (h : Bx w0 p w b n A c ws w') : Blk w' b 24 #[.int .i64 n.k, .string n.t, .int .i64 n.num, .slice A n.kids.length c] := h.2.2
theorem Bx.start {w0 w : World} {p : Nat} {ws : List ByteArray} (n : Nd) (A : Option Addr) (c : Nat) (h : Stq w0 p ws w) : Bx w0 p w w.heap.size n A c ws (w.alloc (.cells #[.int .i64 n.k, .string n.t, .int .i64 n.num, .slice A n.kids.length c] 24)) :=
 ⟨h.alloc _, PK.alloc_ _ _ h.2.lt, Blk.new_ _ _ _⟩
theorem Bx.below {w0 w w1 w2 : World} {p b c : Nat} {ws : List ByteArray} {n : Nd} {A : Option Addr} (h : Bx w0 p w b n A c ws w1) (hb : Below w1.heap.size w1 w2) : Bx w0 p w b n A c ws w2 :=
 ⟨h.1.below hb, h.2.1.trans_ (PK.of_below h.1.2 hb), h.2.2.below hb⟩
theorem Bx.alloc {w0 w w1 : World} {p b c : Nat} {ws : List ByteArray} {n : Nd} {A : Option Addr} (h : Bx w0 p w b n A c ws w1) (o : Obj) : Bx w0 p w b n A c ws (w1.alloc o) :=
 ⟨h.1.alloc o, h.2.1.trans_ (PK.alloc_ _ _ h.1.2.lt), h.2.2.alloc o⟩
theorem Bx.step {w0 w w1 w2 : World} {p b c : Nat} {ws ws2 : List ByteArray} {n : Nd} {A : Option Addr} (h : Bx w0 p w b n A c ws w1) (hs : Stq w0 p ws2 w2) (hp : PK p w1 w2) : Bx w0 p w b n A c ws2 w2 :=
 ⟨hs, h.2.1.trans_ hp, hp.blk h.1.2 h.2.2 (by decide) (by decide)⟩
theorem PK.drew_ {p : Nat} (w : World) : PK p w w.drew := ⟨rfl, rfl, rfl, Nat.le_refl _, fun k _ _ hr => ⟨rfl, hr⟩⟩
theorem Stq.drew {w0 w : World} {p : Nat} {ws : List ByteArray} (h : Stq w0 p ws w) : Stq w0 p ws w.drew := by
 obtain ⟨h0, h1, v, hb, ho⟩ := h
 exact ⟨h0.drew, h1, v, hb, ho⟩
theorem Bx.drew {w0 w w1 : World} {p b c : Nat} {ws : List ByteArray} {n : Nd} {A : Option Addr} (h : Bx w0 p w b n A c ws w1) : Bx w0 p w b n A c ws w1.drew := ⟨h.1.drew, h.2.1.trans_ (PK.drew_ _), h.2.2⟩
theorem sl_hi (a : Addr) (n c j : Nat) (w : World) (h : j ≤ n) (hn : n ≤ c) : (Instr.slice 22 (.slice (some a) n c) none (some (.int .i64 (j : Int))) none).run Tryz.prog w = .ok (.slice (some a) j c) w := by
 have : j ≤ c := by omega
 simp [go_sem, Tryz.underlying22, this]
theorem kids_last {n : Nd} {j : Nat} (h : n.kids.length = j + 1) : n.kids = n.kids.take j ++ [n.kids[j]'(by omega)] := by
 conv => lhs; rw [← List.take_append_drop j n.kids]
 congr 1
 rw [List.drop_eq_getElem_cons (by omega), List.drop_eq_nil_of_le (by omega)]
theorem many_eq (n : Nd) : many n = manyL n.kids + 1 := by cases n; rw [many]; rfl
theorem manyL_one (x : Nd) : manyL [x] = many x := by simp [manyL]
theorem isN_p0 {n : Nd} {text : Bool} {least : Nat} {most : Int} (h : shp n.k = some ⟨text, 0, least, most⟩) (h21 : n.k ≠ 21) (h32 : n.k ≠ 32) (h15 : n.k ≠ 15) (h20 : n.k ≠ 20) :
 isN n false = (plainB n text false least most && isNL n.k 0 n.kids.length n.kids) := by
 rw [isN_plain n text 0 least most h h21 (by omega) (by omega)]
 have e1 : (n.k == 32) = false := by simpa using h32
 have e2 : (n.k == 15) = false := by simpa using h15
 have e3 : (n.k == 20) = false := by simpa using h20
 rw [e1, e2, e3]
 have e4 : decide ((0 : Int) ≠ 0) = false := rfl
 rw [e4]
 rcases hp : plainB n text false least most with _ | _
 ·simp
 ·have : n.num = 0 := by
   simp only [plainB, Bool.and_eq_true, Bool.or_eq_true, beq_iff_eq] at hp
   simpa using hp.1.1.1.2
  simp [this]
theorem isN_p1 {n : Nd} {text : Bool} {num : Int} {least : Nat} {most : Int} (h : shp n.k = some ⟨text, num, least, most⟩) (h0 : 0 < num) (hm : num ≤ 1000) (h21 : n.k ≠ 21) (h32 : n.k ≠ 32) (h15 : n.k ≠ 15) (h20 : n.k ≠ 20) :
 isN n false = (plainB n text true least most && (decide (0 ≤ n.num) && decide (n.num ≤ num)) && isNL n.k 0 n.kids.length n.kids) := by
 rw [isN_plain n text num least most h h21 (by omega) hm]
 have e1 : (n.k == 32) = false := by simpa using h32
 have e2 : (n.k == 15) = false := by simpa using h15
 have e3 : (n.k == 20) = false := by simpa using h20
 have e4 : decide (num ≠ 0) = true := by simp; omega
 rw [e1, e2, e3, e4]
 simp
theorem kids_nil {n : Nd} {text num : Bool} {least : Int} (h : plainB n text num least 0 = true) : n.kids = [] := by
 have := (plain_len h).2
 exact List.eq_nil_of_length_eq_zero (by omega)
theorem isN_leaf {n : Nd} {text : Bool} (h : shp n.k = some ⟨text, 0, 0, 0⟩) (h21 : n.k ≠ 21) (h32 : n.k ≠ 32) (h15 : n.k ≠ 15) (h20 : n.k ≠ 20) : isN n false = plainB n text false 0 0 := by
 rw [isN_p0 h h21 h32 h15 h20]
 rcases hp : plainB n text false ((0 : Nat) : Int) 0 with _ | _
 ·simp
 ·rw [kids_nil hp]
  simp [isNL]
theorem oneKid {n : Nd} {text num : Bool} (h : plainB n text num 1 1 = true) : ∃ x, n.kids = [x] := by
 obtain ⟨h1, h2⟩ := plain_len h
 exact List.length_eq_one_iff.1 (by omega)
theorem twoKids {n : Nd} {text num : Bool} (h : plainB n text num 2 2 = true) : ∃ x y, n.kids = [x, y] := by
 obtain ⟨h1, h2⟩ := plain_len h
 match hk : n.kids, (show n.kids.length = 2 by omega) with
 | [x, y], _ => exact ⟨x, y, rfl⟩
theorem last_kid {w0 : World} {n : Nd} {A : Option Addr} (hR : RepNL w0 n.kids A) (h : 0 < n.kids.length) : ∃ (l : List Nd) (x : Nd) (bb oo : Nat) (Ax : Option Addr) (cx : Nat), n.kids = l ++ [x] ∧ A = some ⟨bb, oo, none⟩ ∧ bb < w0.heap.size ∧ RepNL w0 l A ∧
 w0.cell? ⟨bb, oo + l.length * 4, none⟩ = some (.int .i64 x.k) ∧ w0.cell? ⟨bb, oo + l.length * 4 + 1, none⟩ = some (.string x.t) ∧ w0.cell? ⟨bb, oo + l.length * 4 + 2, none⟩ = some (.int .i64 x.num) ∧ w0.cell? ⟨bb, oo + l.length * 4 + 3, none⟩ = some (.slice Ax x.kids.length cx) ∧
 RepN w0 x [.int .i64 x.k, .string x.t, .int .i64 x.num, .slice Ax x.kids.length cx] := by
 obtain ⟨j, hj⟩ : ∃ j, n.kids.length = j + 1 := ⟨n.kids.length - 1, by omega⟩
 obtain ⟨bb, oo, Ax, cx, rfl, hbl, k0, k1, k2, k3, kr, kc, kl, ki, kt⟩ := hR.kid (i := j) (by omega)
 have hlenl : (n.kids.take j).length = j := by rw [List.length_take]; omega
 refine ⟨n.kids.take j, n.kids[j]'(by omega), bb, oo, Ax, cx, kids_last hj, rfl, hbl, RepNL.take n.kids _ j hR, ?_⟩
 rw [hlenl]
 exact ⟨k0, k1, k2, k3, RepN.of kr kc kl ki kt⟩
theorem first_kid {w0 : World} {l : List Nd} {A : Option Addr} {i : Nat} {x : Nd} (hR : RepNL w0 l A) (h : l[i]? = some x) : ∃ (bb oo : Nat) (Ax : Option Addr) (cx : Nat), A = some ⟨bb, oo, none⟩ ∧ bb < w0.heap.size ∧
 w0.cell? ⟨bb, oo + i * 4, none⟩ = some (.int .i64 x.k) ∧ w0.cell? ⟨bb, oo + i * 4 + 1, none⟩ = some (.string x.t) ∧ w0.cell? ⟨bb, oo + i * 4 + 2, none⟩ = some (.int .i64 x.num) ∧ w0.cell? ⟨bb, oo + i * 4 + 3, none⟩ = some (.slice Ax x.kids.length cx) ∧
 RepN w0 x [.int .i64 x.k, .string x.t, .int .i64 x.num, .slice Ax x.kids.length cx] := by
 obtain ⟨hi, rfl⟩ := List.getElem?_eq_some_iff.1 h
 obtain ⟨bb, oo, Ax, cx, rfl, hbl, k0, k1, k2, k3, kr, kc, kl, ki, kt⟩ := hR.kid hi
 exact ⟨bb, oo, Ax, cx, rfl, hbl, k0, k1, k2, k3, RepN.of kr kc kl ki kt⟩
theorem nthW_last (ws : List (List ByteArray)) (a : List ByteArray) : nthW (ws ++ [a]) ((ws ++ [a]).length - 1) = a := by simp [nthW]
theorem cf_typ : ∀ (args : Array Value) (w : World), (callFunc 52 args).run Tryz.prog w = .ok (.enter 52 args) w := cf_of Tryz.func52 (by kernel_rfl) (by kernel_rfl)
theorem okC_of {c : Int} {n : Nd} (h : cls n.k = c) : okC c n = isN n false := by unfold okC; rw [h]; simp
theorem okP_of {c : Int} {n : Nd} (h : n.k = c) : okP c n = isN n false := by unfold okP; rw [h]; simp
theorem typ_9 (w0 : World) (p : Nat) (hE : Env w0) (n : Nd) (hk : Hid (n.k = 9)) : LOk 52 (okC 2) shw w0 p n := by
 intro cs w ws hr hst hb
 obtain ⟨A, c, rfl, hR, hcap, hlm, hn64, hts⟩ := hr.four
 have HR := Lib.hid hR
 have hmany := many_eq n
 clear hr hR
 obtain ⟨ok, HK⟩ : ∃ b, Hid (okC 2 n = b) := ⟨_, rfl⟩
 rw [HK.out]
 obtain ⟨nw, HW⟩ : ∃ b, Hid (shw n = b) := ⟨_, rfl⟩
 rw [HW.out]
 generalize hgm : 10 * many n - 3 = gm
 have hgm2 : 10 * manyL n.kids + 7 = gm := by omega
 have HGM := Lib.hid hgm
 clear hgm
 have HOK : Hid (ok = plainB n false false 0 0) := by
  show _ = _
  rw [← HK.out, okC_of (by rw [hk.out]; rfl), isN_leaf (text := false) (by rw [hk.out]; rfl)] <;> rw [hk.out] <;> decide
 have b9 : (n.k == 9) = true := by rw [hk.out]; rfl
 have b10 : (n.k == 10) = false := by rw [hk.out]; rfl
 have b11 : (n.k == 11) = false := by rw [hk.out]; rfl
 have b12 : (n.k == 12) = false := by rw [hk.out]; rfl
 have X0 := Lib.hid (Bx.start n A c hst)
 have hlw := hst.2.lt
 clear hst
 go_enter Tryz.func52, Tryz.ntmps52
 go_wp2_with fail
 refine (plain_any n _ _ _ _ _ _ _ (X0.out.st.env hE).ml).mono ?_
 rintro e w1 ⟨(⟨hq, rfl⟩ | ⟨hq, rfl⟩), hb1⟩
 rotate_left
 ·have X1 := Lib.hid (X0.out.below hb1)
  have Q1 := Lib.hid hq
  clear hq hb1
  unfold noneE
  go_wp2
  exact ⟨rfl, NOut.no X1.out.st X1.out.pk (by rw [HOK.out, Q1.out] <;> simp) (by omega)⟩
 have X1 := Lib.hid (X0.out.below hb1)
 have Q1 := Lib.hid hq
 clear hq hb1
 have q0 := X1.out.blk.cell 0 (.int .i64 n.k) rfl
 have q1 := X1.out.blk.cell 1 (.string n.t) rfl
 have q2 := X1.out.blk.cell 2 (.int .i64 n.num) rfl
 have q3 := X1.out.blk.cell 3 (.slice A n.kids.length c) rfl
 go_wp2_with fail
 refine (psay1 _ X1.out.st (by omega)).mono ?_
 rintro e w2 ⟨rfl, h2, p2⟩
 obtain ⟨ws2, e2⟩ : ∃ l : List ByteArray, l = ws ++ [⟨#[105, 110, 116]⟩] := ⟨_, rfl⟩
 rw [← e2] at h2
 have L2 : ws2.length = ws.length + 1 := by rw [e2]; simp
 have E2 := Lib.hid e2
 have X2 := Lib.hid (X1.out.step h2 p2)
 clear e2 h2 p2 q0 q1 q2 q3 
 have q0 := X2.out.blk.cell 0 (.int .i64 n.k) rfl
 have q1 := X2.out.blk.cell 1 (.string n.t) rfl
 have q2 := X2.out.blk.cell 2 (.int .i64 n.num) rfl
 have q3 := X2.out.blk.cell 3 (.slice A n.kids.length c) rfl
 go_wp2
 go_end0
 exact NOut.yes2 X2.out.st X2.out.pk (by rw [HOK.out, Q1.out] <;> simp) (by rw [E2.out, ← HW.out, shw_eq, hk.out]; rfl) (by omega)
theorem typ_10 (w0 : World) (p : Nat) (hE : Env w0) (n : Nd) (hk : Hid (n.k = 10)) : LOk 52 (okC 2) shw w0 p n := by
 intro cs w ws hr hst hb
 obtain ⟨A, c, rfl, hR, hcap, hlm, hn64, hts⟩ := hr.four
 have HR := Lib.hid hR
 have hmany := many_eq n
 clear hr hR
 obtain ⟨ok, HK⟩ : ∃ b, Hid (okC 2 n = b) := ⟨_, rfl⟩
 rw [HK.out]
 obtain ⟨nw, HW⟩ : ∃ b, Hid (shw n = b) := ⟨_, rfl⟩
 rw [HW.out]
 generalize hgm : 10 * many n - 3 = gm
 have hgm2 : 10 * manyL n.kids + 7 = gm := by omega
 have HGM := Lib.hid hgm
 clear hgm
 have HOK : Hid (ok = plainB n false false 0 0) := by
  show _ = _
  rw [← HK.out, okC_of (by rw [hk.out]; rfl), isN_leaf (text := false) (by rw [hk.out]; rfl)] <;> rw [hk.out] <;> decide
 have b9 : (n.k == 9) = false := by rw [hk.out]; rfl
 have b10 : (n.k == 10) = true := by rw [hk.out]; rfl
 have b11 : (n.k == 11) = false := by rw [hk.out]; rfl
 have b12 : (n.k == 12) = false := by rw [hk.out]; rfl
 have X0 := Lib.hid (Bx.start n A c hst)
 have hlw := hst.2.lt
 clear hst
 go_enter Tryz.func52, Tryz.ntmps52
 go_wp2_with fail
 refine (plain_any n _ _ _ _ _ _ _ (X0.out.st.env hE).ml).mono ?_
 rintro e w1 ⟨(⟨hq, rfl⟩ | ⟨hq, rfl⟩), hb1⟩
 rotate_left
 ·have X1 := Lib.hid (X0.out.below hb1)
  have Q1 := Lib.hid hq
  clear hq hb1
  unfold noneE
  go_wp2
  exact ⟨rfl, NOut.no X1.out.st X1.out.pk (by rw [HOK.out, Q1.out] <;> simp) (by omega)⟩
 have X1 := Lib.hid (X0.out.below hb1)
 have Q1 := Lib.hid hq
 clear hq hb1
 have q0 := X1.out.blk.cell 0 (.int .i64 n.k) rfl
 have q1 := X1.out.blk.cell 1 (.string n.t) rfl
 have q2 := X1.out.blk.cell 2 (.int .i64 n.num) rfl
 have q3 := X1.out.blk.cell 3 (.slice A n.kids.length c) rfl
 go_wp2_with fail
 refine (psay1 _ X1.out.st (by omega)).mono ?_
 rintro e w2 ⟨rfl, h2, p2⟩
 obtain ⟨ws2, e2⟩ : ∃ l : List ByteArray, l = ws ++ [⟨#[108, 111, 110, 103]⟩] := ⟨_, rfl⟩
 rw [← e2] at h2
 have L2 : ws2.length = ws.length + 1 := by rw [e2]; simp
 have E2 := Lib.hid e2
 have X2 := Lib.hid (X1.out.step h2 p2)
 clear e2 h2 p2 q0 q1 q2 q3 
 have q0 := X2.out.blk.cell 0 (.int .i64 n.k) rfl
 have q1 := X2.out.blk.cell 1 (.string n.t) rfl
 have q2 := X2.out.blk.cell 2 (.int .i64 n.num) rfl
 have q3 := X2.out.blk.cell 3 (.slice A n.kids.length c) rfl
 go_wp2
 go_end0
 exact NOut.yes2 X2.out.st X2.out.pk (by rw [HOK.out, Q1.out] <;> simp) (by rw [E2.out, ← HW.out, shw_eq, hk.out]; rfl) (by omega)
theorem typ_11 (w0 : World) (p : Nat) (hE : Env w0) (n : Nd) (hk : Hid (n.k = 11)) : LOk 52 (okC 2) shw w0 p n := by
 intro cs w ws hr hst hb
 obtain ⟨A, c, rfl, hR, hcap, hlm, hn64, hts⟩ := hr.four
 have HR := Lib.hid hR
 have hmany := many_eq n
 clear hr hR
 obtain ⟨ok, HK⟩ : ∃ b, Hid (okC 2 n = b) := ⟨_, rfl⟩
 rw [HK.out]
 obtain ⟨nw, HW⟩ : ∃ b, Hid (shw n = b) := ⟨_, rfl⟩
 rw [HW.out]
 generalize hgm : 10 * many n - 3 = gm
 have hgm2 : 10 * manyL n.kids + 7 = gm := by omega
 have HGM := Lib.hid hgm
 clear hgm
 have HOK : Hid (ok = plainB n true false 0 0) := by
  show _ = _
  rw [← HK.out, okC_of (by rw [hk.out]; rfl), isN_leaf (text := true) (by rw [hk.out]; rfl)] <;> rw [hk.out] <;> decide
 have b9 : (n.k == 9) = false := by rw [hk.out]; rfl
 have b10 : (n.k == 10) = false := by rw [hk.out]; rfl
 have b11 : (n.k == 11) = true := by rw [hk.out]; rfl
 have b12 : (n.k == 12) = false := by rw [hk.out]; rfl
 have X0 := Lib.hid (Bx.start n A c hst)
 have hlw := hst.2.lt
 clear hst
 go_enter Tryz.func52, Tryz.ntmps52
 go_wp2_with fail
 refine (plain_any n _ _ _ _ _ _ _ (X0.out.st.env hE).ml).mono ?_
 rintro e w1 ⟨(⟨hq, rfl⟩ | ⟨hq, rfl⟩), hb1⟩
 rotate_left
 ·have X1 := Lib.hid (X0.out.below hb1)
  have Q1 := Lib.hid hq
  clear hq hb1
  unfold noneE
  go_wp2
  exact ⟨rfl, NOut.no X1.out.st X1.out.pk (by rw [HOK.out, Q1.out] <;> simp) (by omega)⟩
 have X1 := Lib.hid (X0.out.below hb1)
 have Q1 := Lib.hid hq
 clear hq hb1
 have q0 := X1.out.blk.cell 0 (.int .i64 n.k) rfl
 have q1 := X1.out.blk.cell 1 (.string n.t) rfl
 have q2 := X1.out.blk.cell 2 (.int .i64 n.num) rfl
 have q3 := X1.out.blk.cell 3 (.slice A n.kids.length c) rfl
 go_wp2_with fail
 refine (psay1 _ X1.out.st (by omega)).mono ?_
 rintro e w2 ⟨rfl, h2, p2⟩
 obtain ⟨ws2, e2⟩ : ∃ l : List ByteArray, l = ws ++ [n.t] := ⟨_, rfl⟩
 rw [← e2] at h2
 have L2 : ws2.length = ws.length + 1 := by rw [e2]; simp
 have E2 := Lib.hid e2
 have X2 := Lib.hid (X1.out.step h2 p2)
 clear e2 h2 p2 q0 q1 q2 q3 
 have q0 := X2.out.blk.cell 0 (.int .i64 n.k) rfl
 have q1 := X2.out.blk.cell 1 (.string n.t) rfl
 have q2 := X2.out.blk.cell 2 (.int .i64 n.num) rfl
 have q3 := X2.out.blk.cell 3 (.slice A n.kids.length c) rfl
 go_wp2
 go_end0
 exact NOut.yes2 X2.out.st X2.out.pk (by rw [HOK.out, Q1.out] <;> simp) (by rw [E2.out, ← HW.out, shw_eq, hk.out]; rfl) (by omega)
theorem typ_12 (w0 : World) (p : Nat) (hE : Env w0) (n : Nd) (hk : Hid (n.k = 12)) (IH : ∀ m ∈ n.kids, LOk 52 (okC 2) shw w0 p m) : LOk 52 (okC 2) shw w0 p n := by
 intro cs w ws hr hst hb
 obtain ⟨A, c, rfl, hR, hcap, hlm, hn64, hts⟩ := hr.four
 have HR := Lib.hid hR
 have hmany := many_eq n
 clear hr hR
 obtain ⟨ok, HK⟩ : ∃ b, Hid (okC 2 n = b) := ⟨_, rfl⟩
 rw [HK.out]
 obtain ⟨nw, HW⟩ : ∃ b, Hid (shw n = b) := ⟨_, rfl⟩
 rw [HW.out]
 generalize hgm : 10 * many n - 3 = gm
 have hgm2 : 10 * manyL n.kids + 7 = gm := by omega
 have HGM := Lib.hid hgm
 clear hgm
 obtain ⟨rest, HRR⟩ : ∃ b, Hid (isNL n.k 0 n.kids.length n.kids = b) := ⟨_, rfl⟩
 have HOK : Hid (ok = ((decide (0 ≤ n.num) && decide (n.num ≤ 1)) && plainB n false true 1 (-1) && rest)) := by
  show _ = _
  rw [← HK.out, okC_of (by rw [hk.out]; rfl), isN_p1 (text := false) (num := 1) (least := 1) (most := -1) (by rw [hk.out]; rfl) (by omega) (by omega) (by rw [hk.out]; decide) (by rw [hk.out]; decide) (by rw [hk.out]; decide) (by rw [hk.out]; decide), HRR.out]
  generalize (decide (0 ≤ n.num) && decide (n.num ≤ 1)) = x
  rw [Bool.and_comm x]
  rfl
 have b9 : (n.k == 9) = false := by rw [hk.out]; rfl
 have b10 : (n.k == 10) = false := by rw [hk.out]; rfl
 have b11 : (n.k == 11) = false := by rw [hk.out]; rfl
 have b12 : (n.k == 12) = true := by rw [hk.out]; rfl
 have hmf : ∀ (fn : Fn) (first cap : Array Value) (w : World), (Instr.makeFunc fn first cap).run Tryz.prog w = .ok (.func fn first cap) w := fun _ _ _ _ => rfl
 have X0 := Lib.hid (Bx.start n A c hst)
 have hlw := hst.2.lt
 clear hst
 rcases hc : (decide (0 ≤ n.num) && decide (n.num ≤ 1)) with _ | _
 ·have Q1 := Lib.hid hc
  have hd : decide (0 ≤ n.num) = false ∨ (decide (0 ≤ n.num) = true ∧ decide (n.num ≤ 1) = false) := by revert hc; cases decide (0 ≤ n.num) <;> simp
  clear hc
  rcases hd with d0 | ⟨d0, d1⟩
  all_goals go_enter Tryz.func52, Tryz.ntmps52
  all_goals go_wp2_with fail
  all_goals refine (must_no _).mono ?_
  all_goals rintro e w' ⟨rfl, rfl⟩
  all_goals go_wp2
  all_goals exact ⟨rfl, NOut.no X0.out.st X0.out.pk (by rw [HOK.out, Q1.out] <;> simp) (by omega)⟩
 have Q1 := Lib.hid hc
 have hd : decide (0 ≤ n.num) = true ∧ decide (n.num ≤ 1) = true := by simpa only [Bool.and_eq_true] using hc
 obtain ⟨d0, d1⟩ := hd
 clear hc
 go_enter Tryz.func52, Tryz.ntmps52
 go_wp2_with fail
 refine (must_yes _).mono ?_
 rintro e w' ⟨rfl, rfl⟩
 have X1 := X0
 go_wp2_with fail
 refine (plain_any n _ _ _ _ _ _ _ (X1.out.st.env hE).ml).mono ?_
 rintro e w2 ⟨(⟨hq, rfl⟩ | ⟨hq, rfl⟩), hb2⟩
 rotate_left
 ·have X2 := Lib.hid (X1.out.below hb2)
  have Q2 := Lib.hid hq
  clear hq hb2
  unfold noneE
  go_wp2
  exact ⟨rfl, NOut.no X2.out.st X2.out.pk (by rw [HOK.out, Q1.out, Q2.out] <;> simp) (by omega)⟩
 have X2 := Lib.hid (X1.out.below hb2)
 have Q2 := Lib.hid hq
 clear hq hb2
 have q0 := X2.out.blk.cell 0 (.int .i64 n.k) rfl
 have q1 := X2.out.blk.cell 1 (.string n.t) rfl
 have q2 := X2.out.blk.cell 2 (.int .i64 n.num) rfl
 have q3 := X2.out.blk.cell 3 (.slice A n.kids.length c) rfl
 obtain ⟨l, x, bb, oo, Ax, cx, hkl, rfl, hbl, ri, k0, k1, k2, k3, rx⟩ := last_kid HR.out (by have := (plain_len Q2.out).1; omega)
 have hlen : n.kids.length = l.length + 1 := by rw [hkl]; simp
 have RX := Lib.hid rx
 have RI := Lib.hid ri
 have IHL := Lib.hid (fun m (hm : m ∈ l) => IH m (by rw [hkl]; simp [hm]))
 have IHX := Lib.hid (IH x (by rw [hkl]; simp))
 have HREST : Hid (rest = (l.all (okC 2) && okC 2 x)) := by
  show _ = _
  rw [← HRR.out, hk.out, isNL_okC (c := 2) _ _ (fun _ _ _ => rfl), hkl, List.all_append]
  simp
 have HSH : Hid (nw = ⟨#[102, 110]⟩ :: (rowW (l.map shw) (n.num == 1) ++ shw x)) := by
  show _ = _
  rw [← HW.out, shw_eq, hk.out, hkl, List.map_append]
  show ⟨#[102, 110]⟩ :: (rowW (l.map shw ++ [shw x]).dropLast (n.num == 1) ++ nthW (l.map shw ++ [shw x]) ((l.map shw ++ [shw x]).length - 1)) = _
  rw [nthW_last, List.dropLast_concat]
 have hml : manyL l + many x = manyL n.kids := by rw [hkl, manyL_append, manyL_one]
 have hposx := many_pos x
 have HLEN := Lib.hid hlen
 have hs := fun w => sl_hi ⟨bb, oo, none⟩ n.kids.length c l.length w (by omega) hcap
 have hwr : wrap64 ((n.kids.length : Int) - 1) = (l.length : Int) := by rw [show ((n.kids.length : Int) - 1) = (l.length : Int) by omega]; exact IntWalk.wrap64_in _ (by unfold maxLen at hlm; omega)
 have hjp : 0 < n.kids.length := by omega
 have hjl : l.length < n.kids.length := by omega
 clear ri rx IH hkl hlen
 go_wp2_with fail
 refine (psay1 _ X2.out.st (by omega)).mono ?_
 rintro e w3 ⟨rfl, h3, p3⟩
 obtain ⟨ws3, e3⟩ : ∃ l : List ByteArray, l = ws ++ [⟨#[102, 110]⟩] := ⟨_, rfl⟩
 rw [← e3] at h3
 have L3 : ws3.length = ws.length + 1 := by rw [e3]; simp
 have E3 := Lib.hid e3
 have X3 := Lib.hid (X2.out.step h3 p3)
 clear e3 h3 p3 q0 q1 q2 q3 
 have q0 := X3.out.blk.cell 0 (.int .i64 n.k) rfl
 have q1 := X3.out.blk.cell 1 (.string n.t) rfl
 have q2 := X3.out.blk.cell 2 (.int .i64 n.num) rfl
 have q3 := X3.out.blk.cell 3 (.slice (some ⟨bb, oo, none⟩) n.kids.length c) rfl
 go_wp2_with fail
 go_still_tail 10, (by kernel_rfl)
 change wpList _ _ _ _ _ w3.drew
 have X4 := Lib.hid X3.out.drew
 go_wp2_with fail
 refine (pr_list_any 52 (okC 2) shw w0 _ p _ l _ c (n.num == 1) RI.out X4.out.st (by omega) cf_typ IHL.out).mono ?_
 rintro e w5 ⟨ws5, h5, p5, L5, (⟨o5, rfl, e5⟩ | ⟨o5, rfl⟩)⟩
 rotate_left
 ·have X5 := Lib.hid (X4.out.step h5 p5)
  have Q5 := Lib.hid o5
  clear h5 p5 o5
  unfold noneE
  go_wp2
  exact ⟨rfl, NOut.no X5.out.st X5.out.pk (by rw [HOK.out, Q1.out, Q2.out, HREST.out, Q5.out] <;> simp) (by omega)⟩
 have X5 := Lib.hid (X4.out.step h5 p5)
 have Q5 := Lib.hid o5
 have E5 := Lib.hid e5
 clear h5 p5 o5 e5 q0 q1 q2 q3 
 have q0 := X5.out.blk.cell 0 (.int .i64 n.k) rfl
 have q1 := X5.out.blk.cell 1 (.string n.t) rfl
 have q2 := X5.out.blk.cell 2 (.int .i64 n.num) rfl
 have q3 := X5.out.blk.cell 3 (.slice (some ⟨bb, oo, none⟩) n.kids.length c) rfl
 have bw := X5.out.st.1
 have z0 := (bw.cell (p := ⟨bb, oo + l.length * 4, none⟩) hbl).trans k0
 have z1 := (bw.cell (p := ⟨bb, oo + l.length * 4 + 1, none⟩) hbl).trans k1
 have z2 := (bw.cell (p := ⟨bb, oo + l.length * 4 + 2, none⟩) hbl).trans k2
 have z3 := (bw.cell (p := ⟨bb, oo + l.length * 4 + 3, none⟩) hbl).trans k3
 clear bw
 go_wp2_with fail
 refine (IHX.out _ _ _ RX.out X5.out.st (by omega)).mono ?_
 rintro e w6 ⟨ws6, h6, p6, L6, (⟨o6, rfl, e6⟩ | ⟨o6, rfl⟩)⟩
 rotate_left
 ·have X6 := Lib.hid (X5.out.step h6 p6)
  have Q6 := Lib.hid o6
  clear h6 p6 o6
  unfold noneE
  go_wp2
  exact ⟨rfl, NOut.no X6.out.st X6.out.pk (by rw [HOK.out, Q1.out, Q2.out, HREST.out, Q5.out, Q6.out] <;> simp) (by omega)⟩
 have X6 := Lib.hid (X5.out.step h6 p6)
 have Q6 := Lib.hid o6
 have E6 := Lib.hid e6
 clear h6 p6 o6 e6 q0 q1 q2 q3 z0 z1 z2 z3
 have q0 := X6.out.blk.cell 0 (.int .i64 n.k) rfl
 have q1 := X6.out.blk.cell 1 (.string n.t) rfl
 have q2 := X6.out.blk.cell 2 (.int .i64 n.num) rfl
 have q3 := X6.out.blk.cell 3 (.slice (some ⟨bb, oo, none⟩) n.kids.length c) rfl
 go_wp2
 go_end0
 exact NOut.yes2 X6.out.st X6.out.pk (by rw [HOK.out, Q1.out, Q2.out, HREST.out, Q5.out, Q6.out] <;> simp) (by rw [E6.out, E5.out, E3.out, HSH.out]; simp) (by omega)
theorem typ_no (w0 : World) (p : Nat) (hE : Env w0) (n : Nd) (hk : Hid (n.k < 9 ∨ 12 < n.k)) : LOk 52 (okC 2) shw w0 p n := by
 intro cs w ws hr hst hb
 obtain ⟨A, c, rfl, hR, hcap, hlm, hn64, hts⟩ := hr.four
 have HR := Lib.hid hR
 have hmany := many_eq n
 clear hr hR
 obtain ⟨ok, HK⟩ : ∃ b, Hid (okC 2 n = b) := ⟨_, rfl⟩
 rw [HK.out]
 obtain ⟨nw, HW⟩ : ∃ b, Hid (shw n = b) := ⟨_, rfl⟩
 rw [HW.out]
 generalize hgm : 10 * many n - 3 = gm
 have hgm2 : 10 * manyL n.kids + 7 = gm := by omega
 have HGM := Lib.hid hgm
 clear hgm
 have HOK : Hid (ok = false) := by
  show _ = _
  rw [← HK.out]
  unfold okC cls
  have := hk.out
  by_cases h1 : n.k = 2 ∨ 4 ≤ n.k ∧ n.k ≤ 7
  ·rw [if_pos h1]; rfl
  ·rw [if_neg h1, if_neg (by omega)]
   split
   ·rfl
   ·split <;> rfl
 have b9 : (n.k == 9) = false := by simp; have := hk.out; omega
 have b10 : (n.k == 10) = false := by simp; have := hk.out; omega
 have b11 : (n.k == 11) = false := by simp; have := hk.out; omega
 have b12 : (n.k == 12) = false := by simp; have := hk.out; omega
 have X0 := Lib.hid (Bx.start n A c hst)
 have hlw := hst.2.lt
 clear hst
 go_enter Tryz.func52, Tryz.ntmps52
 go_wp2_with fail
 refine (must_no _).mono ?_
 rintro e w' ⟨rfl, rfl⟩
 go_wp2
 exact ⟨rfl, NOut.no X0.out.st X0.out.pk HOK.out (by omega)⟩
theorem typ_any (w0 : World) (p : Nat) (hE : Env w0) : ∀ (N : Nat) (n : Nd), many n ≤ N → LOk 52 (okC 2) shw w0 p n
 | 0, n, h => absurd h (by have := many_pos n; omega)
 | N + 1, n, h => by
  by_cases h9 : n.k = 9
  ·exact typ_9 w0 p hE n h9
  by_cases h10 : n.k = 10
  ·exact typ_10 w0 p hE n h10
  by_cases h11 : n.k = 11
  ·exact typ_11 w0 p hE n h11
  by_cases h12 : n.k = 12
  ·exact typ_12 w0 p hE n h12 fun m hm => typ_any w0 p hE N m (by have := many_kid hm; omega)
  ·exact typ_no w0 p hE n (show n.k < 9 ∨ 12 < n.k by omega)
theorem typ_ok (w0 : World) (p : Nat) (hE : Env w0) (n : Nd) : LOk 52 (okC 2) shw w0 p n := typ_any w0 p hE _ n (Nat.le_refl _)
theorem param_8 (w0 : World) (p : Nat) (hE : Env w0) (n : Nd) (hk : Hid (n.k = 8)) : LOk 54 (okP 8) shw w0 p n := by
 intro cs w ws hr hst hb
 obtain ⟨A, c, rfl, hR, hcap, hlm, hn64, hts⟩ := hr.four
 have HR := Lib.hid hR
 have hmany := many_eq n
 clear hr hR
 obtain ⟨ok, HK⟩ : ∃ b, Hid (okP 8 n = b) := ⟨_, rfl⟩
 rw [HK.out]
 obtain ⟨nw, HW⟩ : ∃ b, Hid (shw n = b) := ⟨_, rfl⟩
 rw [HW.out]
 generalize hgm : 10 * many n - 3 = gm
 have hgm2 : 10 * manyL n.kids + 7 = gm := by omega
 have HGM := Lib.hid hgm
 clear hgm
 obtain ⟨rest, HRR⟩ : ∃ b, Hid (isNL n.k 0 n.kids.length n.kids = b) := ⟨_, rfl⟩
 have HOK : Hid (ok = (plainB n true false 1 1 && rest)) := by
  show _ = _
  rw [← HK.out, okP_of hk.out, isN_p0 (text := true) (least := 1) (most := 1) (by rw [hk.out]; rfl) (by rw [hk.out]; decide) (by rw [hk.out]; decide) (by rw [hk.out]; decide) (by rw [hk.out]; decide), HRR.out]
  rfl
 have b8 : (n.k == 8) = true := by rw [hk.out]; rfl
 have X0 := Lib.hid (Bx.start n A c hst)
 have hlw := hst.2.lt
 clear hst
 go_enter Tryz.func54, Tryz.ntmps54
 go_wp2_with fail
 refine (must_yes _).mono ?_
 rintro e w' ⟨rfl, rfl⟩
 go_wp2_with fail
 refine (plain_any n _ _ _ _ _ _ _ (X0.out.st.env hE).ml).mono ?_
 rintro e w1 ⟨(⟨hq, rfl⟩ | ⟨hq, rfl⟩), hb1⟩
 rotate_left
 ·have X1 := Lib.hid (X0.out.below hb1)
  have Q1 := Lib.hid hq
  clear hq hb1
  unfold noneE
  go_wp2
  exact ⟨rfl, NOut.no X1.out.st X1.out.pk (by rw [HOK.out, Q1.out] <;> simp) (by omega)⟩
 have X1 := Lib.hid (X0.out.below hb1)
 have Q1 := Lib.hid hq
 clear hq hb1
 have q0 := X1.out.blk.cell 0 (.int .i64 n.k) rfl
 have q1 := X1.out.blk.cell 1 (.string n.t) rfl
 have q2 := X1.out.blk.cell 2 (.int .i64 n.num) rfl
 have q3 := X1.out.blk.cell 3 (.slice A n.kids.length c) rfl
 obtain ⟨x, hkx⟩ := oneKid Q1.out
 obtain ⟨bb, oo, Ax, cx, hA, hbl, k0, k1, k2, k3, rx⟩ := first_kid HR.out (by rw [hkx]; rfl : n.kids[0]? = some x)
 subst hA
 have RX := Lib.hid rx
 have hml : many x = manyL n.kids := by rw [hkx, manyL_one]
 have hposx := many_pos x
 have hlen : n.kids.length = 1 := by rw [hkx]; rfl
 have hjp : 0 < n.kids.length := by omega
 have HKX := Lib.hid hkx
 have HLEN := Lib.hid hlen
 clear rx hkx hlen
 have HREST : Hid (rest = okC 2 x) := by
  show _ = _
  rw [← HRR.out, hk.out, isNL_okC (c := 2) _ _ (fun _ _ _ => rfl), HKX.out]
  simp
 have HSH : Hid (nw = shw x ++ [n.t]) := by
  show _ = _
  rw [← HW.out, shw_eq, hk.out, HKX.out]
  rfl
 have bw := X1.out.st.1
 have z0 := (bw.cell (p := ⟨bb, oo + 0 * 4, none⟩) hbl).trans k0
 have z1 := (bw.cell (p := ⟨bb, oo + 0 * 4 + 1, none⟩) hbl).trans k1
 have z2 := (bw.cell (p := ⟨bb, oo + 0 * 4 + 2, none⟩) hbl).trans k2
 have z3 := (bw.cell (p := ⟨bb, oo + 0 * 4 + 3, none⟩) hbl).trans k3
 clear bw
 simp only [Nat.zero_mul, Nat.add_zero] at z0 z1 z2 z3
 go_wp2_with fail
 refine (typ_ok w0 p hE x _ _ _ RX.out X1.out.st (by omega)).mono ?_
 rintro e w2 ⟨ws2, h2, p2, L2, (⟨o2, rfl, e2⟩ | ⟨o2, rfl⟩)⟩
 rotate_left
 ·have X2 := Lib.hid (X1.out.step h2 p2)
  have Q2 := Lib.hid o2
  clear h2 p2 o2
  unfold noneE
  go_wp2
  exact ⟨rfl, NOut.no X2.out.st X2.out.pk (by rw [HOK.out, Q1.out, HREST.out, Q2.out] <;> simp) (by omega)⟩
 have X2 := Lib.hid (X1.out.step h2 p2)
 have Q2 := Lib.hid o2
 have E2 := Lib.hid e2
 clear h2 p2 o2 e2 q0 q1 q2 q3 z0 z1 z2 z3
 have q0 := X2.out.blk.cell 0 (.int .i64 n.k) rfl
 have q1 := X2.out.blk.cell 1 (.string n.t) rfl
 have q2 := X2.out.blk.cell 2 (.int .i64 n.num) rfl
 have q3 := X2.out.blk.cell 3 (.slice (some ⟨bb, oo, none⟩) n.kids.length c) rfl
 go_wp2_with fail
 refine (psay1 _ X2.out.st (by omega)).mono ?_
 rintro e w3 ⟨rfl, h3, p3⟩
 obtain ⟨ws3, e3⟩ : ∃ l : List ByteArray, l = ws2 ++ [n.t] := ⟨_, rfl⟩
 rw [← e3] at h3
 have L3 : ws3.length = ws2.length + 1 := by rw [e3]; simp
 have E3 := Lib.hid e3
 have X3 := Lib.hid (X2.out.step h3 p3)
 clear e3 h3 p3 q0 q1 q2 q3 
 have q0 := X3.out.blk.cell 0 (.int .i64 n.k) rfl
 have q1 := X3.out.blk.cell 1 (.string n.t) rfl
 have q2 := X3.out.blk.cell 2 (.int .i64 n.num) rfl
 have q3 := X3.out.blk.cell 3 (.slice (some ⟨bb, oo, none⟩) n.kids.length c) rfl
 go_wp2
 go_end0
 exact NOut.yes2 X3.out.st X3.out.pk (by rw [HOK.out, Q1.out, HREST.out, Q2.out] <;> simp) (by rw [E3.out, E2.out, HSH.out]; simp) (by omega)
theorem param_no (w0 : World) (p : Nat) (hE : Env w0) (n : Nd) (hk : Hid (n.k ≠ 8)) : LOk 54 (okP 8) shw w0 p n := by
 intro cs w ws hr hst hb
 obtain ⟨A, c, rfl, hR, hcap, hlm, hn64, hts⟩ := hr.four
 have HR := Lib.hid hR
 have hmany := many_eq n
 clear hr hR
 obtain ⟨ok, HK⟩ : ∃ b, Hid (okP 8 n = b) := ⟨_, rfl⟩
 rw [HK.out]
 obtain ⟨nw, HW⟩ : ∃ b, Hid (shw n = b) := ⟨_, rfl⟩
 rw [HW.out]
 generalize hgm : 10 * many n - 3 = gm
 have hgm2 : 10 * manyL n.kids + 7 = gm := by omega
 have HGM := Lib.hid hgm
 clear hgm
 have HOK : Hid (ok = false) := by
  show _ = _
  rw [← HK.out]
  unfold okP
  simp [hk.out]
 have b8 : (n.k == 8) = false := by simp; have := hk.out; omega
 have X0 := Lib.hid (Bx.start n A c hst)
 have hlw := hst.2.lt
 clear hst
 go_enter Tryz.func54, Tryz.ntmps54
 go_wp2_with fail
 refine (must_no _).mono ?_
 rintro e w' ⟨rfl, rfl⟩
 go_wp2
 exact ⟨rfl, NOut.no X0.out.st X0.out.pk HOK.out (by omega)⟩
theorem param_ok (w0 : World) (p : Nat) (hE : Env w0) (n : Nd) : LOk 54 (okP 8) shw w0 p n := by
 by_cases h8 : n.k = 8
 ·exact param_8 w0 p hE n h8
 ·exact param_no w0 p hE n h8
theorem cf_param : ∀ (args : Array Value) (w : World), (callFunc 54 args).run Tryz.prog w = .ok (.enter 54 args) w := cf_of Tryz.func54 (by kernel_rfl) (by kernel_rfl)
end Go.Proofs.YtgegfbopogcjpaaGreatDoor
namespace Go.Proofs.YtgegfbopogcjpaaGreatDoor
open Go.RowKit
set_option linter.unusedVariables false
set_option linter.unusedSimpArgs false
set_option maxRecDepth 100000
def PlainKey (d : TypeDesc) (k : Value) : Prop := (∃ i n, d = .int i ∧ k = .int i n) ∨ (∃ b, d = .bool ∧ k = .bool b)
theorem checkKey_plain {P : Program} {w : World} {kt : TypeId} {d : TypeDesc} {k : Value} (hd : P.underlying kt = some d) (hk : PlainKey d k) (e : Bool) (n : Nat) : (Instr.checkKey e (n + 1) kt k).run P w = .ok () w := by
 unfold Instr.checkKey
 simp only [Sem.run_bind, run_underlying hd, Result.andThen]
 rcases hk with ⟨i, m, rfl, rfl⟩ | ⟨b, rfl, rfl⟩ <;> rfl
theorem push_set (a : Array Obj) (o o' : Obj) : (a.push o).setIfInBounds a.size o' = a.push o' := by
 apply Array.ext
 ·simp
 ·intro i h1 h2
  rw [Array.getElem_setIfInBounds, Array.getElem_push, Array.getElem_push]
  ·by_cases h : i = a.size
   ·subst h; simp
   ·have : i < a.size := by simp at h2; omega
    rw [if_neg (fun e => h e.symm), dif_pos this, dif_pos this]
  ·simp at h1 ⊢; omega
theorem set_alloc (w : World) (o o' : Obj) : ({ w.alloc o with heap := (w.alloc o).heap.setIfInBounds w.heap.size o' } : World) = w.alloc o' :=
 congrArg (fun h => ({ w with heap := h } : World)) (push_set w.heap o o')
theorem mu_alloc {P : Program} (mty kt et : TypeId) (d : TypeDesc) (k val : Value) (es : Array MapEntry) (clock : Nat) (hm : P.underlying mty = some (.map kt et)) (hd : P.underlying kt = some d) (hk : PlainKey d k) (hf : Instr.findNow d k es.toList 0 = some none) (w : World) :
 (Instr.mapUpdate mty (.map (some w.heap.size)) k val).run P (w.alloc (.map es clock)) = .ok () (w.alloc (.map (es.push { key := k, val := val, born := clock }) (clock + 1))) := by
 have hb : (w.alloc (.map es clock)).heap[w.heap.size]? = some (.map es clock) := heap_alloc_new w _
 have hc : (Instr.checkKey false 10000 kt k).run P (w.alloc (.map es clock)) = .ok () (w.alloc (.map es clock)) := checkKey_plain hd hk false 9999
 simp [Instr.mapUpdate, run_underlying hm, MapKept.run_getObj_map hb, hc, MapKept.run_findKey hd hf, MapKept.run_setObj_map _ hb, Result.andThen]
 exact set_alloc w _ _
theorem lk_alloc {P : Program} (mty kt et : TypeId) (d : TypeDesc) (k val : Value) (es : Array MapEntry) (clock i : Nat) (hm : P.underlying mty = some (.map kt et)) (hd : P.underlying kt = some d) (hk : PlainKey d k) (hf : Instr.findNow d k es.toList 0 = some (some (i, val))) (w : World) :
 (Instr.lookup mty (.map (some w.heap.size)) k false).run P (w.alloc (.map es clock)) = .ok val (w.alloc (.map es clock)) := by
 have hb : (w.alloc (.map es clock)).heap[w.heap.size]? = some (.map es clock) := heap_alloc_new w _
 have hc : ∀ em, (Instr.checkKey em 10000 kt k).run P (w.alloc (.map es clock)) = .ok () (w.alloc (.map es clock)) := fun em => checkKey_plain hd hk em 9999
 simp only [Instr.lookup, Sem.run_bind, Sem.run_pure, run_underlying hm, MapKept.run_getObj_map hb, Result.andThen, hc, MapKept.run_findKey hd hf]
 rfl
def mapB1 : Array MapEntry := #[{ key := .bool true, val := .string ⟨#[45]⟩, born := 0 }]
def mapB2 : Array MapEntry := #[{ key := .bool true, val := .string ⟨#[45]⟩, born := 0 }, { key := .bool false, val := .string ⟨#[33]⟩, born := 1 }]
theorem mu_b1 (w : World) : (Instr.mapUpdate 140 (.map (some w.heap.size)) (.bool true) (.string ⟨#[45]⟩)).run Tryz.prog (w.alloc (.map #[] 0)) = .ok () (w.alloc (.map mapB1 1)) :=
 mu_alloc _ _ _ _ _ _ _ _ Tryz.underlying140 Tryz.underlying4 (.inr ⟨true, rfl, rfl⟩) rfl w
theorem mu_b2 (w : World) : (Instr.mapUpdate 140 (.map (some w.heap.size)) (.bool false) (.string ⟨#[33]⟩)).run Tryz.prog (w.alloc (.map mapB1 1)) = .ok () (w.alloc (.map mapB2 2)) :=
 mu_alloc _ _ _ _ _ _ _ _ Tryz.underlying140 Tryz.underlying4 (.inr ⟨false, rfl, rfl⟩) rfl w
theorem lk_b (b : Bool) (w : World) : (Instr.lookup 140 (.map (some w.heap.size)) (.bool b) false).run Tryz.prog (w.alloc (.map mapB2 2)) = .ok (.string (if b then ⟨#[45]⟩ else ⟨#[33]⟩)) (w.alloc (.map mapB2 2)) := by
 cases b
 ·exact lk_alloc _ _ _ _ _ _ _ _ 1 Tryz.underlying140 Tryz.underlying4 (.inr ⟨false, rfl, rfl⟩) rfl w
 ·exact lk_alloc _ _ _ _ _ _ _ _ 0 Tryz.underlying140 Tryz.underlying4 (.inr ⟨true, rfl, rfl⟩) rfl w
def mapI1 : Array MapEntry := #[{ key := .int .i64 30, val := .string ⟨#[105, 110, 116]⟩, born := 0 }]
def mapI2 : Array MapEntry := #[{ key := .int .i64 30, val := .string ⟨#[105, 110, 116]⟩, born := 0 }, { key := .int .i64 31, val := .string ⟨#[108, 111, 110, 103]⟩, born := 1 }]
def mapI3 : Array MapEntry := #[{ key := .int .i64 30, val := .string ⟨#[105, 110, 116]⟩, born := 0 }, { key := .int .i64 31, val := .string ⟨#[108, 111, 110, 103]⟩, born := 1 }, { key := .int .i64 34, val := .string ⟨#[101, 120, 116, 114, 97]⟩, born := 2 }]
theorem mu_i1 (w : World) : (Instr.mapUpdate 141 (.map (some w.heap.size)) (.int .i64 30) (.string ⟨#[105, 110, 116]⟩)).run Tryz.prog (w.alloc (.map #[] 0)) = .ok () (w.alloc (.map mapI1 1)) :=
 mu_alloc _ _ _ _ _ _ _ _ Tryz.underlying141 Tryz.underlying3 (.inl ⟨_, _, rfl, rfl⟩) rfl w
theorem mu_i2 (w : World) : (Instr.mapUpdate 141 (.map (some w.heap.size)) (.int .i64 31) (.string ⟨#[108, 111, 110, 103]⟩)).run Tryz.prog (w.alloc (.map mapI1 1)) = .ok () (w.alloc (.map mapI2 2)) :=
 mu_alloc _ _ _ _ _ _ _ _ Tryz.underlying141 Tryz.underlying3 (.inl ⟨_, _, rfl, rfl⟩) rfl w
theorem mu_i3 (w : World) : (Instr.mapUpdate 141 (.map (some w.heap.size)) (.int .i64 34) (.string ⟨#[101, 120, 116, 114, 97]⟩)).run Tryz.prog (w.alloc (.map mapI2 2)) = .ok () (w.alloc (.map mapI3 3)) :=
 mu_alloc _ _ _ _ _ _ _ _ Tryz.underlying141 Tryz.underlying3 (.inl ⟨_, _, rfl, rfl⟩) rfl w
theorem lk_i30 (w : World) : (Instr.lookup 141 (.map (some w.heap.size)) (.int .i64 30) false).run Tryz.prog (w.alloc (.map mapI3 3)) = .ok (.string ⟨#[105, 110, 116]⟩) (w.alloc (.map mapI3 3)) :=
 lk_alloc _ _ _ _ _ _ _ _ 0 Tryz.underlying141 Tryz.underlying3 (.inl ⟨_, _, rfl, rfl⟩) rfl w
theorem lk_i31 (w : World) : (Instr.lookup 141 (.map (some w.heap.size)) (.int .i64 31) false).run Tryz.prog (w.alloc (.map mapI3 3)) = .ok (.string ⟨#[108, 111, 110, 103]⟩) (w.alloc (.map mapI3 3)) :=
 lk_alloc _ _ _ _ _ _ _ _ 1 Tryz.underlying141 Tryz.underlying3 (.inl ⟨_, _, rfl, rfl⟩) rfl w
theorem lk_i34 (w : World) : (Instr.lookup 141 (.map (some w.heap.size)) (.int .i64 34) false).run Tryz.prog (w.alloc (.map mapI3 3)) = .ok (.string ⟨#[101, 120, 116, 114, 97]⟩) (w.alloc (.map mapI3 3)) :=
 lk_alloc _ _ _ _ _ _ _ _ 2 Tryz.underlying141 Tryz.underlying3 (.inl ⟨_, _, rfl, rfl⟩) rfl w
end Go.Proofs.YtgegfbopogcjpaaGreatDoor
