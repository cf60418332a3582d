/- The printer's small functions: static, sign, level, place, number; What stands first of dots and calls; a node's box written; The printer: place, number, a list in parentheses; The printer: number, a list in parentheses; The printer: a list in parentheses. -/
import Derived.Test.YtgegfbopogcjpaaGreatDoorQ02
import Derived.Test.YtgegfbopogcjpaaGreatDoorQ08
import Derived.Deep.LoopGhost
import Derived.Shelf.Strconv.Itoa4
namespace Go.Proofs.YtgegfbopogcjpaaGreatDoor
open Go.RowKit
set_option linter.unusedVariables false
set_option linter.unusedSimpArgs false
set_option maxRecDepth 100000
set_option maxHeartbeats 1000000
structure Env (w : World) : Prop where
 ml : ML w
 tab : Lib.TabIs Tryz.prog w "internal/strconv.uint64pow10" .u64 Lib.pow10Tab
theorem Env.keep {w w' : World} (h : Env w) (hb : Below w.heap.size w w') : Env w' := by
 refine ⟨h.ml.keep hb, ?_⟩
 have ht := h.tab
 unfold Lib.TabIs World.var? at ht ⊢
 rcases hk : Tryz.prog.globalNamed "internal/strconv.uint64pow10" with _ | g
 ·rw [hk] at ht
  cases ht
 ·rw [hk] at ht
  simp only [Option.bind_some] at ht ⊢
  have hlt : g < w.heap.size := by
   rcases Nat.lt_or_ge g w.heap.size with h' | h'
   ·exact h'
   ·rw [Array.getElem?_eq_none h'] at ht; cases ht
  rw [hb.block g hlt]
  exact ht
def Stq (w0 : World) (p : Nat) (ws : List ByteArray) (w : World) : Prop := Below w0.heap.size w0 w ∧ Pr w0.heap.size p ws w
theorem Stq.env {w0 w : World} {p : Nat} {ws : List ByteArray} (h : Stq w0 p ws w) (hE : Env w0) : Env w := hE.keep h.1
theorem Stq.alloc {w0 w : World} {p : Nat} {ws : List ByteArray} (h : Stq w0 p ws w) (o : Obj) : Stq w0 p ws (w.alloc o) := ⟨h.1.alloc h.2.le o, h.2.alloc o⟩
theorem Stq.below {w0 w w' : World} {p : Nat} {ws : List ByteArray} (h : Stq w0 p ws w) (hb : Below w.heap.size w w') : Stq w0 p ws w' := by
 refine ⟨below_trans h.1 (Nat.le_refl _) hb, ?_⟩
 obtain ⟨h1, v, hk, ho⟩ := h.2
 exact ⟨h1, v, hk.below hb, own_below ho hb⟩
theorem PK.of_below {w w' : World} {B p : Nat} {ws : List ByteArray} (h : Pr B p ws w) (hb : Below w.heap.size w w') : PK p w w' := by
 refine ⟨hb.os, hb.tape, hb.output, hb.size, fun k hk _ hr => ⟨hb.block k hk, ?_⟩⟩
 have e : rowAt w' p = rowAt w p := by
  unfold rowAt
  rw [hb.cell (p := ⟨p, 0, none⟩) h.lt]
 rw [e]
 exact hr
theorem PK.blk {B p k : Nat} {ws : List ByteArray} {w w' : World} {t : TypeId} {cs : Array Value} (h : PK p w w') (hp : Pr B p ws w) (hk : Blk w k t cs) (h1 : t ≠ 9) (h2 : t ≠ 58) : Blk w' k t cs := by
 obtain ⟨h0, v, hb, ho⟩ := hp
 refine ((h.keep k hk.lt (fun e => ?_) ?_).1).trans hk
 ·subst e
  unfold Blk at hk hb
  rw [hk] at hb
  injection hb with hb
  injection hb with _ hb
  exact h2 hb
 ·rw [rowAt_of hb]
  exact own_blk ho hk (fun e => h1 e.symm)
def NOut (w0 : World) (p : Nat) (ws : List ByteArray) (ok : Bool) (new : List ByteArray) (m : Nat) (w : World) (e : Ending) (w' : World) : Prop :=
 ∃ ws', Stq w0 p ws' w' ∧ PK p w w' ∧ ws'.length ≤ ws.length + m ∧ (ok = true ∧ e = .returned (.tuple #[]) ∧ ws' = ws ++ new ∨ ok = false ∧ e = noneE)
theorem NOut.yes {w0 w w' : World} {p m : Nat} {ws new ws' : List ByteArray} {ok : Bool} (hs : Stq w0 p ws' w') (hk : PK p w w') (h1 : ok = true) (h2 : ws' = ws ++ new) (h3 : new.length ≤ m) : NOut w0 p ws ok new m w (.returned (.tuple #[])) w' :=
 ⟨ws', hs, hk, by rw [h2, List.length_append]; omega, .inl ⟨h1, rfl, h2⟩⟩
theorem NOut.no {w0 w w' : World} {p m : Nat} {ws new ws' : List ByteArray} {ok : Bool} (hs : Stq w0 p ws' w') (hk : PK p w w') (h1 : ok = false) (h3 : ws'.length ≤ ws.length + m) : NOut w0 p ws ok new m w noneE w' :=
 ⟨ws', hs, hk, h3, .inr ⟨h1, rfl⟩⟩
theorem must_yes (w : World) : Calls Tryz.prog 18 #[.bool true] w fun e w' => e = .returned (.tuple #[]) ∧ w = w' := (must_any true w).mono fun e w' ⟨h, hw⟩ => ⟨(by rcases h with ⟨_, h⟩ | ⟨h, _⟩; exact h; cases h), hw⟩
theorem must_no (w : World) : Calls Tryz.prog 18 #[.bool false] w fun e w' => e = .panicked [{ v := .iface 52 (.agg #[]), recovered := false }] ∧ w = w' := (must_any false w).mono fun e w' ⟨h, hw⟩ => ⟨(by rcases h with ⟨h, _⟩ | ⟨_, h⟩; cases h; exact h), hw⟩
theorem SayOut.st {w0 w w' : World} {p : Nat} {ws : List ByteArray} {e : Ending} (h : SayOut w0.heap.size p ws w e w') {ws0 : List ByteArray} (hs : Stq w0 p ws0 w) : e = .returned (.tuple #[]) ∧ Stq w0 p ws w' ∧ PK p w w' :=
 ⟨h.1, ⟨hs.1.trans (h.2.2.below hs.2), h.2.1⟩, h.2.2⟩
theorem psay1 {w0 w : World} {p g : Nat} {ws : List ByteArray} (x : ByteArray) (h : Stq w0 p ws w) (hb : ws.length + 1 ≤ 100000) (hg : w.heap.size = g := by first | rfl | simp) :
 Calls Tryz.prog 51 #[.pointer (some ⟨p, 0, none⟩), .slice (some ⟨g, 0, none⟩) 1 1] (w.alloc (.cells #[.string x] 9)) fun e w' => e = .returned (.tuple #[]) ∧ Stq w0 p (ws ++ [x]) w' ∧ PK p w w' := by
 subst hg
 exact (say1 w0.heap.size p ws x w h.2 hb).mono fun _ _ k => k.st h
theorem psay2 {w0 w : World} {p g : Nat} {ws : List ByteArray} (x y : ByteArray) (h : Stq w0 p ws w) (hb : ws.length + 2 ≤ 100000) (hg : w.heap.size = g := by first | rfl | simp) :
 Calls Tryz.prog 51 #[.pointer (some ⟨p, 0, none⟩), .slice (some ⟨g, 0, none⟩) 2 2] (w.alloc (.cells #[.string x, .string y] 9)) fun e w' => e = .returned (.tuple #[]) ∧ Stq w0 p (ws ++ [x, y]) w' ∧ PK p w w' := by
 subst hg
 exact (say2 w0.heap.size p ws x y w h.2 hb).mono fun _ _ k => k.st h
theorem psay3 {w0 w : World} {p g : Nat} {ws : List ByteArray} (x y z : ByteArray) (h : Stq w0 p ws w) (hb : ws.length + 3 ≤ 100000) (hg : w.heap.size = g := by first | rfl | simp) :
 Calls Tryz.prog 51 #[.pointer (some ⟨p, 0, none⟩), .slice (some ⟨g, 0, none⟩) 3 3] (w.alloc (.cells #[.string x, .string y, .string z] 9)) fun e w' => e = .returned (.tuple #[]) ∧ Stq w0 p (ws ++ [x, y, z]) w' ∧ PK p w w' := by
 subst hg
 exact (say3 w0.heap.size p ws x y z w h.2 hb).mono fun _ _ k => k.st h
theorem static_any (w0 w : World) (p : Nat) (ws : List ByteArray) (num most : Int) (h : Stq w0 p ws w) (hb : ws.length + 1 ≤ 100000) :
 Calls Tryz.prog 55 #[.pointer (some ⟨p, 0, none⟩), .int .i64 num, .int .i64 most] w (NOut w0 p ws (decide (0 ≤ num) && decide (num ≤ most)) (statW num) 1 w) := by
 have H := Lib.hid h
 clear h
 obtain ⟨ok, HK⟩ : ∃ b, Hid ((decide (0 ≤ num) && decide (num ≤ most)) = b) := ⟨_, rfl⟩
 rw [HK.out]
 by_cases h0 : 0 ≤ num
 ·have d0 : decide (0 ≤ num) = true := by simpa using h0
  by_cases h1 : num ≤ most
  ·have d1 : decide (num ≤ most) = true := by simpa using h1
   have hV : Hid (ok = true) := by show _ = _; rw [← HK.out, d0, d1]; rfl
   by_cases h2 : num % 2 = 1
   ·have hW : Hid (statW num = [⟨#[115, 116, 97, 116, 105, 99]⟩]) := if_pos h2
    have h2b : (num % 2 == 1) = true := by simpa using h2
    clear h2
    go_enter Tryz.func55, Tryz.ntmps55
    go_wp2_with fail
    refine (must_yes _).mono ?_
    rintro e w' ⟨rfl, rfl⟩
    go_wp2_with fail
    refine (psay1 _ H.out hb).mono ?_
    rintro e w' ⟨rfl, h3, h4⟩
    have H3 := Lib.hid h3
    have H4 := Lib.hid h4
    clear h3 h4
    go_wp2
    go_end0
    exact NOut.yes H3.out H4.out hV.out (by rw [hW.out]) (by rw [hW.out]; simp)
   ·have hW : Hid (statW num = []) := if_neg h2
    have h2b : (num % 2 == 1) = false := by simpa using h2
    clear h2
    go_enter Tryz.func55, Tryz.ntmps55
    go_wp2_with fail
    refine (must_yes _).mono ?_
    rintro e w' ⟨rfl, rfl⟩
    go_wp2
    go_end0
    exact NOut.yes H.out (PK.refl_ _ _) hV.out (by rw [hW.out]; simp) (by rw [hW.out]; simp)
  ·have d1 : decide (num ≤ most) = false := by simpa using h1
   have hV : Hid (ok = false) := by show _ = _; rw [← HK.out, d0, d1]; rfl
   go_enter Tryz.func55, Tryz.ntmps55
   go_wp2_with fail
   refine (must_no _).mono ?_
   rintro e w' ⟨rfl, rfl⟩
   go_wp2
   exact ⟨rfl, NOut.no H.out (PK.refl_ _ _) hV.out (by omega)⟩
 ·have d0 : decide (0 ≤ num) = false := by simpa using h0
  have hV : Hid (ok = false) := by show _ = _; rw [← HK.out, d0]; rfl
  go_enter Tryz.func55, Tryz.ntmps55
  go_wp2_with fail
  refine (must_no _).mono ?_
  rintro e w' ⟨rfl, rfl⟩
  go_wp2
  exact ⟨rfl, NOut.no H.out (PK.refl_ _ _) hV.out (by omega)⟩
theorem psign_any (op : Int) (w : World) : Calls Tryz.prog 133 #[.int .i64 op] w fun e w' => e = .returned (.tuple #[.string (sgnT op), .int .i64 (sgnB op)]) ∧ w = w' := by
 have h : op = 12 ∨ op = 10 ∨ op = 1 ∨ op = 2 ∨ op = 8 ∨ op = 9 ∨ op = 3 ∨ op = 5 ∨ op = 6 ∨ op = 7 ∨ (op ≠ 12 ∧ op ≠ 10 ∧ op ≠ 1 ∧ op ≠ 2 ∧ op ≠ 8 ∧ op ≠ 9 ∧ op ≠ 3 ∧ op ≠ 5 ∧ op ≠ 6 ∧ op ≠ 7) := by omega
 rcases h with rfl | rfl | rfl | rfl | rfl | rfl | rfl | rfl | rfl | rfl | ⟨a1, a2, a3, a4, a5, a6, a7, a8, a9, a10⟩
 iterate 10
  ·go_enter Tryz.func133, Tryz.ntmps133
   go_wp2
   go_ret2
   exact ⟨rfl, rfl⟩
 ·have e1 : Hid (sgnT op = ⟨#[]⟩ ∧ sgnB op = -1) := by
   show _ ∧ _
   unfold sgnT sgnB sgn
   simp [a1, a2, a3, a4, a5, a6, a7, a8, a9, a10]
  go_enter Tryz.func133, Tryz.ntmps133
  go_wp2
  go_ret2
  exact ⟨by rw [e1.out.1, e1.out.2]; rfl, rfl⟩
theorem level_any (n : Nd) (A : Option Addr) (c : Nat) (w : World) : Calls Tryz.prog 132 #[.agg #[.int .i64 n.k, .string n.t, .int .i64 n.num, .slice A n.kids.length c]] w fun e w' => e = .returned (.int .i64 (bindN n)) ∧ Below w.heap.size w w' := by
 have hB : Below w.heap.size w (w.alloc (.cells #[.int .i64 n.k, .string n.t, .int .i64 n.num, .slice A n.kids.length c] 24)) := by (repeat (first | with_reducible assumption | with_reducible exact Below.refl _ _ | (refine Below.setCell ?_ (by first | omega | (simp; done) | (simp; omega)) _) | (refine Below.drewN_ ?_ _) | (refine Below.drew ?_) | (refine Below.alloc ?_ (by first | omega | (simp; done) | (simp; omega)) _)))
 have HB := Lib.hid hB
 clear hB
 have h : n.k = 32 ∨ n.k = 28 ∨ n.k = 29 ∨ (n.k ≠ 32 ∧ n.k ≠ 28 ∧ n.k ≠ 29) := by omega
 rcases h with h | h | h | ⟨h1, h2, h3⟩
 ·have e1 : Hid (bindN n = sgnB n.num) := by show _ = _; unfold bindN bindK; rw [h]; rfl
  have hk := Lib.hid h
  have h32 : (n.k == 32) = true := by simpa using h
  clear h
  go_enter Tryz.func132, Tryz.ntmps132
  go_wp2_with (go_at_call 133; refine (psign_any _ _).mono ?_; rintro e w' ⟨rfl, rfl⟩)
  go_ret
  exact ⟨by rw [e1.out]; rfl, HB.out⟩
 ·have e1 : Hid (bindN n = 3) := by show _ = _; unfold bindN bindK; rw [h]; rfl
  have b1 : (n.k == 32) = false := by rw [h]; rfl
  have b2 : (n.k == 28) = true := by rw [h]; rfl
  clear h
  go_enter Tryz.func132, Tryz.ntmps132
  go_wp2
  go_ret
  exact ⟨by rw [e1.out]; rfl, HB.out⟩
 ·have e1 : Hid (bindN n = 3) := by show _ = _; unfold bindN bindK; rw [h]; rfl
  have b1 : (n.k == 32) = false := by rw [h]; rfl
  have b2 : (n.k == 28) = false := by rw [h]; rfl
  have b3 : (n.k == 29) = true := by rw [h]; rfl
  clear h
  go_enter Tryz.func132, Tryz.ntmps132
  go_wp2
  go_ret
  exact ⟨by rw [e1.out]; rfl, HB.out⟩
 ·have e1 : Hid (bindN n = 4) := by show _ = _; unfold bindN bindK; simp [h1, h2, h3]
  have b1 : (n.k == 32) = false := by simpa using h1
  have b2 : (n.k == 28) = false := by simpa using h2
  have b3 : (n.k == 29) = false := by simpa using h3
  clear h1 h2 h3
  go_enter Tryz.func132, Tryz.ntmps132
  go_wp2
  go_ret
  exact ⟨by rw [e1.out]; rfl, HB.out⟩
end Go.Proofs.YtgegfbopogcjpaaGreatDoor
namespace Go.Proofs.YtgegfbopogcjpaaGreatDoor
open Go.RowKit
set_option linter.unusedVariables false
set_option linter.unusedSimpArgs false
set_option maxRecDepth 100000
theorem blk_set4 {w : World} {b : Nat} {t : TypeId} {a0 a1 a2 a3 : Value} (k : Blk w b t #[a0, a1, a2, a3]) (b0 b1 b2 b3 : Value) : Blk ((((w.setCell ⟨b, 0, none⟩ b0).setCell ⟨b, 1, none⟩ b1).setCell ⟨b, 2, none⟩ b2).setCell ⟨b, 3, none⟩ b3) b t #[b0, b1, b2, b3] := (((k.set_ 0 b0).set_ 1 b1).set_ 2 b2).set_ 3 b3
theorem baseN_head {calls : Bool} {m : Nd} (h : headK calls m.k = true) (h0 : 0 < m.kids.length) : baseN calls m = baseN calls m.kids[0] := by
 rcases m with ⟨k, t, num, kids⟩
 cases kids with
 | nil => simp [Nd.kids] at h0
 | cons x xs =>
  simp only [Nd.k] at h
  rw [baseN, if_pos h]
  rfl
theorem baseN_stop {calls : Bool} {m : Nd} (h : headK calls m.k = false ∨ m.kids.length = 0) : baseN calls m = m := by
 rcases m with ⟨k, t, num, kids⟩
 cases kids with
 | nil => rw [baseN]
 | cons x xs =>
  rcases h with h | h
  ·simp only [Nd.k] at h
   rw [baseN, if_neg (by rw [h]; decide)]
  ·simp [Nd.kids] at h
def setC : List Nd → Bool
 | [] => false
 | m :: _ => (baseN false m).k == 23
def doC : List Nd → Bool
 | [] => false
 | m :: _ => m.k == 25 && (baseN true m).k == 23
end Go.Proofs.YtgegfbopogcjpaaGreatDoor
namespace Go.Proofs.YtgegfbopogcjpaaGreatDoor
open Go.RowKit
set_option linter.unusedVariables false
set_option linter.unusedSimpArgs false
set_option maxRecDepth 100000
set_option maxHeartbeats 1000000
def PlaceRel (calls : Bool) (n : Nd) (w : World) (gk : Nat) (wr : World) : Prop :=
 ∃ (m : Nd) (A : Option Addr) (c : Nat), Hid (baseN calls m = baseN calls n ∧ RepNL w m.kids A ∧ Blk wr w.heap.size 24 #[.int .i64 m.k, .string m.t, .int .i64 m.num, .slice A m.kids.length c] ∧ Below w.heap.size w wr ∧ many m ≤ gk)
theorem place_any (n : Nd) (A : Option Addr) (c : Nat) (calls : Bool) (w : World) (hr : RepNL w n.kids A) :
 Calls Tryz.prog 104 #[.agg #[.int .i64 n.k, .string n.t, .int .i64 n.num, .slice A n.kids.length c], .bool calls] w fun e w' => e = .returned (.bool ((baseN calls n).k == 23)) ∧ Below w.heap.size w w' := by
 obtain ⟨V, HV⟩ : ∃ V, Hid (((baseN calls n).k == 23) = V) := ⟨_, rfl⟩
 rw [HV.out]
 have HR := Lib.hid hr
 clear hr
 go_enter Tryz.func104, Tryz.ntmps104
 go_wp2_with fail
 go_loopg [] (many n) (fun gk wr => PlaceRel calls n w gk wr)
 case atStart => exact ⟨n, A, c, Lib.hid ⟨rfl, HR.out, Blk.new_ _ _ _, by (repeat (first | with_reducible assumption | with_reducible exact Below.refl _ _ | (refine Below.setCell ?_ (by first | omega | (simp; done) | (simp; omega)) _) | (refine Below.drewN_ ?_ _) | (refine Below.drew ?_) | (refine Below.alloc ?_ (by first | omega | (simp; done) | (simp; omega)) _))), Nat.le_refl _⟩⟩
 case round =>
  obtain ⟨m, A1, c1, HM⟩ := hrel
  have q0 := HM.out.2.2.1.cell 0 (.int .i64 m.k) rfl
  have q1 := HM.out.2.2.1.cell 1 (.string m.t) rfl
  have q2 := HM.out.2.2.1.cell 2 (.int .i64 m.num) rfl
  have q3 := HM.out.2.2.1.cell 3 (.slice A1 m.kids.length c1) rfl
  have f0 := HM.out.2.2.1.free 0
  have f1 := HM.out.2.2.1.free 1
  have f2 := HM.out.2.2.1.free 2
  have f3 := HM.out.2.2.1.free 3
  obtain ⟨hd, HD⟩ : ∃ hd, Hid (headK calls m.k = hd) := ⟨_, rfl⟩
  have go_on : ∀ b1 b2, (m.k == 24) = b1 → (m.k == 25) = b2 → (b1 || (calls && b2)) = hd := by
   intro b1 b2 h1 h2
   rw [← HD.out, ← h1, ← h2]
   rfl
  have GO := Lib.hid go_on
  clear go_on
  have HXX := Lib.hid (fun (h : headK calls m.k = true) (h0 : 0 < m.kids.length) => baseN_head h h0)
  rcases b1 : (m.k == 24) with _ | _
  all_goals rcases b2 : (m.k == 25) with _ | _
  all_goals cases calls
  all_goals (have G := Lib.hid (GO.out _ _ b1 b2))
  all_goals (by_cases h0 : m.kids.length = 0)
  all_goals first
   | (have hl : ((m.kids.length : Int) == 0) = true := by simp [h0]
      have H0 := Lib.hid h0
      clear h0)
   | (have hl : ((m.kids.length : Int) == 0) = false := by simp [h0]
      have hpos : 0 < m.kids.length := by omega
      have hpos2 : (0 : Int) < (m.kids.length : Int) := by omega
      obtain ⟨b, o, A', c', rfl, hb, k0, k1, k2, k3, k4, k5, k6⟩ := HM.out.2.1.kid (i := 0) hpos
      have bw := HM.out.2.2.2.1
      have z0 := (bw.cell (p := ⟨b, o + 0 * 4, none⟩) hb).trans k0
      have z1 := (bw.cell (p := ⟨b, o + 0 * 4 + 1, none⟩) hb).trans k1
      have z2 := (bw.cell (p := ⟨b, o + 0 * 4 + 2, none⟩) hb).trans k2
      have z3 := (bw.cell (p := ⟨b, o + 0 * 4 + 3, none⟩) hb).trans k3
      simp only [Nat.zero_mul, Nat.add_zero] at z0 z1 z2 z3
      have K4 := Lib.hid k4
      have HX := Lib.hid (fun h => HXX.out h hpos)
      have HMX := Lib.hid (many_kid (List.getElem_mem hpos))
      clear h0 k0 k1 k2 k3 k4 k5 k6 bw hb
      generalize m.kids[0] = x at *)
  all_goals (rcases b3 : (m.k == 23) with _ | _)
  all_goals go_wp2_with fail
  all_goals first
   | (go_ret
      refine ⟨?_, HM.out.2.2.2.1⟩
      rw [← HV.out, ← HM.out.1, baseN_stop (by first | exact .inr H0.out | exact .inl (HD.out.trans (G.out.symm.trans rfl))), b3]
      first | rfl | (exfalso; simp at b1 b2 b3; omega))
   | (go_roundg (many x)
      case rel => exact ⟨_, _, _, Lib.hid ⟨(HX.out (HD.out.trans (G.out.symm.trans rfl))).symm.trans HM.out.1, K4.out, blk_set4 HM.out.2.2.1 _ _ _ _, by have := HM.out.2.2.2.1; (repeat (first | with_reducible assumption | with_reducible exact Below.refl _ _ | (refine Below.setCell ?_ (by first | omega | (simp; done) | (simp; omega)) _) | (refine Below.drewN_ ?_ _) | (refine Below.drew ?_) | (refine Below.alloc ?_ (by first | omega | (simp; done) | (simp; omega)) _))), Nat.le_refl _⟩⟩
      case measure => exact Nat.lt_of_lt_of_le HMX.out HM.out.2.2.2.2)
end Go.Proofs.YtgegfbopogcjpaaGreatDoor
namespace Go.Proofs.YtgegfbopogcjpaaGreatDoor
open Go.RowKit
set_option linter.unusedVariables false
set_option linter.unusedSimpArgs false
set_option maxRecDepth 100000
set_option maxHeartbeats 1000000
def numOk (n : Nd) (free : Bool) : Bool := plainB n false true 0 0 && (!decide (n.num < 0) || (free && decide (-9223372036854775808 < n.num))) && (n.k == 22 || (n.k == 21 && decide ((n.num.natAbs : Int) ≤ 2147483647)))
theorem pr_num_ok (n : Nd) (free : Bool) (h : I64 n.num) : ((n.k == 21 || n.k == 22) && isN n free) = numOk n free := by
 obtain ⟨h1, h2⟩ := h
 by_cases hk : n.k = 21 ∨ n.k = 22
 ·have hs : shp n.k = some ⟨false, -1, 0, 0⟩ := by rcases hk with h | h <;> rw [h] <;> rfl
  rw [isN_eq, hs]
  dsimp only
  have e32 : (n.k == 32) = false := by rcases hk with h | h <;> rw [h] <;> rfl
  have e15 : (n.k == 15) = false := by rcases hk with h | h <;> rw [h] <;> rfl
  have e20 : (n.k == 20) = false := by rcases hk with h | h <;> rw [h] <;> rfl
  rw [text_size, e32, e15, e20]
  by_cases hl : n.kids.length = 0
  ·have hkn : n.kids = [] := List.eq_nil_of_length_eq_zero hl
   unfold numOk plainB
   rw [hkn]
   have hb : numB n.k n.num (-1) free = ((!decide (n.num < 0) || (free && decide (-9223372036854775808 < n.num))) && (n.k == 22 || (n.k == 21 && decide ((n.num.natAbs : Int) ≤ 2147483647)))) := by
    unfold numB
    by_cases hn : n.num < 0
    ·cases free
     ·have : ¬ 0 ≤ n.num := by omega
      simp [hn, this]
     ·simp only [if_pos (And.intro rfl hn)]
      have a1 : 0 ≤ -n.num := by omega
      rw [show ((n.num.natAbs : Nat) : Int) = -n.num by omega]
      by_cases hm : -9223372036854775808 < n.num
      ·have a2 : -n.num ≤ 9223372036854775807 := by omega
       rcases hk with h | h <;> simp [h, hn, hm, a1, a2] <;> omega
      ·have a2 : ¬ -n.num ≤ 9223372036854775807 := by omega
       simp [hn, hm, a2]
    ·have a0 : ¬ (free = true ∧ n.num < 0) := fun h => hn h.2
     simp only [if_neg a0]
     have a1 : 0 ≤ n.num := by omega
     rw [show ((n.num.natAbs : Nat) : Int) = n.num by omega]
     rcases hk with h | h <;> simp [h, hn, a1, h2]
   rw [hb]
   rcases hk with h | h <;> simp [h, isNL, Bool.and_assoc]
  ·have h1 : ¬ (n.kids.length : Int) ≤ 0 := by omega
   have h1' : ¬ ((n.kids.length : Int) ≤ (0 : Int)) := h1
   unfold numOk plainB
   simp [h1, hl]
 ·have h1 : (n.k == 21) = false := by simp; omega
  have h2 : (n.k == 22) = false := by simp; omega
  unfold numOk
  simp [h1, h2]
theorem neg_wrap {k : Int} (h1 : -9223372036854775808 < k) (h2 : k < 0) : IntKind.i64.wrap (-k) = -k := IntWalk.i64_in _ (by omega)
def digB (k : Int) : ByteArray := ⟨(Lib.decDigits k.toNat).toArray⟩
theorem fmt_any (k : Int) (h0 : 0 ≤ k) (h1 : k ≤ 9223372036854775807) (w : World) (hE : Env w) :
 Calls Tryz.prog 83 #[.int .i64 k, .int .i64 10] w fun e w' => e = .returned (.string (digB k)) ∧ Below w.heap.size w w' := by
 refine (sh_strconv_FormatInt_10 k (by omega) h1 w hE.tab).mono ?_
 rintro e w' ⟨rfl, a, os, rfl⟩
 refine ⟨?_, ⟨rfl, rfl, rfl, by simp [Go.Sort.grow], fun i hi => by simp [Go.Sort.grow, Array.getElem?_append_left hi]⟩⟩
 unfold digB Lib.itoa
 rw [if_neg (by omega)]
theorem nd_le : ∀ (m u : Nat), u < 10 ^ (m + 1) → Lib.nDigits u ≤ m + 1
 | 0, u, h => by rw [Lib.nDigits_small (by simpa using h)]; omega
 | m + 1, u, h => by
  by_cases hs : u < 10
  ·rw [Lib.nDigits_small hs]; omega
  ·rw [Lib.nDigits_big hs]
   have := nd_le m (u / 10) (by rw [Nat.pow_succ] at h; omega)
   omega
theorem dec_len (u : Nat) (h : u ≤ 9223372036854775808) : (Lib.decDigits u).length ≤ 19 := by
 rw [Lib.decDigits_length]
 exact nd_le 18 u (by omega)
theorem digB_size (k : Int) (h : k ≤ 9223372036854775807) : (digB k).size ≤ 19 := by
 have := dec_len k.toNat (by omega)
 show (Lib.decDigits k.toNat).toArray.size ≤ 19
 simpa using this
theorem digB_num (n : Int) (h : n < 0) : digB (-n) = ⟨(Lib.decDigits n.natAbs).toArray⟩ := by
 unfold digB
 rw [show (-n).toNat = n.natAbs by omega]
theorem digB_pos (n : Int) (h : ¬ n < 0) : digB n = ⟨(Lib.decDigits n.natAbs).toArray⟩ := by
 unfold digB
 rw [show n.toNat = n.natAbs by omega]
theorem long_mark (l : List UInt8) : (⟨l.toArray⟩ : ByteArray) ++ ⟨#[76]⟩ = ⟨(l ++ [76]).toArray⟩ := by
 apply ByteArray.ext
 simp
theorem pr_number_any (w0 w : World) (p : Nat) (ws : List ByteArray) (n : Nd) (A : Option Addr) (c : Nat) (free : Bool) (hE : Env w0) (h : Stq w0 p ws w) (hn : I64 n.num) (hb : ws.length + 2 ≤ 100000) :
 Calls Tryz.prog 56 #[.pointer (some ⟨p, 0, none⟩), .agg #[.int .i64 n.k, .string n.t, .int .i64 n.num, .slice A n.kids.length c], .bool free] w (NOut w0 p ws (numOk n free) (numT n.k n.num) 2 w) := by
 have H := Lib.hid h
 have hlt := h.2.lt
 clear h
 obtain ⟨ok, HK⟩ : ∃ b, Hid (numOk n free = b) := ⟨_, rfl⟩
 rw [HK.out]
 obtain ⟨nw, HW⟩ : ∃ b, Hid (numT n.k n.num = b) := ⟨_, rfl⟩
 rw [HW.out]
 have H1 := Lib.hid (H.out.alloc (.cells #[.int .i64 n.k, .string n.t, .int .i64 n.num, .slice A n.kids.length c] 24))
 have P1 := Lib.hid (PK.alloc_ (p := p) w (.cells #[.int .i64 n.k, .string n.t, .int .i64 n.num, .slice A n.kids.length c] 24) hlt)
 have K1 := Lib.hid (Blk.new_ w 24 #[.int .i64 n.k, .string n.t, .int .i64 n.num, .slice A n.kids.length c])
 obtain ⟨pb, HPB⟩ : ∃ b, Hid (plainB n false true 0 0 = b) := ⟨_, rfl⟩
 go_enter Tryz.func56, Tryz.ntmps56
 go_wp2_with fail
 refine (plain_any n _ _ _ _ _ _ _ (H1.out.env hE).ml).mono ?_
 rintro e w1 ⟨(⟨hq, rfl⟩ | ⟨hq, rfl⟩), hb1⟩
 rotate_left
 ·have H2 := Lib.hid (H1.out.below hb1)
  have P2 := Lib.hid (P1.out.trans_ (PK.of_below H1.out.2 hb1))
  have HQ := Lib.hid hq
  clear hq hb1
  unfold noneE
  go_wp2
  exact ⟨rfl, NOut.no H2.out P2.out (by rw [← HK.out]; unfold numOk; rw [HQ.out]; rfl) (by omega)⟩
 ·have H2 := Lib.hid (H1.out.below hb1)
  have P2 := Lib.hid (P1.out.trans_ (PK.of_below H1.out.2 hb1))
  have K2 := Lib.hid (K1.out.below hb1)
  have HQ := Lib.hid hq
  have q0 := K2.out.cell 0 (.int .i64 n.k) rfl
  have q2 := K2.out.cell 2 (.int .i64 n.num) rfl
  clear hq hb1 H1 P1 K1
  have hnd : Hid (numT n.k n.num = (if n.num < 0 then [⟨#[45]⟩] else []) ++ [⟨(Lib.decDigits n.num.natAbs ++ if n.k = 22 then [76] else []).toArray⟩]) := rfl
  by_cases hneg : n.num < 0
  ·have d0 : decide (n.num < 0) = true := by simpa using hneg
   rcases hf : (free && decide (-9223372036854775808 < n.num)) with _ | _
   ·have HF : Hid (ok = false) := by show _ = _; rw [← HK.out]; unfold numOk; rw [d0, hf]; simp
    have hf2 : free = false ∨ (free = true ∧ ¬ -9223372036854775808 < n.num) := by cases free <;> simp_all
    rcases hf2 with rfl | ⟨rfl, hmin⟩
    ·go_wp2_with fail
     refine (must_no _).mono ?_
     rintro e w' ⟨rfl, rfl⟩
     go_wp2
     exact ⟨rfl, NOut.no H2.out P2.out HF.out (by omega)⟩
    ·have d1 : decide (-9223372036854775808 < n.num) = false := by simpa using hmin
     go_wp2_with fail
     refine (must_no _).mono ?_
     rintro e w' ⟨rfl, rfl⟩
     go_wp2
     exact ⟨rfl, NOut.no H2.out P2.out HF.out (by omega)⟩
   ·have hf2 : free = true ∧ -9223372036854775808 < n.num := by simpa using hf
    obtain ⟨rfl, hmin⟩ := hf2
    have d1 : decide (-9223372036854775808 < n.num) = true := by simpa using hmin
    have HO : Hid (ok = (n.k == 22 || (n.k == 21 && decide ((n.num.natAbs : Int) ≤ 2147483647)))) := by show _ = _; rw [← HK.out]; unfold numOk; rw [HQ.out, d0, d1]; simp
    have HNW : Hid (nw = [⟨#[45]⟩] ++ [⟨(Lib.decDigits n.num.natAbs ++ if n.k = 22 then [76] else []).toArray⟩]) := by show _ = _; rw [← HW.out, hnd.out, if_pos hneg]
    clear hf
    go_wp2_with fail
    refine (must_yes _).mono ?_
    rintro e w' ⟨rfl, rfl⟩
    go_wp2_with fail
    refine (psay1 _ H2.out (by omega)).mono ?_
    rintro e w3 ⟨rfl, h3, p3⟩
    have H3 := Lib.hid h3
    have P3 := Lib.hid (P2.out.trans_ p3)
    have K3 := Lib.hid (p3.blk H2.out.2 K2.out (by decide) (by decide))
    have w1' := neg_wrap hmin hneg
    have a0 : 0 ≤ -n.num := by omega
    have a1 : -n.num ≤ 9223372036854775807 := by omega
    clear h3 p3 q0 q2 H2 P2 K2
    go_wp2_with fail
    refine (fmt_any _ a0 a1 _ (H3.out.env hE)).mono ?_
    rintro e w4 ⟨rfl, hb4⟩
    have H4 := Lib.hid (H3.out.below hb4)
    have P4 := Lib.hid (P3.out.trans_ (PK.of_below H3.out.2 hb4))
    have K4 := Lib.hid (K3.out.below hb4)
    have q0 := K4.out.cell 0 (.int .i64 n.k) rfl
    have HD := Lib.hid (digB_num n.num hneg)
    have hds := digB_size (-n.num) a1
    generalize digB (-n.num) = D at *
    have B1 : Hid (decide (-n.num ≤ 2147483647) = decide ((n.num.natAbs : Int) ≤ 2147483647)) := by show _ = _; rw [show ((n.num.natAbs : Nat) : Int) = -n.num by omega]
    clear hb4 H3 P3 K3
    rcases k22 : (n.k == 22) with _ | _
    ·rcases k21 : (n.k == 21 && decide ((n.num.natAbs : Int) ≤ 2147483647)) with _ | _
     ·have HF : Hid (ok = false) := by show _ = _; rw [HO.out, k22, k21]; rfl
      rw [Bool.and_eq_false_iff] at k21
      rcases k21 with k21 | k21
      ·go_wp2_with fail
       refine (must_no _).mono ?_
       rintro e w' ⟨rfl, rfl⟩
       go_wp2
       exact ⟨rfl, NOut.no H4.out P4.out HF.out (by simp)⟩
      ·rw [← B1.out] at k21
       rcases k20 : (n.k == 21) with _ | _
       all_goals go_wp2_with fail
       all_goals refine (must_no _).mono ?_
       all_goals rintro e w' ⟨rfl, rfl⟩
       all_goals go_wp2
       all_goals exact ⟨rfl, NOut.no H4.out P4.out HF.out (by simp)⟩
     ·have HF : Hid (ok = true) := by show _ = _; rw [HO.out, k22, k21]; rfl
      rw [Bool.and_eq_true] at k21
      obtain ⟨k21, k20⟩ := k21
      rw [← B1.out] at k20
      have HX : Hid (Lib.decDigits n.num.natAbs ++ (if n.k = 22 then [76] else []) = Lib.decDigits n.num.natAbs) := by show _ = _; rw [if_neg (by simpa using k22)]; simp
      go_wp2_with fail
      refine (must_yes _).mono ?_
      rintro e w' ⟨rfl, rfl⟩
      go_wp2_with fail
      refine (psay1 _ H4.out (by simp; omega)).mono ?_
      rintro e w5 ⟨rfl, h5, p5⟩
      have H5 := Lib.hid h5
      have P5 := Lib.hid (P4.out.trans_ p5)
      clear h5 p5
      go_wp2
      go_end0
      exact NOut.yes H5.out P5.out HF.out (by rw [HNW.out, HX.out, ← HD.out]; simp) (by rw [HNW.out]; simp)
    ·have HF : Hid (ok = true) := by show _ = _; rw [HO.out, k22]; rfl
     have HX : Hid (Lib.decDigits n.num.natAbs ++ (if n.k = 22 then [76] else []) = Lib.decDigits n.num.natAbs ++ [76]) := by show _ = _; rw [if_pos (by simpa using k22)]
     go_wp2_with fail
     refine (psay1 _ H4.out (by simp; omega)).mono ?_
     rintro e w5 ⟨rfl, h5, p5⟩
     have H5 := Lib.hid h5
     have P5 := Lib.hid (P4.out.trans_ p5)
     clear h5 p5
     go_wp2
     go_end0
     exact NOut.yes H5.out P5.out HF.out (by rw [HNW.out, HX.out, ← long_mark, ← HD.out]; simp) (by rw [HNW.out]; simp)
  ·have d0 : decide (n.num < 0) = false := by simpa using hneg
   have HO : Hid (ok = (n.k == 22 || (n.k == 21 && decide ((n.num.natAbs : Int) ≤ 2147483647)))) := by show _ = _; rw [← HK.out]; unfold numOk; rw [HQ.out, d0]; simp
   have HNW : Hid (nw = [] ++ [⟨(Lib.decDigits n.num.natAbs ++ if n.k = 22 then [76] else []).toArray⟩]) := by show _ = _; rw [← HW.out, hnd.out, if_neg hneg]
   have a0 : 0 ≤ n.num := by omega
   have a1 : n.num ≤ 9223372036854775807 := hn.2
   go_wp2_with fail
   refine (fmt_any _ a0 a1 _ (H2.out.env hE)).mono ?_
   rintro e w4 ⟨rfl, hb4⟩
   have H4 := Lib.hid (H2.out.below hb4)
   have P4 := Lib.hid (P2.out.trans_ (PK.of_below H2.out.2 hb4))
   have K4 := Lib.hid (K2.out.below hb4)
   clear q0 q2
   have q0 := K4.out.cell 0 (.int .i64 n.k) rfl
   have HD := Lib.hid (digB_pos n.num (by omega))
   have hds := digB_size n.num a1
   generalize digB n.num = D at *
   have B1 : Hid (decide (n.num ≤ 2147483647) = decide ((n.num.natAbs : Int) ≤ 2147483647)) := by show _ = _; rw [show ((n.num.natAbs : Nat) : Int) = n.num by omega]
   clear hb4 H2 P2 K2
   rcases k22 : (n.k == 22) with _ | _
   ·rcases k21 : (n.k == 21 && decide ((n.num.natAbs : Int) ≤ 2147483647)) with _ | _
    ·have HF : Hid (ok = false) := by show _ = _; rw [HO.out, k22, k21]; rfl
     rw [Bool.and_eq_false_iff] at k21
     rcases k21 with k21 | k21
     ·go_wp2_with fail
      refine (must_no _).mono ?_
      rintro e w' ⟨rfl, rfl⟩
      go_wp2
      exact ⟨rfl, NOut.no H4.out P4.out HF.out (by simp)⟩
     ·rw [← B1.out] at k21
      rcases k20 : (n.k == 21) with _ | _
      all_goals go_wp2_with fail
      all_goals refine (must_no _).mono ?_
      all_goals rintro e w' ⟨rfl, rfl⟩
      all_goals go_wp2
      all_goals exact ⟨rfl, NOut.no H4.out P4.out HF.out (by simp)⟩
    ·have HF : Hid (ok = true) := by show _ = _; rw [HO.out, k22, k21]; rfl
     rw [Bool.and_eq_true] at k21
     obtain ⟨k21, k20⟩ := k21
     rw [← B1.out] at k20
     have HX : Hid (Lib.decDigits n.num.natAbs ++ (if n.k = 22 then [76] else []) = Lib.decDigits n.num.natAbs) := by show _ = _; rw [if_neg (by simpa using k22)]; simp
     go_wp2_with fail
     refine (must_yes _).mono ?_
     rintro e w' ⟨rfl, rfl⟩
     go_wp2_with fail
     refine (psay1 _ H4.out (by simp; omega)).mono ?_
     rintro e w5 ⟨rfl, h5, p5⟩
     have H5 := Lib.hid h5
     have P5 := Lib.hid (P4.out.trans_ p5)
     clear h5 p5
     go_wp2
     go_end0
     exact NOut.yes H5.out P5.out HF.out (by rw [HNW.out, HX.out, ← HD.out]; simp) (by rw [HNW.out]; simp)
   ·have HF : Hid (ok = true) := by show _ = _; rw [HO.out, k22]; rfl
    have HX : Hid (Lib.decDigits n.num.natAbs ++ (if n.k = 22 then [76] else []) = Lib.decDigits n.num.natAbs ++ [76]) := by show _ = _; rw [if_pos (by simpa using k22)]
    go_wp2_with fail
    refine (psay1 _ H4.out (by simp; omega)).mono ?_
    rintro e w5 ⟨rfl, h5, p5⟩
    have H5 := Lib.hid h5
    have P5 := Lib.hid (P4.out.trans_ p5)
    clear h5 p5
    go_wp2
    go_end0
    exact NOut.yes H5.out P5.out HF.out (by rw [HNW.out, HX.out, ← long_mark, ← HD.out]; simp) (by rw [HNW.out]; simp)
end Go.Proofs.YtgegfbopogcjpaaGreatDoor
namespace Go.Proofs.YtgegfbopogcjpaaGreatDoor
open Go.RowKit
set_option linter.unusedVariables false
set_option linter.unusedSimpArgs false
set_option maxRecDepth 100000
set_option maxHeartbeats 1000000
theorem commas_snoc : ∀ (l : List (List ByteArray)) (x : List ByteArray), commas (l ++ [x]) = if l = [] then x else commas l ++ ⟨#[44]⟩ :: x
 | [], x => by simp [commas]
 | [a], x => by simp [commas]
 | a :: b :: l, x => by
  have := commas_snoc (b :: l) x
  rw [if_neg (by simp)] at this
  rw [if_neg (by simp)]
  simp only [List.cons_append, commas] at this ⊢
  rw [this]
  simp
theorem manyL_append (l r : List Nd) : manyL (l ++ r) = manyL l + manyL r := by
 induction l with
 | nil => simp [manyL]
 | cons a l ih => rw [List.cons_append, manyL, manyL, ih]; omega
theorem manyL_take {l : List Nd} {k : Nat} (h : k < l.length) : manyL (l.take (k + 1)) = manyL (l.take k) + many l[k] := by
 rw [List.take_succ_eq_append_getElem h, manyL_append]
 simp [manyL]
theorem manyL_take_le (l : List Nd) (k : Nat) : manyL (l.take k) ≤ manyL l := by
 have := manyL_append (l.take k) (l.drop k)
 rw [List.take_append_drop] at this
 omega
theorem NOut.yes2 {w0 w w' : World} {p m : Nat} {ws new ws' : List ByteArray} {ok : Bool} (hs : Stq w0 p ws' w') (hk : PK p w w') (h1 : ok = true) (h2 : ws' = ws ++ new) (h3 : ws'.length ≤ ws.length + m) : NOut w0 p ws ok new m w (.returned (.tuple #[])) w' :=
 ⟨ws', hs, hk, h3, .inl ⟨h1, rfl, h2⟩⟩
def LOk (f : FuncId) (okf : Nd → Bool) (shf : Nd → List ByteArray) (w0 : World) (p : Nat) (m : Nd) : Prop :=
 ∀ (cs : List Value) (w : World) (ws : List ByteArray), RepN w0 m cs → Stq w0 p ws w → ws.length + 10 * many m ≤ 90000 → Calls Tryz.prog f #[.pointer (some ⟨p, 0, none⟩), .agg cs.toArray] w (NOut w0 p ws (okf m) (shf m) (10 * many m - 3) w)
def ListRel (okf : Nd → Bool) (shf : Nd → List ByteArray) (w0 w : World) (p : Nat) (ws : List ByteArray) (l : List Nd) (i : Value) (wr : World) : Prop :=
 ∃ (k : Nat) (ws1 : List ByteArray), i = .int .i64 k ∧ k ≤ l.length ∧ Hid (Stq w0 p ws1 wr ∧ PK p w wr ∧ ws1 = ws ++ (⟨#[40]⟩ :: commas ((l.take k).map shf)) ∧ (l.take k).all okf = true ∧ ws1.length ≤ ws.length + 1 + 10 * manyL (l.take k))
theorem all_take {l : List Nd} {okf : Nd → Bool} {k : Nat} (h : k < l.length) (h1 : (l.take k).all okf = true) : (l.take (k + 1)).all okf = okf l[k] := by
 rw [List.take_succ_eq_append_getElem h, List.all_append, h1]
 simp
theorem all_false {l : List Nd} {okf : Nd → Bool} {k : Nat} (h : k < l.length) (h1 : okf l[k] = false) : l.all okf = false := by
 rw [List.all_eq_false]
 exact ⟨l[k], List.getElem_mem h, by simp [h1]⟩
theorem cf_of {f : FuncId} {fn : Func} (hf : Tryz.prog.funcs[f]? = some fn) (hn : (fn.name == "runtime.NumGoroutine") = false) (hb : fn.body.isNone = false) : ∀ (args : Array Value) (w : World), (callFunc f args).run Tryz.prog w = .ok (.enter f args) w := by
 intro args w
 have hn' : ¬ fn.name = "runtime.NumGoroutine" := by simpa using hn
 have hb' : ¬ fn.body = Option.none := by intro h; rw [h] at hb; cases hb
 unfold callFunc
 simp [go_sem, hf, hn', hb']
theorem pr_list_any (f : FuncId) (okf : Nd → Bool) (shf : Nd → List ByteArray) (w0 w : World) (p : Nat) (ws : List ByteArray) (l : List Nd) (A : Option Addr) (c : Nat) (dots : Bool) (hA : RepNL w0 l A) (h : Stq w0 p ws w)
 (hb : ws.length + 10 * manyL l + 10 ≤ 90000) (hcf : ∀ (args : Array Value) (w : World), (callFunc f args).run Tryz.prog w = .ok (.enter f args) w) (hf : ∀ m ∈ l, LOk f okf shf w0 p m) :
 Calls Tryz.prog 53 #[.pointer (some ⟨p, 0, none⟩), .slice A l.length c, .bool dots, .func (.func f) #[.pointer (some ⟨p, 0, none⟩)] #[]] w (NOut w0 p ws (l.all okf) (rowW (l.map shf) dots) (10 * manyL l + 4) w) := by
 have H := Lib.hid h
 clear h
 have hll := manyL_len l
 obtain ⟨ok, HK⟩ : ∃ b, Hid (l.all okf = b) := ⟨_, rfl⟩
 rw [HK.out]
 obtain ⟨nw, HW⟩ : ∃ b, Hid (rowW (l.map shf) dots = b) := ⟨_, rfl⟩
 rw [HW.out]
 have HF := Lib.hid hf
 have HA := Lib.hid hA
 clear hf hA
 go_enter Tryz.func53, Tryz.ntmps53
 go_wp2_with fail
 refine (psay1 _ H.out (by omega)).mono ?_
 rintro e w1 ⟨rfl, h1, p1⟩
 have H1 := Lib.hid h1
 have P1 := Lib.hid p1
 clear h1 p1
 go_wp2_with fail
 go_loopw [15] (fun i wr => ListRel okf shf w0 w p ws l i wr) (fun i _ => l.length - (intOf i).toNat)
 case atStart => exact ⟨0, _, rfl, Nat.zero_le _, Lib.hid ⟨H1.out, P1.out, by simp [commas], by simp, by simp⟩⟩
 case round =>
  obtain ⟨k, ws1, rfl, hk, HR⟩ := hrel
  clear H1 P1
  have hle := HR.out.2.2.2.2
  have hmt := manyL_take_le l k
  by_cases hlt : k < l.length
  ·have hi : (k : Int) < (l.length : Int) := by omega
   obtain ⟨b, o, cs, rfl, hbl, hc, hrep⟩ := RepNL.at_ l _ HA.out k hlt
   obtain ⟨A', c', rfl, -⟩ := hrep.four
   have bw := HR.out.1.1
   have c0 := (bw.cell (p := ⟨b, o + k * 4 + 0, none⟩) hbl).trans (hc 0 _ rfl)
   have c1 := (bw.cell (p := ⟨b, o + k * 4 + 1, none⟩) hbl).trans (hc 1 _ rfl)
   have c2 := (bw.cell (p := ⟨b, o + k * 4 + 2, none⟩) hbl).trans (hc 2 _ rfl)
   have c3 := (bw.cell (p := ⟨b, o + k * 4 + 3, none⟩) hbl).trans (hc 3 _ rfl)
   rw [Nat.add_zero] at c0
   clear hc bw
   have HL := Lib.hid (HF.out _ (List.getElem_mem hlt))
   have HT := Lib.hid (manyL_take hlt)
   have HAT := Lib.hid (all_take (okf := okf) hlt HR.out.2.2.2.1)
   have HAF := Lib.hid (all_false (okf := okf) hlt)
   have HTS : Hid ((l.take (k + 1)).map shf = (l.take k).map shf ++ [shf l[k]]) := by show _ = _; rw [List.take_succ_eq_append_getElem hlt, List.map_append]; rfl
   have HREP := Lib.hid hrep
   have hmm : manyL (l.take k) + many l[k] ≤ manyL l := by rw [← HT.out]; exact manyL_take_le _ _
   have hpos := many_pos l[k]
   clear hrep
   generalize l[k] = x at *
   have hlw := HR.out.1.2.lt
   by_cases h0 : k = 0
   ·have d0 : decide ((0 : Int) < (k : Int)) = false := by rw [decide_eq_false_iff_not]; omega
    have d1 : ¬ (0 : Int) < (k : Int) := by omega
    have H0 := Lib.hid h0
    clear h0
    go_wp2_with fail
    refine (HL.out _ _ _ HREP.out (HR.out.1.alloc _) (by omega)).mono ?_
    rintro e w2 ⟨ws2, h2, p2, l2, (⟨o2, rfl, e2⟩ | ⟨o2, rfl⟩)⟩
    ·have H2 := Lib.hid h2
     have P2 := Lib.hid ((HR.out.2.1.trans_ (PK.alloc_ _ _ hlw)).trans_ p2)
     have E2 := Lib.hid e2
     have O2 := Lib.hid o2
     clear h2 p2 e2 o2
     go_wp2
     go_roundw
     case rel =>
      refine ⟨k + 1, ws2, by go_num, by omega, Lib.hid ⟨H2.out, P2.out, ?_, HAT.out.trans O2.out, by rw [HT.out]; omega⟩⟩
      rw [E2.out, HR.out.2.2.1, HTS.out, commas_snoc, if_pos (by rw [H0.out]; rfl), H0.out]
      simp [commas]
     case measure => (first | (simp [intOf]; done) | (simp [intOf]; omega))
    ·have H2 := Lib.hid h2
     have P2 := Lib.hid ((HR.out.2.1.trans_ (PK.alloc_ _ _ hlw)).trans_ p2)
     have O2 := Lib.hid o2
     clear h2 p2 o2
     unfold noneE
     go_wp2
     exact ⟨rfl, NOut.no H2.out P2.out (HK.out.symm.trans (HAF.out O2.out)) (by omega)⟩
   ·have d0 : decide ((0 : Int) < (k : Int)) = true := by rw [decide_eq_true_eq]; omega
    have d1 : (0 : Int) < (k : Int) := by omega
    have d2 : 0 < k := by omega
    have HB1 : Hid (Stq w0 p ws1 (wr.alloc (.cells #[.int .i64 x.k, .string x.t, .int .i64 x.num, .slice A' x.kids.length c'] 24)) ∧ PK p w (wr.alloc (.cells #[.int .i64 x.k, .string x.t, .int .i64 x.num, .slice A' x.kids.length c'] 24))) := ⟨HR.out.1.alloc _, HR.out.2.1.trans_ (PK.alloc_ _ _ hlw)⟩
    have KB := Lib.hid (Blk.new_ wr 24 #[.int .i64 x.k, .string x.t, .int .i64 x.num, .slice A' x.kids.length c'])
    go_wp2_with fail
    refine (psay1 _ HB1.out.1 (by omega)).mono ?_
    rintro e w3 ⟨rfl, h3, p3⟩
    have H3 := Lib.hid h3
    have P3 := Lib.hid (HB1.out.2.trans_ p3)
    have K3 := p3.blk HB1.out.1.2 KB.out (by decide) (by decide)
    clear h3 p3
    have q0 := K3.cell 0 (.int .i64 x.k) rfl
    have q1 := K3.cell 1 (.string x.t) rfl
    have q2 := K3.cell 2 (.int .i64 x.num) rfl
    have q3 := K3.cell 3 (.slice A' x.kids.length c') rfl
    have hl3 : (ws1 ++ [(⟨#[44]⟩ : ByteArray)]).length = ws1.length + 1 := by simp
    have HL3 := Lib.hid hl3
    clear hl3 K3
    go_wp2_with fail
    refine (HL.out _ _ _ HREP.out H3.out (by rw [HL3.out]; omega)).mono ?_
    rintro e w2 ⟨ws2, h2, p2, l2, (⟨o2, rfl, e2⟩ | ⟨o2, rfl⟩)⟩
    ·have H2 := Lib.hid h2
     have P2 := Lib.hid (P3.out.trans_ p2)
     have E2 := Lib.hid e2
     have O2 := Lib.hid o2
     rw [HL3.out] at l2
     clear h2 p2 e2 o2
     go_wp2
     go_roundw
     case rel =>
      refine ⟨k + 1, ws2, by go_num, by omega, Lib.hid ⟨H2.out, P2.out, ?_, HAT.out.trans O2.out, by rw [HT.out]; omega⟩⟩
      rw [E2.out, HR.out.2.2.1, HTS.out, commas_snoc, if_neg (by
       intro he
       have : ((l.take k).map shf).length = 0 := by rw [he]; rfl
       rw [List.length_map, List.length_take] at this
       omega)]
      simp
     case measure => (first | (simp [intOf]; done) | (simp [intOf]; omega))
    ·have H2 := Lib.hid h2
     have P2 := Lib.hid (P3.out.trans_ p2)
     have O2 := Lib.hid o2
     rw [HL3.out] at l2
     clear h2 p2 o2
     unfold noneE
     go_wp2
     exact ⟨rfl, NOut.no H2.out P2.out (HK.out.symm.trans (HAF.out O2.out)) (by omega)⟩
  ·have hi : ¬ (k : Int) < (l.length : Int) := by omega
   have ek : k = l.length := by omega
   have HT1 : Hid (ws1 = ws ++ (⟨#[40]⟩ :: commas (l.map shf)) ∧ l.all okf = true) := by
    have h1 := HR.out.2.2.1
    have h2 := HR.out.2.2.2.1
    rw [ek, List.take_length] at h1 h2
    exact ⟨h1, h2⟩
   have HOK : Hid (ok = true) := HK.out.symm.trans HT1.out.2
   have hle2 : ws1.length ≤ ws.length + 1 + 10 * manyL l := by omega
   clear ek
   cases dots
   ·have HNW : Hid (ws1 ++ [⟨#[41]⟩] = ws ++ nw) := by
     show _ = _
     rw [← HW.out, HT1.out.1]
     simp [rowW]
    go_wp2_with fail
    refine (psay1 _ HR.out.1 (by omega)).mono ?_
    rintro e w3 ⟨rfl, h3, p3⟩
    have H3 := Lib.hid h3
    have P3 := Lib.hid (HR.out.2.1.trans_ p3)
    clear h3 p3
    go_wp2
    go_end0
    exact NOut.yes2 H3.out P3.out HOK.out HNW.out (by simp; omega)
   ·by_cases h0 : l.length = 0
    ·have d0 : decide ((0 : Int) < (l.length : Int)) = false := by rw [decide_eq_false_iff_not]; omega
     have d1 : ¬ (0 : Int) < (l.length : Int) := by omega
     have HNW : Hid (ws1 ++ [⟨#[46, 46, 46]⟩] ++ [⟨#[41]⟩] = ws ++ nw) := by
      show _ = _
      rw [← HW.out, HT1.out.1, List.eq_nil_of_length_eq_zero h0]
      simp [rowW, commas]
     have H0 := Lib.hid h0
     clear h0
     go_wp2_with fail
     refine (psay1 _ HR.out.1 (by omega)).mono ?_
     rintro e w3 ⟨rfl, h3, p3⟩
     have H3 := Lib.hid h3
     have P3 := Lib.hid (HR.out.2.1.trans_ p3)
     clear h3 p3
     go_wp2_with fail
     refine (psay1 _ H3.out (by simp; omega)).mono ?_
     rintro e w4 ⟨rfl, h4, p4⟩
     have H4 := Lib.hid h4
     have P4 := Lib.hid (P3.out.trans_ p4)
     clear h4 p4
     go_wp2
     go_end0
     exact NOut.yes2 H4.out P4.out HOK.out HNW.out (by simp; omega)
    ·have d0 : decide ((0 : Int) < (l.length : Int)) = true := by rw [decide_eq_true_eq]; omega
     have d1 : (0 : Int) < (l.length : Int) := by omega
     have HNW : Hid (ws1 ++ [⟨#[44]⟩] ++ [⟨#[46, 46, 46]⟩] ++ [⟨#[41]⟩] = ws ++ nw) := by
      show _ = _
      rw [← HW.out, HT1.out.1]
      unfold rowW
      rw [if_pos rfl, commas_snoc, if_neg (by
       intro he
       have : (l.map shf).length = 0 := by rw [he]; rfl
       rw [List.length_map] at this
       exact h0 this)]
      simp
     have H0 := Lib.hid h0
     clear h0
     go_wp2_with fail
     refine (psay1 _ HR.out.1 (by omega)).mono ?_
     rintro e w3 ⟨rfl, h3, p3⟩
     have H3 := Lib.hid h3
     have P3 := Lib.hid (HR.out.2.1.trans_ p3)
     clear h3 p3
     go_wp2_with fail
     refine (psay1 _ H3.out (by simp; omega)).mono ?_
     rintro e w4 ⟨rfl, h4, p4⟩
     have H4 := Lib.hid h4
     have P4 := Lib.hid (P3.out.trans_ p4)
     clear h4 p4
     go_wp2_with fail
     refine (psay1 _ H4.out (by simp; omega)).mono ?_
     rintro e w5 ⟨rfl, h5, p5⟩
     have H5 := Lib.hid h5
     have P5 := Lib.hid (P4.out.trans_ p5)
     clear h5 p5
     go_wp2
     go_end0
     exact NOut.yes2 H5.out P5.out HOK.out HNW.out (by simp; omega)
end Go.Proofs.YtgegfbopogcjpaaGreatDoor
