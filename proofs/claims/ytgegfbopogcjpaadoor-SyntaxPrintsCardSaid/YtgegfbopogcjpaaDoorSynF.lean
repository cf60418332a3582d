/- The printer's small functions: static, sign, level, place, number. -/
import Derived.Test.YtgegfbopogcjpaaDoorSynE
import Derived.Deep.LoopGhost
namespace Go.Proofs.YtgegfbopogcjpaaDoor
open Go.RowKit
set_option linter.unusedVariables false
set_option linter.unusedSimpArgs false
set_option maxRecDepth 100000
set_option maxHeartbeats 1000000
/-- what the shelf asks of the world -/
structure Env (w : World) : Prop where
  ml : ML w
  tab : Lib.TabIs Tryd.prog w "internal/strconv.uint64pow10" .u64 Lib.pow10Tab
theorem Env.keep {w w' : World} (h : Env w) (hb : Below w.heap.size w w') : Env w' := by
  refine ⟨h.ml.keep hb, ?_⟩
  have ht := h.tab
  unfold Lib.TabIs World.var? at ht ⊢
  rcases hk : Tryd.prog.globalNamed "internal/strconv.uint64pow10" with _ | g
  · rw [hk] at ht
    cases ht
  · rw [hk] at ht
    simp only [Option.bind_some] at ht ⊢
    have hlt : g < w.heap.size := by
      rcases Nat.lt_or_ge g w.heap.size with h' | h'
      · exact h'
      · rw [Array.getElem?_eq_none h'] at ht; cases ht
    rw [hb.block g hlt]
    exact ht
/-- the printer, in a world that has grown out of w0 -/
def St (w0 : World) (p : Nat) (ws : List ByteArray) (w : World) : Prop := Below w0.heap.size w0 w ∧ Pr w0.heap.size p ws w
theorem St.env {w0 w : World} {p : Nat} {ws : List ByteArray} (h : St w0 p ws w) (hE : Env w0) : Env w := hE.keep h.1
theorem St.alloc {w0 w : World} {p : Nat} {ws : List ByteArray} (h : St w0 p ws w) (o : Obj) : St w0 p ws (w.alloc o) := ⟨h.1.alloc h.2.le o, h.2.alloc o⟩
theorem St.below {w0 w w' : World} {p : Nat} {ws : List ByteArray} (h : St w0 p ws w) (hb : Below w.heap.size w w') : St w0 p ws w' := by
  refine ⟨below_trans h.1 (Nat.le_refl _) hb, ?_⟩
  obtain ⟨h1, v, hk, ho⟩ := h.2
  exact ⟨h1, v, hk.below hb, own_below ho hb⟩
theorem PK.of_below {w w' : World} {B p : Nat} {ws : List ByteArray} (h : Pr B p ws w) (hb : Below w.heap.size w w') : PK p w w' := by
  refine ⟨hb.os, hb.tape, hb.output, hb.size, fun k hk _ hr => ⟨hb.block k hk, ?_⟩⟩
  have e : rowAt w' p = rowAt w p := by
    unfold rowAt
    rw [hb.cell (p := ⟨p, 0, none⟩) h.lt]
  rw [e]
  exact hr
/-- a block of another kind stays -/
theorem PK.blk {B p k : Nat} {ws : List ByteArray} {w w' : World} {t : TypeId} {cs : Array Value} (h : PK p w w') (hp : Pr B p ws w) (hk : Blk w k t cs) (h1 : t ≠ 9) (h2 : t ≠ 38) : Blk w' k t cs := by
  obtain ⟨h0, v, hb, ho⟩ := hp
  refine ((h.keep k hk.lt (fun e => ?_) ?_).1).trans hk
  · subst e
    unfold Blk at hk hb
    rw [hk] at hb
    injection hb with hb
    injection hb with _ hb
    exact h2 hb
  · rw [rowAt_of hb]
    exact own_blk ho hk (fun e => h1 e.symm)
/-- what a part of the printer answers: it has written new, or has given up -/
def NOut (w0 : World) (p : Nat) (ws : List ByteArray) (ok : Bool) (new : List ByteArray) (m : Nat) (w : World) (e : Ending) (w' : World) : Prop :=
  ∃ ws', St w0 p ws' w' ∧ PK p w w' ∧ ws'.length ≤ ws.length + m ∧ (ok = true ∧ e = .returned (.tuple #[]) ∧ ws' = ws ++ new ∨ ok = false ∧ e = noneE)
theorem NOut.yes {w0 w w' : World} {p m : Nat} {ws new ws' : List ByteArray} {ok : Bool} (hs : St w0 p ws' w') (hk : PK p w w') (h1 : ok = true) (h2 : ws' = ws ++ new) (h3 : new.length ≤ m) : NOut w0 p ws ok new m w (.returned (.tuple #[])) w' :=
  ⟨ws', hs, hk, by rw [h2, List.length_append]; omega, .inl ⟨h1, rfl, h2⟩⟩
theorem NOut.no {w0 w w' : World} {p m : Nat} {ws new ws' : List ByteArray} {ok : Bool} (hs : St w0 p ws' w') (hk : PK p w w') (h1 : ok = false) (h3 : ws'.length ≤ ws.length + m) : NOut w0 p ws ok new m w noneE w' :=
  ⟨ws', hs, hk, h3, .inr ⟨h1, rfl⟩⟩
theorem must_yes (w : World) : Calls Tryd.prog 8 #[.bool true] w fun e w' => e = .returned (.tuple #[]) ∧ w = w' := (must_any true w).mono fun e w' ⟨h, hw⟩ => ⟨(by rcases h with ⟨_, h⟩ | ⟨h, _⟩; exact h; cases h), hw⟩
theorem must_no (w : World) : Calls Tryd.prog 8 #[.bool false] w fun e w' => e = .panicked [{ v := .iface 32 (.agg #[]), recovered := false }] ∧ w = w' := (must_any false w).mono fun e w' ⟨h, hw⟩ => ⟨(by rcases h with ⟨h, _⟩ | ⟨_, h⟩; cases h; exact h), hw⟩
theorem SayOut.st {w0 w w' : World} {p : Nat} {ws : List ByteArray} {e : Ending} (h : SayOut w0.heap.size p ws w e w') {ws0 : List ByteArray} (hs : St w0 p ws0 w) : e = .returned (.tuple #[]) ∧ St w0 p ws w' ∧ PK p w w' :=
  ⟨h.1, ⟨hs.1.trans (h.2.2.below hs.2), h.2.1⟩, h.2.2⟩
/-- say, in the printer's state -/
theorem psay1 {w0 w : World} {p g : Nat} {ws : List ByteArray} (x : ByteArray) (h : St w0 p ws w) (hb : ws.length + 1 ≤ 100000) (hg : w.heap.size = g := by first | rfl | simp) :
    Calls Tryd.prog 16 #[.pointer (some ⟨p, 0, none⟩), .slice (some ⟨g, 0, none⟩) 1 1] (w.alloc (.cells #[.string x] 9)) fun e w' => e = .returned (.tuple #[]) ∧ St w0 p (ws ++ [x]) w' ∧ PK p w w' := by
  subst hg
  exact (say1 w0.heap.size p ws x w h.2 hb).mono fun _ _ k => k.st h
theorem psay2 {w0 w : World} {p g : Nat} {ws : List ByteArray} (x y : ByteArray) (h : St w0 p ws w) (hb : ws.length + 2 ≤ 100000) (hg : w.heap.size = g := by first | rfl | simp) :
    Calls Tryd.prog 16 #[.pointer (some ⟨p, 0, none⟩), .slice (some ⟨g, 0, none⟩) 2 2] (w.alloc (.cells #[.string x, .string y] 9)) fun e w' => e = .returned (.tuple #[]) ∧ St w0 p (ws ++ [x, y]) w' ∧ PK p w w' := by
  subst hg
  exact (say2 w0.heap.size p ws x y w h.2 hb).mono fun _ _ k => k.st h
theorem psay3 {w0 w : World} {p g : Nat} {ws : List ByteArray} (x y z : ByteArray) (h : St w0 p ws w) (hb : ws.length + 3 ≤ 100000) (hg : w.heap.size = g := by first | rfl | simp) :
    Calls Tryd.prog 16 #[.pointer (some ⟨p, 0, none⟩), .slice (some ⟨g, 0, none⟩) 3 3] (w.alloc (.cells #[.string x, .string y, .string z] 9)) fun e w' => e = .returned (.tuple #[]) ∧ St w0 p (ws ++ [x, y, z]) w' ∧ PK p w w' := by
  subst hg
  exact (say3 w0.heap.size p ws x y z w h.2 hb).mono fun _ _ k => k.st h
theorem static_any (w0 w : World) (p : Nat) (ws : List ByteArray) (num most : Int) (h : St w0 p ws w) (hb : ws.length + 1 ≤ 100000) :
    Calls Tryd.prog 20 #[.pointer (some ⟨p, 0, none⟩), .int .i64 num, .int .i64 most] w (NOut w0 p ws (decide (0 ≤ num) && decide (num ≤ most)) (statW num) 1 w) := by
  have H := Lib.hid h
  clear h
  obtain ⟨ok, HK⟩ : ∃ b, Hid ((decide (0 ≤ num) && decide (num ≤ most)) = b) := ⟨_, rfl⟩
  rw [HK.out]
  by_cases h0 : 0 ≤ num
  · have d0 : decide (0 ≤ num) = true := by simpa using h0
    by_cases h1 : num ≤ most
    · have d1 : decide (num ≤ most) = true := by simpa using h1
      have hV : Hid (ok = true) := by show _ = _; rw [← HK.out, d0, d1]; rfl
      by_cases h2 : num % 2 = 1
      · have hW : Hid (statW num = [⟨#[115, 116, 97, 116, 105, 99]⟩]) := if_pos h2
        have h2b : (num % 2 == 1) = true := by simpa using h2
        clear h2
        go_enter Tryd.func20, Tryd.ntmps20
        go_wp2_with fail
        refine (must_yes _).mono ?_
        rintro e w' ⟨rfl, rfl⟩
        go_wp2_with fail
        refine (psay1 _ H.out hb).mono ?_
        rintro e w' ⟨rfl, h3, h4⟩
        have H3 := Lib.hid h3
        have H4 := Lib.hid h4
        clear h3 h4
        go_wp2
        go_end0
        exact NOut.yes H3.out H4.out hV.out (by rw [hW.out]) (by rw [hW.out]; simp)
      · have hW : Hid (statW num = []) := if_neg h2
        have h2b : (num % 2 == 1) = false := by simpa using h2
        clear h2
        go_enter Tryd.func20, Tryd.ntmps20
        go_wp2_with fail
        refine (must_yes _).mono ?_
        rintro e w' ⟨rfl, rfl⟩
        go_wp2
        go_end0
        exact NOut.yes H.out (PK.refl_ _ _) hV.out (by rw [hW.out]; simp) (by rw [hW.out]; simp)
    · have d1 : decide (num ≤ most) = false := by simpa using h1
      have hV : Hid (ok = false) := by show _ = _; rw [← HK.out, d0, d1]; rfl
      go_enter Tryd.func20, Tryd.ntmps20
      go_wp2_with fail
      refine (must_no _).mono ?_
      rintro e w' ⟨rfl, rfl⟩
      go_wp2
      exact ⟨rfl, NOut.no H.out (PK.refl_ _ _) hV.out (by omega)⟩
  · have d0 : decide (0 ≤ num) = false := by simpa using h0
    have hV : Hid (ok = false) := by show _ = _; rw [← HK.out, d0]; rfl
    go_enter Tryd.func20, Tryd.ntmps20
    go_wp2_with fail
    refine (must_no _).mono ?_
    rintro e w' ⟨rfl, rfl⟩
    go_wp2
    exact ⟨rfl, NOut.no H.out (PK.refl_ _ _) hV.out (by omega)⟩
theorem psign_any (op : Int) (w : World) : Calls Tryd.prog 64 #[.int .i64 op] w fun e w' => e = .returned (.tuple #[.string (sgnT op), .int .i64 (sgnB op)]) ∧ w = w' := by
  have h : op = 12 ∨ op = 10 ∨ op = 1 ∨ op = 2 ∨ op = 8 ∨ op = 9 ∨ op = 3 ∨ op = 5 ∨ op = 6 ∨ op = 7 ∨ (op ≠ 12 ∧ op ≠ 10 ∧ op ≠ 1 ∧ op ≠ 2 ∧ op ≠ 8 ∧ op ≠ 9 ∧ op ≠ 3 ∧ op ≠ 5 ∧ op ≠ 6 ∧ op ≠ 7) := by omega
  rcases h with rfl | rfl | rfl | rfl | rfl | rfl | rfl | rfl | rfl | rfl | ⟨a1, a2, a3, a4, a5, a6, a7, a8, a9, a10⟩
  iterate 10
    · go_enter Tryd.func64, Tryd.ntmps64
      go_wp2
      go_ret2
      exact ⟨rfl, rfl⟩
  · have e1 : Hid (sgnT op = ⟨#[]⟩ ∧ sgnB op = -1) := by
      show _ ∧ _
      unfold sgnT sgnB sgn
      simp [a1, a2, a3, a4, a5, a6, a7, a8, a9, a10]
    go_enter Tryd.func64, Tryd.ntmps64
    go_wp2
    go_ret2
    exact ⟨by rw [e1.out.1, e1.out.2]; rfl, rfl⟩
theorem level_any (n : Nd) (A : Option Addr) (c : Nat) (w : World) : Calls Tryd.prog 63 #[.agg #[.int .i64 n.k, .string n.t, .int .i64 n.num, .slice A n.kids.length c]] w fun e w' => e = .returned (.int .i64 (bindN n)) ∧ Below w.heap.size w w' := by
  have hB : Below w.heap.size w (w.alloc (.cells #[.int .i64 n.k, .string n.t, .int .i64 n.num, .slice A n.kids.length c] 24)) := by (repeat (first | with_reducible assumption | with_reducible exact Below.refl _ _ | (refine Below.setCell ?_ (by first | omega | (simp; done) | (simp; omega)) _) | (refine Below.drewN_ ?_ _) | (refine Below.drew ?_) | (refine Below.alloc ?_ (by first | omega | (simp; done) | (simp; omega)) _)))
  have HB := Lib.hid hB
  clear hB
  have h : n.k = 32 ∨ n.k = 28 ∨ n.k = 29 ∨ (n.k ≠ 32 ∧ n.k ≠ 28 ∧ n.k ≠ 29) := by omega
  rcases h with h | h | h | ⟨h1, h2, h3⟩
  · have e1 : Hid (bindN n = sgnB n.num) := by show _ = _; unfold bindN bindK; rw [h]; rfl
    have hk := Lib.hid h
    have h32 : (n.k == 32) = true := by simpa using h
    clear h
    go_enter Tryd.func63, Tryd.ntmps63
    go_wp2_with (go_at_call 64; refine (psign_any _ _).mono ?_; rintro e w' ⟨rfl, rfl⟩)
    go_ret
    exact ⟨by rw [e1.out]; rfl, HB.out⟩
  · have e1 : Hid (bindN n = 3) := by show _ = _; unfold bindN bindK; rw [h]; rfl
    have b1 : (n.k == 32) = false := by rw [h]; rfl
    have b2 : (n.k == 28) = true := by rw [h]; rfl
    clear h
    go_enter Tryd.func63, Tryd.ntmps63
    go_wp2
    go_ret
    exact ⟨by rw [e1.out]; rfl, HB.out⟩
  · have e1 : Hid (bindN n = 3) := by show _ = _; unfold bindN bindK; rw [h]; rfl
    have b1 : (n.k == 32) = false := by rw [h]; rfl
    have b2 : (n.k == 28) = false := by rw [h]; rfl
    have b3 : (n.k == 29) = true := by rw [h]; rfl
    clear h
    go_enter Tryd.func63, Tryd.ntmps63
    go_wp2
    go_ret
    exact ⟨by rw [e1.out]; rfl, HB.out⟩
  · have e1 : Hid (bindN n = 4) := by show _ = _; unfold bindN bindK; simp [h1, h2, h3]
    have b1 : (n.k == 32) = false := by simpa using h1
    have b2 : (n.k == 28) = false := by simpa using h2
    have b3 : (n.k == 29) = false := by simpa using h3
    clear h1 h2 h3
    go_enter Tryd.func63, Tryd.ntmps63
    go_wp2
    go_ret
    exact ⟨by rw [e1.out]; rfl, HB.out⟩
end Go.Proofs.YtgegfbopogcjpaaDoor
