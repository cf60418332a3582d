/- Who gives registers and places: the walks of abi's giver: even, next. -/
import Derived.Test.YtkkjkbljgaipcaaLib
import Derived.Test.YtkkjkbljgaipcaaChecked
import Derived.RegionTactic
import Derived.ChangeAlike
import Derived.WalkKit
import Derived.WalkLawsBesides
import Derived.Outline
import Derived.LoopTactic
namespace Go.Proofs.Ytkkjkbljgaipcaa
open Go.RowKit
set_option linter.unusedVariables false
set_option linter.unusedSimpArgs false
set_option maxRecDepth 100000
set_option maxHeartbeats 1000000
structure Pl where
  s : Bool
  n : Nat
  deriving DecidableEq
def Pl.cells (l : Pl) : List Value := [.bool l.s, .int .i64 (l.n : Int)]
/-- what a giver has given: registers, places -/
structure Gv where
  r : Nat
  p : Nat
def Gv.even (g : Gv) : Gv := if g.r < 4 then ⟨g.r + g.r % 2, g.p⟩ else ⟨g.r, g.p + g.p % 2⟩
def Gv.loc (g : Gv) : Pl := if g.r < 4 then ⟨false, g.r⟩ else ⟨true, g.p⟩
def Gv.next (g : Gv) : Gv := if g.r < 4 then ⟨g.r + 1, g.p⟩ else ⟨g.r, g.p + 1⟩
/-- the giver lies in block b -/
def GvAt (w : World) (b : Nat) (g : Gv) : Prop := Blk w b 86 #[.int .i64 (g.r : Int), .int .i64 (g.p : Int)] ∧ g.r ≤ 100 ∧ g.p ≤ 1000
theorem grow_set (w : World) (b i : Nat) (u : Value) : w.grownBy (w.setCell ⟨b, i, none⟩ u) (some b) :=
  ⟨rfl, rfl, rfl, by simp [World.setCell], fun k hk hne => Below.heap_setCell w _ u k (fun e => hne (by rw [e]))⟩
theorem grow_drew {a w : World} {row : Option Nat} (h : a.grownBy w row) : a.grownBy w.drew row := ⟨h.os, h.tape, h.output, h.size, h.block⟩
theorem grow_alloc (w : World) (o : Obj) (row : Option Nat) : w.grownBy (w.alloc o) row := ⟨rfl, rfl, rfl, by simp, fun i hi _ => Below.heap_alloc w o i hi⟩
theorem grow_trans {a w v : World} {row : Option Nat} (h : a.grownBy w row) (k : w.grownBy v row) : a.grownBy v row :=
  ⟨k.os.trans h.os, k.tape.trans h.tape, k.output.trans h.output, Nat.le_trans h.size k.size, fun i hi hne => (k.block i (Nat.lt_of_lt_of_le hi h.size) hne).trans (h.block i hi hne)⟩
theorem grow_below {a w : World} (h : Below a.heap.size a w) (row : Option Nat) : a.grownBy w row := ⟨h.os, h.tape, h.output, h.size, fun i hi _ => h.block i hi⟩
theorem gevn_any (b : Nat) (g : Gv) (w : World) (h : GvAt w b g) : Calls Try.prog 73 #[.pointer (some ⟨b, 0, none⟩)] w fun e w' => e = .returned (.tuple #[]) ∧ Blk w' b 86 #[.int .i64 (g.even.r : Int), .int .i64 (g.even.p : Int)] ∧ w.grownBy w' (some b) := by
  obtain ⟨r, p⟩ := g
  obtain ⟨hb, hr, hp⟩ := h
  have c0 := hb.cell 0 _ rfl
  have c1 := hb.cell 1 _ rfl
  have f0 := hb.free 0
  have f1 := hb.free 1
  by_cases h4 : r < 4
  · have hi : (r : Int) < 4 := by omega
    have hr0 : (0 : Int) ≤ (r : Int) := by omega
    have k2 : Blk (w.setCell ⟨b, 0, none⟩ (.int .i64 ((r : Int) + (r : Int) % 2))) b 86 #[.int .i64 ((Gv.even ⟨r, p⟩).r : Int), .int .i64 ((Gv.even ⟨r, p⟩).p : Int)] := by
      have k1 := hb.set_ 0 (.int .i64 ((r : Int) + (r : Int) % 2))
      simpa [Gv.even, h4, Blk] using k1
    go_enter Try.func73, Try.ntmps73
    go_wp2
    go_region
    all_goals
      go_wp2
      go_end0
      exact ⟨rfl, k2, grow_drew (grow_set _ _ _ _)⟩
  · have hi : ¬ (r : Int) < 4 := by omega
    have hp0 : (0 : Int) ≤ (p : Int) := by omega
    have hp1 : (p : Int) ≤ 1000 := by simp at hp; omega
    have k2 : Blk (w.setCell ⟨b, 1, none⟩ (.int .i64 ((p : Int) + (p : Int) % 2))) b 86 #[.int .i64 ((Gv.even ⟨r, p⟩).r : Int), .int .i64 ((Gv.even ⟨r, p⟩).p : Int)] := by
      have k1 := hb.set_ 1 (.int .i64 ((p : Int) + (p : Int) % 2))
      simpa [Gv.even, h4, Blk] using k1
    go_enter Try.func73, Try.ntmps73
    go_wp2
    go_region
    all_goals
      go_wp2
      go_end0
      exact ⟨rfl, k2, grow_drew (grow_set _ _ _ _)⟩
theorem gnxt_any (b : Nat) (g : Gv) (w : World) (h : GvAt w b g) : Calls Try.prog 49 #[.pointer (some ⟨b, 0, none⟩)] w fun e w' => e = .returned (.agg #[.bool g.loc.s, .int .i64 (g.loc.n : Int)]) ∧ Blk w' b 86 #[.int .i64 (g.next.r : Int), .int .i64 (g.next.p : Int)] ∧ w.grownBy w' (some b) := by
  obtain ⟨r, p⟩ := g
  obtain ⟨hb, hr, hp⟩ := h
  have c0 := hb.cell 0 _ rfl
  have c1 := hb.cell 1 _ rfl
  have f0 := hb.free 0
  have f1 := hb.free 1
  have hlt := hb.lt
  have hne : b ≠ w.heap.size := by omega
  by_cases h4 : r < 4
  · have hi : (r : Int) < 4 := by omega
    have hr0 : (0 : Int) ≤ (r : Int) := by omega
    have k2 : Blk (w.setCell ⟨b, 0, none⟩ (.int .i64 ((r : Int) + 1))) b 86 #[.int .i64 ((Gv.next ⟨r, p⟩).r : Int), .int .i64 ((Gv.next ⟨r, p⟩).p : Int)] := by
      have k1 := hb.set_ 0 (.int .i64 ((r : Int) + 1))
      simpa [Gv.next, h4, Blk] using k1
    go_enter Try.func49, Try.ntmps49
    go_wp2
    exact bodyPost_ret (v := .agg #[.bool false, .int .i64 (r : Int)]) (by simp [results, Try.results49, go_sem]) rfl ⟨by simp [Gv.loc, h4], k2.alloc _, grow_trans (grow_set _ _ _ _) (grow_alloc _ _ _)⟩
  · have hi : ¬ (r : Int) < 4 := by omega
    have hp0 : (0 : Int) ≤ (p : Int) := by omega
    have hp1 : (p : Int) ≤ 1000 := by simp at hp; omega
    have k2 : Blk (w.setCell ⟨b, 1, none⟩ (.int .i64 ((p : Int) + 1))) b 86 #[.int .i64 ((Gv.next ⟨r, p⟩).r : Int), .int .i64 ((Gv.next ⟨r, p⟩).p : Int)] := by
      have k1 := hb.set_ 1 (.int .i64 ((p : Int) + 1))
      simpa [Gv.next, h4, Blk] using k1
    go_enter Try.func49, Try.ntmps49
    go_wp2
    exact bodyPost_ret (v := .agg #[.bool true, .int .i64 (p : Int)]) (by simp [results, Try.results49, go_sem]) rfl ⟨by simp [Gv.loc, h4], k2.alloc _, grow_trans (grow_set _ _ _ _) (grow_alloc _ _ _)⟩
end Go.Proofs.Ytkkjkbljgaipcaa
