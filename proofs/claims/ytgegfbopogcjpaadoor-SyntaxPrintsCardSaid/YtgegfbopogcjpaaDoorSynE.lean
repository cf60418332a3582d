/- The printer: its words lie in a row of its own; say writes more of them. -/
import Derived.Test.YtgegfbopogcjpaaDoorSynC
import Derived.Maps.AppendAt
import Derived.Defers
import Derived.Recover
namespace Go.Proofs.YtgegfbopogcjpaaDoor
open Go.RowKit
set_option linter.unusedVariables false
set_option linter.unusedSimpArgs false
set_option maxRecDepth 100000
set_option maxHeartbeats 1000000
/-- the printer in block p has written these words -/
def Pr (B p : Nat) (ws : List ByteArray) (w : World) : Prop := B ≤ p ∧ ∃ v, Blk w p 38 #[v] ∧ w.ownsRow B 9 1 v ws.length (ws.map .string)
/-- the block of the printer's row -/
def rowAt (w : World) (p : Nat) : Option Nat := match w.cell? ⟨p, 0, none⟩ with
  | some v => v.ownBlock
  | none => none
theorem rowAt_of {w : World} {p : Nat} {v : Value} {t : TypeId} (h : Blk w p t #[v]) : rowAt w p = v.ownBlock := by
  unfold rowAt
  rw [h.cell 0 v rfl]
/-- what else has been there stays -/
structure PK (p : Nat) (w w' : World) : Prop where
  os : w'.os = w.os
  tape : w'.tape = w.tape
  output : w'.output = w.output
  size : w.heap.size ≤ w'.heap.size
  keep : ∀ k, k < w.heap.size → k ≠ p → some k ≠ rowAt w p → w'.heap[k]? = w.heap[k]? ∧ some k ≠ rowAt w' p
theorem PK.refl_ (p : Nat) (w : World) : PK p w w := ⟨rfl, rfl, rfl, Nat.le_refl _, fun k _ _ h => ⟨rfl, h⟩⟩
theorem PK.trans_ {p : Nat} {a b c : World} (h : PK p a b) (k : PK p b c) : PK p a c :=
  ⟨k.os.trans h.os, k.tape.trans h.tape, k.output.trans h.output, Nat.le_trans h.size k.size, fun i hi hp hr => by
    obtain ⟨h1, h2⟩ := h.keep i hi hp hr
    obtain ⟨h3, h4⟩ := k.keep i (Nat.lt_of_lt_of_le hi h.size) hp h2
    exact ⟨h3.trans h1, h4⟩⟩
theorem Pr.lt {B p : Nat} {ws : List ByteArray} {w : World} (h : Pr B p ws w) : p < w.heap.size := by
  obtain ⟨-, v, hb, -⟩ := h
  exact hb.lt
theorem Pr.le {B p : Nat} {ws : List ByteArray} {w : World} (h : Pr B p ws w) : B ≤ w.heap.size := Nat.le_of_lt (Nat.lt_of_le_of_lt h.1 h.lt)
theorem Pr.row {B p : Nat} {ws : List ByteArray} {w : World} (h : Pr B p ws w) : ∀ k, rowAt w p = some k → B ≤ k ∧ k < w.heap.size := by
  obtain ⟨-, v, hb, ho⟩ := h
  rw [rowAt_of hb]
  exact fun k hk => ho.lt k hk
theorem PK.below {B p : Nat} {ws : List ByteArray} {w w' : World} (h : PK p w w') (hp : Pr B p ws w) : Below B w w' :=
  ⟨h.os, h.tape, h.output, h.size, fun k hk => (h.keep k (Nat.lt_of_lt_of_le hk hp.le) (by have := hp.1; omega) (fun e => by have := (hp.row k e.symm).1; omega)).1⟩
theorem rowAt_alloc {w : World} {p : Nat} (o : Obj) (h : p < w.heap.size) : rowAt (w.alloc o) p = rowAt w p := by
  unfold rowAt
  rw [show (w.alloc o).cell? ⟨p, 0, none⟩ = w.cell? ⟨p, 0, none⟩ from ((Below.refl w.heap.size w).alloc (Nat.le_refl _) o).cell (p := ⟨p, 0, none⟩) h]
theorem Pr.alloc {B p : Nat} {ws : List ByteArray} {w : World} (h : Pr B p ws w) (o : Obj) : Pr B p ws (w.alloc o) := by
  obtain ⟨h1, v, hb, ho⟩ := h
  exact ⟨h1, v, hb.alloc o, ho.alloc o⟩
theorem PK.alloc_ {p : Nat} (w : World) (o : Obj) (h : p < w.heap.size) : PK p w (w.alloc o) :=
  ⟨rfl, rfl, rfl, by simp, fun k hk _ hr => ⟨Below.heap_alloc w o k hk, by rw [rowAt_alloc o h]; exact hr⟩⟩
theorem PK.drewN_ {p : Nat} (w : World) (n : Nat) : PK p w (w.drewN n) := ⟨rfl, rfl, rfl, Nat.le_refl _, fun k _ _ hr => ⟨rfl, hr⟩⟩
theorem Pr.drewN_ {B p : Nat} {ws : List ByteArray} {w : World} (h : Pr B p ws w) (n : Nat) : Pr B p ws (w.drewN n) := by
  obtain ⟨h1, v, hb, ho⟩ := h
  exact ⟨h1, v, hb.drewN n, ho⟩
/-- a block that has come since the printer was made, and is not its row, stays -/
theorem PK.new_ {B p : Nat} {ws : List ByteArray} {w w' : World} (hp : Pr B p ws w) (o : Obj) (h : PK p (w.alloc o) w') : w'.heap[w.heap.size]? = some o :=
  ((h.keep w.heap.size (by simp) (by have := hp.lt; omega) (fun e => by
    rw [rowAt_alloc o hp.lt] at e
    have := (hp.row _ e.symm).2
    omega)).1).trans (heap_alloc_new w o)
def SayOut (B p : Nat) (ws : List ByteArray) (w : World) (e : Ending) (w' : World) : Prop := e = .returned (.tuple #[]) ∧ Pr B p ws w' ∧ PK p w w'
theorem info_text : (Tryd.prog.info? 9).map (fun i => (i.zero, i.size, i.bytes)) = some (some (.string ⟨#[]⟩), 1, 16) := by kernel_rfl
theorem say_end {B p : Nat} {ws new : List ByteArray} {w w1 : World} {v v' : Value} (hp : B ≤ p) (hk : Blk w p 38 #[v]) (hown : w.ownsRow B 9 1 v ws.length (ws.map .string))
    (hown' : w1.ownsRow B 9 1 v' (ws.length + new.length) (ws.map .string ++ new.map .string)) (hg : w.grownBy w1 v.ownBlock) (hat : v'.ownBlock = v.ownBlock ∨ v'.ownBlock = some w.heap.size) :
    Pr B p (ws ++ new) (w1.setCell ⟨p, 0, none⟩ v') ∧ PK p w (w1.setCell ⟨p, 0, none⟩ v') := by
  have hne : some p ≠ v.ownBlock := own_blk hown hk (by decide)
  have hk1 : Blk w1 p 38 #[v] := hk.grown hg hne
  have hk2 : Blk (w1.setCell ⟨p, 0, none⟩ v') p 38 #[v'] := hk1.set_ 0 v'
  have hne' : some p ≠ v'.ownBlock := own_blk hown' hk1 (by decide)
  refine ⟨⟨hp, v', hk2, ?_⟩, ⟨hg.os, hg.tape, hg.output, by simpa [World.setCell] using hg.size, fun k hk' hkp hr => ?_⟩⟩
  · have := own_set hown' (p := ⟨p, 0, none⟩) hne' v'
    rw [List.length_append, List.map_append]
    exact this
  · rw [rowAt_of hk] at hr
    rw [rowAt_of hk2]
    refine ⟨(Below.heap_setCell w1 ⟨p, 0, none⟩ v' k (fun e => hkp e)).trans (hg.block k hk' hr), fun e => ?_⟩
    rcases hat with h | h
    · exact hr (e.trans h)
    · rw [h] at e
      injection e with e
      omega
theorem say_any (B p : Nat) (ws new : List ByteArray) (g c m : Nat) (w : World) (hp : Pr B p ws w) (hm : new.length = m) (hn : ∀ j u, (new.map Value.string)[j]? = some u → w.cell? ((⟨g, 0, none⟩ : Addr).add j) = some u) (hb : ws.length + m ≤ 100000) :
    Calls Tryd.prog 16 #[.pointer (some ⟨p, 0, none⟩), .slice (some ⟨g, 0, none⟩) m c] w (SayOut B p (ws ++ new) w) := by
  subst hm
  have hle := hp.le
  obtain ⟨h0, v, hk, hown⟩ := hp
  obtain ⟨i0, hi, hz0, hz1, hz2⟩ := info_parts info_text
  have c0 := hk.cell 0 v rfl
  have f0 := hk.free 0
  have HN := Lib.hid hn
  clear hn
  go_enter Tryd.func16, Tryd.ntmps16
  go_wp2_with (at_builtin; refine @wpList_append_own_at Tryd.prog w _ _ _ _ _ rfl (.tmp 8) (.tmp 9) 36 rfl B 9 i0 (.string ⟨#[]⟩) 1 16 Tryd.underlying36 hi hz0 hz1 hz2 rfl (by decide) v ws.length (ws.map .string) rfl hown ⟨g, 0, none⟩ new.length c (new.map Value.string) rfl ?c1 ?c2 ?c3 ?c4 ?c5 ?c6 ?_)
  case c1 => simp
  case c2 => exact HN.out
  case c3 => intro u hu; obtain ⟨x, -, rfl⟩ := List.mem_map.1 hu; rfl
  case c4 => unfold maxLen; omega
  case c5 => omega
  case c6 => exact hle
  intro v' w1 hown' hgrow _ hat
  obtain ⟨A', cp', rfl, -⟩ := Row.of_own hown'
  have H := say_end h0 hk hown hown' hgrow hat
  have f1 : w1.frozen? ⟨p, 0, none⟩ = false := (hk.grown hgrow (own_blk hown hk (by decide))).free 0
  have c1 : w1.cell? ⟨p, 0, none⟩ = some v := (hk.grown hgrow (own_blk hown hk (by decide))).cell 0 v rfl
  have H2 := Lib.hid H
  clear H
  go_wp2
  go_end0
  exact ⟨rfl, H2.out⟩
theorem say_at (w : World) (l : List ByteArray) : ∀ j u, (l.map Value.string)[j]? = some u → (w.alloc (.cells (l.map Value.string).toArray 9)).cell? ((⟨w.heap.size, 0, none⟩ : Addr).add j) = some u := by
  intro j u h
  rw [add_plain_, Nat.zero_add]
  have := (Blk.new_ w 9 (l.map Value.string).toArray).cell j u (by simpa using h)
  exact this
theorem SayOut.of_alloc {B p : Nat} {ws ws' : List ByteArray} {w : World} {o : Obj} (hp : Pr B p ws w) {e : Ending} {w' : World} (h : SayOut B p ws' (w.alloc o) e w') : SayOut B p ws' w e w' :=
  ⟨h.1, h.2.1, (PK.alloc_ w o hp.lt).trans_ h.2.2⟩
theorem say1 (B p : Nat) (ws : List ByteArray) (x : ByteArray) (w : World) (hp : Pr B p ws w) (hb : ws.length + 1 ≤ 100000) :
    Calls Tryd.prog 16 #[.pointer (some ⟨p, 0, none⟩), .slice (some ⟨w.heap.size, 0, none⟩) 1 1] (w.alloc (.cells #[.string x] 9)) (SayOut B p (ws ++ [x]) w) :=
  (say_any B p ws [x] w.heap.size 1 1 _ (hp.alloc _) rfl (say_at w [x]) hb).mono fun _ _ h => h.of_alloc hp
theorem say2 (B p : Nat) (ws : List ByteArray) (x y : ByteArray) (w : World) (hp : Pr B p ws w) (hb : ws.length + 2 ≤ 100000) :
    Calls Tryd.prog 16 #[.pointer (some ⟨p, 0, none⟩), .slice (some ⟨w.heap.size, 0, none⟩) 2 2] (w.alloc (.cells #[.string x, .string y] 9)) (SayOut B p (ws ++ [x, y]) w) :=
  (say_any B p ws [x, y] w.heap.size 2 2 _ (hp.alloc _) rfl (say_at w [x, y]) hb).mono fun _ _ h => h.of_alloc hp
theorem say3 (B p : Nat) (ws : List ByteArray) (x y z : ByteArray) (w : World) (hp : Pr B p ws w) (hb : ws.length + 3 ≤ 100000) :
    Calls Tryd.prog 16 #[.pointer (some ⟨p, 0, none⟩), .slice (some ⟨w.heap.size, 0, none⟩) 3 3] (w.alloc (.cells #[.string x, .string y, .string z] 9)) (SayOut B p (ws ++ [x, y, z]) w) :=
  (say_any B p ws [x, y, z] w.heap.size 3 3 _ (hp.alloc _) rfl (say_at w [x, y, z]) hb).mono fun _ _ h => h.of_alloc hp
end Go.Proofs.YtgegfbopogcjpaaDoor
