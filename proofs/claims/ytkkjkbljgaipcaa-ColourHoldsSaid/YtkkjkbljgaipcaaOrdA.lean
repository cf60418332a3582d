/- Orders and bodies, plain and in memory; which may be. -/
import Derived.Test.YtkkjkbljgaipcaaAbiO
namespace Go.Proofs.Ytkkjkbljgaipcaa
open Go.RowKit
set_option linter.unusedVariables false
set_option linter.unusedSimpArgs false
set_option maxRecDepth 100000
/-- an order -/
structure Or where
  op : Int
  d : List Int
  s : List Int
  n : Int
  nm : ByteArray
  ty : Ty
/-- a body -/
structure Bo where
  nm : ByteArray
  static : Bool
  ty : Ty
  regs : Int
  code : List Or
def i64 (x : Int) : Value := .int .i64 x
def LenT (T : Ty) : Prop := T.ns.length ≤ maxLen ∧ T.ps.length ≤ maxLen
def RepO (w : World) (o : Or) (cs : List Value) : Prop := ∃ Ad cd As c' tc, cs = [.int .i64 o.op, .slice Ad o.d.length cd, .slice As o.s.length c', .int .i64 o.n, .string o.nm] ++ tc ∧ Row w Ad (o.d.map i64) ∧ Row w As (o.s.map i64) ∧ Rep w o.ty tc ∧ o.d.length ≤ maxLen ∧ o.s.length ≤ maxLen ∧ o.d.length ≤ cd ∧ o.s.length ≤ c' ∧ LenT o.ty
def RepOL (w : World) (A : Option Addr) (l : List Or) : Prop := ∀ i (h : i < l.length), ∃ b o cs, A = some ⟨b, o, none⟩ ∧ b < w.heap.size ∧ (∀ j v, cs[j]? = some v → w.cell? ⟨b, o + i * 10 + j, none⟩ = some v) ∧ RepO w l[i] cs
def RepB (w : World) (b : Bo) (cs : List Value) : Prop := ∃ tc A c, cs = [.string b.nm, .bool b.static] ++ tc ++ [.int .i64 b.regs, .slice A b.code.length c] ∧ Rep w b.ty tc ∧ RepOL w A b.code ∧ b.code.length ≤ maxLen
theorem RepO.keep {w w' : World} {o : Or} {cs : List Value} (h : RepO w o cs) (hb : Below w.heap.size w w') : RepO w' o cs := by
  obtain ⟨Ad, cd, As, c', tc, h0, h1, h2, h3, h4⟩ := h
  exact ⟨Ad, cd, As, c', tc, h0, h1.keep hb, h2.keep hb, Rep.keep hb _ _ h3, h4⟩
theorem RepOL.keep {w w' : World} {A : Option Addr} {l : List Or} (h : RepOL w A l) (hb : Below w.heap.size w w') : RepOL w' A l := fun i hi => by
  obtain ⟨b, o, cs, hA, hlt, hc, hr⟩ := h i hi
  exact ⟨b, o, cs, hA, Nat.lt_of_lt_of_le hlt hb.size, fun j v hj => (hb.cell (p := ⟨b, o + i * 10 + j, none⟩) hlt).trans (hc j v hj), hr.keep hb⟩
theorem RepB.keep {w w' : World} {b : Bo} {cs : List Value} (h : RepB w b cs) (hb : Below w.heap.size w w') : RepB w' b cs := by
  obtain ⟨tc, A, c, h0, h1, h2, h3⟩ := h
  exact ⟨tc, A, c, h0, Rep.keep hb _ _ h1, h2.keep hb, h3⟩
theorem Row.i64 {w : World} {A : Option Addr} {l : List Int} (h : Row w A (l.map i64)) {k : Nat} (hk : k < l.length) : ∃ b o, A = some ⟨b, o, none⟩ ∧ b < w.heap.size ∧ w.cell? ⟨b, o + k, none⟩ = some (.int .i64 l[k]) := by
  obtain ⟨b, o, hA, hl, hc⟩ := h.at_ (by intro e; have := congrArg List.length e; simp at this; subst this; simp at hk)
  exact ⟨b, o, hA, hl, hc k _ (by rw [List.getElem?_map, List.getElem?_eq_getElem hk]; rfl)⟩
/-! which may be -/
def withinB (l : List Int) (r : Int) : Bool := l.all fun x => decide (0 ≤ x) && decide (x < r)
def zeroT (T : Ty) : Bool := (T.k == 0) && T.nm.toList.isEmpty && (T.ns.length == 0) && (T.ps.length == 0) && !T.many
def resW (T : Ty) : Nat := (sizeT (lastT T)).1
def parW (T : Ty) : Nat := bsum T.ps.dropLast
structure Rw where
  d : Int
  s : Int
  n : Bool
  least : Int
  most : Int
  name : Bool
  typ : Bool
def Rw.cells (r : Rw) : Array Value := #[.int .i64 r.d, .int .i64 r.s, .bool r.n, .int .i64 r.least, .int .i64 r.most, .bool r.name, .bool r.typ]
def rowOf (T : Ty) (len : Nat) (op : Int) : Rw × Bool :=
  if op = 1 then (⟨1, 0, true, -2147483648, 2147483647, false, false⟩, true)
  else if op = 2 then (⟨1, 1, false, 0, 0, false, false⟩, true)
  else if op = 3 then (⟨1, 2, true, 1, 12, false, false⟩, true)
  else if op = 4 then (⟨1, 0, true, 0, 1, true, false⟩, true)
  else if op = 5 then (⟨0, 1, true, 0, 1, true, false⟩, true)
  else if op = 6 then (⟨1, 0, false, 0, 0, true, false⟩, true)
  else if op = 7 then (⟨-1, -1, false, 0, 0, true, true⟩, true)
  else if op = 8 then (⟨-1, -1, false, 0, 0, false, true⟩, true)
  else if op = 9 then (⟨0, 0, true, 0, (len : Int) - 1, false, false⟩, true)
  else if op = 10 then (⟨0, 1, true, 0, (len : Int) - 1, false, false⟩, true)
  else if op = 11 then (⟨0, 1, false, 0, 0, false, false⟩, true)
  else if op = 12 then (⟨0, (resW T : Int), false, 0, 0, false, false⟩, true)
  else if op = 13 then (⟨1, 0, false, 0, 0, false, false⟩, T.many)
  else if op = 14 then (⟨1, 1, false, 0, 0, false, false⟩, T.many)
  else (⟨0, 0, false, 0, 0, false, false⟩, false)
/-- what is asked of N -/
def numB (r : Rw) (n : Int) : Bool := if r.n then decide (r.least ≤ n) && decide (n ≤ r.most) else n == 0
/-- what is asked of Name -/
def namB (r : Rw) (s : ByteArray) : Bool := if r.name then nameOf s else s.toList.isEmpty
/-- what is asked of how many S a call has -/
def spareB (T : Ty) (s : Nat) : Bool := (s == parW T) || (decide (parW T < s) && T.many && decide (s ≤ parW T + 12))
noncomputable def callB (op : Int) (o : Or) : Bool := (o.ty.k == 4) && may o.ty && (o.d.length == resW o.ty) && decide o.d.Nodup && (if op = 8 then decide (1 ≤ o.s.length) && spareB o.ty (o.s.length - 1) else spareB o.ty o.s.length)
noncomputable def orderB (T : Ty) (regs : Int) (len : Nat) (o : Or) : Bool :=
  (rowOf T len o.op).2 && withinB o.d regs && withinB o.s regs && numB (rowOf T len o.op).1 o.n && namB (rowOf T len o.op).1 o.nm &&
    (if (rowOf T len o.op).1.typ then callB o.op o else zeroT o.ty && ((o.d.length : Int) == (rowOf T len o.op).1.d) && ((o.s.length : Int) == (rowOf T len o.op).1.s))
noncomputable def bodyB (b : Bo) : Bool :=
  nameOf b.nm && (b.ty.k == 4) && may b.ty && decide ((parW b.ty : Int) ≤ b.regs) && decide (b.regs ≤ 8000) && decide (1 ≤ b.code.length) && decide (b.code.length ≤ 6000) &&
    b.code.all (orderB b.ty b.regs b.code.length) && (match b.code.getLast? with | some o => (o.op == 9) || (o.op == 12) | none => false)
end Go.Proofs.Ytkkjkbljgaipcaa
