/- Lemmas for the law. -/
import Derived.Test.YthihaeobkoiljaaGreatQ04
set_option linter.unusedVariables false
set_option linter.unusedSimpArgs false
set_option maxRecDepth 100000
set_option maxHeartbeats 40000000
namespace Go.Proofs.YthihaeobkoiljaaGreat
open Go.RowKit
structure Or where
 op : Int
 d : List Int
 s : List Int
 n : Int
 nm : ByteArray
 ty : Ty
structure Bo where
 nm : ByteArray
 static : Bool
 ty : Ty
 regs : Int
 code : List Or
def i64 (x : Int) : Value := .int .i64 x
def LenT (T : Ty) : Prop := T.ns.length ≤ maxLen ∧ T.ps.length ≤ maxLen
def RepO (w : World) (o : Or) (cs : List Value) : Prop := ∃ Ad cd As c' tc, cs = [.int .i64 o.op, .slice Ad o.d.length cd, .slice As o.s.length c', .int .i64 o.n, .string o.nm] ++ tc ∧ Row w Ad (o.d.map i64) ∧ Row w As (o.s.map i64) ∧ Rep w o.ty tc ∧ o.d.length ≤ maxLen ∧ o.s.length ≤ maxLen ∧ o.d.length ≤ cd ∧ o.s.length ≤ c' ∧ LenT o.ty
def RepOL (w : World) (A : Option Addr) (l : List Or) : Prop := ∀ i (h : i < l.length), ∃ b o cs, A = some ⟨b, o, none⟩ ∧ b < w.heap.size ∧ (∀ j v, cs[j]? = some v → w.cell? ⟨b, o + i * 10 + j, none⟩ = some v) ∧ RepO w l[i] cs
def RepB (w : World) (b : Bo) (cs : List Value) : Prop := ∃ tc A c, cs = [.string b.nm, .bool b.static] ++ tc ++ [.int .i64 b.regs, .slice A b.code.length c] ∧ Rep w b.ty tc ∧ RepOL w A b.code ∧ b.code.length ≤ maxLen
theorem RepO.keep {w w' : World} {o : Or} {cs : List Value} (h : RepO w o cs) (hb : Below w.heap.size w w') : RepO w' o cs := by
 obtain ⟨Ad, cd, As, c', tc, h0, h1, h2, h3, h4⟩ := h
 exact ⟨Ad, cd, As, c', tc, h0, h1.keep hb, h2.keep hb, Rep.keep hb _ _ h3, h4⟩
theorem RepOL.keep {w w' : World} {A : Option Addr} {l : List Or} (h : RepOL w A l) (hb : Below w.heap.size w w') : RepOL w' A l := fun i hi => by
 obtain ⟨b, o, cs, hA, hlt, hc, hr⟩ := h i hi
 exact ⟨b, o, cs, hA, Nat.lt_of_lt_of_le hlt hb.size, fun j v hj => (hb.cell (p := ⟨b, o + i * 10 + j, none⟩) hlt).trans (hc j v hj), hr.keep hb⟩
theorem RepB.keep {w w' : World} {b : Bo} {cs : List Value} (h : RepB w b cs) (hb : Below w.heap.size w w') : RepB w' b cs := by
 obtain ⟨tc, A, c, h0, h1, h2, h3⟩ := h
 exact ⟨tc, A, c, h0, Rep.keep hb _ _ h1, h2.keep hb, h3⟩
theorem Row.i64 {w : World} {A : Option Addr} {l : List Int} (h : Row w A (l.map i64)) {k : Nat} (hk : k < l.length) : ∃ b o, A = some ⟨b, o, none⟩ ∧ b < w.heap.size ∧ w.cell? ⟨b, o + k, none⟩ = some (.int .i64 l[k]) := by
 obtain ⟨b, o, hA, hl, hc⟩ := h.at_ (by intro e; have := congrArg List.length e; simp at this; subst this; simp at hk)
 exact ⟨b, o, hA, hl, hc k _ (by rw [List.getElem?_map, List.getElem?_eq_getElem hk]; rfl)⟩
/-! which may be -/
def withinB (l : List Int) (r : Int) : Bool := l.all fun x => decide (0 ≤ x) && decide (x < r)
def zeroT (T : Ty) : Bool := (T.k == 0) && T.nm.toList.isEmpty && (T.ns.length == 0) && (T.ps.length == 0) && !T.many
def resW (T : Ty) : Nat := (sizeT (lastT T)).1
def parW (T : Ty) : Nat := bsum T.ps.dropLast
structure Rw where
 d : Int
 s : Int
 n : Bool
 least : Int
 most : Int
 name : Bool
 typ : Bool
def Rw.cells (r : Rw) : Array Value := #[.int .i64 r.d, .int .i64 r.s, .bool r.n, .int .i64 r.least, .int .i64 r.most, .bool r.name, .bool r.typ]
def rowOf (T : Ty) (len : Nat) (op : Int) : Rw × Bool :=
 if op = 1 then (⟨1, 0, true, -2147483648, 2147483647, false, false⟩, true)
 else if op = 2 then (⟨1, 1, false, 0, 0, false, false⟩, true)
 else if op = 3 then (⟨1, 2, true, 1, 12, false, false⟩, true)
 else if op = 4 then (⟨1, 0, true, 0, 1, true, false⟩, true)
 else if op = 5 then (⟨0, 1, true, 0, 1, true, false⟩, true)
 else if op = 6 then (⟨1, 0, false, 0, 0, true, false⟩, true)
 else if op = 7 then (⟨-1, -1, false, 0, 0, true, true⟩, true)
 else if op = 8 then (⟨-1, -1, false, 0, 0, false, true⟩, true)
 else if op = 9 then (⟨0, 0, true, 0, (len : Int) - 1, false, false⟩, true)
 else if op = 10 then (⟨0, 1, true, 0, (len : Int) - 1, false, false⟩, true)
 else if op = 11 then (⟨0, 1, false, 0, 0, false, false⟩, true)
 else if op = 12 then (⟨0, (resW T : Int), false, 0, 0, false, false⟩, true)
 else if op = 13 then (⟨1, 0, false, 0, 0, false, false⟩, T.many)
 else if op = 14 then (⟨1, 1, false, 0, 0, false, false⟩, T.many)
 else (⟨0, 0, false, 0, 0, false, false⟩, false)
def numB (r : Rw) (n : Int) : Bool := if r.n then decide (r.least ≤ n) && decide (n ≤ r.most) else n == 0
def namB (r : Rw) (s : ByteArray) : Bool := if r.name then nameOf s else s.toList.isEmpty
def spareB (T : Ty) (s : Nat) : Bool := (s == parW T) || (decide (parW T < s) && T.many && decide (s ≤ parW T + 12))
noncomputable def callB (op : Int) (o : Or) : Bool := (o.ty.k == 4) && may o.ty && (o.d.length == resW o.ty) && decide o.d.Nodup && (if op = 8 then decide (1 ≤ o.s.length) && spareB o.ty (o.s.length - 1) else spareB o.ty o.s.length)
noncomputable def orderB (T : Ty) (regs : Int) (len : Nat) (o : Or) : Bool :=
 (rowOf T len o.op).2 && withinB o.d regs && withinB o.s regs && numB (rowOf T len o.op).1 o.n && namB (rowOf T len o.op).1 o.nm &&
   (if (rowOf T len o.op).1.typ then callB o.op o else zeroT o.ty && ((o.d.length : Int) == (rowOf T len o.op).1.d) && ((o.s.length : Int) == (rowOf T len o.op).1.s))
noncomputable def bodyB (b : Bo) : Bool :=
 nameOf b.nm && (b.ty.k == 4) && may b.ty && decide ((parW b.ty : Int) ≤ b.regs) && decide (b.regs ≤ 8000) && decide (1 ≤ b.code.length) && decide (b.code.length ≤ 6000) &&
  b.code.all (orderB b.ty b.regs b.code.length) && (match b.code.getLast? with | some o => (o.op == 9) || (o.op == 12) | none => false)
end Go.Proofs.YthihaeobkoiljaaGreat
namespace Go.Proofs.YthihaeobkoiljaaGreat
open Go.ChangeShapes Go.WideShapes Go.ChangeAt Go.RowKit
instance : Inhabited Or := ⟨⟨0, [], [], 0, ByteArray.empty, default⟩⟩
theorem flat_i64 (l : List Int) : l.flatMap (fun n => [Value.int .i64 n]) = l.map i64 := by
 induction l with
 | nil => rfl
 | cons a l ih => rw [List.flatMap_cons, ih]; rfl
theorem read_ints {H : Type} {enc : TypeId × Value → H} {w : World} (n : Nat) (cs : List Value) (y : DataW H × List MemPlace) (h : DataW.trod enc Tryz.prog w 0 (fun _ => true) true n 51 cs = some y) :
 ∃ (A : Option Addr) (l : List Int) (c : Nat), cs = [.slice A l.length c] ∧ Row w A (l.map i64) ∧ l.length ≤ maxLen ∧ l.length ≤ c := by
 have c3 : Tryz.prog.cellsOf 3 = 1 := by kernel_rfl
 obtain ⟨A, l, c, h1, h2, h3, h4⟩ := trod_row (fun n : Int => [Value.int .i64 n]) (s := 1) (fun _ => rfl) Tryz.underlying51 c3 (by decide) (fun n' cs' y' h' => by
  obtain ⟨s, hs, -⟩ := DataW.trod_int Tryz.underlying3 h'
  exact ⟨s, hs⟩) h
 exact ⟨A, l, c, h1, by rw [← flat_i64]; exact h2, h3, h4⟩
theorem read_order {H : Type} {enc : TypeId × Value → H} {w : World} (n : Nat) (cs : List Value) (y : DataW H × List MemPlace) (h : DataW.trod enc Tryz.prog w 0 (fun _ => true) true n 63 cs = some y) : ∃ o : Or, RepO w o cs := by
 obtain ⟨xs, m, rfl, -, hl, hlen, hf⟩ := DataW.trod_struct Tryz.underlying63 h
 have hl5 : cs.length = 10 := hl
 match cs, hl5 with
 | [v0, v1, v2, v3, v4, v5, v6, v7, v8, v9], _ =>
  have c3 : Tryz.prog.cellsOf 3 = 1 := by kernel_rfl
  have c9 : Tryz.prog.cellsOf 9 = 1 := by kernel_rfl
  have cs2 : Tryz.prog.cellsOf 51 = 1 := by kernel_rfl
  have ct : Tryz.prog.cellsOf 34 = 5 := by kernel_rfl
  have hx5 : xs.length = 6 := hlen
  match xs, hx5 with
  | [x0, x1, x2, x3, x4, x5], _ =>
   have f0 := hf 0 _ rfl
   have f1 := hf 1 _ rfl
   have f2 := hf 2 _ rfl
   have f3 := hf 3 _ rfl
   have f4 := hf 4 _ rfl
   have f5 := hf 5 _ rfl
   simp [c3, c9, cs2, ct] at f0 f1 f2 f3 f4 f5
   obtain ⟨k, hk, -, -⟩ := DataW.trod_int Tryz.underlying3 f0
   obtain ⟨Ad, d, cd, hd, hrd, hdl, hdc⟩ := read_ints _ _ _ f1
   obtain ⟨As, s, cs', hs, hrs, hsl, hsc⟩ := read_ints _ _ _ f2
   obtain ⟨n', hn, -, -⟩ := DataW.trod_int Tryz.underlying3 f3
   obtain ⟨nm, hnm, -, hnl⟩ := DataW.trod_string Tryz.underlying9 f4
   obtain ⟨T, hT, hTp, hTn, -⟩ := read_type _ _ _ f5
   simp at hk hd hs hn hnm
   subst hk hd hs hn hnm
   exact ⟨⟨k, d, s, n', nm, T⟩, Ad, cd, As, cs', _, rfl, hrd, hrs, hT, hdl, hsl, hdc, hsc, hTn, hTp⟩
theorem read_orders {H : Type} {enc : TypeId × Value → H} {w : World} (n : Nat) (cs : List Value) (y : DataW H × List MemPlace) (h : DataW.trod enc Tryz.prog w 0 (fun _ => true) true n 35 cs = some y) :
 ∃ (A : Option Addr) (l : List Or) (c : Nat), cs = [.slice A l.length c] ∧ RepOL w A l ∧ l.length ≤ maxLen := by
 have ct : Tryz.prog.cellsOf 63 = 10 := by kernel_rfl
 rcases slice_read Tryz.underlying35 h with rfl | ⟨a', len', cap', n', -, rfl, hle, hcap, hx⟩
 ·exact ⟨none, [], 0, rfl, fun i hi => by simp at hi, Nat.zero_le _⟩
 ·rw [ct] at hx
  obtain ⟨X, hX⟩ := Go.Deep.choose_lt (α := Or) (n := len') (p := fun i o => ∃ cs', w.cells? 0 (a'.add (i * 10)) 10 = some cs' ∧ RepO w o cs') (fun i hi => by
   obtain ⟨cs', y', h1, h2⟩ := hx i hi
   obtain ⟨o, ho⟩ := read_order n' cs' y' h2
   exact ⟨o, cs', h1, ho⟩)
  refine ⟨some a', (List.range len').map X, cap', by simp, fun i hi => ?_, by simp; omega⟩
  have hi' : i < len' := by simpa using hi
  obtain ⟨cs', h1, h2⟩ := hX i hi'
  obtain ⟨_, hl1, hat1⟩ := World.cells?_some h1
  have hc0 := hat1 0 (by omega)
  rw [List.getElem?_eq_getElem (by omega)] at hc0
  obtain ⟨b, o, sp⟩ := a'
  have hsp : sp = none := by
   have h0 := World.cell?_spot hc0
   unfold Addr.add at h0
   simp only [if_true] at h0
   split at h0
   ·exact h0
   ·rename_i hz; obtain ⟨cs0, g1, -⟩ := hX 0 (by omega); obtain ⟨_, gl, gat⟩ := World.cells?_some g1; have g0 := gat 0 (by omega); rw [List.getElem?_eq_getElem (by omega)] at g0; simpa [Addr.add] using World.cell?_spot g0
  subst hsp
  refine ⟨b, o, cs', rfl, by have h0 := World.block_lt_of_cell? w _ hc0; rw [add_plain, add_plain] at h0; exact h0, fun j v hj => ?_, by simpa using h2⟩
  have hj5 : j < 10 := by rw [← hl1]; exact (List.getElem?_eq_some_iff.1 hj).1
  have := hat1 j hj5
  rw [add_plain, add_plain] at this
  rw [this, hj]
theorem read_body {H : Type} {enc : TypeId × Value → H} {w : World} (n : Nat) (cs : List Value) (y : DataW H × List MemPlace) (h : DataW.trod enc Tryz.prog w 0 (fun _ => true) true n 37 cs = some y) : ∃ b : Bo, RepB w b cs := by
 obtain ⟨xs, m, rfl, -, hl, hlen, hf⟩ := DataW.trod_struct Tryz.underlying37 h
 have hl5 : cs.length = 9 := hl
 match cs, hl5 with
 | [v0, v1, v2, v3, v4, v5, v6, v7, v8], _ =>
  have c3 : Tryz.prog.cellsOf 3 = 1 := by kernel_rfl
  have c4 : Tryz.prog.cellsOf 4 = 1 := by kernel_rfl
  have c9 : Tryz.prog.cellsOf 9 = 1 := by kernel_rfl
  have cs2 : Tryz.prog.cellsOf 35 = 1 := by kernel_rfl
  have ct : Tryz.prog.cellsOf 34 = 5 := by kernel_rfl
  have hx5 : xs.length = 5 := hlen
  match xs, hx5 with
  | [x0, x1, x2, x3, x4], _ =>
   have f0 := hf 0 _ rfl
   have f1 := hf 1 _ rfl
   have f2 := hf 2 _ rfl
   have f3 := hf 3 _ rfl
   have f4 := hf 4 _ rfl
   simp [c3, c4, c9, cs2, ct] at f0 f1 f2 f3 f4
   obtain ⟨nm, hnm, -, hnl⟩ := DataW.trod_string Tryz.underlying9 f0
   obtain ⟨st, hst, -⟩ := DataW.trod_bool Tryz.underlying4 f1
   obtain ⟨T, hT, -⟩ := read_type _ _ _ f2
   obtain ⟨rg, hrg, -, -⟩ := DataW.trod_int Tryz.underlying3 f3
   obtain ⟨A, l, c, hA, hOL, hll⟩ := read_orders _ _ _ f4
   simp at hnm hst hrg hA
   subst hnm hst hrg hA
   exact ⟨⟨nm, st, T, rg, l⟩, _, A, c, rfl, hT, hOL, hll⟩
structure Gl where
 nm : ByteArray
 static : Bool
 ty : Ty
 v : Int
structure Ou where
 nm : ByteArray
 ty : Ty
 fn : Bool
structure Un where
 bs : List Bo
 gs : List Gl
 os : List Ou
instance : Inhabited Bo := ⟨⟨ByteArray.empty, false, default, 0, []⟩⟩
instance : Inhabited Gl := ⟨⟨ByteArray.empty, false, default, 0⟩⟩
instance : Inhabited Ou := ⟨⟨ByteArray.empty, default, false⟩⟩
instance : Inhabited Un := ⟨⟨[], [], []⟩⟩
def RepS {α : Type} (k : Nat) (R : World → α → List Value → Prop) (w : World) (A : Option Addr) (l : List α) : Prop :=
 ∀ i (h : i < l.length), ∃ b o cs, A = some ⟨b, o, none⟩ ∧ b < w.heap.size ∧ cs.length = k ∧ (∀ j v, cs[j]? = some v → w.cell? ⟨b, o + i * k + j, none⟩ = some v) ∧ R w l[i] cs
theorem RepS.keep {α : Type} {k : Nat} {R : World → α → List Value → Prop} (hR : ∀ {w w' : World} {x : α} {cs : List Value}, R w x cs → Below w.heap.size w w' → R w' x cs) {w w' : World} {A : Option Addr} {l : List α} (h : RepS k R w A l) (hb : Below w.heap.size w w') : RepS k R w' A l := fun i hi => by
 obtain ⟨b, o, cs, hA, hlt, hl, hc, hr⟩ := h i hi
 exact ⟨b, o, cs, hA, Nat.lt_of_lt_of_le hlt hb.size, hl, fun j v hj => (hb.cell (p := ⟨b, o + i * k + j, none⟩) hlt).trans (hc j v hj), hR hr hb⟩
def RepG (w : World) (g : Gl) (cs : List Value) : Prop := ∃ tc, cs = [.string g.nm, .bool g.static] ++ tc ++ [.int .i64 g.v] ∧ Rep w g.ty tc ∧ -9223372036854775808 ≤ g.v ∧ g.v ≤ 9223372036854775807
def RepX (w : World) (o : Ou) (cs : List Value) : Prop := ∃ tc, cs = [.string o.nm] ++ tc ++ [.bool o.fn] ∧ Rep w o.ty tc
def RepU (w : World) (u : Un) (cs : List Value) : Prop := ∃ A a B b C c, cs = [.slice A u.bs.length a, .slice B u.gs.length b, .slice C u.os.length c] ∧ RepS 9 RepB w A u.bs ∧ RepS 8 RepG w B u.gs ∧ RepS 7 RepX w C u.os ∧ u.bs.length ≤ maxLen ∧ u.gs.length ≤ maxLen ∧ u.os.length ≤ maxLen
theorem RepG.keep {w w' : World} {g : Gl} {cs : List Value} (h : RepG w g cs) (hb : Below w.heap.size w w') : RepG w' g cs := by
 obtain ⟨tc, h0, h1, h2⟩ := h
 exact ⟨tc, h0, Rep.keep hb _ _ h1, h2⟩
theorem RepX.keep {w w' : World} {o : Ou} {cs : List Value} (h : RepX w o cs) (hb : Below w.heap.size w w') : RepX w' o cs := by
 obtain ⟨tc, h0, h1⟩ := h
 exact ⟨tc, h0, Rep.keep hb _ _ h1⟩
theorem RepU.keep {w w' : World} {u : Un} {cs : List Value} (h : RepU w u cs) (hb : Below w.heap.size w w') : RepU w' u cs := by
 obtain ⟨A, a, B, b, C, c, h0, h1, h2, h3, h4⟩ := h
 exact ⟨A, a, B, b, C, c, h0, RepS.keep (R := RepB) RepB.keep h1 hb, RepS.keep (R := RepG) RepG.keep h2 hb, RepS.keep (R := RepX) RepX.keep h3 hb, h4⟩
theorem RepG.eight {w : World} {g : Gl} {cs : List Value} (h : RepG w g cs) : ∃ An cn Ap cp, cs = [.string g.nm, .bool g.static, .int .i64 g.ty.k, .string g.ty.nm, .slice An g.ty.ns.length cn, .slice Ap g.ty.ps.length cp, .bool g.ty.many, .int .i64 g.v] ∧ Rep w g.ty [.int .i64 g.ty.k, .string g.ty.nm, .slice An g.ty.ns.length cn, .slice Ap g.ty.ps.length cp, .bool g.ty.many] ∧ -9223372036854775808 ≤ g.v ∧ g.v ≤ 9223372036854775807 := by
 obtain ⟨tc, rfl, h1, h2⟩ := h
 have h1' := h1
 obtain ⟨An, cn, Ap, cp, rfl, -, -⟩ := h1.five
 exact ⟨An, cn, Ap, cp, rfl, h1', h2⟩
theorem RepX.seven {w : World} {o : Ou} {cs : List Value} (h : RepX w o cs) : ∃ An cn Ap cp, cs = [.string o.nm, .int .i64 o.ty.k, .string o.ty.nm, .slice An o.ty.ns.length cn, .slice Ap o.ty.ps.length cp, .bool o.ty.many, .bool o.fn] ∧ Rep w o.ty [.int .i64 o.ty.k, .string o.ty.nm, .slice An o.ty.ns.length cn, .slice Ap o.ty.ps.length cp, .bool o.ty.many] := by
 obtain ⟨tc, rfl, h1⟩ := h
 have h1' := h1
 obtain ⟨An, cn, Ap, cp, rfl, -, -⟩ := h1.five
 exact ⟨An, cn, Ap, cp, rfl, h1'⟩
section
variable {H : Type} {enc : TypeId × Value → H} {P : Program} {w : World}
theorem read_rows {α : Type} [Inhabited α] {R : World → α → List Value → Prop} {k : Nat} (hk : 0 < k) {t e : TypeId} {fuel : Nat} {cs : List Value} {x : DataW H × List MemPlace}
 (ht : P.underlying t = some (.slice e)) (hc : P.cellsOf e = k)
 (hread : ∀ n cs' y, DataW.trod enc P w 0 (fun _ => true) true n e cs' = some y → ∃ x, R w x cs')
 (h : DataW.trod enc P w 0 (fun _ => true) true fuel t cs = some x) :
 ∃ (A : Option Addr) (l : List α) (c : Nat), cs = [.slice A l.length c] ∧ RepS k R w A l ∧ l.length ≤ maxLen := by
 rcases slice_read ht h with rfl | ⟨a', len', cap', n', -, rfl, hle, hcap, hx⟩
 ·exact ⟨none, [], 0, rfl, fun i hi => by simp at hi, Nat.zero_le _⟩
 ·rw [hc] at hx
  obtain ⟨X, hX⟩ := Go.Deep.choose_lt (α := α) (n := len') (p := fun i o => ∃ cs', w.cells? 0 (a'.add (i * k)) k = some cs' ∧ R w o cs') (fun i hi => by
   obtain ⟨cs', y', h1, h2⟩ := hx i hi
   obtain ⟨o, ho⟩ := hread n' cs' y' h2
   exact ⟨o, cs', h1, ho⟩)
  refine ⟨some a', (List.range len').map X, cap', by simp, fun i hi => ?_, by simp; omega⟩
  have hi' : i < len' := by simpa using hi
  obtain ⟨cs', h1, h2⟩ := hX i hi'
  obtain ⟨_, hl1, hat1⟩ := World.cells?_some h1
  have hc0 := hat1 0 (by omega)
  rw [List.getElem?_eq_getElem (by omega)] at hc0
  obtain ⟨b, o, sp⟩ := a'
  have hsp : sp = none := by
   have h0 := World.cell?_spot hc0
   unfold Addr.add at h0
   simp only [if_true] at h0
   split at h0
   ·exact h0
   ·rename_i hz; obtain ⟨cs0, g1, -⟩ := hX 0 (by omega); obtain ⟨_, gl, gat⟩ := World.cells?_some g1; have g0 := gat 0 (by omega); rw [List.getElem?_eq_getElem (by omega)] at g0; simpa [Addr.add] using World.cell?_spot g0
  subst hsp
  refine ⟨b, o, cs', rfl, by have h0 := World.block_lt_of_cell? w _ hc0; rw [add_plain, add_plain] at h0; exact h0, hl1, fun j v hj => ?_, by simpa using h2⟩
  have hj5 : j < k := by rw [← hl1]; exact (List.getElem?_eq_some_iff.1 hj).1
  have := hat1 j hj5
  rw [add_plain, add_plain] at this
  rw [this, hj]
end
section
variable {H : Type} {enc : TypeId × Value → H} {w : World}
end
theorem RepS.mono {α : Type} {k : Nat} {R R' : World → α → List Value → Prop} {w : World} {A : Option Addr} {l : List α} (h : RepS k R w A l) (hR : ∀ x cs, R w x cs → R' w x cs) : RepS k R' w A l := fun i hi => by
 obtain ⟨b, o, cs, hA, hlt, hl, hc, hr⟩ := h i hi
 exact ⟨b, o, cs, hA, hlt, hl, hc, hR _ _ hr⟩
theorem RepS.all {α : Type} {k : Nat} {R : World → α → List Value → Prop} {w : World} {A : Option Addr} {l : List α} {P : α → Prop} (h : RepS k R w A l) (hR : ∀ x cs, R w x cs → P x) : ∀ x ∈ l, P x := fun x hx => by
 obtain ⟨i, hi, rfl⟩ := List.getElem_of_mem hx
 obtain ⟨b, o, cs, -, -, -, -, hr⟩ := h i hi
 exact hR _ _ hr
section
variable {H : Type} {enc : TypeId × Value → H} {w : World}
theorem read_globN (n : Nat) (cs : List Value) (y : DataW H × List MemPlace) (h : DataW.trod enc Tryz.prog w 0 (fun _ => true) true n 71 cs = some y) : ∃ g : Gl, RepG w g cs ∧ g.nm.size ≤ maxLen := by
 obtain ⟨xs, m, rfl, -, hl, hlen, hf⟩ := DataW.trod_struct Tryz.underlying71 h
 have hl5 : cs.length = 8 := hl
 match cs, hl5 with
 | [v0, v1, v2, v3, v4, v5, v6, v7], _ =>
  have c3 : Tryz.prog.cellsOf 2 = 1 := by kernel_rfl
  have c4 : Tryz.prog.cellsOf 4 = 1 := by kernel_rfl
  have c9 : Tryz.prog.cellsOf 9 = 1 := by kernel_rfl
  have ct : Tryz.prog.cellsOf 34 = 5 := by kernel_rfl
  have hx5 : xs.length = 4 := hlen
  match xs, hx5 with
  | [x0, x1, x2, x3], _ =>
   have f0 := hf 0 _ rfl
   have f1 := hf 1 _ rfl
   have f2 := hf 2 _ rfl
   have f3 := hf 3 _ rfl
   simp [c3, c4, c9, ct] at f0 f1 f2 f3
   obtain ⟨nm, hnm, -, hnl⟩ := DataW.trod_string Tryz.underlying9 f0
   obtain ⟨st, hst, -⟩ := DataW.trod_bool Tryz.underlying4 f1
   obtain ⟨T, hT, -⟩ := read_type _ _ _ f2
   obtain ⟨v, hv, -, hw⟩ := DataW.trod_int Tryz.underlying2 f3
   simp at hnm hst hv
   subst hnm hst hv
   exact ⟨⟨nm, st, T, v⟩, ⟨_, rfl, hT, by simp [Lit.wf, IntKind.min, IntKind.max, IntKind.signed, IntKind.bits] at hw; exact hw⟩, hnl⟩
theorem read_outN (n : Nat) (cs : List Value) (y : DataW H × List MemPlace) (h : DataW.trod enc Tryz.prog w 0 (fun _ => true) true n 75 cs = some y) : ∃ g : Ou, RepX w g cs ∧ g.nm.size ≤ maxLen := by
 obtain ⟨xs, m, rfl, -, hl, hlen, hf⟩ := DataW.trod_struct Tryz.underlying75 h
 have hl5 : cs.length = 7 := hl
 match cs, hl5 with
 | [v0, v1, v2, v3, v4, v5, v6], _ =>
  have c4 : Tryz.prog.cellsOf 4 = 1 := by kernel_rfl
  have c9 : Tryz.prog.cellsOf 9 = 1 := by kernel_rfl
  have ct : Tryz.prog.cellsOf 34 = 5 := by kernel_rfl
  have hx5 : xs.length = 3 := hlen
  match xs, hx5 with
  | [x0, x1, x2], _ =>
   have f0 := hf 0 _ rfl
   have f1 := hf 1 _ rfl
   have f2 := hf 2 _ rfl
   simp [c4, c9, ct] at f0 f1 f2
   obtain ⟨nm, hnm, -, hnl⟩ := DataW.trod_string Tryz.underlying9 f0
   obtain ⟨T, hT, -⟩ := read_type _ _ _ f1
   obtain ⟨st, hst, -⟩ := DataW.trod_bool Tryz.underlying4 f2
   simp at hnm hst
   subst hnm hst
   exact ⟨⟨nm, T, st⟩, ⟨_, rfl, hT⟩, hnl⟩
theorem read_unitN (n : Nat) (cs : List Value) (y : DataW H × List MemPlace) (h : DataW.trod enc Tryz.prog w 0 (fun _ => true) true n 29 cs = some y) : ∃ u : Un, RepU w u cs ∧ (∀ g ∈ u.gs, g.nm.size ≤ maxLen) ∧ ∀ o ∈ u.os, o.nm.size ≤ maxLen := by
 obtain ⟨xs, m, rfl, -, hl, hlen, hf⟩ := DataW.trod_struct Tryz.underlying29 h
 have hl5 : cs.length = 3 := hl
 match cs, hl5 with
 | [v0, v1, v2], _ =>
  have c1 : Tryz.prog.cellsOf 25 = 1 := by kernel_rfl
  have c2 : Tryz.prog.cellsOf 26 = 1 := by kernel_rfl
  have c3 : Tryz.prog.cellsOf 27 = 1 := by kernel_rfl
  have hx5 : xs.length = 3 := hlen
  match xs, hx5 with
  | [x0, x1, x2], _ =>
   have f0 := hf 0 _ rfl
   have f1 := hf 1 _ rfl
   have f2 := hf 2 _ rfl
   simp [c1, c2, c3] at f0 f1 f2
   obtain ⟨A, bs, a, h0, r0, l0⟩ := read_rows (R := RepB) (k := 9) (by decide) Tryz.underlying25 (by kernel_rfl) read_body f0
   obtain ⟨B, gs, b, h1, r1, l1⟩ := read_rows (R := fun w g cs => RepG w g cs ∧ g.nm.size ≤ maxLen) (k := 8) (by decide) Tryz.underlying26 (by kernel_rfl) read_globN f1
   obtain ⟨C, os, c, h2, r2, l2⟩ := read_rows (R := fun w g cs => RepX w g cs ∧ g.nm.size ≤ maxLen) (k := 7) (by decide) Tryz.underlying27 (by kernel_rfl) read_outN f2
   simp at h0 h1 h2
   subst h0 h1 h2
   exact ⟨⟨bs, gs, os⟩, ⟨A, a, B, b, C, c, rfl, r0, r1.mono fun _ _ h => h.1, r2.mono fun _ _ h => h.1, l0, l1, l2⟩, r1.all fun _ _ h => h.2, r2.all fun _ _ h => h.2⟩
theorem read_unitsN (n : Nat) (cs : List Value) (y : DataW H × List MemPlace) (h : DataW.trod enc Tryz.prog w 0 (fun _ => true) true n 22 cs = some y) :
 ∃ (A : Option Addr) (l : List Un) (c : Nat), cs = [.slice A l.length c] ∧ RepS 3 RepU w A l ∧ l.length ≤ maxLen ∧ ∀ u (h : u < l.length), (∀ g ∈ l[u].gs, g.nm.size ≤ maxLen) ∧ ∀ o ∈ l[u].os, o.nm.size ≤ maxLen := by
 obtain ⟨A, l, c, h0, h1, h2⟩ := read_rows (R := fun w u cs => RepU w u cs ∧ (∀ g ∈ u.gs, g.nm.size ≤ maxLen) ∧ ∀ o ∈ u.os, o.nm.size ≤ maxLen) (k := 3) (by decide) Tryz.underlying22 (by kernel_rfl) read_unitN h
 exact ⟨A, l, c, h0, h1.mono fun _ _ h => h.1, h2, fun u hu => h1.all (P := fun u => (∀ g ∈ u.gs, g.nm.size ≤ maxLen) ∧ ∀ o ∈ u.os, o.nm.size ≤ maxLen) (fun _ _ h => h.2) _ (List.getElem_mem hu)⟩
end
end Go.Proofs.YthihaeobkoiljaaGreat
namespace Go.Proofs.YthihaeobkoiljaaGreat
open Go.RowKit
def WiRel (l : List Int) (r : Int) (i : Value) : Prop := ∃ k : Nat, k ≤ l.length ∧ i = .int .i64 k ∧ ∀ j (h : j < l.length), j < k → 0 ≤ l[j] ∧ l[j] < r
theorem within_no {l : List Int} {r : Int} {k : Nat} (hk : k < l.length) (h : l[k] < 0 ∨ r ≤ l[k]) : withinB l r = false := by
 rcases hn : withinB l r with _ | _
 ·rfl
 ·unfold withinB at hn
  rw [List.all_eq_true] at hn
  have := hn _ (List.getElem_mem hk)
  simp at this
  omega
theorem within_yes {l : List Int} {r : Int} (h : ∀ j (h : j < l.length), 0 ≤ l[j] ∧ l[j] < r) : withinB l r = true := by
 unfold withinB
 rw [List.all_eq_true]
 intro x hx
 obtain ⟨j, hj, rfl⟩ := List.getElem_of_mem hx
 have := h j hj
 simp
 omega
theorem within_step {l : List Int} {r : Int} {k : Nat} (hg : ∀ j (h : j < l.length), j < k → 0 ≤ l[j] ∧ l[j] < r) (hk : k < l.length) (h0 : ¬ l[k] < 0) (h1 : ¬ r ≤ l[k]) : ∀ j (h : j < l.length), j < k + 1 → 0 ≤ l[j] ∧ l[j] < r := fun j h hj => by
 rcases Nat.lt_or_ge j k with h2 | h2
 ·exact hg j h h2
 ·obtain rfl : j = k := by omega
  omega
theorem within3_any (A : Option Addr) (c : Nat) (l : List Int) (r : Int) (w : World) (hr : Row w A (l.map i64)) (hn : l.length ≤ maxLen) :
 Calls Tryz.prog 49 #[.slice A l.length c, .int .i64 r] w fun e w' => e = .returned (.bool (withinB l r)) ∧ w = w' := by
 unfold maxLen at hn
 go_enter Tryz.func49, Tryz.ntmps49
 go_wp2
 go_loop [9] (fun i => WiRel l r i) (fun i => l.length - (intOf i).toNat)
 case atStart => exact ⟨0, Nat.zero_le _, rfl, fun j _ h => absurd h (by omega)⟩
 case round =>
  obtain ⟨k, hk, rfl, hg⟩ := hrel
  by_cases hlt : k < l.length
  ·obtain ⟨b, o, rfl, hbl, c0⟩ := hr.i64 hlt
   have hi : (k : Int) < (l.length : Int) := by omega
   have HNO := Lh (@within_no l r k hlt)
   have HY := Lh (@within_step l r k hg hlt)
   clear hg
   generalize l[k] = x at *
   by_cases h0 : x < 0
   ·have hf := Lh (HNO.out (.inl h0))
    clear HNO HY
    go_wp2
    go_ret
    exact ⟨by rw [hf.out]; rfl, rfl⟩
   ·by_cases h1 : r ≤ x
    ·have hf := Lh (HNO.out (.inr h1))
     clear HNO HY
     go_wp2
     go_ret
     exact ⟨by rw [hf.out]; rfl, rfl⟩
    ·have hf := Lh (HY.out h0 h1)
     clear HNO HY
     go_wp2
     go_round
     case rel => exact ⟨k + 1, by omega, by go_num, hf.out⟩
     case measure => simp [intOf] <;> omega
  ·have hi : ¬ (k : Int) < (l.length : Int) := by omega
   have hf := Lh (within_yes (l := l) (r := r) (fun j h => hg j h (by omega)))
   clear hg
   go_wp2
   go_ret
   exact ⟨by rw [hf.out]; rfl, rfl⟩
theorem there_any (A : Option Addr) (c : Nat) (l : List Int) (r : Int) (w : World) (hr : Row w A (l.map i64)) (hn : l.length ≤ maxLen) :
 Calls Tryz.prog 55 #[.slice A l.length c, .int .i64 r] w fun e w' => e = .returned (.bool (withinB l r)) ∧ w = w' := by
 unfold maxLen at hn
 go_enter Tryz.func55, Tryz.ntmps55
 go_wp2
 go_loop [5] (fun i => WiRel l r i) (fun i => l.length - (intOf i).toNat)
 case atStart => exact ⟨0, Nat.zero_le _, rfl, fun j _ h => absurd h (by omega)⟩
 case round =>
  obtain ⟨k, hk, rfl, hg⟩ := hrel
  by_cases hlt : k < l.length
  ·obtain ⟨b, o, rfl, hbl, c0⟩ := hr.i64 hlt
   have hi : (k : Int) < (l.length : Int) := by omega
   have HNO := Lh (@within_no l r k hlt)
   have HY := Lh (@within_step l r k hg hlt)
   clear hg
   generalize l[k] = x at *
   by_cases h0 : x < 0
   ·have hf := Lh (HNO.out (.inl h0))
    clear HNO HY
    go_wp2
    go_ret
    exact ⟨by rw [hf.out]; rfl, rfl⟩
   ·by_cases h1 : r ≤ x
    ·have hf := Lh (HNO.out (.inr h1))
     clear HNO HY
     go_wp2
     go_ret
     exact ⟨by rw [hf.out]; rfl, rfl⟩
    ·have hf := Lh (HY.out h0 h1)
     clear HNO HY
     go_wp2
     go_round
     case rel => exact ⟨k + 1, by omega, by go_num, hf.out⟩
     case measure => simp [intOf] <;> omega
  ·have hi : ¬ (k : Int) < (l.length : Int) := by omega
   have hf := Lh (within_yes (l := l) (r := r) (fun j h => hg j h (by omega)))
   clear hg
   go_wp2
   go_ret
   exact ⟨by rw [hf.out]; rfl, rfl⟩
theorem wrap_zero {a b : Nat} (h1 : a ≤ maxLen) (h2 : b ≤ maxLen) : (wrap64 ((a : Int) + (b : Int)) == 0) = ((a == 0) && (b == 0)) := by
 unfold maxLen at h1 h2
 unfold wrap64
 rw [Bool.eq_iff_iff]
 simp only [beq_iff_eq, Bool.and_eq_true]
 constructor
 ·intro h; omega
 ·rintro ⟨rfl, rfl⟩; rfl
theorem zero_any (T : Ty) (cs : List Value) (w : World) (hr : Rep w T cs) (hl : LenT T) :
 Calls Tryz.prog 50 #[.agg cs.toArray] w fun e w' => e = .returned (.bool (zeroT T)) ∧ Below w.heap.size w w' := by
 obtain ⟨An, cn, Ap, cp, rfl, -, -⟩ := hr.five
 have hw := wrap_zero hl.1 hl.2
 have HB : Hid (Below w.heap.size w (w.alloc (.cells #[.int .i64 T.k, .string T.nm, .slice An T.ns.length cn, .slice Ap T.ps.length cp, .bool T.many] 34))) := by show Below _ _ _; exact bel
 have hz : Hid (zeroT T = ((T.k == 0) && T.nm.toList.isEmpty && (T.ns.length == 0) && (T.ps.length == 0) && !T.many)) := rfl
 clear hr hl
 rcases e1 : (T.k == 0) with _ | _
 ·have hf : Hid (zeroT T = false) := by show _ = _; rw [hz.out, e1]; rfl
  clear hw
  go_enter Tryz.func50, Tryz.ntmps50
  go_wp2
  go_ret
  exact ⟨by rw [hf.out]; rfl, HB.out⟩
 ·by_cases e2 : T.nm.toList = []
  ·rcases e3 : ((T.ns.length == 0) && (T.ps.length == 0)) with _ | _
   ·have hf : Hid (zeroT T = false) := by
     show _ = _
     rw [hz.out, Bool.and_assoc ((T.k == 0) && T.nm.toList.isEmpty), e3]; simp
    rw [e3] at hw
    clear e3
    go_enter Tryz.func50, Tryz.ntmps50
    go_wp2
    go_ret
    exact ⟨by rw [hf.out]; rfl, HB.out⟩
   ·have hf : Hid (zeroT T = !T.many) := by
     show _ = _
     rw [hz.out, Bool.and_assoc ((T.k == 0) && T.nm.toList.isEmpty), e3, e1, e2]; simp
    rw [e3] at hw
    clear e3
    go_enter Tryz.func50, Tryz.ntmps50
    go_wp2
    go_ret
    exact ⟨by rw [hf.out]; rfl, HB.out⟩
  ·have hf : Hid (zeroT T = false) := by
    show _ = _
    rw [hz.out]
    have : T.nm.toList.isEmpty = false := by simpa using e2
    rw [this]; simp
   clear hw
   go_enter Tryz.func50, Tryz.ntmps50
   go_wp2
   go_ret
   exact ⟨by rw [hf.out]; rfl, HB.out⟩
theorem none_any (T : Ty) (cs : List Value) (w : World) (hr : Rep w T cs) :
 Calls Tryz.prog 57 #[.agg cs.toArray] w fun e w' => e = .returned (.bool (zeroT T)) ∧ Below w.heap.size w w' := by
 obtain ⟨An, cn, Ap, cp, rfl, -, -⟩ := hr.five
 have HB : Hid (Below w.heap.size w (w.alloc (.cells #[.int .i64 T.k, .string T.nm, .slice An T.ns.length cn, .slice Ap T.ps.length cp, .bool T.many] 34))) := by show Below _ _ _; exact bel
 have hz : Hid (zeroT T = ((T.k == 0) && T.nm.toList.isEmpty && (T.ns.length == 0) && (T.ps.length == 0) && !T.many)) := rfl
 clear hr
 rcases e1 : (T.k == 0) with _ | _
 ·have hf : Hid (zeroT T = false) := by show _ = _; rw [hz.out, e1]; rfl
  go_enter Tryz.func57, Tryz.ntmps57
  go_wp2
  go_ret
  exact ⟨by rw [hf.out]; rfl, HB.out⟩
 ·by_cases e2 : T.nm.toList = []
  ·by_cases e3 : T.ns.length = 0
   ·by_cases e4 : T.ps.length = 0
    ·have hf : Hid (zeroT T = !T.many) := by
      show _ = _
      rw [hz.out, e1, e2, e3, e4]; simp
     have e3' : ((T.ns.length : Int) == 0) = true := by simp [e3]
     have e4' : ((T.ps.length : Int) == 0) = true := by simp [e4]
     clear e3 e4
     go_enter Tryz.func57, Tryz.ntmps57
     go_wp2
     go_ret
     exact ⟨by rw [hf.out]; rfl, HB.out⟩
    ·have hf : Hid (zeroT T = false) := by
      show _ = _
      rw [hz.out]; simp [e4]
     have e3' : ((T.ns.length : Int) == 0) = true := by simp [e3]
     have e4' : ((T.ps.length : Int) == 0) = false := by simpa using e4
     clear e3 e4
     go_enter Tryz.func57, Tryz.ntmps57
     go_wp2
     go_ret
     exact ⟨by rw [hf.out]; rfl, HB.out⟩
   ·have hf : Hid (zeroT T = false) := by
     show _ = _
     rw [hz.out]; simp [e3]
    have e3' : ((T.ns.length : Int) == 0) = false := by simpa using e3
    clear e3
    go_enter Tryz.func57, Tryz.ntmps57
    go_wp2
    go_ret
    exact ⟨by rw [hf.out]; rfl, HB.out⟩
  ·have hf : Hid (zeroT T = false) := by
    show _ = _
    rw [hz.out]
    have : T.nm.toList.isEmpty = false := by simpa using e2
    rw [this]; simp
   go_enter Tryz.func57, Tryz.ntmps57
   go_wp2
   go_ret
   exact ⟨by rw [hf.out]; rfl, HB.out⟩
def ParSum (T : Ty) (w : World) (cs : Array Value) (s i : Value) (wr : World) : Prop := ∃ k : Nat, k ≤ T.ps.length - 1 ∧ i = .int .i64 k ∧ s = .int .i64 (bsum (T.ps.take k) : Int) ∧ Below w.heap.size w wr ∧ Blk wr w.heap.size 34 cs
theorem may_size {T : Ty} (h : may T = true) : ∀ p ∈ T.ps, may p = true ∧ (sizeT p).1 ≤ 12 := fun p hp => by
 have h1 := may_parts (d := 3) h p hp
 exact ⟨mayT_le h1, (sized_of_may 3 p h1).2⟩
theorem bsum_le12 {ts : List Ty} (h : ∀ p ∈ ts, (sizeT p).1 ≤ 12) : ∀ k, k ≤ ts.length → bsum (ts.take k) ≤ 12 * k
 | 0, _ => by simp [bsum]
 | k + 1, hk => by
  have := bsum_le12 h k (by omega)
  have hlt : k < ts.length := by omega
  rw [bsum_take hlt]
  have := h _ (List.getElem_mem hlt)
  omega
theorem params3_any (T : Ty) (cs : List Value) (w : World) (hr : Rep w T cs) (hm : ML w) (hmy : may T = true) (h4 : T.k = 4) :
 Calls Tryz.prog 20 #[.agg cs.toArray] w fun e w' => e = .returned (.int .i64 (parW T : Int)) ∧ Below w.heap.size w w' := by
 have hr0 := hr
 obtain ⟨An, cn, Ap, cp, rfl, -, hP⟩ := hr.five
 have hcap := hr.cap
 have hpos : 1 ≤ T.ps.length := by
  have := (may_fn hmy h4).2.2.1
  rcases h : T.ps with _ | ⟨a, l⟩
  ·exact absurd h this
  ·simp
 have h7 := may_len hmy
 have HSZ := Lh (may_size hmy)
 have hW : Hid (parW T = bsum (T.ps.take (T.ps.length - 1))) := by show _ = _; unfold parW; rw [List.dropLast_eq_take]
 have k0 := Blk.new_ w 34 #[.int .i64 T.k, .string T.nm, .slice An T.ns.length cn, .slice Ap T.ps.length cp, .bool T.many]
 have b0 : Below w.heap.size w (w.alloc (.cells #[.int .i64 T.k, .string T.nm, .slice An T.ns.length cn, .slice Ap T.ps.length cp, .bool T.many] 34)) := bel
 have hp1 : (1 : Int) ≤ (T.ps.length : Int) := by omega
 have hp7 : (T.ps.length : Int) ≤ 7 := by omega
 have hcp : (T.ps.length : Int) ≤ (cp : Int) := by omega
 have HP := Lh hP
 have HM := Lh hm
 clear hr hr0 hP hmy h4 hm
 go_enter Tryz.func20, Tryz.ntmps20
 go_wp2
 go_loopw [3, 14] (fun s i wr => ParSum T w #[.int .i64 T.k, .string T.nm, .slice An T.ns.length cn, .slice Ap T.ps.length cp, .bool T.many] s i wr) (fun _ i _ => T.ps.length - (intOf i).toNat)
 case atStart => exact ⟨0, Nat.zero_le _, rfl, rfl, b0, k0⟩
 case round =>
  clear b0 k0
  obtain ⟨k, hk, rfl, rfl, hb, kt⟩ := hrel
  by_cases hlt : k < T.ps.length - 1
  ·have hlt' : k < T.ps.length := by omega
   obtain ⟨b, o, An', cn', Ap', cp', rfl, hbl, hrep, hc⟩ := (RepL.keep hb T.ps _ HP.out).five hlt'
   have hi : (k : Int) < (T.ps.length : Int) - 1 := by omega
   obtain ⟨hmp, hsz⟩ := HSZ.out _ (List.getElem_mem hlt')
   have HWD : Hid (wordsT T.ps[k] = ((sizeT T.ps[k]).1 : Int)) := by show _ = _; simp [wordsT, hmp]
   have HBS := Lh (bsum_take hlt')
   have hbl' := bsum_le12 (fun p hp => (HSZ.out p hp).2) k (by omega)
   have hx0 : (0 : Int) ≤ (bsum (T.ps.take k) : Int) := by omega
   have hx1 : (bsum (T.ps.take k) : Int) ≤ 100 := by omega
   have hy1 : ((sizeT T.ps[k]).1 : Int) ≤ 12 := by omega
   have hsz' := hb.size
   clear hmp
   generalize hps : T.ps[k] = p at *
   clear hps
   have b2 : Below w.heap.size w (wr.alloc (.cells #[.int .i64 p.k, .string p.nm, .slice An' p.ns.length cn', .slice Ap' p.ps.length cp', .bool p.many] 34)) := hb.alloc hb.size _
   have X : Below wr.heap.size wr (wr.alloc (.cells #[.int .i64 p.k, .string p.nm, .slice An' p.ns.length cn', .slice Ap' p.ps.length cp', .bool p.many] 34)) := bel
   have HC := Lh (words_any p _ _ (Rep.keep X _ _ hrep) (HM.out.keep b2))
   have kt2 := kt.below X
   clear X
   go_wp2_with fail
   ((with_reducible refine (HC.out).mono ?_); rintro e w2 ⟨rfl, hb2⟩)
   rw [HWD.out]
   have b3 := b2.trans (hb2.mono b2.size)
   have kt3 := kt2.below hb2
   clear hb2 HC
   go_wp2
   go_roundw
   case rel => exact ⟨k + 1, by omega, by go_num, by rw [HBS.out]; go_num, b3, kt3⟩
   case measure => simp [intOf] <;> omega
  ·have hi : ¬ (k : Int) < (T.ps.length : Int) - 1 := by omega
   obtain rfl : k = T.ps.length - 1 := by omega
   rw [← hW.out]
   go_wp2
   go_ret
   exact ⟨rfl, hb⟩
theorem resW_le {T : Ty} (h : may T = true) (h4 : T.k = 4) : 1 ≤ resW T ∧ resW T ≤ 12 := by
 have hp : T.ps ≠ [] := (may_fn h h4).2.2.1
 have hl : lastT T ∈ T.ps := by
  unfold lastT
  have : T.ps.length - 1 < T.ps.length := by
   rcases h' : T.ps with _ | ⟨a, l⟩
   ·exact absurd h' hp
   ·simp
  rw [List.getD_eq_getElem?_getD, List.getElem?_eq_getElem this]
  exact List.getElem_mem _
 exact ⟨size_pos 3 _ (may_parts (d := 3) h _ hl), (may_size h _ hl).2⟩
theorem last_at {T : Ty} (h : 1 ≤ T.ps.length) : lastT T = T.ps[T.ps.length - 1]'(by omega) := by
 unfold lastT
 rw [List.getD_eq_getElem?_getD, List.getElem?_eq_getElem (by omega)]
 rfl
theorem parW_le {T : Ty} (h : may T = true) : parW T ≤ 84 := by
 have h7 := may_len h
 unfold parW
 rw [List.dropLast_eq_take]
 have := bsum_le12 (fun p hp => (may_size h p hp).2) (T.ps.length - 1) (by omega)
 omega
theorem wordsR_any (T : Ty) (cs : List Value) (w : World) (hr : Rep w T cs) (hmy : may T = true) (h4 : T.k = 4) :
 Calls Tryz.prog 24 #[.agg cs.toArray] w fun e w' => e = .returned (.tuple #[.int .i64 (parW T : Int), .int .i64 (resW T : Int)]) ∧ Below w.heap.size w w' := by
 have hr0 := hr
 obtain ⟨An, cn, Ap, cp, rfl, -, hP⟩ := hr.five
 have hpos : 1 ≤ T.ps.length := by
  have := (may_fn hmy h4).2.2.1
  rcases h : T.ps with _ | ⟨a, l⟩
  ·exact absurd h this
  ·simp
 have h7 := may_len hmy
 have HSZ := Lh (may_size hmy)
 have HSR := Lh (fun p hp => sizeR_all 3 p (may_parts (d := 3) hmy p hp))
 have hW : Hid (parW T = bsum (T.ps.take (T.ps.length - 1))) := by show _ = _; unfold parW; rw [List.dropLast_eq_take]
 have k0 := Blk.new_ w 34 #[.int .i64 T.k, .string T.nm, .slice An T.ns.length cn, .slice Ap T.ps.length cp, .bool T.many]
 have b0 : Below w.heap.size w (w.alloc (.cells #[.int .i64 T.k, .string T.nm, .slice An T.ns.length cn, .slice Ap T.ps.length cp, .bool T.many] 34)) := bel
 have hp1 : (1 : Int) ≤ (T.ps.length : Int) := by omega
 have hp7 : (T.ps.length : Int) ≤ 7 := by omega
 have HP := Lh hP
 have hLT := last_at hpos
 have HRW : Hid (resW T = (sizeT (T.ps[T.ps.length - 1]'(by omega))).1) := by show _ = _; unfold resW; rw [hLT]
 have hR12 := resW_le hmy h4
 have HR12 := Lh hR12
 clear hr hr0 hP hmy h4 hLT hR12
 go_enter Tryz.func24, Tryz.ntmps24
 go_wp2
 go_loopw [4, 6] (fun s i wr => ParSum T w #[.int .i64 T.k, .string T.nm, .slice An T.ns.length cn, .slice Ap T.ps.length cp, .bool T.many] s i wr) (fun _ i _ => T.ps.length - (intOf i).toNat)
 case atStart => exact ⟨0, Nat.zero_le _, rfl, rfl, b0, k0⟩
 case round =>
  clear b0 k0
  obtain ⟨k, hk, rfl, rfl, hb, kt⟩ := hrel
  have q3 := kt.cell 3 (.slice Ap T.ps.length cp) rfl
  have hlt' : k < T.ps.length := by omega
  obtain ⟨b, o, An', cn', Ap', cp', rfl, hbl, hrep, hc⟩ := (RepL.keep hb T.ps _ HP.out).five hlt'
  have hk0 : (0 : Int) ≤ (k : Int) := by omega
  by_cases hlt : k < T.ps.length - 1
  ·have hi : (k : Int) < (T.ps.length : Int) - 1 := by omega
   have hsz := (HSZ.out _ (List.getElem_mem hlt')).2
   have hSR := HSR.out _ (List.getElem_mem hlt')
   have HBS := Lh (bsum_take hlt')
   have hbl' := bsum_le12 (fun p hp => (HSZ.out p hp).2) k (by omega)
   have hx0 : (0 : Int) ≤ (bsum (T.ps.take k) : Int) := by omega
   have hx1 : (bsum (T.ps.take k) : Int) ≤ 100 := by omega
   have hy1 : ((sizeT T.ps[k]).1 : Int) ≤ 12 := by omega
   have hsz' := hb.size
   generalize hps : T.ps[k] = p at *
   clear hps
   have HC := Lh (hSR _ _ hrep)
   clear hSR
   go_wp2_with fail
   ((with_reducible refine (HC.out).mono ?_); rintro e w2 ⟨rfl, hb2⟩)
   have b3 := hb.trans (hb2.mono hb.size)
   have kt3 := kt.below hb2
   clear hb2 HC
   go_wp2
   go_roundw
   case rel => exact ⟨k + 1, by omega, by go_num, by rw [HBS.out]; go_num, b3, kt3⟩
   case measure => simp [intOf] <;> omega
  ·have hi : ¬ (k : Int) < (T.ps.length : Int) - 1 := by omega
   obtain rfl : k = T.ps.length - 1 := by omega
   rw [← hW.out]
   have hSR := HSR.out _ (List.getElem_mem hlt')
   have hcast : ((T.ps.length - 1 : Nat) : Int) = (T.ps.length : Int) - 1 := by omega
   rw [hcast] at hk0 hi ⊢
   have hnat : ((T.ps.length : Int) - 1).toNat = T.ps.length - 1 := by omega
   generalize hps : T.ps[T.ps.length - 1] = p at *
   have HC := Lh (hSR _ _ hrep)
   clear hSR hps hcast
   go_wp2_with fail
   ((with_reducible refine (HC.out).mono ?_); rintro e w2 ⟨rfl, hb2⟩)
   have b3 := hb.trans (hb2.mono hb.size)
   go_wp2
   go_ret2
   exact ⟨by rw [HRW.out]; rfl, b3⟩
theorem isFn_any (T : Ty) (cs : List Value) (w : World) (hr : Rep w T cs) :
 Calls Tryz.prog 23 #[.agg cs.toArray] w fun e w' => e = .returned (.bool ((T.k == 4) && may T)) ∧ Below w.heap.size w w' := by
 have hr0 := hr
 obtain ⟨An, cn, Ap, cp, rfl, -, -⟩ := hr.five
 have b0 : Below w.heap.size w (w.alloc (.cells #[.int .i64 T.k, .string T.nm, .slice An T.ns.length cn, .slice Ap T.ps.length cp, .bool T.many] 34)) := bel
 have HC := Lh (mayRef_any T _ _ (Rep.keep b0 _ _ hr0))
 have HB := Lh b0
 clear hr hr0 b0
 rcases e1 : (T.k == 4) with _ | _
 ·go_enter Tryz.func23, Tryz.ntmps23
  go_wp2
  go_ret
  exact ⟨rfl, HB.out⟩
 ·go_enter Tryz.func23, Tryz.ntmps23
  go_wp2_with fail
  ((with_reducible refine (HC.out).mono ?_); rintro e w2 ⟨rfl, hb2⟩)
  go_wp2
  go_ret
  exact ⟨rfl, HB.out.trans (hb2.mono HB.out.size)⟩
def TwO (l : List Int) (w : World) (i : Value) (wr : World) : Prop := ∃ k : Nat, k ≤ l.length ∧ i = .int .i64 k ∧ (l.take k).Nodup ∧ ∃ n, wr = w.drewN n
def TwI (l : List Int) (k : Nat) (x : Int) (w : World) (i : Value) (wr : World) : Prop := ∃ m : Nat, m ≤ k ∧ i = .int .i64 m ∧ (∀ j (h : j < l.length), j < m → l[j] ≠ x) ∧ ∃ n, wr = w.drewN n
theorem nodup_no {l : List Int} {m k : Nat} (hmk : m < k) (hk : k < l.length) (h : l[m] = l[k]) : decide l.Nodup = false := by
 rw [decide_eq_false_iff_not]
 intro hn
 exact (List.pairwise_iff_getElem.1 hn) m k (by omega) hk hmk h
theorem nodup_more {l : List Int} {k : Nat} (hk : k < l.length) (h : (l.take k).Nodup) (hne : ∀ j (h : j < l.length), j < k → l[j] ≠ l[k]) : (l.take (k + 1)).Nodup := by
 rw [List.take_succ_eq_append_getElem hk]
 refine List.nodup_append.2 ⟨h, by simp, fun a ha b hb => ?_⟩
 rw [List.mem_singleton] at hb
 subst hb
 obtain ⟨j, hj, rfl⟩ := List.getElem_of_mem ha
 rw [List.length_take] at hj
 rw [List.getElem_take]
 exact hne j (by omega) (by omega)
def DrOut (b : Bool) (w : World) (e : Ending) (w' : World) : Prop := e = .returned (.bool b) ∧ ∃ n, w' = w.drewN n
theorem twice_any (A : Option Addr) (c : Nat) (l : List Int) (w : World) (hr : Row w A (l.map i64)) (hn : l.length ≤ 100) :
 Calls Tryz.prog 56 #[.slice A l.length c] w (DrOut (!decide l.Nodup) w) := by
 go_enter Tryz.func56, Tryz.ntmps56
 go_wp2
 go_loopw [3] (fun i wr => TwO l w i wr) (fun i _ => l.length - (intOf i).toNat)
 case atStart => exact ⟨0, Nat.zero_le _, rfl, by simp, 0, rfl⟩
 case round =>
  obtain ⟨k, hk, rfl, hnd, nd, rfl⟩ := hrel
  by_cases hlt : k < l.length
  ·obtain ⟨b, o, rfl, hbl, c0⟩ := hr.i64 hlt
   have hi : (k : Int) < (l.length : Int) := by omega
   have hi0 : (0 : Int) ≤ (k : Int) := by omega
   have hi1 : (k : Int) < 100 := by omega
   have HND := Lh hnd
   have HNO : Hid (∀ m, m < k → ∀ (h : m < l.length), l[m] = l[k] → decide l.Nodup = false) := fun m hm _ h => nodup_no hm hlt h
   have HMO : Hid ((∀ j (h : j < l.length), j < k → l[j] ≠ l[k]) → (l.take (k + 1)).Nodup) := nodup_more hlt hnd
   clear hnd
   generalize l[k] = x at *
   go_wp2
   go_loopw [4] (fun i wr => TwI l k x w i wr) (fun i _ => k - (intOf i).toNat)
   case atStart => exact ⟨0, Nat.zero_le _, rfl, fun j _ h => absurd h (by omega), nd, rfl⟩
   case round =>
    obtain ⟨m, hm, rfl, hg, nd2, rfl⟩ := hrel
    by_cases hmk : m < k
    ·obtain ⟨b', o', he, -, c1⟩ := hr.i64 (k := m) (by omega)
     injection he with he
     injection he with e1 e2
     subst e1 e2
     have hj : (m : Int) < (k : Int) := by omega
     have hj0 : (0 : Int) ≤ (m : Int) := by omega
     have hj1 : (m : Int) < (l.length : Int) := by omega
     have HY : Hid (∀ y, l[m]'(by omega) = y → y ≠ x → ∀ j (h : j < l.length), j < m + 1 → l[j] ≠ x) := fun y hy hne j h hj => by
      rcases Nat.lt_or_ge j m with h2 | h2
      ·exact hg j h h2
      ·obtain rfl : j = m := by omega
       rw [hy]; exact hne
     have HN := Lh (HNO.out m hmk (by omega))
     clear hg HNO
     generalize hy : l[m]'(by omega) = y at *
     have HYY := Lh (HY.out y rfl)
     clear HY hy
     by_cases hxy : y = x
     ·have hd := Lh (HN.out hxy)
      have e3 : (y == x) = true := by simpa using hxy
      clear hxy HN HYY
      go_wp2
      go_quiet (fail)
      go_wp2
      go_ret
      exact ⟨by rw [hd.out]; rfl, nd2 + nq, by simp⟩
     ·have hd := Lh (HYY.out hxy)
      have e3 : (y == x) = false := by simpa using hxy
      clear hxy HN HYY
      go_wp2
      go_quiet (fail)
      go_wp2
      go_roundw
      case rel => exact ⟨m + 1, by omega, by go_num, hd.out, _, rfl⟩
      case measure => simp [intOf] <;> omega
    ·have hj : ¬ (m : Int) < (k : Int) := by omega
     obtain rfl : m = k := by omega
     have hd := Lh (HMO.out hg)
     clear hg
     go_wp2
     go_roundw
     case rel => exact ⟨m + 1, by omega, by go_num, hd.out, _, rfl⟩
     case measure => simp [intOf] <;> omega
  ·have hi : ¬ (k : Int) < (l.length : Int) := by omega
   rw [List.take_of_length_le (by omega)] at hnd
   have hd : Hid (decide l.Nodup = true) := by show _ = _; simpa using hnd
   clear hnd
   go_wp2
   go_ret
   exact ⟨by rw [hd.out]; rfl, _, rfl⟩
end Go.Proofs.YthihaeobkoiljaaGreat
namespace Go.Proofs.YthihaeobkoiljaaGreat
open Go.RowKit Go.Shelf
theorem info_byte : (Tryz.prog.info? 5).map (fun i => (i.zero, i.size, i.bytes)) = some (some (.int .u8 0), 1, 1) := by kernel_rfl
theorem size_bld : (Tryz.prog.info? 132).map (·.size) = some 2 := by kernel_rfl
theorem lies_bld : liesAt Tryz.prog Tryz.prog.depth 132 (2 / Tryz.prog.cellsOf 132) 0 132 1 = true := by kernel_rfl
def Bld (B b : Nat) (bs : List Value) (w : World) : Prop := Lib.IsBuilderF 132 5 B b bs w
def BKept (b : Nat) (w w' : World) : Prop := Lib.OthersKept 5 (some b) w w'
theorem bld_fresh (b : Nat) (w : World) (c0 : w.cell? ⟨b, 0, none⟩ = some (.pointer none)) (hsh : w.shape? b = some (132, 2)) (hfz : w.frozen? ⟨b, 0, none⟩ = false) :
 Calls Tryz.prog 97 #[.pointer (some ⟨b, 0, none⟩)] w fun e w' => e = .returned (.tuple #[]) ∧ w' = w.setCell ⟨b, 0, none⟩ (.pointer (some ⟨b, 0, none⟩)) := by
 obtain ⟨j, hj, hjs⟩ := Option.map_eq_some_iff.1 size_bld
 go_enter Tryz.func97, Tryz.ntmps97
 go_wp2
 rw [Lib.run_to_unsafe w ⟨b, 0, none⟩ Tryz.underlying129 Tryz.underlying166 hj (by rw [hjs]; decide) hsh (Nat.zero_lt_succ 1)]
 simp only [Result.andThen]
 rw [Oper.upon_value]
 go_wp2
 rw [run_callFunc_extern Tryz.func103 (by kernel_rfl) (by kernel_rfl) (by kernel_rfl) (e := Extern.AbiNoEscape.same) (by kernel_rfl)]
 rw [Lib.run_noEscape]
 simp only [Result.andThen]
 rw [Oper.upon_value]
 go_wp2
 rw [Lib.run_from_unsafe w ⟨b, 0, none⟩ Tryz.underlying166 Tryz.underlying129 hj hsh lies_bld]
 simp only [Result.andThen]
 rw [Oper.upon_value]
 go_wp2
 go_end0
 exact ⟨rfl, rfl⟩
theorem bld_used (b : Nat) (w : World) (c0 : w.cell? ⟨b, 0, none⟩ = some (.pointer (some ⟨b, 0, none⟩))) :
 Calls Tryz.prog 97 #[.pointer (some ⟨b, 0, none⟩)] w fun e w' => e = .returned (.tuple #[]) ∧ w' = w := by
 obtain ⟨j, hj, hjs⟩ := Option.map_eq_some_iff.1 size_bld
 go_enter Tryz.func97, Tryz.ntmps97
 go_wp2
 rw [Lib.run_neq_ptr_same w _ Tryz.underlying129 hj]
 go_wp2
 go_end0
 exact ⟨rfl, rfl⟩
theorem bld_check (B b : Nat) (bs : List Value) (w : World) (h : Bld B b bs w) :
 Calls Tryz.prog 97 #[.pointer (some ⟨b, 0, none⟩)] w fun e w' => e = .returned (.tuple #[]) ∧ (Lib.BuilderAtF 132 5 B b (.pointer (some ⟨b, 0, none⟩)) bs w' ∧ Below B w w' ∧ BKept b w w') := by
 rcases h with h | h
 ·refine (bld_fresh b w h.cell0 h.shape h.frozen0).mono ?_
  rintro e w' ⟨rfl, rfl⟩
  exact ⟨rfl, h.used _, (Below.refl B w).setCell (p := ⟨b, 0, none⟩) h.1 _, (Lib.OthersKept.refl _ _ w).setCell ⟨b, 0, none⟩ rfl _⟩
 ·refine (bld_used b w h.cell0).mono ?_
  rintro e w' ⟨rfl, rfl⟩
  exact ⟨rfl, h, Below.refl B _, Lib.OthersKept.refl _ _ _⟩
theorem bld_write (B b : Nat) (bs : List Value) (s : ByteArray) (w : World) (h : Bld B b bs w) (hlen : bs.length + s.size ≤ 140737488355328) (hBw : B ≤ w.heap.size) :
 Calls Tryz.prog 89 #[.pointer (some ⟨b, 0, none⟩), .string s] w fun e w' => e = .returned (.tuple #[.int .i64 s.size, .nilIface]) ∧ (Bld B b (bs ++ Lib.strCells s) w' ∧ Below B w w' ∧ BKept b w w') := by
 obtain ⟨i0, hi, hz0, hz1, hz2⟩ := info_parts info_byte
 go_enter Tryz.func89, Tryz.ntmps89
 go_wp2_with (go_at_call 97; refine (bld_check B b bs _ h).mono ?_)
 rintro e w1 ⟨rfl, h1, hb1, hk1⟩
 obtain ⟨hB, v, hbk, hown, hne⟩ := h1
 have c0 : w1.cell? ⟨b, 0, none⟩ = some (.pointer (some ⟨b, 0, none⟩)) := by rw [Lib.cell_of_heap hbk]; rfl
 have c1 : w1.cell? ⟨b, 1, none⟩ = some v := by rw [Lib.cell_of_heap hbk]; rfl
 go_wp2_with (at_builtin; refine Lib.wpList_append_own_stringF _ rfl _ _ 130 9 rfl B 5 i0 Tryz.underlying130 Tryz.underlying9 hi hz0 hz1 hz2 _ _ _ rfl hown s rfl ?c3 ?c4 ?c5 ?_)
 case c3 => unfold maxLen; omega
 case c4 => omega
 case c5 => have := hb1.size; omega
 intro v' w2 hown' hgrow _
 have hlt : b < w1.heap.size := by
  rcases Nat.lt_or_ge b w1.heap.size with h' | h'
  ·exact h'
  ·simp [Array.getElem?_eq_none h'] at hbk
 have hb2 : w2.heap[b]? = some (.cells #[.pointer (some ⟨b, 0, none⟩), v] 132 (0, 0)) := by
  rw [hgrow.block b hlt (fun e => hne e.symm)]
  exact hbk
 have d0 : w2.cell? ⟨b, 0, none⟩ = some (.pointer (some ⟨b, 0, none⟩)) := by rw [Lib.cell_of_heap hb2]; rfl
 have d1 : w2.cell? ⟨b, 1, none⟩ = some v := by rw [Lib.cell_of_heap hb2]; rfl
 have f1 : w2.frozen? ⟨b, 1, none⟩ = false := Lib.frozen_of_heap hb2 1
 obtain ⟨ao, n', cap, rfl⟩ : ∃ ao n' cap, v' = .slice ao n' cap := by
  rcases hown'.2 with ⟨hv, _⟩ | ⟨g, cap, cur, fz, hv, _⟩
  ·exact ⟨_, _, _, hv⟩
  ·exact ⟨_, _, _, hv⟩
 go_wp2
 go_ret2
 refine ⟨rfl, ?_, ?_, (hk1.grown hgrow (Lib.ownsRowF_kind hown)).setCell ⟨b, 1, none⟩ rfl _⟩
 ·exact .inr (Lib.BuilderAtF.put (T := 132) (e := 5) hB hb2 (bs' := bs ++ Lib.strCells s) (by simpa [Lib.strCells_length] using hown') (by decide))
 ·exact (hb1.grown hgrow (by have := hb1.size; omega) (fun k hk => (hown.lt k hk).1)).setCell (p := ⟨b, 1, none⟩) hB _
theorem bld_string (B b : Nat) (l : List UInt8) (w : World) (h : Bld B b (Lib.byteCells l) w) (hBw : B ≤ w.heap.size) :
 Calls Tryz.prog 69 #[.pointer (some ⟨b, 0, none⟩)] w fun e w' => e = .returned (.string ⟨l.toArray⟩) ∧ (Bld B b (Lib.byteCells l) w' ∧ Below B w w' ∧ BKept b w w') :=
 sh_Builder_String_any_k B b l w h hBw
end Go.Proofs.YthihaeobkoiljaaGreat
