/- The program's types are laid out; Small words for memory: a row of cells that reads as a list; what stays where only new blocks were made. No program is in sight; What every law's last step shares: the row's word from 'it returns true and leaves what was there as it was'; a row of things opened; Contracts of Go's library at this program, laid off the shelf: strings.Contains; Bytes of a text: which one stands at a place; which are letters, which may stand in a word; Names: what is a name; the walk of types.IsName; Nodes as trees; a node that lies in memory; An argument that is a node, opened: it lies in memory as a tree. -/
import Derived.Test.YtgegfbopogcjpaaGreatDoorRows
import Derived.WalkKit
import Derived.WalkSmall
import Derived.Lib.Hide
import Derived.Deep.AppendLies
import Derived.Maps.AppendAt
import Derived.Deep.Draws
import Derived.Deep.Slices
import Derived.Carry
import Derived.ChangeSame
import Derived.ProofKit
import Derived.OpenShut
import Derived.Shelf.Strings.Builder1
import Derived.Shelf.Strings.Builder2
import Derived.Shelf.Strings.OnBuilder
import Derived.Shelf.Strings.Trim
import Derived.Shelf.Small.Utf8
import Derived.Shelf.Small.Strs
import Derived.Shelf.Strings.BuilderF
import Derived.Shelf.Strings.BuilderK
import Derived.Shelf.Strings.Builder2Cap
import Derived.Shelf.Strconv.Itoa1
import Derived.Shelf.LaysM
import Derived.Shelf.Strconv.Itoa2
import Derived.Shelf.Strconv.Itoa3
import Derived.Shelf.Strconv.Itoa4
import Derived.Shelf.Strconv.ParseIntEmpty
import Derived.Shelf.Strconv.Clone
import Derived.Shelf.Strconv.SyntaxError
import Derived.Shelf.LaysC
import Derived.Shelf.Strconv.ToError
import Derived.Shelf.Strconv.Lower
import Derived.Shelf.Strconv.ParseUint10
import Derived.Shelf.Strconv.ParseUint10Empty
import Derived.Shelf.Strconv.ParseUint10Any
import Derived.Shelf.Strconv.ParseInt10
import Derived.Shelf.Strconv.RangeError
import Derived.Shelf.Strconv.ToErrorRange
import Derived.Shelf.Strconv.ParseUintEmpty
import Derived.Shelf.Strconv.ParseUint10b64
import Derived.Shelf.Strconv.ParseUint10b32
import Derived.Shelf.Strconv.ParseUint10b16
import Derived.Shelf.Strconv.ParseUint10b8
import Derived.Shelf.Strconv.ParseUint10At
import Derived.Shelf.Strconv.ParseInt10At64
import Derived.Shelf.Strconv.ParseInt10At32
import Derived.Shelf.Strconv.ParseInt10At16
import Derived.Shelf.Strconv.ParseInt10At8
import Derived.Shelf.Strconv.ParseInt10All
import Derived.Shelf.Strconv.ParseIntPublic10
import Derived.Shelf.Strconv.ErrVarParseInt
import Derived.Shelf.Strings.Search1
import Derived.Shelf.Strings.Search2
import Derived.Shelf.Strings.Search3
import Derived.Shelf.Strings.Shaped
import Derived.Shelf.Strings.Prefix
import Derived.Shelf.Strings.Runes
import Derived.Shelf.Strings.AsciiSet
import Derived.Shelf.Unicode.DecodeSlow
import Derived.Shelf.Strings.BuilderCap
import Derived.Test.YtgegfbopogcjpaaGreatDoorProg
import Derived.Deep.RegionHeld
import Derived.Below
import Derived.Deep.LoopGhost
import Derived.Deep.DeepMust
namespace Go.Proofs.YtgegfbopogcjpaaGreatDoor
open Go.RowKit
theorem laid : laidOutB Tryz.prog = true := by kernel_rfl
end Go.Proofs.YtgegfbopogcjpaaGreatDoor
namespace Go.Proofs.YtgegfbopogcjpaaGreatDoor
open Go.RowKit
set_option linter.unusedVariables false
def Row (w : World) (A : Option Addr) (cs : List Value) : Prop :=
 cs = [] ∨ ∃ b o, A = some ⟨b, o, none⟩ ∧ b < w.heap.size ∧ ∀ j v, cs[j]? = some v → w.cell? ⟨b, o + j, none⟩ = some v
theorem Row.nil_ (w : World) (A : Option Addr) : Row w A [] := .inl rfl
theorem Row.keep {w w' : World} {A : Option Addr} {cs : List Value} (h : Row w A cs) (hb : Below w.heap.size w w') : Row w' A cs := by
 rcases h with h | ⟨b, o, hA, hlt, hc⟩
 ·exact .inl h
 ·exact .inr ⟨b, o, hA, Nat.lt_of_lt_of_le hlt hb.size, fun j v hj => (hb.cell (p := ⟨b, o + j, none⟩) hlt).trans (hc j v hj)⟩
theorem Row.at_ {w : World} {A : Option Addr} {cs : List Value} (h : Row w A cs) (hn : cs ≠ []) : ∃ b o, A = some ⟨b, o, none⟩ ∧ b < w.heap.size ∧ ∀ j v, cs[j]? = some v → w.cell? ⟨b, o + j, none⟩ = some v := by
 rcases h with h | h
 ·exact absurd h hn
 ·exact h
theorem flat_at {α : Type} (f : α → List Value) (s : Nat) (hs : ∀ x, (f x).length = s) (xs : List α) (k j : Nat) (hj : j < s) : (xs.flatMap f)[k * s + j]? = (xs[k]?).bind fun x => (f x)[j]? := by
 induction xs generalizing k with
 | nil => simp
 | cons x xs ih =>
  rw [List.flatMap_cons]
  cases k with
  | zero => rw [List.getElem?_append_left (by rw [hs]; omega)]; simp
  | succ k =>
   rw [List.getElem?_append_right (by rw [hs, Nat.succ_mul]; omega), hs, Nat.succ_mul, show k * s + s + j - s = k * s + j from by omega, ih]
   simp
theorem keep_cell {w w' : World} (hb : Below w.heap.size w w') {b o : Nat} (h : b < w.heap.size) : w'.cell? ⟨b, o, none⟩ = w.cell? ⟨b, o, none⟩ := hb.cell (p := ⟨b, o, none⟩) h
theorem Below.drewN_ {B : Nat} {a w : World} (h : Below B a w) (n : Nat) : Below B a (w.drewN n) := ⟨h.os, h.tape, h.output, h.size, h.block⟩
theorem heap_new {W : World} {o : Obj} {n : Nat} (h : n = W.heap.size) : (W.alloc o).heap[n]? = some o := by subst h; exact heap_alloc_new W o
theorem own_ge {w : World} {base : Nat} {e : TypeId} {size n : Nat} {v : Value} {xs : List Value} (h : w.ownsRow base e size v n xs) : ∀ k, v.ownBlock = some k → base ≤ k := fun k hk => (h.lt k hk).1
theorem own_below {w w1 : World} {B : Nat} {e : TypeId} {size n : Nat} {v : Value} {xs : List Value} (hown : w.ownsRow B e size v n xs) (hb : Below w.heap.size w w1) : w1.ownsRow B e size v n xs :=
 hown.kept (row := none) ⟨hb.os, hb.tape, hb.output, hb.size, fun k hk _ => hb.block k hk⟩ (by cases h : v.ownBlock <;> simp)
theorem add_plain_ (g o j : Nat) : (⟨g, o, none⟩ : Addr).add j = ⟨g, o + j, none⟩ := by
 unfold Addr.add
 by_cases h : j = 0 <;> simp [h]
theorem Row.of_own {w : World} {B : Nat} {e : TypeId} {size n : Nat} {v : Value} {xs : List Value} (h : w.ownsRow B e size v n xs) : ∃ A c, v = .slice A n c ∧ Row w A xs := by
 by_cases hn : 0 < n
 ·obtain ⟨g, cap, hv, _, hlt⟩ := h.form hn
  subst hv
  refine ⟨_, _, rfl, .inr ⟨g, 0, rfl, hlt, fun j u hu => ?_⟩⟩
  have := h.cells (g := g) rfl j u hu
  rw [add_plain_] at this
  exact this
 ·obtain rfl : n = 0 := by omega
  have hx : xs = [] := List.eq_nil_of_length_eq_zero (by simpa using h.1)
  rcases h.2 with ⟨rfl, _⟩ | ⟨g, cap, cur, rfl, _⟩
  ·exact ⟨_, _, rfl, .inl hx⟩
  ·exact ⟨_, _, rfl, .inl hx⟩
theorem below_trans {B : Nat} {a b c : World} (h : Below B a b) (hB : B ≤ a.heap.size) (k : Below b.heap.size b c) : Below B a c := h.trans (k.mono (Nat.le_trans hB h.size))
def Blk (w : World) (b : Nat) (t : TypeId) (cs : Array Value) : Prop := w.heap[b]? = some (.cells cs t (0, 0))
theorem Blk.lt {w : World} {b : Nat} {t : TypeId} {cs : Array Value} (h : Blk w b t cs) : b < w.heap.size := by
 rcases Nat.lt_or_ge b w.heap.size with hlt | hge
 ·exact hlt
 ·unfold Blk at h; rw [Array.getElem?_eq_none hge] at h; cases h
theorem Blk.cell {w : World} {b : Nat} {t : TypeId} {cs : Array Value} (h : Blk w b t cs) (i : Nat) (v : Value) (hv : cs[i]? = some v) : w.cell? ⟨b, i, none⟩ = some v := by
 unfold Blk at h
 simp [World.cell?, h, hv]
theorem Blk.free {w : World} {b : Nat} {t : TypeId} {cs : Array Value} (h : Blk w b t cs) (i : Nat) : w.frozen? ⟨b, i, none⟩ = false := by
 unfold Blk at h
 simp [World.frozen?, h]
theorem Blk.new_ (w : World) (t : TypeId) (cs : Array Value) : Blk (w.alloc (.cells cs t)) w.heap.size t cs := heap_alloc_new w _
theorem Blk.alloc {w : World} {b : Nat} {t : TypeId} {cs : Array Value} (h : Blk w b t cs) (o : Obj) : Blk (w.alloc o) b t cs := (Below.heap_alloc w o b h.lt).trans h
theorem Blk.drewN {w : World} {b : Nat} {t : TypeId} {cs : Array Value} (h : Blk w b t cs) (n : Nat) : Blk (w.drewN n) b t cs := h
theorem Blk.set_ {w : World} {b : Nat} {t : TypeId} {cs : Array Value} (h : Blk w b t cs) (i : Nat) (u : Value) : Blk (w.setCell ⟨b, i, none⟩ u) b t (cs.setIfInBounds i u) := by
 unfold Blk at *
 simp [World.setCell, Array.getElem?_modify, h]
theorem Blk.far {w : World} {b : Nat} {t : TypeId} {cs : Array Value} (h : Blk w b t cs) {p : Addr} (hp : b ≠ p.block) (u : Value) : Blk (w.setCell p u) b t cs := (Below.heap_setCell w p u b hp).trans h
theorem Blk.below {w w' : World} {b : Nat} {t : TypeId} {cs : Array Value} (h : Blk w b t cs) (hb : Below w.heap.size w w') : Blk w' b t cs := (hb.block b h.lt).trans h
theorem Blk.grown {w w' : World} {b : Nat} {t : TypeId} {cs : Array Value} {row : Option Nat} (h : Blk w b t cs) (hg : w.grownBy w' row) (hne : some b ≠ row) : Blk w' b t cs := (hg.block b h.lt hne).trans h
theorem own_blk {w : World} {base b : Nat} {e t : TypeId} {size n : Nat} {v : Value} {xs : List Value} {cs : Array Value} (h : w.ownsRow base e size v n xs) (hb : Blk w b t cs) (hne : e ≠ t) : some b ≠ v.ownBlock := by
 intro he
 rcases h.2 with ⟨rfl, _⟩ | ⟨g, cap, cur, rfl, _, hg, _⟩
 ·simp [Value.ownBlock] at he
 ·simp [Value.ownBlock] at he
  subst he
  unfold Blk at hb
  rw [hg] at hb
  injection hb with hb
  injection hb with _ ht
  exact hne ht
theorem own_set {w : World} {base : Nat} {e : TypeId} {size n : Nat} {v : Value} {xs : List Value} (h : w.ownsRow base e size v n xs) {p : Addr} (hne : some p.block ≠ v.ownBlock) (u : Value) : (w.setCell p u).ownsRow base e size v n xs :=
 h.kept (row := some p.block) ⟨rfl, rfl, rfl, by simp [World.setCell], fun k hk hne => Below.heap_setCell w p u k (fun e => hne (by rw [e]))⟩ (by
  cases hv : v.ownBlock
  ·exact .inl rfl
  ·exact .inr (fun e => hne (by rw [hv, e])))
end Go.Proofs.YtgegfbopogcjpaaGreatDoor
namespace Go.Proofs.YtgegfbopogcjpaaGreatDoor
open Go.ChangeShapes Go.WideShapes Go.ChangeAt Go.RowKit
set_option linter.unusedVariables false
set_option linter.unusedSimpArgs false
set_option maxRecDepth 100000
section
variable {H : Type} {enc : TypeId × Value → H} {P : Program}
theorem all_stay (hl : laidOutB P = true) {W W' : World} (hb : Below W.heap.size W W') : ∀ (ts : List TypeId) (vs : List Value) (ds : List (DataW H)) (ps : List MemPlace), (∀ t ∈ ts, P.readableRec t = true ∧ t < P.types.size) →
 (∀ p ∈ ps, p.block < W.heap.size) → DataW.TrodAll enc P W 0 (fun _ => true) true ts vs ds ps → ∀ sp : Nat → Bool, (∀ p ∈ ps, sp p.block = true) → DataW.TrodAll enc P W' 0 sp true ts vs ds ps
 | [], [], [], ps, _, _, h, _, _ => h
 | t :: ts, v :: vs, d :: ds, ps, hr, hlt, ⟨p, q, h1, h2, e⟩, sp, hsp => by
  subst e
  refine ⟨p, q, ?_, ?_, rfl⟩
  ·exact WideElems.Trod_stays hl (hr t (by simp)).1 (hr t (by simp)).2 h1 (fun x hx => hb.same (hlt x (by simp [hx]))) (fun x hx => hsp x (by simp [hx]))
  ·exact all_stay hl hb ts vs ds q (fun t' ht => hr t' (by simp [ht])) (fun x hx => hlt x (by simp [hx])) h2 sp (fun x hx => hsp x (by simp [hx]))
theorem law_post {f : Func} {s : ChangeSpec} {tb : TypeId} {apart fresh handsOn : Bool} {W W' : World} {args : Array Value} {ds gs : List (DataW H)} {before : List MemPlace}
 (hl : laidOutB P = true) (hread : ∀ t ∈ f.params.toList, P.readableRec t = true ∧ t < P.types.size) (hrt : f.resultTypes = #[tb]) (hbool : P.underlying tb = some .bool) (hv : s.vars = [])
 (hW : DataW.Whole enc P f.params.toList s.vars apart W args.toList ds gs before)
 (hfn : (s.fn H (ds ++ gs)).results = [.lit (.bool true)] ∧ (s.fn H (ds ++ gs)).args = ds ∧ (s.fn H (ds ++ gs)).vars = [])
 (hb : Below W.heap.size W W') :
 s.post enc P f apart fresh handsOn false W args (.bool true) W' := by
 have hlt : ∀ p ∈ before, p.block < W.heap.size := fun p hp => hW.lt p hp
 have hold : ∀ p ∈ before, (fun b => decide (b < W.heap.size)) p.block = true := fun p hp => by simpa using hlt p hp
 obtain ⟨hf1, hf2, hf3⟩ := hfn
 have hW' := hW
 obtain ⟨p, q, hA, hV, hpq, hz, hn⟩ := hW'
 rw [hv] at hV
 obtain ⟨rfl, rfl⟩ := trodVars_none hV
 have hp : before = p := by rw [hpq, List.append_nil]
 subst hp
 have hres : ∀ (b : Nat) (sp : Nat → Bool) (hd : Bool), DataW.TrodAll enc P W' b sp hd f.resultTypes.toList ((Value.bool true).resultList f.resultTypes.size) [.lit (.bool true)] [] := fun b sp hd => by
  rw [hrt]
  exact trodAll_cons_mk (shut_bool hbool true) trodAll_mk0
 refine ⟨ds, [], before, [], before, [], hW, ?_, ?_, ?_, World.keptBut_mono (fun p hp => ⟨hp, ?_⟩) (hb.frame (· ∈ before)), fun h => by cases h⟩
 ·rw [hf1]
  exact hres _ _ _
 ·rw [hf2]
  exact all_stay hl hb _ _ _ _ hread hlt hA _ hold
 ·rw [hf3, hv]
  rfl
 ·simpa using hp
end
section
variable {H : Type} {enc : TypeId × Value → H} {P : Program}
end
end Go.Proofs.YtgegfbopogcjpaaGreatDoor
namespace Go.Proofs.YtgegfbopogcjpaaGreatDoor
open Go.Shelf Go.RowKit Go.Lib
open Go.RowKit in
open Go.RowKit in
open Go.RowKit in
open Go.RowKit in
open Go.RowKit in
def sh_lays156_ren : Go.Shelf.Ren := ⟨fun | 156 => 21 | 165 => 58 | 166 => 59 | 169 => 60 | 240 => 85 | 241 => 86 | 276 => 105 | 277 => 106 | n => n, fun | 31 => 56 | 9 => 9 | 3 => 3 | 4 => 4 | 0 => 0 | 20 => 20 | 72 => 86 | 76 => 90 | 70 => 83 | 37 => 84 | 75 => 89 | 127 => 102 | 164 => 110 | 5 => 5 | 80 => 67 | n => n, fun | n => n⟩
theorem sh_lays156 : Go.Proofs.Lays.n156 Tryz.prog sh_lays156_ren := {
 mixed := by kernel_rfl
 f156 := Tryz.func21.trans (congrArg some (by kernel_rfl))
 f165 := Tryz.func58.trans (congrArg some (by kernel_rfl))
 f166 := Tryz.func59.trans (congrArg some (by kernel_rfl))
 f169 := Tryz.func60.trans (congrArg some (by kernel_rfl))
 f240 := Tryz.func85.trans (congrArg some (by kernel_rfl))
 f241 := Tryz.func86.trans (congrArg some (by kernel_rfl))
 f276 := Tryz.func105.trans (congrArg some (by kernel_rfl))
 f277 := Tryz.func106.trans (congrArg some (by kernel_rfl))
 t0 := Tryz.underlying0
 a0 := Tryz.isAgg0
 z0 := Tryz.sizeOf0
 v0 := Tryz.zeroValue0
 t3 := Tryz.underlying3
 a3 := Tryz.isAgg3
 z3 := Tryz.sizeOf3
 v3 := Tryz.zeroValue3
 t4 := Tryz.underlying4
 a4 := Tryz.isAgg4
 z4 := Tryz.sizeOf4
 v4 := Tryz.zeroValue4
 t9 := Tryz.underlying9
 a9 := Tryz.isAgg9
 z9 := Tryz.sizeOf9
 v9 := Tryz.zeroValue9
 t20 := Tryz.underlying20
 a20 := Tryz.isAgg20
 z20 := Tryz.sizeOf20
 v20 := Tryz.zeroValue20
 t31 := Tryz.underlying56
 a31 := Tryz.isAgg56
 z31 := Tryz.sizeOf56
 v31 := Tryz.zeroValue56
 t37 := Tryz.underlying84
 a37 := Tryz.isAgg84
 z37 := Tryz.sizeOf84
 v37 := Tryz.zeroValue84
 t70 := Tryz.underlying83
 a70 := Tryz.isAgg83
 z70 := Tryz.sizeOf83
 v70 := Tryz.zeroValue83
 t72 := Tryz.underlying86
 a72 := Tryz.isAgg86
 z72 := Tryz.sizeOf86
 v72 := Tryz.zeroValue86
 t75 := Tryz.underlying89
 a75 := Tryz.isAgg89
 z75 := Tryz.sizeOf89
 v75 := Tryz.zeroValue89
 t76 := Tryz.underlying90
 a76 := Tryz.isAgg90
 z76 := Tryz.sizeOf90
 v76 := Tryz.zeroValue90
 t127 := Tryz.underlying102
 a127 := Tryz.isAgg102
 z127 := Tryz.sizeOf102
 v127 := Tryz.zeroValue102
 t164 := Tryz.underlying110
 a164 := Tryz.isAgg110
 z164 := Tryz.sizeOf110
 v164 := Tryz.zeroValue110 }
theorem sh_Builder_Extra_156 : Builder.Extra Tryz.prog sh_lays156_ren := {
 sizeBuilder := by kernel_rfl
 liesBuilder := by kernel_rfl
 t5 := Tryz.underlying5
 a5 := Tryz.isAgg5
 z5 := Tryz.sizeOf5
 v5 := Tryz.zeroValue5
 infoByte := by kernel_rfl
 cellsByte := by kernel_rfl
 sizeByte := by kernel_rfl
 neB5 := by decide }
open Go.RowKit in
theorem sh_strings_Join_none (a : Option Addr) (c : Nat) (sep : ByteArray) (w : World) :
 Calls Tryz.prog 21 #[.slice a 0 c, .string sep] w fun e w' => e = .returned (.string ⟨#[]⟩) ∧ w' = w := Any.strings_Join_none sh_lays156 sh_Builder_Extra_156 a c sep w
open Go.RowKit in
theorem sh_strings_Join (bk o c : Nat) (xs : List ByteArray) (sep : ByteArray) (w : World) (hcells : ∀ (j : Nat) x, xs[j]? = some x → w.cell? ⟨bk, o + j, none⟩ = some (.string x)) (hbk : bk < w.heap.size) (hN : xs.length ≤ 140737488355328) (hcap : xs.length ≤ c) (hlen : (Lib.join (xs.map (·.data.toList)) sep.data.toList).length ≤ 140737488355328) :
 Calls Tryz.prog 21 #[.slice (some ⟨bk, o, none⟩) xs.length c, .string sep] w fun e w' => e = .returned (.string ⟨(Lib.join (xs.map (·.data.toList)) sep.data.toList).toArray⟩) ∧ Below w.heap.size w w' := Any.strings_Join sh_lays156 sh_Builder_Extra_156 bk o c xs sep w hcells hbk hN hcap hlen
def sh_lays160_ren : Go.Shelf.Ren := ⟨fun | 160 => 88 | 232 => 109 | 231 => 108 | 227 => 110 | 234 => 112 | 233 => 111 | 236 => 114 | 235 => 113 | 228 => 135 | 271 => 138 | 151 => 137 | 197 => 136 | 120 => 157 | 152 => 156 | 260 => 155 | 137 => 68 | 119 => 163 | 224 => 148 | 225 => 147 | 217 => 89 | 266 => 115 | n => n, fun | 9 => 9 | 4 => 4 | 3 => 3 | 5 => 5 | 117 => 116 | 116 => 115 | 0 => 0 | 124 => 119 | 21 => 21 | 105 => 142 | 46 => 125 | 119 => 165 | 139 => 168 | 138 => 167 | n => n, fun | 3 => 4 | 4 => 5 | n => n⟩
theorem sh_lays160 : Go.Proofs.Lays.n160 Tryz.prog sh_lays160_ren := {
 mixed := by kernel_rfl
 f119 := Tryz.func163.trans (congrArg some (by kernel_rfl))
 f120 := Tryz.func157.trans (congrArg some (by kernel_rfl))
 f137 := Tryz.func68.trans (congrArg some (by kernel_rfl))
 f151 := Tryz.func137.trans (congrArg some (by kernel_rfl))
 f152 := Tryz.func156.trans (congrArg some (by kernel_rfl))
 f160 := Tryz.func88.trans (congrArg some (by kernel_rfl))
 f197 := Tryz.func136.trans (congrArg some (by kernel_rfl))
 f217 := Tryz.func89.trans (congrArg some (by kernel_rfl))
 f224 := Tryz.func148.trans (congrArg some (by kernel_rfl))
 f225 := Tryz.func147.trans (congrArg some (by kernel_rfl))
 f227 := Tryz.func110.trans (congrArg some (by kernel_rfl))
 f228 := Tryz.func135.trans (congrArg some (by kernel_rfl))
 f231 := Tryz.func108.trans (congrArg some (by kernel_rfl))
 f232 := Tryz.func109.trans (congrArg some (by kernel_rfl))
 f233 := Tryz.func111.trans (congrArg some (by kernel_rfl))
 f234 := Tryz.func112.trans (congrArg some (by kernel_rfl))
 f235 := Tryz.func113.trans (congrArg some (by kernel_rfl))
 f236 := Tryz.func114.trans (congrArg some (by kernel_rfl))
 f260 := Tryz.func155.trans (congrArg some (by kernel_rfl))
 f266 := Tryz.func115.trans (congrArg some (by kernel_rfl))
 f271 := Tryz.func138.trans (congrArg some (by kernel_rfl))
 t0 := Tryz.underlying0
 a0 := Tryz.isAgg0
 z0 := Tryz.sizeOf0
 v0 := Tryz.zeroValue0
 t3 := Tryz.underlying3
 a3 := Tryz.isAgg3
 z3 := Tryz.sizeOf3
 v3 := Tryz.zeroValue3
 t4 := Tryz.underlying4
 a4 := Tryz.isAgg4
 z4 := Tryz.sizeOf4
 v4 := Tryz.zeroValue4
 t5 := Tryz.underlying5
 a5 := Tryz.isAgg5
 z5 := Tryz.sizeOf5
 v5 := Tryz.zeroValue5
 t9 := Tryz.underlying9
 a9 := Tryz.isAgg9
 z9 := Tryz.sizeOf9
 v9 := Tryz.zeroValue9
 t21 := Tryz.underlying21
 a21 := Tryz.isAgg21
 z21 := Tryz.sizeOf21
 v21 := Tryz.zeroValue21
 t46 := Tryz.underlying125
 a46 := Tryz.isAgg125
 z46 := Tryz.sizeOf125
 v46 := Tryz.zeroValue125
 t105 := Tryz.underlying142
 a105 := Tryz.isAgg142
 z105 := Tryz.sizeOf142
 v105 := Tryz.zeroValue142
 t116 := Tryz.underlying115
 a116 := Tryz.isAgg115
 z116 := Tryz.sizeOf115
 t117 := Tryz.underlying116
 a117 := Tryz.isAgg116
 z117 := Tryz.sizeOf116
 v117 := Tryz.zeroValue116
 t119 := Tryz.underlying165
 a119 := Tryz.isAgg165
 z119 := Tryz.sizeOf165
 t124 := Tryz.underlying119
 a124 := Tryz.isAgg119
 z124 := Tryz.sizeOf119
 v124 := Tryz.zeroValue119
 t138 := Tryz.underlying167
 a138 := Tryz.isAgg167
 z138 := Tryz.sizeOf167
 v138 := Tryz.zeroValue167
 t139 := Tryz.underlying168
 a139 := Tryz.isAgg168
 z139 := Tryz.sizeOf168
 v139 := Tryz.zeroValue168
 g3 := by kernel_rfl
 g4 := by kernel_rfl }
open Go.RowKit in
def sh_lays137_ren : Go.Shelf.Ren := ⟨fun | 137 => 68 | 217 => 89 | 266 => 115 | n => n, fun | 9 => 9 | 5 => 5 | 3 => 3 | n => n, fun | n => n⟩
theorem sh_lays137 : Go.Proofs.Lays.n137 Tryz.prog sh_lays137_ren := {
 mixed := by kernel_rfl
 f137 := Tryz.func68.trans (congrArg some (by kernel_rfl))
 f217 := Tryz.func89.trans (congrArg some (by kernel_rfl))
 f266 := Tryz.func115.trans (congrArg some (by kernel_rfl))
 t3 := Tryz.underlying3
 a3 := Tryz.isAgg3
 z3 := Tryz.sizeOf3
 v3 := Tryz.zeroValue3
 t5 := Tryz.underlying5
 a5 := Tryz.isAgg5
 z5 := Tryz.sizeOf5
 v5 := Tryz.zeroValue5
 t9 := Tryz.underlying9
 a9 := Tryz.isAgg9
 z9 := Tryz.sizeOf9
 v9 := Tryz.zeroValue9 }
open Go.RowKit in
theorem sh_strings_IndexByte (s : ByteArray) (c : Int) (w : World) :
 Calls Tryz.prog 68 #[.string s, .int .u8 c] w fun e w' => e = .returned (.int .i64 (Lib.indexByte s.data.toList c.toNat.toUInt8)) ∧ w' = w := Any.strings_IndexByte sh_lays137 s c w
open Go.RowKit in
open Go.RowKit in
open Go.RowKit in
open Go.RowKit in
open Go.RowKit in
open Go.RowKit in
open Go.RowKit in
open Go.RowKit in
open Go.RowKit Go.Sort Go.Lib in
open Go.RowKit Go.Sort Go.Lib in
def sh_laysM173_ren : Go.Shelf.Ren := ⟨fun | 173 => 83 | 246 => 102 | 283 => 128 | 284 => 129 | 285 => 130 | 286 => 131 | 129 => 151 | 317 => 150 | 318 => 152 | 319 => 153 | 320 => 154 | 337 => 161 | 338 => 162 | n => n, fun | 2 => 2 | 3 => 3 | 9 => 9 | 4 => 4 | 171 => 132 | 0 => 0 | 53 => 122 | 37 => 84 | 5 => 5 | 173 => 135 | 212 => 153 | 51 => 154 | 20 => 20 | 213 => 155 | 46 => 125 | 232 => 170 | 233 => 171 | n => n, fun | 17 => 3 | 18 => 6 | 19 => 7 | n => n⟩
theorem sh_laysM173 : Go.Proofs.LaysM.n173 Tryz.prog sh_laysM173_ren := {
 mixed := by kernel_rfl
 f129 := Tryz.func151.trans (congrArg some (by kernel_rfl))
 f173 := Tryz.func83.trans (congrArg some (by kernel_rfl))
 f246 := Tryz.func102.trans (congrArg some (by kernel_rfl))
 f283 := Tryz.func128.trans (congrArg some (by kernel_rfl))
 f284 := Tryz.func129.trans (congrArg some (by kernel_rfl))
 f285 := Tryz.func130.trans (congrArg some (by kernel_rfl))
 f286 := Tryz.func131.trans (congrArg some (by kernel_rfl))
 f317 := Tryz.func150.trans (congrArg some (by kernel_rfl))
 f318 := Tryz.func152.trans (congrArg some (by kernel_rfl))
 f319 := Tryz.func153.trans (congrArg some (by kernel_rfl))
 f320 := Tryz.func154.trans (congrArg some (by kernel_rfl))
 f337 := Tryz.func161.trans (congrArg some (by kernel_rfl))
 f338 := Tryz.func162.trans (congrArg some (by kernel_rfl))
 t0 := Tryz.underlying0
 a0 := Tryz.isAgg0
 z0 := Tryz.sizeOf0
 v0 := Tryz.zeroValue0
 t2 := Tryz.underlying2
 a2 := Tryz.isAgg2
 z2 := Tryz.sizeOf2
 v2 := Tryz.zeroValue2
 t3 := Tryz.underlying3
 a3 := Tryz.isAgg3
 z3 := Tryz.sizeOf3
 v3 := Tryz.zeroValue3
 t4 := Tryz.underlying4
 a4 := Tryz.isAgg4
 z4 := Tryz.sizeOf4
 v4 := Tryz.zeroValue4
 t5 := Tryz.underlying5
 a5 := Tryz.isAgg5
 z5 := Tryz.sizeOf5
 v5 := Tryz.zeroValue5
 t9 := Tryz.underlying9
 a9 := Tryz.isAgg9
 z9 := Tryz.sizeOf9
 v9 := Tryz.zeroValue9
 t20 := Tryz.underlying20
 a20 := Tryz.isAgg20
 z20 := Tryz.sizeOf20
 v20 := Tryz.zeroValue20
 t37 := Tryz.underlying84
 a37 := Tryz.isAgg84
 z37 := Tryz.sizeOf84
 v37 := Tryz.zeroValue84
 t46 := Tryz.underlying125
 a46 := Tryz.isAgg125
 z46 := Tryz.sizeOf125
 v46 := Tryz.zeroValue125
 t51 := Tryz.underlying154
 a51 := Tryz.isAgg154
 z51 := Tryz.sizeOf154
 v51 := Tryz.zeroValue154
 t53 := Tryz.underlying122
 a53 := Tryz.isAgg122
 z53 := Tryz.sizeOf122
 v53 := Tryz.zeroValue122
 t171 := Tryz.underlying132
 a171 := Tryz.isAgg132
 z171 := Tryz.sizeOf132
 v171 := Tryz.zeroValue132
 t173 := Tryz.underlying135
 a173 := Tryz.isAgg135
 z173 := Tryz.sizeOf135
 v173 := Tryz.zeroValue135
 t212 := Tryz.underlying153
 a212 := Tryz.isAgg153
 z212 := Tryz.sizeOf153
 v212 := Tryz.zeroValue153
 t213 := Tryz.underlying155
 a213 := Tryz.isAgg155
 z213 := Tryz.sizeOf155
 t232 := Tryz.underlying170
 a232 := Tryz.isAgg170
 z232 := Tryz.sizeOf170
 v232 := Tryz.zeroValue170
 t233 := Tryz.underlying171
 a233 := Tryz.isAgg171
 z233 := Tryz.sizeOf171
 v233 := Tryz.zeroValue171
 g17 := by kernel_rfl
 g18 := by kernel_rfl
 g19 := by kernel_rfl
 i0 := by kernel_rfl
 i2 := by kernel_rfl
 i3 := by kernel_rfl
 i4 := by kernel_rfl
 i5 := by kernel_rfl
 i9 := by kernel_rfl
 i20 := by kernel_rfl
 i37 := by kernel_rfl
 i46 := by kernel_rfl
 i51 := by kernel_rfl
 i53 := by kernel_rfl
 i171 := by kernel_rfl
 i173 := by kernel_rfl
 i212 := by kernel_rfl
 i232 := by kernel_rfl
 i233 := by kernel_rfl
 m17 := by kernel_rfl
 m18 := by kernel_rfl
 m19 := by kernel_rfl }
open Go.RowKit Go.Sort Go.Lib in
theorem sh_strconv_FormatInt_10 (n : Int) (h0 : -9223372036854775808 ≤ n) (h1 : n ≤ 9223372036854775807) (w : World) (htab : Lib.TabIs Tryz.prog w "internal/strconv.uint64pow10" .u64 Lib.pow10Tab) :
 Calls Tryz.prog 83 #[.int .i64 n, .int .i64 10] w fun e w' => e = .returned (.string ⟨(Lib.itoa n).toArray⟩) ∧ ∃ k os, w' = grow (w.drewN k) os := Any.strconv_FormatInt_10 sh_laysM173 n h0 h1 w htab
open Go.RowKit Go.Sort Go.Lib in
def sh_laysC174_ren : Go.Shelf.Ren := ⟨fun | 174 => 74 | 247 => 95 | 245 => 96 | 287 => 118 | 279 => 119 | 280 => 120 | 281 => 121 | 282 => 122 | 321 => 141 | 322 => 142 | 316 => 143 | 171 => 145 | 205 => 144 | 243 => 159 | 246 => 102 | 283 => 128 | 284 => 129 | 285 => 130 | 286 => 131 | 129 => 151 | 317 => 150 | 318 => 152 | 319 => 153 | 320 => 154 | 337 => 161 | 338 => 162 | n => n, fun | 9 => 9 | 3 => 3 | 2 => 2 | 75 => 89 | 85 => 98 | 4 => 4 | 167 => 121 | 5 => 5 | 53 => 122 | 175 => 123 | 46 => 125 | 168 => 126 | 37 => 84 | 0 => 0 | 210 => 148 | 21 => 21 | 127 => 102 | 145 => 160 | 143 => 158 | 171 => 132 | 173 => 135 | 212 => 153 | 51 => 154 | 20 => 20 | 213 => 155 | 232 => 170 | 233 => 171 | 80 => 67 | n => n, fun | 15 => 1 | 16 => 2 | 17 => 3 | 18 => 6 | 19 => 7 | n => n⟩
theorem sh_laysC174 : Go.Proofs.LaysC.n174 Tryz.prog sh_laysC174_ren := {
 mixed := by kernel_rfl
 f129 := Tryz.func151.trans (congrArg some (by kernel_rfl))
 f171 := Tryz.func145.trans (congrArg some (by kernel_rfl))
 f174 := Tryz.func74.trans (congrArg some (by kernel_rfl))
 f205 := Tryz.func144.trans (congrArg some (by kernel_rfl))
 f243 := Tryz.func159.trans (congrArg some (by kernel_rfl))
 f245 := Tryz.func96.trans (congrArg some (by kernel_rfl))
 f246 := Tryz.func102.trans (congrArg some (by kernel_rfl))
 f247 := Tryz.func95.trans (congrArg some (by kernel_rfl))
 f279 := Tryz.func119.trans (congrArg some (by kernel_rfl))
 f280 := Tryz.func120.trans (congrArg some (by kernel_rfl))
 f281 := Tryz.func121.trans (congrArg some (by kernel_rfl))
 f282 := Tryz.func122.trans (congrArg some (by kernel_rfl))
 f283 := Tryz.func128.trans (congrArg some (by kernel_rfl))
 f284 := Tryz.func129.trans (congrArg some (by kernel_rfl))
 f285 := Tryz.func130.trans (congrArg some (by kernel_rfl))
 f286 := Tryz.func131.trans (congrArg some (by kernel_rfl))
 f287 := Tryz.func118.trans (congrArg some (by kernel_rfl))
 f316 := Tryz.func143.trans (congrArg some (by kernel_rfl))
 f317 := Tryz.func150.trans (congrArg some (by kernel_rfl))
 f318 := Tryz.func152.trans (congrArg some (by kernel_rfl))
 f319 := Tryz.func153.trans (congrArg some (by kernel_rfl))
 f320 := Tryz.func154.trans (congrArg some (by kernel_rfl))
 f321 := Tryz.func141.trans (congrArg some (by kernel_rfl))
 f322 := Tryz.func142.trans (congrArg some (by kernel_rfl))
 f337 := Tryz.func161.trans (congrArg some (by kernel_rfl))
 f338 := Tryz.func162.trans (congrArg some (by kernel_rfl))
 t0 := Tryz.underlying0
 a0 := Tryz.isAgg0
 z0 := Tryz.sizeOf0
 v0 := Tryz.zeroValue0
 t2 := Tryz.underlying2
 a2 := Tryz.isAgg2
 z2 := Tryz.sizeOf2
 v2 := Tryz.zeroValue2
 t3 := Tryz.underlying3
 a3 := Tryz.isAgg3
 z3 := Tryz.sizeOf3
 v3 := Tryz.zeroValue3
 t4 := Tryz.underlying4
 a4 := Tryz.isAgg4
 z4 := Tryz.sizeOf4
 v4 := Tryz.zeroValue4
 t5 := Tryz.underlying5
 a5 := Tryz.isAgg5
 z5 := Tryz.sizeOf5
 v5 := Tryz.zeroValue5
 t9 := Tryz.underlying9
 a9 := Tryz.isAgg9
 z9 := Tryz.sizeOf9
 v9 := Tryz.zeroValue9
 t20 := Tryz.underlying20
 a20 := Tryz.isAgg20
 z20 := Tryz.sizeOf20
 v20 := Tryz.zeroValue20
 t21 := Tryz.underlying21
 a21 := Tryz.isAgg21
 z21 := Tryz.sizeOf21
 v21 := Tryz.zeroValue21
 t37 := Tryz.underlying84
 a37 := Tryz.isAgg84
 z37 := Tryz.sizeOf84
 v37 := Tryz.zeroValue84
 t46 := Tryz.underlying125
 a46 := Tryz.isAgg125
 z46 := Tryz.sizeOf125
 v46 := Tryz.zeroValue125
 t51 := Tryz.underlying154
 a51 := Tryz.isAgg154
 z51 := Tryz.sizeOf154
 v51 := Tryz.zeroValue154
 t53 := Tryz.underlying122
 a53 := Tryz.isAgg122
 z53 := Tryz.sizeOf122
 v53 := Tryz.zeroValue122
 t75 := Tryz.underlying89
 a75 := Tryz.isAgg89
 z75 := Tryz.sizeOf89
 v75 := Tryz.zeroValue89
 t85 := Tryz.underlying98
 a85 := Tryz.isAgg98
 z85 := Tryz.sizeOf98
 v85 := Tryz.zeroValue98
 t127 := Tryz.underlying102
 a127 := Tryz.isAgg102
 z127 := Tryz.sizeOf102
 v127 := Tryz.zeroValue102
 t143 := Tryz.underlying158
 a143 := Tryz.isAgg158
 z143 := Tryz.sizeOf158
 v143 := Tryz.zeroValue158
 t145 := Tryz.underlying160
 a145 := Tryz.isAgg160
 z145 := Tryz.sizeOf160
 v145 := Tryz.zeroValue160
 t167 := Tryz.underlying121
 a167 := Tryz.isAgg121
 z167 := Tryz.sizeOf121
 v167 := Tryz.zeroValue121
 t168 := Tryz.underlying126
 a168 := Tryz.isAgg126
 z168 := Tryz.sizeOf126
 v168 := Tryz.zeroValue126
 t171 := Tryz.underlying132
 a171 := Tryz.isAgg132
 z171 := Tryz.sizeOf132
 v171 := Tryz.zeroValue132
 t173 := Tryz.underlying135
 a173 := Tryz.isAgg135
 z173 := Tryz.sizeOf135
 v173 := Tryz.zeroValue135
 t175 := Tryz.underlying123
 a175 := Tryz.isAgg123
 z175 := Tryz.sizeOf123
 v175 := Tryz.zeroValue123
 t210 := Tryz.underlying148
 a210 := Tryz.isAgg148
 z210 := Tryz.sizeOf148
 v210 := Tryz.zeroValue148
 t212 := Tryz.underlying153
 a212 := Tryz.isAgg153
 z212 := Tryz.sizeOf153
 v212 := Tryz.zeroValue153
 t213 := Tryz.underlying155
 a213 := Tryz.isAgg155
 z213 := Tryz.sizeOf155
 t232 := Tryz.underlying170
 a232 := Tryz.isAgg170
 z232 := Tryz.sizeOf170
 v232 := Tryz.zeroValue170
 t233 := Tryz.underlying171
 a233 := Tryz.isAgg171
 z233 := Tryz.sizeOf171
 v233 := Tryz.zeroValue171
 g15 := by kernel_rfl
 g16 := by kernel_rfl
 g17 := by kernel_rfl
 g18 := by kernel_rfl
 g19 := by kernel_rfl
 t80 := Tryz.underlying67
 a80 := Tryz.isAgg67
 z80 := Tryz.sizeOf67
 v80 := Tryz.zeroValue67
 i0 := by kernel_rfl
 i2 := by kernel_rfl
 i3 := by kernel_rfl
 i4 := by kernel_rfl
 i5 := by kernel_rfl
 i9 := by kernel_rfl
 i20 := by kernel_rfl
 i21 := by kernel_rfl
 i37 := by kernel_rfl
 i46 := by kernel_rfl
 i51 := by kernel_rfl
 i53 := by kernel_rfl
 i75 := by kernel_rfl
 i80 := by kernel_rfl
 i85 := by kernel_rfl
 i127 := by kernel_rfl
 i143 := by kernel_rfl
 i145 := by kernel_rfl
 i167 := by kernel_rfl
 i168 := by kernel_rfl
 i171 := by kernel_rfl
 i173 := by kernel_rfl
 i175 := by kernel_rfl
 i210 := by kernel_rfl
 i212 := by kernel_rfl
 i232 := by kernel_rfl
 i233 := by kernel_rfl
 m15 := by kernel_rfl
 m16 := by kernel_rfl
 m17 := by kernel_rfl
 m18 := by kernel_rfl
 m19 := by kernel_rfl
 c0 := by kernel_rfl
 c2 := by kernel_rfl
 c3 := by kernel_rfl
 c4 := by kernel_rfl
 c5 := by kernel_rfl
 c9 := by kernel_rfl
 c20 := by kernel_rfl
 c21 := by kernel_rfl
 c37 := by kernel_rfl
 c46 := by kernel_rfl
 c51 := by kernel_rfl
 c53 := by kernel_rfl
 c75 := by kernel_rfl
 c80 := by kernel_rfl
 c85 := by kernel_rfl
 c127 := by kernel_rfl
 c143 := by kernel_rfl
 c145 := by kernel_rfl
 c167 := by kernel_rfl
 c168 := by kernel_rfl
 c171 := by kernel_rfl
 c173 := by kernel_rfl
 c175 := by kernel_rfl
 c210 := by kernel_rfl
 c212 := by kernel_rfl
 c213 := by kernel_rfl
 c232 := by kernel_rfl
 c233 := by kernel_rfl }
open Go.RowKit in
theorem sh_strconv_ParseInt_10_at64_ok (s : ByteArray) (hmax : s.size ≤ 9223372036854775806) (v : Int) (h : Lib.parseIntB 64 s.data.toList = .ok v) (w : World) :
 Calls Tryz.prog 74 #[.string s, .int .i64 10, .int .i64 64] w fun e w' => e = .returned (.tuple #[.int .i64 v, .nilIface]) ∧ (w' = w ∨ ∃ t, w' = Lib.bytesWorld w 5 t) := Any.strconv_ParseInt_10_at64_ok sh_laysC174 s hmax v h w
open Go.RowKit in
theorem sh_strconv_ParseInt_10_at32_ok (s : ByteArray) (hmax : s.size ≤ 9223372036854775806) (v : Int) (h : Lib.parseIntB 32 s.data.toList = .ok v) (w : World) :
 Calls Tryz.prog 74 #[.string s, .int .i64 10, .int .i64 32] w fun e w' => e = .returned (.tuple #[.int .i64 v, .nilIface]) ∧ (w' = w ∨ ∃ t, w' = Lib.bytesWorld w 5 t) := Any.strconv_ParseInt_10_at32_ok sh_laysC174 s hmax v h w
open Go.RowKit in
theorem sh_strconv_ParseInt_10_at64_range_var (s : ByteArray) (hlim : s.size ≤ 281474976710656) (h : Lib.parseIntB 64 s.data.toList = .range) (tp : TypeId) (p : Value) (w : World) (hvar : w.var? Tryz.prog "strconv.ErrRange" = some #[.iface tp p]) :
 Calls Tryz.prog 74 #[.string s, .int .i64 10, .int .i64 64] w fun e w' => ∃ N, e = .returned (.tuple #[.int .i64 (Lib.intSat 64 s.data.toList), .iface 126 (.pointer (some ⟨N, 0, none⟩))]) ∧ w.heap.size ≤ N ∧ w'.heap[N]? = some (.cells #[.string ⟨#[80, 97, 114, 115, 101, 73, 110, 116]⟩, .string s, .iface tp p] 148 (0, 0)) ∧ Below w.heap.size w w' := Any.strconv_ParseInt_10_at64_range_var sh_laysC174 s hlim h tp p w hvar
open Go.RowKit in
theorem sh_strconv_ParseInt_10_at32_range_var (s : ByteArray) (hlim : s.size ≤ 281474976710656) (h : Lib.parseIntB 32 s.data.toList = .range) (tp : TypeId) (p : Value) (w : World) (hvar : w.var? Tryz.prog "strconv.ErrRange" = some #[.iface tp p]) :
 Calls Tryz.prog 74 #[.string s, .int .i64 10, .int .i64 32] w fun e w' => ∃ N, e = .returned (.tuple #[.int .i64 (Lib.intSat 32 s.data.toList), .iface 126 (.pointer (some ⟨N, 0, none⟩))]) ∧ w.heap.size ≤ N ∧ w'.heap[N]? = some (.cells #[.string ⟨#[80, 97, 114, 115, 101, 73, 110, 116]⟩, .string s, .iface tp p] 148 (0, 0)) ∧ Below w.heap.size w w' := Any.strconv_ParseInt_10_at32_range_var sh_laysC174 s hlim h tp p w hvar
def sh_lays144_ren : Go.Shelf.Ren := ⟨fun | 144 => 82 | 143 => 101 | 219 => 127 | 217 => 89 | 225 => 147 | 224 => 148 | 267 => 149 | 266 => 115 | 314 => 160 | n => n, fun | 9 => 9 | 4 => 4 | 3 => 3 | 5 => 5 | 46 => 125 | 146 => 162 | 51 => 154 | n => n, fun | 1 => 0 | n => n⟩
theorem sh_lays144 : Go.Proofs.Lays.n144 Tryz.prog sh_lays144_ren := {
 mixed := by kernel_rfl
 f143 := Tryz.func101.trans (congrArg some (by kernel_rfl))
 f144 := Tryz.func82.trans (congrArg some (by kernel_rfl))
 f217 := Tryz.func89.trans (congrArg some (by kernel_rfl))
 f219 := Tryz.func127.trans (congrArg some (by kernel_rfl))
 f224 := Tryz.func148.trans (congrArg some (by kernel_rfl))
 f225 := Tryz.func147.trans (congrArg some (by kernel_rfl))
 f266 := Tryz.func115.trans (congrArg some (by kernel_rfl))
 f267 := Tryz.func149.trans (congrArg some (by kernel_rfl))
 f314 := Tryz.func160.trans (congrArg some (by kernel_rfl))
 t3 := Tryz.underlying3
 a3 := Tryz.isAgg3
 z3 := Tryz.sizeOf3
 v3 := Tryz.zeroValue3
 t4 := Tryz.underlying4
 a4 := Tryz.isAgg4
 z4 := Tryz.sizeOf4
 v4 := Tryz.zeroValue4
 t5 := Tryz.underlying5
 a5 := Tryz.isAgg5
 z5 := Tryz.sizeOf5
 v5 := Tryz.zeroValue5
 t9 := Tryz.underlying9
 a9 := Tryz.isAgg9
 z9 := Tryz.sizeOf9
 v9 := Tryz.zeroValue9
 t46 := Tryz.underlying125
 a46 := Tryz.isAgg125
 z46 := Tryz.sizeOf125
 v46 := Tryz.zeroValue125
 t51 := Tryz.underlying154
 a51 := Tryz.isAgg154
 z51 := Tryz.sizeOf154
 v51 := Tryz.zeroValue154
 t146 := Tryz.underlying162
 a146 := Tryz.isAgg162
 z146 := Tryz.sizeOf162
 v146 := Tryz.zeroValue162
 g1 := by kernel_rfl }
open Go.RowKit Go.Lib in
theorem sh_strings_Contains (s sub : ByteArray) (m : Int) (w : World) (hs : s.size < 4294967281) (hm : w.cell? ⟨0, 0, none⟩ = some (.int .i64 m)) :
 Calls Tryz.prog 82 #[.string s, .string sub] w fun e w' => e = .returned (.bool (Lib.contains s.data.toList sub.data.toList)) ∧ w' = w := Any.strings_Contains sh_lays144 s sub m w hs hm
def sh_laysM144_ren : Go.Shelf.Ren := ⟨fun | 144 => 82 | 143 => 101 | 219 => 127 | 217 => 89 | 225 => 147 | 224 => 148 | 267 => 149 | 266 => 115 | 314 => 160 | n => n, fun | 9 => 9 | 4 => 4 | 3 => 3 | 5 => 5 | 46 => 125 | 146 => 162 | 51 => 154 | n => n, fun | 1 => 0 | n => n⟩
theorem sh_laysM144 : Go.Proofs.LaysM.n144 Tryz.prog sh_laysM144_ren := {
 mixed := by kernel_rfl
 f143 := Tryz.func101.trans (congrArg some (by kernel_rfl))
 f144 := Tryz.func82.trans (congrArg some (by kernel_rfl))
 f217 := Tryz.func89.trans (congrArg some (by kernel_rfl))
 f219 := Tryz.func127.trans (congrArg some (by kernel_rfl))
 f224 := Tryz.func148.trans (congrArg some (by kernel_rfl))
 f225 := Tryz.func147.trans (congrArg some (by kernel_rfl))
 f266 := Tryz.func115.trans (congrArg some (by kernel_rfl))
 f267 := Tryz.func149.trans (congrArg some (by kernel_rfl))
 f314 := Tryz.func160.trans (congrArg some (by kernel_rfl))
 t3 := Tryz.underlying3
 a3 := Tryz.isAgg3
 z3 := Tryz.sizeOf3
 v3 := Tryz.zeroValue3
 t4 := Tryz.underlying4
 a4 := Tryz.isAgg4
 z4 := Tryz.sizeOf4
 v4 := Tryz.zeroValue4
 t5 := Tryz.underlying5
 a5 := Tryz.isAgg5
 z5 := Tryz.sizeOf5
 v5 := Tryz.zeroValue5
 t9 := Tryz.underlying9
 a9 := Tryz.isAgg9
 z9 := Tryz.sizeOf9
 v9 := Tryz.zeroValue9
 t46 := Tryz.underlying125
 a46 := Tryz.isAgg125
 z46 := Tryz.sizeOf125
 v46 := Tryz.zeroValue125
 t51 := Tryz.underlying154
 a51 := Tryz.isAgg154
 z51 := Tryz.sizeOf154
 v51 := Tryz.zeroValue154
 t146 := Tryz.underlying162
 a146 := Tryz.isAgg162
 z146 := Tryz.sizeOf162
 v146 := Tryz.zeroValue162
 g1 := by kernel_rfl
 i3 := by kernel_rfl
 i4 := by kernel_rfl
 i5 := by kernel_rfl
 i9 := by kernel_rfl
 i46 := by kernel_rfl
 i51 := by kernel_rfl
 i146 := by kernel_rfl
 m1 := by kernel_rfl
 s1_3 := fun w h => Go.Proofs.cell_of_shapedOpen_int (zero := #[.int .i64 0]) (t := 3) h (of_decide_eq_true (by kernel_rfl)) (by kernel_rfl) rfl (by kernel_rfl) (by kernel_rfl) Tryz.underlying3 }
def sh_lays99_ren : Go.Shelf.Ren := ⟨fun | 99 => 69 | 206 => 90 | n => n, fun | 9 => 9 | 4 => 4 | 3 => 3 | n => n, fun | n => n⟩
theorem sh_lays99 : Go.Proofs.Lays.n99 Tryz.prog sh_lays99_ren := {
 mixed := by kernel_rfl
 f99 := Tryz.func69.trans (congrArg some (by kernel_rfl))
 f206 := Tryz.func90.trans (congrArg some (by kernel_rfl))
 t3 := Tryz.underlying3
 a3 := Tryz.isAgg3
 z3 := Tryz.sizeOf3
 v3 := Tryz.zeroValue3
 t4 := Tryz.underlying4
 a4 := Tryz.isAgg4
 z4 := Tryz.sizeOf4
 v4 := Tryz.zeroValue4
 t9 := Tryz.underlying9
 a9 := Tryz.isAgg9
 z9 := Tryz.sizeOf9
 v9 := Tryz.zeroValue9 }
open Go.RowKit Go.Lib in
theorem sh_strings_HasPrefix (s p : ByteArray) (w : World) :
 Calls Tryz.prog 69 #[.string s, .string p] w fun e w' => e = .returned (.bool (Lib.hasPrefix s.data.toList p.data.toList)) ∧ w' = w := Any.strings_HasPrefix sh_lays99 s p w
def sh_lays100_ren : Go.Shelf.Ren := ⟨fun | 100 => 87 | 207 => 107 | n => n, fun | 9 => 9 | 4 => 4 | 3 => 3 | n => n, fun | n => n⟩
theorem sh_lays100 : Go.Proofs.Lays.n100 Tryz.prog sh_lays100_ren := {
 mixed := by kernel_rfl
 f100 := Tryz.func87.trans (congrArg some (by kernel_rfl))
 f207 := Tryz.func107.trans (congrArg some (by kernel_rfl))
 t3 := Tryz.underlying3
 a3 := Tryz.isAgg3
 z3 := Tryz.sizeOf3
 v3 := Tryz.zeroValue3
 t4 := Tryz.underlying4
 a4 := Tryz.isAgg4
 z4 := Tryz.sizeOf4
 v4 := Tryz.zeroValue4
 t9 := Tryz.underlying9
 a9 := Tryz.isAgg9
 z9 := Tryz.sizeOf9
 v9 := Tryz.zeroValue9 }
open Go.RowKit Go.Lib in
theorem sh_strings_HasSuffix (s p : ByteArray) (w : World) (hs : s.size ≤ 9223372036854775807) :
 Calls Tryz.prog 87 #[.string s, .string p] w fun e w' => e = .returned (.bool (Lib.hasSuffix s.data.toList p.data.toList)) ∧ w' = w := Any.strings_HasSuffix sh_lays100 s p w hs
def ML (w : World) : Prop := ∃ m, w.cell? ⟨0, 0, none⟩ = some (.int .i64 m)
theorem ML.at_ {w : World} (h : w.ShapedOpen Tryz.prog) : ML w := sh_laysM144.s1_3 w h
theorem ML.keep {w w' : World} (h : ML w) (hb : Go.RowKit.Below w.heap.size w w') : ML w' := by
 obtain ⟨m, hm⟩ := h
 exact ⟨m, (hb.cell (p := ⟨0, 0, none⟩) (World.block_lt_of_cell? w _ hm)).trans hm⟩
theorem contains_any (s sub : ByteArray) (w : World) (hs : s.size < 4294967281) (h : ML w) :
 Calls Tryz.prog 82 #[.string s, .string sub] w fun e w' => e = .returned (.bool (Lib.contains s.data.toList sub.data.toList)) ∧ w' = w := by
 obtain ⟨m, hm⟩ := h
 exact sh_strings_Contains s sub m w hs hm
end Go.Proofs.YtgegfbopogcjpaaGreatDoor
namespace Go.Proofs.YtgegfbopogcjpaaGreatDoor
def letterI (c : Int) : Bool := (decide (97 ≤ c) && decide (c ≤ 122)) || (decide (65 ≤ c) && decide (c ≤ 90))
def chrI (c : Int) : Bool := letterI c || c == 95 || (decide (48 ≤ c) && decide (c ≤ 57))
def byteI (s : ByteArray) (k : Nat) : Int := if h : k < s.size then ((s[k]'h).toNat : Int) else 0
theorem byteI_at {s : ByteArray} {k : Nat} (h : k < s.size) : byteI s k = ((s[k]'h).toNat : Int) := by simp [byteI, h]
theorem byteI_extract {s : ByteArray} {a b j : Nat} (h : a + j < b) (hb : b ≤ s.size) : byteI (s.extract a b) j = byteI s (a + j) := by
 rw [byteI_at (by simp; omega), byteI_at (by omega), ByteArray.getElem_extract]
end Go.Proofs.YtgegfbopogcjpaaGreatDoor
namespace Go.Proofs.YtgegfbopogcjpaaGreatDoor
open Go.RowKit
set_option linter.unusedVariables false
set_option linter.unusedSimpArgs false
set_option maxRecDepth 100000
def wordL : List UInt8 := [32, 98, 114, 101, 97, 107, 32, 99, 111, 117, 110, 116, 32, 101, 108, 115, 101, 32, 101, 120, 116, 101, 114, 110, 32, 101, 120, 116, 114, 97, 32, 102, 110, 32, 105, 102, 32, 105, 110, 116, 32, 108, 111, 110, 103, 32, 112, 117, 116, 32, 114, 101, 116, 117, 114, 110, 32, 115, 116, 97, 116, 105, 99, 32, 115, 116, 114, 117, 99, 116, 32, 119, 104, 105, 108, 101, 32]
def reserved (s : ByteArray) : Bool := Lib.contains wordL (32 :: (s.data.toList ++ [32]))
def nameOf (s : ByteArray) : Bool := decide (1 ≤ s.size) && decide (s.size ≤ 16) && letterI (byteI s 0) && (List.range s.size).all (fun k => k == 0 || chrI (byteI s k)) && !reserved s
theorem letter_any (c : Int) (w : World) : Calls Tryz.prog 81 #[.int .u8 c] w fun e w' => e = .returned (.bool (letterI c)) ∧ w' = w := by
 go_enter Tryz.func81, Tryz.ntmps81
 go_wp2
 all_goals go_ret
 all_goals refine ⟨?_, rfl⟩
 all_goals
  have e1 : letterI c = ((decide (97 ≤ c) && decide (c ≤ 122)) || (decide (65 ≤ c) && decide (c ≤ 90))) := rfl
  rw [e1]
  simp_all <;> (try omega)
theorem name_false {s : ByteArray} (h : nameOf s = true) : 1 ≤ s.size ∧ s.size ≤ 16 ∧ letterI (byteI s 0) = true ∧ (∀ k, 1 ≤ k → k < s.size → chrI (byteI s k) = true) ∧ reserved s = false := by
 simp only [nameOf, Bool.and_eq_true, decide_eq_true_eq, List.all_eq_true, List.mem_range, Bool.or_eq_true, beq_iff_eq, Bool.not_eq_true'] at h
 obtain ⟨⟨⟨⟨h1, h2⟩, h3⟩, h4⟩, h5⟩ := h
 exact ⟨h1, h2, h3, fun k hk hs => by rcases h4 k hs with h | h <;> first | omega | exact h, h5⟩
theorem name_of {s : ByteArray} (h1 : 1 ≤ s.size) (h2 : s.size ≤ 16) (h3 : letterI (byteI s 0) = true) (h4 : ∀ k, 1 ≤ k → k < s.size → chrI (byteI s k) = true) : nameOf s = !reserved s := by
 have : (List.range s.size).all (fun k => k == 0 || chrI (byteI s k)) = true := by
  rw [List.all_eq_true]
  intro k hk
  rw [List.mem_range] at hk
  by_cases h0 : k = 0
  ·simp [h0]
  ·simp [h4 k (by omega) hk]
 simp [nameOf, h1, h2, h3, this]
theorem name_no {s : ByteArray} (h : ¬(1 ≤ s.size ∧ s.size ≤ 16 ∧ letterI (byteI s 0) = true ∧ ∀ k, 1 ≤ k → k < s.size → chrI (byteI s k) = true)) : nameOf s = false := by
 rcases hn : nameOf s with _ | _
 ·rfl
 ·obtain ⟨a, b, c, d, _⟩ := name_false hn
  exact absurd ⟨a, b, c, d⟩ h
theorem chr_split (c : Int) : chrI c = (letterI c || c == 95 || (decide (48 ≤ c) && decide (c ≤ 57))) := rfl
def NameL (s : ByteArray) (i : Value) : Prop := ∃ k : Nat, i = .int .i64 k ∧ 1 ≤ k ∧ k ≤ s.size ∧ ∀ j, 1 ≤ j → j < k → chrI (byteI s j) = true
theorem isName_any (s : ByteArray) (w : World) (hm : ML w) : Calls Tryz.prog 50 #[.string s] w fun e w' => e = .returned (.bool (nameOf s)) ∧ w' = w := by
 by_cases h1 : 1 ≤ s.size
 ·by_cases h2 : s.size ≤ 16
  ·have e0 := byteI_at (s := s) (k := 0) h1
   have d0 : 0 < s.size := h1
   have d1 : ¬ ((s.size : Int) < 1) := by omega
   have d2 : ¬ (16 < (s.size : Int)) := by omega
   rcases hl : letterI (byteI s 0) with _ | _
   ·have hn : nameOf s = false := name_no (by rintro ⟨-, -, h3, -⟩; rw [hl] at h3; cases h3)
    have hl0 : letterI ((s[0]'h1).toNat : Int) = false := by rw [← e0]; exact hl
    clear hl
    go_enter Tryz.func50, Tryz.ntmps50
    go_wp2_with (first
     | (go_at_call 81; refine (letter_any _ _).mono ?_; rintro e w' ⟨rfl, hw⟩; subst hw))
    go_ret
    first | exact ⟨rfl, rfl⟩ | (rw [hn]; exact ⟨rfl, rfl⟩)
   ·have hl0 : letterI ((s[0]'h1).toNat : Int) = true := by rw [← e0]; exact hl
    go_enter Tryz.func50, Tryz.ntmps50
    go_wp2_with (first
     | (go_at_call 81; refine (letter_any _ _).mono ?_; rintro e w' ⟨rfl, hw⟩; subst hw))
    obtain ⟨wo, rfl⟩ : ∃ wo : World, wo = w' := ⟨_, rfl⟩
    go_loopw [2, 4, 5] (fun _ i _ wr => NameL s i ∧ wr = wo) (fun _ i _ _ => s.size - (intOf i).toNat)
    case atStart => exact ⟨⟨1, rfl, Nat.le_refl _, h1, fun j _ h => absurd h (by omega)⟩, rfl⟩
    case round =>
     obtain ⟨⟨k, rfl, hk1, hk2, hg⟩, rfl⟩ := hrel
     by_cases hlt : k < s.size
     ·have hi : (k : Int) < (s.size : Int) := by omega
      have hb := byteI_at hlt
      go_wp2_with (first
       | (go_at_call 81; refine (letter_any _ _).mono ?_; rintro e w' ⟨rfl, hw⟩; subst hw))
      all_goals first
       | (go_ret
          rw [name_no (by
           rintro ⟨-, -, -, h4⟩
           have h4k := h4 k hk1 hlt
           rw [hb, chr_split] at h4k
           simp_all
           try omega)]
          exact ⟨rfl, rfl⟩)
       | (have hc : chrI (byteI s k) = true := by
           rw [hb, chr_split]
           simp_all
           try omega
          go_roundw
          case measure => simp [intOf]; omega
          case rel => exact ⟨⟨k + 1, by go_num, by omega, by omega, fun j h1 h2 => by
           rcases Nat.lt_or_ge j k with h | h
           ·exact hg j h1 h
           ·rw [show j = k by omega]
            exact hc⟩, by first | trivial | rfl⟩)
     ·have hi : (s.size : Int) ≤ (k : Int) := by omega
      go_wp2_with (first
       | (go_at_call 82; refine (contains_any _ _ _ (by decide) (by assumption)).mono ?_; rintro e w' ⟨rfl, hw⟩; subst hw))
      go_ret
      rw [name_of h1 h2 hl (fun j a b => hg j a (by omega)), reserved]
      exact ⟨rfl, rfl⟩
  ·have hn : nameOf s = false := name_no (by rintro ⟨-, h2', -⟩; exact h2 h2')
   have d1 : ¬ ((s.size : Int) < 1) := by omega
   have d2 : 16 < (s.size : Int) := by omega
   go_enter Tryz.func50, Tryz.ntmps50
   go_wp2
   go_ret
   first | exact ⟨rfl, rfl⟩ | (rw [hn]; exact ⟨rfl, rfl⟩)
 ·have hn : nameOf s = false := name_no (by rintro ⟨h1', -⟩; exact h1 h1')
  have d1 : (s.size : Int) < 1 := by omega
  go_enter Tryz.func50, Tryz.ntmps50
  go_wp2
  go_ret
  first | exact ⟨rfl, rfl⟩ | (rw [hn]; exact ⟨rfl, rfl⟩)
end Go.Proofs.YtgegfbopogcjpaaGreatDoor
namespace Go.Proofs.YtgegfbopogcjpaaGreatDoor
open Go.RowKit
set_option linter.unusedVariables false
set_option linter.unusedSimpArgs false
set_option maxRecDepth 100000
inductive Nd where
 | mk (k : Int) (t : ByteArray) (num : Int) (kids : List Nd)
def Nd.k : Nd → Int | .mk k _ _ _ => k
def Nd.t : Nd → ByteArray | .mk _ t _ _ => t
def Nd.num : Nd → Int | .mk _ _ n _ => n
def Nd.kids : Nd → List Nd | .mk _ _ _ l => l
instance : Inhabited Nd := ⟨.mk 0 ⟨#[]⟩ 0 []⟩
def I64 (n : Int) : Prop := -9223372036854775808 ≤ n ∧ n ≤ 9223372036854775807
mutual
def RepN (w : World) : Nd → List Value → Prop
 | .mk k t num kids, cs => ∃ A c, cs = [.int .i64 k, .string t, .int .i64 num, .slice A kids.length c] ∧ RepNL w kids A ∧ kids.length ≤ c ∧ kids.length ≤ maxLen ∧ I64 num ∧ t.size ≤ maxLen
def RepNL (w : World) : List Nd → Option Addr → Prop
 | [], _ => True
 | n :: ns, A => ∃ b o cs, A = some ⟨b, o, none⟩ ∧ b < w.heap.size ∧ (∀ j v, cs[j]? = some v → w.cell? ⟨b, o + j, none⟩ = some v) ∧ RepN w n cs ∧ RepNL w ns (some ⟨b, o + 4, none⟩)
end
theorem RepN.four {w : World} {n : Nd} {cs : List Value} (h : RepN w n cs) : ∃ A c, cs = [.int .i64 n.k, .string n.t, .int .i64 n.num, .slice A n.kids.length c] ∧ RepNL w n.kids A ∧ n.kids.length ≤ c ∧ n.kids.length ≤ maxLen ∧ I64 n.num ∧ n.t.size ≤ maxLen := by
 cases n
 unfold RepN at h
 exact h
theorem RepN.of {w : World} {n : Nd} {A : Option Addr} {c : Nat} (h : RepNL w n.kids A) (hc : n.kids.length ≤ c) (hm : n.kids.length ≤ maxLen) (hn : I64 n.num) (ht : n.t.size ≤ maxLen) : RepN w n [.int .i64 n.k, .string n.t, .int .i64 n.num, .slice A n.kids.length c] := by
 cases n
 unfold RepN
 exact ⟨A, c, rfl, h, hc, hm, hn, ht⟩
mutual
theorem RepN.keep {w w' : World} (hb : Below w.heap.size w w') : ∀ (n : Nd) (cs : List Value), RepN w n cs → RepN w' n cs
 | .mk k t num kids, cs, h => by
  unfold RepN at h ⊢
  obtain ⟨A, c, rfl, h1, h2⟩ := h
  exact ⟨A, c, rfl, RepNL.keep hb kids A h1, h2⟩
theorem RepNL.keep {w w' : World} (hb : Below w.heap.size w w') : ∀ (ns : List Nd) (A : Option Addr), RepNL w ns A → RepNL w' ns A
 | [], _, _ => by unfold RepNL; trivial
 | n :: ns, A, h => by
  unfold RepNL at h ⊢
  obtain ⟨b, o, cs, rfl, hlt, hc, h1, h2⟩ := h
  exact ⟨b, o, cs, rfl, Nat.lt_of_lt_of_le hlt hb.size, fun j v hj => (hb.cell (p := ⟨b, o + j, none⟩) hlt).trans (hc j v hj), RepN.keep hb n cs h1, RepNL.keep hb ns _ h2⟩
end
theorem RepNL.at_ {w : World} : ∀ (ns : List Nd) (A : Option Addr), RepNL w ns A → ∀ (i : Nat) (h : i < ns.length), ∃ b o cs, A = some ⟨b, o, none⟩ ∧ b < w.heap.size ∧ (∀ j v, cs[j]? = some v → w.cell? ⟨b, o + i * 4 + j, none⟩ = some v) ∧ RepN w ns[i] cs
 | n :: ns, A, h, 0, _ => by
  unfold RepNL at h
  obtain ⟨b, o, cs, rfl, hlt, hc, h1, h2⟩ := h
  exact ⟨b, o, cs, rfl, hlt, by simpa using hc, h1⟩
 | n :: ns, A, h, i + 1, hi => by
  unfold RepNL at h
  obtain ⟨b, o, cs, rfl, hlt, hc, h1, h2⟩ := h
  obtain ⟨b', o', cs', hA, hlt', hc', h3⟩ := RepNL.at_ ns _ h2 i (by simpa using hi)
  obtain ⟨rfl, rfl⟩ : b = b' ∧ o + 4 = o' := by simpa using hA
  refine ⟨b, o, cs', rfl, hlt, fun j v hj => ?_, by simpa using h3⟩
  rw [show o + (i + 1) * 4 + j = o + 4 + i * 4 + j by omega]
  exact hc' j v hj
theorem RepNL.kid {w : World} {ns : List Nd} {A : Option Addr} (h : RepNL w ns A) {i : Nat} (hi : i < ns.length) : ∃ b o A' c', A = some ⟨b, o, none⟩ ∧ b < w.heap.size ∧
 w.cell? ⟨b, o + i * 4, none⟩ = some (.int .i64 ns[i].k) ∧ w.cell? ⟨b, o + i * 4 + 1, none⟩ = some (.string ns[i].t) ∧ w.cell? ⟨b, o + i * 4 + 2, none⟩ = some (.int .i64 ns[i].num) ∧ w.cell? ⟨b, o + i * 4 + 3, none⟩ = some (.slice A' ns[i].kids.length c') ∧
 RepNL w ns[i].kids A' ∧ ns[i].kids.length ≤ c' ∧ ns[i].kids.length ≤ maxLen ∧ I64 ns[i].num ∧ ns[i].t.size ≤ maxLen := by
 obtain ⟨b, o, cs, hA, hlt, hc, hr⟩ := RepNL.at_ ns A h i hi
 obtain ⟨A', c', rfl, h1, h2, h3⟩ := hr.four
 exact ⟨b, o, A', c', hA, hlt, hc 0 _ rfl, hc 1 _ rfl, hc 2 _ rfl, hc 3 _ rfl, h1, h2, h3⟩
theorem RepNL.drop {w : World} : ∀ (ns : List Nd) (A : Option Addr) (i : Nat), i ≤ ns.length → RepNL w ns A → ∃ A', RepNL w (ns.drop i) A' ∧ ((i < ns.length) → ∀ b o, A = some ⟨b, o, none⟩ → A' = some ⟨b, o + i * 4, none⟩)
 | ns, A, 0, _, h => ⟨A, by simpa using h, fun _ b o e => by simpa using e⟩
 | [], A, i + 1, hi, h => absurd hi (by simp)
 | n :: ns, A, i + 1, hi, h => by
  unfold RepNL at h
  obtain ⟨b, o, cs, rfl, hlt, hc, h1, h2⟩ := h
  obtain ⟨A', h3, h4⟩ := RepNL.drop ns _ i (by simpa using hi) h2
  refine ⟨A', by simpa using h3, fun hlt' b' o' e => ?_⟩
  obtain ⟨rfl, rfl⟩ : b = b' ∧ o = o' := by simpa using e
  rw [h4 (by simpa using hlt') b (o + 4) rfl]
  congr 2
  omega
theorem RepNL.take {w : World} : ∀ (ns : List Nd) (A : Option Addr) (i : Nat), RepNL w ns A → RepNL w (ns.take i) A
 | ns, A, 0, h => by simp [RepNL]
 | [], A, i + 1, h => by simp [RepNL]
 | n :: ns, A, i + 1, h => by
  unfold RepNL at h
  obtain ⟨b, o, cs, rfl, hlt, hc, h1, h2⟩ := h
  rw [List.take_succ_cons]
  unfold RepNL
  exact ⟨b, o, cs, rfl, hlt, hc, h1, RepNL.take ns _ i h2⟩
end Go.Proofs.YtgegfbopogcjpaaGreatDoor
namespace Go.Proofs.YtgegfbopogcjpaaGreatDoor
open Go.ChangeShapes Go.WideShapes Go.ChangeAt Go.RowKit
set_option linter.unusedVariables false
set_option linter.unusedSimpArgs false
set_option maxRecDepth 100000
section
variable {H : Type} {enc : TypeId × Value → H} {P : Program} {w : World}
theorem slice_readN {t e : TypeId} {fuel : Nat} {cs : List Value} {x : DataW H × List MemPlace} (ht : P.underlying t = some (.slice e)) (h : DataW.trod enc P w 0 (fun _ => true) true fuel t cs = some x) :
 cs = [.slice none 0 0] ∨ ∃ (a : Addr) (len cap n : Nat), fuel = n + 1 ∧ cs = [.slice (some a) len cap] ∧ len ≤ cap ∧ cap ≤ maxLen ∧
  ∀ i, i < len → ∃ cs' y, w.cells? 0 (a.add (i * P.cellsOf e)) (P.cellsOf e) = some cs' ∧ DataW.trod enc P w 0 (fun _ => true) true n e cs' = some y := by
 rcases DataW.trod_slice ht h with ⟨h0, -⟩ | ⟨a, len, cap, elems, rest, n, hf, rfl, -, -, hl, hm, hlen, hel, -, -⟩
 ·exact .inl h0
 ·refine .inr ⟨a, len, cap, n, hf, rfl, hl, hm, fun i hi => ?_⟩
  have := hel i hi
  rw [List.getElem?_eq_getElem (by omega), Option.bind_eq_some_iff] at this
  obtain ⟨cs', h1, h2⟩ := this
  exact ⟨cs', _, h1, h2⟩
end
theorem repNL_of {w : World} {b : Nat} (hb : b < w.heap.size) : ∀ (ts : List Nd) (o : Nat), (∀ i (h : i < ts.length), ∃ cs, (∀ j v, cs[j]? = some v → w.cell? ⟨b, o + i * 4 + j, none⟩ = some v) ∧ RepN w ts[i] cs) → RepNL w ts (some ⟨b, o, none⟩)
 | [], _, _ => by unfold RepNL; trivial
 | t :: ts, o, h => by
  unfold RepNL
  obtain ⟨cs, h1, h2⟩ := h 0 (by simp)
  refine ⟨b, o, cs, rfl, hb, by simpa using h1, h2, repNL_of hb ts (o + 4) fun i hi => ?_⟩
  obtain ⟨cs', h3, h4⟩ := h (i + 1) (by simpa using hi)
  refine ⟨cs', fun j v hj => ?_, by simpa using h4⟩
  rw [show o + 4 + i * 4 + j = o + (i + 1) * 4 + j by omega]
  exact h3 j v hj
theorem i64_wf {n : Int} (h : (Lit.int .i64 n).wf = true) : I64 n := by
 have a1 : IntKind.i64.min = -9223372036854775808 := rfl
 have a2 : IntKind.i64.max = 9223372036854775807 := rfl
 simp only [Lit.wf, Bool.and_eq_true, decide_eq_true_eq] at h
 unfold I64
 omega
theorem read_node {H : Type} {enc : TypeId × Value → H} {w : World} : ∀ (n : Nat) (cs : List Value) (y : DataW H × List MemPlace), DataW.trod enc Tryz.prog w 0 (fun _ => true) true n 24 cs = some y → ∃ T : Nd, RepN w T cs := by
 intro n
 induction n using Nat.strongRecOn with
 | ind n IH =>
  intro cs y h
  obtain ⟨xs, m, rfl, -, hl, hlen, hf⟩ := DataW.trod_struct Tryz.underlying24 h
  have hl5 : cs.length = 4 := hl
  match cs, hl5 with
  | [v0, v1, v2, v3], _ =>
   have c3 : Tryz.prog.cellsOf 3 = 1 := by kernel_rfl
   have c2 : Tryz.prog.cellsOf 2 = 1 := by kernel_rfl
   have c9 : Tryz.prog.cellsOf 9 = 1 := by kernel_rfl
   have cs2 : Tryz.prog.cellsOf 22 = 1 := by kernel_rfl
   have ct : Tryz.prog.cellsOf 24 = 4 := by kernel_rfl
   have hx5 : xs.length = 4 := hlen
   match xs, hx5 with
   | [x0, x1, x2, x3], _ =>
    have f0 := hf 0 _ rfl
    have f1 := hf 1 _ rfl
    have f2 := hf 2 _ rfl
    have f3 := hf 3 _ rfl
    simp [c3, c2, c9, cs2] at f0 f1 f2 f3
    obtain ⟨k, hk, -, -⟩ := DataW.trod_int Tryz.underlying3 f0
    obtain ⟨nm, hnm, -, hnl⟩ := DataW.trod_string Tryz.underlying9 f1
    obtain ⟨num, hnum, -, hnw⟩ := DataW.trod_int Tryz.underlying2 f2
    have hwn := i64_wf hnw
    simp at hk hnm hnum
    rcases slice_readN Tryz.underlying22 f3 with h3 | ⟨a, len, cap, n', rfl, h3, hle, hcap, hx⟩
    ·simp at h3
     subst hk hnm hnum h3
     exact ⟨.mk k nm num [], RepN.of (n := .mk k nm num []) (by show RepNL w [] none; unfold RepNL; trivial) (Nat.zero_le _) (Nat.zero_le _) hwn hnl⟩
    ·simp at h3
     subst hk hnm hnum h3
     rw [ct] at hx
     obtain ⟨X, hX⟩ := Go.Deep.choose_lt (α := Nd) (n := len) (p := fun i T => ∃ cs', w.cells? 0 (a.add (i * 4)) 4 = some cs' ∧ RepN w T cs') (fun i hi => by
      obtain ⟨cs', y', h1, h2⟩ := hx i hi
      obtain ⟨T, hT⟩ := IH n' (by omega) cs' y' h2
      exact ⟨T, cs', h1, hT⟩)
     have hlenX : ((List.range len).map X).length = len := by simp
     have hR : RepNL w ((List.range len).map X) (some a) := by
      rcases Nat.eq_zero_or_pos len with hz | hz
      ·subst hz
       show RepNL w [] (some a)
       unfold RepNL
       trivial
      ·obtain ⟨cs0, h0, hr0⟩ := hX 0 hz
       obtain ⟨_, hl0, hat⟩ := World.cells?_some h0
       have hc0 := hat 0 (by omega)
       rw [List.getElem?_eq_getElem (by omega)] at hc0
       obtain ⟨b, o, sp⟩ := a
       have hsp : sp = none := by simpa [Addr.add] using World.cell?_spot hc0
       subst hsp
       refine repNL_of (by have := World.block_lt_of_cell? w _ hc0; simpa [add_plain] using this) _ _ fun i hi => ?_
       obtain ⟨cs', h1, h2⟩ := hX i (by simpa using hi)
       obtain ⟨_, hl1, hat1⟩ := World.cells?_some h1
       refine ⟨cs', fun j v hj => ?_, by simpa using h2⟩
       have hj5 : j < 4 := by rw [← hl1]; exact (List.getElem?_eq_some_iff.1 hj).1
       have := hat1 j hj5
       rw [add_plain, add_plain] at this
       rw [this, hj]
     have := RepN.of (n := .mk k nm num ((List.range len).map X)) (c := cap) hR (by show ((List.range len).map X).length ≤ cap; rw [hlenX]; exact hle) (by show ((List.range len).map X).length ≤ maxLen; rw [hlenX]; omega) hwn hnl
     simp only [Nd.kids, hlenX, Nd.k, Nd.t, Nd.num] at this
     exact ⟨_, this⟩
end Go.Proofs.YtgegfbopogcjpaaGreatDoor
