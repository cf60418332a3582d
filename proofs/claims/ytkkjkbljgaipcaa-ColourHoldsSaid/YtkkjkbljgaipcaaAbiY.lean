/- What abi.Places answers, plain, and how it lies in memory. -/
import Derived.Test.YtkkjkbljgaipcaaAbiX
namespace Go.Proofs.Ytkkjkbljgaipcaa
open Go.RowKit
set_option linter.unusedVariables false
set_option linter.unusedSimpArgs false
set_option maxRecDepth 100000
structure Plc where
  res : Int
  cnt : Int
  pars : List (List Pl)
  cops : List Bool
  ress : List Nat
  area : Nat
  extra : Nat
def Plc.zero : Plc := ⟨0, 0, [], [], [], 0, 0⟩
/-- rows of places in memory, each at the head of a block of places, none of them block 'bad' -/
def SlOk (w : World) (bad : Option Nat) : List Value → List (List Pl) → Prop
  | [], [] => True
  | v :: vs, l :: ls => (∃ A c, v = .slice A l.length c ∧ TRow w 52 A (lcs l) ∧ (l ≠ [] → ∀ b o, A = some ⟨b, o, none⟩ → some b ≠ bad)) ∧ SlOk w bad vs ls
  | _, _ => False
theorem SlOk.len {w : World} {bad : Option Nat} : ∀ {vs : List Value} {ls : List (List Pl)}, SlOk w bad vs ls → vs.length = ls.length
  | [], [], _ => rfl
  | _ :: vs, _ :: ls, h => by simp [SlOk.len h.2]
  | [], _ :: _, h => h.elim
  | _ :: _, [], h => h.elim
theorem SlOk.snoc {w : World} {bad : Option Nat} : ∀ {vs : List Value} {ls : List (List Pl)} {v : Value} {l : List Pl}, SlOk w bad vs ls → (∃ A c, v = .slice A l.length c ∧ TRow w 52 A (lcs l) ∧ (l ≠ [] → ∀ b o, A = some ⟨b, o, none⟩ → some b ≠ bad)) → SlOk w bad (vs ++ [v]) (ls ++ [l])
  | [], [], _, _, _, h => ⟨h, trivial⟩
  | _ :: vs, _ :: ls, _, _, h1, h => ⟨h1.1, SlOk.snoc h1.2 h⟩
  | [], _ :: _, _, _, h, _ => h.elim
  | _ :: _, [], _, _, h, _ => h.elim
theorem lcs_nil {l : List Pl} (h : lcs l = []) : l = [] := by
  cases l with
  | nil => rfl
  | cons x l => simp [lcs, Pl.cells] at h
/-- what has only turned in block row keeps rows elsewhere -/
theorem TRow.but {w w' : World} {A : Option Addr} {l : List Pl} {row : Option Nat} (h : TRow w 52 A (lcs l)) (hg : w.grownBy w' row) (hne : ∀ b cur, Blk w b 52 cur → A = some ⟨b, 0, none⟩ → l ≠ [] → some b ≠ row) : TRow w' 52 A (lcs l) := by
  by_cases hl : l = []
  · subst hl; exact .inl rfl
  · rcases h with h | ⟨b, cur, hA, hb, ht⟩
    · exact absurd (lcs_nil h) hl
    · exact .inr ⟨b, cur, hA, hb.grown hg (hne b cur hb hA hl), ht⟩
theorem SlOk.but {w w' : World} {bad bad' row : Option Nat} (hg : w.grownBy w' row) (hrow : ∀ b cur, Blk w b 52 cur → some b ≠ bad → some b ≠ row) (hbad : ∀ b cur, Blk w b 52 cur → some b ≠ bad → some b ≠ bad') : ∀ {vs : List Value} {ls : List (List Pl)}, SlOk w bad vs ls → SlOk w' bad' vs ls
  | [], [], _ => trivial
  | v :: vs, l :: ls, h => by
    obtain ⟨⟨A, c, rfl, h1, h2⟩, h3⟩ := h
    refine ⟨⟨A, c, rfl, ?_, ?_⟩, SlOk.but hg hrow hbad h3⟩
    · exact h1.but hg (fun b cur hb hA hl => hrow b cur hb (h2 hl b 0 hA))
    · intro hl b o hA
      rcases h1 with h | ⟨b', cur, hA', hb, _⟩
      · exact absurd (lcs_nil h) hl
      · rw [hA] at hA'
        injection hA' with hA'
        injection hA' with e1 e2
        subst e1
        exact hbad _ cur hb (h2 hl _ _ hA)
  | [], _ :: _, h => h.elim
  | _ :: _, [], h => h.elim
theorem SlOk.keep {w w' : World} {bad : Option Nat} {vs : List Value} {ls : List (List Pl)} (h : SlOk w bad vs ls) (hb : Below w.heap.size w w') : SlOk w' bad vs ls :=
  SlOk.but (grow_below hb none) (fun b _ _ _ e => by cases e) (fun _ _ _ h => h) h
/-- what has turned in a block of another type keeps them -/
theorem SlOk.away {w w' : World} {bad : Option Nat} {vs : List Value} {ls : List (List Pl)} {p : Nat} {t : TypeId} {cs : Array Value} (h : SlOk w bad vs ls) (hg : w.grownBy w' (some p)) (hp : Blk w p t cs) (ht : t ≠ 52) : SlOk w' bad vs ls :=
  SlOk.but hg (fun b _ hb _ e => by injection e with e; exact Blk.ne_ hb hp (Ne.symm ht) e) (fun _ _ _ h => h) h
/-- what has turned in an own row of things of another type keeps them -/
theorem SlOk.aside {w w' : World} {bad : Option Nat} {vs : List Value} {ls : List (List Pl)} {base n size : Nat} {e : TypeId} {v : Value} {xs : List Value} (h : SlOk w bad vs ls) (ho : w.ownsRow base e size v n xs) (ht : e ≠ 52) (hg : w.grownBy w' v.ownBlock) : SlOk w' bad vs ls :=
  SlOk.but hg (fun b _ hb _ => own_blk ho hb ht) (fun _ _ _ h => h) h
theorem SlOk.free {w : World} {bad : Option Nat} {vs : List Value} {ls : List (List Pl)} (h : SlOk w bad vs ls) : SlOk w none vs ls :=
  SlOk.but (grow_below (Below.refl w.heap.size w) none) (fun b _ _ _ e => by cases e) (fun b _ _ _ e => by cases e) h
theorem SlOk.at_ {w : World} {bad : Option Nat} : ∀ {vs : List Value} {ls : List (List Pl)}, SlOk w bad vs ls → ∀ (i : Nat) (h : i < ls.length), ∃ A c, vs[i]? = some (.slice A ls[i].length c) ∧ Row w A (lcs ls[i])
  | v :: vs, l :: ls, h, 0, _ => by obtain ⟨⟨A, c, rfl, h1, -⟩, -⟩ := h; exact ⟨A, c, rfl, h1.row⟩
  | v :: vs, l :: ls, h, i + 1, hi => by
    obtain ⟨A, c, h1, h2⟩ := SlOk.at_ h.2 i (by simpa using hi)
    exact ⟨A, c, by simpa using h1, by simpa using h2⟩
  | [], [], _, _, h => by simp at h
  | [], _ :: _, h, _, _ => h.elim
/-- own rows of things of two types lie apart -/
theorem own_apart {w w' : World} {base base' n n' size size' : Nat} {e e' : TypeId} {v v' : Value} {xs xs' : List Value} (h : w.ownsRow base e size v n xs) (h' : w.ownsRow base' e' size' v' n' xs') (hne : e ≠ e') (hg : w.grownBy w' v'.ownBlock) : w'.ownsRow base e size v n xs :=
  h.kept hg (by
    cases hv : v.ownBlock with
    | none => exact .inl rfl
    | some b =>
      refine .inr ?_
      rcases h.2 with ⟨rfl, _⟩ | ⟨g, cap, cur, rfl, _, hb, _⟩
      · cases hv
      · simp only [Value.ownBlock] at hv
        injection hv with hv
        subst hv
        exact own_blk h' (show Blk w g e cur from hb) (Ne.symm hne))
/-- a places' answer in cells -/
def PlcAt (w : World) (cs : Array Value) (V : Plc) : Prop :=
  ∃ A1 c1 A2 c2 A3 c3 vs, cs = #[.int .i64 V.res, .int .i64 V.cnt, .slice A1 V.pars.length c1, .slice A2 V.cops.length c2, .slice A3 V.ress.length c3, .int .i64 (V.area : Int), .int .i64 (V.extra : Int)] ∧
    Row w A1 vs ∧ SlOk w none vs V.pars ∧ Row w A2 (V.cops.map .bool) ∧ Row w A3 (V.ress.map fun n : Nat => .int .i64 (n : Int))
theorem PlcAt.zero (w : World) : PlcAt w #[.int .i64 0, .int .i64 0, .slice none 0 0, .slice none 0 0, .slice none 0 0, .int .i64 0, .int .i64 0] Plc.zero :=
  ⟨none, 0, none, 0, none, 0, [], rfl, .inl rfl, trivial, .inl rfl, .inl rfl⟩
theorem PlcAt.keep {w w' : World} {cs : Array Value} {V : Plc} (h : PlcAt w cs V) (hb : Below w.heap.size w w') : PlcAt w' cs V := by
  obtain ⟨A1, c1, A2, c2, A3, c3, vs, h0, h1, h2, h3, h4⟩ := h
  exact ⟨A1, c1, A2, c2, A3, c3, vs, h0, h1.keep hb, h2.keep hb, h3.keep hb, h4.keep hb⟩
/-- may a type stand beyond? -/
noncomputable def beyT (T : Ty) : Bool := may T && (T.k == 1 || T.k == 2)
noncomputable def abiE (T : Ty) (bs : List Ty) : Int :=
  if T.k ≠ 4 ∨ may T = false then 3
  else if 6 < bs.length ∨ (0 < bs.length ∧ T.many = false) then 6
  else if bs.all beyT then 0 else 3
def bsum (bs : List Ty) : Nat := bs.foldl (fun n t => n + (sizeT t).1) 0
theorem bsum_take {bs : List Ty} {k : Nat} (h : k < bs.length) : bsum (bs.take (k + 1)) = bsum (bs.take k) + (sizeT bs[k]).1 := by
  rw [List.take_succ_eq_append_getElem h]
  unfold bsum
  rw [List.foldl_append]
  rfl
def lastT (T : Ty) : Ty := T.ps.getD (T.ps.length - 1) (.mk 0 ⟨#[]⟩ [] [] false)
/-- the giver behind the hidden words -/
def gvA (T : Ty) : Gv := if 2 < (sizeT (lastT T)).1 then ⟨1, 0⟩ else ⟨0, 0⟩
def gvB (T : Ty) : Gv := if T.many then (gvA T).next else gvA T
def abiG (T : Ty) : Plc :=
  let s := parK T.ps (gvB T) (T.ps.length - 1)
  ⟨if 2 < (sizeT (lastT T)).1 then 0 else -1, if T.many then ((gvA T).r : Int) else -1, s.1, s.2.1, if (sizeT (lastT T)).1 ≤ 2 then List.range (sizeT (lastT T)).1 else [], 0, if T.many then s.2.2.p + s.2.2.p % 2 else 0⟩
noncomputable def abiV (T : Ty) (bs : List Ty) : Plc :=
  if abiE T bs = 0 then
    let s := parK T.ps (gvB T) (T.ps.length - 1)
    let q := (if T.many then s.2.2.p + s.2.2.p % 2 else s.2.2.p) + bsum bs
    { abiG T with area := q + q % 2 }
  else Plc.zero
end Go.Proofs.Ytkkjkbljgaipcaa
