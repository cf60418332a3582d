/- What Parse answers, in plain words; there is always fuel enough. No program is in sight; What is printed is read back, 7: declarations, units, texts. No program is in sight; syntax.must, plain: what a node may have, or a panic; The printer: its words lie in a row of its own; say writes more of them. -/
import Derived.Test.YtgegfbopogcjpaaGreatDoorQ02
import Derived.Test.YtgegfbopogcjpaaGreatDoorQ05
import Derived.Test.YtgegfbopogcjpaaGreatDoorQ07
import Derived.WalkLawsBesides
import Derived.Lib.Hide
import Derived.Deep.CutRange
import Derived.IntWalk
import Derived.Maps.AppendAt
import Derived.Defers
import Derived.Recover
namespace Go.Proofs.YtgegfbopogcjpaaGreatDoor
set_option linter.unusedVariables false
set_option linter.unusedSimpArgs false
theorem Res.assoc_ {α β γ : Type} (r : Res α) (f : α → Nat → Res β) (g : β → Nat → Res γ) : (r.bind f).bind g = r.bind fun a j => (f a j).bind g := by cases r <;> rfl
def nd0 : Nd := .mk 0 ⟨#[]⟩ 0 []
structure Pa where
 n : Nd
 e : Int
 p : Nat
def unitR (L : List Tok) : Res Nd := unitM L (L.length + 1) (L.length + 1) [] 0
def paOf (e : Int) (p : Nat) (L : List Tok) (z : Nat) (R : Res Nd) : Pa :=
 if e ≠ 0 then ⟨nd0, e, p⟩ else match R with
 | .ok n _ => if fitsN n = true then ⟨n, 0, 0⟩ else ⟨nd0, 1, 0⟩
 | .bad j => ⟨nd0, 2, match L[j]? with | some t => t.p | none => z⟩
 | .dry => ⟨nd0, 0, 0⟩
def parseOf (s : ByteArray) : Pa := paOf (lexOf s).e (lexOf s).p (lexOf s).l s.size (unitR (lexOf s).l)
section
variable {L : List Tok}
def Wet {α : Type} (L : List Tok) (r : Res α) (i : Nat) : Prop := r ≠ .dry ∧ ∀ x j, r = .ok x j → i < j ∧ j ≤ L.length
def Wet0 {α : Type} (L : List Tok) (r : Res α) (i : Nat) : Prop := r ≠ .dry ∧ ∀ x j, r = .ok x j → i ≤ j ∧ j ≤ L.length
theorem Wet.weak {α : Type} {r : Res α} {i : Nat} (h : Wet L r i) : Wet0 L r i := ⟨h.1, fun x j e => ⟨by have := (h.2 x j e).1; omega, (h.2 x j e).2⟩⟩
theorem Wet0.less {α : Type} {r : Res α} {i k : Nat} (h : Wet0 L r i) (hk : k ≤ i) : Wet0 L r k := ⟨h.1, fun x j e => ⟨by have := (h.2 x j e).1; omega, (h.2 x j e).2⟩⟩
theorem Wet0.more {α : Type} {r : Res α} {i k : Nat} (h : Wet0 L r i) (hk : k < i) : Wet L r k := ⟨h.1, fun x j e => ⟨by have := (h.2 x j e).1; omega, (h.2 x j e).2⟩⟩
theorem Wet0.bind {α β : Type} {r : Res α} {f : α → Nat → Res β} {i : Nat} (h : Wet0 L r i) (hf : ∀ x j, i ≤ j → j ≤ L.length → Wet0 L (f x j) j) : Wet0 L (r.bind f) i := by
 cases r with
 | ok x j =>
  obtain ⟨h1, h2⟩ := h.2 x j rfl
  exact (hf x j h1 h2).less h1
 | bad j => exact ⟨by simp, fun x k e => by simp at e⟩
 | dry => exact absurd rfl h.1
theorem Wet.bind {α β : Type} {r : Res α} {f : α → Nat → Res β} {i : Nat} (h : Wet L r i) (hf : ∀ x j, i < j → j ≤ L.length → Wet0 L (f x j) j) : Wet L (r.bind f) i := by
 cases r with
 | ok x j =>
  obtain ⟨h1, h2⟩ := h.2 x j rfl
  exact (hf x j h1 h2).more h1
 | bad j => exact ⟨by simp, fun x k e => by simp at e⟩
 | dry => exact absurd rfl h.1
theorem wet_ok {α : Type} {x : α} {i j : Nat} (h : i < j) (hj : j ≤ L.length) : Wet L (.ok x j) i := ⟨by simp, fun y k e => by injection e with e1 e2; omega⟩
theorem wet0_ok {α : Type} {x : α} {i : Nat} (hj : i ≤ L.length) : Wet0 L (.ok x i) i := ⟨by simp, fun y k e => by injection e with e1 e2; omega⟩
theorem wet_bad {α : Type} {i j : Nat} : Wet L (.bad j : Res α) i := ⟨by simp, fun y k e => by cases e⟩
theorem tIs_in {s : ByteArray} {i : Nat} (h : tIs L s i = true) : i < L.length := by
 unfold tIs at h
 rcases Nat.lt_or_ge i L.length with h1 | h1
 ·exact h1
 ·rw [List.getElem?_eq_none h1] at h; cases h
theorem tNm_in {i : Nat} (h : tNm L i = true) : i < L.length := by
 unfold tNm at h
 rcases Nat.lt_or_ge i L.length with h1 | h1
 ·exact h1
 ·rw [List.getElem?_eq_none h1] at h; cases h
theorem tIn_in {ss : List ByteArray} {i : Nat} (h : tIn L ss i = true) : i < L.length := by
 unfold tIn at h
 obtain ⟨s, -, hs⟩ := List.any_eq_true.1 h
 exact tIs_in hs
theorem need_wet (s : ByteArray) (i : Nat) : Wet L (needM L s i) i := by
 unfold needM
 split
 ·rename_i h; exact wet_ok (by omega) (tIs_in h)
 ·exact wet_bad
theorem name_wet (i : Nat) : Wet L (nameM L i) i := by
 unfold nameM
 split
 ·rename_i h; exact wet_ok (by omega) (tNm_in h)
 ·exact wet_bad
theorem num_wet (i : Nat) : Wet L (numM L i) i := by
 unfold numM
 rcases hL : L[i]? with _ | t
 ·exact wet_bad
 ·have hi : i < L.length := by
   rcases Nat.lt_or_ge i L.length with h1 | h1
   ·exact h1
   ·rw [List.getElem?_eq_none h1] at hL; cases hL
  simp only
  split
  ·exact wet_ok (by omega) hi
  ·split
   ·exact wet_ok (by omega) hi
   ·exact wet_bad
def From_ (L : List Tok) (one : Nat → Res Nd) (i : Nat) : Prop := ∀ j, i ≤ j → j ≤ L.length → Wet L (one j) j
theorem From_.less {one : Nat → Res Nd} {i k : Nat} (h : From_ L one i) (hk : i ≤ k) : From_ L one k := fun j hj => h j (by omega)
theorem items_wet {one : Nat → Res Nd} {many : Bool} : ∀ (n : Nat) (l : List Nd) (i : Nat), From_ L one i → i ≤ L.length → L.length < n + i → Wet L (itemsM L one many n l i) i
 | 0, l, i, h, hi, hn => by omega
 | n + 1, l, i, h, hi, hn => by
  rw [itemsM]
  split
  ·rename_i hc; exact wet_ok (by omega) (tIs_in hc.2)
  ·split
   ·rename_i hc
    exact (((need_wet ⟨#[41]⟩ (i + 1)).weak.more (by omega)).bind fun _ k _ hk => wet0_ok hk)
   ·refine (h i (Nat.le_refl _) hi).bind fun x j hj hjl => ?_
    split
    ·rename_i hc
     have := tIs_in hc
     exact ((items_wet n (l ++ [x]) (j + 1) (h.less (by omega)) (by omega) (by omega)).weak.less (by omega))
    ·exact ((need_wet ⟨#[41]⟩ j).bind fun _ k _ hk => wet0_ok hk).weak
theorem list_wet {one : Nat → Res Nd} {many : Bool} {i : Nat} (h : From_ L one (i + 1)) (hi : i ≤ L.length) : Wet L (listM L one many i) i := by
 unfold listM needM
 split
 ·rename_i hc
  have := tIs_in hc
  simp only [Res.bind_ok]
  exact (items_wet _ [] (i + 1) h (by omega) (by omega)).weak.more (by omega)
 ·exact wet_bad
theorem typ_wet : ∀ (F i : Nat), i ≤ L.length → L.length < F + i → Wet L (typM L F i) i
 | 0, i, hi, hF => by omega
 | F + 1, i, hi, hF => by
  have IH : From_ L (typM L F) (i + 1) := fun j hj hjl => typ_wet F j hjl (by omega)
  rw [typM]
  split
  ·rename_i h; exact wet_ok (by omega) (tIs_in h)
  ·split
   ·rename_i h; exact wet_ok (by omega) (tIs_in h)
   ·split
    ·rename_i h
     have := tIs_in h
     refine Wet.bind ((list_wet (IH.less (by omega)) (by omega)).weak.more (by omega)) fun x j hj hjl => ?_
     exact ((IH j (by omega) hjl).bind fun r k _ hk => wet0_ok hk).weak
    ·exact (name_wet i).bind fun t j _ hj => wet0_ok hj
theorem param_wet (F i : Nat) (hi : i ≤ L.length) (hF : L.length < F + i) : Wet L (paramM L F i) i :=
 (typ_wet F i hi hF).bind fun t j _ hj => ((name_wet j).bind fun s k _ hk => wet0_ok hk).weak
theorem chain_wet {part : Nat → Res Nd} {sg : List ByteArray} : ∀ (n : Nat) (x : Nd) (i : Nat), From_ L part i → i ≤ L.length → L.length < n + i → Wet0 L (chainM L part sg n x i) i
 | 0, x, i, h, hi, hn => by omega
 | n + 1, x, i, h, hi, hn => by
  rw [chainM]
  split
  ·rename_i hc
   have := tIn_in hc
   exact ((h (i + 1) (by omega) (by omega)).weak.bind fun y j hj hjl => chain_wet n _ j (h.less (by omega)) hjl (by omega)).less (by omega)
  ·exact wet0_ok hi
theorem product_from {u : Nat → Res Nd} {i : Nat} (h : From_ L u i) : From_ L (productM L u) i := fun j hj hjl =>
 (h j hj hjl).bind fun x k hk hkl => chain_wet _ _ _ (h.less (by omega)) hkl (by omega)
theorem sum_from {u : Nat → Res Nd} {i : Nat} (h : From_ L u i) : From_ L (sumM L u) i := fun j hj hjl =>
 (product_from h j hj hjl).bind fun x k hk hkl => chain_wet _ _ _ ((product_from h).less (by omega)) hkl (by omega)
theorem expr_from {u : Nat → Res Nd} {i : Nat} (h : From_ L u i) : From_ L (exprM L u) i := fun j hj hjl => by
 refine (sum_from h j hj hjl).bind fun x k hk hkl => ?_
 split
 ·rename_i hc
  have := tIn_in hc
  exact ((sum_from h (k + 1) (by omega) (by omega)).bind fun y m _ hm => wet0_ok hm).weak.less (by omega)
 ·exact wet0_ok hkl
theorem round_wet {u : Nat → Res Nd} {i : Nat} (h : From_ L u (i + 1)) : Wet L (roundM L u i) i :=
 (need_wet _ i).bind fun _ j hj hjl => ((expr_from h j (by omega) hjl).bind fun x k _ hk => ((need_wet _ k).bind fun _ m _ hm => wet0_ok hm).weak).weak
theorem call_wet {u : Nat → Res Nd} {x : Nd} {i : Nat} (h : From_ L u (i + 1)) (hi : i ≤ L.length) : Wet L (callM L u x i) i :=
 (list_wet (expr_from h) hi).bind fun y j _ hj => wet0_ok hj
theorem made_wet {u : Nat → Res Nd} : ∀ (n : Nat) (l : List Nd) (i : Nat), From_ L u i → i ≤ L.length → L.length < n + i → Wet L (madeM L u n l i) i
 | 0, l, i, h, hi, hn => by omega
 | n + 1, l, i, h, hi, hn => by
  rw [madeM]
  split
  ·rename_i hc; exact wet_ok (by omega) (tIs_in hc.2)
  ·refine (expr_from h i (Nat.le_refl _) hi).bind fun x j hj hjl => ?_
   split
   ·rename_i hc
    have := tIs_in hc
    exact (made_wet n (l ++ [x]) (j + 1) (h.less (by omega)) (by omega) (by omega)).weak.less (by omega)
   ·exact ((need_wet _ j).bind fun _ k _ hk => wet0_ok hk).weak
theorem first_wet {u : Nat → Res Nd} {i : Nat} (h : From_ L u (i + 1)) : Wet L (firstM L u i) i := by
 unfold firstM
 have hr : ∀ {s : ByteArray} {k : Int}, tIs L s i = true → Wet L ((roundM L u (i + 1)).bind fun x j => .ok (oneM k x) j) i := fun {s k} hc => by
  exact ((round_wet (h.less (by omega))).weak.more (by omega)).bind fun x j _ hj => wet0_ok hj
 split
 ·exact round_wet h
 ·split
  ·exact ((name_wet (i + 1)).weak.more (by omega)).bind fun s j _ hj => wet0_ok hj
  ·split
   ·rename_i hc; exact hr hc
   ·split
    ·rename_i hc; exact hr hc
    ·split
     ·rename_i hc; exact wet_ok (by omega) (tIs_in hc)
     ·split
      ·rename_i hc; exact hr hc
      ·split
       ·rename_i hn
        have := tNm_in hn
        split
        ·rename_i hc
         have := tIs_in hc
         exact ((made_wet _ [] (i + 2) (h.less (by omega)) (by omega) (by omega)).weak.more (by omega)).bind fun l j _ hj => wet0_ok hj
        ·exact wet_ok (by omega) (by omega)
       ·exact num_wet i
theorem post_wet {u : Nat → Res Nd} : ∀ (n : Nat) (x : Nd) (i : Nat), From_ L u (i + 1) → i ≤ L.length → L.length < n + i → Wet0 L (postM L u n x i) i
 | 0, x, i, h, hi, hn => by omega
 | n + 1, x, i, h, hi, hn => by
  rw [postM]
  split
  ·rename_i hc
   have := tIs_in hc
   exact ((name_wet (i + 1)).weak.bind fun s j hj hjl => post_wet n _ j (h.less (by omega)) hjl (by omega)).less (by omega)
  ·split
   ·exact ((call_wet h hi).bind fun y j hj hjl => post_wet n y j (h.less (by omega)) hjl (by omega)).weak
   ·exact wet0_ok hi
theorem unary_wet : ∀ (F i : Nat), i ≤ L.length → L.length < F + i → Wet L (unaryM L F i) i
 | 0, i, hi, hF => by omega
 | F + 1, i, hi, hF => by
  have IH : From_ L (unaryM L F) (i + 1) := fun j hj hjl => unary_wet F j hjl (by omega)
  have hs : ∀ {s : ByteArray} {k : Int}, tIs L s i = true → Wet L ((unaryM L F (i + 1)).bind fun x j => .ok (oneM k x) j) i := fun {s k} hc => by
   have := tIs_in hc
   exact ((IH (i + 1) (by omega) (by omega)).weak.more (by omega)).bind fun x j _ hj => wet0_ok hj
  rw [unaryM]
  split
  ·rename_i hc; exact hs hc
  ·split
   ·rename_i hc; exact hs hc
   ·exact (first_wet IH).bind fun x j hj hjl => post_wet _ _ _ (IH.less (by omega)) hjl (by omega)
theorem unary_from (F i : Nat) (h : L.length < F + i) : From_ L (unaryM L F) i := fun j hj hjl => unary_wet F j hjl (by omega)
theorem exprF_wet (F i : Nat) (hi : i ≤ L.length) (h : L.length < F + i) : Wet L (exprF L F i) i := expr_from (unary_from F i h) i (Nat.le_refl _) hi
theorem closed_wet (x : Nd) (i : Nat) : Wet L (closedM L x i) i := (need_wet _ i).bind fun _ j _ hj => wet0_ok hj
theorem simple_wet (F : Nat) : ∀ (n : Nat) (called : Bool) (x : Nd) (i : Nat), i ≤ L.length → L.length < n + i → L.length < F + i + 1 → Wet L (simpleM L F n called x i) i
 | 0, called, x, i, hi, hn, hF => by omega
 | n + 1, called, x, i, hi, hn, hF => by
  rw [simpleM]
  split
  ·rename_i hc
   have := tIs_in hc
   exact ((name_wet (i + 1)).bind fun s j hj hjl => (simple_wet F n called _ j hjl (by omega) (by omega)).weak).weak.more (by omega)
  ·split
   ·exact (call_wet (unary_from F (i + 1) (by omega)) hi).bind fun y j hj hjl => (simple_wet F n true y j hjl (by omega) (by omega)).weak
   ·split
    ·rename_i hc
     have := tIs_in hc.2
     exact ((exprF_wet F (i + 1) (by omega) (by omega)).bind fun y j _ hj => (closed_wet _ j).weak).weak.more (by omega)
    ·split
     ·exact closed_wet _ i
     ·exact wet_bad
theorem blk_wet {st : Nat → Res Nd} : ∀ (n : Nat) (l : List Nd) (i : Nat), From_ L st i → i ≤ L.length → L.length < n + i → Wet L (blkM L st n l i) i
 | 0, l, i, h, hi, hn => by omega
 | n + 1, l, i, h, hi, hn => by
  rw [blkM]
  split
  ·rename_i hc; exact wet_ok (by omega) (tIs_in hc)
  ·exact (h i (Nat.le_refl _) hi).bind fun x j hj hjl => (blk_wet n (l ++ [x]) j (h.less (by omega)) hjl (by omega)).weak
theorem block_wet {st : Nat → Res Nd} {i : Nat} (h : From_ L st (i + 1)) : Wet L (blockM L st i) i :=
 (need_wet _ i).bind fun _ j hj hjl => (blk_wet _ [] j (h.less (by omega)) hjl (by omega)).weak
theorem stat_wet : ∀ (F i : Nat), i ≤ L.length → L.length + 1 < F + i → Wet L (statM L F i) i
 | 0, i, hi, hF => by omega
 | F + 1, i, hi, hF => by
  have IH : From_ L (statM L F) (i + 1) := fun j hj hjl => stat_wet F j hjl (by omega)
  have HU := unary_from (L := L) F (i + 1) (by omega)
  rw [statM]
  split
  ·rename_i hc
   refine ((round_wet (HU.less (by omega))).weak.more (by omega)).bind fun c j hj hjl => ?_
   refine ((block_wet (IH.less (by omega))).bind fun b k hk hkl => ?_).weak
   split
   ·exact ((block_wet (IH.less (by omega))).bind fun e m _ hm => wet0_ok hm).weak.less (by omega)
   ·exact wet0_ok hkl
  ·split
   ·exact ((round_wet (HU.less (by omega))).weak.more (by omega)).bind fun c j hj hjl => ((block_wet (IH.less (by omega))).bind fun b k _ hk => wet0_ok hk).weak
   ·split
    ·rename_i hc
     have := tIs_in hc
     exact ((exprF_wet F (i + 1) (by omega) (by omega)).weak.more (by omega)).bind fun x j _ hj => (closed_wet _ j).weak
    ·split
     ·exact ((round_wet (HU.less (by omega))).weak.more (by omega)).bind fun x j _ hj => (closed_wet _ j).weak
     ·split
      ·refine (typ_wet F i hi (by omega)).bind fun t j hj hjl => ((name_wet j).bind fun s k hk hkl => ((need_wet _ k).bind fun _ m hm hml => ?_).weak).weak
       exact ((exprF_wet F m hml (by omega)).bind fun x o _ ho => (closed_wet _ o).weak).weak
      ·exact (name_wet i).bind fun s j hj hjl => (simple_wet F _ _ _ j hjl (by omega) (by omega)).weak
theorem fields_wet (F : Nat) : ∀ (n : Nat) (l : List Nd) (i : Nat), i ≤ L.length → L.length < n + i → L.length < F + i → Wet L (fieldsM L F n l i) i
 | 0, l, i, hi, hn, hF => by omega
 | n + 1, l, i, hi, hn, hF => by
  rw [fieldsM]
  split
  ·rename_i hc; exact wet_ok (by omega) (tIs_in hc.2)
  ·exact (typ_wet F i hi hF).bind fun t j hj hjl => ((name_wet j).bind fun s k hk hkl => ((need_wet _ k).bind fun _ m hm hml => (fields_wet F n _ m hml (by omega) (by omega)).weak).weak).weak
theorem decl_wet (F i : Nat) (hi : i ≤ L.length) (hF : L.length < F + i) : Wet L (declM L F i) i := by
 have HP : ∀ k, i < k → From_ L (paramM L F) k := fun k hk j hj hjl => param_wet F j hjl (by omega)
 unfold declM
 split
 ·exact ((name_wet (i + 1)).weak.more (by omega)).bind fun s j hj hjl => ((need_wet _ j).bind fun _ k hk hkl => ((fields_wet F _ [] k hkl (by omega) (by omega)).bind fun l m _ hm => wet0_ok hm).weak).weak
 ·split
  ·rename_i hc
   have := tIs_in hc
   refine ((typ_wet F (i + 1) (by omega) (by omega)).weak.more (by omega)).bind fun t j hj hjl => ((name_wet j).bind fun s k hk hkl => ?_).weak
   split
   ·exact ((list_wet (HP _ (by omega)) hkl).bind fun x m _ hm => (closed_wet _ m).weak).weak
   ·exact (closed_wet _ k).weak
  ·have h0 : ∀ i0, i ≤ i0 → i0 ≤ L.length → Wet L ((typM L F i0).bind fun t j => (nameM L j).bind fun s k =>
    if tIs L ⟨#[40]⟩ k = true then (listM L (paramM L F) true k).bind fun x m => (blockF L F m).bind fun b o => .ok (.mk 7 s (flagN (tIs L ⟨#[115, 116, 97, 116, 105, 99]⟩ i) + 2 * flagN x.2) (x.1 ++ [t, b])) o
    else (needM L ⟨#[61]⟩ k).bind fun _ m => (numM L (if tIs L ⟨#[45]⟩ m = true then m + 1 else m)).bind fun x o => closedM L (.mk 6 s (flagN (tIs L ⟨#[115, 116, 97, 116, 105, 99]⟩ i)) [t, if tIs L ⟨#[45]⟩ m = true then .mk x.k x.t (-x.num) x.kids else x]) o) i0 := by
    intro i0 h1 h2
    refine (typ_wet F i0 h2 (by omega)).bind fun t j hj hjl => ((name_wet j).bind fun s k hk hkl => ?_).weak
    split
    ·refine ((list_wet (HP _ (by omega)) hkl).bind fun x m hm hml => ?_).weak
     exact ((block_wet (fun q hq hql => stat_wet F q hql (by omega))).bind fun b o _ ho => wet0_ok ho).weak
    ·refine ((need_wet _ k).bind fun _ m hm hml => ?_).weak
     have hn : Wet0 L (numM L (if tIs L ⟨#[45]⟩ m = true then m + 1 else m)) m := by
      split
      ·exact (num_wet (m + 1)).weak.less (by omega)
      ·exact (num_wet m).weak
     exact hn.bind fun x o _ ho => (closed_wet _ o).weak
   by_cases hst : tIs L ⟨#[115, 116, 97, 116, 105, 99]⟩ i = true
   ·have := tIs_in hst
    have h3 := (h0 (i + 1) (by omega) (by omega)).weak.more (k := i) (by omega)
    simp only [if_pos hst]
    exact h3
   ·have h3 := h0 i (Nat.le_refl _) hi
    simp only [if_neg hst]
    exact h3
theorem unit_wetN (F : Nat) : ∀ (n : Nat) (l : List Nd) (i : Nat), i ≤ L.length → L.length < n + i → L.length < F + i → unitM L F n l i ≠ .dry
 | 0, l, i, hi, hn, hF => by omega
 | n + 1, l, i, hi, hn, hF => by
  rw [unitM]
  split
  ·rename_i hlt
   rcases hd : declM L F i with ⟨x, j⟩ | j | _
   ·have := (decl_wet F i hi hF).2 x j hd
    simp only [Res.bind_ok]
    exact unit_wetN F n _ j this.2 (by omega) (by omega)
   ·simp
   ·exact absurd hd (decl_wet F i hi hF).1
  ·simp
theorem unit_wet (L : List Tok) : unitR L ≠ .dry := unit_wetN _ _ [] 0 (Nat.zero_le _) (by omega) (by omega)
end
end Go.Proofs.YtgegfbopogcjpaaGreatDoor
namespace Go.Proofs.YtgegfbopogcjpaaGreatDoor
set_option linter.unusedVariables false
set_option linter.unusedSimpArgs false
set_option maxRecDepth 100000
theorem isN_field {n : Nd} {k : Int} (hk : n.k = k) (h3 : k = 3 ∨ k = 5 ∨ k = 8) (hn : isN n false = true) : ∃ t a, n = .mk k t 0 [a] ∧ nameOf t = true ∧ cls a.k = 2 ∧ isN a false = true := by
 obtain ⟨k', t, num, kids⟩ := n
 have hk : k' = k := hk
 subst hk
 have hs : shp k' = some ⟨true, 0, 1, 1⟩ := by rcases h3 with rfl | rfl | rfl <;> rfl
 have v := isN_view hn hs
 obtain ⟨a, rfl⟩ := one_of v.least (by have := v.most; simpa using this)
 obtain rfl : num = 0 := num0 (k := k') (by rcases h3 with rfl | rfl | rfl <;> decide) v.num
 obtain ⟨p, q⟩ := v.kid 0 a rfl
 have hw : wantC k' 0 1 = (2, 0) := by rcases h3 with rfl | rfl | rfl <;> rfl
 have p : kidB (wantC k' 0 1) a.k = true := p
 have q : isN a (decide ((wantC k' 0 1).2 < 0)) = true := q
 rw [hw] at p q
 exact ⟨t, a, rfl, v.txt rfl, kid_cls p, q⟩
section
variable {L : List Tok}
theorem fields_back {F : Nat} : ∀ (ks : List Nd) (l : List Nd) (i g : Nat), (∀ k ∈ ks, k.k = 3 ∧ isN k false = true ∧ (shw k).length ≤ F) → (l = [] → ks ≠ []) →
 Hs L i ((ks.map shw).flatten ++ [⟨#[125]⟩]) → ks.length < g → fieldsM L F g l i = .ok (l ++ ks) (i + (ks.map shw).flatten.length + 1)
 | [], l, i, g, hk, h0, h, hg => by
  obtain ⟨g, rfl⟩ : ∃ m, g = m + 1 := ⟨g - 1, by omega⟩
  have h : Hs L i [⟨#[125]⟩] := h
  rw [fieldsM, if_pos ⟨fun e => h0 e rfl, by rw [h.is]; decide⟩, List.append_nil]
  rfl
 | k :: ks, l, i, g, hk, h0, h, hg => by
  obtain ⟨g, rfl⟩ : ∃ m, g = m + 1 := ⟨g - 1, by omega⟩
  obtain ⟨k1, k2, k3⟩ := hk k (by simp)
  obtain ⟨t, a, rfl, ht, ha, hb⟩ := isN_field k1 (.inl rfl) k2
  have hw : shw (.mk 3 t 0 [a]) = shw a ++ [t, ⟨#[59]⟩] := shw_eq _
  rw [flat_cons, hw, List.append_assoc, List.append_assoc] at h
  rw [hw] at k3
  obtain ⟨h1, h2⟩ := Hs.app.1 h
  have h2 : Hs L (i + (shw a).length) (t :: ⟨#[59]⟩ :: ((ks.map shw).flatten ++ [⟨#[125]⟩])) := h2
  simp only [List.length_append, List.length_cons, List.length_nil] at k3
  have e1 := typ_back _ a (Nat.le_refl _) ha hb F i h1 (by omega)
  rw [fieldsM, if_neg (fun e => by rw [typ_first e1 (by decide) (by decide) (by decide) (by decide)] at e; cases e.2), e1, Res.bind_ok, (h2.name ht).2.1, Res.bind_ok, h2.cons1.need (by decide), Res.bind_ok,
   fields_back ks (l ++ [Nd.mk 3 t 0 [a]]) _ g (fun x hx => hk x (by simp [hx])) (fun e => by simp at e) h2.cons1.cons1 (by simp at hg; omega), flat_cons, hw]
  simp only [List.append_assoc, List.cons_append, List.nil_append, List.length_append, List.length_cons, List.length_nil]
  congr 1
  omega
theorem param_back {F : Nat} {k : Nd} (hk : k.k = 8) (hn : isN k false = true) {i : Nat} (h : Hs L i (shw k)) (hF : (shw k).length ≤ F) : paramM L F i = .ok k (i + (shw k).length) := by
 obtain ⟨t, a, rfl, ht, ha, hb⟩ := isN_field hk (.inr (.inr rfl)) hn
 have hw : shw (.mk 8 t 0 [a]) = shw a ++ [t] := shw_eq _
 rw [hw] at h hF ⊢
 obtain ⟨h1, h2⟩ := Hs.app.1 h
 simp only [List.length_append, List.length_cons, List.length_nil] at hF ⊢
 unfold paramM
 rw [typ_back _ a (Nat.le_refl _) ha hb F i h1 (by omega), Res.bind_ok, (h2.name ht).2.1, Res.bind_ok]
 rfl
theorem param_lead {F i j : Nat} {x : Nd} (h : paramM L F i = .ok x j) : Lead L i := by
 obtain ⟨y, k, e, -⟩ := bind_okE h
 exact typ_lead e
theorem num_back {k num : Int} (hk : k = 21 ∨ k = 22) (hB : numB k num (-1) true = true) {i : Nat} {ws : List ByteArray} (h : Hs L i (numT k num ++ ws)) :
 tIs L ⟨#[45]⟩ i = decide (num < 0) ∧ numM L (if num < 0 then i + 1 else i) = .ok (.mk k ⟨#[]⟩ (num.natAbs : Int) []) (i + (numT k num).length) ∧ Hs L (i + (numT k num).length) ws := by
 have hm : num.natAbs ≤ 9223372036854775807 ∧ (k = 21 → num.natAbs ≤ 2147483647) := by
  simp only [numB, Bool.and_eq_true, Bool.or_eq_true, decide_eq_true_eq, Bool.not_eq_true', beq_eq_false_iff_ne] at hB
  obtain ⟨⟨⟨h1, h2⟩, -⟩, h4⟩ := hB
  refine ⟨by split at h1 <;> split at h2 <;> omega, fun e => ?_⟩
  rcases h4 with h4 | h4
  ·exact absurd e h4
  ·split at h1 <;> split at h4 <;> omega
 obtain ⟨w1, -, w3⟩ := num_word (k := k) (num := (num.natAbs : Int)) hk (by omega) (by omega) (fun e => by have := hm.2 e; omega) (w := ⟨(digsN num.natAbs ++ if k = 22 then [76] else []).toArray⟩) (by rw [Int.natAbs_natCast])
 rw [Int.natAbs_natCast] at w1 w3
 have key : ∀ j, Hs L j [⟨(digsN num.natAbs ++ if k = 22 then [76] else []).toArray⟩] → numM L j = .ok (.mk k ⟨#[]⟩ (num.natAbs : Int) []) (j + 1) := fun j hj => by
  obtain ⟨tk, ht, e⟩ := hj.1
  rw [w1] at e
  injection e with e1 e2
  unfold numM
  rw [ht]
  rcases hk with rfl | rfl
  ·have e1 : tk.k = 2 := e1
   simp only [e1, e2, w3, if_true]
  ·have e1 : tk.k = 3 := e1
   simp only [e1, e2, w3, if_true]
   rfl
 by_cases h0 : num < 0
 ·have e : numT k num = ⟨#[45]⟩ :: [⟨(digsN num.natAbs ++ if k = 22 then [76] else []).toArray⟩] := by unfold numT; rw [if_pos h0]; rfl
  rw [e] at h ⊢
  refine ⟨by rw [decide_eq_true h0, h.is]; decide, ?_, (Hs.app.1 h).2⟩
  rw [if_pos h0, key _ (Hs.app.1 h).1.cons1]
  rfl
 ·have e : numT k num = [⟨(digsN num.natAbs ++ if k = 22 then [76] else []).toArray⟩] := by unfold numT; rw [if_neg h0]; rfl
  rw [e] at h ⊢
  refine ⟨by rw [decide_eq_false h0, h.is, numW_no w1 (by rcases hk with rfl | rfl; exact .inl rfl; exact .inr rfl)], ?_, (Hs.app.1 h).2⟩
  rw [if_neg h0, key _ (Hs.app.1 h).1]
  rfl
theorem bak_last (kids : List Nd) (h : 1 ≤ kids.length) : ∃ m, kids = kids.dropLast ++ [m] ∧ kids[kids.length - 1]? = some m ∧ nthW (kids.map shw) ((kids.map shw).length - 1) = shw m := by
 obtain ⟨m, e1, e2⟩ := dropLast_getLast? kids h
 refine ⟨m, e1, e2, ?_⟩
 unfold nthW
 rw [List.length_map, List.getElem?_map, e2]
 rfl
theorem params_back {F : Nat} {ks : List Nd} {dots : Bool} (hk : ∀ x ∈ ks, x.k = 8 ∧ isN x false = true) {i : Nat} (h : Hs L i (rowW (ks.map shw) dots)) (hF : (rowW (ks.map shw) dots).length ≤ F) : listM L (paramM L F) true i = .ok (ks, dots) (i + (rowW (ks.map shw) dots).length) :=
 list_back (fun _ => rfl) (fun i x j e => param_lead e) ks (fun x hx e => by have := (hk x hx).1; rw [e] at this; revert this; decide) (fun x hx i w ws hh _ => param_back (hk x hx).1 (hk x hx).2 (Hs.app.1 hh).1 (by
  have := commas_sub ks (if dots = true then [[⟨#[46, 46, 46]⟩]] else []) hx
  unfold rowW at hF
  simp only [List.length_cons, List.length_append] at hF
  omega)) h
theorem static_back {num : Int} (h0 : 0 ≤ num) {i F : Nat} {a : Nd} {ws : List ByteArray} (ha : cls a.k = 2) (hb : isN a false = true) (h : Hs L i (statW num ++ (shw a ++ ws))) (hF : (shw a).length ≤ F) :
 tIs L ⟨#[115, 116, 114, 117, 99, 116]⟩ i = false ∧ tIs L ⟨#[101, 120, 116, 101, 114, 110]⟩ i = false ∧ tIs L ⟨#[115, 116, 97, 116, 105, 99]⟩ i = decide (num % 2 = 1) ∧ (if tIs L ⟨#[115, 116, 97, 116, 105, 99]⟩ i = true then i + 1 else i) = i + (statW num).length ∧ typM L F (i + (statW num).length) = .ok a (i + (statW num).length + (shw a).length) ∧ Hs L (i + (statW num).length + (shw a).length) ws := by
 obtain ⟨h1, h2⟩ := Hs.app.1 h
 obtain ⟨h3, h4⟩ := Hs.app.1 h2
 have e1 := typ_back _ a (Nat.le_refl _) ha hb F _ h3 hF
 by_cases hs : num % 2 = 1
 ·have e : statW num = [⟨#[115, 116, 97, 116, 105, 99]⟩] := by unfold statW; rw [if_pos hs]
  rw [e] at h1 e1 h4 ⊢
  refine ⟨by rw [h1.is]; decide, by rw [h1.is]; decide, by rw [h1.is, decide_eq_true hs]; decide, by rw [if_pos (by rw [h1.is]; decide)]; rfl, e1, h4⟩
 ·have e : statW num = [] := by unfold statW; rw [if_neg hs]
  rw [e] at h1 e1 h4 ⊢
  have hs2 : tIs L ⟨#[115, 116, 97, 116, 105, 99]⟩ i = false := typ_first e1 (by decide) (by decide) (by decide) (by decide)
  refine ⟨typ_first e1 (by decide) (by decide) (by decide) (by decide), typ_first e1 (by decide) (by decide) (by decide) (by decide), by rw [hs2, decide_eq_false hs], by rw [if_neg (by rw [hs2]; simp)]; rfl, e1, h4⟩
theorem decl_back (n : Nd) (hc : cls n.k = 1) (hn : isN n false = true) (F i : Nat) (h : Hs L i (shw n)) (hF : (shw n).length ≤ F) : declM L F i = .ok n (i + (shw n).length) := by
 obtain ⟨k, t, num, kids⟩ := n
 have hk : k = 2 ∨ k = 4 ∨ k = 5 ∨ k = 6 ∨ k = 7 := by
  have hc : cls k = 1 := hc
  unfold cls at hc
  repeat' split at hc
  all_goals omega
 rcases hk with rfl | rfl | rfl | rfl | rfl
 ·-- struct
  have v := isN_view hn (show shp 2 = some ⟨true, 0, 1, -1⟩ from rfl)
  obtain rfl : num = 0 := num0 (show (2 : Int) ≠ 21 by decide) v.num
  have ht : nameOf t = true := v.txt rfl
  have hkid : ∀ x ∈ kids, x.k = 3 ∧ isN x false = true := fun x hx => by
   obtain ⟨j, hj, e⟩ := List.getElem_of_mem hx
   obtain ⟨a, b⟩ := v.kid j x (by show kids[j]? = _; rw [List.getElem?_eq_getElem hj, e])
   exact ⟨kid_part (by decide) (by decide) a, b⟩
  have hne : kids ≠ [] := fun e => by have := v.least; rw [show (Nd.mk 2 t 0 kids).kids = kids from rfl, e] at this; simp at this
  have hw : shw (.mk 2 t 0 kids) = ⟨#[115, 116, 114, 117, 99, 116]⟩ :: t :: ⟨#[123]⟩ :: ((kids.map shw).flatten ++ [⟨#[125]⟩]) := shw_eq _
  rw [hw] at h hF ⊢
  have hlen : kids.length < L.length + 1 := by
   have a1 := flat_len_ge kids (fun x hx e => by have := (hkid x hx).1; rw [e] at this; revert this; decide)
   have a2 := h.le (by simp)
   simp only [List.length_cons, List.length_append, List.length_nil] at a2
   omega
  simp only [List.length_cons, List.length_append, List.length_nil] at hF ⊢
  unfold declM
  rw [if_pos (by rw [h.is]; decide), (h.cons1.name ht).2.1, Res.bind_ok, h.cons1.cons1.need (by decide), Res.bind_ok,
   fields_back kids [] _ (L.length + 1) (fun x hx => ⟨(hkid x hx).1, (hkid x hx).2, by have := flat_sub kids hx; omega⟩) (fun _ => hne) h.cons1.cons1.cons1 hlen, Res.bind_ok, List.nil_append]
  congr 1
  omega
 ·-- extern
  have v := isN_view hn (show shp 4 = some ⟨true, 1, 1, -1⟩ from rfl)
  have ht : nameOf t = true := v.txt rfl
  have hnum : num = 0 ∨ num = 1 := by
   have := v.num
   rw [show (Nd.mk 4 t num kids).k = 4 from rfl, numB_upto (by decide) (by decide) (by decide)] at this
   simp only [Bool.and_eq_true, decide_eq_true_eq] at this
   have h1 : 0 ≤ num := this.1
   have h2 : num ≤ 1 := this.2
   omega
  obtain ⟨m, hkl, hm?, hnw⟩ := bak_last kids v.least
  have hlen1 : 1 ≤ kids.length := v.least
  obtain ⟨ma, mb⟩ := v.kid (kids.length - 1) m hm?
  have hwm : wantC 4 (kids.length - 1) kids.length = (2, 0) := by
   show (if kids.length - 1 + 1 = kids.length then ((2 : Int), (0 : Int)) else (5, 8)) = _
   rw [if_pos (by omega)]
  have ma : kidB (wantC 4 (kids.length - 1) kids.length) m.k = true := ma
  have mb : isN m (decide ((wantC 4 (kids.length - 1) kids.length).2 < 0)) = true := mb
  rw [hwm] at ma mb
  have hd : ∀ x ∈ kids.dropLast, x.k = 8 ∧ isN x false = true := fun x hx => by
   obtain ⟨j, hj, e⟩ := List.getElem_of_mem hx
   rw [List.length_dropLast] at hj
   rw [List.getElem_dropLast] at e
   obtain ⟨a, b⟩ := v.kid j x (by show kids[j]? = _; rw [List.getElem?_eq_getElem (by omega), e])
   have hwj : wantC 4 j kids.length = (5, 8) := by
    show (if j + 1 = kids.length then ((2 : Int), (0 : Int)) else (5, 8)) = _
    rw [if_neg (by omega)]
   have a : kidB (wantC 4 j kids.length) x.k = true := a
   have b : isN x (decide ((wantC 4 j kids.length).2 < 0)) = true := b
   rw [hwj] at a b
   exact ⟨kid_part (by decide) (by decide) a, b⟩
  have hw : shw (.mk 4 t num kids) = ⟨#[101, 120, 116, 101, 114, 110]⟩ :: (shw m ++ (t :: (rowW (kids.dropLast.map shw) (num == 1) ++ [⟨#[59]⟩]))) := by
   rw [shw_eq]
   show ⟨#[101, 120, 116, 101, 114, 110]⟩ :: (nthW (kids.map shw) ((kids.map shw).length - 1) ++ [t] ++ rowW (kids.map shw).dropLast (num == 1) ++ [⟨#[59]⟩]) = _
   rw [hnw, List.map_dropLast]
   simp
  rw [hw] at h hF ⊢
  obtain ⟨h1, h2⟩ := Hs.app.1 h.cons1
  obtain ⟨h3, h4⟩ := Hs.app.1 h2.cons1
  simp only [List.length_cons, List.length_append, List.length_nil] at hF ⊢
  have h3' : Hs L (i + 1 + (shw m).length + 1) (⟨#[40]⟩ :: (commas (kids.dropLast.map shw ++ if (num == 1) = true then [[⟨#[46, 46, 46]⟩]] else []) ++ [⟨#[41]⟩])) := h3
  unfold declM
  rw [if_neg (by rw [h.is]; decide), if_pos (by rw [h.is]; decide), typ_back _ m (Nat.le_refl _) (kid_cls ma) mb F _ h1 (by omega), Res.bind_ok, (h2.name ht).2.1, Res.bind_ok, if_pos (by rw [h3'.is]; decide), params_back hd h3 (by omega), Res.bind_ok, closed_back h4]
  have e1 : flagN (num == 1) = num := by rcases hnum with rfl | rfl <;> rfl
  simp only [e1, ← hkl]
  congr 1
  omega
 ·-- outside
  obtain ⟨t', a, e, ht, ha, hb⟩ := isN_field (n := .mk 5 t num kids) rfl (.inr (.inl rfl)) hn
  injection e with _ e1 e2 e3
  subst e1 e2 e3
  have hw : shw (.mk 5 t 0 [a]) = ⟨#[101, 120, 116, 101, 114, 110]⟩ :: (shw a ++ [t, ⟨#[59]⟩]) := shw_eq _
  rw [hw] at h hF ⊢
  obtain ⟨h1, h2⟩ := Hs.app.1 h.cons1
  simp only [List.length_cons, List.length_append, List.length_nil] at hF ⊢
  unfold declM
  rw [if_neg (by rw [h.is]; decide), if_pos (by rw [h.is]; decide), typ_back _ a (Nat.le_refl _) ha hb F _ h1 (by omega), Res.bind_ok, (h2.name ht).2.1, Res.bind_ok, if_neg (by rw [h2.cons1.is]; decide), closed_back h2.cons1]
  congr 1
  omega
 ·-- a global
  have v := isN_view hn (show shp 6 = some ⟨true, 1, 2, 2⟩ from rfl)
  have ht : nameOf t = true := v.txt rfl
  have hnum : num = 0 ∨ num = 1 := by
   have := v.num
   rw [show (Nd.mk 6 t num kids).k = 6 from rfl, numB_upto (by decide) (by decide) (by decide)] at this
   simp only [Bool.and_eq_true, decide_eq_true_eq] at this
   have h1 : 0 ≤ num := this.1
   have h2 : num ≤ 1 := this.2
   omega
  obtain ⟨a, b, rfl⟩ := two_of v.least v.most
  obtain ⟨ka, kb⟩ := v.kid 0 a rfl
  obtain ⟨la, lb⟩ := v.kid 1 b rfl
  have la : kidB (4, -1) b.k = true := la
  have lb : isN b true = true := lb
  have hbk : b.k = 21 ∨ b.k = 22 := by
   simp only [kidB, Bool.and_eq_true, Bool.or_eq_true, decide_eq_true_eq, beq_iff_eq] at la
   rcases la.2 with h | h
   ·omega
   ·exact h
  obtain ⟨bk, bt, bn, bks⟩ := b
  have hbk : bk = 21 ∨ bk = 22 := hbk
  have vb := isN_view lb (show shp bk = some ⟨false, -1, 0, 0⟩ by rcases hbk with rfl | rfl <;> rfl)
  obtain rfl : bks = [] := List.eq_nil_of_length_eq_zero (by have := vb.most; simp [Nd.kids] at this; simp [this])
  obtain rfl : bt = ⟨#[]⟩ := vb.notxt rfl
  have hwb : shw (.mk bk ⟨#[]⟩ bn []) = numT bk bn := by rw [shw_eq]; rcases hbk with rfl | rfl <;> rfl
  have hw : shw (.mk 6 t num [a, .mk bk ⟨#[]⟩ bn []]) = statW num ++ (shw a ++ (t :: ⟨#[61]⟩ :: (numT bk bn ++ [⟨#[59]⟩]))) := by
   rw [shw_eq]
   show statW num ++ shw a ++ [t, ⟨#[61]⟩] ++ shw (.mk bk ⟨#[]⟩ bn []) ++ [⟨#[59]⟩] = _
   rw [hwb]
   simp
  rw [hw] at h hF ⊢
  simp only [List.length_cons, List.length_append, List.length_nil] at hF ⊢
  obtain ⟨s1, s2, s3, s4, s5, h2⟩ := static_back (F := F) (by omega) (kid_cls ka) kb h (by omega)
  obtain ⟨n1, n2, n3⟩ := num_back (k := bk) (num := bn) hbk vb.num h2.cons1.cons1
  unfold declM
  rw [if_neg (by rw [s1]; simp), if_neg (by rw [s2]; simp)]
  dsimp only
  rw [s4, s5, Res.bind_ok, (h2.name ht).2.1, Res.bind_ok, if_neg (by rw [h2.cons1.is]; decide), h2.cons1.need (by decide), Res.bind_ok, n1]
  have e1 : flagN (tIs L ⟨#[115, 116, 97, 116, 105, 99]⟩ i) = num := by rw [s3]; rcases hnum with rfl | rfl <;> rfl
  by_cases h0 : bn < 0
  ·rw [if_pos (by rw [decide_eq_true h0])]
   rw [if_pos h0] at n2
   rw [n2, Res.bind_ok, closed_back n3, if_pos (by rw [decide_eq_true h0]), e1]
   simp only [Nd.k, Nd.t, Nd.num, Nd.kids]
   rw [show -(bn.natAbs : Int) = bn by omega]
   congr 1
   omega
  ·rw [if_neg (by rw [decide_eq_false h0]; simp)]
   rw [if_neg h0] at n2
   rw [n2, Res.bind_ok, closed_back n3, if_neg (by rw [decide_eq_false h0]; simp), e1]
   rw [show (bn.natAbs : Int) = bn by omega]
   congr 1
   omega
 ·-- a function
  have v := isN_view hn (show shp 7 = some ⟨true, 3, 2, -1⟩ from rfl)
  have ht : nameOf t = true := v.txt rfl
  have hnum : num = 0 ∨ num = 1 ∨ num = 2 ∨ num = 3 := by
   have := v.num
   rw [show (Nd.mk 7 t num kids).k = 7 from rfl, numB_upto (by decide) (by decide) (by decide)] at this
   simp only [Bool.and_eq_true, decide_eq_true_eq] at this
   have h1 : 0 ≤ num := this.1
   have h2 : num ≤ 3 := this.2
   omega
  have hlen2 : 2 ≤ kids.length := v.least
  obtain ⟨b, hkl, hb?, hnw⟩ := bak_last kids (by omega)
  obtain ⟨a, hkl2, ha?, hnw2⟩ := bak_last kids.dropLast (by rw [List.length_dropLast]; omega)
  have ha? : kids[kids.length - 2]? = some a := by
   rw [List.length_dropLast, List.getElem?_dropLast, if_pos (by omega)] at ha?
   rwa [show kids.length - 1 - 1 = kids.length - 2 by omega] at ha?
  have hnwa : nthW (kids.map shw) ((kids.map shw).length - 2) = shw a := by
   unfold nthW
   rw [List.length_map, List.getElem?_map, ha?]
   rfl
  have hwant : ∀ j, wantC 7 j kids.length = if j + 1 = kids.length then (5, 13) else if j + 2 = kids.length then (2, 0) else (5, 8) := fun j => rfl
  obtain ⟨ba, bb⟩ := v.kid (kids.length - 1) b hb?
  obtain ⟨aa, ab⟩ := v.kid (kids.length - 2) a ha?
  have ba : kidB (wantC 7 (kids.length - 1) kids.length) b.k = true := ba
  have bb : isN b (decide ((wantC 7 (kids.length - 1) kids.length).2 < 0)) = true := bb
  have aa : kidB (wantC 7 (kids.length - 2) kids.length) a.k = true := aa
  have ab : isN a (decide ((wantC 7 (kids.length - 2) kids.length).2 < 0)) = true := ab
  rw [hwant, if_pos (by omega)] at ba bb
  rw [hwant, if_neg (by omega), if_pos (by omega)] at aa ab
  have hd : ∀ x ∈ kids.dropLast.dropLast, x.k = 8 ∧ isN x false = true := fun x hx => by
   obtain ⟨j, hj, e⟩ := List.getElem_of_mem hx
   rw [List.length_dropLast, List.length_dropLast] at hj
   rw [List.getElem_dropLast, List.getElem_dropLast] at e
   obtain ⟨p, q⟩ := v.kid j x (by show kids[j]? = _; rw [List.getElem?_eq_getElem (by omega), e])
   have p : kidB (wantC 7 j kids.length) x.k = true := p
   have q : isN x (decide ((wantC 7 j kids.length).2 < 0)) = true := q
   rw [hwant, if_neg (by omega), if_neg (by omega)] at p q
   exact ⟨kid_part (by decide) (by decide) p, q⟩
  have hw : shw (.mk 7 t num kids) = statW num ++ (shw a ++ (t :: (rowW (kids.dropLast.dropLast.map shw) (decide (2 ≤ num)) ++ shw b))) := by
   rw [shw_eq]
   show statW num ++ nthW (kids.map shw) ((kids.map shw).length - 2) ++ [t] ++ rowW (kids.map shw).dropLast.dropLast (decide (2 ≤ num)) ++ nthW (kids.map shw) ((kids.map shw).length - 1) = _
   rw [hnw, hnwa, List.map_dropLast, List.map_dropLast]
   simp
  rw [hw] at h hF ⊢
  simp only [List.length_cons, List.length_append, List.length_nil] at hF ⊢
  obtain ⟨s1, s2, s3, s4, s5, h2⟩ := static_back (F := F) (by omega) (kid_cls aa) ab h (by omega)
  obtain ⟨h3, h4⟩ := Hs.app.1 h2.cons1
  have h3' : Hs L (i + (statW num).length + (shw a).length + 1) (⟨#[40]⟩ :: (commas (kids.dropLast.dropLast.map shw ++ if (decide (2 ≤ num)) = true then [[⟨#[46, 46, 46]⟩]] else []) ++ [⟨#[41]⟩])) := h3
  have hbl := block_back (L := L) (F := F) (kid_part (by decide) (by decide) ba) bb (fun x hx i c1 c2 hh hl he => stat_back _ x (Nat.le_refl _) c1 c2 F i hh (by omega) he) h4
  unfold declM
  rw [if_neg (by rw [s1]; simp), if_neg (by rw [s2]; simp)]
  dsimp only
  rw [s4, s5, Res.bind_ok, (h2.name ht).2.1, Res.bind_ok, if_pos (by rw [h3'.is]; decide), params_back hd h3 (by omega), Res.bind_ok]
  unfold blockF
  rw [hbl, Res.bind_ok]
  have e1 : flagN (tIs L ⟨#[115, 116, 97, 116, 105, 99]⟩ i) + 2 * flagN (decide (2 ≤ num)) = num := by rw [s3]; rcases hnum with rfl | rfl | rfl | rfl <;> rfl
  have e2 : kids.dropLast.dropLast ++ [a, b] = kids := by
   have : kids.dropLast.dropLast ++ [a, b] = (kids.dropLast.dropLast ++ [a]) ++ [b] := by simp
   rw [this, ← hkl2, ← hkl]
  simp only [e1, e2]
  congr 1
  omega
theorem unit_back {F : Nat} : ∀ (ks : List Nd) (l : List Nd) (i g : Nat), (∀ k ∈ ks, cls k.k = 1 ∧ isN k false = true ∧ (shw k).length ≤ F) → Hs L i (ks.map shw).flatten → i + (ks.map shw).flatten.length = L.length → ks.length < g → unitM L F g l i = .ok (.mk 1 ⟨#[]⟩ 0 (l ++ ks)) L.length
 | [], l, i, g, hk, h, hi, hg => by
  obtain ⟨g, rfl⟩ : ∃ m, g = m + 1 := ⟨g - 1, by omega⟩
  have hi : i = L.length := by simpa using hi
  rw [unitM, if_neg (by omega), List.append_nil, hi]
 | k :: ks, l, i, g, hk, h, hi, hg => by
  obtain ⟨g, rfl⟩ : ∃ m, g = m + 1 := ⟨g - 1, by omega⟩
  obtain ⟨k1, k2, k3⟩ := hk k (by simp)
  rw [flat_cons] at h hi
  rw [List.length_append] at hi
  obtain ⟨h1, h2⟩ := Hs.app.1 h
  have hp := shw_pos (n := k) (fun e => by rw [e] at k1; revert k1; decide)
  rw [unitM, if_pos (by omega), decl_back k k1 k2 F i h1 k3, Res.bind_ok, unit_back ks (l ++ [k]) _ g (fun x hx => hk x (by simp [hx])) h2 (by omega) (by simp at hg; omega)]
  simp
end
theorem hs_of {L : List Tok} {ws : List ByteArray} : ∀ (i : Nat), (L.drop i).map (fun t => (t.k, t.s)) = ws.map tkW → Hs L i ws := by
 induction ws with
 | nil => intro i _; trivial
 | cons w ws ih =>
  intro i h
  rcases hd : L.drop i with _ | ⟨t, r⟩
  ·rw [hd] at h; cases h
  ·rw [hd] at h
   injection h with h1 h2
   have hi : L[i]? = some t := by rw [← List.head?_drop, hd]; rfl
   refine ⟨⟨t, hi, h1⟩, ih (i + 1) ?_⟩
   rw [← List.tail_drop, hd]
   exact h2
theorem join_rend : ∀ (ws : List ByteArray), (∀ w ∈ ws, WOk w) → joinW ws = rendJ (ws.map fun w => ⟨(tkW w).1, (tkW w).2, 0⟩)
 | [], _ => rfl
 | [w], h => (h w (by simp)).2
 | w :: v :: ws, h => by
  show w.data.toList ++ 32 :: joinW (v :: ws) = _
  rw [join_rend (v :: ws) (fun x hx => h x (List.mem_cons_of_mem _ hx)), (h w (by simp)).2]
  rfl
theorem parse_print {n : Nd} (h : printE n = 0) : parseOf (printT n) = ⟨n, 0, 0⟩ := by
 have hp : fitsN n = true ∧ n.k = 1 ∧ isN n false = true ∧ (joinW (shw n)).length ≤ 4000 := by
  unfold printE at h
  split at h
  ·cases h
  ·rename_i h1
   split at h
   ·cases h
   ·rename_i h2
    split at h
    ·cases h
    ·rename_i h3
     have h2 := Classical.not_not.1 h2
     exact ⟨by simpa using h1, h2.1, h2.2, by omega⟩
 have hT : printT n = ⟨(joinW (shw n)).toArray⟩ := by unfold printT; rw [if_pos hp]
 obtain ⟨hf, hk, hn, hl⟩ := hp
 have hgood := shw_good _ n (Nat.le_refl _) false hn
 have hsz : (printT n).size ≤ 4000 := by rw [hT]; simpa [ByteArray.size] using hl
 obtain ⟨l', e1, e2⟩ := lex_joined ((shw n).map fun w => ⟨(tkW w).1, (tkW w).2, 0⟩) (fun t ht => by
  obtain ⟨w, hw, rfl⟩ := List.mem_map.1 ht
  exact (hgood w hw).1) (printT n) 0 [] (Nat.zero_le _) (by rw [List.drop_zero, hT, ← join_rend _ hgood])
 have hlex : lexOf (printT n) = ⟨l', 0, 0⟩ := by
  unfold lexOf
  rw [if_neg (by omega), e1]
  rfl
 have e2 : l'.map (fun t => (t.k, t.s)) = (shw n).map tkW := by
  rw [e2, List.map_map]
  rfl
 have hlen : l'.length = (shw n).length := by have := congrArg List.length e2; simpa using this
 obtain ⟨k, t, num, kids⟩ := n
 have hk : k = 1 := hk
 subst hk
 have v := isN_view hn (show shp 1 = some ⟨false, 0, 0, -1⟩ from rfl)
 obtain rfl : num = 0 := num0 (show (1 : Int) ≠ 21 by decide) v.num
 obtain rfl : t = ⟨#[]⟩ := v.notxt rfl
 have hkid : ∀ x ∈ kids, cls x.k = 1 ∧ isN x false = true := fun x hx => by
  obtain ⟨j, hj, e⟩ := List.getElem_of_mem hx
  obtain ⟨a, b⟩ := v.kid j x (by show kids[j]? = _; rw [List.getElem?_eq_getElem hj, e])
  exact ⟨kid_cls a, b⟩
 have hw : shw (.mk 1 ⟨#[]⟩ 0 kids) = (kids.map shw).flatten := shw_eq _
 rw [hw] at e2 hlen
 have hs : Hs l' 0 (kids.map shw).flatten := hs_of 0 (by rw [List.drop_zero]; exact e2)
 have hu : unitR l' = .ok (.mk 1 ⟨#[]⟩ 0 kids) l'.length := by
  unfold unitR
  rw [unit_back kids [] 0 (l'.length + 1) (fun x hx => ⟨(hkid x hx).1, (hkid x hx).2, by have := flat_sub kids hx; omega⟩) hs (by omega) (by have := flat_len_ge kids (fun x hx e => by have := (hkid x hx).1; rw [e] at this; revert this; decide); omega)]
  rfl
 unfold parseOf
 rw [hlex]
 unfold paOf
 rw [if_neg (by simp), hu]
 simp only [hf, if_true]
end Go.Proofs.YtgegfbopogcjpaaGreatDoor
namespace Go.Proofs.YtgegfbopogcjpaaGreatDoor
open Go.RowKit
set_option linter.unusedVariables false
set_option linter.unusedSimpArgs false
set_option maxRecDepth 100000
set_option maxHeartbeats 1000000
def noneE : Ending := .panicked [{ v := .iface 52 (.agg #[]), recovered := false }]
def MuOut (b : Bool) (w : World) (e : Ending) (w' : World) : Prop := (b = true ∧ e = .returned (.tuple #[]) ∨ b = false ∧ e = noneE) ∧ w = w'
theorem must_any (b : Bool) (w : World) : Calls Tryz.prog 18 #[.bool b] w (MuOut b w) := by
 rcases Bool.eq_false_or_eq_true b with h | h
 ·subst h
  go_enter Tryz.func18, Tryz.ntmps18
  go_wp2
  go_end0
  exact ⟨.inl ⟨rfl, rfl⟩, rfl⟩
 ·subst h
  go_enter Tryz.func18, Tryz.ntmps18
  go_wp2
  exact ⟨rfl, .inr ⟨rfl, rfl⟩, rfl⟩
def PlOut (b : Bool) (w : World) (e : Ending) (w' : World) : Prop := (b = true ∧ e = .returned (.tuple #[]) ∨ b = false ∧ e = noneE) ∧ Below w.heap.size w w'
theorem plain_any (n : Nd) (A : Option Addr) (c : Nat) (text num : Bool) (least most : Int) (w : World) (hm : ML w) :
 Calls Tryz.prog 19 #[.agg #[.int .i64 n.k, .string n.t, .int .i64 n.num, .slice A n.kids.length c], .bool text, .bool num, .int .i64 least, .int .i64 most] w (PlOut (plainB n text num least most) w) := by
 obtain ⟨b1, hb1⟩ : ∃ b, n.t.toList.isEmpty = b := ⟨_, rfl⟩
 obtain ⟨b2, hb2⟩ : ∃ b, (n.num == 0) = b := ⟨_, rfl⟩
 obtain ⟨b3, hb3⟩ : ∃ b, decide (least ≤ (n.kids.length : Int)) = b := ⟨_, rfl⟩
 obtain ⟨b4, hb4⟩ : ∃ b, decide (most < 0) = b := ⟨_, rfl⟩
 obtain ⟨b5, hb5⟩ : ∃ b, decide ((n.kids.length : Int) ≤ most) = b := ⟨_, rfl⟩
 obtain ⟨b6, hb6⟩ : ∃ b, nameOf n.t = b := ⟨_, rfl⟩
 have HV : Hid (plainB n text num least most = ((text || b1) && (num || b2) && b3 && (b4 || b5) && (!text || b6))) := by show _ = _; unfold plainB; rw [hb1, hb2, hb3, hb4, hb5, hb6]
 generalize plainB n text num least most = V at *
 have HN := Lib.hid hb6
 clear hb6
 have hm2 : ML (w.alloc (.cells #[.int .i64 n.k, .string n.t, .int .i64 n.num, .slice A n.kids.length c] 24)) := hm.keep (by (repeat (first | with_reducible assumption | with_reducible exact Below.refl _ _ | (refine Below.setCell ?_ (by first | omega | (simp; done) | (simp; omega)) _) | (refine Below.drewN_ ?_ _) | (refine Below.drew ?_) | (refine Below.alloc ?_ (by first | omega | (simp; done) | (simp; omega)) _))))
 have HM := Lib.hid hm2
 clear hm hm2
 have hB : Below w.heap.size w (w.alloc (.cells #[.int .i64 n.k, .string n.t, .int .i64 n.num, .slice A n.kids.length c] 24)) := by (repeat (first | with_reducible assumption | with_reducible exact Below.refl _ _ | (refine Below.setCell ?_ (by first | omega | (simp; done) | (simp; omega)) _) | (refine Below.drewN_ ?_ _) | (refine Below.drew ?_) | (refine Below.alloc ?_ (by first | omega | (simp; done) | (simp; omega)) _)))
 have HB := Lib.hid hB
 clear hB
 cases text
 all_goals cases num
 all_goals go_enter Tryz.func19, Tryz.ntmps19
 all_goals go_wp2_with fail
 all_goals
  refine (must_any _ _).mono ?_
  rintro e w1 ⟨(⟨hq, rfl⟩ | ⟨hq, rfl⟩), rfl⟩
 all_goals first
  | (exfalso; simp at hq; done)
  | (unfold noneE
     go_wp2
     exact ⟨rfl, .inr ⟨by rw [HV.out]; simp_all, rfl⟩, HB.out⟩)
  | skip
 all_goals go_wp2_with (go_at_call 50; refine (isName_any _ _ HM.out).mono ?_; rintro e w' ⟨rfl, hw⟩; subst hw; rw [HN.out])
 all_goals first
  | (go_end0
     exact ⟨.inl ⟨by rw [HV.out]; simp_all, rfl⟩, HB.out⟩)
  | (refine (must_any _ _).mono ?_
     rintro e w1 ⟨(⟨hq2, rfl⟩ | ⟨hq2, rfl⟩), rfl⟩
     ·go_wp2
      go_end0
      exact ⟨.inl ⟨by rw [HV.out]; simp_all, rfl⟩, HB.out⟩
     ·unfold noneE
      go_wp2
      exact ⟨rfl, .inr ⟨by rw [HV.out]; simp_all, rfl⟩, HB.out⟩)
end Go.Proofs.YtgegfbopogcjpaaGreatDoor
namespace Go.Proofs.YtgegfbopogcjpaaGreatDoor
open Go.RowKit
set_option linter.unusedVariables false
set_option linter.unusedSimpArgs false
set_option maxRecDepth 100000
set_option maxHeartbeats 1000000
def Pr (B p : Nat) (ws : List ByteArray) (w : World) : Prop := B ≤ p ∧ ∃ v, Blk w p 58 #[v] ∧ w.ownsRow B 9 1 v ws.length (ws.map .string)
def rowAt (w : World) (p : Nat) : Option Nat := match w.cell? ⟨p, 0, none⟩ with
 | some v => v.ownBlock
 | none => none
theorem rowAt_of {w : World} {p : Nat} {v : Value} {t : TypeId} (h : Blk w p t #[v]) : rowAt w p = v.ownBlock := by
 unfold rowAt
 rw [h.cell 0 v rfl]
structure PK (p : Nat) (w w' : World) : Prop where
 os : w'.os = w.os
 tape : w'.tape = w.tape
 output : w'.output = w.output
 size : w.heap.size ≤ w'.heap.size
 keep : ∀ k, k < w.heap.size → k ≠ p → some k ≠ rowAt w p → w'.heap[k]? = w.heap[k]? ∧ some k ≠ rowAt w' p
theorem PK.refl_ (p : Nat) (w : World) : PK p w w := ⟨rfl, rfl, rfl, Nat.le_refl _, fun k _ _ h => ⟨rfl, h⟩⟩
theorem PK.trans_ {p : Nat} {a b c : World} (h : PK p a b) (k : PK p b c) : PK p a c :=
 ⟨k.os.trans h.os, k.tape.trans h.tape, k.output.trans h.output, Nat.le_trans h.size k.size, fun i hi hp hr => by
  obtain ⟨h1, h2⟩ := h.keep i hi hp hr
  obtain ⟨h3, h4⟩ := k.keep i (Nat.lt_of_lt_of_le hi h.size) hp h2
  exact ⟨h3.trans h1, h4⟩⟩
theorem Pr.lt {B p : Nat} {ws : List ByteArray} {w : World} (h : Pr B p ws w) : p < w.heap.size := by
 obtain ⟨-, v, hb, -⟩ := h
 exact hb.lt
theorem Pr.le {B p : Nat} {ws : List ByteArray} {w : World} (h : Pr B p ws w) : B ≤ w.heap.size := Nat.le_of_lt (Nat.lt_of_le_of_lt h.1 h.lt)
theorem Pr.row {B p : Nat} {ws : List ByteArray} {w : World} (h : Pr B p ws w) : ∀ k, rowAt w p = some k → B ≤ k ∧ k < w.heap.size := by
 obtain ⟨-, v, hb, ho⟩ := h
 rw [rowAt_of hb]
 exact fun k hk => ho.lt k hk
theorem PK.below {B p : Nat} {ws : List ByteArray} {w w' : World} (h : PK p w w') (hp : Pr B p ws w) : Below B w w' :=
 ⟨h.os, h.tape, h.output, h.size, fun k hk => (h.keep k (Nat.lt_of_lt_of_le hk hp.le) (by have := hp.1; omega) (fun e => by have := (hp.row k e.symm).1; omega)).1⟩
theorem rowAt_alloc {w : World} {p : Nat} (o : Obj) (h : p < w.heap.size) : rowAt (w.alloc o) p = rowAt w p := by
 unfold rowAt
 rw [show (w.alloc o).cell? ⟨p, 0, none⟩ = w.cell? ⟨p, 0, none⟩ from ((Below.refl w.heap.size w).alloc (Nat.le_refl _) o).cell (p := ⟨p, 0, none⟩) h]
theorem Pr.alloc {B p : Nat} {ws : List ByteArray} {w : World} (h : Pr B p ws w) (o : Obj) : Pr B p ws (w.alloc o) := by
 obtain ⟨h1, v, hb, ho⟩ := h
 exact ⟨h1, v, hb.alloc o, ho.alloc o⟩
theorem PK.alloc_ {p : Nat} (w : World) (o : Obj) (h : p < w.heap.size) : PK p w (w.alloc o) :=
 ⟨rfl, rfl, rfl, by simp, fun k hk _ hr => ⟨Below.heap_alloc w o k hk, by rw [rowAt_alloc o h]; exact hr⟩⟩
theorem PK.drewN_ {p : Nat} (w : World) (n : Nat) : PK p w (w.drewN n) := ⟨rfl, rfl, rfl, Nat.le_refl _, fun k _ _ hr => ⟨rfl, hr⟩⟩
theorem Pr.drewN_ {B p : Nat} {ws : List ByteArray} {w : World} (h : Pr B p ws w) (n : Nat) : Pr B p ws (w.drewN n) := by
 obtain ⟨h1, v, hb, ho⟩ := h
 exact ⟨h1, v, hb.drewN n, ho⟩
theorem PK.new_ {B p : Nat} {ws : List ByteArray} {w w' : World} (hp : Pr B p ws w) (o : Obj) (h : PK p (w.alloc o) w') : w'.heap[w.heap.size]? = some o :=
 ((h.keep w.heap.size (by simp) (by have := hp.lt; omega) (fun e => by
   rw [rowAt_alloc o hp.lt] at e
   have := (hp.row _ e.symm).2
   omega)).1).trans (heap_alloc_new w o)
def SayOut (B p : Nat) (ws : List ByteArray) (w : World) (e : Ending) (w' : World) : Prop := e = .returned (.tuple #[]) ∧ Pr B p ws w' ∧ PK p w w'
theorem info_text : (Tryz.prog.info? 9).map (fun i => (i.zero, i.size, i.bytes)) = some (some (.string ⟨#[]⟩), 1, 16) := by kernel_rfl
theorem say_end {B p : Nat} {ws new : List ByteArray} {w w1 : World} {v v' : Value} (hp : B ≤ p) (hk : Blk w p 58 #[v]) (hown : w.ownsRow B 9 1 v ws.length (ws.map .string))
 (hown' : w1.ownsRow B 9 1 v' (ws.length + new.length) (ws.map .string ++ new.map .string)) (hg : w.grownBy w1 v.ownBlock) (hat : v'.ownBlock = v.ownBlock ∨ v'.ownBlock = some w.heap.size) :
 Pr B p (ws ++ new) (w1.setCell ⟨p, 0, none⟩ v') ∧ PK p w (w1.setCell ⟨p, 0, none⟩ v') := by
 have hne : some p ≠ v.ownBlock := own_blk hown hk (by decide)
 have hk1 : Blk w1 p 58 #[v] := hk.grown hg hne
 have hk2 : Blk (w1.setCell ⟨p, 0, none⟩ v') p 58 #[v'] := hk1.set_ 0 v'
 have hne' : some p ≠ v'.ownBlock := own_blk hown' hk1 (by decide)
 refine ⟨⟨hp, v', hk2, ?_⟩, ⟨hg.os, hg.tape, hg.output, by simpa [World.setCell] using hg.size, fun k hk' hkp hr => ?_⟩⟩
 ·have := own_set hown' (p := ⟨p, 0, none⟩) hne' v'
  rw [List.length_append, List.map_append]
  exact this
 ·rw [rowAt_of hk] at hr
  rw [rowAt_of hk2]
  refine ⟨(Below.heap_setCell w1 ⟨p, 0, none⟩ v' k (fun e => hkp e)).trans (hg.block k hk' hr), fun e => ?_⟩
  rcases hat with h | h
  ·exact hr (e.trans h)
  ·rw [h] at e
   injection e with e
   omega
theorem say_any (B p : Nat) (ws new : List ByteArray) (g c m : Nat) (w : World) (hp : Pr B p ws w) (hm : new.length = m) (hn : ∀ j u, (new.map Value.string)[j]? = some u → w.cell? ((⟨g, 0, none⟩ : Addr).add j) = some u) (hb : ws.length + m ≤ 100000) :
 Calls Tryz.prog 51 #[.pointer (some ⟨p, 0, none⟩), .slice (some ⟨g, 0, none⟩) m c] w (SayOut B p (ws ++ new) w) := by
 subst hm
 have hle := hp.le
 obtain ⟨h0, v, hk, hown⟩ := hp
 obtain ⟨i0, hi, hz0, hz1, hz2⟩ := info_parts info_text
 have c0 := hk.cell 0 v rfl
 have f0 := hk.free 0
 have HN := Lib.hid hn
 clear hn
 go_enter Tryz.func51, Tryz.ntmps51
 go_wp2_with (at_builtin; refine @wpList_append_own_at Tryz.prog w _ _ _ _ _ rfl (.tmp 8) (.tmp 9) 56 rfl B 9 i0 (.string ⟨#[]⟩) 1 16 Tryz.underlying56 hi hz0 hz1 hz2 rfl (by decide) v ws.length (ws.map .string) rfl hown ⟨g, 0, none⟩ new.length c (new.map Value.string) rfl ?c1 ?c2 ?c3 ?c4 ?c5 ?c6 ?_)
 case c1 => simp
 case c2 => exact HN.out
 case c3 => intro u hu; obtain ⟨x, -, rfl⟩ := List.mem_map.1 hu; rfl
 case c4 => unfold maxLen; omega
 case c5 => omega
 case c6 => exact hle
 intro v' w1 hown' hgrow _ hat
 obtain ⟨A', cp', rfl, -⟩ := Row.of_own hown'
 have H := say_end h0 hk hown hown' hgrow hat
 have f1 : w1.frozen? ⟨p, 0, none⟩ = false := (hk.grown hgrow (own_blk hown hk (by decide))).free 0
 have c1 : w1.cell? ⟨p, 0, none⟩ = some v := (hk.grown hgrow (own_blk hown hk (by decide))).cell 0 v rfl
 have H2 := Lib.hid H
 clear H
 go_wp2
 go_end0
 exact ⟨rfl, H2.out⟩
theorem say_at (w : World) (l : List ByteArray) : ∀ j u, (l.map Value.string)[j]? = some u → (w.alloc (.cells (l.map Value.string).toArray 9)).cell? ((⟨w.heap.size, 0, none⟩ : Addr).add j) = some u := by
 intro j u h
 rw [add_plain_, Nat.zero_add]
 have := (Blk.new_ w 9 (l.map Value.string).toArray).cell j u (by simpa using h)
 exact this
theorem SayOut.of_alloc {B p : Nat} {ws ws' : List ByteArray} {w : World} {o : Obj} (hp : Pr B p ws w) {e : Ending} {w' : World} (h : SayOut B p ws' (w.alloc o) e w') : SayOut B p ws' w e w' :=
 ⟨h.1, h.2.1, (PK.alloc_ w o hp.lt).trans_ h.2.2⟩
theorem say1 (B p : Nat) (ws : List ByteArray) (x : ByteArray) (w : World) (hp : Pr B p ws w) (hb : ws.length + 1 ≤ 100000) :
 Calls Tryz.prog 51 #[.pointer (some ⟨p, 0, none⟩), .slice (some ⟨w.heap.size, 0, none⟩) 1 1] (w.alloc (.cells #[.string x] 9)) (SayOut B p (ws ++ [x]) w) :=
 (say_any B p ws [x] w.heap.size 1 1 _ (hp.alloc _) rfl (say_at w [x]) hb).mono fun _ _ h => h.of_alloc hp
theorem say2 (B p : Nat) (ws : List ByteArray) (x y : ByteArray) (w : World) (hp : Pr B p ws w) (hb : ws.length + 2 ≤ 100000) :
 Calls Tryz.prog 51 #[.pointer (some ⟨p, 0, none⟩), .slice (some ⟨w.heap.size, 0, none⟩) 2 2] (w.alloc (.cells #[.string x, .string y] 9)) (SayOut B p (ws ++ [x, y]) w) :=
 (say_any B p ws [x, y] w.heap.size 2 2 _ (hp.alloc _) rfl (say_at w [x, y]) hb).mono fun _ _ h => h.of_alloc hp
theorem say3 (B p : Nat) (ws : List ByteArray) (x y z : ByteArray) (w : World) (hp : Pr B p ws w) (hb : ws.length + 3 ≤ 100000) :
 Calls Tryz.prog 51 #[.pointer (some ⟨p, 0, none⟩), .slice (some ⟨w.heap.size, 0, none⟩) 3 3] (w.alloc (.cells #[.string x, .string y, .string z] 9)) (SayOut B p (ws ++ [x, y, z]) w) :=
 (say_any B p ws [x, y, z] w.heap.size 3 3 _ (hp.alloc _) rfl (say_at w [x, y, z]) hb).mono fun _ _ h => h.of_alloc hp
end Go.Proofs.YtgegfbopogcjpaaGreatDoor
