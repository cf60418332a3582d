/- Lemmas for the law. -/
import Derived.Test.YthihaeobkoiljaaGreatQ01
import Derived.Deep.DeepMust
import Derived.RangeFuncNested
import Derived.RangeFuncBound
import Derived.RangeFuncCalls
import Derived.RangeFuncLeaves
import Derived.RangeFuncFrom
import Derived.Shelf.Abstract
import Derived.OwnWalkIn
import Derived.TacticsInMore
import Derived.LoopNIn
import Derived.LoopIn
import Derived.Shelf.RegionOpen
import Derived.RegionIn
set_option linter.unusedVariables false
set_option linter.unusedSimpArgs false
set_option maxRecDepth 100000
set_option maxHeartbeats 40000000
namespace Go.Proofs.YthihaeobkoiljaaGreat
open Go.RowKit
open Go.Maps (Keyed)
inductive Ty where
 | mk (k : Int) (nm : ByteArray) (ns : List ByteArray) (ps : List Ty) (many : Bool)
def Ty.k : Ty → Int | .mk k _ _ _ _ => k
def Ty.nm : Ty → ByteArray | .mk _ n _ _ _ => n
def Ty.ns : Ty → List ByteArray | .mk _ _ l _ _ => l
def Ty.ps : Ty → List Ty | .mk _ _ _ l _ => l
def Ty.many : Ty → Bool | .mk _ _ _ _ m => m
mutual
def Rep (w : World) : Ty → List Value → Prop
 | .mk k nm ns ps many, cs => ∃ An cn Ap cp, cs = [.int .i64 k, .string nm, .slice An ns.length cn, .slice Ap ps.length cp, .bool many] ∧ Row w An (ns.map .string) ∧ RepL w ps Ap ∧ ps.length ≤ cp ∧ ns.length ≤ cn
def RepL (w : World) : List Ty → Option Addr → Prop
 | [], _ => True
 | t :: ts, A => ∃ b o cs, A = some ⟨b, o, none⟩ ∧ b < w.heap.size ∧ (∀ j v, cs[j]? = some v → w.cell? ⟨b, o + j, none⟩ = some v) ∧ Rep w t cs ∧ RepL w ts (some ⟨b, o + 5, none⟩)
end
theorem Rep.five {w : World} {T : Ty} {cs : List Value} (h : Rep w T cs) : ∃ An cn Ap cp, cs = [.int .i64 T.k, .string T.nm, .slice An T.ns.length cn, .slice Ap T.ps.length cp, .bool T.many] ∧ Row w An (T.ns.map .string) ∧ RepL w T.ps Ap := by
 cases T
 unfold Rep at h
 obtain ⟨An, cn, Ap, cp, h0, h1, h2, -⟩ := h
 exact ⟨An, cn, Ap, cp, h0, h1, h2⟩
theorem Rep.cap {w : World} {T : Ty} {a b c e : Value} {Ap : Option Addr} {n cp : Nat} (h : Rep w T [a, b, c, .slice Ap n cp, e]) : T.ps.length ≤ cp := by
 cases T
 unfold Rep at h
 obtain ⟨An, cn, Ap', cp', h0, -, -, h3, -⟩ := h
 simp at h0
 simp only [Ty.ps]
 omega
theorem Rep.capN {w : World} {T : Ty} {a b d e : Value} {An : Option Addr} {n cn : Nat} (h : Rep w T [a, b, .slice An n cn, d, e]) : T.ns.length ≤ cn := by
 cases T
 unfold Rep at h
 obtain ⟨An, cn, Ap', cp', h0, -, -, -, h3⟩ := h
 simp at h0
 simp only [Ty.ns]
 omega
theorem Rep.of {w : World} {T : Ty} {An Ap : Option Addr} {cn cp : Nat} (h1 : Row w An (T.ns.map .string)) (h2 : RepL w T.ps Ap) (h3 : T.ps.length ≤ cp) (h4 : T.ns.length ≤ cn) : Rep w T [.int .i64 T.k, .string T.nm, .slice An T.ns.length cn, .slice Ap T.ps.length cp, .bool T.many] := by
 cases T
 unfold Rep
 exact ⟨An, cn, Ap, cp, rfl, h1, h2, h3, h4⟩
mutual
theorem Rep.keep {w w' : World} (hb : Below w.heap.size w w') : ∀ (T : Ty) (cs : List Value), Rep w T cs → Rep w' T cs
 | .mk k nm ns ps many, cs, h => by
  unfold Rep at h ⊢
  obtain ⟨An, cn, Ap, cp, rfl, h1, h2, h3⟩ := h
  exact ⟨An, cn, Ap, cp, rfl, h1.keep hb, RepL.keep hb ps Ap h2, h3⟩
theorem RepL.keep {w w' : World} (hb : Below w.heap.size w w') : ∀ (ts : List Ty) (A : Option Addr), RepL w ts A → RepL w' ts A
 | [], _, _ => by unfold RepL; trivial
 | t :: ts, A, h => by
  unfold RepL at h ⊢
  obtain ⟨b, o, cs, rfl, hlt, hc, h1, h2⟩ := h
  exact ⟨b, o, cs, rfl, Nat.lt_of_lt_of_le hlt hb.size, fun j v hj => (hb.cell (p := ⟨b, o + j, none⟩) hlt).trans (hc j v hj), Rep.keep hb t cs h1, RepL.keep hb ts _ h2⟩
end
theorem RepL.at_ {w : World} : ∀ (ts : List Ty) (A : Option Addr), RepL w ts A → ∀ (i : Nat) (h : i < ts.length), ∃ b o cs, A = some ⟨b, o, none⟩ ∧ b < w.heap.size ∧ (∀ j v, cs[j]? = some v → w.cell? ⟨b, o + i * 5 + j, none⟩ = some v) ∧ Rep w ts[i] cs
 | t :: ts, A, h, 0, _ => by
  unfold RepL at h
  obtain ⟨b, o, cs, rfl, hlt, hc, h1, h2⟩ := h
  exact ⟨b, o, cs, rfl, hlt, by simpa using hc, h1⟩
 | t :: ts, A, h, i + 1, hi => by
  unfold RepL at h
  obtain ⟨b, o, cs, rfl, hlt, hc, h1, h2⟩ := h
  obtain ⟨b', o', cs', hA, hlt', hc', h3⟩ := RepL.at_ ts _ h2 i (by simpa using hi)
  obtain ⟨rfl, rfl⟩ : b = b' ∧ o + 5 = o' := by simpa using hA
  refine ⟨b, o, cs', rfl, hlt, fun j v hj => ?_, by simpa using h3⟩
  rw [show o + (i + 1) * 5 + j = o + 5 + i * 5 + j by omega]
  exact hc' j v hj
def bareT (T : Ty) : Bool := T.nm.toList.isEmpty && (((T.ns.length : Nat) : Int) == 0)
open Classical in
noncomputable def namedL (l : List ByteArray) : Bool := l.all nameOf && decide l.Nodup
theorem bare_any (T : Ty) (cs : List Value) (w : World) (h : Rep w T cs) : Calls Tryz.prog 74 #[.agg cs.toArray] w fun e w' => e = .returned (.bool (bareT T)) ∧ Below w.heap.size w w' := by
 obtain ⟨An, cn, Ap, cp, rfl, h1, h2⟩ := h.five
 clear h h1 h2
 have HE : Hid (bareT T = (T.nm.toList.isEmpty && (((T.ns.length : Nat) : Int) == 0))) := rfl
 generalize T.nm = nm at *
 generalize T.ns.length = n at *
 go_enter Tryz.func74, Tryz.ntmps74
 go_wp2
 ·go_ret
  have h0 : nm.toList.isEmpty = true := by simpa using (by assumption : nm.toList = [])
  exact ⟨by rw [HE.out, h0]; rfl, bel⟩
 ·go_ret
  have h0 : nm.toList.isEmpty = false := by
   rcases hh : nm.toList.isEmpty with _ | _
   ·rfl
   ·exact absurd (by simpa using hh) (by assumption : ¬ nm.toList = [])
  exact ⟨by rw [HE.out, h0]; rfl, bel⟩
noncomputable def strF (l : List ByteArray) : Value → Option Value := l.foldl (fun g s => gput g (.string s) (.bool true)) (fun _ => none)
theorem strF_snoc (l : List ByteArray) (s : ByteArray) : strF (l ++ [s]) = gput (strF l) (.string s) (.bool true) := by
 unfold strF; rw [List.foldl_append]; rfl
open Classical in
noncomputable def strIn (l : List ByteArray) (s : ByteArray) : Bool := decide (s ∈ l)
theorem strF_get (l : List ByteArray) (s : ByteArray) : strF l.reverse (.string s) = if strIn l.reverse s then some (.bool true) else none := by
 induction l with
 | nil => simp [strF, strIn]
 | cons m l ih =>
  rw [List.reverse_cons, strF_snoc]
  by_cases h : s = m
  ·subst h
   rw [gput_same, if_pos (by simp [strIn])]
  ·rw [gput_other _ _ _ _ (fun e => h (by simpa using e)), ih]
   have : strIn (l.reverse ++ [m]) s = strIn l.reverse s := by
    unfold strIn
    rw [decide_eq_decide, List.mem_append]
    simp [h]
   rw [this]
theorem str_get (l : List ByteArray) (s : ByteArray) : (strF l (.string s)).getD (.bool false) = .bool (strIn l s) := by
 have h := strF_get l.reverse s
 rw [List.reverse_reverse] at h
 rw [h]
 cases strIn l s <;> rfl
theorem str_keyed : Keyed Tryz.prog 9 := Maps.string_keyed Tryz.underlying9
theorem upd_below {B : Nat} {w W0 w2 : World} (hB : B ≤ w.heap.size) (hb0 : Below B w W0) (hg : W0.grownBy w2 (some B)) : Below B w w2 :=
 ⟨hg.os.trans hb0.os, hg.tape.trans hb0.tape, hg.output.trans hb0.output, Nat.le_trans hb0.size hg.size, fun k hk => by
  by_cases hlt : k < W0.heap.size
  ·exact (hg.block k hlt (by simp; omega)).trans (hb0.block k hk)
  ·exact absurd (Nat.lt_of_lt_of_le hk (Nat.le_trans hB hb0.size)) hlt⟩
theorem look_str (l : List ByteArray) (W : World) (B : Nat) (s : ByteArray) (h : MapIs Tryz.prog 9 W B (strF l)) {kl : Lit} (hkey : keyOf Tryz.prog 9 (.string s) = some kl) :
 (Instr.lookup 158 (.map (some B)) (.string s) false).run Tryz.prog W = .ok (.bool (strIn l s)) W := by
 rw [← str_get]
 exact MapIs.lookup h str_keyed Tryz.underlying158 (by kernel_rfl) hkey
theorem keyOf_str (s : ByteArray) (hs : s.size ≤ maxLen) : ∃ l, keyOf Tryz.prog 9 (.string s) = some l := by
 unfold keyOf
 simp only [Tryz.underlying9]
 unfold mapKey
 simp only [Tryz.underlying9, hs, if_true]
 exact ⟨_, rfl⟩
theorem Row.str {w : World} {A : Option Addr} {l : List ByteArray} (h : Row w A (l.map .string)) {k : Nat} (hk : k < l.length) :
 ∃ b o, A = some ⟨b, o, none⟩ ∧ b < w.heap.size ∧ w.cell? ⟨b, o + k, none⟩ = some (.string l[k]) := by
 obtain ⟨b, o, hA, hlt, hc⟩ := h.at_ (fun e => by have := congrArg List.length e; simp at this; subst this; simp at hk)
 exact ⟨b, o, hA, hlt, hc k _ (by simp [hk])⟩
def NamedRel (l : List ByteArray) (B : Nat) (w : World) (i : Value) (wr : World) : Prop :=
 ∃ k : Nat, k ≤ l.length ∧ i = .int .i64 k ∧ (∀ j (h : j < l.length), j < k → nameOf l[j] = true) ∧ (l.take k).Nodup ∧ MapIs Tryz.prog 9 wr B (strF (l.take k)) ∧ Below w.heap.size w wr
theorem named_no {l : List ByteArray} {k : Nat} (hk : k < l.length) (h : nameOf l[k] = false ∨ strIn (l.take k) l[k] = true) : namedL l = false := by
 rcases hn : namedL l with _ | _
 ·rfl
 ·simp only [namedL, Bool.and_eq_true, List.all_eq_true, decide_eq_true_eq] at hn
  obtain ⟨h1, h2⟩ := hn
  rcases h with h | h
  ·rw [h1 _ (List.getElem_mem hk)] at h; cases h
  ·simp only [strIn, decide_eq_true_eq] at h
   exfalso
   rw [← List.take_append_drop k l, List.nodup_append] at h2
   exact h2.2.2 _ h l[k] (by rw [List.drop_eq_getElem_cons hk]; exact List.mem_cons_self) rfl
theorem named_yes {l : List ByteArray} (h : ∀ j (h : j < l.length), nameOf l[j] = true) (hn : l.Nodup) : namedL l = true := by
 simp only [namedL, Bool.and_eq_true, List.all_eq_true, decide_eq_true_eq]
 refine ⟨fun x hx => ?_, hn⟩
 obtain ⟨j, hj, rfl⟩ := List.getElem_of_mem hx
 exact h j hj
theorem nodup_snoc {l : List ByteArray} {k : Nat} (hk : k < l.length) (h : (l.take k).Nodup) (hs : strIn (l.take k) l[k] = false) : (l.take (k + 1)).Nodup := by
 rw [List.take_succ_eq_append_getElem hk, List.nodup_append]
 refine ⟨h, by simp, fun a ha b hb e => ?_⟩
 rw [List.mem_singleton] at hb
 subst hb
 subst e
 simp [strIn] at hs
 exact hs ha
theorem named_any (A : Option Addr) (c : Nat) (l : List ByteArray) (w : World) (hr : Row w A (l.map .string)) (hmx : l.length ≤ 9223372036854775806) (hm : ML w) :
 Calls Tryz.prog 75 #[.slice A l.length c] w fun e w' => e = .returned (.bool (namedL l)) ∧ Below w.heap.size w w' := by
 have hmm := @run_makeMap Tryz.prog
 go_enter Tryz.func75, Tryz.ntmps75
 go_wp2
 go_loopw [2, 5, 9] (fun _ _ i wr => NamedRel l w.heap.size w i wr) (fun _ _ i _ => l.length - (intOf i).toNat)
 case atStart => exact ⟨0, Nat.zero_le _, rfl, fun j _ h => absurd h (by omega), by simp, MapIs.made _ _ _, (Below.refl _ _).alloc (Nat.le_refl _) _⟩
 case round =>
  obtain ⟨k, hk, rfl, hg, hnd, hmap, hb⟩ := hrel
  have hsz := hb.size
  by_cases hlt : k < l.length
  ·obtain ⟨b, o, rfl, hbl, c0⟩ := hr.str hlt
   rw [← keep_cell hb hbl] at c0
   have hml := hm.keep hb
   have hi : (k : Int) < (l.length : Int) := by omega
   have hno := @named_no l k hlt
   have hyes := @nodup_snoc l k hlt hnd
   have HG : Hid (nameOf l[k] = true → ∀ j (h : j < l.length), j < k + 1 → nameOf l[j] = true) := fun h0 j h hj => by
    rcases Nat.lt_or_ge j k with h1 | h1
    ·exact hg j h h1
    ·obtain rfl : j = k := by omega
     exact h0
   have HS : Hid (strF (l.take (k + 1)) = gput (strF (l.take k)) (.string l[k]) (.bool true)) := by
    unfold Hid; rw [List.take_succ_eq_append_getElem hlt, strF_snoc]
   have HZ : Hid (nameOf l[k] = true → l[k].size ≤ 16) := fun h => (name_false h).2.1
   have HM := Lh hmap
   clear hg hnd hmap
   generalize hs : l[k] = s at *
   rcases hn : nameOf s with _ | _
   ·have hN := Lh (hno (.inl hn))
    clear hno hyes HG HS HZ HM
    go_wp2_with (first
     | (go_at_call 18; refine (isName_any _ _ (by assumption)).mono ?_; rintro e w' ⟨rfl, hw⟩; subst hw))
    go_ret
    exact ⟨by first | (rw [hN.out]; rfl) | rfl, bel⟩
   ·obtain ⟨kl, hkey⟩ := keyOf_str s (Nat.le_trans (HZ.out hn) (by decide))
    have HK := Lh hkey
    clear hkey
    have hlk := look_str _ _ _ s HM.out HK.out
    rcases hi2 : strIn (l.take k) s with _ | _
    ·have HY := Lh (hyes hi2)
     have HG2 := Lh (HG.out hn)
     rw [hi2] at hlk
     clear hno hyes hi2 HG HZ
     have hbN : Below w.heap.size w wr := hb
     go_wp2_with (first
      | (go_at_call 18; refine (isName_any _ _ (by assumption)).mono ?_; rintro e w' ⟨rfl, hw⟩; subst hw)
      | (at_mapUpdate; go_must ((refine wpList_mapUpdate_is _ rfl _ _ _ 158 rfl 9 4 str_keyed Tryz.underlying158 w.heap.size _ (by rfl) HM.out (.string s) (.bool true) kl (by rfl) (by rfl) HK.out ?_; intro w2 hm2 hg2; have hb2 := upd_below (Nat.le_refl _) hbN hg2; clear hg2; rw [← HS.out] at hm2; have HM3 := Lh hm2; clear hm2))))
     go_roundw
     case rel => exact ⟨k + 1, by omega, by go_num, HG2.out, HY.out, HM3.out, hb2⟩
     case measure => simp [intOf] <;> omega
    ·have hN := Lh (hno (.inr hi2))
     rw [hi2] at hlk
     clear hno hyes HG HS HZ HM hi2
     go_wp2_with (first
      | (go_at_call 18; refine (isName_any _ _ (by assumption)).mono ?_; rintro e w' ⟨rfl, hw⟩; subst hw))
     go_ret
     exact ⟨by first | (rw [hN.out]; rfl) | rfl, bel⟩
  ·have hi : (l.length : Int) ≤ (k : Int) := by omega
   obtain rfl : k = l.length := by omega
   have hy : namedL l = true := named_yes (fun j h => hg j h h) (by simpa using hnd)
   go_wp2
   go_ret
   exact ⟨by first | (rw [hy]; rfl) | rfl, bel⟩
end Go.Proofs.YthihaeobkoiljaaGreat
namespace Go.Proofs.YthihaeobkoiljaaGreat
open Go.ChangeShapes Go.WideShapes Go.ChangeAt Go.RowKit
section
variable {H : Type} {enc : TypeId × Value → H} {P : Program} {w : World}
theorem slice_read {t e : TypeId} {fuel : Nat} {cs : List Value} {x : DataW H × List MemPlace} (ht : P.underlying t = some (.slice e)) (h : DataW.trod enc P w 0 (fun _ => true) true fuel t cs = some x) :
 cs = [.slice none 0 0] ∨ ∃ (a : Addr) (len cap n : Nat), fuel = n + 1 ∧ cs = [.slice (some a) len cap] ∧ len ≤ cap ∧ cap ≤ maxLen ∧
  ∀ i, i < len → ∃ cs' y, w.cells? 0 (a.add (i * P.cellsOf e)) (P.cellsOf e) = some cs' ∧ DataW.trod enc P w 0 (fun _ => true) true n e cs' = some y := by
 rcases DataW.trod_slice ht h with ⟨h0, -⟩ | ⟨a, len, cap, elems, rest, n, hf, rfl, -, -, hl, hm, hlen, hel, -, -⟩
 ·exact .inl h0
 ·refine .inr ⟨a, len, cap, n, hf, rfl, hl, hm, fun i hi => ?_⟩
  have := hel i hi
  rw [List.getElem?_eq_getElem (by omega), Option.bind_eq_some_iff] at this
  obtain ⟨cs', h1, h2⟩ := this
  exact ⟨cs', _, h1, h2⟩
theorem trod_row {α : Type} [Inhabited α] (f : α → List Value) {s : Nat} (hs : ∀ x, (f x).length = s) {t e : TypeId} {fuel : Nat} {cs : List Value} {x : DataW H × List MemPlace}
 (ht : P.underlying t = some (.slice e)) (hc : P.cellsOf e = s) (hpos : 0 < s)
 (hread : ∀ n cs' y, DataW.trod enc P w 0 (fun _ => true) true n e cs' = some y → ∃ x, cs' = f x)
 (h : DataW.trod enc P w 0 (fun _ => true) true fuel t cs = some x) :
 ∃ (A : Option Addr) (l : List α) (c : Nat), cs = [.slice A l.length c] ∧ Row w A (l.flatMap f) ∧ l.length ≤ maxLen ∧ l.length ≤ c := by
 rcases slice_read ht h with rfl | ⟨a', len, cap, n, -, rfl, hl, hm, hx⟩
 ·exact ⟨none, [], 0, rfl, .inl rfl, Nat.zero_le _, Nat.zero_le _⟩
 ·obtain ⟨X, hX⟩ := Go.Deep.choose_lt (α := α) (n := len) (p := fun i x => ∀ j v, (f x)[j]? = some v → w.cell? (a'.add (i * s + j)) = some v) (fun i hi => by
   obtain ⟨cs', y, h1, h2⟩ := hx i hi
   obtain ⟨x, rfl⟩ := hread _ _ _ h2
   rw [hc] at h1
   obtain ⟨_, hlen, hat⟩ := World.cells?_some h1
   refine ⟨x, fun j v hj => ?_⟩
   have hjl : j < s := by rw [← hs x]; exact (List.getElem?_eq_some_iff.1 hj).1
   rw [← Go.Deep.add_add, hat j hjl, hj])
  refine ⟨some a', (List.range len).map X, cap, by simp, ?_, by simp; omega, by simp; omega⟩
  rcases Nat.eq_zero_or_pos len with hz | hz
  ·subst hz
   exact .inl rfl
  ·have hall : ∀ k v, (((List.range len).map X).flatMap f)[k]? = some v → w.cell? (a'.add k) = some v := fun k v hk => by
    have hkm : k / s * s + k % s = k := by rw [Nat.mul_comm]; exact Nat.div_add_mod k s
    rw [← hkm] at hk ⊢
    rw [flat_at f s hs _ _ _ (Nat.mod_lt _ hpos)] at hk
    rw [List.getElem?_map] at hk
    by_cases hi : k / s < len
    ·rw [List.getElem?_range hi] at hk
     exact hX _ hi _ _ (by simpa using hk)
    ·rw [List.getElem?_eq_none (by simpa using hi)] at hk
     simp at hk
   obtain ⟨v0, hv0⟩ : ∃ v0, (((List.range len).map X).flatMap f)[0]? = some v0 := by
    have h0 := flat_at f s hs ((List.range len).map X) 0 0 hpos
    rw [List.getElem?_map, List.getElem?_range hz] at h0
    simp at h0
    have hl0 : (f (X 0)) ≠ [] := fun h => by have := hs (X 0); rw [h] at this; simp at this; omega
    obtain ⟨y, ys, e⟩ := List.exists_cons_of_ne_nil hl0
    refine ⟨y, ?_⟩
    have := h0
    rw [e] at this
    simpa using this
   have hc0 := hall 0 v0 hv0
   obtain ⟨b, o, sp⟩ := a'
   have hsp : sp = none := by simpa [Addr.add] using World.cell?_spot hc0
   subst hsp
   refine .inr ⟨b, o, rfl, World.block_lt_of_cell? w _ hc0, fun j v hj => ?_⟩
   have := hall j v hj
   rwa [add_plain] at this
end
theorem flat_one (l : List ByteArray) : l.flatMap (fun s => [Value.string s]) = l.map .string := by
 induction l with
 | nil => rfl
 | cons a l ih => rw [List.flatMap_cons, ih]; rfl
theorem repL_of {w : World} {b : Nat} (hb : b < w.heap.size) : ∀ (ts : List Ty) (o : Nat), (∀ i (h : i < ts.length), ∃ cs, (∀ j v, cs[j]? = some v → w.cell? ⟨b, o + i * 5 + j, none⟩ = some v) ∧ Rep w ts[i] cs) → RepL w ts (some ⟨b, o, none⟩)
 | [], _, _ => by unfold RepL; trivial
 | t :: ts, o, h => by
  unfold RepL
  obtain ⟨cs, h1, h2⟩ := h 0 (by simp)
  refine ⟨b, o, cs, rfl, hb, by simpa using h1, h2, repL_of hb ts (o + 5) fun i hi => ?_⟩
  obtain ⟨cs', h3, h4⟩ := h (i + 1) (by simpa using hi)
  refine ⟨cs', fun j v hj => ?_, by simpa using h4⟩
  rw [show o + 5 + i * 5 + j = o + (i + 1) * 5 + j by omega]
  exact h3 j v hj
instance : Inhabited Ty := ⟨.mk 0 ByteArray.empty [] [] false⟩
instance : Inhabited ByteArray := ⟨ByteArray.empty⟩
theorem read_type {H : Type} {enc : TypeId × Value → H} {w : World} : ∀ (n : Nat) (cs : List Value) (y : DataW H × List MemPlace), DataW.trod enc Tryz.prog w 0 (fun _ => true) true n 34 cs = some y → ∃ T : Ty, Rep w T cs ∧ T.ps.length ≤ maxLen ∧ T.ns.length ≤ maxLen ∧ T.nm.size ≤ maxLen := by
 intro n
 induction n using Nat.strongRecOn with
 | ind n IH =>
  intro cs y h
  obtain ⟨xs, m, rfl, -, hl, hlen, hf⟩ := DataW.trod_struct Tryz.underlying34 h
  have hl5 : cs.length = 5 := hl
  match cs, hl5 with
  | [v0, v1, v2, v3, v4], _ =>
   have c3 : Tryz.prog.cellsOf 3 = 1 := by kernel_rfl
   have c4 : Tryz.prog.cellsOf 4 = 1 := by kernel_rfl
   have c9 : Tryz.prog.cellsOf 9 = 1 := by kernel_rfl
   have cs1 : Tryz.prog.cellsOf 31 = 1 := by kernel_rfl
   have cs2 : Tryz.prog.cellsOf 32 = 1 := by kernel_rfl
   have ct : Tryz.prog.cellsOf 34 = 5 := by kernel_rfl
   have hx5 : xs.length = 5 := hlen
   match xs, hx5 with
   | [x0, x1, x2, x3, x4], _ =>
    have f0 := hf 0 _ rfl
    have f1 := hf 1 _ rfl
    have f2 := hf 2 _ rfl
    have f3 := hf 3 _ rfl
    have f4 := hf 4 _ rfl
    simp [c3, c4, c9, cs1, cs2] at f0 f1 f2 f3 f4
    obtain ⟨k, hk, -, -⟩ := DataW.trod_int Tryz.underlying3 f0
    obtain ⟨nm, hnm, -, hnl⟩ := DataW.trod_string Tryz.underlying9 f1
    obtain ⟨An, ns, cn, hns, hrow, hnsl, hncap⟩ := trod_row (fun s : ByteArray => [Value.string s]) (s := 1) (fun _ => rfl) Tryz.underlying31 c9 (by decide) (fun n' cs' y' h' => by
     obtain ⟨s, hs, -⟩ := DataW.trod_string Tryz.underlying9 h'
     exact ⟨s, hs⟩) f2
    obtain ⟨mb, hmb, -⟩ := DataW.trod_bool Tryz.underlying4 f4
    simp at hk hnm hns hmb
    have hrow' : Row w An (ns.map .string) := by
     rw [← flat_one]; exact hrow
    rcases slice_read Tryz.underlying32 f3 with h3 | ⟨a, len, cap, n', rfl, h3, hle, hcap, hx⟩
    ·simp at h3
     subst hk hnm hns hmb h3
     exact ⟨.mk k nm ns [] mb, Rep.of (T := .mk k nm ns [] mb) hrow' (by show RepL w [] none; unfold RepL; trivial) (Nat.zero_le _) hncap, Nat.zero_le _, hnsl, hnl⟩
    ·simp at h3
     subst hk hnm hns hmb h3
     rw [ct] at hx
     obtain ⟨X, hX⟩ := Go.Deep.choose_lt (α := Ty) (n := len) (p := fun i T => ∃ cs', w.cells? 0 (a.add (i * 5)) 5 = some cs' ∧ Rep w T cs') (fun i hi => by
      obtain ⟨cs', y', h1, h2⟩ := hx i hi
      obtain ⟨T, hT, -⟩ := IH n' (by omega) cs' y' h2
      exact ⟨T, cs', h1, hT⟩)
     have hlenX : ((List.range len).map X).length = len := by simp
     have hR : RepL w ((List.range len).map X) (some a) := by
      rcases Nat.eq_zero_or_pos len with hz | hz
      ·subst hz
       show RepL w [] (some a)
       unfold RepL
       trivial
      ·obtain ⟨cs0, h0, hr0⟩ := hX 0 hz
       obtain ⟨_, hl0, hat⟩ := World.cells?_some h0
       have hc0 := hat 0 (by omega)
       rw [List.getElem?_eq_getElem (by omega)] at hc0
       obtain ⟨b, o, sp⟩ := a
       have hsp : sp = none := by simpa [Addr.add] using World.cell?_spot hc0
       subst hsp
       refine repL_of (by have := World.block_lt_of_cell? w _ hc0; simpa [add_plain] using this) _ _ fun i hi => ?_
       obtain ⟨cs', h1, h2⟩ := hX i (by simpa using hi)
       obtain ⟨_, hl1, hat1⟩ := World.cells?_some h1
       refine ⟨cs', fun j v hj => ?_, by simpa using h2⟩
       have hj5 : j < 5 := by rw [← hl1]; exact (List.getElem?_eq_some_iff.1 hj).1
       have := hat1 j hj5
       rw [add_plain, add_plain] at this
       rw [this, hj]
     have := Rep.of (T := .mk k nm ns ((List.range len).map X) mb) (cn := cn) (cp := cap) hrow' hR (by show ((List.range len).map X).length ≤ cap; rw [hlenX]; exact hle) hncap
     simp only [Ty.ps, hlenX, Ty.k, Ty.nm, Ty.ns, Ty.many] at this
     exact ⟨.mk k nm ns ((List.range len).map X) mb, this, by show ((List.range len).map X).length ≤ maxLen; rw [hlenX]; omega, hnsl, hnl⟩
end Go.Proofs.YthihaeobkoiljaaGreat
namespace Go.Proofs.YthihaeobkoiljaaGreat
open Go.RowKit Go.Shelf
attribute [local go_sem] Oper.semAt_some
def endZ (zs : List (Nat × Bool)) : Nat → Nat
 | 0 => 0
 | k + 1 => (let e := endZ zs k; if (zs.getD k (0, false)).2 then e + e % 2 else e) + (zs.getD k (0, false)).1
def plcZ (zs : List (Nat × Bool)) (k : Nat) : Nat := if (zs.getD k (0, false)).2 then endZ zs k + endZ zs k % 2 else endZ zs k
theorem endZ_succ (zs : List (Nat × Bool)) (k : Nat) : endZ zs (k + 1) = plcZ zs k + (zs.getD k (0, false)).1 := rfl
def sizeZ (zs : List (Nat × Bool)) : Nat × Bool :=
 let n := endZ zs zs.length
 let e := zs.any (·.2)
 (if e then n + n % 2 else n, e)
mutual
def sizeT : Ty → Nat × Bool
 | .mk k _ _ ps _ => if k = 2 then (2, true) else if k = 3 then sizeZ (sizeL ps) else (1, false)
def sizeL : List Ty → List (Nat × Bool)
 | [] => []
 | t :: ts => sizeT t :: sizeL ts
end
theorem sizeL_map : ∀ ts : List Ty, sizeL ts = ts.map sizeT
 | [] => by unfold sizeL; rfl
 | t :: ts => by unfold sizeL; rw [sizeL_map ts]; rfl
theorem sizeT_eq (T : Ty) : sizeT T = if T.k = 2 then (2, true) else if T.k = 3 then sizeZ (T.ps.map sizeT) else (1, false) := by
 cases T
 unfold sizeT
 rw [sizeL_map]
 rfl
theorem endZ_le (zs : List (Nat × Bool)) (m : Nat) (h : ∀ k, (zs.getD k (0, false)).1 ≤ m) : ∀ k, endZ zs k ≤ k * (m + 1)
 | 0 => Nat.zero_le _
 | k + 1 => by
  have h1 := endZ_le zs m h k
  have h2 := h k
  rw [endZ_succ]
  have : plcZ zs k ≤ endZ zs k + 1 := by unfold plcZ; split <;> omega
  rw [Nat.succ_mul]
  omega
theorem laid_any (a b c d e : Value) (w : World) : Calls Tryz.prog 90 #[.agg #[a, b, c, d, e]] w fun r w' => r = .returned (.func (.func 98) #[] #[.pointer (some ⟨w.heap.size, 0, none⟩)]) ∧ w' = w.alloc (.cells #[a, b, c, d, e] 34) := by
 go_enter Tryz.func90, Tryz.ntmps90
 go_wp2
 go_ret
 exact ⟨rfl, rfl⟩
def Sized (T : Ty) : Prop := ∀ (cs : List Value) (w : World), Rep w T cs → Calls Tryz.prog 70 #[.agg cs.toArray] w fun e w' => e = .returned (.tuple #[.int .i64 (sizeT T).1, .bool (sizeT T).2]) ∧ Below w.heap.size w w'
theorem grown_of {W W' : World} (h : Below W.heap.size W W') : W.grownBy W' none := ⟨h.os, h.tape, h.output, h.size, fun i hi _ => h.block i hi⟩
def Laid1 (J : Nat → World → Prop) (W : World) (n₀ : Nat) (ps : List Ty) (a i : Value) (wr : World) : Prop :=
 ∃ k : Nat, k ≤ ps.length ∧ i = .int .i64 k ∧ a = .int .i64 (endZ (ps.map sizeT) k) ∧ J k wr ∧ Below n₀ W wr ∧ W.heap.size ≤ wr.heap.size
theorem laid1_in (n l Bn : Nat) (w0 : World) (A : Option Addr) (c : Nat) (ps : List Ty) (hS : ∀ p ∈ ps, Sized p) (hm : ∀ p ∈ ps, (sizeT p).1 ≤ 12) (hl : ps.length ≤ 7) (J Jx : Nat → World → Prop) (W : World)
 (hw : Below w0.heap.size w0 W) (hJ : AbidesFrom W.heap.size J) (hJx : AbidesFrom W.heap.size Jx)
 (hY : ∀ (k : Nat) W1, J k W1 → k < ps.length → YieldAt Fence.wide (n - 1) Tryz.prog l #[.int .i64 (k : Int), .int .i64 (plcZ (ps.map sizeT) k : Int)] W1 fun e W' =>
   (e = .returned (.bool true) ∧ J (k + 1) W' ∧ Below w0.heap.size W1 W') ∨ (e = .returned (.bool false) ∧ Jx (k + 1) W'))
 (hB : W.cell? ⟨Bn, 3, none⟩ = some (.slice A ps.length c)) (hA : RepL w0 ps A) (h0 : J 0 W) :
 CallsIn Fence.wide n Tryz.prog 98 #[.func (.yield l) #[] #[], .pointer (some ⟨Bn, 0, none⟩)] W fun e W' => (∃ v, e = .returned v) ∧
  (J ps.length W' ∨ ∃ k, k ≤ ps.length ∧ Jx k W') := by
 refine callsIn_of_wp Tryz.func98 rfl trivial ?_ rfl
 simp only [Tryz.ntmps98, List.size_toArray, List.length_cons, List.length_nil, Nat.reduceAdd, Nat.reduceSub, Array.replicate_succ, Array.replicate_zero, List.push_toArray, List.append_toArray, List.nil_append, List.cons_append]
 gi_wp2
 gi_loopw [3, 11] (fun a i wr => Laid1 J W w0.heap.size ps a i wr) (fun _ i _ => ps.length - (intOf i).toNat)
 case atStart => exact ⟨0, Nat.zero_le _, rfl, rfl, h0, Below.refl _ _, Nat.le_refl _⟩
 case round =>
  obtain ⟨k, hk, rfl, rfl, hJs, hnx, hsz⟩ := hrel
  by_cases hlt : k < ps.length
  ·have hb0 := hw.trans hnx
   obtain ⟨b, o, cs, rfl, hbl, hc, hrep0⟩ := RepL.at_ ps _ (RepL.keep hb0 ps _ hA) k hlt
   obtain ⟨b', o', -, hA', hb', -, -⟩ := RepL.at_ ps _ hA k hlt
   obtain ⟨rfl, rfl⟩ : b = b' ∧ o = o' := by simpa using hA'
   clear hA'
   have hrep := hrep0
   obtain ⟨An, cn, Ap, cp, rfl, h1, h2⟩ := hrep.five
   have c0 := hc 0 _ rfl
   have c1 := hc 1 _ rfl
   have c2 := hc 2 _ rfl
   have c3 := hc 3 _ rfl
   have c4 := hc 4 _ rfl
   rw [Nat.add_zero] at c0
   have hSk := hS _ (List.getElem_mem hlt)
   have hmk := hm _ (List.getElem_mem hlt)
   clear hc h1 h2
   have hi : (k : Int) < (ps.length : Int) := by omega
   have hz : (ps.map sizeT).getD k (0, false) = sizeT ps[k] := by simp [hlt]
   have hE : endZ (ps.map sizeT) k ≤ 91 := by
    have := endZ_le (ps.map sizeT) 12 (fun j => by
     by_cases hj : j < ps.length
     ·simp [hj]
      exact hm _ (List.getElem_mem hj)
     ·simp [hj]) k
    omega
   have hsucc := endZ_succ (ps.map sizeT) k
   have hplc : plcZ (ps.map sizeT) k = if (sizeT ps[k]).2 then endZ (ps.map sizeT) k + endZ (ps.map sizeT) k % 2 else endZ (ps.map sizeT) k := by unfold plcZ; rw [hz]
   rw [hz] at hsucc
   clear hz hS hm
   generalize hps : ps[k] = p at *
   gi_wp2
   refine ⟨trivial, fun h => (by cases h), ?_⟩
   refine (callsIn_wide.2 (hSk _ _ (Rep.keep ((Below.refl _ _).alloc (Nat.le_refl _) _) _ _ hrep))).mono ?_
   rintro e w2 ⟨rfl, hb2⟩
   have hJ2 := hJ _ _ _ none hJs (grown_of (((Below.refl wr.heap.size wr).alloc (Nat.le_refl _) _).trans (hb2.mono (by simp)))) (fun r e => by cases e)
   have hnx2 : Below w0.heap.size W w2 := hnx.trans (((Below.refl w0.heap.size wr).alloc (Nat.le_trans hw.size (by have := hnx.size; omega)) _).trans (hb2.mono (by have := hw.size; simp; omega)))
   have hsz2 : W.heap.size ≤ w2.heap.size := by have := hb2.size; simp at this; omega
   obtain ⟨fn, tmps, assign, body, hy, hR⟩ := hY k w2 hJ2 hlt
   have hk91 : (k : Int) < 7 := by omega
   clear hb2 hnx hsz hJs hrep0 hrep c0 c1 c2 c3 c4 hSk hb0
   rcases hzz : sizeT p with ⟨z, ev⟩
   rw [hzz] at hsucc hplc hmk
   generalize hEE : endZ (ps.map sizeT) k = E at *
   generalize hqq : plcZ (ps.map sizeT) k = q at *
   dsimp only at hsucc hplc hmk
   cases ev
   ·have hq : q = E := by simpa using hplc
    subst hq
    clear hplc
    gi_wp2
    refine ⟨fun h => (by cases h), hR.mono ?_⟩
    rintro e W3 (⟨rfl, hJ3, hk3⟩ | ⟨rfl, hJx3⟩)
    ·gi_wp2
     go_roundw
     case rel => exact ⟨k + 1, by omega, by go_num, by rw [hsucc]; go_num, hJ3, hnx2.trans hk3, Nat.le_trans hsz2 hk3.size⟩
     case measure => simp [intOf] <;> omega
    ·gi_wp2
     refine bodyPost_ret (results_none rfl _ _ _) rfl ?_
     exact ⟨⟨_, rfl⟩, .inr ⟨k + 1, by omega, hJx3⟩⟩
   ·have hq : q = E + E % 2 := by simpa using hplc
    subst hq
    clear hplc
    have hcast : ((E + E % 2 : Nat) : Int) = (E : Int) + (E : Int) % 2 := by simp
    rw [hcast] at hy
    gi_wp2
    refine ⟨fun h => (by cases h), hR.mono ?_⟩
    rintro e W3 (⟨rfl, hJ3, hk3⟩ | ⟨rfl, hJx3⟩)
    ·gi_wp2
     go_roundw
     case rel => exact ⟨k + 1, by omega, by go_num, by rw [hsucc]; go_num, hJ3, hnx2.trans hk3, Nat.le_trans hsz2 hk3.size⟩
     case measure => simp [intOf] <;> omega
    ·gi_wp2
     refine bodyPost_ret (results_none rfl _ _ _) rfl ?_
     exact ⟨⟨_, rfl⟩, .inr ⟨k + 1, by omega, hJx3⟩⟩
  ·obtain rfl : k = ps.length := by omega
   gi_wp2
   go_end0
   exact ⟨⟨_, rfl⟩, .inl hJs⟩
attribute [local go_sem] Oper.semAt_some
theorem fin_take {m k : Nat} (h : k < m) : (List.finRange m).take k ++ [⟨k, h⟩] = (List.finRange m).take (k + 1) := by
 rw [List.take_succ_eq_append_getElem (by simpa using h)]
 simp
theorem laid_stops (n Bn : Nat) (w0 : World) (A : Option Addr) (c : Nat) (ps : List Ty) (hS : ∀ p ∈ ps, Sized p) (hm : ∀ p ∈ ps, (sizeT p).1 ≤ 12) (hl : ps.length ≤ 7) (w : World)
 (hw : Below w0.heap.size w0 w) (hBn : Bn < w.heap.size) (hB : w.cell? ⟨Bn, 3, none⟩ = some (.slice A ps.length c)) (hA : RepL w0 ps A) :
 SeqStopsK Fence.wide n Tryz.prog 98 #[.pointer (some ⟨Bn, 0, none⟩)] (fun x : Fin ps.length => #[Value.int .i64 (x.1 : Int), Value.int .i64 (plcZ (ps.map sizeT) x.1 : Int)]) (Below w0.heap.size)
  (fun ys => ys = List.finRange ps.length) (fun pre => ∃ k, k ≤ ps.length ∧ pre = (List.finRange ps.length).take k) ps.length w := fun l J Jx W hW hJ hJx hY h0 => by
 refine (laid1_in n l Bn w0 A c ps hS hm hl (fun k => J ((List.finRange ps.length).take k)) (fun k => Jx ((List.finRange ps.length).take k)) W (hw.trans (hW.mono hw.size))
  (fun s A B row hs hg hr => hJ _ A B row hs hg hr) (fun s A B row hs hg hr => hJx _ A B row hs hg hr) ?_ ((hW.cell (p := ⟨Bn, 3, none⟩) hBn).trans hB) hA (by simpa using h0)).mono ?_
 ·intro k W1 hk hlt
  have := hY _ ⟨k, hlt⟩ W1 hk (by simp; omega)
  rw [fin_take] at this
  exact this
 ·rintro e W' ⟨he, h | ⟨k, hk, h⟩⟩
  ·exact ⟨he, .inl ⟨_, rfl, by
    have e1 : (List.finRange ps.length).take ps.length = List.finRange ps.length := List.take_of_length_le (by simp)
    rw [e1] at h
    exact h⟩⟩
  ·exact ⟨he, .inr ⟨_, ⟨k, hk, rfl⟩, h⟩⟩
def nF (zs : List (Nat × Bool)) {m : Nat} (pre : List (Fin m)) : Nat := (pre.getLast?).elim 0 fun x => plcZ zs x.1 + (zs.getD x.1 (0, false)).1
def evF (zs : List (Nat × Bool)) {m : Nat} (pre : List (Fin m)) : Bool := pre.any fun x => (zs.getD x.1 (0, false)).2
theorem nF_snoc (zs : List (Nat × Bool)) {m : Nat} (pre : List (Fin m)) (x : Fin m) : nF zs (pre ++ [x]) = plcZ zs x.1 + (zs.getD x.1 (0, false)).1 := by simp [nF]
theorem evF_snoc (zs : List (Nat × Bool)) {m : Nat} (pre : List (Fin m)) (x : Fin m) : evF zs (pre ++ [x]) = (evF zs pre || (zs.getD x.1 (0, false)).2) := by simp [evF]
theorem nF_all (zs : List (Nat × Bool)) : nF zs (List.finRange zs.length) = endZ zs zs.length := by
 rcases hz : zs.length with _ | m
 ·rfl
 ·have h := fin_take (m := m + 1) (k := m) (Nat.lt_succ_self m)
  have e1 : (List.finRange (m + 1)).take (m + 1) = List.finRange (m + 1) := List.take_of_length_le (by simp)
  rw [e1] at h
  rw [← h, nF_snoc]
  rfl
theorem evF_all (zs : List (Nat × Bool)) : evF zs (List.finRange zs.length) = zs.any (·.2) := by
 unfold evF
 rw [Bool.eq_iff_iff, List.any_eq_true, List.any_eq_true]
 constructor
 ·rintro ⟨x, -, hx⟩
  exact ⟨zs[x.1], List.getElem_mem x.2, by simpa using hx⟩
 ·rintro ⟨y, hy, h⟩
  obtain ⟨j, hj, rfl⟩ := List.getElem_of_mem hy
  exact ⟨⟨j, hj⟩, List.mem_finRange _, by simpa [hj] using h⟩
theorem size_long (T : Ty) (h : T.k = 2) : Sized T := by
 intro cs w hr
 obtain ⟨An, cn, Ap, cp, rfl, h1, h2⟩ := hr.five
 rw [sizeT_eq, if_pos h, h]
 go_enter Tryz.func70, Tryz.ntmps70
 go_wp2
 go_ret2
 exact ⟨rfl, bel⟩
theorem size_other (T : Ty) (h2 : T.k ≠ 2) (h3 : T.k ≠ 3) : Sized T := by
 intro cs w hr
 obtain ⟨An, cn, Ap, cp, rfl, -, -⟩ := hr.five
 rw [sizeT_eq, if_neg h2, if_neg h3]
 have d2 : (T.k == 2) = false := by simpa using h2
 have d3 : (T.k == 3) = false := by simpa using h3
 go_enter Tryz.func70, Tryz.ntmps70
 go_wp2
 go_ret2
 exact ⟨rfl, bel⟩
theorem size_struct (T : Ty) (h3 : T.k = 3) (hl : T.ps.length ≤ 7) (hS : ∀ p ∈ T.ps, Sized p) (hm : ∀ p ∈ T.ps, (sizeT p).1 ≤ 12) : Sized T := by
 intro cs w hr
 obtain ⟨An, cn, Ap, cp, rfl, hN, hP⟩ := hr.five
 rw [sizeT_eq, if_neg (by omega), if_pos h3, h3]
 generalize hSZ : sizeZ (T.ps.map sizeT) = S
 refine (callsIn_wide (n := 10)).1 ?_
 refine callsIn_of_wp_marks Tryz.func70 rfl trivial ?_ rfl
 simp only [Tryz.ntmps70, List.size_toArray, List.length_cons, List.length_nil, Nat.reduceAdd, Nat.reduceSub, Array.replicate_succ, Array.replicate_zero, List.push_toArray, List.append_toArray, List.nil_append, List.cons_append]
 gi_wp2_with (refine ⟨trivial, ?_⟩; gi_at_call 90; refine (callsIn_wide.2 (laid_any _ _ _ _ _ _)).mono ?_; rintro e w' ⟨rfl, rfl⟩)
 have hb0 : Below w.heap.size w ((((w.alloc (.cells #[Value.int .i64 3, Value.string T.nm, Value.slice An T.ns.length cn, Value.slice Ap T.ps.length cp, Value.bool T.many] 34)).alloc (.cells #[.int .i64 0] 3)).alloc (.cells #[.bool false] 4)).alloc (.cells #[Value.int .i64 3, Value.string T.nm, Value.slice An T.ns.length cn, Value.slice Ap T.ps.length cp, Value.bool T.many] 34)) := bel
 have x1 : ((((w.alloc (.cells #[Value.int .i64 3, Value.string T.nm, Value.slice An T.ns.length cn, Value.slice Ap T.ps.length cp, Value.bool T.many] 34)).alloc (.cells #[.int .i64 0] 3)).alloc (.cells #[.bool false] 4)).alloc (.cells #[Value.int .i64 3, Value.string T.nm, Value.slice An T.ns.length cn, Value.slice Ap T.ps.length cp, Value.bool T.many] 34)).cell? ⟨w.heap.size + 1, 0, none⟩ = some (.int .i64 0) := by go_simp
 have x2 : ((((w.alloc (.cells #[Value.int .i64 3, Value.string T.nm, Value.slice An T.ns.length cn, Value.slice Ap T.ps.length cp, Value.bool T.many] 34)).alloc (.cells #[.int .i64 0] 3)).alloc (.cells #[.bool false] 4)).alloc (.cells #[Value.int .i64 3, Value.string T.nm, Value.slice An T.ns.length cn, Value.slice Ap T.ps.length cp, Value.bool T.many] 34)).cell? ⟨w.heap.size + 2, 0, none⟩ = some (.bool false) := by go_simp
 have x3 : ((((w.alloc (.cells #[Value.int .i64 3, Value.string T.nm, Value.slice An T.ns.length cn, Value.slice Ap T.ps.length cp, Value.bool T.many] 34)).alloc (.cells #[.int .i64 0] 3)).alloc (.cells #[.bool false] 4)).alloc (.cells #[Value.int .i64 3, Value.string T.nm, Value.slice An T.ns.length cn, Value.slice Ap T.ps.length cp, Value.bool T.many] 34)).cell? ⟨w.heap.size, 3, none⟩ = some (.slice Ap T.ps.length cp) := by go_simp
 have x4 : ((((w.alloc (.cells #[Value.int .i64 3, Value.string T.nm, Value.slice An T.ns.length cn, Value.slice Ap T.ps.length cp, Value.bool T.many] 34)).alloc (.cells #[.int .i64 0] 3)).alloc (.cells #[.bool false] 4)).alloc (.cells #[Value.int .i64 3, Value.string T.nm, Value.slice An T.ns.length cn, Value.slice Ap T.ps.length cp, Value.bool T.many] 34)).cell? ⟨w.heap.size + 3, 3, none⟩ = some (.slice Ap T.ps.length cp) := by go_simp
 have f1 : ((((w.alloc (.cells #[Value.int .i64 3, Value.string T.nm, Value.slice An T.ns.length cn, Value.slice Ap T.ps.length cp, Value.bool T.many] 34)).alloc (.cells #[.int .i64 0] 3)).alloc (.cells #[.bool false] 4)).alloc (.cells #[Value.int .i64 3, Value.string T.nm, Value.slice An T.ns.length cn, Value.slice Ap T.ps.length cp, Value.bool T.many] 34)).frozen? ⟨w.heap.size + 1, 0, none⟩ = false := by go_simp
 have f2 : ((((w.alloc (.cells #[Value.int .i64 3, Value.string T.nm, Value.slice An T.ns.length cn, Value.slice Ap T.ps.length cp, Value.bool T.many] 34)).alloc (.cells #[.int .i64 0] 3)).alloc (.cells #[.bool false] 4)).alloc (.cells #[Value.int .i64 3, Value.string T.nm, Value.slice An T.ns.length cn, Value.slice Ap T.ps.length cp, Value.bool T.many] 34)).frozen? ⟨w.heap.size + 2, 0, none⟩ = false := by go_simp
 have hs0 : ((((w.alloc (.cells #[Value.int .i64 3, Value.string T.nm, Value.slice An T.ns.length cn, Value.slice Ap T.ps.length cp, Value.bool T.many] 34)).alloc (.cells #[.int .i64 0] 3)).alloc (.cells #[.bool false] 4)).alloc (.cells #[Value.int .i64 3, Value.string T.nm, Value.slice An T.ns.length cn, Value.slice Ap T.ps.length cp, Value.bool T.many] 34)).heap.size = w.heap.size + 4 := by simp
 generalize hW0 : ((((w.alloc (.cells #[Value.int .i64 3, Value.string T.nm, Value.slice An T.ns.length cn, Value.slice Ap T.ps.length cp, Value.bool T.many] 34)).alloc (.cells #[.int .i64 0] 3)).alloc (.cells #[.bool false] 4)).alloc (.cells #[Value.int .i64 3, Value.string T.nm, Value.slice An T.ns.length cn, Value.slice Ap T.ps.length cp, Value.bool T.many] 34)) = W0 at *
 refine wpIn_rangeFunc_ownF rfl (by omega) (gf := 98) (lb := #[.pointer (some ⟨w.heap.size + 1 + 1 + 1, 0, none⟩)]) rfl trivial (enters_of Tryz.func98 (by kernel_rfl) rfl)
  (laid_stops 9 (w.heap.size + 3) w Ap cp T.ps hS hm hl W0 hb0 (by omega) x4 hP) belowK_t (belowK_b (by omega)) (Below.refl _ _) (fun _ => rfl)
  (fun pre W => (((W.cell? ⟨w.heap.size + 1, 0, none⟩ = some (.int .i64 (nF (T.ps.map sizeT) pre)) ∧ W.frozen? ⟨w.heap.size + 1, 0, none⟩ = false) ∧ (W.cell? ⟨w.heap.size + 2, 0, none⟩ = some (.bool (evF (T.ps.map sizeT) pre)) ∧ W.frozen? ⟨w.heap.size + 2, 0, none⟩ = false)) ∧ W.cell? ⟨w.heap.size, 3, none⟩ = some (.slice Ap T.ps.length cp)) ∧ Below w.heap.size w W)
  (fun _ _ _ => False)
  (OwnFrom.and (Own.from (fun s A B row hs hg hr => ⟨⟨⟨cell_kept hs.1.1.1 hg hr, (frozen_kept hs.1.1.1 hg hr).trans hs.1.1.2⟩, ⟨cell_kept hs.1.2.1 hg hr, (frozen_kept hs.1.2.1 hg hr).trans hs.1.2.2⟩⟩, cell_kept hs.2 hg hr⟩) _) (ownFrom_below (Nat.le_refl _) (by omega)))
  (fun _ _ _ _ _ hs _ _ => hs)
  ⟨⟨⟨⟨x1, f1⟩, ⟨x2, f2⟩⟩, x3⟩, hb0⟩
  (fun x => { tmps := #[.agg #[Value.int .i64 3, Value.string T.nm, Value.slice An T.ns.length cn, Value.slice Ap T.ps.length cp, Value.bool T.many], .pointer (some ⟨w.heap.size, 0, none⟩), .int .i64 0, .bool false, .pointer (some ⟨w.heap.size + 1, 0, none⟩), .pointer (some ⟨w.heap.size + 1 + 1, 0, none⟩), .int .i64 (x.1 : Int), .int .i64 (plcZ (T.ps.map sizeT) x.1 : Int), undef, undef,
    .pointer (some ⟨w.heap.size, 0, none⟩), .int .i64 3, .bool false, .bool false, .bool true, .bool true, .agg #[Value.int .i64 3, Value.string T.nm, Value.slice An T.ns.length cn, Value.slice Ap T.ps.length cp, Value.bool T.many], .func (.func 98) #[] #[.pointer (some ⟨w.heap.size + 1 + 1 + 1, 0, none⟩)], .int .i64 (x.1 : Int), .int .i64 (plcZ (T.ps.map sizeT) x.1 : Int),
    undef, undef, undef, undef, undef, undef, undef, undef, undef, undef, undef, undef, undef, undef, undef, undef, undef, undef, undef, undef, undef, undef, undef], defers := [] }) ?assign ?body ?done ?stop
 case assign =>
  intro l x W K hK
  gi_wp2
  exact hK
 case body =>
  rintro l pre x W ⟨⟨⟨⟨y1, g1⟩, ⟨y2, g2⟩⟩, y3⟩, hB⟩ _
  dsimp only
  obtain ⟨k, hlt⟩ := x
  dsimp only
  obtain ⟨b, o, cs, rfl, hbl, hc, hrep0⟩ := RepL.at_ T.ps _ (RepL.keep hB T.ps _ hP) k hlt
  obtain ⟨b', o', -, hA', hb', -, -⟩ := RepL.at_ T.ps _ hP k hlt
  obtain ⟨rfl, rfl⟩ : b = b' ∧ o = o' := by simpa using hA'
  clear hA'
  have hrep := hrep0
  obtain ⟨An', cn', Ap', cp', rfl, -, -⟩ := hrep.five
  have c0 := hc 0 _ rfl
  have c1 := hc 1 _ rfl
  have c2 := hc 2 _ rfl
  have c3 := hc 3 _ rfl
  have c4 := hc 4 _ rfl
  rw [Nat.add_zero] at c0
  have hSk := hS _ (List.getElem_mem hlt)
  have hmk := hm _ (List.getElem_mem hlt)
  have hz : (T.ps.map sizeT).getD k (0, false) = sizeT T.ps[k] := by simp [hlt]
  have hn1 := nF_snoc (T.ps.map sizeT) pre ⟨k, hlt⟩
  have he1 := evF_snoc (T.ps.map sizeT) pre ⟨k, hlt⟩
  have hi : (k : Int) < (T.ps.length : Int) := by omega
  dsimp only at hn1 he1
  rw [hz] at hn1 he1
  have hE : plcZ (T.ps.map sizeT) k ≤ 92 := by
   have := endZ_le (T.ps.map sizeT) 12 (fun j => by
    by_cases hj : j < T.ps.length
    ·simp [hj]
     exact hm _ (List.getElem_mem hj)
    ·simp [hj]) k
   unfold plcZ
   split <;> omega
  clear hc hz x1 x2 x3 x4 f1 f2 hb0 hW0 hN hS hm hr
  generalize hps : T.ps[k] = p at *
  generalize nF (T.ps.map sizeT) pre = n0 at *
  generalize hqq : plcZ (T.ps.map sizeT) k = q at *
  generalize evF (T.ps.map sizeT) pre = e0 at *
  rcases hzz : sizeT p with ⟨z, ev⟩
  rw [hzz] at hn1 he1 hmk
  dsimp only at hn1 he1 hmk
  gi_wp2_with fail
  refine ⟨trivial, ?_⟩
  refine (CallsIn.inRound l (callsIn_wide.2 (hSk _ _ hrep))).mono ?_
  rintro e w2 ⟨rfl, hb2⟩
  have z1 := (hb2.cell (p := ⟨w.heap.size + 1, 0, none⟩) (World.block_lt_of_cell? W _ y1)).trans y1
  have z2 := (hb2.cell (p := ⟨w.heap.size + 2, 0, none⟩) (World.block_lt_of_cell? W _ y2)).trans y2
  have z3 := (hb2.cell (p := ⟨w.heap.size, 3, none⟩) (World.block_lt_of_cell? W _ y3)).trans y3
  have k1 := (hb2.frozen (p := ⟨w.heap.size + 1, 0, none⟩) (World.block_lt_of_cell? W _ y1)).trans g1
  have k2 := (hb2.frozen (p := ⟨w.heap.size + 2, 0, none⟩) (World.block_lt_of_cell? W _ y2)).trans g2
  have hko : KeepsOthers W w2 := KeepsOthers.of_grownBy (grown_of hb2) (fun j o h => by cases h)
  have hbw : Below w.heap.size W w2 := hb2.mono hB.size
  clear hb2 c0 c1 c2 c3 c4 y1 y2 y3 g1 g2 hrep hrep0 hSk hP hqq
  rw [hzz]
  cases e0
  ·gi_wp2
   refine ⟨(hko.trans (KeepsOthers.setCell _ _ _)).trans (KeepsOthers.setCell _ _ _), (hbw.setCell (p := ⟨w.heap.size + 1, 0, none⟩) (by simp) _).setCell (p := ⟨w.heap.size + 1 + 1, 0, none⟩) (by simp; omega) _, ?_,
    ((hB.trans hbw).setCell (p := ⟨w.heap.size + 1, 0, none⟩) (by simp) _).setCell (p := ⟨w.heap.size + 1 + 1, 0, none⟩) (by simp; omega) _⟩
   rw [hn1, he1]
   refine ⟨⟨⟨?_, ?_⟩, ⟨?_, ?_⟩⟩, ?_⟩
   ·go_simp
   ·go_simp
   ·go_simp
   ·go_simp
   ·go_simp
  ·gi_wp2
   refine ⟨(hko.trans (KeepsOthers.setCell _ _ _)).trans (KeepsOthers.setCell _ _ _), (hbw.setCell (p := ⟨w.heap.size + 1, 0, none⟩) (by simp) _).setCell (p := ⟨w.heap.size + 1 + 1, 0, none⟩) (by simp; omega) _, ?_,
    ((hB.trans hbw).setCell (p := ⟨w.heap.size + 1, 0, none⟩) (by simp) _).setCell (p := ⟨w.heap.size + 1 + 1, 0, none⟩) (by simp; omega) _⟩
   rw [hn1, he1]
   refine ⟨⟨⟨?_, ?_⟩, ⟨?_, ?_⟩⟩, ?_⟩
   ·go_simp
   ·go_simp
   ·go_simp
   ·go_simp
   ·go_simp
 case done =>
  rintro D ys W hD rfl ⟨⟨⟨⟨y1, g1⟩, ⟨y2, g2⟩⟩, y3⟩, hB⟩ hK
  have hal : nF (T.ps.map sizeT) (List.finRange T.ps.length) = endZ (T.ps.map sizeT) (T.ps.map sizeT).length := by
   have : ∀ m, m = (T.ps.map sizeT).length → nF (T.ps.map sizeT) (List.finRange m) = endZ (T.ps.map sizeT) (T.ps.map sizeT).length := fun m e => by subst e; exact nF_all _
   exact this _ (by simp)
  have hev : evF (T.ps.map sizeT) (List.finRange T.ps.length) = (T.ps.map sizeT).any (·.2) := by
   have : ∀ m, m = (T.ps.map sizeT).length → evF (T.ps.map sizeT) (List.finRange m) = (T.ps.map sizeT).any (·.2) := fun m e => by subst e; exact evF_all _
   exact this _ (by simp)
  have hsz : S = (if (T.ps.map sizeT).any (·.2) then endZ (T.ps.map sizeT) (T.ps.map sizeT).length + endZ (T.ps.map sizeT) (T.ps.map sizeT).length % 2 else endZ (T.ps.map sizeT) (T.ps.map sizeT).length, (T.ps.map sizeT).any (·.2)) := hSZ.symm
  have hE : endZ (T.ps.map sizeT) (T.ps.map sizeT).length ≤ 91 := by
   have := endZ_le (T.ps.map sizeT) 12 (fun j => by
    by_cases hj : j < T.ps.length
    ·simp [hj]
     exact hm _ (List.getElem_mem hj)
    ·simp [hj]) (T.ps.map sizeT).length
   simp only [List.length_map] at this ⊢
   omega
  rw [hal] at y1
  rw [hev] at y2
  clear hSZ hal hev hW0 x1 x2 x3 x4 f1 f2 hb0 hr hN hP hS hm y3
  generalize endZ (T.ps.map sizeT) (T.ps.map sizeT).length = E at *
  generalize (T.ps.map sizeT).any (·.2) = ev at *
  subst hsz
  cases ev
  ·gi_wp2
   gi_region
   all_goals gi_wp2
   refine ⟨by simp, .inl ⟨_, _, rfl, run_takeDeferred (w := W.drew) hK, ?_⟩⟩
   refine ⟨.tuple #[.int .i64 (E : Int), .bool false], by simp [results, Tryz.f70, go_sem], rfl, ?_⟩
   exact hB.drew.trans (belowK_b (w := w) (Nat.le_refl _) W.drew D _ _ (by omega) hK rfl rfl)
  ·have hK' := (KeepsOthers.setCell W ⟨w.heap.size + 1, 0, none⟩ (.int .i64 ((E : Int) + (E : Int) % 2))).same D _ hK rfl
   have hB' := hB.setCell (p := ⟨w.heap.size + 1, 0, none⟩) (by simp) (.int .i64 ((E : Int) + (E : Int) % 2))
   gi_wp2
   gi_region
   all_goals gi_wp2
   refine ⟨by simp, .inl ⟨_, _, rfl, run_takeDeferred (w := (W.setCell ⟨w.heap.size + 1, 0, none⟩ (.int .i64 ((E : Int) + (E : Int) % 2))).drew) hK', ?_⟩⟩
   refine ⟨.tuple #[.int .i64 ((E : Int) + (E : Int) % 2), .bool true], by simp [results, Tryz.f70, go_sem], by simp, ?_⟩
   exact hB'.drew.trans (belowK_b (w := w) (Nat.le_refl _) (W.setCell ⟨w.heap.size + 1, 0, none⟩ (.int .i64 ((E : Int) + (E : Int) % 2))).drew D _ _ (by omega) hK' rfl rfl)
 case stop =>
  rintro D c pre W _ _ h _
  exact h.elim
noncomputable def mayT : Nat → Ty → Bool
 | 0, _ => false
 | d + 1, T =>
  if T.k = 1 ∨ T.k = 2 then bareT T && (T.ps.length == 0) && !T.many
  else if T.k = 3 then !T.many && nameOf T.nm && (T.ns.length == T.ps.length) && (decide (1 ≤ T.ps.length) && decide (T.ps.length ≤ 6) && T.ps.all (mayT d)) && namedL T.ns && decide ((sizeT T).1 ≤ 12)
  else if T.k = 4 then bareT T && (decide (1 ≤ T.ps.length) && decide (T.ps.length ≤ 7) && T.ps.all (mayT d))
  else false
noncomputable def partsT (d lo hi : Nat) (ps : List Ty) : Bool := decide (lo ≤ ps.length) && decide (ps.length ≤ hi) && ps.all (mayT d)
theorem sized_of_may : ∀ (d : Nat) (T : Ty), mayT d T = true → Sized T ∧ (sizeT T).1 ≤ 12
 | 0, T, h => by cases h
 | d + 1, T, h => by
  unfold mayT at h
  by_cases h12 : T.k = 1 ∨ T.k = 2
  ·rcases h12 with h1 | h1
   ·exact ⟨size_other T (by omega) (by omega), by rw [sizeT_eq, if_neg (by omega), if_neg (by omega)]; decide⟩
   ·exact ⟨size_long T h1, by rw [sizeT_eq, if_pos h1]; decide⟩
  ·rw [if_neg h12] at h
   by_cases h3 : T.k = 3
   ·rw [if_pos h3] at h
    simp only [Bool.and_eq_true, decide_eq_true_eq, List.all_eq_true] at h
    obtain ⟨⟨⟨-, ⟨⟨_, hl⟩, hp⟩⟩, -⟩, hs⟩ := h
    exact ⟨size_struct T h3 (by omega) (fun p hp' => (sized_of_may d p (hp p hp')).1) (fun p hp' => (sized_of_may d p (hp p hp')).2), hs⟩
   ·exact ⟨size_other T (fun e => h12 (.inr e)) h3, by rw [sizeT_eq, if_neg (fun e => h12 (.inr e)), if_neg h3]; decide⟩
def Within (d : Nat) (T : Ty) : Prop := ∀ (cs : List Value) (w : World), Rep w T cs → ML w → Calls Tryz.prog 47 #[.agg cs.toArray, .int .i64 d] w fun e w' => e = .returned (.bool (mayT d T)) ∧ Below w.heap.size w w'
def PartsRel (d : Nat) (ps : List Ty) (w : World) (i : Value) (wr : World) : Prop :=
 ∃ k : Nat, k ≤ ps.length ∧ i = .int .i64 k ∧ (∀ j (h : j < ps.length), j < k → mayT d ps[j] = true) ∧ Below w.heap.size w wr
theorem parts_no {d lo mo : Nat} {ps : List Ty} {k : Nat} (hk : k < ps.length) (h : mayT d ps[k] = false) : partsT d lo mo ps = false := by
 rcases hn : partsT d lo mo ps with _ | _
 ·rfl
 ·simp only [partsT, Bool.and_eq_true, List.all_eq_true] at hn
  rw [hn.2 _ (List.getElem_mem hk)] at h
  cases h
theorem parts_yes {d lo mo : Nat} {ps : List Ty} (h1 : lo ≤ ps.length) (h2 : ps.length ≤ mo) (h : ∀ j (h : j < ps.length), mayT d ps[j] = true) : partsT d lo mo ps = true := by
 simp only [partsT, Bool.and_eq_true, List.all_eq_true, decide_eq_true_eq]
 refine ⟨⟨h1, h2⟩, fun x hx => ?_⟩
 obtain ⟨j, hj, rfl⟩ := List.getElem_of_mem hx
 exact h j hj
theorem parts_any (d lo mo : Nat) (hd : d ≤ 100) (hlo : lo ≤ 100) (hmo : mo ≤ 100) (ps : List Ty) (IH : ∀ p ∈ ps, Within d p) (B1 B2 : Nat) (A : Option Addr) (c : Nat) (w : World)
 (h1 : w.cell? ⟨B1, 3, none⟩ = some (.slice A ps.length c)) (h2 : w.cell? ⟨B2, 0, none⟩ = some (.int .i64 ((d : Int) + 1))) (hr : RepL w ps A) (hm : ML w) :
 Calls Tryz.prog 73 #[.int .i64 lo, .int .i64 mo, .pointer (some ⟨B1, 0, none⟩), .pointer (some ⟨B2, 0, none⟩)] w fun e w' => e = .returned (.bool (partsT d lo mo ps)) ∧ Below w.heap.size w w' := by
 by_cases hl1 : lo ≤ ps.length
 ·by_cases hl2 : ps.length ≤ mo
  ·have d1 : ¬ ps.length < lo := by omega
   have d2 : ¬ mo < ps.length := by omega
   go_enter Tryz.func73, Tryz.ntmps73
   go_wp2
   go_loopw [6, 8, 24] (fun _ _ i wr => PartsRel d ps w i wr) (fun _ _ i _ => ps.length - (intOf i).toNat)
   case atStart => exact ⟨0, Nat.zero_le _, rfl, fun j _ h => absurd h (by omega), Below.refl _ _⟩
   case round =>
    obtain ⟨k, hk, rfl, hg, hb⟩ := hrel
    have hsz := hb.size
    by_cases hlt : k < ps.length
    ·obtain ⟨b, o, cs, rfl, hbl, hc, hrep0⟩ := RepL.at_ ps _ (RepL.keep hb ps _ hr) k hlt
     have hrep := hrep0
     obtain ⟨An', cn', Ap', cp', rfl, -, -⟩ := hrep.five
     have c0 := hc 0 _ rfl
     have c1 := hc 1 _ rfl
     have c2 := hc 2 _ rfl
     have c3 := hc 3 _ rfl
     have c4 := hc 4 _ rfl
     rw [Nat.add_zero] at c0
     have e2 := (hb.cell (p := ⟨B2, 0, none⟩) (World.block_lt_of_cell? w _ h2)).trans h2
     have hB2 : B2 < wr.heap.size := Nat.lt_of_lt_of_le (World.block_lt_of_cell? w _ h2) hsz
     have hIH := IH _ (List.getElem_mem hlt)
     have hml := hm.keep hb
     have hno := @parts_no d lo mo ps k hlt
     have HG : Hid (mayT d ps[k] = true → ∀ j (h : j < ps.length), j < k + 1 → mayT d ps[j] = true) := fun h0 j h hj => by
      rcases Nat.lt_or_ge j k with h1 | h1
      ·exact hg j h h1
      ·obtain rfl : j = k := by omega
       exact h0
     have hi : (k : Int) < (ps.length : Int) := by omega
     clear hc hg
     generalize hps : ps[k] = p at *
     rcases hmy : mayT d p with _ | _
     ·have hN := Lh (hno hmy)
      clear hno
      go_wp2_with fail
      refine (hIH _ _ (Rep.keep ((Below.refl _ _).alloc (Nat.le_refl _) _) _ _ hrep) (hml.keep ((Below.refl _ _).alloc (Nat.le_refl _) _))).mono ?_
      rintro e w2 ⟨rfl, hb2⟩
      have hb3 : Below w.heap.size w w2 := hb.trans (((Below.refl w.heap.size wr).alloc hsz _).trans (hb2.mono (by simp; omega)))
      rw [hmy]
      clear hrep hrep0 hb2 c0 c1 c2 c3 c4 hIH
      go_wp2
      go_ret
      exact ⟨by first | (rw [hN.out]; rfl) | rfl, hb3⟩
     ·clear hno
      go_wp2_with fail
      refine (hIH _ _ (Rep.keep ((Below.refl _ _).alloc (Nat.le_refl _) _) _ _ hrep) (hml.keep ((Below.refl _ _).alloc (Nat.le_refl _) _))).mono ?_
      rintro e w2 ⟨rfl, hb2⟩
      have hb3 : Below w.heap.size w w2 := hb.trans (((Below.refl w.heap.size wr).alloc hsz _).trans (hb2.mono (by simp; omega)))
      rw [hmy]
      clear hrep hrep0 hb2 c0 c1 c2 c3 c4 hIH
      go_wp2
      go_roundw
      case rel => exact ⟨k + 1, by omega, by go_num, HG.out hmy, hb3⟩
      case measure => simp [intOf] <;> omega
    ·have hi : (ps.length : Int) ≤ (k : Int) := by omega
     obtain rfl : k = ps.length := by omega
     have hy : partsT d lo mo ps = true := parts_yes hl1 hl2 (fun j h => hg j h h)
     go_wp2
     go_ret
     exact ⟨by first | (rw [hy]; rfl) | rfl, bel⟩
  ·have hn : partsT d lo mo ps = false := by simp [partsT, hl2]
   have d1 : ¬ ps.length < lo := by omega
   have d2 : mo < ps.length := by omega
   go_enter Tryz.func73, Tryz.ntmps73
   go_wp2
   go_ret
   exact ⟨by first | (rw [hn]; rfl) | rfl, bel⟩
 ·have hn : partsT d lo mo ps = false := by simp [partsT, hl1]
  have d1 : ps.length < lo := by omega
  go_enter Tryz.func73, Tryz.ntmps73
  go_wp2
  go_ret
  exact ⟨by first | (rw [hn]; rfl) | rfl, bel⟩
def TBox (w1 : World) (H : Nat) (a0 a1 a2 a3 a4 d : Value) : Prop :=
 (w1.cell? ⟨H, 0, none⟩ = some a0 ∧ w1.cell? ⟨H, 1, none⟩ = some a1 ∧ w1.cell? ⟨H, 2, none⟩ = some a2 ∧ w1.cell? ⟨H, 3, none⟩ = some a3 ∧ w1.cell? ⟨H, 4, none⟩ = some a4 ∧ w1.cell? ⟨H + 1, 0, none⟩ = some d) ∧ H + 1 < w1.heap.size
theorem TBox.keep {w1 w2 : World} {H : Nat} {a0 a1 a2 a3 a4 d : Value} (h : TBox w1 H a0 a1 a2 a3 a4 d) (hb : Below w1.heap.size w1 w2) : TBox w2 H a0 a1 a2 a3 a4 d := by
 obtain ⟨⟨h0, h1, h2, h3, h4, h5⟩, hl⟩ := h
 have hl' : H < w1.heap.size := by omega
 exact ⟨⟨(hb.cell (p := ⟨H, 0, none⟩) hl').trans h0, (hb.cell (p := ⟨H, 1, none⟩) hl').trans h1, (hb.cell (p := ⟨H, 2, none⟩) hl').trans h2, (hb.cell (p := ⟨H, 3, none⟩) hl').trans h3, (hb.cell (p := ⟨H, 4, none⟩) hl').trans h4, (hb.cell (p := ⟨H + 1, 0, none⟩) hl).trans h5⟩, Nat.lt_of_lt_of_le hl hb.size⟩
theorem within_zero (T : Ty) : Within 0 T := by
 intro cs w hr hm
 obtain ⟨An, cn, Ap, cp, rfl, -, -⟩ := hr.five
 have hn : mayT 0 T = false := rfl
 go_enter Tryz.func47, Tryz.ntmps47
 go_wp2
 go_ret
 exact ⟨by first | (rw [hn]; rfl) | rfl, bel⟩
theorem within_plain (d : Nat) (hd : d ≤ 50) (T : Ty) (h : T.k = 1 ∨ T.k = 2) : Within (d + 1) T := by
 intro cs w hr hm
 have hr0 := hr
 obtain ⟨An, cn, Ap, cp, rfl, -, -⟩ := hr.five
 have hn : mayT (d + 1) T = (bareT T && (T.ps.length == 0) && !T.many) := by unfold mayT; rw [if_pos h]
 rw [hn]
 have d0 : ¬ ((d : Int) + 1 < 1) := by omega
 have go : ∀ k, (k = 1 ∨ k = 2) → T.k = k → Calls Tryz.prog 47 #[.agg #[.int .i64 T.k, .string T.nm, .slice An T.ns.length cn, .slice Ap T.ps.length cp, .bool T.many], .int .i64 ((d + 1 : Nat) : Int)] w fun e w' => e = .returned (.bool (bareT T && (T.ps.length == 0) && !T.many)) ∧ Below w.heap.size w w' := by
  intro k hk hTk
  have hbx : TBox ((w.alloc (.cells #[.int .i64 T.k, .string T.nm, .slice An T.ns.length cn, .slice Ap T.ps.length cp, .bool T.many] 34)).alloc (.cells #[.int .i64 ((d : Int) + 1)] 3)) w.heap.size (.int .i64 T.k) (.string T.nm) (.slice An T.ns.length cn) (.slice Ap T.ps.length cp) (.bool T.many) (.int .i64 ((d : Int) + 1)) :=
   ⟨⟨by go_simp, by go_simp, by go_simp, by go_simp, by go_simp, by go_simp⟩, by simp⟩
  have hb0 : Below w.heap.size w ((w.alloc (.cells #[.int .i64 T.k, .string T.nm, .slice An T.ns.length cn, .slice Ap T.ps.length cp, .bool T.many] 34)).alloc (.cells #[.int .i64 ((d : Int) + 1)] 3)) := bel
  have HR := Lh (Rep.keep hb0 _ _ hr)
  rw [hTk] at hbx hb0 HR ⊢
  clear hr hn hr0
  generalize T.ps.length = np at *
  generalize T.many = mn at *
  rcases hk with rfl | rfl
  ·go_enter Tryz.func47, Tryz.ntmps47
   go_wp2_with fail
   refine (bare_any T _ _ HR.out).mono ?_
   rintro e w1 ⟨rfl, hb1⟩
   obtain ⟨⟨q0, q1, q2, q3, q4, q5⟩, ql⟩ := hbx.keep hb1
   have hb2 := hb0.trans (hb1.mono (by simp; omega))
   clear hb1 hbx hb0 HR
   rcases hbt : bareT T with _ | _
   ·go_wp2
    go_ret
    exact ⟨by first | (rw [hbt]; rfl) | (rw [hbt, hz2]; rfl), hb2⟩
   ·by_cases hnp : np = 0
    ·subst hnp
     cases mn
     ·go_wp2
      go_ret
      exact ⟨by first | (rw [hbt]; rfl) | (rw [hbt, hz2]; rfl), hb2⟩
     ·go_wp2
      go_ret
      exact ⟨by first | (rw [hbt]; rfl) | (rw [hbt, hz2]; rfl), hb2⟩
    ·have hz : (((np : Nat) : Int) == 0) = false := by simpa using hnp
     have hz2 : (np == 0) = false := by simpa using hnp
     go_wp2
     go_ret
     exact ⟨by first | (rw [hbt]; rfl) | (rw [hbt, hz2]; rfl), hb2⟩
  ·go_enter Tryz.func47, Tryz.ntmps47
   go_wp2_with fail
   refine (bare_any T _ _ HR.out).mono ?_
   rintro e w1 ⟨rfl, hb1⟩
   obtain ⟨⟨q0, q1, q2, q3, q4, q5⟩, ql⟩ := hbx.keep hb1
   have hb2 := hb0.trans (hb1.mono (by simp; omega))
   clear hb1 hbx hb0 HR
   rcases hbt : bareT T with _ | _
   ·go_wp2
    go_ret
    exact ⟨by first | (rw [hbt]; rfl) | (rw [hbt, hz2]; rfl), hb2⟩
   ·by_cases hnp : np = 0
    ·subst hnp
     cases mn
     ·go_wp2
      go_ret
      exact ⟨by first | (rw [hbt]; rfl) | (rw [hbt, hz2]; rfl), hb2⟩
     ·go_wp2
      go_ret
      exact ⟨by first | (rw [hbt]; rfl) | (rw [hbt, hz2]; rfl), hb2⟩
    ·have hz : (((np : Nat) : Int) == 0) = false := by simpa using hnp
     have hz2 : (np == 0) = false := by simpa using hnp
     go_wp2
     go_ret
     exact ⟨by first | (rw [hbt]; rfl) | (rw [hbt, hz2]; rfl), hb2⟩
 rcases h with h1 | h1
 ·exact go 1 (.inl rfl) h1
 ·exact go 2 (.inr rfl) h1
end Go.Proofs.YthihaeobkoiljaaGreat
