/- Types as trees; a type that lies in memory; the walks of types.bare and types.named. -/
import Derived.Test.YtkkjkbljgaipcaaTypA
import Derived.Test.YtkkjkbljgaipcaaMap
import Derived.Deep.DeepMust
namespace Go.Proofs.Ytkkjkbljgaipcaa
open Go.RowKit
open Go.Maps (Keyed)
set_option linter.unusedVariables false
set_option linter.unusedSimpArgs false
set_option maxRecDepth 100000
/-- a type: its kind, name, names, parts, many -/
inductive Ty where
  | mk (k : Int) (nm : ByteArray) (ns : List ByteArray) (ps : List Ty) (many : Bool)
def Ty.k : Ty → Int | .mk k _ _ _ _ => k
def Ty.nm : Ty → ByteArray | .mk _ n _ _ _ => n
def Ty.ns : Ty → List ByteArray | .mk _ _ l _ _ => l
def Ty.ps : Ty → List Ty | .mk _ _ _ l _ => l
def Ty.many : Ty → Bool | .mk _ _ _ _ m => m
mutual
/-- these cells are type T in world w -/
def Rep (w : World) : Ty → List Value → Prop
  | .mk k nm ns ps many, cs => ∃ An cn Ap cp, cs = [.int .i64 k, .string nm, .slice An ns.length cn, .slice Ap ps.length cp, .bool many] ∧ Row w An (ns.map .string) ∧ RepL w ps Ap ∧ ps.length ≤ cp ∧ ns.length ≤ cn
/-- from address A on lie these types -/
def RepL (w : World) : List Ty → Option Addr → Prop
  | [], _ => True
  | t :: ts, A => ∃ b o cs, A = some ⟨b, o, none⟩ ∧ b < w.heap.size ∧ (∀ j v, cs[j]? = some v → w.cell? ⟨b, o + j, none⟩ = some v) ∧ Rep w t cs ∧ RepL w ts (some ⟨b, o + 5, none⟩)
end
theorem Rep.five {w : World} {T : Ty} {cs : List Value} (h : Rep w T cs) : ∃ An cn Ap cp, cs = [.int .i64 T.k, .string T.nm, .slice An T.ns.length cn, .slice Ap T.ps.length cp, .bool T.many] ∧ Row w An (T.ns.map .string) ∧ RepL w T.ps Ap := by
  cases T
  unfold Rep at h
  obtain ⟨An, cn, Ap, cp, h0, h1, h2, -⟩ := h
  exact ⟨An, cn, Ap, cp, h0, h1, h2⟩
theorem Rep.cap {w : World} {T : Ty} {a b c e : Value} {Ap : Option Addr} {n cp : Nat} (h : Rep w T [a, b, c, .slice Ap n cp, e]) : T.ps.length ≤ cp := by
  cases T
  unfold Rep at h
  obtain ⟨An, cn, Ap', cp', h0, -, -, h3, -⟩ := h
  simp at h0
  simp only [Ty.ps]
  omega
theorem Rep.capN {w : World} {T : Ty} {a b d e : Value} {An : Option Addr} {n cn : Nat} (h : Rep w T [a, b, .slice An n cn, d, e]) : T.ns.length ≤ cn := by
  cases T
  unfold Rep at h
  obtain ⟨An, cn, Ap', cp', h0, -, -, -, h3⟩ := h
  simp at h0
  simp only [Ty.ns]
  omega
theorem Rep.of {w : World} {T : Ty} {An Ap : Option Addr} {cn cp : Nat} (h1 : Row w An (T.ns.map .string)) (h2 : RepL w T.ps Ap) (h3 : T.ps.length ≤ cp) (h4 : T.ns.length ≤ cn) : Rep w T [.int .i64 T.k, .string T.nm, .slice An T.ns.length cn, .slice Ap T.ps.length cp, .bool T.many] := by
  cases T
  unfold Rep
  exact ⟨An, cn, Ap, cp, rfl, h1, h2, h3, h4⟩
mutual
theorem Rep.keep {w w' : World} (hb : Below w.heap.size w w') : ∀ (T : Ty) (cs : List Value), Rep w T cs → Rep w' T cs
  | .mk k nm ns ps many, cs, h => by
    unfold Rep at h ⊢
    obtain ⟨An, cn, Ap, cp, rfl, h1, h2, h3⟩ := h
    exact ⟨An, cn, Ap, cp, rfl, h1.keep hb, RepL.keep hb ps Ap h2, h3⟩
theorem RepL.keep {w w' : World} (hb : Below w.heap.size w w') : ∀ (ts : List Ty) (A : Option Addr), RepL w ts A → RepL w' ts A
  | [], _, _ => by unfold RepL; trivial
  | t :: ts, A, h => by
    unfold RepL at h ⊢
    obtain ⟨b, o, cs, rfl, hlt, hc, h1, h2⟩ := h
    exact ⟨b, o, cs, rfl, Nat.lt_of_lt_of_le hlt hb.size, fun j v hj => (hb.cell (p := ⟨b, o + j, none⟩) hlt).trans (hc j v hj), Rep.keep hb t cs h1, RepL.keep hb ts _ h2⟩
end
theorem RepL.at_ {w : World} : ∀ (ts : List Ty) (A : Option Addr), RepL w ts A → ∀ (i : Nat) (h : i < ts.length), ∃ b o cs, A = some ⟨b, o, none⟩ ∧ b < w.heap.size ∧ (∀ j v, cs[j]? = some v → w.cell? ⟨b, o + i * 5 + j, none⟩ = some v) ∧ Rep w ts[i] cs
  | t :: ts, A, h, 0, _ => by
    unfold RepL at h
    obtain ⟨b, o, cs, rfl, hlt, hc, h1, h2⟩ := h
    exact ⟨b, o, cs, rfl, hlt, by simpa using hc, h1⟩
  | t :: ts, A, h, i + 1, hi => by
    unfold RepL at h
    obtain ⟨b, o, cs, rfl, hlt, hc, h1, h2⟩ := h
    obtain ⟨b', o', cs', hA, hlt', hc', h3⟩ := RepL.at_ ts _ h2 i (by simpa using hi)
    obtain ⟨rfl, rfl⟩ : b = b' ∧ o + 5 = o' := by simpa using hA
    refine ⟨b, o, cs', rfl, hlt, fun j v hj => ?_, by simpa using h3⟩
    rw [show o + (i + 1) * 5 + j = o + 5 + i * 5 + j by omega]
    exact hc' j v hj
/-- nothing is said beside the kind and the parts -/
def bareT (T : Ty) : Bool := T.nm.toList.isEmpty && (((T.ns.length : Nat) : Int) == 0)
open Classical in
noncomputable def namedL (l : List ByteArray) : Bool := l.all nameOf && decide l.Nodup
theorem bare_any (T : Ty) (cs : List Value) (w : World) (h : Rep w T cs) : Calls Try.prog 89 #[.agg cs.toArray] w fun e w' => e = .returned (.bool (bareT T)) ∧ Below w.heap.size w w' := by
  obtain ⟨An, cn, Ap, cp, rfl, h1, h2⟩ := h.five
  clear h h1 h2
  have HE : Hid (bareT T = (T.nm.toList.isEmpty && (((T.ns.length : Nat) : Int) == 0))) := rfl
  generalize T.nm = nm at *
  generalize T.ns.length = n at *
  go_enter Try.func89, Try.ntmps89
  go_wp2
  · go_ret
    have h0 : nm.toList.isEmpty = true := by simpa using (by assumption : nm.toList = [])
    exact ⟨by rw [HE.out, h0]; rfl, by (repeat (first | with_reducible assumption | with_reducible exact Below.refl _ _ | (refine Below.setCell ?_ (by first | omega | (simp; done) | (simp; omega)) _) | (refine Below.drewN_ ?_ _) | (refine Below.drew ?_) | (refine Below.alloc ?_ (by first | omega | (simp; done) | (simp; omega)) _)))⟩
  · go_ret
    have h0 : nm.toList.isEmpty = false := by
      rcases hh : nm.toList.isEmpty with _ | _
      · rfl
      · exact absurd (by simpa using hh) (by assumption : ¬ nm.toList = [])
    exact ⟨by rw [HE.out, h0]; rfl, by (repeat (first | with_reducible assumption | with_reducible exact Below.refl _ _ | (refine Below.setCell ?_ (by first | omega | (simp; done) | (simp; omega)) _) | (refine Below.drewN_ ?_ _) | (refine Below.drew ?_) | (refine Below.alloc ?_ (by first | omega | (simp; done) | (simp; omega)) _)))⟩
/-- the names that are in the map -/
noncomputable def strF (l : List ByteArray) : Value → Option Value := l.foldl (fun g s => gput g (.string s) (.bool true)) (fun _ => none)
theorem strF_snoc (l : List ByteArray) (s : ByteArray) : strF (l ++ [s]) = gput (strF l) (.string s) (.bool true) := by
  unfold strF; rw [List.foldl_append]; rfl
open Classical in
noncomputable def strIn (l : List ByteArray) (s : ByteArray) : Bool := decide (s ∈ l)
theorem strF_get (l : List ByteArray) (s : ByteArray) : strF l.reverse (.string s) = if strIn l.reverse s then some (.bool true) else none := by
  induction l with
  | nil => simp [strF, strIn]
  | cons m l ih =>
    rw [List.reverse_cons, strF_snoc]
    by_cases h : s = m
    · subst h
      rw [gput_same, if_pos (by simp [strIn])]
    · rw [gput_other _ _ _ _ (fun e => h (by simpa using e)), ih]
      have : strIn (l.reverse ++ [m]) s = strIn l.reverse s := by
        unfold strIn
        rw [decide_eq_decide, List.mem_append]
        simp [h]
      rw [this]
theorem str_get (l : List ByteArray) (s : ByteArray) : (strF l (.string s)).getD (.bool false) = .bool (strIn l s) := by
  have h := strF_get l.reverse s
  rw [List.reverse_reverse] at h
  rw [h]
  cases strIn l s <;> rfl
theorem str_keyed : Keyed Try.prog 9 := Maps.string_keyed Try.underlying9
theorem upd_below {B : Nat} {w W0 w2 : World} (hB : B ≤ w.heap.size) (hb0 : Below B w W0) (hg : W0.grownBy w2 (some B)) : Below B w w2 :=
  ⟨hg.os.trans hb0.os, hg.tape.trans hb0.tape, hg.output.trans hb0.output, Nat.le_trans hb0.size hg.size, fun k hk => by
    by_cases hlt : k < W0.heap.size
    · exact (hg.block k hlt (by simp; omega)).trans (hb0.block k hk)
    · exact absurd (Nat.lt_of_lt_of_le hk (Nat.le_trans hB hb0.size)) hlt⟩
theorem look_str (l : List ByteArray) (W : World) (B : Nat) (s : ByteArray) (h : MapIs Try.prog 9 W B (strF l)) {kl : Lit} (hkey : keyOf Try.prog 9 (.string s) = some kl) :
    (Instr.lookup 136 (.map (some B)) (.string s) false).run Try.prog W = .ok (.bool (strIn l s)) W := by
  rw [← str_get]
  exact MapIs.lookup h str_keyed Try.underlying136 (by kernel_rfl) hkey
theorem keyOf_str (s : ByteArray) (hs : s.size ≤ maxLen) : ∃ l, keyOf Try.prog 9 (.string s) = some l := by
  unfold keyOf
  simp only [Try.underlying9]
  unfold mapKey
  simp only [Try.underlying9, hs, if_true]
  exact ⟨_, rfl⟩
theorem Row.str {w : World} {A : Option Addr} {l : List ByteArray} (h : Row w A (l.map .string)) {k : Nat} (hk : k < l.length) :
    ∃ b o, A = some ⟨b, o, none⟩ ∧ b < w.heap.size ∧ w.cell? ⟨b, o + k, none⟩ = some (.string l[k]) := by
  obtain ⟨b, o, hA, hlt, hc⟩ := h.at_ (fun e => by have := congrArg List.length e; simp at this; subst this; simp at hk)
  exact ⟨b, o, hA, hlt, hc k _ (by simp [hk])⟩
def NamedRel (l : List ByteArray) (B : Nat) (w : World) (i : Value) (wr : World) : Prop :=
  ∃ k : Nat, k ≤ l.length ∧ i = .int .i64 k ∧ (∀ j (h : j < l.length), j < k → nameOf l[j] = true) ∧ (l.take k).Nodup ∧ MapIs Try.prog 9 wr B (strF (l.take k)) ∧ Below w.heap.size w wr
theorem named_no {l : List ByteArray} {k : Nat} (hk : k < l.length) (h : nameOf l[k] = false ∨ strIn (l.take k) l[k] = true) : namedL l = false := by
  rcases hn : namedL l with _ | _
  · rfl
  · simp only [namedL, Bool.and_eq_true, List.all_eq_true, decide_eq_true_eq] at hn
    obtain ⟨h1, h2⟩ := hn
    rcases h with h | h
    · rw [h1 _ (List.getElem_mem hk)] at h; cases h
    · simp only [strIn, decide_eq_true_eq] at h
      exfalso
      rw [← List.take_append_drop k l, List.nodup_append] at h2
      exact h2.2.2 _ h l[k] (by rw [List.drop_eq_getElem_cons hk]; exact List.mem_cons_self) rfl
theorem named_yes {l : List ByteArray} (h : ∀ j (h : j < l.length), nameOf l[j] = true) (hn : l.Nodup) : namedL l = true := by
  simp only [namedL, Bool.and_eq_true, List.all_eq_true, decide_eq_true_eq]
  refine ⟨fun x hx => ?_, hn⟩
  obtain ⟨j, hj, rfl⟩ := List.getElem_of_mem hx
  exact h j hj
theorem nodup_snoc {l : List ByteArray} {k : Nat} (hk : k < l.length) (h : (l.take k).Nodup) (hs : strIn (l.take k) l[k] = false) : (l.take (k + 1)).Nodup := by
  rw [List.take_succ_eq_append_getElem hk, List.nodup_append]
  refine ⟨h, by simp, fun a ha b hb e => ?_⟩
  rw [List.mem_singleton] at hb
  subst hb
  subst e
  simp [strIn] at hs
  exact hs ha
theorem named_any (A : Option Addr) (c : Nat) (l : List ByteArray) (w : World) (hr : Row w A (l.map .string)) (hmx : l.length ≤ 9223372036854775806) (hm : ML w) :
    Calls Try.prog 90 #[.slice A l.length c] w fun e w' => e = .returned (.bool (namedL l)) ∧ Below w.heap.size w w' := by
  have hmm := @run_makeMap Try.prog
  go_enter Try.func90, Try.ntmps90
  go_wp2
  go_loopw [2, 5, 9] (fun _ _ i wr => NamedRel l w.heap.size w i wr) (fun _ _ i _ => l.length - (intOf i).toNat)
  case atStart => exact ⟨0, Nat.zero_le _, rfl, fun j _ h => absurd h (by omega), by simp, MapIs.made _ _ _, (Below.refl _ _).alloc (Nat.le_refl _) _⟩
  case round =>
    obtain ⟨k, hk, rfl, hg, hnd, hmap, hb⟩ := hrel
    have hsz := hb.size
    by_cases hlt : k < l.length
    · obtain ⟨b, o, rfl, hbl, c0⟩ := hr.str hlt
      rw [← keep_cell hb hbl] at c0
      have hml := hm.keep hb
      have hi : (k : Int) < (l.length : Int) := by omega
      have hno := @named_no l k hlt
      have hyes := @nodup_snoc l k hlt hnd
      have HG : Hid (nameOf l[k] = true → ∀ j (h : j < l.length), j < k + 1 → nameOf l[j] = true) := fun h0 j h hj => by
        rcases Nat.lt_or_ge j k with h1 | h1
        · exact hg j h h1
        · obtain rfl : j = k := by omega
          exact h0
      have HS : Hid (strF (l.take (k + 1)) = gput (strF (l.take k)) (.string l[k]) (.bool true)) := by
        unfold Hid; rw [List.take_succ_eq_append_getElem hlt, strF_snoc]
      have HZ : Hid (nameOf l[k] = true → l[k].size ≤ 16) := fun h => (name_false h).2.1
      have HM := Lib.hid hmap
      clear hg hnd hmap
      generalize hs : l[k] = s at *
      rcases hn : nameOf s with _ | _
      · have hN := Lib.hid (hno (.inl hn))
        clear hno hyes HG HS HZ HM
        go_wp2_with (first
          | (go_at_call 32; refine (isName_any _ _ (by assumption)).mono ?_; rintro e w' ⟨rfl, hw⟩; subst hw))
        go_ret
        exact ⟨by first | (rw [hN.out]; rfl) | rfl, by (repeat (first | with_reducible assumption | with_reducible exact Below.refl _ _ | (refine Below.setCell ?_ (by first | omega | (simp; done) | (simp; omega)) _) | (refine Below.drewN_ ?_ _) | (refine Below.drew ?_) | (refine Below.alloc ?_ (by first | omega | (simp; done) | (simp; omega)) _)))⟩
      · obtain ⟨kl, hkey⟩ := keyOf_str s (Nat.le_trans (HZ.out hn) (by decide))
        have HK := Lib.hid hkey
        clear hkey
        have hlk := look_str _ _ _ s HM.out HK.out
        rcases hi2 : strIn (l.take k) s with _ | _
        · have HY := Lib.hid (hyes hi2)
          have HG2 := Lib.hid (HG.out hn)
          rw [hi2] at hlk
          clear hno hyes hi2 HG HZ
          have hbN : Below w.heap.size w wr := hb
          go_wp2_with (first
            | (go_at_call 32; refine (isName_any _ _ (by assumption)).mono ?_; rintro e w' ⟨rfl, hw⟩; subst hw)
            | (at_mapUpdate; go_must ((refine wpList_mapUpdate_is _ rfl _ _ _ 136 rfl 9 4 str_keyed Try.underlying136 w.heap.size _ (by rfl) HM.out (.string s) (.bool true) kl (by rfl) (by rfl) HK.out ?_; intro w2 hm2 hg2; have hb2 := upd_below (Nat.le_refl _) hbN hg2; clear hg2; rw [← HS.out] at hm2; have HM3 := Lib.hid hm2; clear hm2))))
          go_roundw
          case rel => exact ⟨k + 1, by omega, by go_num, HG2.out, HY.out, HM3.out, hb2⟩
          case measure => (first | (simp [intOf]; done) | (simp [intOf]; omega))
        · have hN := Lib.hid (hno (.inr hi2))
          rw [hi2] at hlk
          clear hno hyes HG HS HZ HM hi2
          go_wp2_with (first
            | (go_at_call 32; refine (isName_any _ _ (by assumption)).mono ?_; rintro e w' ⟨rfl, hw⟩; subst hw))
          go_ret
          exact ⟨by first | (rw [hN.out]; rfl) | rfl, by (repeat (first | with_reducible assumption | with_reducible exact Below.refl _ _ | (refine Below.setCell ?_ (by first | omega | (simp; done) | (simp; omega)) _) | (refine Below.drewN_ ?_ _) | (refine Below.drew ?_) | (refine Below.alloc ?_ (by first | omega | (simp; done) | (simp; omega)) _)))⟩
    · have hi : (l.length : Int) ≤ (k : Int) := by omega
      obtain rfl : k = l.length := by omega
      have hy : namedL l = true := named_yes (fun j h => hg j h h) (by simpa using hnd)
      go_wp2
      go_ret
      exact ⟨by first | (rw [hy]; rfl) | rfl, by (repeat (first | with_reducible assumption | with_reducible exact Below.refl _ _ | (refine Below.setCell ?_ (by first | omega | (simp; done) | (simp; omega)) _) | (refine Below.drewN_ ?_ _) | (refine Below.drew ?_) | (refine Below.alloc ?_ (by first | omega | (simp; done) | (simp; omega)) _)))⟩
end Go.Proofs.Ytkkjkbljgaipcaa
