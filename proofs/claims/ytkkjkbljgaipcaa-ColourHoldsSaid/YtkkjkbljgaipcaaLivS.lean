/- A set of numbers: a map[int]bool that the call itself has made: made, looked up, written, ranged over. -/
import Derived.Test.YtkkjkbljgaipcaaOrdM
import Derived.Maps.OwnSet
import Derived.Maps.RangeWalk
import Derived.Maps.Views
import Derived.Deep.DeepMust
namespace Go.Proofs.Ytkkjkbljgaipcaa
open Go.RowKit
open Go.Maps (Keyed has)
set_option linter.unusedVariables false
set_option linter.unusedSimpArgs false
set_option maxRecDepth 100000
abbrev DU := DataW Unit
noncomputable abbrev plB : Value → Option (DU × List MemPlace) := plainElem Try.prog 4
theorem wf_iff (x : Int) : (Lit.int .i64 x).wf = true ↔ -9223372036854775808 ≤ x ∧ x ≤ 9223372036854775807 := by
  have hmin : IntKind.i64.min = -9223372036854775808 := rfl
  have hmax : IntKind.i64.max = 9223372036854775807 := rfl
  simp only [Lit.wf, Bool.and_eq_true, decide_eq_true_eq]
  omega
theorem key_int {x : Int} (h : (Lit.int .i64 x).wf = true) : keyOf Try.prog 3 (.int .i64 x) = some (.int .i64 x) := Maps.keyOf_int_mk Try.underlying3 h
theorem keyLit_int {x : Int} (h : (Lit.int .i64 x).wf = true) : WideAt.IsKeyLit (.int .i64 x) := int_keyed.key (key_int h)
theorem val_true : plB (.bool true) = some (.lit (.bool true), []) := plainElem_bool Try.underlying4 true
/-- block b is the set S (of at most m numbers) -/
def SetAt (w : World) (b m : Nat) (S : Int → Bool) : Prop :=
  ∃ n D, n ≤ m ∧ w.ownsMap Try.prog 3 plB b n D ∧ ∀ x : Int, (Lit.int .i64 x).wf = true → has D (.int .i64 x) = S x ∧ (S x = true → ∀ z, D.atKey (.int .i64 x) z = .lit (.bool true))
theorem SetAt.made (w : World) : SetAt (w.alloc (.map #[] 0)) w.heap.size 0 (fun _ => false) :=
  ⟨0, _, Nat.le_refl _, World.ownsMap_made w _ _ _, fun x _ => ⟨rfl, fun h => by cases h⟩⟩
theorem SetAt.lt {w : World} {b m : Nat} {S : Int → Bool} (h : SetAt w b m S) : b < w.heap.size := by
  obtain ⟨n, D, -, h, -⟩ := h
  exact h.lt
theorem SetAt.mono {w : World} {b m m' : Nat} {S : Int → Bool} (h : SetAt w b m S) (hm : m ≤ m') : SetAt w b m' S := by
  obtain ⟨n, D, h1, h2⟩ := h
  exact ⟨n, D, Nat.le_trans h1 hm, h2⟩
theorem SetAt.kept {w w' : World} {b m : Nat} {S : Int → Bool} {row : Option Nat} (h : SetAt w b m S) (hg : w.grownBy w' row) (hne : some b ≠ row) : SetAt w' b m S := by
  obtain ⟨n, D, h1, h2, h3⟩ := h
  exact ⟨n, D, h1, h2.kept hg hne, h3⟩
theorem SetAt.below {w w' : World} {b m : Nat} {S : Int → Bool} (h : SetAt w b m S) (hb : Below w.heap.size w w') : SetAt w' b m S := h.kept (row := none) ⟨hb.os, hb.tape, hb.output, hb.size, fun i hi _ => hb.block i hi⟩ (by simp)
theorem SetAt.at_map {w : World} {b m : Nat} {S : Int → Bool} (h : SetAt w b m S) : ∃ es c, w.heap[b]? = some (.map es c) := by
  obtain ⟨n, D, -, ⟨es, c, h, -⟩, -⟩ := h
  exact ⟨es, c, h⟩
theorem SetAt.look {w : World} {b m : Nat} {S : Int → Bool} (h : SetAt w b m S) (x : Int) (hx : (Lit.int .i64 x).wf = true) :
    (Instr.lookup 46 (.map (some b)) (.int .i64 x) false).run Try.prog w = .ok (.bool (S x)) w := by
  obtain ⟨n, D, h1, h2, h3⟩ := h
  obtain ⟨v, ps, hr, hv⟩ := h2.lookup int_keyed Try.underlying46 (z := .bool false) (by kernel_rfl) (plainElem_bool Try.underlying4 false) (key_int hx)
  obtain ⟨h4, h5⟩ := h3 x hx
  have hd : D.atKey (.int .i64 x) (.lit (.bool false)) = .lit (.bool (S x)) := by
    rcases hS : S x with _ | _
    · rw [hS] at h4
      exact Maps.atKey_of_not_has h4 _
    · exact h5 hS _
  rw [hd] at hv
  have : v = .bool (S x) := by
    cases v <;> simp [plB, plainElem, Try.underlying4] at hv
    rw [hv.1]
  rw [hr, this]
theorem SetAt.put {w : World} {b m : Nat} {S : Int → Bool} (h : SetAt w b m S) (x : Int) (hx : (Lit.int .i64 x).wf = true) (hm : m < maxLen) :
    ∃ w', (Instr.mapUpdate 46 (.map (some b)) (.int .i64 x) (.bool true)).run Try.prog w = .ok () w' ∧ SetAt w' b (m + 1) (fun y => (y == x) || S y) ∧ w.grownBy w' (some b) := by
  obtain ⟨n, D, h1, h2, h3⟩ := h
  obtain ⟨w', hr, ho, hg⟩ := h2.update int_keyed Try.underlying46 (by omega) (key_int hx) val_true
  refine ⟨w', hr, ⟨n + 1, _, by omega, ho, fun y hy => ?_⟩, hg⟩
  by_cases e : y = x
  · subst e
    refine ⟨by rw [Maps.has_put_same h2.isMap (keyLit_int hy)]; simp, fun _ z => Maps.atKey_put_same h2.isMap (keyLit_int hy) _ _⟩
  · have hne : (Lit.int .i64 y) ≠ .int .i64 x := fun e' => e (by simpa using e')
    have hb : (y == x) = false := by simpa using e
    rw [Maps.has_put_other hne]
    simp only [hb, Bool.false_or]
    refine ⟨(h3 y hy).1, fun hS z => ?_⟩
    rw [Maps.atKey_put_other hne]
    exact (h3 y hy).2 hS z
/-- a store into a set, at the operation -/
theorem wpList_set_put (w : World) {ops : Array Oper} {rest : List Oper} {o : Oper} {a : Act} {Q : Exit → Act → World → Prop} (hg : o.guard = none) (m x v : Operand) (hop : o.op = Op.mapUpdate 46 m x v)
    (b k : Nat) (S : Int → Bool) (hm : a.eval m = .map (some b)) (h : SetAt w b k S) (y : Int) (hx : a.eval x = .int .i64 y) (hv : a.eval v = .bool true) (hy : (Lit.int .i64 y).wf = true) (hk : k < maxLen)
    (hK : ∀ w', SetAt w' b (k + 1) (fun z => (z == y) || S z) → w.grownBy w' (some b) → wpList Try.prog ops Q rest (a.put o.dst undef) w') : wpList Try.prog ops Q (o :: rest) a w := by
  refine wpList_plain hg fun K' hK' => ?_
  obtain ⟨w', hrun, r1, r2⟩ := h.put y hy hk
  unfold Oper.wp
  simp [execOp, hop, hm, hx, hv, hrun, Result.andThen]
  exact hK' _ _ (hK w' r1 r2)
/-- set b is ranged over by iterator r: what is in L is still to come -/
def RangeAt (w : World) (b r m : Nat) (S L : Int → Bool) (cnt : Nat) : Prop :=
  ∃ n D left, n ≤ m ∧ w.ranges Try.prog 3 plB b r n D left cnt ∧ (∀ x : Int, (Lit.int .i64 x).wf = true → has D (.int .i64 x) = S x ∧ (S x = true → ∀ z, D.atKey (.int .i64 x) z = .lit (.bool true))) ∧ ∀ x : Int, (Lit.int .i64 x).wf = true → left (.int .i64 x) = L x
theorem RangeAt.set {w : World} {b r m : Nat} {S L : Int → Bool} {cnt : Nat} (h : RangeAt w b r m S L cnt) : SetAt w b m S := by
  obtain ⟨n, D, left, h1, h2, h3, h4⟩ := h
  exact ⟨n, D, h1, h2.owns, h3⟩
theorem RangeAt.kept {w w' : World} {b r m : Nat} {S L : Int → Bool} {cnt : Nat} {row : Option Nat} (h : RangeAt w b r m S L cnt) (hg : w.grownBy w' row) (hb : some b ≠ row) (hr : some r ≠ row) : RangeAt w' b r m S L cnt := by
  obtain ⟨n, D, left, h1, h2, h3⟩ := h
  exact ⟨n, D, left, h1, h2.kept hg hb hr, h3⟩
theorem RangeAt.lt {w : World} {b r m : Nat} {S L : Int → Bool} {cnt : Nat} (h : RangeAt w b r m S L cnt) : r < w.heap.size := by
  obtain ⟨n, D, left, -, h2, -⟩ := h
  exact h2.lt
theorem RangeAt.left_eq {w : World} {b r m : Nat} {S L : Int → Bool} {cnt : Nat} (h : RangeAt w b r m S L cnt) : w.rangeLeft b r = cnt := by
  obtain ⟨n, D, left, -, h2, -⟩ := h
  exact h2.left_eq
theorem RangeAt.at_iter {w : World} {b r m : Nat} {S L : Int → Bool} {cnt : Nat} (h : RangeAt w b r m S L cnt) : ∃ x y z u, w.heap[r]? = some (.mapIter x y z u) := by
  obtain ⟨n, D, left, -, ⟨es, c, s, q, c0, -, -, -, -, h, -⟩, -⟩ := h
  exact ⟨_, _, _, _, h⟩
/-- 'range' over a set, at the operation -/
theorem wpList_set_range (w : World) {ops : Array Oper} {rest : List Oper} {o : Oper} {a : Act} {Q : Exit → Act → World → Prop} (hg : o.guard = none) (m : Operand) (hop : o.op = Op.range 46 m)
    (b k : Nat) (S : Int → Bool) (hm : a.eval m = .map (some b)) (h : SetAt w b k S)
    (hK : ∀ w' cnt, RangeAt w' b w.heap.size k S S cnt → w.grownBy w' none → w'.heap.size = w.heap.size + 1 → wpList Try.prog ops Q rest (a.put o.dst (.pointer (some ⟨w.heap.size, 0, none⟩))) w') :
    wpList Try.prog ops Q (o :: rest) a w := by
  obtain ⟨n, D, h1, h2, h3⟩ := h
  exact wpList_range_own w hg m 46 hop 3 4 int_keyed Try.underlying46 plB b n D hm h2 (fun w' hr hgr hs => hK w' _ ⟨n, D, _, h1, hr, h3, fun x hx => (h3 x hx).1⟩ hgr hs)
/-- a step of a range over a set, at the operation -/
theorem wpList_set_next (w : World) {ops : Array Oper} {rest : List Oper} {o : Oper} {a : Act} {Q : Exit → Act → World → Prop} (hg : o.guard = none) (it : Operand) (hop : o.op = Op.next it false)
    (b r k : Nat) (S L : Int → Bool) (cnt : Nat) (hit : a.eval it = .pointer (some ⟨r, 0, none⟩)) (h : RangeAt w b r k S L cnt)
    (hDone : (∀ x : Int, (Lit.int .i64 x).wf = true → L x = false) → wpList Try.prog ops Q rest (a.put o.dst (.tuple #[.bool false])) w)
    (hMore : ∀ (x : Int) (w' : World) (cnt' : Nat), (Lit.int .i64 x).wf = true → L x = true → S x = true → RangeAt w' b r k S (fun y => L y && !(y == x)) cnt' → cnt' < cnt → w.grownBy w' (some r) → w'.heap.size = w.heap.size →
      (Instr.entry (.pointer (some ⟨r, 0, none⟩))).run Try.prog w' = .ok (.tuple #[.int .i64 x, .bool true]) w' → wpList Try.prog ops Q rest (a.put o.dst (.tuple #[.bool true, .int .i64 x, .bool true])) w') :
    wpList Try.prog ops Q (o :: rest) a w := by
  obtain ⟨n, D, left, h1, h2, h3, h4⟩ := h
  refine wpList_next_ranges w hg it hop 3 int_keyed plB (Value.int .i64) Value.bool (fun key kl hkey => by obtain ⟨x, rfl, _⟩ := Maps.keyOf_int_inv Try.underlying3 hkey; exact ⟨x, rfl⟩)
    (fun v y hv => by cases v <;> simp [plB, plainElem, Try.underlying4] at hv; exact ⟨_, rfl⟩) b r n D left cnt hit h2 (fun _ hl => hDone fun x hx => by rw [← h4 x hx]; exact hl _) ?_
  intro x c kl y w' cnt' hkey hlk hv hat hrg hlt hg' hs' hen
  obtain ⟨x', ex, rfl, hwx⟩ := Maps.keyOf_int_inv Try.underlying3 hkey
  cases ex
  have hLx : L x = true := by rw [← h4 x hwx]; exact hlk
  have hSx : S x = true := by rw [← (h3 x hwx).1]; exact Maps.has_true_of_atKey hat
  have hc : c = true := by
    have e := hat (.lit (.bool false))
    rw [(h3 x hwx).2 hSx] at e
    simp [plB, plainElem, Try.underlying4] at hv
    rw [← hv] at e
    simpa using e.symm
  subst hc
  refine hMore x w' cnt' hwx hLx hSx ⟨n, D, _, h1, hrg, h3, fun z hz => ?_⟩ hlt hg' hs' hen
  simp only
  rw [h4 z hz]
  congr 1
  by_cases e : z = x
  · subst e
    rw [WideAt.sameKey_self (keyLit_int hz)]
    simp
  · have hne : (Lit.int .i64 z) ≠ .int .i64 x := fun e' => e (by simpa using e')
    rw [Maps.sameKey_ne hne]
    simp [e]
end Go.Proofs.Ytkkjkbljgaipcaa
/-! what is live, plain: the least set; a list of work that makes it; how many there are -/
namespace Go.Proofs.Ytkkjkbljgaipcaa
set_option linter.unusedVariables false
/-- the orders that an order leads to -/
def leadsL (o : Or) (i : Nat) : List Int := if o.op = 12 then [] else if o.op = 9 then [o.n] else if o.op = 10 then [(i : Int) + 1, o.n] else [(i : Int) + 1]
inductive LiveP (code : List Or) : Nat → Int → Prop
  | use {i : Nat} {r : Int} (h : i < code.length) (hr : r ∈ code[i].s) : LiveP code i r
  | step {i k : Nat} {r : Int} (h : i < code.length) (hk : (k : Int) ∈ leadsL code[i] i) (hl : LiveP code k r) (hd : r ∉ code[i].d) : LiveP code i r
open Classical in
noncomputable def liveB (code : List Or) (i : Nat) (r : Int) : Bool := decide (LiveP code i r)
/-- orders that speak of what there is -/
structure WfC (code : List Or) (regs : Int) : Prop where
  leads : ∀ i (h : i < code.length), ∀ x ∈ leadsL code[i] i, 0 ≤ x ∧ x < code.length
  reads : ∀ i (h : i < code.length), ∀ x ∈ code[i].s, 0 ≤ x ∧ x < regs
  writes : ∀ i (h : i < code.length), ∀ x ∈ code[i].d, 0 ≤ x ∧ x < regs
theorem LiveP.lt {code : List Or} {i : Nat} {r : Int} (h : LiveP code i r) : i < code.length := by
  cases h with
  | use h _ => exact h
  | step h _ _ _ => exact h
theorem LiveP.reg {code : List Or} {regs : Int} (hw : WfC code regs) {i : Nat} {r : Int} (h : LiveP code i r) : 0 ≤ r ∧ r < regs := by
  induction h with
  | use h hr => exact hw.reads _ h _ hr
  | step _ _ _ _ ih => exact ih
/-- what is closed has all that is live -/
theorem live_least {code : List Or} {L : Nat → Int → Bool} (h1 : ∀ i (h : i < code.length) r, r ∈ code[i].s → L i r = true)
    (h2 : ∀ i (h : i < code.length) (k : Nat) r, (k : Int) ∈ leadsL code[i] i → L k r = true → r ∉ code[i].d → L i r = true) {i : Nat} {r : Int} (h : LiveP code i r) : L i r = true := by
  induction h with
  | use h hr => exact h1 _ h _ hr
  | step h hk _ hd ih => exact h2 _ h _ _ hk ih hd
def updL (L : Nat → Int → Bool) (i : Nat) (x : Int) : Nat → Int → Bool := fun j y => (decide (j = i) && (y == x)) || L j y
theorem updL_same (L : Nat → Int → Bool) (i : Nat) (x : Int) : updL L i x i = fun y => (y == x) || L i y := by
  funext y; unfold updL; simp
theorem updL_other (L : Nat → Int → Bool) {i j : Nat} (x : Int) (h : j ≠ i) : updL L i x j = L j := by
  funext y; unfold updL; simp [h]
theorem updL_up {L : Nat → Int → Bool} {i j : Nat} {x y : Int} (h : L j y = true) : updL L i x j y = true := by unfold updL; rw [h]; simp
theorem updL_at (L : Nat → Int → Bool) (i : Nat) (x : Int) : updL L i x i x = true := by unfold updL; simp
theorem updL_cases {L : Nat → Int → Bool} {i j : Nat} {x y : Int} (h : updL L i x j y = true) : (j = i ∧ y = x) ∨ L j y = true := by
  unfold updL at h
  simp only [Bool.or_eq_true, Bool.and_eq_true, decide_eq_true_eq, beq_iff_eq] at h
  exact h
/-- under way: what is in L is live; what is in L, but not among the work, has gone back; what the orders ahead of j read is in L -/
structure LInv (code : List Or) (L : Nat → Int → Bool) (W E : List (Int × Int)) (j : Nat) : Prop where
  sound : ∀ i r, L i r = true → LiveP code i r
  work : ∀ p ∈ W, 0 ≤ p.2 ∧ L p.2.toNat p.1 = true
  closed : ∀ (k : Nat) r, L k r = true → (r, (k : Int)) ∉ W → (r, (k : Int)) ∉ E → ∀ i (h : i < code.length), (k : Int) ∈ leadsL code[i] i → r ∉ code[i].d → L i r = true
  seen : ∀ i (h : i < code.length) r, i < j → r ∈ code[i].s → L i r = true
theorem LInv.start (code : List Or) : LInv code (fun _ _ => false) [] [] 0 :=
  ⟨fun _ _ h => (by cases h), fun p h => (by cases h), fun _ _ h => (by cases h), fun _ _ _ h => absurd h (by omega)⟩
theorem LInv.put {code : List Or} {L : Nat → Int → Bool} {W E : List (Int × Int)} {j i : Nat} {x : Int} (h : LInv code L W E j) (hl : LiveP code i x) : LInv code (updL L i x) (W ++ [(x, (i : Int))]) E j := by
  refine ⟨fun i' r' h' => ?_, fun p hp => ?_, fun k r hk hn he i' hi' hlead hd => ?_, fun i' hi' r hj hr => updL_up (h.seen i' hi' r hj hr)⟩
  · rcases updL_cases h' with ⟨rfl, rfl⟩ | h'
    · exact hl
    · exact h.sound _ _ h'
  · rcases List.mem_append.1 hp with hp | hp
    · obtain ⟨h1, h2⟩ := h.work p hp
      exact ⟨h1, updL_up h2⟩
    · rw [List.mem_singleton] at hp
      subst hp
      exact ⟨by simp only; omega, by simp only [Int.toNat_natCast]; exact updL_at L i x⟩
  · rcases updL_cases hk with ⟨rfl, rfl⟩ | hk
    · exact absurd (List.mem_append.2 (.inr (List.mem_singleton.2 rfl))) hn
    · exact updL_up (h.closed k r hk (fun hm => hn (List.mem_append.2 (.inl hm))) he i' hi' hlead hd)
theorem LInv.pop {code : List Or} {L : Nat → Int → Bool} {W : List (Int × Int)} {x : Int × Int} {j : Nat} (h : LInv code L (W ++ [x]) [] j) : LInv code L W [x] j :=
  ⟨h.sound, fun p hp => h.work p (List.mem_append.2 (.inl hp)), fun k r hk hn he i hi hl hd => h.closed k r hk (fun hm => by
    rcases List.mem_append.1 hm with hm | hm
    · exact hn hm
    · exact he hm) (by simp) i hi hl hd, h.seen⟩
theorem LInv.done {code : List Or} {L : Nat → Int → Bool} {W : List (Int × Int)} {r : Int} {k j : Nat} (h : LInv code L W [(r, (k : Int))] j)
    (hp : ∀ i (h : i < code.length), (k : Int) ∈ leadsL code[i] i → r ∉ code[i].d → L i r = true) : LInv code L W [] j :=
  ⟨h.sound, h.work, fun k' r' hk hn _ i hi hl hd => by
    by_cases he : (r', (k' : Int)) ∈ [(r, (k : Int))]
    · rw [List.mem_singleton] at he
      simp only [Prod.mk.injEq] at he
      obtain ⟨rfl, he⟩ := he
      obtain rfl : k' = k := by omega
      exact hp i hi hl hd
    · exact h.closed k' r' hk hn he i hi hl hd, h.seen⟩
theorem LInv.next {code : List Or} {L : Nat → Int → Bool} {W E : List (Int × Int)} {j : Nat} (h : LInv code L W E j) (hj : j < code.length) (hs : ∀ r ∈ code[j].s, L j r = true) : LInv code L W E (j + 1) :=
  ⟨h.sound, h.work, h.closed, fun i hi r hlt hr => by
    rcases Nat.lt_or_ge i j with h1 | h1
    · exact h.seen i hi r h1 hr
    · obtain rfl : i = j := by omega
      exact hs r hr⟩
open Classical in
theorem LInv.all {code : List Or} {L : Nat → Int → Bool} (h : LInv code L [] [] code.length) (i : Nat) (r : Int) : L i r = liveB code i r := by
  rw [Bool.eq_iff_iff]
  unfold liveB
  rw [decide_eq_true_eq]
  exact ⟨h.sound i r, fun hl => live_least (fun i hi r hr => h.seen i hi r hi hr) (fun i hi k r hk hl hd => h.closed k r hl (by simp) (by simp) i hi hk hd) hl⟩
/-! how many -/
def cntR (regs : Nat) (S : Int → Bool) : Nat := ((List.range regs).filter fun r : Nat => S (r : Int)).length
theorem cntR_le (regs : Nat) (S : Int → Bool) : cntR regs S ≤ regs := by
  unfold cntR
  have := List.length_filter_le (fun r : Nat => S (r : Int)) (List.range regs)
  simpa using this
theorem cntR_succ (regs : Nat) (S : Int → Bool) : cntR (regs + 1) S = cntR regs S + if S (regs : Int) then 1 else 0 := by
  unfold cntR
  rw [List.range_succ, List.filter_append, List.length_append]
  simp only [List.filter_cons, List.filter_nil]
  split <;> simp
theorem cntR_same {regs : Nat} {S T : Int → Bool} (h : ∀ r : Nat, r < regs → S r = T r) : cntR regs S = cntR regs T := by
  induction regs with
  | zero => rfl
  | succ n ih => rw [cntR_succ, cntR_succ, ih (fun r hr => h r (by omega)), h n (by omega)]
theorem cntR_put {regs : Nat} {S : Int → Bool} {x : Int} (h0 : 0 ≤ x) (h1 : x < regs) (hx : S x = false) : cntR regs (fun y => (y == x) || S y) = cntR regs S + 1 := by
  induction regs with
  | zero => omega
  | succ n ih =>
    rw [cntR_succ, cntR_succ]
    by_cases e : x = (n : Int)
    · subst e
      rw [cntR_same (S := fun y => (y == (n : Int)) || S y) (T := S) (fun r hr => by
        have : ((r : Int) == (n : Int)) = false := by rw [beq_eq_false_iff_ne]; omega
        simp only [this, Bool.false_or]), hx]
      simp
    · rw [ih (by omega)]
      have : ((n : Int) == x) = false := by rw [beq_eq_false_iff_ne]; omega
      simp only [this, Bool.false_or]
      omega
def cntL (n regs : Nat) (L : Nat → Int → Bool) : Nat := ((List.range n).map fun i => cntR regs (L i)).sum
theorem cntL_succ (n regs : Nat) (L : Nat → Int → Bool) : cntL (n + 1) regs L = cntL n regs L + cntR regs (L n) := by
  unfold cntL
  rw [List.range_succ, List.map_append, List.sum_append]
  simp
theorem cntL_le (n regs : Nat) (L : Nat → Int → Bool) : cntL n regs L ≤ n * regs := by
  induction n with
  | zero => simp [cntL]
  | succ n ih =>
    rw [cntL_succ, Nat.succ_mul]
    have := cntR_le regs (L n)
    omega
theorem cntL_same {n regs : Nat} {L M : Nat → Int → Bool} (h : ∀ i, i < n → L i = M i) : cntL n regs L = cntL n regs M := by
  induction n with
  | zero => rfl
  | succ n ih => rw [cntL_succ, cntL_succ, ih (fun i hi => h i (by omega)), h n (by omega)]
theorem cntL_put {n regs : Nat} {L : Nat → Int → Bool} {i : Nat} {x : Int} (hi : i < n) (h0 : 0 ≤ x) (h1 : x < regs) (hx : L i x = false) : cntL n regs (updL L i x) = cntL n regs L + 1 := by
  induction n with
  | zero => omega
  | succ n ih =>
    rw [cntL_succ, cntL_succ]
    by_cases e : i = n
    · subst e
      rw [updL_same, cntR_put h0 h1 hx, cntL_same (L := updL L i x) (M := L) (fun j hj => updL_other L x (by omega))]
      omega
    · rw [ih (by omega), updL_other L x (by omega)]
      omega
end Go.Proofs.Ytkkjkbljgaipcaa
