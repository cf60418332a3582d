/- Nodes as trees; a node that lies in memory. -/
import Derived.Test.YtgegfbopogcjpaaDoorTypA
import Derived.Test.YtgegfbopogcjpaaDoorLib
import Derived.Deep.DeepMust
namespace Go.Proofs.YtgegfbopogcjpaaDoor
open Go.RowKit
set_option linter.unusedVariables false
set_option linter.unusedSimpArgs false
set_option maxRecDepth 100000
/-- a node: its kind, text, number, kids -/
inductive Nd where
  | mk (k : Int) (t : ByteArray) (num : Int) (kids : List Nd)
def Nd.k : Nd → Int | .mk k _ _ _ => k
def Nd.t : Nd → ByteArray | .mk _ t _ _ => t
def Nd.num : Nd → Int | .mk _ _ n _ => n
def Nd.kids : Nd → List Nd | .mk _ _ _ l => l
instance : Inhabited Nd := ⟨.mk 0 ⟨#[]⟩ 0 []⟩
theorem Nd.eta (n : Nd) : Nd.mk n.k n.t n.num n.kids = n := by cases n; rfl
/-- a number of 64 bits -/
def I64 (n : Int) : Prop := -9223372036854775808 ≤ n ∧ n ≤ 9223372036854775807
mutual
/-- these cells are node n in world w -/
def RepN (w : World) : Nd → List Value → Prop
  | .mk k t num kids, cs => ∃ A c, cs = [.int .i64 k, .string t, .int .i64 num, .slice A kids.length c] ∧ RepNL w kids A ∧ kids.length ≤ c ∧ kids.length ≤ maxLen ∧ I64 num ∧ t.size ≤ maxLen
/-- from address A on lie these nodes -/
def RepNL (w : World) : List Nd → Option Addr → Prop
  | [], _ => True
  | n :: ns, A => ∃ b o cs, A = some ⟨b, o, none⟩ ∧ b < w.heap.size ∧ (∀ j v, cs[j]? = some v → w.cell? ⟨b, o + j, none⟩ = some v) ∧ RepN w n cs ∧ RepNL w ns (some ⟨b, o + 4, none⟩)
end
theorem RepN.four {w : World} {n : Nd} {cs : List Value} (h : RepN w n cs) : ∃ A c, cs = [.int .i64 n.k, .string n.t, .int .i64 n.num, .slice A n.kids.length c] ∧ RepNL w n.kids A ∧ n.kids.length ≤ c ∧ n.kids.length ≤ maxLen ∧ I64 n.num ∧ n.t.size ≤ maxLen := by
  cases n
  unfold RepN at h
  exact h
theorem RepN.of {w : World} {n : Nd} {A : Option Addr} {c : Nat} (h : RepNL w n.kids A) (hc : n.kids.length ≤ c) (hm : n.kids.length ≤ maxLen) (hn : I64 n.num) (ht : n.t.size ≤ maxLen) : RepN w n [.int .i64 n.k, .string n.t, .int .i64 n.num, .slice A n.kids.length c] := by
  cases n
  unfold RepN
  exact ⟨A, c, rfl, h, hc, hm, hn, ht⟩
mutual
theorem RepN.keep {w w' : World} (hb : Below w.heap.size w w') : ∀ (n : Nd) (cs : List Value), RepN w n cs → RepN w' n cs
  | .mk k t num kids, cs, h => by
    unfold RepN at h ⊢
    obtain ⟨A, c, rfl, h1, h2⟩ := h
    exact ⟨A, c, rfl, RepNL.keep hb kids A h1, h2⟩
theorem RepNL.keep {w w' : World} (hb : Below w.heap.size w w') : ∀ (ns : List Nd) (A : Option Addr), RepNL w ns A → RepNL w' ns A
  | [], _, _ => by unfold RepNL; trivial
  | n :: ns, A, h => by
    unfold RepNL at h ⊢
    obtain ⟨b, o, cs, rfl, hlt, hc, h1, h2⟩ := h
    exact ⟨b, o, cs, rfl, Nat.lt_of_lt_of_le hlt hb.size, fun j v hj => (hb.cell (p := ⟨b, o + j, none⟩) hlt).trans (hc j v hj), RepN.keep hb n cs h1, RepNL.keep hb ns _ h2⟩
end
theorem RepNL.at_ {w : World} : ∀ (ns : List Nd) (A : Option Addr), RepNL w ns A → ∀ (i : Nat) (h : i < ns.length), ∃ b o cs, A = some ⟨b, o, none⟩ ∧ b < w.heap.size ∧ (∀ j v, cs[j]? = some v → w.cell? ⟨b, o + i * 4 + j, none⟩ = some v) ∧ RepN w ns[i] cs
  | n :: ns, A, h, 0, _ => by
    unfold RepNL at h
    obtain ⟨b, o, cs, rfl, hlt, hc, h1, h2⟩ := h
    exact ⟨b, o, cs, rfl, hlt, by simpa using hc, h1⟩
  | n :: ns, A, h, i + 1, hi => by
    unfold RepNL at h
    obtain ⟨b, o, cs, rfl, hlt, hc, h1, h2⟩ := h
    obtain ⟨b', o', cs', hA, hlt', hc', h3⟩ := RepNL.at_ ns _ h2 i (by simpa using hi)
    obtain ⟨rfl, rfl⟩ : b = b' ∧ o + 4 = o' := by simpa using hA
    refine ⟨b, o, cs', rfl, hlt, fun j v hj => ?_, by simpa using h3⟩
    rw [show o + (i + 1) * 4 + j = o + 4 + i * 4 + j by omega]
    exact hc' j v hj
/-- a kid's four cells -/
theorem RepNL.kid {w : World} {ns : List Nd} {A : Option Addr} (h : RepNL w ns A) {i : Nat} (hi : i < ns.length) : ∃ b o A' c', A = some ⟨b, o, none⟩ ∧ b < w.heap.size ∧
    w.cell? ⟨b, o + i * 4, none⟩ = some (.int .i64 ns[i].k) ∧ w.cell? ⟨b, o + i * 4 + 1, none⟩ = some (.string ns[i].t) ∧ w.cell? ⟨b, o + i * 4 + 2, none⟩ = some (.int .i64 ns[i].num) ∧ w.cell? ⟨b, o + i * 4 + 3, none⟩ = some (.slice A' ns[i].kids.length c') ∧
    RepNL w ns[i].kids A' ∧ ns[i].kids.length ≤ c' ∧ ns[i].kids.length ≤ maxLen ∧ I64 ns[i].num ∧ ns[i].t.size ≤ maxLen := by
  obtain ⟨b, o, cs, hA, hlt, hc, hr⟩ := RepNL.at_ ns A h i hi
  obtain ⟨A', c', rfl, h1, h2, h3⟩ := hr.four
  exact ⟨b, o, A', c', hA, hlt, hc 0 _ rfl, hc 1 _ rfl, hc 2 _ rfl, hc 3 _ rfl, h1, h2, h3⟩
/-- behind the first i of them lie the others -/
theorem RepNL.drop {w : World} : ∀ (ns : List Nd) (A : Option Addr) (i : Nat), i ≤ ns.length → RepNL w ns A → ∃ A', RepNL w (ns.drop i) A' ∧ ((i < ns.length) → ∀ b o, A = some ⟨b, o, none⟩ → A' = some ⟨b, o + i * 4, none⟩)
  | ns, A, 0, _, h => ⟨A, by simpa using h, fun _ b o e => by simpa using e⟩
  | [], A, i + 1, hi, h => absurd hi (by simp)
  | n :: ns, A, i + 1, hi, h => by
    unfold RepNL at h
    obtain ⟨b, o, cs, rfl, hlt, hc, h1, h2⟩ := h
    obtain ⟨A', h3, h4⟩ := RepNL.drop ns _ i (by simpa using hi) h2
    refine ⟨A', by simpa using h3, fun hlt' b' o' e => ?_⟩
    obtain ⟨rfl, rfl⟩ : b = b' ∧ o = o' := by simpa using e
    rw [h4 (by simpa using hlt') b (o + 4) rfl]
    congr 2
    omega
theorem RepNL.take {w : World} : ∀ (ns : List Nd) (A : Option Addr) (i : Nat), RepNL w ns A → RepNL w (ns.take i) A
  | ns, A, 0, h => by simp [RepNL]
  | [], A, i + 1, h => by simp [RepNL]
  | n :: ns, A, i + 1, h => by
    unfold RepNL at h
    obtain ⟨b, o, cs, rfl, hlt, hc, h1, h2⟩ := h
    rw [List.take_succ_cons]
    unfold RepNL
    exact ⟨b, o, cs, rfl, hlt, hc, h1, RepNL.take ns _ i h2⟩
end Go.Proofs.YtgegfbopogcjpaaDoor
