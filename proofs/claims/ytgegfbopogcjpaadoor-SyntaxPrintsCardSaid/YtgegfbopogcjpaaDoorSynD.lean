/- What a node may be, kind by kind, in the order in which the printer asks. No program is in sight. -/
import Derived.Test.YtgegfbopogcjpaaDoorSynB
namespace Go.Proofs.YtgegfbopogcjpaaDoor
set_option linter.unusedVariables false
set_option linter.unusedSimpArgs false
/-- has a node just what is named? -/
def plainB (n : Nd) (text num : Bool) (least most : Int) : Bool :=
  (text || n.t.toList.isEmpty) && (num || n.num == 0) && decide (least ≤ (n.kids.length : Int)) && (decide (most < 0) || decide ((n.kids.length : Int) ≤ most)) && (!text || nameOf n.t)
def okC (c : Int) (n : Nd) : Bool := cls n.k == c && isN n false
def okP (c : Int) (n : Nd) : Bool := n.k == c && isN n false
def kd (n : Nd) (i : Nat) : Nd := (n.kids[i]?).getD default
def lastK (n : Nd) : Nd := kd n (n.kids.length - 1)
theorem kidB_c (c k : Int) : kidB (c, 0) k = (cls k == c) := by simp [kidB]
theorem kidB_p {p : Int} (k : Int) (h : cls p = 5) (hp : 0 < p) : kidB (5, p) k = (k == p) := by
  have h1 : ¬ p ≤ 0 := by omega
  have h2 : 0 ≤ p := by omega
  by_cases hk : k = p
  · subst hk; simp [kidB, h, h2]
  · simp [kidB, hk, h1, h2]
theorem isN_eq (n : Nd) (f : Bool) : isN n f = match shp n.k with
    | none => false
    | some s => decide (s.least ≤ n.kids.length) && (decide (s.most < 0) || decide ((n.kids.length : Int) ≤ s.most)) && (s.text == decide (n.t.size ≠ 0)) && (!s.text || nameOf n.t) && numB n.k n.num s.num f &&
      (!(n.k == 32) || (sgn n.num).isSome) && (!(n.k == 15) || (match n.kids with | [] => false | m :: _ => (baseN false m).k == 23)) && (!(n.k == 20) || (match n.kids with | [] => false | m :: _ => m.k == 25 && (baseN true m).k == 23)) && isNL n.k 0 n.kids.length n.kids := by
  cases n
  conv => lhs; unfold isN
  rfl
theorem isNL_append (k : Int) (len : Nat) (r : List Nd) : ∀ (l : List Nd) (i : Nat), isNL k i len (l ++ r) = (isNL k i len l && isNL k (i + l.length) len r)
  | [], i => by simp [isNL]
  | n :: l, i => by
    rw [List.cons_append, isNL, isNL, isNL_append k len r l, List.length_cons, show i + (l.length + 1) = i + 1 + l.length by omega]
    simp [Bool.and_assoc]
theorem isNL_all (k : Int) (len : Nat) (w : Int × Int) : ∀ (l : List Nd) (i : Nat), (∀ j, i ≤ j → j < i + l.length → wantC k j len = w) → isNL k i len l = l.all (fun m => kidB w m.k && isN m (decide (w.2 < 0)))
  | [], i, _ => by simp [isNL]
  | n :: l, i, h => by
    rw [isNL, isNL_all k len w l (i + 1) (fun j h1 h2 => h j (by omega) (by simp; omega)), h i (Nat.le_refl _) (by simp)]
    simp
theorem isNL_okC {k : Int} {len : Nat} {c : Int} (l : List Nd) (i : Nat) (h : ∀ j, i ≤ j → j < i + l.length → wantC k j len = (c, 0)) : isNL k i len l = l.all (okC c) := by
  rw [isNL_all k len (c, 0) l i h]
  congr 1
  funext m
  rw [kidB_c]
  rfl
theorem isNL_okP {k : Int} {len : Nat} {p : Int} (hp : cls p = 5) (h0 : 0 < p) (l : List Nd) (i : Nat) (h : ∀ j, i ≤ j → j < i + l.length → wantC k j len = (5, p)) : isNL k i len l = l.all (okP p) := by
  rw [isNL_all k len (5, p) l i h]
  congr 1
  funext m
  rw [kidB_p m.k hp h0]
  have : decide (p < 0) = false := by rw [decide_eq_false_iff_not]; omega
  simp only [this]
  rfl
theorem name_size (t : ByteArray) : ((true == decide (t.size ≠ 0)) && nameOf t) = nameOf t := by
  rcases h : nameOf t with _ | _
  · simp
  · have := (name_false h).1
    have h0 : decide (t.size ≠ 0) = true := by rw [decide_eq_true_eq]; omega
    rw [h0]; rfl
theorem text_size (t : ByteArray) : (false == decide (t.size ≠ 0)) = t.toList.isEmpty := by
  have e : t.toList = t.data.toList := ByteArray.toList_eq t
  rw [e]
  have h2 : t.size = t.data.toList.length := by simp
  rw [h2]
  cases t.data.toList <;> simp
theorem numB_zero {k num : Int} (hk : k ≠ 21) : numB k num 0 false = (num == 0) := by
  by_cases h : num = 0
  · subst h; simp [numB, hk]
  · have : ¬ (0 ≤ num ∧ num ≤ 0) := by omega
    rcases Classical.em (0 ≤ num) with h1 | h1
    · have h2 : ¬ num ≤ 0 := by omega
      simp [numB, h, h1, h2]
    · simp [numB, h, h1]
theorem numB_upto {k num m : Int} (hk : k ≠ 21) (h0 : 0 ≤ m) (hm : m ≤ 1000) : numB k num m false = (decide (0 ≤ num) && decide (num ≤ m)) := by
  have h1 : ¬ m < 0 := by omega
  by_cases h2 : 0 ≤ num
  · by_cases h3 : num ≤ m
    · have h4 : num ≤ 9223372036854775807 := by omega
      simp [numB, hk, h1, h2, h3, h4]
    · simp [numB, hk, h1, h2, h3]
  · simp [numB, hk, h1, h2]
theorem len_cast (a b : Nat) : decide (((a : Nat) : Int) ≤ (b : Int)) = decide (a ≤ b) := by simp
/-- a kind's node: what the printer asks of it first -/
theorem isN_plain (n : Nd) (text : Bool) (num : Int) (least : Nat) (most : Int) (h : shp n.k = some ⟨text, num, least, most⟩) (h21 : n.k ≠ 21) (h0 : 0 ≤ num) (hm : num ≤ 1000) :
    isN n false = (plainB n text (decide (num ≠ 0)) least most && (decide (0 ≤ n.num) && decide (n.num ≤ num)) && (!(n.k == 32) || (sgn n.num).isSome) && (!(n.k == 15) || (match n.kids with | [] => false | m :: _ => (baseN false m).k == 23)) && (!(n.k == 20) || (match n.kids with | [] => false | m :: _ => m.k == 25 && (baseN true m).k == 23)) && isNL n.k 0 n.kids.length n.kids) := by
  rw [isN_eq, h]
  dsimp only
  rw [numB_upto h21 h0 hm]
  generalize (!(n.k == 32) || (sgn n.num).isSome) = A
  generalize (!(n.k == 15) || (match n.kids with | [] => false | m :: _ => (baseN false m).k == 23)) = B
  generalize (!(n.k == 20) || (match n.kids with | [] => false | m :: _ => m.k == 25 && (baseN true m).k == 23)) = C
  generalize isNL n.k 0 n.kids.length n.kids = D
  unfold plainB
  have e1 : decide ((least : Int) ≤ (n.kids.length : Int)) = decide (least ≤ n.kids.length) := by simp
  rw [e1]
  have e2 : (text == decide (n.t.size ≠ 0) && (!text || nameOf n.t)) = ((text || n.t.toList.isEmpty) && (!text || nameOf n.t)) := by
    cases text
    · rw [text_size]; simp
    · have := name_size n.t
      simpa using this
  have e3 : (decide (0 ≤ n.num) && decide (n.num ≤ num)) = ((decide (num ≠ 0) || n.num == 0) && (decide (0 ≤ n.num) && decide (n.num ≤ num))) := by
    by_cases hz : num = 0
    · subst hz
      by_cases hn : n.num = 0
      · simp [hn]
      · have : ¬ (0 ≤ n.num ∧ n.num ≤ 0) := by omega
        rw [← Bool.decide_and]
        simp [hn, this]
    · simp [hz]
  generalize decide (least ≤ n.kids.length) = E
  generalize (decide (most < 0) || decide ((n.kids.length : Int) ≤ most)) = F
  generalize (text || n.t.toList.isEmpty) = G at *
  generalize (!text || nameOf n.t) = H at *
  generalize (text == decide (n.t.size ≠ 0)) = I at *
  rw [e3]
  generalize (decide (0 ≤ n.num) && decide (n.num ≤ num)) = J
  generalize (decide (num ≠ 0) || n.num == 0) = L
  revert e2
  cases A <;> cases B <;> cases C <;> cases D <;> cases E <;> cases F <;> cases G <;> cases H <;> cases I <;> cases J <;> cases L <;> decide
theorem plain_len {n : Nd} {text num : Bool} {least most : Int} (h : plainB n text num least most = true) : least ≤ (n.kids.length : Int) ∧ (most < 0 ∨ (n.kids.length : Int) ≤ most) := by
  simp only [plainB, Bool.and_eq_true, Bool.or_eq_true, decide_eq_true_eq] at h
  exact ⟨h.1.1.2, h.1.2⟩
theorem plain_name {n : Nd} {num : Bool} {least most : Int} (h : plainB n true num least most = true) : nameOf n.t = true := by
  simp only [plainB, Bool.and_eq_true, Bool.or_eq_true, decide_eq_true_eq] at h
  simpa using h.2
theorem and_congr_left {a b c : Bool} (h : a = true → b = c) : (a && b) = (a && c) := by cases a <;> simp_all
end Go.Proofs.YtgegfbopogcjpaaDoor
