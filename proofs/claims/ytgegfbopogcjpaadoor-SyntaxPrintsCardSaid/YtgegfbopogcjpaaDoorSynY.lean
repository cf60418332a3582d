/- Is a node one? (ref6.Is) -/
import Derived.Test.YtgegfbopogcjpaaDoorSynV
import Derived.Test.YtgegfbopogcjpaaDoorSynW
import Derived.Test.YtgegfbopogcjpaaDoorSynX
import Derived.Deep.CutRange
namespace Go.Proofs.YtgegfbopogcjpaaDoor
open Go.RowKit
set_option linter.unusedVariables false
set_option linter.unusedSimpArgs false
set_option maxRecDepth 100000
set_option maxHeartbeats 2000000
def IsOut (n : Nd) (f : Bool) (w : World) (e : Ending) (w' : World) : Prop := e = .returned (.bool (isN n f)) ∧ Below w.heap.size w w'
def IsOk (n : Nd) (f : Bool) : Prop := ∀ (cs : List Value) (w : World), RepN w n cs → Calls Tryd.prog 13 #[.agg cs.toArray, .bool f] w (IsOut n f w)
/-- a kid's test -/
def kidT (k : Int) (len p : Nat) (m : Nd) : Bool := kidB (wantC k p len) m.k && isN m (decide ((wantC k p len).2 < 0))
theorem isNL_iff (k : Int) (len : Nat) : ∀ (l : List Nd) (i : Nat), isNL k i len l = true ↔ ∀ p (h : p < l.length), kidT k len (i + p) l[p] = true
  | [], i => by simp [isNL]
  | n :: l, i => by
    rw [isNL, Bool.and_eq_true, isNL_iff k len l (i + 1)]
    constructor
    · rintro ⟨h1, h2⟩ p hp
      cases p with
      | zero => exact h1
      | succ p =>
        have := h2 p (by simpa using hp)
        rw [show i + (p + 1) = i + 1 + p by omega]
        simpa using this
    · intro h
      refine ⟨h 0 (by simp), fun p hp => ?_⟩
      have := h (p + 1) (by simpa using hp)
      rw [show i + (p + 1) = i + 1 + p by omega] at this
      simpa using this
theorem isNL_no {k : Int} {l : List Nd} {p : Nat} (hp : p < l.length) (h : kidT k l.length p l[p] = false) : isNL k 0 l.length l = false := by
  rcases hh : isNL k 0 l.length l with _ | _
  · rfl
  · have := (isNL_iff k l.length l 0).1 hh p hp
    rw [Nat.zero_add, h] at this
    cases this
def IsRel (n : Nd) (A : Option Addr) (c : Nat) (w : World) (i : Value) (wr : World) : Prop :=
  ∃ j : Nat, i = .int .i64 j ∧ j ≤ n.kids.length ∧ Hid ((∀ p (h : p < n.kids.length), p < j → kidT n.k n.kids.length p n.kids[p] = true) ∧ Below w.heap.size w wr ∧ Blk wr w.heap.size 24 #[.int .i64 n.k, .string n.t, .int .i64 n.num, .slice A n.kids.length c])
def num4 (k num nm : Int) : Bool := decide (0 ≤ num) && (decide (nm < 0) || decide (num ≤ nm)) && (!(k == 21) || decide (num ≤ 2147483647))
theorem numB_f {k num nm : Int} (h : I64 num) : numB k num nm false = num4 k num nm := by
  unfold numB num4
  have : num ≤ 9223372036854775807 := h.2
  simp [this]
theorem numB_t {k num nm : Int} (hn : num < 0) (h : I64 num) : numB k num nm true = num4 k (IntKind.i64.wrap (-num)) nm := by
  unfold numB
  rw [if_pos (⟨rfl, hn⟩ : true = true ∧ num < 0)]
  dsimp only
  by_cases hm : num = -9223372036854775808
  · subst hm
    unfold num4
    have : decide ((0 : Int) ≤ IntKind.i64.wrap (- -9223372036854775808)) = false := by decide
    rw [this]
    rfl
  · have h1 := h.1
    rw [IntWalk.i64_in _ (by omega)]
    unfold num4
    have h2 : decide (-num ≤ 9223372036854775807) = true := by rw [decide_eq_true_eq]; omega
    rw [h2]
    simp only [Bool.and_true]
theorem numB_t' {k num nm : Int} (hn : ¬ num < 0) (h : I64 num) : numB k num nm true = num4 k num nm := by
  unfold numB num4
  have h2 : num ≤ 9223372036854775807 := h.2
  simp [hn, h2]

/-- under way: the node's box, the shape's -/
def IsX (w : World) (n : Nd) (A : Option Addr) (c sb : Nat) (s : Shp) (wx : World) : Prop :=
  Below w.heap.size w wx ∧ Blk wx w.heap.size 24 #[.int .i64 n.k, .string n.t, .int .i64 n.num, .slice A n.kids.length c] ∧ Blk wx sb 60 #[.bool s.text, .int .i64 s.num, .int .i64 (s.least : Int), .int .i64 s.most]
theorem IsX.below {w w1 w2 : World} {n : Nd} {A : Option Addr} {c sb : Nat} {s : Shp} (h : IsX w n A c sb s w1) (hb : Below w1.heap.size w1 w2) : IsX w n A c sb s w2 :=
  ⟨below_trans h.1 (Nat.le_refl _) hb, h.2.1.below hb, h.2.2.below hb⟩
def minNum (f : Bool) (num : Int) : Int := if f = true ∧ num < 0 then IntKind.i64.wrap (-num) else num
theorem numB_min {k num nm : Int} (f : Bool) (h : I64 num) : numB k num nm f = num4 k (minNum f num) nm := by
  unfold minNum
  cases f
  · rw [numB_f h, if_neg (fun h => by cases h.1)]
  · by_cases hn : num < 0
    · rw [numB_t hn h, if_pos ⟨rfl, hn⟩]
    · rw [numB_t' hn h, if_neg (fun h => hn h.2)]
theorem isN_split (n : Nd) (f : Bool) (s : Shp) (hs : shp n.k = some s) (h64 : I64 n.num) :
    isN n f = ((decide (s.least ≤ n.kids.length) && (decide (s.most < 0) || decide ((n.kids.length : Int) ≤ s.most))) && (((s.text == !n.t.toList.isEmpty) && (!s.text || nameOf n.t)) && (num4 n.k (minNum f n.num) s.num && ((!(n.k == 32) || (sgn n.num).isSome) && ((!(n.k == 15) || setC n.kids) && ((!(n.k == 20) || doC n.kids) && isNL n.k 0 n.kids.length n.kids)))))) := by
  rw [isN_eq, hs]
  dsimp only
  rw [numB_min f h64]
  have e0 : decide (n.t.size ≠ 0) = !n.t.toList.isEmpty := by
    have := text_size n.t
    rw [← this]
    cases decide (n.t.size ≠ 0) <;> rfl
  rw [e0]
  have e1 : (match n.kids with | [] => false | m :: _ => (baseN false m).k == 23) = setC n.kids := by cases n.kids <;> rfl
  have e2 : (match n.kids with | [] => false | m :: _ => m.k == 25 && (baseN true m).k == 23) = doC n.kids := by cases n.kids <;> rfl
  first
    | rw [e1, e2]
    | skip
  generalize isNL n.k 0 n.kids.length n.kids = I
  cases n.kids <;> simp [setC, doC, Bool.and_assoc]
theorem sgn_some (op : Int) : (sgn op).isSome = !(sgnT op).toList.isEmpty := by
  rcases hs : sgn op with _ | x
  · unfold sgnT; rw [hs, ByteArray.toList_eq]; rfl
  · unfold sgnT
    rw [hs]
    unfold sgn at hs
    repeat' split at hs
    all_goals simp at hs
    all_goals (subst hs; rw [ByteArray.toList_eq]; rfl)
theorem setC_eq {l : List Nd} (h : 0 < l.length) : setC l = ((baseN false l[0]).k == 23) := by
  cases l with
  | nil => simp at h
  | cons x xs => rfl
theorem doC_eq {l : List Nd} (h : 0 < l.length) : doC l = (l[0].k == 25 && (baseN true l[0]).k == 23) := by
  cases l with
  | nil => simp at h
  | cons x xs => rfl
theorem least_pos {n : Nd} {s : Shp} {k : Int} (hs : shp n.k = some s) (hk : (n.k == k) = true) (h : k = 15 ∨ k = 20) (h1 : (decide (s.least ≤ n.kids.length) && (decide (s.most < 0) || decide ((n.kids.length : Int) ≤ s.most))) = true) : 0 < n.kids.length := by
  have hk : n.k = k := by simpa using hk
  rw [hk] at hs
  rw [Bool.and_eq_true, decide_eq_true_eq] at h1
  have h2 : 1 ≤ s.least := by
    rcases h with rfl | rfl
    · have : s = ⟨false, 0, 2, 2⟩ := by simpa [shp] using hs.symm
      rw [this]; decide
    · have : s = ⟨false, 0, 1, 1⟩ := by simpa [shp] using hs.symm
      rw [this]; decide
  omega
theorem node_field (a b c d : Value) (w : World) : Sem.run Tryd.prog (Instr.field 24 (.agg #[a, b, c, d]) 0) w = .ok a w := rfl
theorem is_false (n : Nd) (IH0 : ∀ m ∈ n.kids, ∀ f, IsOk m f) : IsOk n false := by
    intro cs w hr
    have IH := Lib.hid IH0
    clear IH0
    obtain ⟨A, c, rfl, hR, hcap, hlm, hn64, hts⟩ := hr.four
    have HR := Lib.hid hR
    have H64 := Lib.hid hn64
    have hl9 : n.kids.length ≤ 9223372036854775807 := by unfold maxLen at hlm; exact hlm
    clear hr hR
    obtain ⟨V, HV⟩ : ∃ b, Hid (isN n false = b) := ⟨_, rfl⟩
    have HSN := Lib.hid (fun (h : shp n.k = none) => show V = false by rw [← HV.out, isN_eq, h])
    have HSS := Lib.hid (fun s (h : shp n.k = some s) => HV.out.symm.trans (isN_split n false s h hn64))
    go_enter Tryd.func13, Tryd.ntmps13
    go_wp2_with fail
    refine (of_any n.k _).mono ?_
    rintro e w1 ⟨he, hb1⟩
    have B1 : Hid (Below w.heap.size w w1) := by
      show Below _ _ _
      exact Below.trans ((Below.refl _ _).alloc (Nat.le_refl _) _) (hb1.mono (by simp))
    have K1 : Hid (Blk w1 w.heap.size 24 #[.int .i64 n.k, .string n.t, .int .i64 n.num, .slice A n.kids.length c]) := (Blk.new_ _ _ _).below hb1
    have q0 := K1.out.cell 0 (.int .i64 n.k) rfl
    have q1 := K1.out.cell 1 (.string n.t) rfl
    have q2 := K1.out.cell 2 (.int .i64 n.num) rfl
    have q3 := K1.out.cell 3 (.slice A n.kids.length c) rfl
    clear hb1
    rcases hs : shp n.k with _ | s
    · rw [hs] at he
      subst he
      have HVN := Lib.hid (HSN.out hs)
      have B2 := Lib.hid (B1.out.alloc B1.out.size (.cells #[.bool false, .int .i64 0, .int .i64 0, .int .i64 0] 60))
      clear hs
      go_wp2
      go_ret
      exact ⟨by rw [HV.out, HVN.out]; rfl, B2.out⟩
    rw [hs] at he
    subst he
    have HVS := Lib.hid (HSS.out s hs)
    have HS := Lib.hid hs
    have X2 : Hid (IsX w n A c w1.heap.size s (w1.alloc (.cells #[.bool s.text, .int .i64 s.num, .int .i64 (s.least : Int), .int .i64 s.most] 60))) := ⟨B1.out.alloc B1.out.size _, K1.out.alloc _, Blk.new_ _ _ _⟩
    clear HSS HSN hs
    have hsb : w.heap.size < w1.heap.size := K1.out.lt
    obtain ⟨a1, HA1⟩ : ∃ b, Hid ((decide (s.least ≤ n.kids.length) && (decide (s.most < 0) || decide ((n.kids.length : Int) ≤ s.most))) = b) := ⟨_, rfl⟩
    obtain ⟨a2, HA2⟩ : ∃ b, Hid (((s.text == !n.t.toList.isEmpty) && (!s.text || nameOf n.t)) = b) := ⟨_, rfl⟩
    obtain ⟨a3, HA3⟩ : ∃ b, Hid (num4 n.k (minNum false n.num) s.num = b) := ⟨_, rfl⟩
    obtain ⟨a4, HA4⟩ : ∃ b, Hid ((!(n.k == 32) || (sgn n.num).isSome) = b) := ⟨_, rfl⟩
    obtain ⟨a5, HA5⟩ : ∃ b, Hid ((!(n.k == 15) || setC n.kids) = b) := ⟨_, rfl⟩
    obtain ⟨a6, HA6⟩ : ∃ b, Hid ((!(n.k == 20) || doC n.kids) = b) := ⟨_, rfl⟩
    obtain ⟨a7, HA7⟩ : ∃ b, Hid (isNL n.k 0 n.kids.length n.kids = b) := ⟨_, rfl⟩
    have HVV : Hid (V = (a1 && (a2 && (a3 && (a4 && (a5 && (a6 && a7))))))) := by show _ = _; rw [HVS.out, HA1.out, HA2.out, HA3.out, HA4.out, HA5.out, HA6.out, HA7.out]
    have s0 := X2.out.2.2.cell 0 (.bool s.text) rfl
    have s1 := X2.out.2.2.cell 1 (.int .i64 s.num) rfl
    have s2 := X2.out.2.2.cell 2 (.int .i64 (s.least : Int)) rfl
    have s3 := X2.out.2.2.cell 3 (.int .i64 s.most) rfl
    go_upto_region 2 with (fail)
    generalize hW2 : w1.alloc (.cells #[.bool s.text, .int .i64 s.num, .int .i64 (s.least : Int), .int .i64 s.most] 60) = w2 at *
    generalize w1.heap.size = sb at *
    have q0 := X2.out.2.1.cell 0 (.int .i64 n.k) rfl
    have q1 := X2.out.2.1.cell 1 (.string n.t) rfl
    have q2 := X2.out.2.1.cell 2 (.int .i64 n.num) rfl
    have q3 := X2.out.2.1.cell 3 (.slice A n.kids.length c) rfl
    clear hW2 B1 K1
    obtain ⟨n1, HN1⟩ : ∃ b, Hid ((!a1) = b) := ⟨_, rfl⟩
    go_cut [40] from 18 to 40 (fun v wx => v = .bool n1 ∧ wx = w2)
    case first =>
      obtain ⟨e1, h1⟩ : ∃ b, decide (n.kids.length < s.least) = b := ⟨_, rfl⟩
      obtain ⟨e2, h2⟩ : ∃ b, decide (0 ≤ s.most) = b := ⟨_, rfl⟩
      obtain ⟨e3, h3⟩ : ∃ b, decide (s.most < (n.kids.length : Int)) = b := ⟨_, rfl⟩
      have HH : Hid (n1 = (e1 || (e2 && e3))) := by
        show _ = _
        rw [← HN1.out, ← HA1.out, ← h1, ← h2, ← h3]
        rw [show decide (s.least ≤ n.kids.length) = !decide (n.kids.length < s.least) by rw [← decide_not]; congr 1; simp, show decide (s.most < 0) = !decide (0 ≤ s.most) by rw [← decide_not]; congr 1; simp, show decide ((n.kids.length : Int) ≤ s.most) = !decide (s.most < (n.kids.length : Int)) by rw [← decide_not]; congr 1; simp]
        simp
      go_wp2_with fail
      all_goals go_meet
      all_goals exact ⟨by rw [HH.out]; simp_all, rfl⟩
    case rest =>
      obtain ⟨rfl, hw⟩ := hcut
      subst hw
      rcases n1 with _ | _
      rotate_left
      · have HF : Hid (V = false) := by
          show _ = _
          have := HN1.out
          rw [HVV.out]
          cases a1
          · rfl
          · cases this
        go_wp2
        go_ret
        exact ⟨by rw [HV.out, HF.out]; rfl, X2.out.1⟩
      have HT1 : Hid (a1 = true) := by show _ = _; have := HN1.out; cases a1; cases this; rfl
      obtain ⟨st, HST⟩ : ∃ b, Hid (s.text = b) := ⟨_, rfl⟩
      clear q0 q1 q2 q3 s0 s1 s2 s3
      have q0 := X2.out.2.1.cell 0 (.int .i64 n.k) rfl
      have q1 := X2.out.2.1.cell 1 (.string n.t) rfl
      have q2 := X2.out.2.1.cell 2 (.int .i64 n.num) rfl
      have q3 := X2.out.2.1.cell 3 (.slice A n.kids.length c) rfl
      have s0 := X2.out.2.2.cell 0 (.bool s.text) rfl
      rw [HST.out] at s0
      have s1 := X2.out.2.2.cell 1 (.int .i64 s.num) rfl

      -- the text
      obtain ⟨n2, HN2⟩ : ∃ b, Hid ((!a2) = b) := ⟨_, rfl⟩
      go_upto_region 4 with (fail)
      go_cut [56] from 41 to 56 (fun v wx => v = .bool n2 ∧ IsX w n A c sb s wx)
      case first =>
        obtain ⟨b, hb⟩ : ∃ b, n.t.toList.isEmpty = b := ⟨_, rfl⟩
        obtain ⟨nm, HNM⟩ : ∃ b, Hid (nameOf n.t = b) := ⟨_, rfl⟩
        have HH : Hid (n2 = !((st == !b) && (!st || nm))) := by show _ = _; rw [← HN2.out, ← HA2.out, HST.out, hb, HNM.out]
        rcases st with _ | _
        · rcases b with _ | _
          · go_wp2_with fail
            go_meet
            exact ⟨by rw [HH.out]; rfl, X2.out⟩
          · go_wp2_with fail
            go_meet
            exact ⟨by rw [HH.out]; rfl, X2.out⟩
        · rcases b with _ | _
          · go_wp2_with fail
            refine (n6_nameR_any n.t _).mono ?_
            rintro e w3 ⟨rfl, hb3⟩
            rw [HNM.out]
            have X3 := Lib.hid (X2.out.below hb3)
            clear hb3
            go_wp2_with fail
            go_meet
            exact ⟨by rw [HH.out]; simp, X3.out⟩
          · go_wp2_with fail
            go_meet
            exact ⟨by rw [HH.out]; rfl, X2.out⟩
      case rest =>
      obtain ⟨rfl, hX⟩ := hcut
      have X3 := Lib.hid hX
      clear hX X2 q0 q1 q2 q3 s0 s1
      have q0 := X3.out.2.1.cell 0 (.int .i64 n.k) rfl
      have q1 := X3.out.2.1.cell 1 (.string n.t) rfl
      have q2 := X3.out.2.1.cell 2 (.int .i64 n.num) rfl
      have q3 := X3.out.2.1.cell 3 (.slice A n.kids.length c) rfl
      have s0 := X3.out.2.2.cell 0 (.bool s.text) rfl
      rw [HST.out] at s0
      have s1 := X3.out.2.2.cell 1 (.int .i64 s.num) rfl
      rcases n2 with _ | _
      rotate_left
      · have HF : Hid (V = false) := by
          show _ = _
          have := HN2.out
          rw [HVV.out, HT1.out]
          cases a2
          · simp
          · cases this
        go_wp2
        go_ret
        exact ⟨by rw [HV.out, HF.out]; rfl, X3.out.1⟩
      have HT2 : Hid (a2 = true) := by show _ = _; have := HN2.out; cases a2; cases this; rfl

      -- the number
      obtain ⟨g, HG⟩ : ∃ b, Hid ((false && decide (n.num < 0)) = b) := ⟨_, rfl⟩
      go_upto_region 7 with (fail)
      go_cut [63] from 59 to 63 (fun v wx => v = .bool g ∧ IsX w n A c sb s wx)
      case first =>
        obtain ⟨e1, h1⟩ : ∃ b, decide (n.num < 0) = b := ⟨_, rfl⟩
        have HH : Hid (g = (false && e1)) := by show _ = _; rw [← HG.out, h1]
        go_wp2_with fail
        all_goals go_meet
        all_goals exact ⟨by rw [HH.out]; simp_all, X3.out⟩
      case rest =>
      obtain ⟨rfl, hX⟩ := hcut
      have X4 := Lib.hid hX
      clear hX X3 q0 q1 q2 q3 s0 s1
      have q0 := X4.out.2.1.cell 0 (.int .i64 n.k) rfl
      have q1 := X4.out.2.1.cell 1 (.string n.t) rfl
      have q2 := X4.out.2.1.cell 2 (.int .i64 n.num) rfl
      have q3 := X4.out.2.1.cell 3 (.slice A n.kids.length c) rfl
      have s0 := X4.out.2.2.cell 0 (.bool s.text) rfl
      rw [HST.out] at s0
      have s1 := X4.out.2.2.cell 1 (.int .i64 s.num) rfl
      obtain ⟨M, HM⟩ : ∃ M, Hid (minNum false n.num = M) := ⟨_, rfl⟩
      go_upto_if 63 with (fail)
      go_cut [7] from 64 to 65 (fun v wx => v = .int .i64 M ∧ IsX w n A c sb s wx)
      case first =>
        rcases g with _ | _
        · have HMM : Hid (M = n.num) := by
            show _ = _
            rw [← HM.out]
            unfold minNum
            have hg := HG.out
            rw [if_neg (fun h => by first | exact absurd h.1 (by decide) | (rw [decide_eq_true h.2] at hg; cases hg))]
          go_wp2_with fail
          go_meet
          exact ⟨by rw [HMM.out], X4.out⟩
        · have HMM : Hid (M = IntKind.i64.wrap (-n.num)) := by
            show _ = _
            rw [← HM.out]
            unfold minNum
            have hg := HG.out
            rw [Bool.and_eq_true, decide_eq_true_eq] at hg
            rw [if_pos hg]
          go_wp2_with fail
          go_meet
          exact ⟨by rw [HMM.out]; first | rfl | rw [IntWalk.i64_left], X4.out⟩
      case rest =>
      obtain ⟨rfl, hX⟩ := hcut
      have X5 := Lib.hid hX
      clear hX X4 q0 q1 q2 q3 s0 s1
      have q0 := X5.out.2.1.cell 0 (.int .i64 n.k) rfl
      have q1 := X5.out.2.1.cell 1 (.string n.t) rfl
      have q2 := X5.out.2.1.cell 2 (.int .i64 n.num) rfl
      have q3 := X5.out.2.1.cell 3 (.slice A n.kids.length c) rfl
      have s0 := X5.out.2.2.cell 0 (.bool s.text) rfl
      rw [HST.out] at s0
      have s1 := X5.out.2.2.cell 1 (.int .i64 s.num) rfl
      obtain ⟨n3, HN3⟩ : ∃ b, Hid ((!a3) = b) := ⟨_, rfl⟩
      go_upto_region 9 with (fail)
      go_cut [87] from 66 to 87 (fun v wx => v = .bool n3 ∧ IsX w n A c sb s wx)
      case first =>
        obtain ⟨e1, h1⟩ : ∃ b, decide (M < 0) = b := ⟨_, rfl⟩
        obtain ⟨e2, h2⟩ : ∃ b, decide (0 ≤ s.num) = b := ⟨_, rfl⟩
        obtain ⟨e3, h3⟩ : ∃ b, decide (s.num < M) = b := ⟨_, rfl⟩
        obtain ⟨e4, h4⟩ : ∃ b, (n.k == 21) = b := ⟨_, rfl⟩
        obtain ⟨e5, h5⟩ : ∃ b, decide (2147483647 < M) = b := ⟨_, rfl⟩
        have HH : Hid (n3 = (e1 || (e2 && e3) || (e4 && e5))) := by
          show _ = _
          rw [← HN3.out, ← HA3.out, HM.out, ← h1, ← h2, ← h3, ← h4, ← h5]
          unfold num4
          rw [show decide (0 ≤ M) = !decide (M < 0) by rw [← decide_not]; congr 1; simp, show decide (s.num < 0) = !decide (0 ≤ s.num) by rw [← decide_not]; congr 1; simp, show decide (M ≤ s.num) = !decide (s.num < M) by rw [← decide_not]; congr 1; simp, show decide (M ≤ 2147483647) = !decide (2147483647 < M) by rw [← decide_not]; congr 1; simp]
          simp
        go_wp2_with fail
        all_goals go_meet
        all_goals exact ⟨by rw [HH.out]; simp_all, X5.out⟩
      case rest =>
      obtain ⟨rfl, hX⟩ := hcut
      have X6 := Lib.hid hX
      clear hX X5 q0 q1 q2 q3 s0 s1
      have q0 := X6.out.2.1.cell 0 (.int .i64 n.k) rfl
      have q1 := X6.out.2.1.cell 1 (.string n.t) rfl
      have q2 := X6.out.2.1.cell 2 (.int .i64 n.num) rfl
      have q3 := X6.out.2.1.cell 3 (.slice A n.kids.length c) rfl
      have s0 := X6.out.2.2.cell 0 (.bool s.text) rfl
      rw [HST.out] at s0
      have s1 := X6.out.2.2.cell 1 (.int .i64 s.num) rfl
      rcases n3 with _ | _
      rotate_left
      · have HF : Hid (V = false) := by
          show _ = _
          have := HN3.out
          rw [HVV.out, HT1.out, HT2.out]
          cases a3
          · simp
          · cases this
        go_wp2
        go_ret
        exact ⟨by rw [HV.out, HF.out]; rfl, X6.out.1⟩
      have HT3 : Hid (a3 = true) := by show _ = _; have := HN3.out; cases a3; cases this; rfl

      -- the operation
      obtain ⟨n4, HN4⟩ : ∃ b, Hid ((!a4) = b) := ⟨_, rfl⟩
      go_upto_region 11 with (fail)
      go_cut [96] from 88 to 96 (fun v wx => v = .bool n4 ∧ IsX w n A c sb s wx)
      case first =>
        obtain ⟨e1, h1⟩ : ∃ b, (n.k == 32) = b := ⟨_, rfl⟩
        have HH : Hid (n4 = (e1 && (sgnT n.num).toList.isEmpty)) := by
          show _ = _
          rw [← HN4.out, ← HA4.out, ← h1, sgn_some]
          simp
        rcases e1 with _ | _
        · go_wp2_with fail
          go_meet
          exact ⟨by rw [HH.out]; rfl, X6.out⟩
        · go_wp2_with fail
          refine (signOf_any n.num _).mono ?_
          rintro e w3 ⟨rfl, hb3⟩
          have X7 := Lib.hid (X6.out.below hb3)
          obtain ⟨b, hb⟩ : ∃ b, (sgnT n.num).toList.isEmpty = b := ⟨_, rfl⟩
          rw [hb] at HH
          clear hb3
          go_wp2_with fail
          go_meet
          exact ⟨by rw [HH.out]; simp, X7.out⟩
      case rest =>
      obtain ⟨rfl, hX⟩ := hcut
      have X7 := Lib.hid hX
      clear hX X6 q0 q1 q2 q3 s0 s1
      have q0 := X7.out.2.1.cell 0 (.int .i64 n.k) rfl
      have q1 := X7.out.2.1.cell 1 (.string n.t) rfl
      have q2 := X7.out.2.1.cell 2 (.int .i64 n.num) rfl
      have q3 := X7.out.2.1.cell 3 (.slice A n.kids.length c) rfl
      have s0 := X7.out.2.2.cell 0 (.bool s.text) rfl
      rw [HST.out] at s0
      have s1 := X7.out.2.2.cell 1 (.int .i64 s.num) rfl
      rcases n4 with _ | _
      rotate_left
      · have HF : Hid (V = false) := by
          show _ = _
          have := HN4.out
          rw [HVV.out, HT1.out, HT2.out, HT3.out]
          cases a4
          · simp
          · cases this
        go_wp2
        go_ret
        exact ⟨by rw [HV.out, HF.out]; rfl, X7.out.1⟩
      have HT4 : Hid (a4 = true) := by show _ = _; have := HN4.out; cases a4; cases this; rfl

      -- what is set
      obtain ⟨n5, HN5⟩ : ∃ b, Hid ((!a5) = b) := ⟨_, rfl⟩
      go_upto_region 13 with (fail)
      go_cut [108] from 97 to 108 (fun v wx => v = .bool n5 ∧ IsX w n A c sb s wx)
      case first =>
        obtain ⟨e1, h1⟩ : ∃ b, (n.k == 15) = b := ⟨_, rfl⟩
        rcases e1 with _ | _
        · have HH : Hid (n5 = false) := by show _ = _; rw [← HN5.out, ← HA5.out, h1]; rfl
          go_wp2_with fail
          go_meet
          exact ⟨by rw [HH.out], X7.out⟩
        ·
          have hpos : 0 < n.kids.length := least_pos HS.out h1 (by decide) (HA1.out.trans HT1.out)
          obtain ⟨b, o, A', c', hA, hb, k0, k1, k2, k3, k4, -⟩ := HR.out.kid (i := 0) hpos
          subst hA
          simp only [Nat.zero_mul, Nat.add_zero] at k0 k1 k2 k3
          have bw := X7.out.1
          have z0 := (bw.cell (p := ⟨b, o, none⟩) hb).trans k0
          have z1 := (bw.cell (p := ⟨b, o + 1, none⟩) hb).trans k1
          have z2 := (bw.cell (p := ⟨b, o + 2, none⟩) hb).trans k2
          have z3 := (bw.cell (p := ⟨b, o + 3, none⟩) hb).trans k3
          have HRK := Lib.hid (RepNL.keep bw _ _ k4)
          have HH : Hid (n5 = !((baseN false n.kids[0]).k == 23)) := by show _ = _; rw [← HN5.out, ← HA5.out, h1, setC_eq hpos]; rfl
          clear k0 k1 k2 k3 k4 bw
          generalize n.kids[0] = x at *
          go_wp2_with fail
          refine (base_all false _ x (Nat.le_refl _) _ _ _ HRK.out).mono ?_
          rintro e w3 ⟨⟨A2, c2, rfl⟩, hb3⟩
          have X8 := Lib.hid (X7.out.below hb3)
          generalize baseN false x = y at *
          obtain ⟨e2, h2⟩ : ∃ b, (y.k == 23) = b := ⟨_, rfl⟩
          rw [h2] at HH
          clear hb3
          go_wp2_with fail
          rw [node_field]
          go_wp2_with fail
          go_meet
          exact ⟨by rw [HH.out, ← h2]; rfl, X8.out⟩
      case rest =>
      obtain ⟨rfl, hX⟩ := hcut
      have X8 := Lib.hid hX
      clear hX X7 q0 q1 q2 q3 s0 s1
      have q0 := X8.out.2.1.cell 0 (.int .i64 n.k) rfl
      have q1 := X8.out.2.1.cell 1 (.string n.t) rfl
      have q2 := X8.out.2.1.cell 2 (.int .i64 n.num) rfl
      have q3 := X8.out.2.1.cell 3 (.slice A n.kids.length c) rfl
      have s0 := X8.out.2.2.cell 0 (.bool s.text) rfl
      rw [HST.out] at s0
      have s1 := X8.out.2.2.cell 1 (.int .i64 s.num) rfl
      rcases n5 with _ | _
      rotate_left
      · have HF : Hid (V = false) := by
          show _ = _
          have := HN5.out
          rw [HVV.out, HT1.out, HT2.out, HT3.out, HT4.out]
          cases a5
          · simp
          · cases this
        go_wp2
        go_ret
        exact ⟨by rw [HV.out, HF.out]; rfl, X8.out.1⟩
      have HT5 : Hid (a5 = true) := by show _ = _; have := HN5.out; cases a5; cases this; rfl

      -- what is done
      obtain ⟨n6, HN6⟩ : ∃ b, Hid ((!a6) = b) := ⟨_, rfl⟩
      go_upto_region 15 with (fail)
      go_cut [128] from 109 to 128 (fun v wx => v = .bool n6 ∧ IsX w n A c sb s wx)
      case first =>
        obtain ⟨e1, h1⟩ : ∃ b, (n.k == 20) = b := ⟨_, rfl⟩
        rcases e1 with _ | _
        · have HH : Hid (n6 = false) := by show _ = _; rw [← HN6.out, ← HA6.out, h1]; rfl
          go_wp2_with fail
          go_meet
          exact ⟨by rw [HH.out], X8.out⟩
        ·
          have hpos : 0 < n.kids.length := least_pos HS.out h1 (by decide) (HA1.out.trans HT1.out)
          obtain ⟨b, o, A', c', hA, hb, k0, k1, k2, k3, k4, -⟩ := HR.out.kid (i := 0) hpos
          subst hA
          simp only [Nat.zero_mul, Nat.add_zero] at k0 k1 k2 k3
          have bw := X8.out.1
          have z0 := (bw.cell (p := ⟨b, o, none⟩) hb).trans k0
          have z1 := (bw.cell (p := ⟨b, o + 1, none⟩) hb).trans k1
          have z2 := (bw.cell (p := ⟨b, o + 2, none⟩) hb).trans k2
          have z3 := (bw.cell (p := ⟨b, o + 3, none⟩) hb).trans k3
          have HRK := Lib.hid (RepNL.keep bw _ _ k4)
          have HH : Hid (n6 = !(n.kids[0].k == 25 && (baseN true n.kids[0]).k == 23)) := by show _ = _; rw [← HN6.out, ← HA6.out, h1, doC_eq hpos]; rfl
          clear k0 k1 k2 k3 k4 bw
          generalize n.kids[0] = x at *
          obtain ⟨e2, h2⟩ : ∃ b, (x.k == 25) = b := ⟨_, rfl⟩
          rcases e2 with _ | _
          · have HH : Hid (n6 = true) := by show _ = _; rw [HH.out, h2]; rfl
            have h2b : (x.k != 25) = true := by rw [bne, h2]; rfl
            have h2c : ¬ x.k = 25 := by simpa using h2
            go_wp2_with fail
            go_meet
            exact ⟨by rw [HH.out], X8.out⟩
          · rw [h2] at HH
            have hk : x.k = 25 := by simpa using h2
            have HBA := Lib.hid (base_all true _ x (Nat.le_refl _) _ c' _ HRK.out)
            rw [hk] at HBA z0
            clear h2 hk
            go_wp2_with fail
            refine HBA.out.mono ?_
            rintro e w3 ⟨⟨A2, c2, rfl⟩, hb3⟩
            have X9 := Lib.hid (X8.out.below hb3)
            generalize baseN true x = y at *
            obtain ⟨e3, h3⟩ : ∃ b, (y.k == 23) = b := ⟨_, rfl⟩
            rw [h3] at HH
            clear hb3
            go_wp2_with fail
            rw [node_field]
            go_wp2_with fail
            go_meet
            exact ⟨by rw [HH.out, ← h3]; rfl, X9.out⟩
      case rest =>
      obtain ⟨rfl, hX⟩ := hcut
      have X9 := Lib.hid hX
      clear hX X8 q0 q1 q2 q3 s0 s1
      have q0 := X9.out.2.1.cell 0 (.int .i64 n.k) rfl
      have q1 := X9.out.2.1.cell 1 (.string n.t) rfl
      have q2 := X9.out.2.1.cell 2 (.int .i64 n.num) rfl
      have q3 := X9.out.2.1.cell 3 (.slice A n.kids.length c) rfl
      have s0 := X9.out.2.2.cell 0 (.bool s.text) rfl
      rw [HST.out] at s0
      have s1 := X9.out.2.2.cell 1 (.int .i64 s.num) rfl
      rcases n6 with _ | _
      rotate_left
      · have HF : Hid (V = false) := by
          show _ = _
          have := HN6.out
          rw [HVV.out, HT1.out, HT2.out, HT3.out, HT4.out, HT5.out]
          cases a6
          · simp
          · cases this
        go_wp2
        go_ret
        exact ⟨by rw [HV.out, HF.out]; rfl, X9.out.1⟩
      have HT6 : Hid (a6 = true) := by show _ = _; have := HN6.out; cases a6; cases this; rfl

      -- the kids
      have HV7 : Hid (V = a7) := by show _ = _; rw [HVV.out, HT1.out, HT2.out, HT3.out, HT4.out, HT5.out, HT6.out]; simp
      have HNO := Lib.hid (fun p (hp : p < n.kids.length) (h : kidT n.k n.kids.length p n.kids[p] = false) => HA7.out.symm.trans (isNL_no hp h))
      have HYES := Lib.hid (fun (h : ∀ p (hp : p < n.kids.length), kidT n.k n.kids.length p n.kids[p] = true) => HA7.out.symm.trans ((isNL_iff n.k n.kids.length n.kids 0).2 (fun p hp => by rw [Nat.zero_add]; exact h p hp)))
      clear HVV HVS HS HA1 HA2 HA3 HA4 HA5 HA6 HA7 HT1 HT2 HT3 HT4 HT5 HT6 HN1 HN2 HN3 HN4 HN5 HN6 q0 q1 q2 q3 s0 s1 HST HG HM H64
      go_wp2_with fail
      go_loopw [8] (fun i wr => IsRel n A c w i wr) (fun i _ => n.kids.length - (intOf i).toNat)
      case atStart => exact ⟨0, rfl, Nat.zero_le _, Lib.hid ⟨fun p _ hp => absurd hp (by omega), X9.out.1, X9.out.2.1⟩⟩
      case round =>
        obtain ⟨j, rfl, hj, HX⟩ := hrel
        have q3 := HX.out.2.2.cell 3 (.slice A n.kids.length c) rfl
        have q0 := HX.out.2.2.cell 0 (.int .i64 n.k) rfl
        have q1 := HX.out.2.2.cell 1 (.string n.t) rfl
        have q2 := HX.out.2.2.cell 2 (.int .i64 n.num) rfl
        by_cases hlt : j < n.kids.length
        · have hi : (j : Int) < (n.kids.length : Int) := by omega
          have d1 : decide ((j : Int) < (n.kids.length : Int)) = true := by simpa using hi
          obtain ⟨b, o, cs, hA, hbl, hc, hrep⟩ := RepNL.at_ n.kids _ HR.out j hlt
          subst hA
          obtain ⟨A', c', rfl, -⟩ := hrep.four
          have bw := HX.out.2.1
          have z0 := (bw.cell (p := ⟨b, o + j * 4 + 0, none⟩) hbl).trans (hc 0 _ rfl)
          have z1 := (bw.cell (p := ⟨b, o + j * 4 + 1, none⟩) hbl).trans (hc 1 _ rfl)
          have z2 := (bw.cell (p := ⟨b, o + j * 4 + 2, none⟩) hbl).trans (hc 2 _ rfl)
          have z3 := (bw.cell (p := ⟨b, o + j * 4 + 3, none⟩) hbl).trans (hc 3 _ rfl)
          rw [Nat.add_zero] at z0
          have HREP := Lib.hid (RepN.keep bw _ _ hrep)
          have HI := Lib.hid (IH.out _ (List.getElem_mem hlt))
          have HNJ := Lib.hid (HNO.out j hlt)
          have HPJ : Hid (kidT n.k n.kids.length j n.kids[j] = true → ∀ p (h : p < n.kids.length), p < j + 1 → kidT n.k n.kids.length p n.kids[p] = true) := by
            show _ → _
            intro h p hp hpj
            by_cases e : p = j
            · subst e; exact h
            · exact HX.out.1 p hp (by omega)
          clear hc bw hrep
          generalize n.kids[j] = x at *
          have hgl := HX.out.2.2.lt
          go_wp2_with fail
          have HLT := Lib.hid hlt
          refine (wants_any n (some ⟨b, o, none⟩) c j _ hlt hl9).mono ?_
          rintro e w2 ⟨rfl, hb2⟩
          have HKT : Hid (kidT n.k n.kids.length j x = (kidB (wantC n.k j n.kids.length) x.k && isN x (decide ((wantC n.k j n.kids.length).2 < 0)))) := rfl
          rcases hWC : wantC n.k j n.kids.length with ⟨c1, kd⟩
          have B2 : Hid (Below w.heap.size w w2) := below_trans (HX.out.2.1.alloc HX.out.2.1.size _) (Nat.le_refl _) hb2
          have K2 : Hid (Blk w2 w.heap.size 24 #[.int .i64 n.k, .string n.t, .int .i64 n.num, .slice (some ⟨b, o, none⟩) n.kids.length c]) := (HX.out.2.2.alloc _).below hb2
          have Y2 : Hid (Blk w2 wr.heap.size 24 #[.int .i64 x.k, .string x.t, .int .i64 x.num, .slice A' x.kids.length c']) := (Blk.new_ _ _ _).below hb2
          have HREP2 : Hid (RepN w2 x [.int .i64 x.k, .string x.t, .int .i64 x.num, .slice A' x.kids.length c']) := RepN.keep (below_trans ((Below.refl _ _).alloc (Nat.le_refl _) _) (Nat.le_refl _) hb2) _ _ HREP.out
          rw [hWC] at HKT
          clear hb2 hWC q0 q1 q2 q3 z0 z1 z2 z3 HREP
          have y0 := Y2.out.cell 0 (.int .i64 x.k) rfl
          have y1 := Y2.out.cell 1 (.string x.t) rfl
          have y2 := Y2.out.cell 2 (.int .i64 x.num) rfl
          have y3 := Y2.out.cell 3 (.slice A' x.kids.length c') rfl
          obtain ⟨nb, HNB⟩ : ∃ b, Hid ((!kidB (c1, kd) x.k) = b) := ⟨_, rfl⟩
          generalize wr.heap.size = kb at *
          go_upto_region 22 with (fail)
          go_cut [175] from 147 to 175 (fun v wx => v = .bool nb ∧ wx = w2)
          case first =>
            obtain ⟨z, hz⟩ : ∃ z, x.k = z := ⟨_, rfl⟩
            rw [hz] at y0 HNB
            clear hz HKT
            have HH : Hid (nb = (!(cls z == c1) || (decide (0 < kd) && !(z == kd)) || (decide (kd < 0) && !(z == 21) && !(z == 22)))) := by
              show _ = _
              rw [← HNB.out]
              unfold kidB
              dsimp only
              rw [show decide (kd ≤ 0) = !decide (0 < kd) by rw [← decide_not]; congr 1; simp, show decide (0 ≤ kd) = !decide (kd < 0) by rw [← decide_not]; congr 1; simp]
              simp [Bool.or_assoc, Bool.and_assoc]
            go_wp2_with fail
            refine (class_any z _).mono ?_
            rintro e w3 ⟨rfl, rfl⟩
            generalize cls z = cl at *
            clear HNB
            go_wp2_with fail
            all_goals first
              | (go_meet; exact ⟨by rw [HH.out]; first | (simp_all [bne]; done) | (simp_all [bne]; omega), rfl⟩)
              | (have hkd : kd = 21 := by simp_all
                 subst hkd
                 go_meet
                 exact ⟨by rw [HH.out]; first | (simp_all [bne]; done) | (simp_all [bne]; omega), rfl⟩)
          case rest =>
          obtain ⟨rfl, hX⟩ := hcut
          subst hX
          rcases nb with _ | _
          rotate_left
          · have HF : Hid (V = false) := by
              show _ = _
              have := HNB.out
              rw [HV7.out, HNJ.out (by rw [HKT.out]; cases hk : kidB (c1, kd) x.k; rfl; rw [hk] at this; cases this)]
            go_wp2
            go_ret
            exact ⟨by rw [HV.out, HF.out]; rfl, B2.out⟩
          obtain ⟨ef, hef⟩ : ∃ b, decide (kd < 0) = b := ⟨_, rfl⟩
          have HKT2 : Hid (kidT n.k n.kids.length j x = isN x ef) := by
            show _ = _
            have := HNB.out
            rw [HKT.out, ← hef]
            cases hk : kidB (c1, kd) x.k
            · rw [hk] at this; cases this
            · rfl
          have HI2 : Hid (IsOk x ef) := HI.out ef
          clear HI HKT HNB
          go_wp2_with fail
          refine (HI2.out _ _ HREP2.out).mono ?_
          rintro e w3 ⟨rfl, hb3⟩
          have B3 := Lib.hid (below_trans B2.out (Nat.le_refl _) hb3)
          have K3 := Lib.hid (K2.out.below hb3)
          obtain ⟨r, hr⟩ : ∃ r, isN x ef = r := ⟨_, rfl⟩
          rw [hr] at HKT2
          rw [hr]
          clear hb3
          rcases r with _ | _
          · have HF : Hid (V = false) := by
              show _ = _
              rw [HV7.out, HNJ.out HKT2.out]
            go_wp2
            go_ret
            exact ⟨by rw [HV.out, HF.out]; rfl, B3.out⟩
          · have HP2 := Lib.hid (HPJ.out HKT2.out)
            go_wp2
            go_roundw
            case rel => exact ⟨j + 1, by go_num, by have := HLT.out; omega, Lib.hid ⟨HP2.out, B3.out, K3.out⟩⟩
            case measure => (first | (simp [intOf]; done) | (simp [intOf]; omega))
        · have hi : ¬ (j : Int) < (n.kids.length : Int) := by omega
          have d1 : decide ((j : Int) < (n.kids.length : Int)) = false := by simpa using hi
          have HF : Hid (V = true) := by
            show _ = _
            rw [HV7.out]
            exact HYES.out (fun p hp => HX.out.1 p hp (by omega))
          go_wp2
          go_ret
          exact ⟨by rw [HV.out, HF.out]; rfl, HX.out.2.1⟩
theorem is_true (n : Nd) (IH0 : ∀ m ∈ n.kids, ∀ f, IsOk m f) : IsOk n true := by
    intro cs w hr
    have IH := Lib.hid IH0
    clear IH0
    obtain ⟨A, c, rfl, hR, hcap, hlm, hn64, hts⟩ := hr.four
    have HR := Lib.hid hR
    have H64 := Lib.hid hn64
    have hl9 : n.kids.length ≤ 9223372036854775807 := by unfold maxLen at hlm; exact hlm
    clear hr hR
    obtain ⟨V, HV⟩ : ∃ b, Hid (isN n true = b) := ⟨_, rfl⟩
    have HSN := Lib.hid (fun (h : shp n.k = none) => show V = false by rw [← HV.out, isN_eq, h])
    have HSS := Lib.hid (fun s (h : shp n.k = some s) => HV.out.symm.trans (isN_split n true s h hn64))
    go_enter Tryd.func13, Tryd.ntmps13
    go_wp2_with fail
    refine (of_any n.k _).mono ?_
    rintro e w1 ⟨he, hb1⟩
    have B1 : Hid (Below w.heap.size w w1) := by
      show Below _ _ _
      exact Below.trans ((Below.refl _ _).alloc (Nat.le_refl _) _) (hb1.mono (by simp))
    have K1 : Hid (Blk w1 w.heap.size 24 #[.int .i64 n.k, .string n.t, .int .i64 n.num, .slice A n.kids.length c]) := (Blk.new_ _ _ _).below hb1
    have q0 := K1.out.cell 0 (.int .i64 n.k) rfl
    have q1 := K1.out.cell 1 (.string n.t) rfl
    have q2 := K1.out.cell 2 (.int .i64 n.num) rfl
    have q3 := K1.out.cell 3 (.slice A n.kids.length c) rfl
    clear hb1
    rcases hs : shp n.k with _ | s
    · rw [hs] at he
      subst he
      have HVN := Lib.hid (HSN.out hs)
      have B2 := Lib.hid (B1.out.alloc B1.out.size (.cells #[.bool false, .int .i64 0, .int .i64 0, .int .i64 0] 60))
      clear hs
      go_wp2
      go_ret
      exact ⟨by rw [HV.out, HVN.out]; rfl, B2.out⟩
    rw [hs] at he
    subst he
    have HVS := Lib.hid (HSS.out s hs)
    have HS := Lib.hid hs
    have X2 : Hid (IsX w n A c w1.heap.size s (w1.alloc (.cells #[.bool s.text, .int .i64 s.num, .int .i64 (s.least : Int), .int .i64 s.most] 60))) := ⟨B1.out.alloc B1.out.size _, K1.out.alloc _, Blk.new_ _ _ _⟩
    clear HSS HSN hs
    have hsb : w.heap.size < w1.heap.size := K1.out.lt
    obtain ⟨a1, HA1⟩ : ∃ b, Hid ((decide (s.least ≤ n.kids.length) && (decide (s.most < 0) || decide ((n.kids.length : Int) ≤ s.most))) = b) := ⟨_, rfl⟩
    obtain ⟨a2, HA2⟩ : ∃ b, Hid (((s.text == !n.t.toList.isEmpty) && (!s.text || nameOf n.t)) = b) := ⟨_, rfl⟩
    obtain ⟨a3, HA3⟩ : ∃ b, Hid (num4 n.k (minNum true n.num) s.num = b) := ⟨_, rfl⟩
    obtain ⟨a4, HA4⟩ : ∃ b, Hid ((!(n.k == 32) || (sgn n.num).isSome) = b) := ⟨_, rfl⟩
    obtain ⟨a5, HA5⟩ : ∃ b, Hid ((!(n.k == 15) || setC n.kids) = b) := ⟨_, rfl⟩
    obtain ⟨a6, HA6⟩ : ∃ b, Hid ((!(n.k == 20) || doC n.kids) = b) := ⟨_, rfl⟩
    obtain ⟨a7, HA7⟩ : ∃ b, Hid (isNL n.k 0 n.kids.length n.kids = b) := ⟨_, rfl⟩
    have HVV : Hid (V = (a1 && (a2 && (a3 && (a4 && (a5 && (a6 && a7))))))) := by show _ = _; rw [HVS.out, HA1.out, HA2.out, HA3.out, HA4.out, HA5.out, HA6.out, HA7.out]
    have s0 := X2.out.2.2.cell 0 (.bool s.text) rfl
    have s1 := X2.out.2.2.cell 1 (.int .i64 s.num) rfl
    have s2 := X2.out.2.2.cell 2 (.int .i64 (s.least : Int)) rfl
    have s3 := X2.out.2.2.cell 3 (.int .i64 s.most) rfl
    go_upto_region 2 with (fail)
    generalize hW2 : w1.alloc (.cells #[.bool s.text, .int .i64 s.num, .int .i64 (s.least : Int), .int .i64 s.most] 60) = w2 at *
    generalize w1.heap.size = sb at *
    have q0 := X2.out.2.1.cell 0 (.int .i64 n.k) rfl
    have q1 := X2.out.2.1.cell 1 (.string n.t) rfl
    have q2 := X2.out.2.1.cell 2 (.int .i64 n.num) rfl
    have q3 := X2.out.2.1.cell 3 (.slice A n.kids.length c) rfl
    clear hW2 B1 K1
    obtain ⟨n1, HN1⟩ : ∃ b, Hid ((!a1) = b) := ⟨_, rfl⟩
    go_cut [40] from 18 to 40 (fun v wx => v = .bool n1 ∧ wx = w2)
    case first =>
      obtain ⟨e1, h1⟩ : ∃ b, decide (n.kids.length < s.least) = b := ⟨_, rfl⟩
      obtain ⟨e2, h2⟩ : ∃ b, decide (0 ≤ s.most) = b := ⟨_, rfl⟩
      obtain ⟨e3, h3⟩ : ∃ b, decide (s.most < (n.kids.length : Int)) = b := ⟨_, rfl⟩
      have HH : Hid (n1 = (e1 || (e2 && e3))) := by
        show _ = _
        rw [← HN1.out, ← HA1.out, ← h1, ← h2, ← h3]
        rw [show decide (s.least ≤ n.kids.length) = !decide (n.kids.length < s.least) by rw [← decide_not]; congr 1; simp, show decide (s.most < 0) = !decide (0 ≤ s.most) by rw [← decide_not]; congr 1; simp, show decide ((n.kids.length : Int) ≤ s.most) = !decide (s.most < (n.kids.length : Int)) by rw [← decide_not]; congr 1; simp]
        simp
      go_wp2_with fail
      all_goals go_meet
      all_goals exact ⟨by rw [HH.out]; simp_all, rfl⟩
    case rest =>
      obtain ⟨rfl, hw⟩ := hcut
      subst hw
      rcases n1 with _ | _
      rotate_left
      · have HF : Hid (V = false) := by
          show _ = _
          have := HN1.out
          rw [HVV.out]
          cases a1
          · rfl
          · cases this
        go_wp2
        go_ret
        exact ⟨by rw [HV.out, HF.out]; rfl, X2.out.1⟩
      have HT1 : Hid (a1 = true) := by show _ = _; have := HN1.out; cases a1; cases this; rfl
      obtain ⟨st, HST⟩ : ∃ b, Hid (s.text = b) := ⟨_, rfl⟩
      clear q0 q1 q2 q3 s0 s1 s2 s3
      have q0 := X2.out.2.1.cell 0 (.int .i64 n.k) rfl
      have q1 := X2.out.2.1.cell 1 (.string n.t) rfl
      have q2 := X2.out.2.1.cell 2 (.int .i64 n.num) rfl
      have q3 := X2.out.2.1.cell 3 (.slice A n.kids.length c) rfl
      have s0 := X2.out.2.2.cell 0 (.bool s.text) rfl
      rw [HST.out] at s0
      have s1 := X2.out.2.2.cell 1 (.int .i64 s.num) rfl

      -- the text
      obtain ⟨n2, HN2⟩ : ∃ b, Hid ((!a2) = b) := ⟨_, rfl⟩
      go_upto_region 4 with (fail)
      go_cut [56] from 41 to 56 (fun v wx => v = .bool n2 ∧ IsX w n A c sb s wx)
      case first =>
        obtain ⟨b, hb⟩ : ∃ b, n.t.toList.isEmpty = b := ⟨_, rfl⟩
        obtain ⟨nm, HNM⟩ : ∃ b, Hid (nameOf n.t = b) := ⟨_, rfl⟩
        have HH : Hid (n2 = !((st == !b) && (!st || nm))) := by show _ = _; rw [← HN2.out, ← HA2.out, HST.out, hb, HNM.out]
        rcases st with _ | _
        · rcases b with _ | _
          · go_wp2_with fail
            go_meet
            exact ⟨by rw [HH.out]; rfl, X2.out⟩
          · go_wp2_with fail
            go_meet
            exact ⟨by rw [HH.out]; rfl, X2.out⟩
        · rcases b with _ | _
          · go_wp2_with fail
            refine (n6_nameR_any n.t _).mono ?_
            rintro e w3 ⟨rfl, hb3⟩
            rw [HNM.out]
            have X3 := Lib.hid (X2.out.below hb3)
            clear hb3
            go_wp2_with fail
            go_meet
            exact ⟨by rw [HH.out]; simp, X3.out⟩
          · go_wp2_with fail
            go_meet
            exact ⟨by rw [HH.out]; rfl, X2.out⟩
      case rest =>
      obtain ⟨rfl, hX⟩ := hcut
      have X3 := Lib.hid hX
      clear hX X2 q0 q1 q2 q3 s0 s1
      have q0 := X3.out.2.1.cell 0 (.int .i64 n.k) rfl
      have q1 := X3.out.2.1.cell 1 (.string n.t) rfl
      have q2 := X3.out.2.1.cell 2 (.int .i64 n.num) rfl
      have q3 := X3.out.2.1.cell 3 (.slice A n.kids.length c) rfl
      have s0 := X3.out.2.2.cell 0 (.bool s.text) rfl
      rw [HST.out] at s0
      have s1 := X3.out.2.2.cell 1 (.int .i64 s.num) rfl
      rcases n2 with _ | _
      rotate_left
      · have HF : Hid (V = false) := by
          show _ = _
          have := HN2.out
          rw [HVV.out, HT1.out]
          cases a2
          · simp
          · cases this
        go_wp2
        go_ret
        exact ⟨by rw [HV.out, HF.out]; rfl, X3.out.1⟩
      have HT2 : Hid (a2 = true) := by show _ = _; have := HN2.out; cases a2; cases this; rfl

      -- the number
      obtain ⟨g, HG⟩ : ∃ b, Hid ((true && decide (n.num < 0)) = b) := ⟨_, rfl⟩
      go_upto_region 7 with (fail)
      go_cut [63] from 59 to 63 (fun v wx => v = .bool g ∧ IsX w n A c sb s wx)
      case first =>
        obtain ⟨e1, h1⟩ : ∃ b, decide (n.num < 0) = b := ⟨_, rfl⟩
        have HH : Hid (g = (true && e1)) := by show _ = _; rw [← HG.out, h1]
        go_wp2_with fail
        all_goals go_meet
        all_goals exact ⟨by rw [HH.out]; simp_all, X3.out⟩
      case rest =>
      obtain ⟨rfl, hX⟩ := hcut
      have X4 := Lib.hid hX
      clear hX X3 q0 q1 q2 q3 s0 s1
      have q0 := X4.out.2.1.cell 0 (.int .i64 n.k) rfl
      have q1 := X4.out.2.1.cell 1 (.string n.t) rfl
      have q2 := X4.out.2.1.cell 2 (.int .i64 n.num) rfl
      have q3 := X4.out.2.1.cell 3 (.slice A n.kids.length c) rfl
      have s0 := X4.out.2.2.cell 0 (.bool s.text) rfl
      rw [HST.out] at s0
      have s1 := X4.out.2.2.cell 1 (.int .i64 s.num) rfl
      obtain ⟨M, HM⟩ : ∃ M, Hid (minNum true n.num = M) := ⟨_, rfl⟩
      go_upto_if 63 with (fail)
      go_cut [7] from 64 to 65 (fun v wx => v = .int .i64 M ∧ IsX w n A c sb s wx)
      case first =>
        rcases g with _ | _
        · have HMM : Hid (M = n.num) := by
            show _ = _
            rw [← HM.out]
            unfold minNum
            have hg := HG.out
            rw [if_neg (fun h => by first | exact absurd h.1 (by decide) | (rw [decide_eq_true h.2] at hg; cases hg))]
          go_wp2_with fail
          go_meet
          exact ⟨by rw [HMM.out], X4.out⟩
        · have HMM : Hid (M = IntKind.i64.wrap (-n.num)) := by
            show _ = _
            rw [← HM.out]
            unfold minNum
            have hg := HG.out
            rw [Bool.and_eq_true, decide_eq_true_eq] at hg
            rw [if_pos hg]
          go_wp2_with fail
          go_meet
          exact ⟨by rw [HMM.out]; first | rfl | rw [IntWalk.i64_left], X4.out⟩
      case rest =>
      obtain ⟨rfl, hX⟩ := hcut
      have X5 := Lib.hid hX
      clear hX X4 q0 q1 q2 q3 s0 s1
      have q0 := X5.out.2.1.cell 0 (.int .i64 n.k) rfl
      have q1 := X5.out.2.1.cell 1 (.string n.t) rfl
      have q2 := X5.out.2.1.cell 2 (.int .i64 n.num) rfl
      have q3 := X5.out.2.1.cell 3 (.slice A n.kids.length c) rfl
      have s0 := X5.out.2.2.cell 0 (.bool s.text) rfl
      rw [HST.out] at s0
      have s1 := X5.out.2.2.cell 1 (.int .i64 s.num) rfl
      obtain ⟨n3, HN3⟩ : ∃ b, Hid ((!a3) = b) := ⟨_, rfl⟩
      go_upto_region 9 with (fail)
      go_cut [87] from 66 to 87 (fun v wx => v = .bool n3 ∧ IsX w n A c sb s wx)
      case first =>
        obtain ⟨e1, h1⟩ : ∃ b, decide (M < 0) = b := ⟨_, rfl⟩
        obtain ⟨e2, h2⟩ : ∃ b, decide (0 ≤ s.num) = b := ⟨_, rfl⟩
        obtain ⟨e3, h3⟩ : ∃ b, decide (s.num < M) = b := ⟨_, rfl⟩
        obtain ⟨e4, h4⟩ : ∃ b, (n.k == 21) = b := ⟨_, rfl⟩
        obtain ⟨e5, h5⟩ : ∃ b, decide (2147483647 < M) = b := ⟨_, rfl⟩
        have HH : Hid (n3 = (e1 || (e2 && e3) || (e4 && e5))) := by
          show _ = _
          rw [← HN3.out, ← HA3.out, HM.out, ← h1, ← h2, ← h3, ← h4, ← h5]
          unfold num4
          rw [show decide (0 ≤ M) = !decide (M < 0) by rw [← decide_not]; congr 1; simp, show decide (s.num < 0) = !decide (0 ≤ s.num) by rw [← decide_not]; congr 1; simp, show decide (M ≤ s.num) = !decide (s.num < M) by rw [← decide_not]; congr 1; simp, show decide (M ≤ 2147483647) = !decide (2147483647 < M) by rw [← decide_not]; congr 1; simp]
          simp
        go_wp2_with fail
        all_goals go_meet
        all_goals exact ⟨by rw [HH.out]; simp_all, X5.out⟩
      case rest =>
      obtain ⟨rfl, hX⟩ := hcut
      have X6 := Lib.hid hX
      clear hX X5 q0 q1 q2 q3 s0 s1
      have q0 := X6.out.2.1.cell 0 (.int .i64 n.k) rfl
      have q1 := X6.out.2.1.cell 1 (.string n.t) rfl
      have q2 := X6.out.2.1.cell 2 (.int .i64 n.num) rfl
      have q3 := X6.out.2.1.cell 3 (.slice A n.kids.length c) rfl
      have s0 := X6.out.2.2.cell 0 (.bool s.text) rfl
      rw [HST.out] at s0
      have s1 := X6.out.2.2.cell 1 (.int .i64 s.num) rfl
      rcases n3 with _ | _
      rotate_left
      · have HF : Hid (V = false) := by
          show _ = _
          have := HN3.out
          rw [HVV.out, HT1.out, HT2.out]
          cases a3
          · simp
          · cases this
        go_wp2
        go_ret
        exact ⟨by rw [HV.out, HF.out]; rfl, X6.out.1⟩
      have HT3 : Hid (a3 = true) := by show _ = _; have := HN3.out; cases a3; cases this; rfl

      -- the operation
      obtain ⟨n4, HN4⟩ : ∃ b, Hid ((!a4) = b) := ⟨_, rfl⟩
      go_upto_region 11 with (fail)
      go_cut [96] from 88 to 96 (fun v wx => v = .bool n4 ∧ IsX w n A c sb s wx)
      case first =>
        obtain ⟨e1, h1⟩ : ∃ b, (n.k == 32) = b := ⟨_, rfl⟩
        have HH : Hid (n4 = (e1 && (sgnT n.num).toList.isEmpty)) := by
          show _ = _
          rw [← HN4.out, ← HA4.out, ← h1, sgn_some]
          simp
        rcases e1 with _ | _
        · go_wp2_with fail
          go_meet
          exact ⟨by rw [HH.out]; rfl, X6.out⟩
        · go_wp2_with fail
          refine (signOf_any n.num _).mono ?_
          rintro e w3 ⟨rfl, hb3⟩
          have X7 := Lib.hid (X6.out.below hb3)
          obtain ⟨b, hb⟩ : ∃ b, (sgnT n.num).toList.isEmpty = b := ⟨_, rfl⟩
          rw [hb] at HH
          clear hb3
          go_wp2_with fail
          go_meet
          exact ⟨by rw [HH.out]; simp, X7.out⟩
      case rest =>
      obtain ⟨rfl, hX⟩ := hcut
      have X7 := Lib.hid hX
      clear hX X6 q0 q1 q2 q3 s0 s1
      have q0 := X7.out.2.1.cell 0 (.int .i64 n.k) rfl
      have q1 := X7.out.2.1.cell 1 (.string n.t) rfl
      have q2 := X7.out.2.1.cell 2 (.int .i64 n.num) rfl
      have q3 := X7.out.2.1.cell 3 (.slice A n.kids.length c) rfl
      have s0 := X7.out.2.2.cell 0 (.bool s.text) rfl
      rw [HST.out] at s0
      have s1 := X7.out.2.2.cell 1 (.int .i64 s.num) rfl
      rcases n4 with _ | _
      rotate_left
      · have HF : Hid (V = false) := by
          show _ = _
          have := HN4.out
          rw [HVV.out, HT1.out, HT2.out, HT3.out]
          cases a4
          · simp
          · cases this
        go_wp2
        go_ret
        exact ⟨by rw [HV.out, HF.out]; rfl, X7.out.1⟩
      have HT4 : Hid (a4 = true) := by show _ = _; have := HN4.out; cases a4; cases this; rfl

      -- what is set
      obtain ⟨n5, HN5⟩ : ∃ b, Hid ((!a5) = b) := ⟨_, rfl⟩
      go_upto_region 13 with (fail)
      go_cut [108] from 97 to 108 (fun v wx => v = .bool n5 ∧ IsX w n A c sb s wx)
      case first =>
        obtain ⟨e1, h1⟩ : ∃ b, (n.k == 15) = b := ⟨_, rfl⟩
        rcases e1 with _ | _
        · have HH : Hid (n5 = false) := by show _ = _; rw [← HN5.out, ← HA5.out, h1]; rfl
          go_wp2_with fail
          go_meet
          exact ⟨by rw [HH.out], X7.out⟩
        ·
          have hpos : 0 < n.kids.length := least_pos HS.out h1 (by decide) (HA1.out.trans HT1.out)
          obtain ⟨b, o, A', c', hA, hb, k0, k1, k2, k3, k4, -⟩ := HR.out.kid (i := 0) hpos
          subst hA
          simp only [Nat.zero_mul, Nat.add_zero] at k0 k1 k2 k3
          have bw := X7.out.1
          have z0 := (bw.cell (p := ⟨b, o, none⟩) hb).trans k0
          have z1 := (bw.cell (p := ⟨b, o + 1, none⟩) hb).trans k1
          have z2 := (bw.cell (p := ⟨b, o + 2, none⟩) hb).trans k2
          have z3 := (bw.cell (p := ⟨b, o + 3, none⟩) hb).trans k3
          have HRK := Lib.hid (RepNL.keep bw _ _ k4)
          have HH : Hid (n5 = !((baseN false n.kids[0]).k == 23)) := by show _ = _; rw [← HN5.out, ← HA5.out, h1, setC_eq hpos]; rfl
          clear k0 k1 k2 k3 k4 bw
          generalize n.kids[0] = x at *
          go_wp2_with fail
          refine (base_all false _ x (Nat.le_refl _) _ _ _ HRK.out).mono ?_
          rintro e w3 ⟨⟨A2, c2, rfl⟩, hb3⟩
          have X8 := Lib.hid (X7.out.below hb3)
          generalize baseN false x = y at *
          obtain ⟨e2, h2⟩ : ∃ b, (y.k == 23) = b := ⟨_, rfl⟩
          rw [h2] at HH
          clear hb3
          go_wp2_with fail
          rw [node_field]
          go_wp2_with fail
          go_meet
          exact ⟨by rw [HH.out, ← h2]; rfl, X8.out⟩
      case rest =>
      obtain ⟨rfl, hX⟩ := hcut
      have X8 := Lib.hid hX
      clear hX X7 q0 q1 q2 q3 s0 s1
      have q0 := X8.out.2.1.cell 0 (.int .i64 n.k) rfl
      have q1 := X8.out.2.1.cell 1 (.string n.t) rfl
      have q2 := X8.out.2.1.cell 2 (.int .i64 n.num) rfl
      have q3 := X8.out.2.1.cell 3 (.slice A n.kids.length c) rfl
      have s0 := X8.out.2.2.cell 0 (.bool s.text) rfl
      rw [HST.out] at s0
      have s1 := X8.out.2.2.cell 1 (.int .i64 s.num) rfl
      rcases n5 with _ | _
      rotate_left
      · have HF : Hid (V = false) := by
          show _ = _
          have := HN5.out
          rw [HVV.out, HT1.out, HT2.out, HT3.out, HT4.out]
          cases a5
          · simp
          · cases this
        go_wp2
        go_ret
        exact ⟨by rw [HV.out, HF.out]; rfl, X8.out.1⟩
      have HT5 : Hid (a5 = true) := by show _ = _; have := HN5.out; cases a5; cases this; rfl

      -- what is done
      obtain ⟨n6, HN6⟩ : ∃ b, Hid ((!a6) = b) := ⟨_, rfl⟩
      go_upto_region 15 with (fail)
      go_cut [128] from 109 to 128 (fun v wx => v = .bool n6 ∧ IsX w n A c sb s wx)
      case first =>
        obtain ⟨e1, h1⟩ : ∃ b, (n.k == 20) = b := ⟨_, rfl⟩
        rcases e1 with _ | _
        · have HH : Hid (n6 = false) := by show _ = _; rw [← HN6.out, ← HA6.out, h1]; rfl
          go_wp2_with fail
          go_meet
          exact ⟨by rw [HH.out], X8.out⟩
        ·
          have hpos : 0 < n.kids.length := least_pos HS.out h1 (by decide) (HA1.out.trans HT1.out)
          obtain ⟨b, o, A', c', hA, hb, k0, k1, k2, k3, k4, -⟩ := HR.out.kid (i := 0) hpos
          subst hA
          simp only [Nat.zero_mul, Nat.add_zero] at k0 k1 k2 k3
          have bw := X8.out.1
          have z0 := (bw.cell (p := ⟨b, o, none⟩) hb).trans k0
          have z1 := (bw.cell (p := ⟨b, o + 1, none⟩) hb).trans k1
          have z2 := (bw.cell (p := ⟨b, o + 2, none⟩) hb).trans k2
          have z3 := (bw.cell (p := ⟨b, o + 3, none⟩) hb).trans k3
          have HRK := Lib.hid (RepNL.keep bw _ _ k4)
          have HH : Hid (n6 = !(n.kids[0].k == 25 && (baseN true n.kids[0]).k == 23)) := by show _ = _; rw [← HN6.out, ← HA6.out, h1, doC_eq hpos]; rfl
          clear k0 k1 k2 k3 k4 bw
          generalize n.kids[0] = x at *
          obtain ⟨e2, h2⟩ : ∃ b, (x.k == 25) = b := ⟨_, rfl⟩
          rcases e2 with _ | _
          · have HH : Hid (n6 = true) := by show _ = _; rw [HH.out, h2]; rfl
            have h2b : (x.k != 25) = true := by rw [bne, h2]; rfl
            have h2c : ¬ x.k = 25 := by simpa using h2
            go_wp2_with fail
            go_meet
            exact ⟨by rw [HH.out], X8.out⟩
          · rw [h2] at HH
            have hk : x.k = 25 := by simpa using h2
            have HBA := Lib.hid (base_all true _ x (Nat.le_refl _) _ c' _ HRK.out)
            rw [hk] at HBA z0
            clear h2 hk
            go_wp2_with fail
            refine HBA.out.mono ?_
            rintro e w3 ⟨⟨A2, c2, rfl⟩, hb3⟩
            have X9 := Lib.hid (X8.out.below hb3)
            generalize baseN true x = y at *
            obtain ⟨e3, h3⟩ : ∃ b, (y.k == 23) = b := ⟨_, rfl⟩
            rw [h3] at HH
            clear hb3
            go_wp2_with fail
            rw [node_field]
            go_wp2_with fail
            go_meet
            exact ⟨by rw [HH.out, ← h3]; rfl, X9.out⟩
      case rest =>
      obtain ⟨rfl, hX⟩ := hcut
      have X9 := Lib.hid hX
      clear hX X8 q0 q1 q2 q3 s0 s1
      have q0 := X9.out.2.1.cell 0 (.int .i64 n.k) rfl
      have q1 := X9.out.2.1.cell 1 (.string n.t) rfl
      have q2 := X9.out.2.1.cell 2 (.int .i64 n.num) rfl
      have q3 := X9.out.2.1.cell 3 (.slice A n.kids.length c) rfl
      have s0 := X9.out.2.2.cell 0 (.bool s.text) rfl
      rw [HST.out] at s0
      have s1 := X9.out.2.2.cell 1 (.int .i64 s.num) rfl
      rcases n6 with _ | _
      rotate_left
      · have HF : Hid (V = false) := by
          show _ = _
          have := HN6.out
          rw [HVV.out, HT1.out, HT2.out, HT3.out, HT4.out, HT5.out]
          cases a6
          · simp
          · cases this
        go_wp2
        go_ret
        exact ⟨by rw [HV.out, HF.out]; rfl, X9.out.1⟩
      have HT6 : Hid (a6 = true) := by show _ = _; have := HN6.out; cases a6; cases this; rfl

      -- the kids
      have HV7 : Hid (V = a7) := by show _ = _; rw [HVV.out, HT1.out, HT2.out, HT3.out, HT4.out, HT5.out, HT6.out]; simp
      have HNO := Lib.hid (fun p (hp : p < n.kids.length) (h : kidT n.k n.kids.length p n.kids[p] = false) => HA7.out.symm.trans (isNL_no hp h))
      have HYES := Lib.hid (fun (h : ∀ p (hp : p < n.kids.length), kidT n.k n.kids.length p n.kids[p] = true) => HA7.out.symm.trans ((isNL_iff n.k n.kids.length n.kids 0).2 (fun p hp => by rw [Nat.zero_add]; exact h p hp)))
      clear HVV HVS HS HA1 HA2 HA3 HA4 HA5 HA6 HA7 HT1 HT2 HT3 HT4 HT5 HT6 HN1 HN2 HN3 HN4 HN5 HN6 q0 q1 q2 q3 s0 s1 HST HG HM H64
      go_wp2_with fail
      go_loopw [8] (fun i wr => IsRel n A c w i wr) (fun i _ => n.kids.length - (intOf i).toNat)
      case atStart => exact ⟨0, rfl, Nat.zero_le _, Lib.hid ⟨fun p _ hp => absurd hp (by omega), X9.out.1, X9.out.2.1⟩⟩
      case round =>
        obtain ⟨j, rfl, hj, HX⟩ := hrel
        have q3 := HX.out.2.2.cell 3 (.slice A n.kids.length c) rfl
        have q0 := HX.out.2.2.cell 0 (.int .i64 n.k) rfl
        have q1 := HX.out.2.2.cell 1 (.string n.t) rfl
        have q2 := HX.out.2.2.cell 2 (.int .i64 n.num) rfl
        by_cases hlt : j < n.kids.length
        · have hi : (j : Int) < (n.kids.length : Int) := by omega
          have d1 : decide ((j : Int) < (n.kids.length : Int)) = true := by simpa using hi
          obtain ⟨b, o, cs, hA, hbl, hc, hrep⟩ := RepNL.at_ n.kids _ HR.out j hlt
          subst hA
          obtain ⟨A', c', rfl, -⟩ := hrep.four
          have bw := HX.out.2.1
          have z0 := (bw.cell (p := ⟨b, o + j * 4 + 0, none⟩) hbl).trans (hc 0 _ rfl)
          have z1 := (bw.cell (p := ⟨b, o + j * 4 + 1, none⟩) hbl).trans (hc 1 _ rfl)
          have z2 := (bw.cell (p := ⟨b, o + j * 4 + 2, none⟩) hbl).trans (hc 2 _ rfl)
          have z3 := (bw.cell (p := ⟨b, o + j * 4 + 3, none⟩) hbl).trans (hc 3 _ rfl)
          rw [Nat.add_zero] at z0
          have HREP := Lib.hid (RepN.keep bw _ _ hrep)
          have HI := Lib.hid (IH.out _ (List.getElem_mem hlt))
          have HNJ := Lib.hid (HNO.out j hlt)
          have HPJ : Hid (kidT n.k n.kids.length j n.kids[j] = true → ∀ p (h : p < n.kids.length), p < j + 1 → kidT n.k n.kids.length p n.kids[p] = true) := by
            show _ → _
            intro h p hp hpj
            by_cases e : p = j
            · subst e; exact h
            · exact HX.out.1 p hp (by omega)
          clear hc bw hrep
          generalize n.kids[j] = x at *
          have hgl := HX.out.2.2.lt
          go_wp2_with fail
          have HLT := Lib.hid hlt
          refine (wants_any n (some ⟨b, o, none⟩) c j _ hlt hl9).mono ?_
          rintro e w2 ⟨rfl, hb2⟩
          have HKT : Hid (kidT n.k n.kids.length j x = (kidB (wantC n.k j n.kids.length) x.k && isN x (decide ((wantC n.k j n.kids.length).2 < 0)))) := rfl
          rcases hWC : wantC n.k j n.kids.length with ⟨c1, kd⟩
          have B2 : Hid (Below w.heap.size w w2) := below_trans (HX.out.2.1.alloc HX.out.2.1.size _) (Nat.le_refl _) hb2
          have K2 : Hid (Blk w2 w.heap.size 24 #[.int .i64 n.k, .string n.t, .int .i64 n.num, .slice (some ⟨b, o, none⟩) n.kids.length c]) := (HX.out.2.2.alloc _).below hb2
          have Y2 : Hid (Blk w2 wr.heap.size 24 #[.int .i64 x.k, .string x.t, .int .i64 x.num, .slice A' x.kids.length c']) := (Blk.new_ _ _ _).below hb2
          have HREP2 : Hid (RepN w2 x [.int .i64 x.k, .string x.t, .int .i64 x.num, .slice A' x.kids.length c']) := RepN.keep (below_trans ((Below.refl _ _).alloc (Nat.le_refl _) _) (Nat.le_refl _) hb2) _ _ HREP.out
          rw [hWC] at HKT
          clear hb2 hWC q0 q1 q2 q3 z0 z1 z2 z3 HREP
          have y0 := Y2.out.cell 0 (.int .i64 x.k) rfl
          have y1 := Y2.out.cell 1 (.string x.t) rfl
          have y2 := Y2.out.cell 2 (.int .i64 x.num) rfl
          have y3 := Y2.out.cell 3 (.slice A' x.kids.length c') rfl
          obtain ⟨nb, HNB⟩ : ∃ b, Hid ((!kidB (c1, kd) x.k) = b) := ⟨_, rfl⟩
          generalize wr.heap.size = kb at *
          go_upto_region 22 with (fail)
          go_cut [175] from 147 to 175 (fun v wx => v = .bool nb ∧ wx = w2)
          case first =>
            obtain ⟨z, hz⟩ : ∃ z, x.k = z := ⟨_, rfl⟩
            rw [hz] at y0 HNB
            clear hz HKT
            have HH : Hid (nb = (!(cls z == c1) || (decide (0 < kd) && !(z == kd)) || (decide (kd < 0) && !(z == 21) && !(z == 22)))) := by
              show _ = _
              rw [← HNB.out]
              unfold kidB
              dsimp only
              rw [show decide (kd ≤ 0) = !decide (0 < kd) by rw [← decide_not]; congr 1; simp, show decide (0 ≤ kd) = !decide (kd < 0) by rw [← decide_not]; congr 1; simp]
              simp [Bool.or_assoc, Bool.and_assoc]
            go_wp2_with fail
            refine (class_any z _).mono ?_
            rintro e w3 ⟨rfl, rfl⟩
            generalize cls z = cl at *
            clear HNB
            go_wp2_with fail
            all_goals first
              | (go_meet; exact ⟨by rw [HH.out]; first | (simp_all [bne]; done) | (simp_all [bne]; omega), rfl⟩)
              | (have hkd : kd = 21 := by simp_all
                 subst hkd
                 go_meet
                 exact ⟨by rw [HH.out]; first | (simp_all [bne]; done) | (simp_all [bne]; omega), rfl⟩)
          case rest =>
          obtain ⟨rfl, hX⟩ := hcut
          subst hX
          rcases nb with _ | _
          rotate_left
          · have HF : Hid (V = false) := by
              show _ = _
              have := HNB.out
              rw [HV7.out, HNJ.out (by rw [HKT.out]; cases hk : kidB (c1, kd) x.k; rfl; rw [hk] at this; cases this)]
            go_wp2
            go_ret
            exact ⟨by rw [HV.out, HF.out]; rfl, B2.out⟩
          obtain ⟨ef, hef⟩ : ∃ b, decide (kd < 0) = b := ⟨_, rfl⟩
          have HKT2 : Hid (kidT n.k n.kids.length j x = isN x ef) := by
            show _ = _
            have := HNB.out
            rw [HKT.out, ← hef]
            cases hk : kidB (c1, kd) x.k
            · rw [hk] at this; cases this
            · rfl
          have HI2 : Hid (IsOk x ef) := HI.out ef
          clear HI HKT HNB
          go_wp2_with fail
          refine (HI2.out _ _ HREP2.out).mono ?_
          rintro e w3 ⟨rfl, hb3⟩
          have B3 := Lib.hid (below_trans B2.out (Nat.le_refl _) hb3)
          have K3 := Lib.hid (K2.out.below hb3)
          obtain ⟨r, hr⟩ : ∃ r, isN x ef = r := ⟨_, rfl⟩
          rw [hr] at HKT2
          rw [hr]
          clear hb3
          rcases r with _ | _
          · have HF : Hid (V = false) := by
              show _ = _
              rw [HV7.out, HNJ.out HKT2.out]
            go_wp2
            go_ret
            exact ⟨by rw [HV.out, HF.out]; rfl, B3.out⟩
          · have HP2 := Lib.hid (HPJ.out HKT2.out)
            go_wp2
            go_roundw
            case rel => exact ⟨j + 1, by go_num, by have := HLT.out; omega, Lib.hid ⟨HP2.out, B3.out, K3.out⟩⟩
            case measure => (first | (simp [intOf]; done) | (simp [intOf]; omega))
        · have hi : ¬ (j : Int) < (n.kids.length : Int) := by omega
          have d1 : decide ((j : Int) < (n.kids.length : Int)) = false := by simpa using hi
          have HF : Hid (V = true) := by
            show _ = _
            rw [HV7.out]
            exact HYES.out (fun p hp => HX.out.1 p hp (by omega))
          go_wp2
          go_ret
          exact ⟨by rw [HV.out, HF.out]; rfl, HX.out.2.1⟩

theorem is_all : ∀ (N : Nat) (n : Nd), many n ≤ N → ∀ f, IsOk n f
  | 0, n, h => absurd h (by have := many_pos n; omega)
  | N + 1, n, hN => by
    have IH : ∀ m ∈ n.kids, ∀ f, IsOk m f := fun m hm => is_all N m (by have := many_kid hm; omega)
    intro f
    cases f
    · exact is_false n IH
    · exact is_true n IH
theorem is_any (n : Nd) (f : Bool) : IsOk n f := is_all _ n (Nat.le_refl _) f
end Go.Proofs.YtgegfbopogcjpaaDoor
