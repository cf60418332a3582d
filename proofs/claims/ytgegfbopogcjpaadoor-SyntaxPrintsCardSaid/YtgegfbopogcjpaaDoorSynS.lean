/- A unit printed: syntax.Print. -/
import Derived.Test.YtgegfbopogcjpaaDoorSynR
import Derived.Test.YtgegfbopogcjpaaDoorSynP
namespace Go.Proofs.YtgegfbopogcjpaaDoor
open Go.RowKit
set_option linter.unusedVariables false
set_option linter.unusedSimpArgs false
set_option maxRecDepth 100000
set_option maxHeartbeats 2000000
theorem join_eq : ∀ l : List ByteArray, Lib.join (l.map (·.data.toList)) (⟨#[32]⟩ : ByteArray).data.toList = joinW l
  | [] => rfl
  | [a] => by rw [List.map_cons, List.map_nil, Lib.join_one]; rfl
  | a :: b :: l => by
    have h := join_eq (b :: l)
    rw [joinW, ← h]
    simp [Lib.join, List.intercalate, List.intersperse]
theorem results_print {w : World} {b1 b2 : Nat} {s : ByteArray} {k : Int} {tmps : Array Value} (h1 : Blk w b1 9 #[.string s]) (h2 : Blk w b2 25 #[.int .i64 k]) (t2 : tmps.getD 2 undef = .pointer (some ⟨b1, 0, none⟩)) (t3 : tmps.getD 3 undef = .pointer (some ⟨b2, 0, none⟩)) :
    (results Tryd.f4 tmps).run Tryd.prog w = .ok (.tuple #[.string s, .int .i64 k]) w := by
  have c0 := h1.cell 0 (.string s) rfl
  have c1 := h2.cell 0 (.int .i64 k) rfl
  simp only [Array.getD_eq_getD_getElem?] at t2 t3
  simp [results, Tryd.results4, go_sem, t2, t3, c0, c1]
/-- what is there before the printer begins stays, but the printer and its row -/
theorem PK.old {p k : Nat} {w w' : World} (h : PK p w w') (hk : k < w.heap.size) (hp : k ≠ p) (hr : rowAt w p = none) : w'.heap[k]? = w.heap[k]? := (h.keep k hk hp (by rw [hr]; simp)).1
theorem join_any {B : Nat} {v : Value} {ws : List ByteArray} (w : World) (h : w.ownsRow B 9 1 v ws.length (ws.map .string)) (hs : Short ws) (hl : ws.length ≤ 100000) :
    Calls Tryd.prog 11 #[v, .string ⟨#[32]⟩] w fun e w' => e = .returned (.string ⟨(joinW ws).toArray⟩) ∧ Below w.heap.size w w' := by
  rcases h.2 with ⟨rfl, h0⟩ | ⟨g, cap, cur, rfl, -, hg, hnc, hcm, hcs, htake⟩
  · have hw : ws = [] := List.eq_nil_of_length_eq_zero h0
    subst hw
    exact (sh_strings_Join_none none 0 ⟨#[32]⟩ w).mono fun e w' ⟨he, hw⟩ => ⟨he, hw ▸ Below.refl _ _⟩
  · have hj := join_short ws hs
    refine (sh_strings_Join g 0 cap ws ⟨#[32]⟩ w ?_ ?_ (by omega) hnc ?_).mono ?_
    · intro j x hx
      have := h.cells (g := g) rfl j (.string x) (by rw [List.getElem?_map, hx]; rfl)
      rw [add_plain_] at this
      exact this
    · exact (h.lt g rfl).2
    · rw [join_eq]; omega
    · intro e w' hq
      rw [join_eq] at hq
      exact hq
def PrintOut (n : Nd) (w : World) (e : Ending) (w' : World) : Prop := e = .returned (.tuple #[.string (printT n), .int .i64 (printE n)]) ∧ Below w.heap.size w w'
/-- the node's box, the text's and the error's variables -/
def PB (w : World) (n : Nd) (A : Option Addr) (c : Nat) (s : ByteArray) (k : Int) (w' : World) : Prop :=
  Below w.heap.size w w' ∧ Blk w' w.heap.size 24 #[.int .i64 n.k, .string n.t, .int .i64 n.num, .slice A n.kids.length c] ∧ Blk w' (w.heap.size + 1) 9 #[.string s] ∧ Blk w' (w.heap.size + 1 + 1) 25 #[.int .i64 k]
theorem PB.below {w w1 w2 : World} {n : Nd} {A : Option Addr} {c : Nat} {s : ByteArray} {k : Int} (h : PB w n A c s k w1) (hb : Below w1.heap.size w1 w2) : PB w n A c s k w2 :=
  ⟨below_trans h.1 (Nat.le_refl _) hb, h.2.1.below hb, h.2.2.1.below hb, h.2.2.2.below hb⟩
theorem PB.grown {w w1 w2 : World} {n : Nd} {A : Option Addr} {c pm : Nat} {s : ByteArray} {k : Int} (h : PB w n A c s k w1) (hg : w1.grownBy w2 (some pm)) (hpm : w.heap.size + 1 + 1 < pm) : PB w n A c s k w2 :=
  ⟨h.1.trans (grow_below' hg (by omega) h.1.size), h.2.1.grown hg (by intro e; injection e with e; omega), h.2.2.1.grown hg (by intro e; injection e with e; omega), h.2.2.2.grown hg (by intro e; injection e with e; omega)⟩
theorem PB.pk {w w1 w2 : World} {n : Nd} {A : Option Addr} {c p : Nat} {s : ByteArray} {k : Int} {ws : List ByteArray} (h : PB w n A c s k w1) (hk : PK p w1 w2) (hp : w.heap.size + 1 + 1 < p) (hr : rowAt w1 p = none) (hP : Pr w.heap.size p ws w1) : PB w n A c s k w2 :=
  ⟨h.1.trans (hk.below hP), (hk.old h.2.1.lt (by omega) hr).trans h.2.1, (hk.old h.2.2.1.lt (by omega) hr).trans h.2.2.1, (hk.old h.2.2.2.lt (by omega) hr).trans h.2.2.2⟩
theorem PB.set {w w1 : World} {n : Nd} {A : Option Addr} {c : Nat} {s : ByteArray} {k : Int} (h : PB w n A c s k w1) (s' : ByteArray) (k' : Int) : PB w n A c s' k' ((w1.setCell ⟨w.heap.size + 1, 0, none⟩ (.string s')).setCell ⟨w.heap.size + 1 + 1, 0, none⟩ (.int .i64 k')) :=
  ⟨(h.1.setCell (by show w.heap.size ≤ w.heap.size + 1; omega) _).setCell (by show w.heap.size ≤ w.heap.size + 1 + 1; omega) _, (h.2.1.far (p := ⟨w.heap.size + 1, 0, none⟩) (by show w.heap.size ≠ w.heap.size + 1; omega) _).far (p := ⟨w.heap.size + 1 + 1, 0, none⟩) (by show w.heap.size ≠ w.heap.size + 1 + 1; omega) _, (h.2.2.1.set_ 0 _).far (p := ⟨w.heap.size + 1 + 1, 0, none⟩) (by show w.heap.size + 1 ≠ w.heap.size + 1 + 1; omega) _, (h.2.2.2.far (p := ⟨w.heap.size + 1, 0, none⟩) (by show w.heap.size + 1 + 1 ≠ w.heap.size + 1; omega) _).set_ 0 _⟩
theorem PB.set1 {w w1 : World} {n : Nd} {A : Option Addr} {c : Nat} {s : ByteArray} {k : Int} (h : PB w n A c s k w1) (s' : ByteArray) : PB w n A c s' k (w1.setCell ⟨w.heap.size + 1, 0, none⟩ (.string s')) :=
  ⟨h.1.setCell (by show w.heap.size ≤ w.heap.size + 1; omega) _, h.2.1.far (p := ⟨w.heap.size + 1, 0, none⟩) (by show w.heap.size ≠ w.heap.size + 1; omega) _, h.2.2.1.set_ 0 _, h.2.2.2.far (p := ⟨w.heap.size + 1, 0, none⟩) (by show w.heap.size + 1 + 1 ≠ w.heap.size + 1; omega) _⟩
theorem cfp (cap : Array Value) (w : World) : (invoke (.fn (.func 7) cap) #[]).run Tryd.prog w = .ok (.enter 7 cap) w := by
  have := cf_of Tryd.func7 (by kernel_rfl) (by kernel_rfl) cap w
  simp [invoke]
theorem leaveP_no {w w1 : World} {n : Nd} {A : Option Addr} {c : Nat} {s : ByteArray} {k : Int} (tmps : Array Value) (h : PB w n A c s k w1) (t2 : tmps.getD 2 undef = .pointer (some ⟨w.heap.size + 1, 0, none⟩)) (t3 : tmps.getD 3 undef = .pointer (some ⟨w.heap.size + 1 + 1, 0, none⟩))
    (hT : printT n = ⟨#[]⟩) (hE : printE n = 2) :
    Leaves Tryd.prog Tryd.f4 tmps (PrintOut n w) [{ target := .fn (.func 7) #[.pointer (some ⟨w.heap.size + 1, 0, none⟩), .pointer (some ⟨w.heap.size + 1 + 1, 0, none⟩)], args := #[] }] (.panicking [{ v := .iface 32 (.agg #[]), recovered := false }]) w1 := by
  refine leaves_cons (f := 7) (args := #[.pointer (some ⟨w.heap.size + 1, 0, none⟩), .pointer (some ⟨w.heap.size + 1 + 1, 0, none⟩)]) (by simp) (cfp _ _) ?_
  refine (catch_none _ _ s k w1 h.2.2.1 h.2.2.2 (by omega)).mono ?_
  rintro e u' w' ⟨rfl, rfl, k1, k2, h1, h2, h3, h4, h5⟩
  refine ⟨_, results_print k1 k2 t2 t3, ?_, ?_⟩
  · rw [hT, hE]
  · exact h.1.trans ⟨h1, h2, h3, h4, fun j hj => h5 j (Nat.lt_of_lt_of_le hj h.1.size) (by omega) (by omega)⟩
theorem leaveP_yes {w w1 : World} {n : Nd} {A : Option Addr} {c : Nat} {s : ByteArray} {k : Int} (tmps : Array Value) (h : PB w n A c s k w1) (t2 : tmps.getD 2 undef = .pointer (some ⟨w.heap.size + 1, 0, none⟩)) (t3 : tmps.getD 3 undef = .pointer (some ⟨w.heap.size + 1 + 1, 0, none⟩))
    (hT : printT n = s) (hE : printE n = k) :
    Leaves Tryd.prog Tryd.f4 tmps (PrintOut n w) [{ target := .fn (.func 7) #[.pointer (some ⟨w.heap.size + 1, 0, none⟩), .pointer (some ⟨w.heap.size + 1 + 1, 0, none⟩)], args := #[] }] .returning w1 := by
  refine leaves_cons (f := 7) (args := #[.pointer (some ⟨w.heap.size + 1, 0, none⟩), .pointer (some ⟨w.heap.size + 1 + 1, 0, none⟩)]) (by simp) (cfp _ _) ?_
  refine (catch_idle _ _ w1).mono ?_
  rintro e u' w' ⟨rfl, rfl, rfl⟩
  exact ⟨_, results_print h.2.2.1 h.2.2.2 t2 t3, by rw [hT, hE], h.1⟩
def UnitRel (w0 wP : World) (p : Nat) (l : List Nd) (i : Value) (wr : World) : Prop :=
  ∃ (k : Nat) (ws1 : List ByteArray), i = .int .i64 k ∧ k ≤ l.length ∧ Hid (St w0 p ws1 wr ∧ PK p wP wr ∧ ws1 = ((l.take k).map shw).flatten ∧ (l.take k).all (okC 1) = true ∧ ws1.length ≤ 10 * manyL (l.take k))
theorem isN_unit {n : Nd} (hk : n.k = 1) : isN n false = (plainB n false false 0 (-1) && n.kids.all (okC 1)) := by
  rw [isN_p0 (text := false) (least := 0) (most := -1) (by rw [hk]; rfl) (by omega) (by omega) (by omega) (by omega), hk, isNL_okC (c := 1) _ _ (fun _ _ _ => rfl)]
  rfl
theorem print_any (n : Nd) (cs : List Value) (w : World) (hr : RepN w n cs) (hE : Env w) : Calls Tryd.prog 4 #[.agg cs.toArray] w (PrintOut n w) := by
  have hr0 := hr
  obtain ⟨A, c, rfl, hR, hcap, hlm, hn64, hts⟩ := hr.four
  have HR := Lib.hid hR
  have HR0 := Lib.hid hr0
  clear hr hr0 hR
  have hmf : ∀ (fn : Fn) (first cap : Array Value) (w : World), (Instr.makeFunc fn first cap).run Tryd.prog w = .ok (.func fn first cap) w := fun _ _ _ _ => rfl
  have HPT : Hid (printT n = if fitsN n = true ∧ n.k = 1 ∧ isN n false = true ∧ (joinW (shw n)).length ≤ 4000 then ⟨(joinW (shw n)).toArray⟩ else ⟨#[]⟩) := rfl
  have HPE : Hid (printE n = if fitsN n = false then 1 else if ¬ (n.k = 1 ∧ isN n false = true) then 2 else if 4000 < (joinW (shw n)).length then 1 else 0) := rfl
  have X0 : Hid (PB w n A c ⟨#[]⟩ 0 ((((w.alloc (.cells #[.int .i64 n.k, .string n.t, .int .i64 n.num, .slice A n.kids.length c] 24)).alloc (.cells #[.string ⟨#[]⟩] 9)).alloc (.cells #[.int .i64 0] 25)).alloc (.cells #[.int .i64 0] 3))) := by
    refine ⟨by (repeat (first | with_reducible assumption | with_reducible exact Below.refl _ _ | (refine Below.setCell ?_ (by first | omega | (simp; done) | (simp; omega)) _) | (refine Below.drewN_ ?_ _) | (refine Below.drew ?_) | (refine Below.alloc ?_ (by first | omega | (simp; done) | (simp; omega)) _))), ((Blk.new_ _ _ _).alloc _).alloc _ |>.alloc _, ?_, ?_⟩
    · have := ((Blk.new_ (w.alloc (.cells #[.int .i64 n.k, .string n.t, .int .i64 n.num, .slice A n.kids.length c] 24)) 9 #[.string ⟨#[]⟩]).alloc (.cells #[.int .i64 0] 25)).alloc (.cells #[.int .i64 0] 3)
      simpa using this
    · have := (Blk.new_ ((w.alloc (.cells #[.int .i64 n.k, .string n.t, .int .i64 n.num, .slice A n.kids.length c] 24)).alloc (.cells #[.string ⟨#[]⟩] 9)) 25 #[.int .i64 0]).alloc (.cells #[.int .i64 0] 3)
      simpa using this
  have XM : Hid (Blk ((((w.alloc (.cells #[.int .i64 n.k, .string n.t, .int .i64 n.num, .slice A n.kids.length c] 24)).alloc (.cells #[.string ⟨#[]⟩] 9)).alloc (.cells #[.int .i64 0] 25)).alloc (.cells #[.int .i64 0] 3)) (w.heap.size + 1 + 1 + 1) 3 #[.int .i64 0]) := by
    have := Blk.new_ (((w.alloc (.cells #[.int .i64 n.k, .string n.t, .int .i64 n.num, .slice A n.kids.length c] 24)).alloc (.cells #[.string ⟨#[]⟩] 9)).alloc (.cells #[.int .i64 0] 25)) 3 #[.int .i64 0]
    show Blk _ _ _ _
    simpa using this
  have HWN := Lib.hid (weigh_any w n)
  go_enter_defers Tryd.func4, Tryd.ntmps4
  go_wp2_with fail
  refine (HWN.out _ _ _ 0 1 HR0.out X0.out.1 (by omega) XM.out (by omega) (by omega) (by omega) (by omega)).mono ?_
  rintro e w1 ⟨g1, hcase⟩
  rw [wOk_fits] at hcase
  have X1 := Lib.hid (X0.out.grown g1 (by omega))
  clear g1 XM X0
  rcases hcase with ⟨hfit, rfl, -⟩ | ⟨hfit, rfl⟩
  rotate_left
  · have HF := Lib.hid hfit
    have c1 := X1.out.2.2.1.cell 0 (.string ⟨#[]⟩) rfl
    have c2 := X1.out.2.2.2.cell 0 (.int .i64 0) rfl
    have f1 := X1.out.2.2.1.free 0
    have f2 := X1.out.2.2.2.free 0
    clear hfit
    go_wp2
    refine ⟨_, results_print (X1.out.set ⟨#[]⟩ 1).2.2.1 (X1.out.set ⟨#[]⟩ 1).2.2.2 rfl rfl, ?_, (X1.out.set ⟨#[]⟩ 1).1⟩
    rw [HPT.out, HPE.out, HF.out, if_pos rfl, if_neg (by simp)]
  have HF := Lib.hid hfit
  have hm7 : many n ≤ 700 := by
    unfold fitsN at hfit
    simp only [Bool.and_eq_true, decide_eq_true_eq] at hfit
    exact hfit.1
  have hmany := many_eq n
  clear hfit
  have q0 := X1.out.2.1.cell 0 (.int .i64 n.k) rfl
  have q1 := X1.out.2.1.cell 1 (.string n.t) rfl
  have q2 := X1.out.2.1.cell 2 (.int .i64 n.num) rfl
  have q3 := X1.out.2.1.cell 3 (.slice A n.kids.length c) rfl
  rcases b1 : (n.k == 1) with _ | _
  · have hk1 : ¬ n.k = 1 := by simpa using b1
    have H1 := Lib.hid hk1
    clear hk1
    go_wp2_with fail
    refine (must_no _).mono ?_
    rintro e w' ⟨rfl, rfl⟩
    go_wp2
    refine leaveP_no _ X1.out rfl rfl ?_ ?_
    · rw [HPT.out, if_neg (fun h => H1.out h.2.1)]
    · rw [HPE.out, HF.out, if_neg (by simp), if_pos (fun h => H1.out h.1)]
  have H1 : Hid (n.k = 1) := by show _ = _; simpa using b1
  have HIS := Lib.hid (isN_unit H1.out)
  go_wp2_with fail
  refine (must_yes _).mono ?_
  rintro e w' ⟨rfl, rfl⟩
  go_wp2_with fail
  refine (plain_any n _ _ _ _ _ _ _ (hE.keep X1.out.1).ml).mono ?_
  rintro e w2 ⟨(⟨hq, rfl⟩ | ⟨hq, rfl⟩), hb2⟩
  rotate_left
  · have X2 := Lib.hid (X1.out.below hb2)
    have HN : Hid (isN n false = false) := by show _ = _; rw [HIS.out, hq]; rfl
    clear hq hb2
    unfold noneE
    go_wp2
    refine leaveP_no _ X2.out rfl rfl ?_ ?_
    · rw [HPT.out, if_neg (fun h => by rw [HN.out] at h; cases h.2.2.1)]
    · rw [HPE.out, HF.out, if_neg (by simp), if_pos (fun h => by rw [HN.out] at h; cases h.2)]
  have X2 := Lib.hid (X1.out.below hb2)
  have HQ := Lib.hid hq
  clear hq hb2 q0 q1 q2 q3 b1
  have HIS2 : Hid (isN n false = n.kids.all (okC 1)) := by show _ = _; rw [HIS.out, HQ.out]; rfl
  have hsz := X2.out.2.2.2.lt
  have X3 := Lib.hid (X2.out.below ((Below.refl _ _).alloc (Nat.le_refl _) (.cells #[.slice none 0 0] 38)))
  have P3 : Hid (Pr w.heap.size w2.heap.size [] (w2.alloc (.cells #[.slice none 0 0] 38))) := ⟨by omega, _, Blk.new_ _ _ _, World.ownsRow_nil _ _ _ _⟩
  have R3 : Hid (rowAt (w2.alloc (.cells #[.slice none 0 0] 38)) w2.heap.size = none) := rowAt_of (Blk.new_ _ _ _)
  have q0 := X2.out.2.1.cell 0 (.int .i64 n.k) rfl
  have q1 := X2.out.2.1.cell 1 (.string n.t) rfl
  have q2 := X2.out.2.1.cell 2 (.int .i64 n.num) rfl
  have q3 := X2.out.2.1.cell 3 (.slice A n.kids.length c) rfl
  have q3' := X3.out.2.1.cell 3 (.slice A n.kids.length c) rfl
  have hll := manyL_len n.kids
  have HSH : Hid (shw n = (n.kids.map shw).flatten) := by show _ = _; rw [shw_eq, H1.out]; rfl
  go_wp2_with fail
  obtain ⟨wP, hwP⟩ : ∃ v : World, v = w2.alloc (.cells #[.slice none 0 0] 38) := ⟨_, rfl⟩
  rw [← hwP] at X3 P3 R3 q3' ⊢
  have hpp : w2.heap.size < wP.heap.size := by rw [hwP]; simp
  generalize w2.heap.size = p at *
  clear hwP q0 q1 q2 q3 X1 X2 HIS
  generalize n.kids = l at *
  have hlen9 : l.length ≤ 9223372036854775807 := by unfold maxLen at hlm; exact hlm
  go_loopw [23] (fun i wr => UnitRel w wP p l i wr) (fun i _ => l.length - (intOf i).toNat)
  case atStart => exact ⟨0, [], rfl, Nat.zero_le _, Lib.hid ⟨⟨X3.out.1, P3.out⟩, PK.refl_ _ _, by simp, by simp, by simp⟩⟩
  case round =>
    obtain ⟨k, ws1, rfl, hk1, HRL⟩ := hrel
    clear q3'
    have hle := HRL.out.2.2.2.2
    have hmt := manyL_take_le l k
    have X4 := Lib.hid (X3.out.pk HRL.out.2.1 (by omega) R3.out P3.out)
    by_cases hlt : k < l.length
    · have hi : (k : Int) < (l.length : Int) := by omega
      obtain ⟨b, o, cs, hAA, hbl, hc, hrep⟩ := RepNL.at_ l _ HR.out k hlt
      subst hAA
      obtain ⟨A', c', rfl, -⟩ := hrep.four
      have bw := HRL.out.1.1
      have c0 := (bw.cell (p := ⟨b, o + k * 4 + 0, none⟩) hbl).trans (hc 0 _ rfl)
      have c1 := (bw.cell (p := ⟨b, o + k * 4 + 1, none⟩) hbl).trans (hc 1 _ rfl)
      have c2 := (bw.cell (p := ⟨b, o + k * 4 + 2, none⟩) hbl).trans (hc 2 _ rfl)
      have c3 := (bw.cell (p := ⟨b, o + k * 4 + 3, none⟩) hbl).trans (hc 3 _ rfl)
      rw [Nat.add_zero] at c0
      clear hc bw
      have HL := Lib.hid (decl_ok w p hE (l[k]'hlt))
      have HT := Lib.hid (manyL_take hlt)
      have HAT := Lib.hid (all_take (okf := okC 1) hlt HRL.out.2.2.2.1)
      have HAF := Lib.hid (all_false (okf := okC 1) hlt)
      have HTS : Hid ((l.take (k + 1)).map shw = (l.take k).map shw ++ [shw l[k]]) := by show _ = _; rw [List.take_succ_eq_append_getElem hlt, List.map_append]; rfl
      have HREP := Lib.hid hrep
      have hmm : manyL (l.take k) + many l[k] ≤ manyL l := by rw [← HT.out]; exact manyL_take_le _ _
      have hpos := many_pos l[k]
      clear hrep
      generalize l[k] = x at *
      have hlw2 := HRL.out.1.2.lt
      have X5 := Lib.hid (X4.out.below ((Below.refl _ _).alloc (Nat.le_refl _) (.cells #[.int .i64 x.k, .string x.t, .int .i64 x.num, .slice A' x.kids.length c'] 24)))
      go_wp2_with fail
      refine (HL.out _ _ _ HREP.out (HRL.out.1.alloc _) (by omega)).mono ?_
      rintro e w2 ⟨ws2, h2, p2, l2, (⟨o2, rfl, e2⟩ | ⟨o2, rfl⟩)⟩
      · have H2 := Lib.hid h2
        have P2 := Lib.hid ((HRL.out.2.1.trans_ (PK.alloc_ _ _ hlw2)).trans_ p2)
        have E2 := Lib.hid e2
        have O2 := Lib.hid o2
        clear h2 p2 e2 o2
        go_wp2
        go_roundw
        case rel =>
          refine ⟨k + 1, ws2, by go_num, by omega, Lib.hid ⟨H2.out, P2.out, ?_, HAT.out.trans O2.out, by rw [HT.out]; omega⟩⟩
          rw [E2.out, HRL.out.2.2.1, HTS.out]
          simp
        case measure => (first | (simp [intOf]; done) | (simp [intOf]; omega))
      · have P2 := Lib.hid ((HRL.out.2.1.trans_ (PK.alloc_ _ _ hlw2)).trans_ p2)
        have X6 := Lib.hid (X3.out.pk P2.out (by omega) R3.out P3.out)
        have HN : Hid (isN n false = false) := by show _ = _; rw [HIS2.out]; exact HAF.out o2
        clear h2 p2 o2
        unfold noneE
        go_wp2
        refine leaveP_no _ X6.out rfl rfl ?_ ?_
        · rw [HPT.out, if_neg (fun h => by rw [HN.out] at h; cases h.2.2.1)]
        · rw [HPE.out, HF.out, if_neg (by simp), if_pos (fun h => by rw [HN.out] at h; cases h.2)]
    · have hi : ¬ (k : Int) < (l.length : Int) := by omega
      have ek : k = l.length := by omega
      have HT1 : Hid (ws1 = shw n ∧ isN n false = true) := by
        have h1 := HRL.out.2.2.1
        have h2 := HRL.out.2.2.2.1
        rw [ek, List.take_length] at h1 h2
        exact ⟨by rw [h1, HSH.out], by rw [HIS2.out]; exact h2⟩
      have hle2 : ws1.length ≤ 10 * manyL l := by omega
      clear ek
      obtain ⟨v, hv, hown⟩ := HRL.out.1.2.2
      have c0 := hv.cell 0 v rfl
      have HO := Lib.hid hown
      have HSS : Hid (Short ws1) := by show Short _; rw [HT1.out.1]; exact shw_short _ n (Nat.le_refl _) false HT1.out.2
      have hjs := join_short ws1 HSS.out
      have d1 := X4.out.2.2.1.cell 0 (.string ⟨#[]⟩) rfl
      have f1 := X4.out.2.2.1.free 0
      obtain ⟨Av, cv, rfl, -⟩ := Row.of_own hown
      clear hown hv
      go_wp2_with fail
      refine (join_any _ HO.out HSS.out (by omega)).mono ?_
      rintro e w5 ⟨rfl, hb5⟩
      have X6 := Lib.hid (X4.out.below hb5)
      have HRT : Hid (joinW ws1 = joinW (shw n)) := by show _ = _; rw [HT1.out.1]
      have hzz : (⟨(joinW ws1).toArray⟩ : ByteArray).size = (joinW ws1).length := by show (joinW ws1).toArray.size = _; simp
      have HZZ := Lib.hid hzz
      obtain ⟨J, HJ⟩ : ∃ J : ByteArray, Hid ((⟨(joinW ws1).toArray⟩ : ByteArray) = J) := ⟨_, rfl⟩
      have hjz : J.size ≤ 21 * ws1.length := by rw [← HJ.out, HZZ.out]; exact hjs
      rw [HJ.out]
      clear hb5 c0 d1 f1 hzz
      have d1 := X6.out.2.2.1.cell 0 (.string ⟨#[]⟩) rfl
      have f1 := X6.out.2.2.1.free 0
      have d2 := X6.out.2.2.2.cell 0 (.int .i64 0) rfl
      have f2 := X6.out.2.2.2.free 0
      have X7 := Lib.hid (X6.out.set1 J)
      by_cases h4 : J.size ≤ 4000
      · have d4 : decide ((4000 : Int) < (J.size : Int)) = false := by rw [decide_eq_false_iff_not]; omega
        have d5 : ¬ (4000 : Int) < (J.size : Int) := by omega
        have H4 : Hid ((joinW (shw n)).length ≤ 4000) := by show _ ≤ _; rw [← HRT.out, ← HZZ.out, HJ.out]; exact h4
        have X8 := Lib.hid (X7.out.set J 0)
        go_wp2
        refine leaveP_yes _ X8.out rfl rfl ?_ ?_
        · rw [HPT.out, if_pos ⟨HF.out, H1.out, HT1.out.2, H4.out⟩, ← HRT.out, HJ.out]
        · rw [HPE.out, HF.out, if_neg (by simp), if_neg (fun h => h ⟨H1.out, HT1.out.2⟩), if_neg (by have := H4.out; omega)]
      · have d4 : decide ((4000 : Int) < (J.size : Int)) = true := by rw [decide_eq_true_eq]; omega
        have d5 : (4000 : Int) < (J.size : Int) := by omega
        have H4 : Hid (4000 < (joinW (shw n)).length) := by show _ < _; rw [← HRT.out, ← HZZ.out, HJ.out]; omega
        have X8 := Lib.hid (X7.out.set ⟨#[]⟩ 1)
        go_wp2
        refine leaveP_yes _ X8.out rfl rfl ?_ ?_
        · rw [HPT.out, if_neg (fun h => by have := h.2.2.2; have := H4.out; omega)]
        · rw [HPE.out, HF.out, if_neg (by simp), if_neg (fun h => h ⟨H1.out, HT1.out.2⟩), if_pos H4.out]
end Go.Proofs.YtgegfbopogcjpaaDoor
