/- What stands first of dots and calls: ref6.base. -/
import Derived.Test.YtgegfbopogcjpaaDoorSynG0
import Derived.Test.YtgegfbopogcjpaaDoorOpenN
import Derived.WalkLawsBesides
import Derived.Lib.Hide
namespace Go.Proofs.YtgegfbopogcjpaaDoor
open Go.RowKit
set_option linter.unusedVariables false
set_option linter.unusedSimpArgs false
set_option maxRecDepth 100000
set_option maxHeartbeats 1000000
/-- what 'base' answers -/
def BaseOut (calls : Bool) (n : Nd) (w : World) (e : Ending) (w' : World) : Prop :=
  (∃ A c, e = .returned (.agg #[.int .i64 (baseN calls n).k, .string (baseN calls n).t, .int .i64 (baseN calls n).num, .slice A (baseN calls n).kids.length c])) ∧ Below w.heap.size w w'
theorem base_below (w : World) (o1 o2 : Obj) {w2 : World} (h : Below ((w.alloc o1).alloc o2).heap.size ((w.alloc o1).alloc o2) w2) : Below w.heap.size w w2 :=
  Below.trans (((Below.refl _ _).alloc (Nat.le_refl _) _).alloc (by simp) _) (h.mono (by simp; omega))
theorem base_blk (w : World) (o1 : Obj) (cs : Array Value) {t : TypeId} {w2 : World} (h : Below ((w.alloc o1).alloc (.cells cs t)).heap.size ((w.alloc o1).alloc (.cells cs t)) w2) : Blk w2 (w.heap.size + 1) t cs := by
  refine Blk.below ?_ h
  have := Blk.new_ (w.alloc o1) t cs
  rwa [World.size_alloc] at this
theorem results_base {w : World} {b : Nat} {v0 v1 v2 v3 : Value} {tmps : Array Value} (h : Blk w b 24 #[v0, v1, v2, v3]) (t4 : tmps.getD 4 undef = .pointer (some ⟨b, 0, none⟩)) :
    (results Tryd.f31 tmps).run Tryd.prog w = .ok (.agg #[v0, v1, v2, v3]) w := by
  have c0 := h.cell 0 v0 rfl
  have c1 := h.cell 1 v1 rfl
  have c2 := h.cell 2 v2 rfl
  have c3 := h.cell 3 v3 rfl
  simp only [Array.getD_eq_getD_getElem?] at t4
  simp [results, Tryd.results31, go_sem, t4, c0, c1, c2, c3]
theorem base_all (calls : Bool) : ∀ (N : Nat) (n : Nd), many n ≤ N → ∀ (A : Option Addr) (c : Nat) (w : World), RepNL w n.kids A →
    Calls Tryd.prog 31 #[.agg #[.int .i64 n.k, .string n.t, .int .i64 n.num, .slice A n.kids.length c], .bool calls] w (BaseOut calls n w)
  | 0, n, h => absurd h (by have := many_pos n; omega)
  | N + 1, n, hN => by
    intro A c w hr
    have IH := Lib.hid (fun m (hm : m ∈ n.kids) => base_all calls N m (by have := many_kid hm; omega))
    have HR := Lib.hid hr
    clear hr hN
    obtain ⟨hd, HD⟩ : ∃ hd, Hid (headK calls n.k = hd) := ⟨_, rfl⟩
    have GO := Lib.hid (show ∀ b1 b2, (n.k == 24) = b1 → (n.k == 25) = b2 → (b1 || (calls && b2)) = hd from fun b1 b2 h1 h2 => by
      rw [← HD.out, ← h1, ← h2]
      rfl)
    by_cases h0 : n.kids.length = 0
    · have hl : decide ((0 : Int) < (n.kids.length : Int)) = false := by rw [decide_eq_false_iff_not]; omega
      have hl2 : ¬ (0 : Int) < (n.kids.length : Int) := by omega
      have HBS : Hid (baseN calls n = n) := baseN_stop (.inr h0)
      have H0 := Lib.hid h0
      clear h0
      go_enter Tryd.func31, Tryd.ntmps31
      go_wp2
      exact bodyPost_ret (v := .agg #[.int .i64 n.k, .string n.t, .int .i64 n.num, .slice A n.kids.length c]) (by simp [results, Tryd.results31, go_sem]) rfl ⟨⟨A, c, by rw [HBS.out]⟩, by (repeat (first | with_reducible assumption | with_reducible exact Below.refl _ _ | (refine Below.setCell ?_ (by first | omega | (simp; done) | (simp; omega)) _) | (refine Below.drewN_ ?_ _) | (refine Below.drew ?_) | (refine Below.alloc ?_ (by first | omega | (simp; done) | (simp; omega)) _)))⟩
    · have hl : decide ((0 : Int) < (n.kids.length : Int)) = true := by rw [decide_eq_true_eq]; omega
      have hl2 : (0 : Int) < (n.kids.length : Int) := by omega
      have hpos : 0 < n.kids.length := by omega
      obtain ⟨b, o, A', c', rfl, hb, k0, k1, k2, k3, k4, k5, k6⟩ := HR.out.kid (i := 0) hpos
      simp only [Nat.zero_mul, Nat.add_zero] at k0 k1 k2 k3
      have K4 := Lib.hid k4
      have HX := Lib.hid (fun h => baseN_head (calls := calls) (m := n) h hpos)
      have HI := Lib.hid (IH.out _ (List.getElem_mem hpos))
      have H0 := Lib.hid h0
      clear h0 k4 k5 k6
      generalize n.kids[0] = x at *
      by_cases hx_false_false_false : (n.k == 24) = false ∧ (n.k == 25) = false ∧ calls = false
      · obtain ⟨b1, b2, hc⟩ := hx_false_false_false
        subst hc
        have G : Hid (headK false n.k = false) := by show _ = _; unfold headK; rw [b1, b2]; rfl
        go_enter Tryd.func31, Tryd.ntmps31
        go_wp2_with fail
        refine bodyPost_ret (v := .agg #[.int .i64 n.k, .string n.t, .int .i64 n.num, .slice (some ⟨b, o, none⟩) n.kids.length c]) (by simp [results, Tryd.results31, go_sem]) rfl ⟨⟨some ⟨b, o, none⟩, c, ?_⟩, by (repeat (first | with_reducible assumption | with_reducible exact Below.refl _ _ | (refine Below.setCell ?_ (by first | omega | (simp; done) | (simp; omega)) _) | (refine Below.drewN_ ?_ _) | (refine Below.drew ?_) | (refine Below.alloc ?_ (by first | omega | (simp; done) | (simp; omega)) _)))⟩
        rw [baseN_stop (.inl G.out)]
      by_cases hx_false_false_true : (n.k == 24) = false ∧ (n.k == 25) = false ∧ calls = true
      · obtain ⟨b1, b2, hc⟩ := hx_false_false_true
        subst hc
        have G : Hid (headK true n.k = false) := by show _ = _; unfold headK; rw [b1, b2]; rfl
        go_enter Tryd.func31, Tryd.ntmps31
        go_wp2_with fail
        refine bodyPost_ret (v := .agg #[.int .i64 n.k, .string n.t, .int .i64 n.num, .slice (some ⟨b, o, none⟩) n.kids.length c]) (by simp [results, Tryd.results31, go_sem]) rfl ⟨⟨some ⟨b, o, none⟩, c, ?_⟩, by (repeat (first | with_reducible assumption | with_reducible exact Below.refl _ _ | (refine Below.setCell ?_ (by first | omega | (simp; done) | (simp; omega)) _) | (refine Below.drewN_ ?_ _) | (refine Below.drew ?_) | (refine Below.alloc ?_ (by first | omega | (simp; done) | (simp; omega)) _)))⟩
        rw [baseN_stop (.inl G.out)]
      by_cases hx_false_true_false : (n.k == 24) = false ∧ (n.k == 25) = true ∧ calls = false
      · obtain ⟨b1, b2, hc⟩ := hx_false_true_false
        subst hc
        have G : Hid (headK false n.k = false) := by show _ = _; unfold headK; rw [b1, b2]; rfl
        go_enter Tryd.func31, Tryd.ntmps31
        go_wp2_with fail
        refine bodyPost_ret (v := .agg #[.int .i64 n.k, .string n.t, .int .i64 n.num, .slice (some ⟨b, o, none⟩) n.kids.length c]) (by simp [results, Tryd.results31, go_sem]) rfl ⟨⟨some ⟨b, o, none⟩, c, ?_⟩, by (repeat (first | with_reducible assumption | with_reducible exact Below.refl _ _ | (refine Below.setCell ?_ (by first | omega | (simp; done) | (simp; omega)) _) | (refine Below.drewN_ ?_ _) | (refine Below.drew ?_) | (refine Below.alloc ?_ (by first | omega | (simp; done) | (simp; omega)) _)))⟩
        rw [baseN_stop (.inl G.out)]
      by_cases hx_false_true_true : (n.k == 24) = false ∧ (n.k == 25) = true ∧ calls = true
      · obtain ⟨b1, b2, hc⟩ := hx_false_true_true
        subst hc
        have G : Hid (headK true n.k = true) := by show _ = _; unfold headK; rw [b1, b2]; rfl
        go_enter Tryd.func31, Tryd.ntmps31
        go_wp2_with fail
        refine (HI.out _ _ _ (RepNL.keep (by (repeat (first | with_reducible assumption | with_reducible exact Below.refl _ _ | (refine Below.setCell ?_ (by first | omega | (simp; done) | (simp; omega)) _) | (refine Below.drewN_ ?_ _) | (refine Below.drew ?_) | (refine Below.alloc ?_ (by first | omega | (simp; done) | (simp; omega)) _)))) _ _ K4.out)).mono ?_
        rintro e w2 ⟨⟨A2, c2, rfl⟩, hb2⟩
        have B2 : Hid (Below w.heap.size w w2) := base_below w _ _ hb2
        have Y0 := Lib.hid (base_blk w _ _ hb2)
        have hlt2 := Y0.out.lt
        have d0 := Y0.out.cell 0 (.int .i64 0) rfl
        have d1 := Y0.out.cell 1 (.string ⟨#[]⟩) rfl
        have d2 := Y0.out.cell 2 (.int .i64 0) rfl
        have d3 := Y0.out.cell 3 (.slice none 0 0) rfl
        have f0 := Y0.out.free 0
        have f1 := Y0.out.free 1
        have f2 := Y0.out.free 2
        have f3 := Y0.out.free 3
        have HXX := Lib.hid (HX.out G.out)
        generalize baseN true x = y at *
        have X0 := Lib.hid (blk_set4 Y0.out (.int .i64 y.k) (.string y.t) (.int .i64 y.num) (.slice A2 y.kids.length c2))
        clear hb2
        go_wp2_with fail
        refine bodyPost_ret (results_base X0.out rfl) rfl ⟨⟨A2, c2, by rw [HXX.out]⟩, ?_⟩
        refine (((B2.out.setCell ?_ _).setCell ?_ _).setCell ?_ _).setCell ?_ _ <;> (show w.heap.size ≤ w.heap.size + 1; omega)
      by_cases hx_true_false_false : (n.k == 24) = true ∧ (n.k == 25) = false ∧ calls = false
      · obtain ⟨b1, b2, hc⟩ := hx_true_false_false
        subst hc
        have G : Hid (headK false n.k = true) := by show _ = _; unfold headK; rw [b1, b2]; rfl
        go_enter Tryd.func31, Tryd.ntmps31
        go_wp2_with fail
        refine (HI.out _ _ _ (RepNL.keep (by (repeat (first | with_reducible assumption | with_reducible exact Below.refl _ _ | (refine Below.setCell ?_ (by first | omega | (simp; done) | (simp; omega)) _) | (refine Below.drewN_ ?_ _) | (refine Below.drew ?_) | (refine Below.alloc ?_ (by first | omega | (simp; done) | (simp; omega)) _)))) _ _ K4.out)).mono ?_
        rintro e w2 ⟨⟨A2, c2, rfl⟩, hb2⟩
        have B2 : Hid (Below w.heap.size w w2) := base_below w _ _ hb2
        have Y0 := Lib.hid (base_blk w _ _ hb2)
        have hlt2 := Y0.out.lt
        have d0 := Y0.out.cell 0 (.int .i64 0) rfl
        have d1 := Y0.out.cell 1 (.string ⟨#[]⟩) rfl
        have d2 := Y0.out.cell 2 (.int .i64 0) rfl
        have d3 := Y0.out.cell 3 (.slice none 0 0) rfl
        have f0 := Y0.out.free 0
        have f1 := Y0.out.free 1
        have f2 := Y0.out.free 2
        have f3 := Y0.out.free 3
        have HXX := Lib.hid (HX.out G.out)
        generalize baseN false x = y at *
        have X0 := Lib.hid (blk_set4 Y0.out (.int .i64 y.k) (.string y.t) (.int .i64 y.num) (.slice A2 y.kids.length c2))
        clear hb2
        go_wp2_with fail
        refine bodyPost_ret (results_base X0.out rfl) rfl ⟨⟨A2, c2, by rw [HXX.out]⟩, ?_⟩
        refine (((B2.out.setCell ?_ _).setCell ?_ _).setCell ?_ _).setCell ?_ _ <;> (show w.heap.size ≤ w.heap.size + 1; omega)
      by_cases hx_true_false_true : (n.k == 24) = true ∧ (n.k == 25) = false ∧ calls = true
      · obtain ⟨b1, b2, hc⟩ := hx_true_false_true
        subst hc
        have G : Hid (headK true n.k = true) := by show _ = _; unfold headK; rw [b1, b2]; rfl
        go_enter Tryd.func31, Tryd.ntmps31
        go_wp2_with fail
        refine (HI.out _ _ _ (RepNL.keep (by (repeat (first | with_reducible assumption | with_reducible exact Below.refl _ _ | (refine Below.setCell ?_ (by first | omega | (simp; done) | (simp; omega)) _) | (refine Below.drewN_ ?_ _) | (refine Below.drew ?_) | (refine Below.alloc ?_ (by first | omega | (simp; done) | (simp; omega)) _)))) _ _ K4.out)).mono ?_
        rintro e w2 ⟨⟨A2, c2, rfl⟩, hb2⟩
        have B2 : Hid (Below w.heap.size w w2) := base_below w _ _ hb2
        have Y0 := Lib.hid (base_blk w _ _ hb2)
        have hlt2 := Y0.out.lt
        have d0 := Y0.out.cell 0 (.int .i64 0) rfl
        have d1 := Y0.out.cell 1 (.string ⟨#[]⟩) rfl
        have d2 := Y0.out.cell 2 (.int .i64 0) rfl
        have d3 := Y0.out.cell 3 (.slice none 0 0) rfl
        have f0 := Y0.out.free 0
        have f1 := Y0.out.free 1
        have f2 := Y0.out.free 2
        have f3 := Y0.out.free 3
        have HXX := Lib.hid (HX.out G.out)
        generalize baseN true x = y at *
        have X0 := Lib.hid (blk_set4 Y0.out (.int .i64 y.k) (.string y.t) (.int .i64 y.num) (.slice A2 y.kids.length c2))
        clear hb2
        go_wp2_with fail
        refine bodyPost_ret (results_base X0.out rfl) rfl ⟨⟨A2, c2, by rw [HXX.out]⟩, ?_⟩
        refine (((B2.out.setCell ?_ _).setCell ?_ _).setCell ?_ _).setCell ?_ _ <;> (show w.heap.size ≤ w.heap.size + 1; omega)
      by_cases hx_true_true_false : (n.k == 24) = true ∧ (n.k == 25) = true ∧ calls = false
      · obtain ⟨b1, b2, hc⟩ := hx_true_true_false
        subst hc
        have G : Hid (headK false n.k = true) := by show _ = _; unfold headK; rw [b1, b2]; rfl
        go_enter Tryd.func31, Tryd.ntmps31
        go_wp2_with fail
        refine (HI.out _ _ _ (RepNL.keep (by (repeat (first | with_reducible assumption | with_reducible exact Below.refl _ _ | (refine Below.setCell ?_ (by first | omega | (simp; done) | (simp; omega)) _) | (refine Below.drewN_ ?_ _) | (refine Below.drew ?_) | (refine Below.alloc ?_ (by first | omega | (simp; done) | (simp; omega)) _)))) _ _ K4.out)).mono ?_
        rintro e w2 ⟨⟨A2, c2, rfl⟩, hb2⟩
        have B2 : Hid (Below w.heap.size w w2) := base_below w _ _ hb2
        have Y0 := Lib.hid (base_blk w _ _ hb2)
        have hlt2 := Y0.out.lt
        have d0 := Y0.out.cell 0 (.int .i64 0) rfl
        have d1 := Y0.out.cell 1 (.string ⟨#[]⟩) rfl
        have d2 := Y0.out.cell 2 (.int .i64 0) rfl
        have d3 := Y0.out.cell 3 (.slice none 0 0) rfl
        have f0 := Y0.out.free 0
        have f1 := Y0.out.free 1
        have f2 := Y0.out.free 2
        have f3 := Y0.out.free 3
        have HXX := Lib.hid (HX.out G.out)
        generalize baseN false x = y at *
        have X0 := Lib.hid (blk_set4 Y0.out (.int .i64 y.k) (.string y.t) (.int .i64 y.num) (.slice A2 y.kids.length c2))
        clear hb2
        go_wp2_with fail
        refine bodyPost_ret (results_base X0.out rfl) rfl ⟨⟨A2, c2, by rw [HXX.out]⟩, ?_⟩
        refine (((B2.out.setCell ?_ _).setCell ?_ _).setCell ?_ _).setCell ?_ _ <;> (show w.heap.size ≤ w.heap.size + 1; omega)
      by_cases hx_true_true_true : (n.k == 24) = true ∧ (n.k == 25) = true ∧ calls = true
      · obtain ⟨b1, b2, hc⟩ := hx_true_true_true
        subst hc
        have G : Hid (headK true n.k = true) := by show _ = _; unfold headK; rw [b1, b2]; rfl
        go_enter Tryd.func31, Tryd.ntmps31
        go_wp2_with fail
        refine (HI.out _ _ _ (RepNL.keep (by (repeat (first | with_reducible assumption | with_reducible exact Below.refl _ _ | (refine Below.setCell ?_ (by first | omega | (simp; done) | (simp; omega)) _) | (refine Below.drewN_ ?_ _) | (refine Below.drew ?_) | (refine Below.alloc ?_ (by first | omega | (simp; done) | (simp; omega)) _)))) _ _ K4.out)).mono ?_
        rintro e w2 ⟨⟨A2, c2, rfl⟩, hb2⟩
        have B2 : Hid (Below w.heap.size w w2) := base_below w _ _ hb2
        have Y0 := Lib.hid (base_blk w _ _ hb2)
        have hlt2 := Y0.out.lt
        have d0 := Y0.out.cell 0 (.int .i64 0) rfl
        have d1 := Y0.out.cell 1 (.string ⟨#[]⟩) rfl
        have d2 := Y0.out.cell 2 (.int .i64 0) rfl
        have d3 := Y0.out.cell 3 (.slice none 0 0) rfl
        have f0 := Y0.out.free 0
        have f1 := Y0.out.free 1
        have f2 := Y0.out.free 2
        have f3 := Y0.out.free 3
        have HXX := Lib.hid (HX.out G.out)
        generalize baseN true x = y at *
        have X0 := Lib.hid (blk_set4 Y0.out (.int .i64 y.k) (.string y.t) (.int .i64 y.num) (.slice A2 y.kids.length c2))
        clear hb2
        go_wp2_with fail
        refine bodyPost_ret (results_base X0.out rfl) rfl ⟨⟨A2, c2, by rw [HXX.out]⟩, ?_⟩
        refine (((B2.out.setCell ?_ _).setCell ?_ _).setCell ?_ _).setCell ?_ _ <;> (show w.heap.size ≤ w.heap.size + 1; omega)
      exfalso
      rcases b1 : (n.k == 24) with _ | _ <;> rcases b2 : (n.k == 25) with _ | _ <;> rcases hc : calls with _ | _ <;> simp_all
end Go.Proofs.YtgegfbopogcjpaaDoor
