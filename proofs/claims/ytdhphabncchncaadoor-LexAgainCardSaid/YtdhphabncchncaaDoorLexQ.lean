/- The law LexAgain, walked. -/
import Derived.Test.YtdhphabncchncaaDoorLexP
namespace Go.Proofs.YtdhphabncchncaaDoor
open Go.RowKit Go.Shelf
set_option linter.unusedVariables false
set_option linter.unusedSimpArgs false
set_option maxRecDepth 100000
set_option maxHeartbeats 2000000
theorem lexN_bad (s : ByteArray) (n : Nat) : ∀ note k acc, (lexN s n note k acc).e ≠ 0 → (lexN s n note k acc).l = [] := by
  induction n with
  | zero => intro note k acc h; exact absurd rfl h
  | succ n ih =>
    intro note k acc h
    rw [lexN] at h ⊢
    split
    · rename_i hlt
      rw [if_pos hlt] at h
      split
      · rename_i h0
        rw [if_pos h0] at h
        exact ih _ _ _ h
      · rfl
    · rename_i hlt
      rw [if_neg hlt] at h
      exact absurd rfl h
theorem lexOf_bad {s : ByteArray} (h : (lexOf s).e ≠ 0) : (lexOf s).l = [] := by
  unfold lexOf at h ⊢
  split
  · rfl
  · rename_i h4
    rw [if_neg h4] at h
    exact lexN_bad _ _ _ _ _ h
theorem lex_a : (lexOf ⟨#[97]⟩).l.length = 1 := by kernel_rfl
def RnI (l : List Tok) (W : World) (sv i : Value) (wr : World) : Prop := ∃ (k : Nat) (R : ByteArray), k ≤ l.length ∧ sv = .string R ∧ i = .int .i64 k ∧ Hid (R.data.toList = rendL (l.take k)) ∧ wr = W
theorem rend_snoc {l : List Tok} {k : Nat} (h : k < l.length) : rendL (l.take (k + 1)) = rendL (l.take k) ++ rendT l[k].k l[k].s := by
  unfold rendL
  rw [List.take_succ_eq_append_getElem h, List.flatMap_append]
  simp
theorem rend_take {l : List Tok} (k : Nat) : (rendL (l.take k)).length ≤ (rendL l).length := by
  conv => rhs; rw [← List.take_append_drop k l]
  unfold rendL
  rw [List.flatMap_append, List.length_append]
  omega
theorem lexAgain_any (s : ByteArray) (w : World) (he : ER w) : Calls Tryd.prog 4 #[.string s] w fun e w' => e = .returned (.bool true) ∧ Below w.heap.size w w' := by
  by_cases h13 : 1333 < s.size
  · have d1 : (1333 : Int) < (s.size : Int) := by omega
    go_enter Tryd.func4, Tryd.ntmps4
    go_wp2
    go_ret
    exact ⟨rfl, Below.refl _ _⟩
  · have d1 : ¬ (1333 : Int) < (s.size : Int) := by omega
    have hs : s.size ≤ 1333 := by omega
    have HE := Lib.hid he
    have HA := Lib.hid lex_a
    clear he h13
    go_enter Tryd.func4, Tryd.ntmps4
    go_wp2_with fail
    refine (scan_any ⟨#[97]⟩ w HE.out).mono ?_
    rintro e w1 ⟨A, c, rfl, -, hb1⟩
    rw [HA.out]
    have HB1 := Lib.hid hb1
    generalize (lexOf ⟨#[97]⟩).e = Ea at *
    generalize ((lexOf ⟨#[97]⟩).p : Int) = Pa at *
    have hbx : Below w.heap.size w (w1.alloc (.cells #[.int .i64 Ea, .int .i64 Pa] 25)) := hb1.alloc hb1.size _
    have HE1 := Lib.hid (HE.out.keep hbx)
    have HBX := Lib.hid hbx
    clear hb1 hbx HA
    go_wp2_with fail
    refine (scan_any s _ HE1.out).mono ?_
    rintro e w2 ⟨A2, c2, rfl, hr2, hb2⟩
    have hb3 : Below w.heap.size w w2 := below_trans HBX.out (Nat.le_refl _) hb2
    have hR2 := hr2.keep (w' := w2.alloc (.cells #[.int .i64 (lexOf s).e, .int .i64 ((lexOf s).p : Int)] 25)) (by (repeat (first | with_reducible assumption | with_reducible exact Below.refl _ _ | (refine Below.setCell ?_ (by first | omega | (simp; done) | (simp; omega)) _) | (refine Below.drewN_ ?_ _) | (refine Below.drew ?_) | (refine Below.alloc ?_ (by first | omega | (simp; done) | (simp; omega)) _))))
    have hb4 : Below w.heap.size w (w2.alloc (.cells #[.int .i64 (lexOf s).e, .int .i64 ((lexOf s).p : Int)] 25)) := hb3.alloc hb3.size _
    have hlen := lexOf_len s
    have HR2 := Lib.hid hR2
    have HB4 := Lib.hid hb4
    clear hb3 hb2 hr2 HBX HE1 HB1 hR2 hb4
    by_cases h0 : (lexOf s).e = 0
    · have HRL := Lib.hid (rend_len hs h0)
      have HAG : Hid (∀ S : ByteArray, S.data.toList = rendL (lexOf s).l → (lexOf S).e = 0 ∧ (lexOf S).l.map (fun t => (t.k, t.s)) = (lexOf s).l.map (fun t => (t.k, t.s))) := fun S h => lex_again hs h0 h
      have hl4 := hlen.1
      rw [h0] at HR2 HB4 ⊢
      clear h0 hlen
      generalize ((lexOf s).p : Int) = P at *
      generalize (lexOf s).l = l at *
      obtain ⟨W, hW⟩ : ∃ W : World, W = w2.alloc (.cells #[.int .i64 0, .int .i64 P] 25) := ⟨_, rfl⟩
      go_wp2_with fail
      rw [← hW] at HR2 HB4 ⊢
      have HWA : Hid (∃ b, b = w2.heap.size ∧ b < W.heap.size) := ⟨_, rfl, by rw [hW]; simp⟩
      clear hW
      go_loopw [7, 8] (fun sv i wr => RnI l W sv i wr) (fun _ i _ => l.length - (intOf i).toNat)
      case atStart => exact ⟨0, ⟨#[]⟩, Nat.zero_le _, rfl, rfl, Lib.hid (by simp [rendL]), rfl⟩
      case round =>
        obtain ⟨k, R, hk, rfl, rfl, HR, rfl⟩ := hrel
        have hi0 : (0 : Int) ≤ (k : Int) := by omega
        by_cases hlt : k < l.length
        · obtain ⟨b, o, rfl, hbl, c0, c1, c2⟩ := toks_at HR2.out hlt
          have hi : (k : Int) < (l.length : Int) := by omega
          have hk6 : (k : Int) < 4000 := by omega
          have HSN := Lib.hid (rend_snoc hlt)
          have hsz : R.size + l[k].s.size + 2 ≤ 4001 := by
            have h1 := HSN.out
            have h2 := rend_take (l := l) (k + 1)
            rw [h1, List.length_append, ← HR.out, size_list] at h2
            have h3 : (rendT l[k].k l[k].s).length = l[k].s.size + (tail3 l[k].k).length + 1   := by simp only [rendT, List.length_append, size_list, List.length_singleton]
            have h4 := HRL.out
            by_cases hk3 : l[k].k = 3
            · rw [h3, tail3, if_pos hk3] at h2; simp at h2; omega
            · rw [h3, tail3, if_neg hk3] at h2; simp at h2; omega
          generalize hx : l[k] = x at *
          clear hx
          by_cases hk3 : x.k = 3
          · have hb3 : (x.k == 3) = true := by rw [beq_iff_eq]; exact hk3
            have HK3 := Lib.hid hk3
            clear hk3
            go_wp2
            go_roundw
            case rel => exact ⟨k + 1, _, by omega, rfl, by go_num, Lib.hid (by rw [HSN.out, ← HR.out]; simp [rendT, tail3, HK3.out]), rfl⟩
            case measure => (first | (simp [intOf]; done) | (simp [intOf]; omega))
          · have hb3 : (x.k == 3) = false := by rw [beq_eq_false_iff_ne]; exact hk3
            have HK3 := Lib.hid hk3
            clear hk3
            go_wp2
            go_roundw
            case rel => exact ⟨k + 1, _, by omega, rfl, by go_num, Lib.hid (by rw [HSN.out, ← HR.out]; simp [rendT, tail3, HK3.out]), rfl⟩
            case measure => (first | (simp [intOf]; done) | (simp [intOf]; omega))
        · have hi : ¬ (k : Int) < (l.length : Int) := by omega
          have hkl : k = l.length := by omega
          subst hkl
          have hRr : R.data.toList = rendL l := by rw [HR.out, List.take_length]
          obtain ⟨ha, hm⟩ := HAG.out R hRr
          have HM := Lib.hid hm
          clear hm hRr
          go_wp2_with fail
          refine (scan_any R _ (HE.out.keep HB4.out)).mono ?_
          rintro e w3 ⟨A3, c3, rfl, hr3, hb3⟩
          rw [ha]
          clear ha
          have hln : (lexOf R).l.length = l.length := by have := congrArg List.length HM.out; simpa using this
          generalize ((lexOf R).p : Int) = P3 at *
          generalize (lexOf R).l = m at *
          have hsame : ∀ j (h : j < l.length) (h' : j < m.length), m[j].k = l[j].k ∧ m[j].s = l[j].s := fun j h h' => by
            have h1 : (m.map (fun t => (t.k, t.s)))[j]? = (l.map (fun t => (t.k, t.s)))[j]? := by rw [HM.out]
            rw [List.getElem?_map, List.getElem?_map, List.getElem?_eq_getElem h, List.getElem?_eq_getElem h'] at h1
            simpa using h1
          have HSM := Lib.hid hsame
          have hb5 : Below w.heap.size w w3 := below_trans HB4.out (Nat.le_refl _) hb3
          have hr2' := HR2.out.keep hb3
          obtain ⟨V, hV⟩ : ∃ V : World, V = w3.alloc (.cells #[.int .i64 0, .int .i64 P3] 25) := ⟨_, rfl⟩
          have hv3 : Below w3.heap.size w3 (w3.alloc (.cells #[.int .i64 0, .int .i64 P3] 25)) := by (repeat (first | with_reducible assumption | with_reducible exact Below.refl _ _ | (refine Below.setCell ?_ (by first | omega | (simp; done) | (simp; omega)) _) | (refine Below.drewN_ ?_ _) | (refine Below.drew ?_) | (refine Below.alloc ?_ (by first | omega | (simp; done) | (simp; omega)) _)))
          have HV1 := Lib.hid (hr3.keep hv3)
          have HV2 := Lib.hid (hr2'.keep hv3)
          have HV3 := Lib.hid (below_trans hb5 (Nat.le_refl _) hv3)
          clear hsame hb5 hr2' hv3 hr3 hb3 HR2 HB4 HM HAG HRL HR HWA
          have hlb : (m.length != l.length) = false := by rw [bne_eq_false_iff_eq]; exact hln
          have hlc : ((m.length : Int) != (l.length : Int)) = false := by rw [bne_eq_false_iff_eq]; omega
          have HLN := Lib.hid hln
          clear hln
          go_wp2_with fail
          rw [← hV] at HV1 HV2 HV3 ⊢
          clear hV
          go_loopw [11] (fun i wr => TkRel l V i wr) (fun i _ => l.length - (intOf i).toNat)
          case atStart => exact ⟨0, Nat.zero_le _, rfl, 0, rfl⟩
          case round =>
            obtain ⟨k, hk', rfl, nd, rfl⟩ := hrel
            by_cases hlt2 : k < l.length
            · obtain ⟨b, o, rfl, hbl, c0, c1, c2⟩ := toks_at HV2.out hlt2
              obtain ⟨b', o', rfl, hbl', e0, e1, e2⟩ := toks_at HV1.out (k := k) (by have := HLN.out; omega)
              obtain ⟨q1, q2⟩ := HSM.out k hlt2 (by have := HLN.out; omega)
              rw [q1] at e0
              rw [q2] at e1
              clear q1 q2
              have hj : (k : Int) < (l.length : Int) := by omega
              have hj' : (k : Int) < (m.length : Int) := by have := HLN.out; omega
              have hj0 : (0 : Int) ≤ (k : Int) := by omega
              have hk7 : (k : Int) < 4000 := by omega
              generalize l[k].k = xk at *
              generalize l[k].s = xs at *
              have n1 : (xk != xk) = false := by simp
              go_wp2_with fail
              go_quiet (fail)
              go_wp2
              go_roundw
              case rel => exact ⟨k + 1, by omega, by go_num, _, rfl⟩
              case measure => (first | (simp [intOf]; done) | (simp [intOf]; omega))
            · have hj : ¬ (k : Int) < (l.length : Int) := by omega
              go_wp2
              go_ret
              exact ⟨rfl, Below.drewN_ HV3.out _⟩
    · have hl0 : (lexOf s).l = [] := lexOf_bad h0
      have hbe : ((lexOf s).e != 0) = true := by simpa using h0
      rw [hl0]
      generalize (lexOf s).e = E at *
      clear h0 hl0
      go_wp2_with fail
      go_ret
      exact ⟨rfl, HB4.out⟩
end Go.Proofs.YtdhphabncchncaaDoor
