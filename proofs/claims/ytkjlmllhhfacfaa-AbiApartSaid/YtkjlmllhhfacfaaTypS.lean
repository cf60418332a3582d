/- The walks of types.Text and types.Same. -/
import Derived.Test.YtkjlmllhhfacfaaTypW
import Derived.Test.YtkjlmllhhfacfaaTypF
namespace Go.Proofs.Ytkjlmllhhfacfaa
open Go.RowKit Go.Shelf
set_option linter.unusedVariables false
set_option linter.unusedSimpArgs false
set_option maxRecDepth 100000
set_option maxHeartbeats 2000000
def lenB : Nat → Nat
  | 0 => 0
  | d + 1 => 7 * lenB d + 200
theorem fieldsTx_bd (L : Nat) : ∀ (ns : List ByteArray) (ts : List (List UInt8)), (∀ n ∈ ns, n.size ≤ 16) → (∀ t ∈ ts, t.length ≤ L) → (fieldsTx ns ts).length ≤ ts.length * (L + 18)
  | [], [], _, _ => by simp [fieldsTx]
  | [], _ :: _, _, _ => by simp [fieldsTx]
  | _ :: _, [], _, _ => by simp [fieldsTx]
  | n :: ns, t :: ts, hn, ht => by
    have h1 := fieldsTx_bd L ns ts (fun a h => hn a (by simp [h])) (fun a h => ht a (by simp [h]))
    have h2 := hn n (by simp)
    have h3 := ht t (by simp)
    simp only [fieldsTx, List.length_append, List.length_cons, Array.length_toList, ByteArray.size_data, Nat.succ_mul]
    omega
theorem paramsTx_bd (L : Nat) (many : Bool) : ∀ (first : Bool) (ts : List (List UInt8)), (∀ t ∈ ts, t.length ≤ L) → (paramsTx many first ts).length ≤ ts.length * (L + 1) + 4
  | first, [], _ => by cases many <;> cases first <;> simp [paramsTx]
  | first, t :: ts, ht => by
    have h1 := paramsTx_bd L many false ts (fun a h => ht a (by simp [h]))
    have h3 := ht t (by simp)
    simp only [paramsTx, List.length_append, List.length_cons, Nat.succ_mul]
    cases first <;> simp <;> omega
theorem text_bd : ∀ (d : Nat) (T : Ty), mayT d T = true → (textT T).length ≤ lenB d
  | 0, T, h => by cases h
  | d + 1, T, h => by
    have hl := may_len h
    have e : lenB (d + 1) = 7 * lenB d + 200 := rfl
    rcases may_kind h with k | k | k | k
    · rw [text_1 k, e]; simp only [List.length_cons, List.length_nil]; omega
    · rw [text_2 k, e]; simp only [List.length_cons, List.length_nil]; omega
    · obtain ⟨-, hn, hln, hp, hns⟩ := may_st h k
      have h16 := (name_false hn).2.1
      have hf := fieldsTx_bd (lenB d) T.ns (T.ps.map textT) (fun n h => (name_false (hns n h)).2.1) (fun t ht => by
        obtain ⟨p, hpp, rfl⟩ := List.mem_map.1 ht
        exact text_bd d p (hp p hpp))
      have hm : (T.ps.map textT).length * (lenB d + 18) ≤ 7 * (lenB d + 18) := Nat.mul_le_mul_right _ (by simpa using hl)
      rw [text_3 k, e]
      simp only [List.length_append, List.length_cons, List.length_nil, Array.length_toList, ByteArray.size_data]
      omega
    · obtain ⟨-, -, hne, hp⟩ := may_fn h k
      have hf := paramsTx_bd (lenB d) T.many true (T.ps.dropLast.map textT) (fun t ht => by
        obtain ⟨p, hpp, rfl⟩ := List.mem_map.1 ht
        exact text_bd d p (hp p (List.dropLast_subset _ hpp)))
      have hm : (T.ps.dropLast.map textT).length * (lenB d + 1) ≤ 6 * (lenB d + 1) := Nat.mul_le_mul_right _ (by simp; omega)
      have hg := text_bd d _ (hp _ (List.getLast_mem hne))
      rw [text_4 k hne, e]
      simp only [List.length_append, List.length_cons, List.length_nil]
      omega
noncomputable def textB (T : Ty) : ByteArray := ⟨(if may T then textT T else []).toArray⟩
theorem textB_no {T : Ty} (h : may T = false) : textB T = ⟨#[]⟩ := by simp [textB, h]
theorem textB_yes {T : Ty} (h : may T = true) : textB T = ⟨(textT T).toArray⟩ := by simp [textB, h]
theorem bytes_ext {l m : List UInt8} (h : (⟨l.toArray⟩ : ByteArray) = ⟨m.toArray⟩) : l = m := by
  injection h with h
  exact List.toArray_inj h
theorem textB_ne {T : Ty} (h : may T = true) : textB T ≠ ⟨#[]⟩ := by
  rw [textB_yes h]
  obtain ⟨c, r, e, -⟩ := text_head h
  rw [e]
  intro hh
  have := bytes_ext (m := []) hh
  cases this
theorem textB_inj {T U : Ty} (h : may T = true) (e : textB T = textB U) : may U = true ∧ T = U := by
  rcases hu : may U with _ | _
  · rw [textB_no hu] at e
    exact absurd e (textB_ne h)
  · rw [textB_yes h, textB_yes hu] at e
    exact ⟨rfl, text_inj h hu (bytes_ext e)⟩
theorem bld_new (w : World) (B : Nat) (hB : B ≤ w.heap.size) : Bld B w.heap.size (Lib.byteCells []) (w.alloc (.cells #[.pointer none, .slice none 0 0] 52)) :=
  .inl ⟨hB, _, heap_alloc_new w _, ⟨rfl, .inl ⟨rfl, rfl⟩⟩, by simp [Value.ownBlock]⟩
theorem text_any (T : Ty) (cs : List Value) (w : World) (hr : Rep w T cs) (hm : ML w) : Calls Try.prog 11 #[.agg cs.toArray] w fun e w' => e = .returned (.string (textB T)) ∧ Below w.heap.size w w' := by
  have hr0 := hr
  obtain ⟨An, cn, Ap, cp, rfl, hN, hP⟩ := hr.five
  have hb0 : Below w.heap.size w (w.alloc (.cells #[.int .i64 T.k, .string T.nm, .slice An T.ns.length cn, .slice Ap T.ps.length cp, .bool T.many] 25)) := by (repeat (first | with_reducible assumption | with_reducible exact Below.refl _ _ | (refine Below.setCell ?_ (by first | omega | (simp; done) | (simp; omega)) _) | (refine Below.drewN_ ?_ _) | (refine Below.drew ?_) | (refine Below.alloc ?_ (by first | omega | (simp; done) | (simp; omega)) _)))
  rcases hmy : may T with _ | _
  · rw [textB_no hmy]
    go_enter Try.func11, Try.ntmps11
    go_wp2_with fail
    refine (may_any T _ _ (Rep.keep hb0 _ _ hr0) (hm.keep hb0)).mono ?_
    rintro e w1 ⟨rfl, hb⟩
    have hb1 := hb0.trans (hb.mono (by simp))
    go_wp2
    go_ret
    exact ⟨rfl, hb1⟩
  · rw [textB_yes hmy]
    have hbd := text_bd 4 T hmy
    have hWr := Lib.hid (write_any 4 T hmy)
    go_enter Try.func11, Try.ntmps11
    go_wp2_with fail
    refine (may_any T _ _ (Rep.keep hb0 _ _ hr0) (hm.keep hb0)).mono ?_
    rintro e w1 ⟨rfl, hb⟩
    rw [hmy]
    have hb1 := hb0.trans (hb.mono (by simp))
    have q0 : w1.cell? ⟨w.heap.size, 0, none⟩ = some (.int .i64 T.k) := (hb.cell (p := ⟨w.heap.size, 0, none⟩) (by simp)).trans (by go_simp)
    have q1 : w1.cell? ⟨w.heap.size, 1, none⟩ = some (.string T.nm) := (hb.cell (p := ⟨w.heap.size, 1, none⟩) (by simp)).trans (by go_simp)
    have q2 : w1.cell? ⟨w.heap.size, 2, none⟩ = some (.slice An T.ns.length cn) := (hb.cell (p := ⟨w.heap.size, 2, none⟩) (by simp)).trans (by go_simp)
    have q3 : w1.cell? ⟨w.heap.size, 3, none⟩ = some (.slice Ap T.ps.length cp) := (hb.cell (p := ⟨w.heap.size, 3, none⟩) (by simp)).trans (by go_simp)
    have q4 : w1.cell? ⟨w.heap.size, 4, none⟩ = some (.bool T.many) := (hb.cell (p := ⟨w.heap.size, 4, none⟩) (by simp)).trans (by go_simp)
    have hlt1 : w.heap.size < w1.heap.size := by have := hb.size; simp at this; omega
    clear hb hb0 hmy
    go_wp2_with fail
    refine (hWr.out _ w _ _ _ hr0 (hb1.alloc hb1.size _) (bld_new _ _ hb1.size) ?hq).mono ?_
    case hq => have : lenB 4 = 80000 := rfl; simp; omega
    rintro e w2 ⟨rfl, h2, b2, x2⟩
    have b3 := hb1.trans (Below.trans ((Below.refl _ _).alloc hb1.size _) b2)
    clear q0 q1 q2 q3 q4 b2 x2
    go_wp2_with fail
    refine (bld_string _ _ _ _ h2 (by have := h2.lt; omega)).mono ?_
    rintro e w3 ⟨rfl, h3, b4, x4⟩
    go_wp2
    go_ret
    exact ⟨by simp, b3.trans b4⟩
theorem str_beq_iff (x y : ByteArray) : (x.toList == y.toList) = true ↔ x = y := by
  rw [beq_iff_eq, ByteArray.toList_eq, ByteArray.toList_eq]
  exact ⟨fun h => ByteArray.ext (Array.toList_inj.mp h), fun h => by rw [h]⟩
open Classical in
noncomputable def sameB (T U : Ty) : Bool := may T && decide (T = U)
theorem sameB_iff (T U : Ty) : sameB T U = true ↔ may T = true ∧ T = U := by simp [sameB]
theorem same_any (T U : Ty) (cs ds : List Value) (w : World) (hr : Rep w T cs) (hu : Rep w U ds) (hm : ML w) : Calls Try.prog 7 #[.agg cs.toArray, .agg ds.toArray] w fun e w' => e = .returned (.bool (sameB T U)) ∧ Below w.heap.size w w' := by
  have hr0 := hr
  have hu0 := hu
  obtain ⟨An, cn, Ap, cp, rfl, -, -⟩ := hr.five
  obtain ⟨Bn, dn, Bp, dp, rfl, -, -⟩ := hu.five
  have hb0 : Below w.heap.size w ((w.alloc (.cells #[.int .i64 T.k, .string T.nm, .slice An T.ns.length cn, .slice Ap T.ps.length cp, .bool T.many] 25)).alloc (.cells #[.int .i64 U.k, .string U.nm, .slice Bn U.ns.length dn, .slice Bp U.ps.length dp, .bool U.many] 25)) := by (repeat (first | with_reducible assumption | with_reducible exact Below.refl _ _ | (refine Below.setCell ?_ (by first | omega | (simp; done) | (simp; omega)) _) | (refine Below.drewN_ ?_ _) | (refine Below.drew ?_) | (refine Below.alloc ?_ (by first | omega | (simp; done) | (simp; omega)) _)))
  go_enter Try.func7, Try.ntmps7
  go_wp2_with fail
  refine (text_any T _ _ (Rep.keep hb0 _ _ hr0) (hm.keep hb0)).mono ?_
  rintro e w1 ⟨rfl, hb⟩
  have hb1 := hb0.trans (hb.mono (by simp; omega))
  have q0 : w1.cell? ⟨w.heap.size + 1, 0, none⟩ = some (.int .i64 U.k) := (hb.cell (p := ⟨w.heap.size + 1, 0, none⟩) (by simp)).trans (by go_simp)
  have q1 : w1.cell? ⟨w.heap.size + 1, 1, none⟩ = some (.string U.nm) := (hb.cell (p := ⟨w.heap.size + 1, 1, none⟩) (by simp)).trans (by go_simp)
  have q2 : w1.cell? ⟨w.heap.size + 1, 2, none⟩ = some (.slice Bn U.ns.length dn) := (hb.cell (p := ⟨w.heap.size + 1, 2, none⟩) (by simp)).trans (by go_simp)
  have q3 : w1.cell? ⟨w.heap.size + 1, 3, none⟩ = some (.slice Bp U.ps.length dp) := (hb.cell (p := ⟨w.heap.size + 1, 3, none⟩) (by simp)).trans (by go_simp)
  have q4 : w1.cell? ⟨w.heap.size + 1, 4, none⟩ = some (.bool U.many) := (hb.cell (p := ⟨w.heap.size + 1, 4, none⟩) (by simp)).trans (by go_simp)
  clear hb hb0
  rcases hmy : may T with _ | _
  · have hs : Hid (sameB T U = false) := by show _ = _; simp [sameB, hmy]
    rw [textB_no hmy]
    go_wp2
    go_ret
    exact ⟨by rw [hs.out]; rfl, hb1⟩
  · have hne := textB_ne hmy
    have hs : Hid (sameB T U = ((textB T).toList == (textB U).toList)) := by
      show _ = _
      rw [Bool.eq_iff_iff, sameB_iff, str_beq_iff]
      exact ⟨fun h => by rw [h.2], fun h => ⟨hmy, (textB_inj hmy h).2⟩⟩
    generalize textB T = s at *
    have t1 : s.toList.isEmpty = false := by
      rcases hh : s.toList.isEmpty with _ | _
      · rfl
      · exact absurd (empty_of hh) hne
    have HN := Lib.hid hne
    clear hne
    go_wp2_with fail
    refine (text_any U _ _ (Rep.keep hb1 _ _ hu0) (hm.keep hb1)).mono ?_
    rintro e w2 ⟨rfl, hb2⟩
    go_wp2
    go_ret
    exact ⟨by rw [hs.out]; rfl, hb1.trans (hb2.mono hb1.size)⟩
end Go.Proofs.Ytkjlmllhhfacfaa
