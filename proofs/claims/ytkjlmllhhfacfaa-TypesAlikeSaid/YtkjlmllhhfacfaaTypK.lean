/- The walk of the law TypesAlike. -/
import Derived.Test.YtkjlmllhhfacfaaTypS
import Derived.Deep.RegionHeld3
import Derived.Deep.DrawnRows
namespace Go.Proofs.Ytkjlmllhhfacfaa
open Go.RowKit Go.Shelf
set_option linter.unusedVariables false
set_option linter.unusedSimpArgs false
set_option maxRecDepth 100000
set_option maxHeartbeats 4000000
theorem keep10 {w0 w w' : World} {m n : Nat} {a0 a1 a2 a3 a4 b0 b1 b2 b3 b4 : Value} (hm : m < w0.heap.size) (hn : n < w0.heap.size)
    (h : Below w0.heap.size w0 w ∧ (w.cell? ⟨m, 0, none⟩ = some a0 ∧ w.cell? ⟨m, 1, none⟩ = some a1 ∧ w.cell? ⟨m, 2, none⟩ = some a2 ∧ w.cell? ⟨m, 3, none⟩ = some a3 ∧ w.cell? ⟨m, 4, none⟩ = some a4) ∧ w.cell? ⟨n, 0, none⟩ = some b0 ∧ w.cell? ⟨n, 1, none⟩ = some b1 ∧ w.cell? ⟨n, 2, none⟩ = some b2 ∧ w.cell? ⟨n, 3, none⟩ = some b3 ∧ w.cell? ⟨n, 4, none⟩ = some b4)
    (hb : Below w.heap.size w w') : Below w0.heap.size w0 w' ∧ (w'.cell? ⟨m, 0, none⟩ = some a0 ∧ w'.cell? ⟨m, 1, none⟩ = some a1 ∧ w'.cell? ⟨m, 2, none⟩ = some a2 ∧ w'.cell? ⟨m, 3, none⟩ = some a3 ∧ w'.cell? ⟨m, 4, none⟩ = some a4) ∧ w'.cell? ⟨n, 0, none⟩ = some b0 ∧ w'.cell? ⟨n, 1, none⟩ = some b1 ∧ w'.cell? ⟨n, 2, none⟩ = some b2 ∧ w'.cell? ⟨n, 3, none⟩ = some b3 ∧ w'.cell? ⟨n, 4, none⟩ = some b4 := by
  obtain ⟨h0, ⟨c0, c1, c2, c3, c4⟩, d0, d1, d2, d3, d4⟩ := h
  have hs := h0.size
  exact ⟨h0.trans (hb.mono hs), ⟨(keep_cell hb (by omega)).trans c0, (keep_cell hb (by omega)).trans c1, (keep_cell hb (by omega)).trans c2, (keep_cell hb (by omega)).trans c3, (keep_cell hb (by omega)).trans c4⟩, (keep_cell hb (by omega)).trans d0, (keep_cell hb (by omega)).trans d1, (keep_cell hb (by omega)).trans d2, (keep_cell hb (by omega)).trans d3, (keep_cell hb (by omega)).trans d4⟩
theorem Blk.five {w : World} {m : Nat} {t : TypeId} {a0 a1 a2 a3 a4 : Value} (h : Blk w m t #[a0, a1, a2, a3, a4]) :
    w.cell? ⟨m, 0, none⟩ = some a0 ∧ w.cell? ⟨m, 1, none⟩ = some a1 ∧ w.cell? ⟨m, 2, none⟩ = some a2 ∧ w.cell? ⟨m, 3, none⟩ = some a3 ∧ w.cell? ⟨m, 4, none⟩ = some a4 :=
  ⟨h.cell 0 _ rfl, h.cell 1 _ rfl, h.cell 2 _ rfl, h.cell 3 _ rfl, h.cell 4 _ rfl⟩
theorem Blk.new1 (w : World) (o : Obj) (t : TypeId) (cs : Array Value) : Blk ((w.alloc o).alloc (.cells cs t)) (w.heap.size + 1) t cs := by
  have := Blk.new_ (w.alloc o) t cs
  simpa using this
theorem Blk.new2 (w : World) (o o' : Obj) (t : TypeId) (cs : Array Value) : Blk (((w.alloc o).alloc o').alloc (.cells cs t)) (w.heap.size + 2) t cs := by
  have := Blk.new_ ((w.alloc o).alloc o') t cs
  simpa using this
def intTy : Ty := .mk 1 ⟨#[]⟩ [] [] false
theorem rep_int (w : World) : Rep w intTy [.int .i64 1, .string ⟨#[]⟩, .slice none 0 0, .slice none 0 0, .bool false] :=
  Rep.of (T := intTy) (w := w) (An := none) (Ap := none) (cn := 0) (cp := 0) (.inl rfl) (by show RepL w [] none; unfold RepL; trivial) (Nat.zero_le _)
theorem may_intTy : may intTy = true := by
  unfold may mayT
  rw [if_pos (.inl rfl)]
  simp [bareT, intTy, Ty.nm, Ty.ns, Ty.ps, Ty.many, ByteArray.toList_eq]
theorem same_intTy : sameB intTy intTy = true := (sameB_iff _ _).2 ⟨may_intTy, rfl⟩
theorem alike_any (A B C : Ty) (xs ys zs : List Value) (w : World) (hA : Rep w A xs) (hB : Rep w B ys) (hC : Rep w C zs) (hm : ML w) :
    Calls Try.prog 3 #[.agg xs.toArray, .agg ys.toArray, .agg zs.toArray] w fun e w' => e = .returned (.bool true) ∧ Below w.heap.size w w' := by
  have hA0 := hA
  have hB0 := hB
  have hC0 := hC
  obtain ⟨An, an, Ap, ap, rfl, -, -⟩ := hA.five
  obtain ⟨Bn, bn, Bp, bp, rfl, -, -⟩ := hB.five
  obtain ⟨Cn, cn, Cp, cp, rfl, -, -⟩ := hC.five
  have hb0 : Below w.heap.size w (((w.alloc (.cells #[.int .i64 A.k, .string A.nm, .slice An A.ns.length an, .slice Ap A.ps.length ap, .bool A.many] 25)).alloc (.cells #[.int .i64 B.k, .string B.nm, .slice Bn B.ns.length bn, .slice Bp B.ps.length bp, .bool B.many] 25)).alloc (.cells #[.int .i64 C.k, .string C.nm, .slice Cn C.ns.length cn, .slice Cp C.ps.length cp, .bool C.many] 25)) := by (repeat (first | with_reducible assumption | with_reducible exact Below.refl _ _ | (refine Below.setCell ?_ (by first | omega | (simp; done) | (simp; omega)) _) | (refine Below.drewN_ ?_ _) | (refine Below.drew ?_) | (refine Below.alloc ?_ (by first | omega | (simp; done) | (simp; omega)) _)))
  have HS := Lib.hid @same_any
  have HX : Hid (∀ T U ts us W, Rep w T ts → Rep w U us → Below w.heap.size w W → Calls Try.prog 7 #[.agg ts.toArray, .agg us.toArray] W fun e w' => e = .returned (.bool (sameB T U)) ∧ Below W.heap.size W w') := fun T U ts us W h1 h2 hb =>
    same_any T U ts us W (Rep.keep hb _ _ h1) (Rep.keep hb _ _ h2) (hm.keep hb)
  go_enter Try.func3, Try.ntmps3
  go_wp2_with fail
  refine (HX.out A B _ _ _ hA0 hB0 hb0).mono ?_
  rintro e w1 ⟨rfl, hb⟩
  have hb1 := hb0.trans (hb.mono (by simp; omega))
  have ka := (((Blk.new_ w 25 #[.int .i64 A.k, .string A.nm, .slice An A.ns.length an, .slice Ap A.ps.length ap, .bool A.many]).alloc (.cells #[.int .i64 B.k, .string B.nm, .slice Bn B.ns.length bn, .slice Bp B.ps.length bp, .bool B.many] 25)).alloc (.cells #[.int .i64 C.k, .string C.nm, .slice Cn C.ns.length cn, .slice Cp C.ps.length cp, .bool C.many] 25)).below hb
  have kb := ((Blk.new1 w (.cells #[.int .i64 A.k, .string A.nm, .slice An A.ns.length an, .slice Ap A.ps.length ap, .bool A.many] 25) 25 #[.int .i64 B.k, .string B.nm, .slice Bn B.ns.length bn, .slice Bp B.ps.length bp, .bool B.many]).alloc (.cells #[.int .i64 C.k, .string C.nm, .slice Cn C.ns.length cn, .slice Cp C.ps.length cp, .bool C.many] 25)).below hb
  have kc := (Blk.new2 w (.cells #[.int .i64 A.k, .string A.nm, .slice An A.ns.length an, .slice Ap A.ps.length ap, .bool A.many] 25) (.cells #[.int .i64 B.k, .string B.nm, .slice Bn B.ns.length bn, .slice Bp B.ps.length bp, .bool B.many] 25) 25 #[.int .i64 C.k, .string C.nm, .slice Cn C.ns.length cn, .slice Cp C.ps.length cp, .bool C.many]).below hb
  have hz := hb.size
  simp at hz
  clear hb hb0
  go_wp2_with fail
  refine (same_any intTy intTy _ _ _ (rep_int _) (rep_int _) (hm.keep hb1)).mono ?_
  rw [same_intTy]
  rintro e w2 ⟨rfl, hb⟩
  have hb2 := hb1.trans (hb.mono hb1.size)
  have ka := ka.below hb
  have kb := kb.below hb
  have kc := kc.below hb
  have hz2 : w.heap.size + 2 < w2.heap.size := by have := hb.size; omega
  clear hb hb1 hz
  have qa := ka.five
  have qb := kb.five
  go_wp2_with fail
  have HB2 := Lib.hid hb2
  clear hb2
  rcases hab : sameB A B with _ | _
  · have HBA : Hid (∀ W, (Below w2.heap.size w2 W ∧ (W.cell? ⟨w.heap.size, 0, none⟩ = some (.int .i64 A.k) ∧ W.cell? ⟨w.heap.size, 1, none⟩ = some (.string A.nm) ∧ W.cell? ⟨w.heap.size, 2, none⟩ = some (.slice An A.ns.length an) ∧ W.cell? ⟨w.heap.size, 3, none⟩ = some (.slice Ap A.ps.length ap) ∧ W.cell? ⟨w.heap.size, 4, none⟩ = some (.bool A.many)) ∧ W.cell? ⟨w.heap.size + 1, 0, none⟩ = some (.int .i64 B.k) ∧ W.cell? ⟨w.heap.size + 1, 1, none⟩ = some (.string B.nm) ∧ W.cell? ⟨w.heap.size + 1, 2, none⟩ = some (.slice Bn B.ns.length bn) ∧ W.cell? ⟨w.heap.size + 1, 3, none⟩ = some (.slice Bp B.ps.length bp) ∧ W.cell? ⟨w.heap.size + 1, 4, none⟩ = some (.bool B.many)) → Calls Try.prog 7 #[.agg #[.int .i64 B.k, .string B.nm, .slice Bn B.ns.length bn, .slice Bp B.ps.length bp, .bool B.many], .agg #[.int .i64 A.k, .string A.nm, .slice An A.ns.length an, .slice Ap A.ps.length ap, .bool A.many]] W fun e w' => e = .returned (.bool false) ∧ Below W.heap.size W w') := fun W hW => by
      have h := HX.out B A _ _ W hB0 hA0 (HB2.out.trans (hW.1.mono HB2.out.size))
      have e : sameB B A = false := by
        rcases h0 : sameB B A with _ | _
        · rfl
        · obtain ⟨h1, rfl⟩ := (sameB_iff _ _).1 h0
          rw [h0] at hab
          cases hab
      rw [e] at h
      exact h
    have HAA : Hid (∀ W, (Below w2.heap.size w2 W ∧ (W.cell? ⟨w.heap.size, 0, none⟩ = some (.int .i64 A.k) ∧ W.cell? ⟨w.heap.size, 1, none⟩ = some (.string A.nm) ∧ W.cell? ⟨w.heap.size, 2, none⟩ = some (.slice An A.ns.length an) ∧ W.cell? ⟨w.heap.size, 3, none⟩ = some (.slice Ap A.ps.length ap) ∧ W.cell? ⟨w.heap.size, 4, none⟩ = some (.bool A.many)) ∧ W.cell? ⟨w.heap.size + 1, 0, none⟩ = some (.int .i64 B.k) ∧ W.cell? ⟨w.heap.size + 1, 1, none⟩ = some (.string B.nm) ∧ W.cell? ⟨w.heap.size + 1, 2, none⟩ = some (.slice Bn B.ns.length bn) ∧ W.cell? ⟨w.heap.size + 1, 3, none⟩ = some (.slice Bp B.ps.length bp) ∧ W.cell? ⟨w.heap.size + 1, 4, none⟩ = some (.bool B.many)) → Calls Try.prog 7 #[.agg #[.int .i64 A.k, .string A.nm, .slice An A.ns.length an, .slice Ap A.ps.length ap, .bool A.many], .agg #[.int .i64 A.k, .string A.nm, .slice An A.ns.length an, .slice Ap A.ps.length ap, .bool A.many]] W fun e w' => e = .returned (.bool (may A)) ∧ Below W.heap.size W w') := fun W hW => by
      have h := HX.out A A _ _ W hA0 hA0 (HB2.out.trans (hW.1.mono HB2.out.size))
      have e : sameB A A = may A := by
        rw [Bool.eq_iff_iff, sameB_iff]
        exact ⟨fun h => h.1, fun h => ⟨h, rfl⟩⟩
      rw [e] at h
      exact h
    have HMA : Hid (∀ W, (Below w2.heap.size w2 W ∧ (W.cell? ⟨w.heap.size, 0, none⟩ = some (.int .i64 A.k) ∧ W.cell? ⟨w.heap.size, 1, none⟩ = some (.string A.nm) ∧ W.cell? ⟨w.heap.size, 2, none⟩ = some (.slice An A.ns.length an) ∧ W.cell? ⟨w.heap.size, 3, none⟩ = some (.slice Ap A.ps.length ap) ∧ W.cell? ⟨w.heap.size, 4, none⟩ = some (.bool A.many)) ∧ W.cell? ⟨w.heap.size + 1, 0, none⟩ = some (.int .i64 B.k) ∧ W.cell? ⟨w.heap.size + 1, 1, none⟩ = some (.string B.nm) ∧ W.cell? ⟨w.heap.size + 1, 2, none⟩ = some (.slice Bn B.ns.length bn) ∧ W.cell? ⟨w.heap.size + 1, 3, none⟩ = some (.slice Bp B.ps.length bp) ∧ W.cell? ⟨w.heap.size + 1, 4, none⟩ = some (.bool B.many)) → Calls Try.prog 8 #[.agg #[.int .i64 A.k, .string A.nm, .slice An A.ns.length an, .slice Ap A.ps.length ap, .bool A.many]] W fun e w' => e = .returned (.bool (may A)) ∧ Below W.heap.size W w') := fun W hW => by
      have hb := (HB2.out.trans (hW.1.mono HB2.out.size))
      exact may_any A _ W (Rep.keep hb _ _ hA0) (hm.keep hb)
    clear hab
    have hl0 : w.heap.size < w2.heap.size := by omega
    have hl1 : w.heap.size + 1 < w2.heap.size := by omega
    generalize may A = mA at *
    cases mA
    all_goals
      go_region_held3 (fun W => Below w2.heap.size w2 W ∧ (W.cell? ⟨w.heap.size, 0, none⟩ = some (.int .i64 A.k) ∧ W.cell? ⟨w.heap.size, 1, none⟩ = some (.string A.nm) ∧ W.cell? ⟨w.heap.size, 2, none⟩ = some (.slice An A.ns.length an) ∧ W.cell? ⟨w.heap.size, 3, none⟩ = some (.slice Ap A.ps.length ap) ∧ W.cell? ⟨w.heap.size, 4, none⟩ = some (.bool A.many)) ∧ W.cell? ⟨w.heap.size + 1, 0, none⟩ = some (.int .i64 B.k) ∧ W.cell? ⟨w.heap.size + 1, 1, none⟩ = some (.string B.nm) ∧ W.cell? ⟨w.heap.size + 1, 2, none⟩ = some (.slice Bn B.ns.length bn) ∧ W.cell? ⟨w.heap.size + 1, 3, none⟩ = some (.slice Bp B.ps.length bp) ∧ W.cell? ⟨w.heap.size + 1, 4, none⟩ = some (.bool B.many)) (first | exact ⟨(Below.refl _ _).drew, qa, qb⟩ | exact keep10 hl0 hl1 (by assumption) hbq | exact ⟨Below.drew (And.left (by assumption)), And.right (by assumption)⟩ | go_keep) (first | (go_at_call 8; ((with_reducible refine (HMA.out _ (by assumption)).mono ?_); rintro e w' ⟨rfl, hbq⟩)) | (go_at_call 7; ((with_reducible refine (HBA.out _ (by assumption)).mono ?_); rintro e w' ⟨rfl, hbq⟩)) | (go_at_call 7; ((with_reducible refine (HAA.out _ (by assumption)).mono ?_); rintro e w' ⟨rfl, hbq⟩)))
      all_goals
        rename_i hh
        have hbf := HB2.out.trans (hh.1.mono HB2.out.size)
        clear qa qb
        go_wp2
        go_quiet (fail)
        go_wp2
        go_ret
        exact ⟨rfl, Below.drewN_ hbf _⟩
  · obtain ⟨hmA, rfl⟩ := (sameB_iff _ _).1 hab
    clear hab
    have hAA : sameB A A = true := (sameB_iff _ _).2 ⟨hmA, rfl⟩
    have HBA : Hid (∀ W, (Below w2.heap.size w2 W ∧ (W.cell? ⟨w.heap.size, 0, none⟩ = some (.int .i64 A.k) ∧ W.cell? ⟨w.heap.size, 1, none⟩ = some (.string A.nm) ∧ W.cell? ⟨w.heap.size, 2, none⟩ = some (.slice An A.ns.length an) ∧ W.cell? ⟨w.heap.size, 3, none⟩ = some (.slice Ap A.ps.length ap) ∧ W.cell? ⟨w.heap.size, 4, none⟩ = some (.bool A.many)) ∧ W.cell? ⟨w.heap.size + 1, 0, none⟩ = some (.int .i64 A.k) ∧ W.cell? ⟨w.heap.size + 1, 1, none⟩ = some (.string A.nm) ∧ W.cell? ⟨w.heap.size + 1, 2, none⟩ = some (.slice Bn A.ns.length bn) ∧ W.cell? ⟨w.heap.size + 1, 3, none⟩ = some (.slice Bp A.ps.length bp) ∧ W.cell? ⟨w.heap.size + 1, 4, none⟩ = some (.bool A.many)) → Calls Try.prog 7 #[.agg #[.int .i64 A.k, .string A.nm, .slice Bn A.ns.length bn, .slice Bp A.ps.length bp, .bool A.many], .agg #[.int .i64 A.k, .string A.nm, .slice An A.ns.length an, .slice Ap A.ps.length ap, .bool A.many]] W fun e w' => e = .returned (.bool true) ∧ Below W.heap.size W w') := fun W hW => by
      have h := HX.out A A _ _ W hB0 hA0 (HB2.out.trans (hW.1.mono HB2.out.size))
      rw [hAA] at h
      exact h
    have HAA : Hid (∀ W, (Below w2.heap.size w2 W ∧ (W.cell? ⟨w.heap.size, 0, none⟩ = some (.int .i64 A.k) ∧ W.cell? ⟨w.heap.size, 1, none⟩ = some (.string A.nm) ∧ W.cell? ⟨w.heap.size, 2, none⟩ = some (.slice An A.ns.length an) ∧ W.cell? ⟨w.heap.size, 3, none⟩ = some (.slice Ap A.ps.length ap) ∧ W.cell? ⟨w.heap.size, 4, none⟩ = some (.bool A.many)) ∧ W.cell? ⟨w.heap.size + 1, 0, none⟩ = some (.int .i64 A.k) ∧ W.cell? ⟨w.heap.size + 1, 1, none⟩ = some (.string A.nm) ∧ W.cell? ⟨w.heap.size + 1, 2, none⟩ = some (.slice Bn A.ns.length bn) ∧ W.cell? ⟨w.heap.size + 1, 3, none⟩ = some (.slice Bp A.ps.length bp) ∧ W.cell? ⟨w.heap.size + 1, 4, none⟩ = some (.bool A.many)) → Calls Try.prog 7 #[.agg #[.int .i64 A.k, .string A.nm, .slice An A.ns.length an, .slice Ap A.ps.length ap, .bool A.many], .agg #[.int .i64 A.k, .string A.nm, .slice An A.ns.length an, .slice Ap A.ps.length ap, .bool A.many]] W fun e w' => e = .returned (.bool true) ∧ Below W.heap.size W w') := fun W hW => by
      have h := HX.out A A _ _ W hA0 hA0 (HB2.out.trans (hW.1.mono HB2.out.size))
      rw [hAA] at h
      exact h
    have HMA : Hid (∀ W, (Below w2.heap.size w2 W ∧ (W.cell? ⟨w.heap.size, 0, none⟩ = some (.int .i64 A.k) ∧ W.cell? ⟨w.heap.size, 1, none⟩ = some (.string A.nm) ∧ W.cell? ⟨w.heap.size, 2, none⟩ = some (.slice An A.ns.length an) ∧ W.cell? ⟨w.heap.size, 3, none⟩ = some (.slice Ap A.ps.length ap) ∧ W.cell? ⟨w.heap.size, 4, none⟩ = some (.bool A.many)) ∧ W.cell? ⟨w.heap.size + 1, 0, none⟩ = some (.int .i64 A.k) ∧ W.cell? ⟨w.heap.size + 1, 1, none⟩ = some (.string A.nm) ∧ W.cell? ⟨w.heap.size + 1, 2, none⟩ = some (.slice Bn A.ns.length bn) ∧ W.cell? ⟨w.heap.size + 1, 3, none⟩ = some (.slice Bp A.ps.length bp) ∧ W.cell? ⟨w.heap.size + 1, 4, none⟩ = some (.bool A.many)) → Calls Try.prog 8 #[.agg #[.int .i64 A.k, .string A.nm, .slice An A.ns.length an, .slice Ap A.ps.length ap, .bool A.many]] W fun e w' => e = .returned (.bool true) ∧ Below W.heap.size W w') := fun W hW => by
      have hb := (HB2.out.trans (hW.1.mono HB2.out.size))
      have h := may_any A _ W (Rep.keep hb _ _ hA0) (hm.keep hb)
      rw [hmA] at h
      exact h
    clear hAA
    have HmA := Lib.hid hmA
    clear hmA
    have hl0 : w.heap.size < w2.heap.size := by omega
    have hl1 : w.heap.size + 1 < w2.heap.size := by omega
    go_region_held3 (fun W => Below w2.heap.size w2 W ∧ (W.cell? ⟨w.heap.size, 0, none⟩ = some (.int .i64 A.k) ∧ W.cell? ⟨w.heap.size, 1, none⟩ = some (.string A.nm) ∧ W.cell? ⟨w.heap.size, 2, none⟩ = some (.slice An A.ns.length an) ∧ W.cell? ⟨w.heap.size, 3, none⟩ = some (.slice Ap A.ps.length ap) ∧ W.cell? ⟨w.heap.size, 4, none⟩ = some (.bool A.many)) ∧ W.cell? ⟨w.heap.size + 1, 0, none⟩ = some (.int .i64 A.k) ∧ W.cell? ⟨w.heap.size + 1, 1, none⟩ = some (.string A.nm) ∧ W.cell? ⟨w.heap.size + 1, 2, none⟩ = some (.slice Bn A.ns.length bn) ∧ W.cell? ⟨w.heap.size + 1, 3, none⟩ = some (.slice Bp A.ps.length bp) ∧ W.cell? ⟨w.heap.size + 1, 4, none⟩ = some (.bool A.many)) (first | exact ⟨(Below.refl _ _).drew, qa, qb⟩ | exact keep10 hl0 hl1 (by assumption) hbq | exact ⟨Below.drew (And.left (by assumption)), And.right (by assumption)⟩ | go_keep) (first | (go_at_call 8; ((with_reducible refine (HMA.out _ (by assumption)).mono ?_); rintro e w' ⟨rfl, hbq⟩)) | (go_at_call 7; ((with_reducible refine (HBA.out _ (by assumption)).mono ?_); rintro e w' ⟨rfl, hbq⟩)) | (go_at_call 7; ((with_reducible refine (HAA.out _ (by assumption)).mono ?_); rintro e w' ⟨rfl, hbq⟩)))
    rename_i hh
    have HB3 := Lib.hid (HB2.out.trans (hh.1.mono HB2.out.size))
    have kc3 := kc.below hh.1
    have ka3 := ka.below hh.1
    have kb3 := kb.below hh.1
    have hz3 := hh.1.size
    clear hh qa qb ka kb kc HBA HAA HMA HB2 hbq
    have qa := ka3.five
    have qb := kb3.five
    have qc := kc3.five
    obtain ⟨w3, rfl⟩ : ∃ w3 : World, w3 = w' := ⟨_, rfl⟩
    go_wp2_with fail
    refine (HX.out A C _ _ _ hB0 hC0 HB3.out).mono ?_
    rintro e w4 ⟨rfl, hb⟩
    have HB4 := Lib.hid (HB3.out.trans (hb.mono HB3.out.size))
    have ka4 := ka3.below hb
    have kb4 := kb3.below hb
    have kc4 := kc3.below hb
    have hz4 := hb.size
    clear qa qb qc hb ka3 kb3 kc3 HB3
    have qa := ka4.five
    have qb := kb4.five
    have qc := kc4.five
    rcases hac : sameB A C with _ | _
    · obtain ⟨w5, rfl⟩ : ∃ w5 : World, w5 = w4 := ⟨_, rfl⟩
      have HB5 := HB4
      have ka5 := ka4
      have kb5 := kb4
      have hz5 : w.heap.size + 2 < w5.heap.size := by omega
      clear HB4 ka4 kb4 kc4 hl0 hl1
      have hl0 : w.heap.size < w5.heap.size := by omega
      have hl1 : w.heap.size + 1 < w5.heap.size := by omega
      have HWA : Hid (∀ W, (Below w5.heap.size w5 W ∧ (W.cell? ⟨w.heap.size, 0, none⟩ = some (.int .i64 A.k) ∧ W.cell? ⟨w.heap.size, 1, none⟩ = some (.string A.nm) ∧ W.cell? ⟨w.heap.size, 2, none⟩ = some (.slice An A.ns.length an) ∧ W.cell? ⟨w.heap.size, 3, none⟩ = some (.slice Ap A.ps.length ap) ∧ W.cell? ⟨w.heap.size, 4, none⟩ = some (.bool A.many)) ∧ W.cell? ⟨w.heap.size + 1, 0, none⟩ = some (.int .i64 A.k) ∧ W.cell? ⟨w.heap.size + 1, 1, none⟩ = some (.string A.nm) ∧ W.cell? ⟨w.heap.size + 1, 2, none⟩ = some (.slice Bn A.ns.length bn) ∧ W.cell? ⟨w.heap.size + 1, 3, none⟩ = some (.slice Bp A.ps.length bp) ∧ W.cell? ⟨w.heap.size + 1, 4, none⟩ = some (.bool A.many)) → Calls Try.prog 9 #[.agg #[.int .i64 A.k, .string A.nm, .slice An A.ns.length an, .slice Ap A.ps.length ap, .bool A.many]] W fun e w' => e = .returned (.int .i64 (wordsT A)) ∧ Below W.heap.size W w') := fun W hW => by
        have hb := (HB5.out.trans (hW.1.mono HB5.out.size))
        exact words_any A _ W (Rep.keep hb _ _ hA0) (hm.keep hb)
      have HWB : Hid (∀ W, (Below w5.heap.size w5 W ∧ (W.cell? ⟨w.heap.size, 0, none⟩ = some (.int .i64 A.k) ∧ W.cell? ⟨w.heap.size, 1, none⟩ = some (.string A.nm) ∧ W.cell? ⟨w.heap.size, 2, none⟩ = some (.slice An A.ns.length an) ∧ W.cell? ⟨w.heap.size, 3, none⟩ = some (.slice Ap A.ps.length ap) ∧ W.cell? ⟨w.heap.size, 4, none⟩ = some (.bool A.many)) ∧ W.cell? ⟨w.heap.size + 1, 0, none⟩ = some (.int .i64 A.k) ∧ W.cell? ⟨w.heap.size + 1, 1, none⟩ = some (.string A.nm) ∧ W.cell? ⟨w.heap.size + 1, 2, none⟩ = some (.slice Bn A.ns.length bn) ∧ W.cell? ⟨w.heap.size + 1, 3, none⟩ = some (.slice Bp A.ps.length bp) ∧ W.cell? ⟨w.heap.size + 1, 4, none⟩ = some (.bool A.many)) → Calls Try.prog 9 #[.agg #[.int .i64 A.k, .string A.nm, .slice Bn A.ns.length bn, .slice Bp A.ps.length bp, .bool A.many]] W fun e w' => e = .returned (.int .i64 (wordsT A)) ∧ Below W.heap.size W w') := fun W hW => by
        have hb := (HB5.out.trans (hW.1.mono HB5.out.size))
        exact words_any A _ W (Rep.keep hb _ _ hB0) (hm.keep hb)
      have HEA : Hid (∀ W, (Below w5.heap.size w5 W ∧ (W.cell? ⟨w.heap.size, 0, none⟩ = some (.int .i64 A.k) ∧ W.cell? ⟨w.heap.size, 1, none⟩ = some (.string A.nm) ∧ W.cell? ⟨w.heap.size, 2, none⟩ = some (.slice An A.ns.length an) ∧ W.cell? ⟨w.heap.size, 3, none⟩ = some (.slice Ap A.ps.length ap) ∧ W.cell? ⟨w.heap.size, 4, none⟩ = some (.bool A.many)) ∧ W.cell? ⟨w.heap.size + 1, 0, none⟩ = some (.int .i64 A.k) ∧ W.cell? ⟨w.heap.size + 1, 1, none⟩ = some (.string A.nm) ∧ W.cell? ⟨w.heap.size + 1, 2, none⟩ = some (.slice Bn A.ns.length bn) ∧ W.cell? ⟨w.heap.size + 1, 3, none⟩ = some (.slice Bp A.ps.length bp) ∧ W.cell? ⟨w.heap.size + 1, 4, none⟩ = some (.bool A.many)) → Calls Try.prog 10 #[.agg #[.int .i64 A.k, .string A.nm, .slice An A.ns.length an, .slice Ap A.ps.length ap, .bool A.many]] W fun e w' => e = .returned (.bool (evenT A)) ∧ Below W.heap.size W w') := fun W hW => by
        have hb := (HB5.out.trans (hW.1.mono HB5.out.size))
        exact even_any A _ W (Rep.keep hb _ _ hA0) (hm.keep hb)
      have HEB : Hid (∀ W, (Below w5.heap.size w5 W ∧ (W.cell? ⟨w.heap.size, 0, none⟩ = some (.int .i64 A.k) ∧ W.cell? ⟨w.heap.size, 1, none⟩ = some (.string A.nm) ∧ W.cell? ⟨w.heap.size, 2, none⟩ = some (.slice An A.ns.length an) ∧ W.cell? ⟨w.heap.size, 3, none⟩ = some (.slice Ap A.ps.length ap) ∧ W.cell? ⟨w.heap.size, 4, none⟩ = some (.bool A.many)) ∧ W.cell? ⟨w.heap.size + 1, 0, none⟩ = some (.int .i64 A.k) ∧ W.cell? ⟨w.heap.size + 1, 1, none⟩ = some (.string A.nm) ∧ W.cell? ⟨w.heap.size + 1, 2, none⟩ = some (.slice Bn A.ns.length bn) ∧ W.cell? ⟨w.heap.size + 1, 3, none⟩ = some (.slice Bp A.ps.length bp) ∧ W.cell? ⟨w.heap.size + 1, 4, none⟩ = some (.bool A.many)) → Calls Try.prog 10 #[.agg #[.int .i64 A.k, .string A.nm, .slice Bn A.ns.length bn, .slice Bp A.ps.length bp, .bool A.many]] W fun e w' => e = .returned (.bool (evenT A)) ∧ Below W.heap.size W w') := fun W hW => by
        have hb := (HB5.out.trans (hW.1.mono HB5.out.size))
        exact even_any A _ W (Rep.keep hb _ _ hB0) (hm.keep hb)
      have HTA : Hid (∀ W, (Below w5.heap.size w5 W ∧ (W.cell? ⟨w.heap.size, 0, none⟩ = some (.int .i64 A.k) ∧ W.cell? ⟨w.heap.size, 1, none⟩ = some (.string A.nm) ∧ W.cell? ⟨w.heap.size, 2, none⟩ = some (.slice An A.ns.length an) ∧ W.cell? ⟨w.heap.size, 3, none⟩ = some (.slice Ap A.ps.length ap) ∧ W.cell? ⟨w.heap.size, 4, none⟩ = some (.bool A.many)) ∧ W.cell? ⟨w.heap.size + 1, 0, none⟩ = some (.int .i64 A.k) ∧ W.cell? ⟨w.heap.size + 1, 1, none⟩ = some (.string A.nm) ∧ W.cell? ⟨w.heap.size + 1, 2, none⟩ = some (.slice Bn A.ns.length bn) ∧ W.cell? ⟨w.heap.size + 1, 3, none⟩ = some (.slice Bp A.ps.length bp) ∧ W.cell? ⟨w.heap.size + 1, 4, none⟩ = some (.bool A.many)) → Calls Try.prog 11 #[.agg #[.int .i64 A.k, .string A.nm, .slice An A.ns.length an, .slice Ap A.ps.length ap, .bool A.many]] W fun e w' => e = .returned (.string (textB A)) ∧ Below W.heap.size W w') := fun W hW => by
        have hb := (HB5.out.trans (hW.1.mono HB5.out.size))
        exact text_any A _ W (Rep.keep hb _ _ hA0) (hm.keep hb)
      have HTB : Hid (∀ W, (Below w5.heap.size w5 W ∧ (W.cell? ⟨w.heap.size, 0, none⟩ = some (.int .i64 A.k) ∧ W.cell? ⟨w.heap.size, 1, none⟩ = some (.string A.nm) ∧ W.cell? ⟨w.heap.size, 2, none⟩ = some (.slice An A.ns.length an) ∧ W.cell? ⟨w.heap.size, 3, none⟩ = some (.slice Ap A.ps.length ap) ∧ W.cell? ⟨w.heap.size, 4, none⟩ = some (.bool A.many)) ∧ W.cell? ⟨w.heap.size + 1, 0, none⟩ = some (.int .i64 A.k) ∧ W.cell? ⟨w.heap.size + 1, 1, none⟩ = some (.string A.nm) ∧ W.cell? ⟨w.heap.size + 1, 2, none⟩ = some (.slice Bn A.ns.length bn) ∧ W.cell? ⟨w.heap.size + 1, 3, none⟩ = some (.slice Bp A.ps.length bp) ∧ W.cell? ⟨w.heap.size + 1, 4, none⟩ = some (.bool A.many)) → Calls Try.prog 11 #[.agg #[.int .i64 A.k, .string A.nm, .slice Bn A.ns.length bn, .slice Bp A.ps.length bp, .bool A.many]] W fun e w' => e = .returned (.string (textB A)) ∧ Below W.heap.size W w') := fun W hW => by
        have hb := (HB5.out.trans (hW.1.mono HB5.out.size))
        exact text_any A _ W (Rep.keep hb _ _ hB0) (hm.keep hb)
      generalize wordsT A = z at *
      generalize evenT A = ev at *
      generalize textB A = tx at *
      go_wp2_with fail
      go_region_held3 (fun W => Below w5.heap.size w5 W ∧ (W.cell? ⟨w.heap.size, 0, none⟩ = some (.int .i64 A.k) ∧ W.cell? ⟨w.heap.size, 1, none⟩ = some (.string A.nm) ∧ W.cell? ⟨w.heap.size, 2, none⟩ = some (.slice An A.ns.length an) ∧ W.cell? ⟨w.heap.size, 3, none⟩ = some (.slice Ap A.ps.length ap) ∧ W.cell? ⟨w.heap.size, 4, none⟩ = some (.bool A.many)) ∧ W.cell? ⟨w.heap.size + 1, 0, none⟩ = some (.int .i64 A.k) ∧ W.cell? ⟨w.heap.size + 1, 1, none⟩ = some (.string A.nm) ∧ W.cell? ⟨w.heap.size + 1, 2, none⟩ = some (.slice Bn A.ns.length bn) ∧ W.cell? ⟨w.heap.size + 1, 3, none⟩ = some (.slice Bp A.ps.length bp) ∧ W.cell? ⟨w.heap.size + 1, 4, none⟩ = some (.bool A.many)) (first | exact ⟨(Below.refl _ _).drew, qa, qb⟩ | exact keep10 hl0 hl1 (by assumption) hbq | exact ⟨Below.drew (And.left (by assumption)), And.right (by assumption)⟩ | go_keep) (first | (go_at_call 9; ((with_reducible refine (HWA.out _ (by assumption)).mono ?_); rintro e w' ⟨rfl, hbq⟩)) | (go_at_call 9; ((with_reducible refine (HWB.out _ (by assumption)).mono ?_); rintro e w' ⟨rfl, hbq⟩)) | (go_at_call 10; ((with_reducible refine (HEA.out _ (by assumption)).mono ?_); rintro e w' ⟨rfl, hbq⟩)) | (go_at_call 10; ((with_reducible refine (HEB.out _ (by assumption)).mono ?_); rintro e w' ⟨rfl, hbq⟩)) | (go_at_call 11; ((with_reducible refine (HTA.out _ (by assumption)).mono ?_); rintro e w' ⟨rfl, hbq⟩)) | (go_at_call 11; ((with_reducible refine (HTB.out _ (by assumption)).mono ?_); rintro e w' ⟨rfl, hbq⟩)))
      all_goals
        rename_i hh
        have hbf := HB5.out.trans (hh.1.mono HB5.out.size)
        clear qa qb
        go_wp2
        go_ret
        exact ⟨by first | rfl | simp, hbf⟩
    · go_wp2_with fail
      refine (HX.out A C _ _ _ hA0 hC0 HB4.out).mono ?_
      rw [hac]
      rintro e w5 ⟨rfl, hb⟩
      have HB5 := Lib.hid (HB4.out.trans (hb.mono HB4.out.size))
      have ka5 := ka4.below hb
      have kb5 := kb4.below hb
      have hz5 : w.heap.size + 2 < w5.heap.size := by have := hb.size; omega
      clear HB4 ka4 kb4 kc4 hl0 hl1 qa qb qc hb
      have qa := ka5.five
      have qb := kb5.five
      have hl0 : w.heap.size < w5.heap.size := by omega
      have hl1 : w.heap.size + 1 < w5.heap.size := by omega
      have HWA : Hid (∀ W, (Below w5.heap.size w5 W ∧ (W.cell? ⟨w.heap.size, 0, none⟩ = some (.int .i64 A.k) ∧ W.cell? ⟨w.heap.size, 1, none⟩ = some (.string A.nm) ∧ W.cell? ⟨w.heap.size, 2, none⟩ = some (.slice An A.ns.length an) ∧ W.cell? ⟨w.heap.size, 3, none⟩ = some (.slice Ap A.ps.length ap) ∧ W.cell? ⟨w.heap.size, 4, none⟩ = some (.bool A.many)) ∧ W.cell? ⟨w.heap.size + 1, 0, none⟩ = some (.int .i64 A.k) ∧ W.cell? ⟨w.heap.size + 1, 1, none⟩ = some (.string A.nm) ∧ W.cell? ⟨w.heap.size + 1, 2, none⟩ = some (.slice Bn A.ns.length bn) ∧ W.cell? ⟨w.heap.size + 1, 3, none⟩ = some (.slice Bp A.ps.length bp) ∧ W.cell? ⟨w.heap.size + 1, 4, none⟩ = some (.bool A.many)) → Calls Try.prog 9 #[.agg #[.int .i64 A.k, .string A.nm, .slice An A.ns.length an, .slice Ap A.ps.length ap, .bool A.many]] W fun e w' => e = .returned (.int .i64 (wordsT A)) ∧ Below W.heap.size W w') := fun W hW => by
        have hb := (HB5.out.trans (hW.1.mono HB5.out.size))
        exact words_any A _ W (Rep.keep hb _ _ hA0) (hm.keep hb)
      have HWB : Hid (∀ W, (Below w5.heap.size w5 W ∧ (W.cell? ⟨w.heap.size, 0, none⟩ = some (.int .i64 A.k) ∧ W.cell? ⟨w.heap.size, 1, none⟩ = some (.string A.nm) ∧ W.cell? ⟨w.heap.size, 2, none⟩ = some (.slice An A.ns.length an) ∧ W.cell? ⟨w.heap.size, 3, none⟩ = some (.slice Ap A.ps.length ap) ∧ W.cell? ⟨w.heap.size, 4, none⟩ = some (.bool A.many)) ∧ W.cell? ⟨w.heap.size + 1, 0, none⟩ = some (.int .i64 A.k) ∧ W.cell? ⟨w.heap.size + 1, 1, none⟩ = some (.string A.nm) ∧ W.cell? ⟨w.heap.size + 1, 2, none⟩ = some (.slice Bn A.ns.length bn) ∧ W.cell? ⟨w.heap.size + 1, 3, none⟩ = some (.slice Bp A.ps.length bp) ∧ W.cell? ⟨w.heap.size + 1, 4, none⟩ = some (.bool A.many)) → Calls Try.prog 9 #[.agg #[.int .i64 A.k, .string A.nm, .slice Bn A.ns.length bn, .slice Bp A.ps.length bp, .bool A.many]] W fun e w' => e = .returned (.int .i64 (wordsT A)) ∧ Below W.heap.size W w') := fun W hW => by
        have hb := (HB5.out.trans (hW.1.mono HB5.out.size))
        exact words_any A _ W (Rep.keep hb _ _ hB0) (hm.keep hb)
      have HEA : Hid (∀ W, (Below w5.heap.size w5 W ∧ (W.cell? ⟨w.heap.size, 0, none⟩ = some (.int .i64 A.k) ∧ W.cell? ⟨w.heap.size, 1, none⟩ = some (.string A.nm) ∧ W.cell? ⟨w.heap.size, 2, none⟩ = some (.slice An A.ns.length an) ∧ W.cell? ⟨w.heap.size, 3, none⟩ = some (.slice Ap A.ps.length ap) ∧ W.cell? ⟨w.heap.size, 4, none⟩ = some (.bool A.many)) ∧ W.cell? ⟨w.heap.size + 1, 0, none⟩ = some (.int .i64 A.k) ∧ W.cell? ⟨w.heap.size + 1, 1, none⟩ = some (.string A.nm) ∧ W.cell? ⟨w.heap.size + 1, 2, none⟩ = some (.slice Bn A.ns.length bn) ∧ W.cell? ⟨w.heap.size + 1, 3, none⟩ = some (.slice Bp A.ps.length bp) ∧ W.cell? ⟨w.heap.size + 1, 4, none⟩ = some (.bool A.many)) → Calls Try.prog 10 #[.agg #[.int .i64 A.k, .string A.nm, .slice An A.ns.length an, .slice Ap A.ps.length ap, .bool A.many]] W fun e w' => e = .returned (.bool (evenT A)) ∧ Below W.heap.size W w') := fun W hW => by
        have hb := (HB5.out.trans (hW.1.mono HB5.out.size))
        exact even_any A _ W (Rep.keep hb _ _ hA0) (hm.keep hb)
      have HEB : Hid (∀ W, (Below w5.heap.size w5 W ∧ (W.cell? ⟨w.heap.size, 0, none⟩ = some (.int .i64 A.k) ∧ W.cell? ⟨w.heap.size, 1, none⟩ = some (.string A.nm) ∧ W.cell? ⟨w.heap.size, 2, none⟩ = some (.slice An A.ns.length an) ∧ W.cell? ⟨w.heap.size, 3, none⟩ = some (.slice Ap A.ps.length ap) ∧ W.cell? ⟨w.heap.size, 4, none⟩ = some (.bool A.many)) ∧ W.cell? ⟨w.heap.size + 1, 0, none⟩ = some (.int .i64 A.k) ∧ W.cell? ⟨w.heap.size + 1, 1, none⟩ = some (.string A.nm) ∧ W.cell? ⟨w.heap.size + 1, 2, none⟩ = some (.slice Bn A.ns.length bn) ∧ W.cell? ⟨w.heap.size + 1, 3, none⟩ = some (.slice Bp A.ps.length bp) ∧ W.cell? ⟨w.heap.size + 1, 4, none⟩ = some (.bool A.many)) → Calls Try.prog 10 #[.agg #[.int .i64 A.k, .string A.nm, .slice Bn A.ns.length bn, .slice Bp A.ps.length bp, .bool A.many]] W fun e w' => e = .returned (.bool (evenT A)) ∧ Below W.heap.size W w') := fun W hW => by
        have hb := (HB5.out.trans (hW.1.mono HB5.out.size))
        exact even_any A _ W (Rep.keep hb _ _ hB0) (hm.keep hb)
      have HTA : Hid (∀ W, (Below w5.heap.size w5 W ∧ (W.cell? ⟨w.heap.size, 0, none⟩ = some (.int .i64 A.k) ∧ W.cell? ⟨w.heap.size, 1, none⟩ = some (.string A.nm) ∧ W.cell? ⟨w.heap.size, 2, none⟩ = some (.slice An A.ns.length an) ∧ W.cell? ⟨w.heap.size, 3, none⟩ = some (.slice Ap A.ps.length ap) ∧ W.cell? ⟨w.heap.size, 4, none⟩ = some (.bool A.many)) ∧ W.cell? ⟨w.heap.size + 1, 0, none⟩ = some (.int .i64 A.k) ∧ W.cell? ⟨w.heap.size + 1, 1, none⟩ = some (.string A.nm) ∧ W.cell? ⟨w.heap.size + 1, 2, none⟩ = some (.slice Bn A.ns.length bn) ∧ W.cell? ⟨w.heap.size + 1, 3, none⟩ = some (.slice Bp A.ps.length bp) ∧ W.cell? ⟨w.heap.size + 1, 4, none⟩ = some (.bool A.many)) → Calls Try.prog 11 #[.agg #[.int .i64 A.k, .string A.nm, .slice An A.ns.length an, .slice Ap A.ps.length ap, .bool A.many]] W fun e w' => e = .returned (.string (textB A)) ∧ Below W.heap.size W w') := fun W hW => by
        have hb := (HB5.out.trans (hW.1.mono HB5.out.size))
        exact text_any A _ W (Rep.keep hb _ _ hA0) (hm.keep hb)
      have HTB : Hid (∀ W, (Below w5.heap.size w5 W ∧ (W.cell? ⟨w.heap.size, 0, none⟩ = some (.int .i64 A.k) ∧ W.cell? ⟨w.heap.size, 1, none⟩ = some (.string A.nm) ∧ W.cell? ⟨w.heap.size, 2, none⟩ = some (.slice An A.ns.length an) ∧ W.cell? ⟨w.heap.size, 3, none⟩ = some (.slice Ap A.ps.length ap) ∧ W.cell? ⟨w.heap.size, 4, none⟩ = some (.bool A.many)) ∧ W.cell? ⟨w.heap.size + 1, 0, none⟩ = some (.int .i64 A.k) ∧ W.cell? ⟨w.heap.size + 1, 1, none⟩ = some (.string A.nm) ∧ W.cell? ⟨w.heap.size + 1, 2, none⟩ = some (.slice Bn A.ns.length bn) ∧ W.cell? ⟨w.heap.size + 1, 3, none⟩ = some (.slice Bp A.ps.length bp) ∧ W.cell? ⟨w.heap.size + 1, 4, none⟩ = some (.bool A.many)) → Calls Try.prog 11 #[.agg #[.int .i64 A.k, .string A.nm, .slice Bn A.ns.length bn, .slice Bp A.ps.length bp, .bool A.many]] W fun e w' => e = .returned (.string (textB A)) ∧ Below W.heap.size W w') := fun W hW => by
        have hb := (HB5.out.trans (hW.1.mono HB5.out.size))
        exact text_any A _ W (Rep.keep hb _ _ hB0) (hm.keep hb)
      generalize wordsT A = z at *
      generalize evenT A = ev at *
      generalize textB A = tx at *
      go_wp2_with fail
      go_region_held3 (fun W => Below w5.heap.size w5 W ∧ (W.cell? ⟨w.heap.size, 0, none⟩ = some (.int .i64 A.k) ∧ W.cell? ⟨w.heap.size, 1, none⟩ = some (.string A.nm) ∧ W.cell? ⟨w.heap.size, 2, none⟩ = some (.slice An A.ns.length an) ∧ W.cell? ⟨w.heap.size, 3, none⟩ = some (.slice Ap A.ps.length ap) ∧ W.cell? ⟨w.heap.size, 4, none⟩ = some (.bool A.many)) ∧ W.cell? ⟨w.heap.size + 1, 0, none⟩ = some (.int .i64 A.k) ∧ W.cell? ⟨w.heap.size + 1, 1, none⟩ = some (.string A.nm) ∧ W.cell? ⟨w.heap.size + 1, 2, none⟩ = some (.slice Bn A.ns.length bn) ∧ W.cell? ⟨w.heap.size + 1, 3, none⟩ = some (.slice Bp A.ps.length bp) ∧ W.cell? ⟨w.heap.size + 1, 4, none⟩ = some (.bool A.many)) (first | exact ⟨(Below.refl _ _).drew, qa, qb⟩ | exact keep10 hl0 hl1 (by assumption) hbq | exact ⟨Below.drew (And.left (by assumption)), And.right (by assumption)⟩ | go_keep) (first | (go_at_call 9; ((with_reducible refine (HWA.out _ (by assumption)).mono ?_); rintro e w' ⟨rfl, hbq⟩)) | (go_at_call 9; ((with_reducible refine (HWB.out _ (by assumption)).mono ?_); rintro e w' ⟨rfl, hbq⟩)) | (go_at_call 10; ((with_reducible refine (HEA.out _ (by assumption)).mono ?_); rintro e w' ⟨rfl, hbq⟩)) | (go_at_call 10; ((with_reducible refine (HEB.out _ (by assumption)).mono ?_); rintro e w' ⟨rfl, hbq⟩)) | (go_at_call 11; ((with_reducible refine (HTA.out _ (by assumption)).mono ?_); rintro e w' ⟨rfl, hbq⟩)) | (go_at_call 11; ((with_reducible refine (HTB.out _ (by assumption)).mono ?_); rintro e w' ⟨rfl, hbq⟩)))
      all_goals
        rename_i hh
        have hbf := HB5.out.trans (hh.1.mono HB5.out.size)
        clear qa qb
        go_wp2
        go_ret
        exact ⟨by first | rfl | simp, hbf⟩
end Go.Proofs.Ytkjlmllhhfacfaa
