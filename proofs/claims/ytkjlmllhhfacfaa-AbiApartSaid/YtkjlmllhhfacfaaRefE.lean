/- The document's words on how types lie: Places. -/
import Derived.Test.YtkjlmllhhfacfaaRefB
import Derived.Test.YtkjlmllhhfacfaaTypG
namespace Go.Proofs.Ytkjlmllhhfacfaa
open Go.RowKit
set_option linter.unusedVariables false
set_option linter.unusedSimpArgs false
set_option maxRecDepth 100000
set_option maxHeartbeats 2000000
def PlcRel (T : Ty) (w : World) (v i : Value) (H : Nat) (bs : Array Value) (wr : World) : Prop :=
  ∃ k : Nat, k ≤ T.ps.length ∧ i = .int .i64 k ∧ wr.ownsRow w.heap.size 3 1 v k (ints ((List.range k).map (plcZ (T.ps.map sizeT)))) ∧ Below w.heap.size w wr ∧ Blk wr H 25 bs
theorem ints_snoc (T : Ty) (k : Nat) : ints ((List.range (k + 1)).map (plcZ (T.ps.map sizeT))) = ints ((List.range k).map (plcZ (T.ps.map sizeT))) ++ [.int .i64 (plcZ (T.ps.map sizeT) k : Int)] := by
  rw [List.range_succ]
  simp [ints]
def SliceInts (l : List Nat) (e : Ending) (w : World) : Prop := ∃ A c, e = .returned (.slice A l.length c) ∧ Row w A (ints l)
theorem placesR_any (T : Ty) (cs : List Value) (w : World) (hr : Rep w T cs) (hmy : may T = true) : Calls Try.prog 17 #[.agg cs.toArray] w fun e w' => SliceInts (placesT T) e w' ∧ Below w.heap.size w w' := by
  have hr0 := hr
  obtain ⟨An, cn, Ap, cp, rfl, hN, hP⟩ := hr.five
  have h7 := may_len hmy
  by_cases h3 : T.k = 3
  · have hp : placesT T = (List.range T.ps.length).map (plcZ (T.ps.map sizeT)) := by unfold placesT; rw [if_pos ⟨h3, hmy⟩]
    rw [hp]
    clear hp
    have hps := (may_st hmy h3).2.2.2.1
    have hPl := place_any T h3 h7 (fun p hpp => (sized_of_may 3 p (hps p hpp)).2) (fun p hpp => sizeR_all 3 p (hps p hpp)) (fun p hpp => even_all 3 p (hps p hpp)) (even_all 4 T hmy)
    have HPL : Hid (∀ (k : Nat), k < T.ps.length → ∀ (cs : List Value) (w : World), Rep w T cs → Calls Try.prog 29 #[.agg cs.toArray, .int .i64 (k : Int)] w fun e w' => e = .returned (.int .i64 (plcZ (T.ps.map sizeT) k : Int)) ∧ Below w.heap.size w w') := fun k hk cs w hr => by
      have h := hPl k (by omega) cs w hr
      have e : plcR T k = plcZ (T.ps.map sizeT) k := by unfold plcR; rw [if_pos hk]
      rw [e] at h
      exact h
    clear hPl hps hmy
    have HR := Lib.hid hr0
    clear hr hr0
    rw [h3] at HR ⊢
    obtain ⟨i0, hi, hz0, hz1, hz2⟩ := info_parts info_int
    have k0 := Blk.new_ w 25 #[.int .i64 3, .string T.nm, .slice An T.ns.length cn, .slice Ap T.ps.length cp, .bool T.many]
    go_enter Try.func17, Try.ntmps17
    go_wp2
    go_loopw [3, 4, 5] (fun v i _ wr => PlcRel T w v i w.heap.size #[.int .i64 3, .string T.nm, .slice An T.ns.length cn, .slice Ap T.ps.length cp, .bool T.many] wr) (fun _ i _ _ => T.ps.length - (intOf i).toNat)
    case atStart => exact ⟨0, Nat.zero_le _, rfl, World.ownsRow_nil _ _ _ _, by (repeat (first | with_reducible assumption | with_reducible exact Below.refl _ _ | (refine Below.setCell ?_ (by first | omega | (simp; done) | (simp; omega)) _) | (refine Below.drewN_ ?_ _) | (refine Below.drew ?_) | (refine Below.alloc ?_ (by first | omega | (simp; done) | (simp; omega)) _))), k0⟩
    case round =>
      clear k0
      obtain ⟨k, hk, rfl, hown, hb, k1⟩ := hrel
      have q := k1.five
      by_cases hlt : k < T.ps.length
      · have hi1 : (k : Int) < (T.ps.length : Int) := by omega
        have hk7 : (k : Int) < 7 := by omega
        have hc := HPL.out k hlt
        have hsn := Lib.hid (ints_snoc T k)
        have HO := Lib.hid hown
        have HC := Lib.hid hc
        clear hown hc
        generalize plcZ (T.ps.map sizeT) k = q1 at *
        go_wp2_with fail
        refine (HC.out _ _ (Rep.keep hb _ _ HR.out)).mono ?_
        rintro e w2 ⟨rfl, hb2⟩
        have b3 := hb.trans (hb2.mono hb.size)
        have k2 := k1.below hb2
        have hown := own_below HO.out hb2
        clear q k1
        have q := k2.five
        go_wp2_with (at_builtin; refine wpList_append_own _ rfl _ _ 31 rfl w.heap.size 3 i0 (.int .i64 0) 1 8 Try.underlying31 hi hz0 hz1 hz2 rfl (by decide) _ _ _ rfl (hown.alloc _) ⟨w2.heap.size, 0, none⟩ 1 1 [.int .i64 (q1 : Int)] rfl rfl ?c1 ?c2 ?c3 ?c4 ?c5 ?_)
        case c1 => exact cell_one_new _ _ _
        case c2 => simp [Value.oneCell']
        case c3 => unfold maxLen; omega
        case c4 => omega
        case c5 => have := b3.size; simp; omega
        intro v' w3 hown' hgrow _
        have b4 := below_app b3 (Nat.le_refl _) hown hgrow
        have k3 : Blk w3 w.heap.size 25 #[.int .i64 3, .string T.nm, .slice An T.ns.length cn, .slice Ap T.ps.length cp, .bool T.many] := (k2.alloc _).grown hgrow (own_blk hown k2 (by decide))
        rw [← hsn.out] at hown'
        have HO' := Lib.hid hown'
        clear q k2 hown hown' hgrow hb2
        go_wp2
        go_roundw
        case rel => exact ⟨k + 1, by omega, by go_num, HO'.out, b4, k3⟩
        case measure => (first | (simp [intOf]; done) | (simp [intOf]; omega))
      · have hi1 : ¬ (k : Int) < (T.ps.length : Int) := by omega
        obtain rfl : k = T.ps.length := by omega
        have hform := Row.of_own hown
        clear hown
        obtain ⟨A, c, rfl, hrow⟩ := hform
        go_wp2
        go_ret
        exact ⟨⟨A, c, by simp, hrow⟩, hb⟩
  · have hp : placesT T = [] := by simp [placesT, h3]
    have e3 : (T.k == 3) = false := by simpa using h3
    rw [hp]
    clear hp
    have k0 := Blk.new_ w 25 #[.int .i64 T.k, .string T.nm, .slice An T.ns.length cn, .slice Ap T.ps.length cp, .bool T.many]
    go_enter Try.func17, Try.ntmps17
    go_wp2
    go_loopw [3, 4, 5] (fun v i _ wr => v = .slice none 0 0 ∧ i = .int .i64 0 ∧ Below w.heap.size w wr ∧ Blk wr w.heap.size 25 #[.int .i64 T.k, .string T.nm, .slice An T.ns.length cn, .slice Ap T.ps.length cp, .bool T.many]) (fun _ _ _ _ => 0)
    case atStart => exact ⟨rfl, rfl, by (repeat (first | with_reducible assumption | with_reducible exact Below.refl _ _ | (refine Below.setCell ?_ (by first | omega | (simp; done) | (simp; omega)) _) | (refine Below.drewN_ ?_ _) | (refine Below.drew ?_) | (refine Below.alloc ?_ (by first | omega | (simp; done) | (simp; omega)) _))), k0⟩
    case round =>
      clear k0
      obtain ⟨rfl, rfl, hb, k1⟩ := hrel
      have q := k1.five
      go_wp2
      go_ret
      exact ⟨⟨none, 0, rfl, .inl (by simp [ints])⟩, hb⟩
end Go.Proofs.Ytkjlmllhhfacfaa
