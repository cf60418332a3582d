/- The reference's tables: what a kind may have, its class, the signs, what a kid is to be. -/
import Derived.Test.YtgegfbopogcjpaaDoorSynD
import Derived.Test.YtgegfbopogcjpaaDoorOpenN
import Derived.Test.YtgegfbopogcjpaaDoorRefN
import Derived.Deep.QuietTactic
import Derived.BigQuiet
import Derived.WalkLawsBesides
import Derived.IntWalk
namespace Go.Proofs.YtgegfbopogcjpaaDoor
open Go.RowKit
set_option linter.unusedVariables false
set_option linter.unusedSimpArgs false
set_option maxRecDepth 100000
set_option maxHeartbeats 1000000
def sgI : Nat → ByteArray
  | 0 => ⟨#[61, 61]⟩
  | 1 => ⟨#[60]⟩
  | 2 => ⟨#[43]⟩
  | 3 => ⟨#[45]⟩
  | 4 => ⟨#[124]⟩
  | 5 => ⟨#[94]⟩
  | 6 => ⟨#[42]⟩
  | 7 => ⟨#[47]⟩
  | 8 => ⟨#[37]⟩
  | 9 => ⟨#[38]⟩
  | _ => ⟨#[]⟩
def opI : Nat → Int
  | 0 => 12
  | 1 => 10
  | 2 => 1
  | 3 => 2
  | 4 => 8
  | 5 => 9
  | 6 => 3
  | 7 => 5
  | 8 => 6
  | 9 => 7
  | _ => 0
def kI (i : Nat) : Int := if i < 2 then 0 else if i < 6 then 1 else 2
theorem ten (P : Nat → Prop) (h0 : P 0) (h1 : P 1) (h2 : P 2) (h3 : P 3) (h4 : P 4) (h5 : P 5) (h6 : P 6) (h7 : P 7) (h8 : P 8) (h9 : P 9) : ∀ i, i < 10 → P i
  | 0, _ => h0
  | 1, _ => h1
  | 2, _ => h2
  | 3, _ => h3
  | 4, _ => h4
  | 5, _ => h5
  | 6, _ => h6
  | 7, _ => h7
  | 8, _ => h8
  | 9, _ => h9
  | i + 10, h => absurd h (by omega)
/-- the first sign that a text is -/
def signIx (s : ByteArray) : Nat → Option Nat
  | 0 => none
  | f + 1 => if sgI (9 - f) = s then some (9 - f) else signIx s f
def signR (s : ByteArray) : Int × Int := match signIx s 10 with
  | some i => (kI i, opI i)
  | none => (-1, 0)
theorem sgI_inj : ∀ i, i < 10 → ∀ j, j < 10 → sgI i = sgI j → i = j :=
  ten _ (ten _ (by decide) (by decide) (by decide) (by decide) (by decide) (by decide) (by decide) (by decide) (by decide) (by decide))
    (ten _ (by decide) (by decide) (by decide) (by decide) (by decide) (by decide) (by decide) (by decide) (by decide) (by decide))
    (ten _ (by decide) (by decide) (by decide) (by decide) (by decide) (by decide) (by decide) (by decide) (by decide) (by decide))
    (ten _ (by decide) (by decide) (by decide) (by decide) (by decide) (by decide) (by decide) (by decide) (by decide) (by decide))
    (ten _ (by decide) (by decide) (by decide) (by decide) (by decide) (by decide) (by decide) (by decide) (by decide) (by decide))
    (ten _ (by decide) (by decide) (by decide) (by decide) (by decide) (by decide) (by decide) (by decide) (by decide) (by decide))
    (ten _ (by decide) (by decide) (by decide) (by decide) (by decide) (by decide) (by decide) (by decide) (by decide) (by decide))
    (ten _ (by decide) (by decide) (by decide) (by decide) (by decide) (by decide) (by decide) (by decide) (by decide) (by decide))
    (ten _ (by decide) (by decide) (by decide) (by decide) (by decide) (by decide) (by decide) (by decide) (by decide) (by decide))
    (ten _ (by decide) (by decide) (by decide) (by decide) (by decide) (by decide) (by decide) (by decide) (by decide) (by decide))
theorem signIx_none : ∀ (f : Nat) (s : ByteArray), f ≤ 10 → (∀ j, 10 - f ≤ j → j < 10 → sgI j ≠ s) → signIx s f = none
  | 0, s, _, _ => rfl
  | f + 1, s, hf, h => by
    rw [signIx, if_neg (h (9 - f) (by omega) (by omega))]
    exact signIx_none f s (by omega) (fun j h1 h2 => h j (by omega) h2)
theorem signIx_at : ∀ (f i : Nat) (s : ByteArray), f ≤ 10 → 10 - f ≤ i → i < 10 → sgI i = s → (∀ j, 10 - f ≤ j → j < i → sgI j ≠ s) → signIx s f = some i
  | 0, i, s, _, h1, h2, _, _ => by omega
  | f + 1, i, s, hf, h1, h2, h3, h4 => by
    rw [signIx]
    by_cases he : 9 - f = i
    · rw [if_pos (by rw [he]; exact h3), he]
    · rw [if_neg (h4 (9 - f) (by omega) (by omega))]
      exact signIx_at f i s (by omega) (by omega) h2 h3 (fun j ha hb => h4 j (by omega) hb)
theorem signR_at {s : ByteArray} {i : Nat} (hi : i < 10) (h : sgI i = s) (hb : ∀ j, j < i → sgI j ≠ s) : signR s = (kI i, opI i) := by
  unfold signR
  rw [signIx_at 10 i s (Nat.le_refl _) (by omega) hi h (fun j _ hj => hb j hj)]
theorem signR_no {s : ByteArray} (h : ∀ j, j < 10 → sgI j ≠ s) : signR s = (-1, 0) := by
  unfold signR
  rw [signIx_none 10 s (Nat.le_refl _) (fun j _ hj => h j hj)]
theorem signR_sg : ∀ i, i < 10 → signR (sgI i) = (kI i, opI i) := fun i hi => signR_at hi rfl (fun j hj he => by
  have := sgI_inj j (by omega) i hi he
  omega)
theorem sgn_at : ∀ i, i < 10 → sgnB (opI i) = kI i ∧ sgnT (opI i) = sgI i :=
  ten _ (by decide) (by decide) (by decide) (by decide) (by decide) (by decide) (by decide) (by decide) (by decide) (by decide)
theorem sgn_no {op : Int} (h : ∀ j, j < 10 → opI j ≠ op) : sgn op = none := by
  unfold sgn
  rw [if_neg (fun e => h 0 (by omega) (by rw [e]; rfl))]
  rw [if_neg (fun e => h 1 (by omega) (by rw [e]; rfl))]
  rw [if_neg (fun e => h 2 (by omega) (by rw [e]; rfl))]
  rw [if_neg (fun e => h 3 (by omega) (by rw [e]; rfl))]
  rw [if_neg (fun e => h 4 (by omega) (by rw [e]; rfl))]
  rw [if_neg (fun e => h 5 (by omega) (by rw [e]; rfl))]
  rw [if_neg (fun e => h 6 (by omega) (by rw [e]; rfl))]
  rw [if_neg (fun e => h 7 (by omega) (by rw [e]; rfl))]
  rw [if_neg (fun e => h 8 (by omega) (by rw [e]; rfl))]
  rw [if_neg (fun e => h 9 (by omega) (by rw [e]; rfl))]
def signsA : Array Value := #[.string ⟨#[61, 61]⟩, .string ⟨#[60]⟩, .string ⟨#[43]⟩, .string ⟨#[45]⟩, .string ⟨#[124]⟩, .string ⟨#[94]⟩, .string ⟨#[42]⟩, .string ⟨#[47]⟩, .string ⟨#[37]⟩, .string ⟨#[38]⟩]
def opsA : Array Value := #[.int .i64 12, .int .i64 10, .int .i64 1, .int .i64 2, .int .i64 8, .int .i64 9, .int .i64 3, .int .i64 5, .int .i64 6, .int .i64 7]
theorem signsA_at : ∀ i, i < 10 → signsA[i]? = some (.string (sgI i)) := ten _ rfl rfl rfl rfl rfl rfl rfl rfl rfl rfl
theorem opsA_at : ∀ i, i < 10 → opsA[i]? = some (.int .i64 (opI i)) := ten _ rfl rfl rfl rfl rfl rfl rfl rfl rfl rfl
def SignRel (s : ByteArray) (w : World) (b0 : Nat) (i : Value) (wr : World) : Prop :=
  ∃ j : Nat, i = .int .i64 j ∧ j ≤ 10 ∧ Hid ((∀ k, k < j → sgI k ≠ s) ∧ Below w.heap.size w wr ∧ Blk wr b0 9 signsA ∧ Blk wr (b0 + 1) 2 opsA)
/-- what Sign answers -/
def SignOut (s : ByteArray) (w : World) (e : Ending) (w' : World) : Prop := e = .returned (.tuple #[.int .i64 (signR s).1, .int .i64 (signR s).2]) ∧ Below w.heap.size w w'
theorem signB_any (s : ByteArray) (w : World) : Calls Tryd.prog 50 #[.string s] w (SignOut s w) := by
  have K1 := Lib.hid ((Blk.new_ w 9 signsA).alloc (.cells opsA 2))
  have K2 : Hid (Blk ((w.alloc (.cells signsA 9)).alloc (.cells opsA 2)) (w.heap.size + 1) 2 opsA) := by
    have := Blk.new_ (w.alloc (.cells signsA 9)) 2 opsA
    rwa [World.size_alloc] at this
  go_enter Tryd.func50, Tryd.ntmps50
  go_wp2_with fail
  go_loopw [6] (fun i wr => SignRel s w w.heap.size i wr) (fun i _ => 10 - (intOf i).toNat)
  case atStart =>
    exact ⟨0, rfl, by omega, Lib.hid ⟨fun k hk => by omega, by (repeat (first | with_reducible assumption | with_reducible exact Below.refl _ _ | (refine Below.setCell ?_ (by first | omega | (simp; done) | (simp; omega)) _) | (refine Below.drewN_ ?_ _) | (refine Below.drew ?_) | (refine Below.alloc ?_ (by first | omega | (simp; done) | (simp; omega)) _))), K1.out, K2.out⟩⟩
  case round =>
    obtain ⟨j, rfl, hj, HX⟩ := hrel
    clear K1 K2
    by_cases hlt : j < 10
    · have hi : (j : Int) < 10 := by omega
      have z1 := HX.out.2.2.1.cell j (.string (sgI j)) (signsA_at j hlt)
      have z2 := HX.out.2.2.2.cell j (.int .i64 (opI j)) (opsA_at j hlt)
      have HB := Lib.hid HX.out.2.1
      rcases heq : ((sgI j).toList == s.toList) with _ | _
      · have HN : Hid (sgI j ≠ s) := by show _ ≠ _; intro e; rw [(n6_str_beq_iff' _ _).2 e] at heq; cases heq
        go_wp2
        go_roundw
        case rel => exact ⟨j + 1, by go_num, by omega, Lib.hid ⟨fun k hk => by
          by_cases hkj : k = j
          · subst hkj; exact HN.out
          · exact HX.out.1 k (by omega), HX.out.2⟩⟩
        case measure => (first | (simp [intOf]; done) | (simp [intOf]; omega))
      · have hse : sgI j = s := (n6_str_beq_iff' _ _).1 heq
        have HS : Hid (signR s = (kI j, opI j)) := signR_at hlt hse HX.out.1
        have HK : Hid (kI j = if j < 2 then 0 else if j < 6 then 1 else 2) := rfl
        clear hse
        generalize opI j = op at *
        by_cases h2 : j < 2
        · have d1 : decide ((j : Int) < 2) = true := by rw [decide_eq_true_eq]; omega
          have d2 : (j : Int) < 2 := by omega
          go_wp2_with fail
          go_quiet (fail)
          go_wp2_with fail
          go_ret2
          exact ⟨by rw [HS.out, HK.out, if_pos h2]; rfl, Below.drewN_ HB.out _⟩
        · have d1 : decide ((j : Int) < 2) = false := by rw [decide_eq_false_iff_not]; omega
          have d2 : ¬ (j : Int) < 2 := by omega
          by_cases h6 : j < 6
          · have d3 : decide ((j : Int) < 6) = true := by rw [decide_eq_true_eq]; omega
            have d4 : (j : Int) < 6 := by omega
            go_wp2_with fail
            go_quiet (fail)
            go_wp2_with fail
            go_ret2
            exact ⟨by rw [HS.out, HK.out, if_neg h2, if_pos h6]; rfl, Below.drewN_ HB.out _⟩
          · have d3 : decide ((j : Int) < 6) = false := by rw [decide_eq_false_iff_not]; omega
            have d4 : ¬ (j : Int) < 6 := by omega
            go_wp2_with fail
            go_quiet (fail)
            go_wp2_with fail
            go_ret2
            exact ⟨by rw [HS.out, HK.out, if_neg h2, if_neg h6]; rfl, Below.drewN_ HB.out _⟩
    · have hi : ¬ (j : Int) < 10 := by omega
      have ej : j = 10 := by omega
      have HS : Hid (signR s = (-1, 0)) := signR_no (fun k hk => HX.out.1 k (by omega))
      have HB := Lib.hid HX.out.2.1
      clear ej
      go_wp2
      go_ret2
      exact ⟨by rw [HS.out]; rfl, HB.out⟩
end Go.Proofs.YtgegfbopogcjpaaDoor
