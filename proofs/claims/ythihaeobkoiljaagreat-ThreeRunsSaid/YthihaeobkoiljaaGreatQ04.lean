/- Lemmas for the law. -/
import Derived.Test.YthihaeobkoiljaaGreatQ03
import Derived.Deep.RegionHeld3
import Derived.Deep.DrawnRows
import Derived.Deep.RegionWith
set_option linter.unusedVariables false
set_option linter.unusedSimpArgs false
set_option maxRecDepth 100000
set_option maxHeartbeats 40000000
namespace Go.Proofs.YthihaeobkoiljaaGreat
open Go.RowKit
theorem Blk.five {w : World} {m : Nat} {t : TypeId} {a0 a1 a2 a3 a4 : Value} (h : Blk w m t #[a0, a1, a2, a3, a4]) :
 w.cell? ⟨m, 0, none⟩ = some a0 ∧ w.cell? ⟨m, 1, none⟩ = some a1 ∧ w.cell? ⟨m, 2, none⟩ = some a2 ∧ w.cell? ⟨m, 3, none⟩ = some a3 ∧ w.cell? ⟨m, 4, none⟩ = some a4 :=
 ⟨h.cell 0 _ rfl, h.cell 1 _ rfl, h.cell 2 _ rfl, h.cell 3 _ rfl, h.cell 4 _ rfl⟩
theorem RepL.five {w : World} {ts : List Ty} {A : Option Addr} (h : RepL w ts A) {k : Nat} (hk : k < ts.length) :
 ∃ b o An cn Ap cp, A = some ⟨b, o, none⟩ ∧ b < w.heap.size ∧ Rep w ts[k] [.int .i64 ts[k].k, .string ts[k].nm, .slice An ts[k].ns.length cn, .slice Ap ts[k].ps.length cp, .bool ts[k].many] ∧
  (w.cell? ⟨b, o + k * 5, none⟩ = some (.int .i64 ts[k].k) ∧ w.cell? ⟨b, o + k * 5 + 1, none⟩ = some (.string ts[k].nm) ∧ w.cell? ⟨b, o + k * 5 + 2, none⟩ = some (.slice An ts[k].ns.length cn) ∧ w.cell? ⟨b, o + k * 5 + 3, none⟩ = some (.slice Ap ts[k].ps.length cp) ∧ w.cell? ⟨b, o + k * 5 + 4, none⟩ = some (.bool ts[k].many)) := by
 obtain ⟨b, o, cs, rfl, hbl, hc, hrep⟩ := RepL.at_ ts _ h k hk
 have hrep' := hrep
 obtain ⟨An, cn, Ap, cp, rfl, -, -⟩ := hrep'.five
 exact ⟨b, o, An, cn, Ap, cp, rfl, hbl, hrep, hc 0 _ rfl, hc 1 _ rfl, hc 2 _ rfl, hc 3 _ rfl, hc 4 _ rfl⟩
theorem keep5 {w w' : World} {b o : Nat} {a0 a1 a2 a3 a4 : Value} (hb : Below w.heap.size w w') (hl : b < w.heap.size)
 (h : w.cell? ⟨b, o, none⟩ = some a0 ∧ w.cell? ⟨b, o + 1, none⟩ = some a1 ∧ w.cell? ⟨b, o + 2, none⟩ = some a2 ∧ w.cell? ⟨b, o + 3, none⟩ = some a3 ∧ w.cell? ⟨b, o + 4, none⟩ = some a4) :
 w'.cell? ⟨b, o, none⟩ = some a0 ∧ w'.cell? ⟨b, o + 1, none⟩ = some a1 ∧ w'.cell? ⟨b, o + 2, none⟩ = some a2 ∧ w'.cell? ⟨b, o + 3, none⟩ = some a3 ∧ w'.cell? ⟨b, o + 4, none⟩ = some a4 :=
 ⟨(keep_cell hb hl).trans h.1, (keep_cell hb hl).trans h.2.1, (keep_cell hb hl).trans h.2.2.1, (keep_cell hb hl).trans h.2.2.2.1, (keep_cell hb hl).trans h.2.2.2.2⟩
theorem keep11 {w0 w w' : World} {m n o : Nat} {a0 a1 a2 a3 a4 b0 b1 b2 b3 b4 : Value} (hm : m < w0.heap.size) (hn : n < w0.heap.size)
 (h : Below w0.heap.size w0 w ∧ (w.cell? ⟨m, 0, none⟩ = some a0 ∧ w.cell? ⟨m, 1, none⟩ = some a1 ∧ w.cell? ⟨m, 2, none⟩ = some a2 ∧ w.cell? ⟨m, 3, none⟩ = some a3 ∧ w.cell? ⟨m, 4, none⟩ = some a4) ∧ w.cell? ⟨n, o, none⟩ = some b0 ∧ w.cell? ⟨n, o + 1, none⟩ = some b1 ∧ w.cell? ⟨n, o + 2, none⟩ = some b2 ∧ w.cell? ⟨n, o + 3, none⟩ = some b3 ∧ w.cell? ⟨n, o + 4, none⟩ = some b4)
 (hb : Below w.heap.size w w') : Below w0.heap.size w0 w' ∧ (w'.cell? ⟨m, 0, none⟩ = some a0 ∧ w'.cell? ⟨m, 1, none⟩ = some a1 ∧ w'.cell? ⟨m, 2, none⟩ = some a2 ∧ w'.cell? ⟨m, 3, none⟩ = some a3 ∧ w'.cell? ⟨m, 4, none⟩ = some a4) ∧ w'.cell? ⟨n, o, none⟩ = some b0 ∧ w'.cell? ⟨n, o + 1, none⟩ = some b1 ∧ w'.cell? ⟨n, o + 2, none⟩ = some b2 ∧ w'.cell? ⟨n, o + 3, none⟩ = some b3 ∧ w'.cell? ⟨n, o + 4, none⟩ = some b4 := by
 obtain ⟨h0, h1, h2⟩ := h
 have hs := h0.size
 have e := keep5 (o := 0) hb (show m < w.heap.size by omega) (by simpa using h1)
 exact ⟨h0.trans (hb.mono hs), by simpa using e, keep5 hb (by omega) h2⟩
def EvenR (T : Ty) : Prop := ∀ (cs : List Value) (w : World), Rep w T cs → Calls Tryz.prog 91 #[.agg cs.toArray] w fun e w' => e = .returned (.bool (sizeT T).2) ∧ Below w.heap.size w w'
def SizeR (T : Ty) : Prop := ∀ (cs : List Value) (w : World), Rep w T cs → Calls Tryz.prog 44 #[.agg cs.toArray] w fun e w' => e = .returned (.int .i64 ((sizeT T).1 : Int)) ∧ Below w.heap.size w w'
def EvRel (T : Ty) (w : World) (i : Value) (H : Nat) (bs : Array Value) (wr : World) : Prop := ∃ k : Nat, k ≤ T.ps.length ∧ i = .int .i64 k ∧ (∀ j (h : j < T.ps.length), j < k → (sizeT T.ps[j]).2 = false) ∧ Below w.heap.size w wr ∧ Blk wr H 34 bs
theorem even_other (T : Ty) (h3 : T.k ≠ 3) : EvenR T := by
 intro cs w hr
 obtain ⟨An, cn, Ap, cp, rfl, hN, hP⟩ := hr.five
 have e : (sizeT T).2 = (T.k == 2) := by
  rw [sizeT_eq]
  by_cases h2 : T.k = 2
  ·rw [if_pos h2, h2]; rfl
  ·rw [if_neg h2, if_neg h3]
   simpa using h2
 have HE := Lh e
 clear e
 have t3 : (T.k == 3) = false := by simpa using h3
 go_enter Tryz.func91, Tryz.ntmps91
 go_wp2
 go_ret
 exact ⟨by rw [HE.out]; rfl, bel⟩
theorem even_struct (T : Ty) (h3 : T.k = 3) (hl : T.ps.length ≤ 7) (IH : ∀ p ∈ T.ps, EvenR p) : EvenR T := by
 intro cs w hr
 obtain ⟨An, cn, Ap, cp, rfl, hN, hP⟩ := hr.five
 have e : Hid ((sizeT T).2 = (T.ps.map sizeT).any (·.2)) := by
  show _ = _
  rw [sizeT_eq, if_neg (by omega), if_pos h3]; rfl
 rw [h3]
 have k0 := Blk.new_ w 34 #[.int .i64 3, .string T.nm, .slice An T.ns.length cn, .slice Ap T.ps.length cp, .bool T.many]
 go_enter Tryz.func91, Tryz.ntmps91
 go_wp2
 go_loopw [3] (fun i wr => EvRel T w i w.heap.size #[.int .i64 3, .string T.nm, .slice An T.ns.length cn, .slice Ap T.ps.length cp, .bool T.many] wr) (fun i _ => T.ps.length - (intOf i).toNat)
 case atStart => exact ⟨0, Nat.zero_le _, rfl, fun j _ h => absurd h (by omega), bel, k0⟩
 case round =>
  clear k0
  obtain ⟨k, hk, rfl, hg, hb, k1⟩ := hrel
  have q := k1.five
  by_cases hlt : k < T.ps.length
  ·obtain ⟨b, o, An', cn', Ap', cp', rfl, hbl, hrep, hc⟩ := (RepL.keep hb T.ps _ hP).five hlt
   have hi : (k : Int) < (T.ps.length : Int) := by omega
   have hk7 : (k : Int) < 7 := by omega
   have hIH := Lh (IH _ (List.getElem_mem hlt))
   have HG := Lh hg
   clear hg
   have hno : (sizeT T.ps[k]).2 = true → (T.ps.map sizeT).any (·.2) = true := fun h => List.any_eq_true.2 ⟨_, List.mem_map.2 ⟨_, List.getElem_mem hlt, rfl⟩, h⟩
   have hyes : Hid ((sizeT T.ps[k]).2 = false → ∀ j (h : j < T.ps.length), j < k + 1 → (sizeT T.ps[j]).2 = false) := fun h0 j h hj => by
    rcases Nat.lt_or_ge j k with h1 | h1
    ·exact HG.out j h h1
    ·obtain rfl : j = k := by omega
     exact h0
   have HNO := Lh hno
   clear hno
   generalize hps : T.ps[k] = p at *
   clear hps
   go_wp2_with fail
   refine (hIH.out _ _ hrep).mono ?_
   rintro e w2 ⟨rfl, hb2⟩
   have b3 := hb.trans (hb2.mono hb.size)
   have k2 := k1.below hb2
   clear q hc k1
   have q := k2.five
   rcases hev : (sizeT p).2 with _ | _
   ·go_wp2
    go_roundw
    case rel => exact ⟨k + 1, by omega, by go_num, hyes.out hev, b3, k2⟩
    case measure => simp [intOf] <;> omega
   ·have hh := Lh (HNO.out hev)
    go_wp2
    go_ret
    exact ⟨by rw [e.out, hh.out]; rfl, b3⟩
  ·have hi : (T.ps.length : Int) ≤ (k : Int) := by omega
   have hh : Hid ((T.ps.map sizeT).any (·.2) = false) := by
    show _ = _
    rw [List.any_eq_false]
    intro x hx
    obtain ⟨p, hp, rfl⟩ := List.mem_map.1 hx
    obtain ⟨j, hj, rfl⟩ := List.getElem_of_mem hp
    rw [hg j hj (by omega)]
    decide
   clear hg
   go_wp2
   go_ret
   exact ⟨by rw [e.out, hh.out]; rfl, hb⟩
theorem even_all : ∀ (d : Nat) (T : Ty), mayT d T = true → EvenR T
 | 0, T, h => by cases h
 | d + 1, T, h => by
  by_cases h3 : T.k = 3
  ·exact even_struct T h3 (may_len h) fun p hp => even_all d p ((may_st h h3).2.2.2.1 p hp)
  ·exact even_other T h3
def plcR (T : Ty) (k : Nat) : Nat := if k < T.ps.length then plcZ (T.ps.map sizeT) k else (sizeT T).1
def PlaceR (T : Ty) (k : Nat) : Prop := ∀ (cs : List Value) (w : World), Rep w T cs → Calls Tryz.prog 71 #[.agg cs.toArray, .int .i64 (k : Int)] w fun e w' => e = .returned (.int .i64 (plcR T k : Int)) ∧ Below w.heap.size w w'
def PlRel (T : Ty) (k : Nat) (w : World) (a i : Value) (H : Nat) (bs : Array Value) (wr : World) : Prop :=
 ∃ j : Nat, j ≤ k ∧ i = .int .i64 j ∧ a = .int .i64 (endZ (T.ps.map sizeT) j : Int) ∧ Below w.heap.size w wr ∧ Blk wr H 34 bs
theorem endZ_91 {T : Ty} (hl : T.ps.length ≤ 7) (hm : ∀ p ∈ T.ps, (sizeT p).1 ≤ 12) {k : Nat} (hk : k ≤ T.ps.length) : endZ (T.ps.map sizeT) k ≤ 91 := by
 have := endZ_le (T.ps.map sizeT) 12 (fun j => by
  by_cases hj : j < T.ps.length
  ·simp [hj]
   exact hm _ (List.getElem_mem hj)
  ·simp [hj]) k
 omega
theorem wrap_small {a b : Int} (h1 : 0 ≤ a) (h2 : a ≤ 100000) (h3 : 0 ≤ b) (h4 : b ≤ 100000) : IntKind.i64.wrap (a + b) = a + b := by
 simp [IntKind.wrap, IntKind.min, IntKind.max, IntKind.signed, IntKind.bits]; omega
theorem place_any (T : Ty) (h3 : T.k = 3) (hl : T.ps.length ≤ 7) (hm : ∀ p ∈ T.ps, (sizeT p).1 ≤ 12) (hS : ∀ p ∈ T.ps, SizeR p) (hE : ∀ p ∈ T.ps, EvenR p) (hET : EvenR T) : ∀ (k : Nat), k ≤ T.ps.length → PlaceR T k := by
 intro k
 induction k using Nat.strongRecOn with
 | ind k IH =>
  intro hkl cs w hr
  have H3 := Lh h3
  clear h3
  have hr0 := hr
  obtain ⟨An, cn, Ap, cp, rfl, hN, hP⟩ := hr.five
  have HR := Lh hr0
  clear hr hr0
  have k0 := Blk.new_ w 34 #[.int .i64 T.k, .string T.nm, .slice An T.ns.length cn, .slice Ap T.ps.length cp, .bool T.many]
  have hk7 : (k : Int) ≤ 7 := by omega
  go_enter Tryz.func71, Tryz.ntmps71
  go_wp2
  go_loopw [5, 6] (fun a i wr => PlRel T k w a i w.heap.size #[.int .i64 T.k, .string T.nm, .slice An T.ns.length cn, .slice Ap T.ps.length cp, .bool T.many] wr) (fun _ i _ => k - (intOf i).toNat)
  case atStart => exact ⟨0, Nat.zero_le _, rfl, rfl, bel, k0⟩
  case round =>
   clear k0
   obtain ⟨j, hj, rfl, rfl, hb, k1⟩ := hrel
   have q := k1.five
   have hE91 := endZ_91 hl hm (Nat.le_trans hj hkl)
   by_cases hlt : j < k
   ·have hjl : j < T.ps.length := by omega
    obtain ⟨b, o, An', cn', Ap', cp', rfl, hbl, hrep, hc⟩ := (RepL.keep hb T.ps _ hP).five hjl
    have hi : (j : Int) < (k : Int) := by omega
    have hi2 : (j : Int) < (T.ps.length : Int) := by omega
    have hz12 := hm _ (List.getElem_mem hjl)
    have hz : (T.ps.map sizeT).getD j (0, false) = sizeT T.ps[j] := by simp [hjl]
    have hsucc := endZ_succ (T.ps.map sizeT) j
    rw [hz] at hsucc
    have hE91' := endZ_91 hl hm (show j + 1 ≤ T.ps.length by omega)
    have hplc : plcR T j = plcZ (T.ps.map sizeT) j := by unfold plcR; rw [if_pos hjl]
    have hIH := IH j hlt (by omega)
    have hSk := hS _ (List.getElem_mem hjl)
    clear hz
    generalize T.ps[j] = p at *
    have HPC : Hid (∀ W, (Below wr.heap.size wr W ∧ (W.cell? ⟨w.heap.size, 0, none⟩ = some (.int .i64 T.k) ∧ W.cell? ⟨w.heap.size, 1, none⟩ = some (.string T.nm) ∧ W.cell? ⟨w.heap.size, 2, none⟩ = some (.slice An T.ns.length cn) ∧ W.cell? ⟨w.heap.size, 3, none⟩ = some (.slice (some ⟨b, o, none⟩) T.ps.length cp) ∧ W.cell? ⟨w.heap.size, 4, none⟩ = some (.bool T.many)) ∧ W.cell? ⟨b, o + j * 5, none⟩ = some (.int .i64 p.k) ∧ W.cell? ⟨b, o + j * 5 + 1, none⟩ = some (.string p.nm) ∧ W.cell? ⟨b, o + j * 5 + 2, none⟩ = some (.slice An' p.ns.length cn') ∧ W.cell? ⟨b, o + j * 5 + 3, none⟩ = some (.slice Ap' p.ps.length cp') ∧ W.cell? ⟨b, o + j * 5 + 4, none⟩ = some (.bool p.many)) → Calls Tryz.prog 71 #[.agg #[.int .i64 T.k, .string T.nm, .slice An T.ns.length cn, .slice (some ⟨b, o, none⟩) T.ps.length cp, .bool T.many], .int .i64 (j : Int)] W fun e w' => e = .returned (.int .i64 (plcZ (T.ps.map sizeT) j : Int)) ∧ Below W.heap.size W w') := fun W hW => by
     have h := hIH _ W (Rep.keep (hb.trans (hW.1.mono hb.size)) _ _ HR.out)
     rw [hplc] at h
     exact h
    have HSZ : Hid (∀ W, (Below wr.heap.size wr W ∧ (W.cell? ⟨w.heap.size, 0, none⟩ = some (.int .i64 T.k) ∧ W.cell? ⟨w.heap.size, 1, none⟩ = some (.string T.nm) ∧ W.cell? ⟨w.heap.size, 2, none⟩ = some (.slice An T.ns.length cn) ∧ W.cell? ⟨w.heap.size, 3, none⟩ = some (.slice (some ⟨b, o, none⟩) T.ps.length cp) ∧ W.cell? ⟨w.heap.size, 4, none⟩ = some (.bool T.many)) ∧ W.cell? ⟨b, o + j * 5, none⟩ = some (.int .i64 p.k) ∧ W.cell? ⟨b, o + j * 5 + 1, none⟩ = some (.string p.nm) ∧ W.cell? ⟨b, o + j * 5 + 2, none⟩ = some (.slice An' p.ns.length cn') ∧ W.cell? ⟨b, o + j * 5 + 3, none⟩ = some (.slice Ap' p.ps.length cp') ∧ W.cell? ⟨b, o + j * 5 + 4, none⟩ = some (.bool p.many)) → Calls Tryz.prog 44 #[.agg #[.int .i64 p.k, .string p.nm, .slice An' p.ns.length cn', .slice Ap' p.ps.length cp', .bool p.many]] W fun e w' => e = .returned (.int .i64 ((sizeT p).1 : Int)) ∧ Below W.heap.size W w') := fun W hW =>
     hSk _ W (Rep.keep hW.1 _ _ hrep)
    clear hIH hSk hplc
    have hl0 : w.heap.size < wr.heap.size := k1.lt
    have hsucc' := Lh hsucc
    have hwr : IntKind.i64.wrap ((plcZ (T.ps.map sizeT) j : Int) + ((sizeT p).1 : Int)) = (plcZ (T.ps.map sizeT) j : Int) + ((sizeT p).1 : Int) := wrap_small (by omega) (by omega) (by omega) (by omega)
    clear hsucc
    generalize (sizeT p).1 = z at *
    generalize plcZ (T.ps.map sizeT) j = P at *
    go_wp2_with fail
    go_region_held3 (fun W => Below wr.heap.size wr W ∧ (W.cell? ⟨w.heap.size, 0, none⟩ = some (.int .i64 T.k) ∧ W.cell? ⟨w.heap.size, 1, none⟩ = some (.string T.nm) ∧ W.cell? ⟨w.heap.size, 2, none⟩ = some (.slice An T.ns.length cn) ∧ W.cell? ⟨w.heap.size, 3, none⟩ = some (.slice (some ⟨b, o, none⟩) T.ps.length cp) ∧ W.cell? ⟨w.heap.size, 4, none⟩ = some (.bool T.many)) ∧ W.cell? ⟨b, o + j * 5, none⟩ = some (.int .i64 p.k) ∧ W.cell? ⟨b, o + j * 5 + 1, none⟩ = some (.string p.nm) ∧ W.cell? ⟨b, o + j * 5 + 2, none⟩ = some (.slice An' p.ns.length cn') ∧ W.cell? ⟨b, o + j * 5 + 3, none⟩ = some (.slice Ap' p.ps.length cp') ∧ W.cell? ⟨b, o + j * 5 + 4, none⟩ = some (.bool p.many)) (first | exact ⟨(Below.refl _ _).drew, q, hc⟩ | exact keep11 hl0 hbl (by assumption) hbq | exact ⟨Below.drew (And.left (by assumption)), And.right (by assumption)⟩ | go_keep) (first | (go_at_call 71; ((with_reducible refine (HPC.out _ (by assumption)).mono ?_); rintro e w' ⟨rfl, hbq⟩)) | (go_at_call 44; ((with_reducible refine (HSZ.out _ (by assumption)).mono ?_); rintro e w' ⟨rfl, hbq⟩)))
    all_goals
     rename_i hh
     have hbf := hb.trans (hh.1.mono hb.size)
     have k2 := k1.below hh.1
     clear q hc
     have q := k2.five
     go_wp2
     go_roundw
     case rel => exact ⟨j + 1, by omega, by go_num, by rw [hsucc'.out]; go_num, hbf, k2⟩
     case measure => simp [intOf] <;> omega
   ·obtain rfl : j = k := by omega
    have hEI : (endZ (T.ps.map sizeT) j : Int) ≤ 91 := by omega
    have hin : ¬ (j : Int) < (j : Int) := by omega
    by_cases hjl : j < T.ps.length
    ·obtain ⟨b, o, An', cn', Ap', cp', rfl, hbl, hrep, hc⟩ := (RepL.keep hb T.ps _ hP).five hjl
     have hi2 : (j : Int) < (T.ps.length : Int) := by omega
     have hev := Lh (hE _ (List.getElem_mem hjl))
     have hz : (T.ps.map sizeT).getD j (0, false) = sizeT T.ps[j] := by simp [hjl]
     have hplc : plcR T j = if (sizeT T.ps[j]).2 then endZ (T.ps.map sizeT) j + endZ (T.ps.map sizeT) j % 2 else endZ (T.ps.map sizeT) j := by unfold plcR plcZ; rw [if_pos hjl, hz]
     have HPL := Lh hplc
     clear hz hplc
     generalize T.ps[j] = p at *
     generalize endZ (T.ps.map sizeT) j = E at *
     go_wp2_with fail
     refine (hev.out _ _ hrep).mono ?_
     rintro e w2 ⟨rfl, hb2⟩
     have b3 := hb.trans (hb2.mono hb.size)
     have k2 := k1.below hb2
     clear q hc k1
     have q := k2.five
     rcases hevv : (sizeT p).2 with _ | _
     ·have hf : Hid (plcR T j = E) := by have := HPL.out; rw [hevv] at this; show _ = _; simpa using this
      clear HPL
      go_wp2
      go_ret
      exact ⟨by rw [hf.out]; rfl, b3⟩
     ·have hf : plcR T j = E + E % 2 := by have := HPL.out; rw [hevv] at this; simpa using this
      clear HPL
      rcases Nat.mod_two_eq_zero_or_one E with h0 | h0
      ·have t : ((E : Int) % 2 == 1) = false := by simp; omega
       have hf' : Hid (plcR T j = E) := by show _ = _; omega
       clear hf h0
       go_wp2
       go_ret
       exact ⟨by rw [hf'.out]; rfl, b3⟩
      ·have t : ((E : Int) % 2 == 1) = true := by simp; omega
       have hf' : Hid (plcR T j = E + 1) := by show _ = _; omega
       clear hf h0
       go_wp2
       go_ret
       exact ⟨by rw [hf'.out]; rfl, b3⟩
    ·have hi2 : ¬ (j : Int) < (T.ps.length : Int) := by omega
     have hi3 : (T.ps.length : Int) ≤ (j : Int) := by omega
     have hje : j = T.ps.length := by omega
     have hsz : (sizeT T) = sizeZ (T.ps.map sizeT) := by rw [sizeT_eq, if_neg (by rw [H3.out]; decide), if_pos H3.out]
     have hplc : plcR T j = if (sizeT T).2 then endZ (T.ps.map sizeT) j + endZ (T.ps.map sizeT) j % 2 else endZ (T.ps.map sizeT) j := by
      unfold plcR
      rw [if_neg hjl, hsz]
      unfold sizeZ
      rw [List.length_map, ← hje]
     have HPL := Lh hplc
     have HET := Lh hET
     clear hplc hsz hje hET
     generalize endZ (T.ps.map sizeT) j = E at *
     go_wp2_with fail
     refine (HET.out _ _ (Rep.keep hb _ _ HR.out)).mono ?_
     rintro e w2 ⟨rfl, hb2⟩
     have b3 := hb.trans (hb2.mono hb.size)
     have k2 := k1.below hb2
     clear q k1
     have q := k2.five
     rcases hevv : (sizeT T).2 with _ | _
     ·have hf : Hid (plcR T j = E) := by have := HPL.out; rw [hevv] at this; show _ = _; simpa using this
      clear HPL
      go_wp2
      go_ret
      exact ⟨by rw [hf.out]; rfl, b3⟩
     ·have hf : plcR T j = E + E % 2 := by have := HPL.out; rw [hevv] at this; simpa using this
      clear HPL
      rcases Nat.mod_two_eq_zero_or_one E with h0 | h0
      ·have t : ((E : Int) % 2 == 1) = false := by simp; omega
       have hf' : Hid (plcR T j = E) := by show _ = _; omega
       clear hf h0
       go_wp2
       go_ret
       exact ⟨by rw [hf'.out]; rfl, b3⟩
      ·have t : ((E : Int) % 2 == 1) = true := by simp; omega
       have hf' : Hid (plcR T j = E + 1) := by show _ = _; omega
       clear hf h0
       go_wp2
       go_ret
       exact ⟨by rw [hf'.out]; rfl, b3⟩
theorem sizeR_other (T : Ty) (h3 : T.k ≠ 3) : SizeR T := by
 intro cs w hr
 obtain ⟨An, cn, Ap, cp, rfl, hN, hP⟩ := hr.five
 by_cases h2 : T.k = 2
 ·have e : Hid ((sizeT T).1 = 2) := by show _ = _; rw [sizeT_eq, if_pos h2]
  rw [h2]
  go_enter Tryz.func44, Tryz.ntmps44
  go_wp2
  go_ret
  exact ⟨by rw [e.out]; rfl, bel⟩
 ·have e : Hid ((sizeT T).1 = 1) := by show _ = _; rw [sizeT_eq, if_neg h2, if_neg h3]
  have t2 : (T.k == 2) = false := by simpa using h2
  have t3 : (T.k == 3) = false := by simpa using h3
  go_enter Tryz.func44, Tryz.ntmps44
  go_wp2
  go_ret
  exact ⟨by rw [e.out]; rfl, bel⟩
theorem sizeR_struct (T : Ty) (h3 : T.k = 3) (hpl : PlaceR T T.ps.length) : SizeR T := by
 intro cs w hr
 have hr0 := hr
 obtain ⟨An, cn, Ap, cp, rfl, hN, hP⟩ := hr.five
 have HR := Lh hr0
 have e : Hid (plcR T T.ps.length = (sizeT T).1) := by show _ = _; unfold plcR; rw [if_neg (by omega)]
 have HP : Hid (∀ (cs : List Value) (w : World), Rep w T cs → Calls Tryz.prog 71 #[.agg cs.toArray, .int .i64 ((T.ps.length : Nat) : Int)] w fun e w' => e = .returned (.int .i64 (plcR T T.ps.length : Int)) ∧ Below w.heap.size w w') := hpl
 clear hr hr0 hpl
 rw [h3] at HR ⊢
 go_enter Tryz.func44, Tryz.ntmps44
 go_wp2_with fail
 with_reducible refine (HP.out _ _ (Rep.keep (bel) _ _ HR.out)).mono ?_
 rintro e' w2 ⟨rfl, hb2⟩
 rw [e.out]
 go_wp2
 go_ret
 exact ⟨rfl, Below.trans (bel) (hb2.mono (by simp))⟩
theorem sizeR_all : ∀ (d : Nat) (T : Ty), mayT d T = true → SizeR T
 | 0, T, h => by cases h
 | d + 1, T, h => by
  by_cases h3 : T.k = 3
  ·have hp := (may_st h h3).2.2.2.1
   exact sizeR_struct T h3 (place_any T h3 (may_len h) (fun p hpp => (sized_of_may d p (hp p hpp)).2) (fun p hpp => sizeR_all d p (hp p hpp)) (fun p hpp => even_all d p (hp p hpp)) (even_all (d + 1) T h) _ (Nat.le_refl _))
  ·exact sizeR_other T h3
theorem Row.take_ {w : World} {A : Option Addr} {l : List Value} (h : Row w A l) (j : Nat) : Row w A (l.take j) := by
 rcases h with h | ⟨b, o, hA, hlt, hc⟩
 ·exact .inl (by rw [h]; simp)
 ·exact .inr ⟨b, o, hA, hlt, fun i v hi => by
   rw [List.getElem?_take] at hi
   split at hi
   ·exact hc i v hi
   ·cases hi⟩
theorem keep6 {w0 w w' : World} {m n o : Nat} {a0 a1 a2 a3 a4 b0 : Value} (hm : m < w0.heap.size) (hn : n < w0.heap.size)
 (h : Below w0.heap.size w0 w ∧ (w.cell? ⟨m, 0, none⟩ = some a0 ∧ w.cell? ⟨m, 1, none⟩ = some a1 ∧ w.cell? ⟨m, 2, none⟩ = some a2 ∧ w.cell? ⟨m, 3, none⟩ = some a3 ∧ w.cell? ⟨m, 4, none⟩ = some a4) ∧ w.cell? ⟨n, o, none⟩ = some b0)
 (hb : Below w.heap.size w w') : Below w0.heap.size w0 w' ∧ (w'.cell? ⟨m, 0, none⟩ = some a0 ∧ w'.cell? ⟨m, 1, none⟩ = some a1 ∧ w'.cell? ⟨m, 2, none⟩ = some a2 ∧ w'.cell? ⟨m, 3, none⟩ = some a3 ∧ w'.cell? ⟨m, 4, none⟩ = some a4) ∧ w'.cell? ⟨n, o, none⟩ = some b0 := by
 obtain ⟨h0, h1, h2⟩ := h
 have hs := h0.size
 have e := keep5 (o := 0) hb (show m < w.heap.size by omega) (by simpa using h1)
 exact ⟨h0.trans (hb.mono hs), by simpa using e, (keep_cell hb (by omega)).trans h2⟩
theorem may_parts {d : Nat} {T : Ty} (h : mayT (d + 1) T = true) : ∀ p ∈ T.ps, mayT d p = true := by
 rcases may_kind h with k | k | k | k
 ·rw [(may_leaf h (.inl k)).2.2.1]; intro p hp; cases hp
 ·rw [(may_leaf h (.inr k)).2.2.1]; intro p hp; cases hp
 ·exact (may_st h k).2.2.2.1
 ·exact (may_fn h k).2.2.2
theorem may_names {d : Nat} {T : Ty} (h : mayT (d + 1) T = true) : T.ns.length ≤ 6 := by
 rcases may_kind h with k | k | k | k
 ·rw [(may_leaf h (.inl k)).2.1]; simp
 ·rw [(may_leaf h (.inr k)).2.1]; simp
 ·have h' := h
  unfold mayT at h'
  rw [if_neg (by omega), if_pos k] at h'
  simp only [Bool.and_eq_true, decide_eq_true_eq, beq_iff_eq] at h'
  omega
 ·rw [(may_fn h k).2.1]; simp
def MayR (d : Nat) (T : Ty) : Prop := ∀ (cs : List Value) (w : World), Rep w T cs → Calls Tryz.prog 76 #[.agg cs.toArray, .int .i64 (d : Int)] w fun e w' => e = .returned (.bool (mayT d T)) ∧ Below w.heap.size w w'
def MayRel (d : Nat) (T : Ty) (w : World) (i : Value) (H : Nat) (bs : Array Value) (wr : World) : Prop :=
 ∃ k : Nat, k ≤ T.ps.length ∧ i = .int .i64 k ∧ (∀ j (h : j < T.ps.length), j < k → mayT d T.ps[j] = true) ∧ Below w.heap.size w wr ∧ Blk wr H 34 bs
def NamesRel (T : Ty) (w : World) (i : Value) (H : Nat) (bs : Array Value) (wr : World) : Prop :=
 ∃ j : Nat, j ≤ T.ps.length ∧ i = .int .i64 j ∧ (∀ i (h : i < T.ns.length), i < j → nameOf T.ns[i] = true) ∧ (T.ns.take j).Nodup ∧ Below w.heap.size w wr ∧ Blk wr H 34 bs
theorem mayR_fn (d : Nat) (hd : d ≤ 50) (T : Ty) (H3 : Hid (T.k = 4)) (h7 : T.ps.length ≤ 7) (h6 : T.ns.length ≤ 6) (IH : ∀ p ∈ T.ps, MayR d p) (An : Option Addr) (cn : Nat) (Ap : Option Addr) (cp : Nat) (w : World)
 (hr : Rep w T [.int .i64 4, .string T.nm, .slice An T.ns.length cn, .slice Ap T.ps.length cp, .bool T.many]) : Calls Tryz.prog 76 #[.agg #[.int .i64 4, .string T.nm, .slice An T.ns.length cn, .slice Ap T.ps.length cp, .bool T.many], .int .i64 ((d + 1 : Nat) : Int)] w fun e w' => e = .returned (.bool (mayT (d + 1) T)) ∧ Below w.heap.size w w' := by
 have hcapN := hr.capN
 obtain ⟨An', cn', Ap', cp', he, hN, hP⟩ := hr.five
 simp at he
 obtain ⟨-, ⟨rfl, rfl⟩, rfl, rfl⟩ := he
 have d0 : ¬ ((d : Int) + 1 < 1) := by omega
 have k0 := Blk.new_ w 34 #[.int .i64 4, .string T.nm, .slice An T.ns.length cn, .slice Ap T.ps.length cp, .bool T.many]
 have hl7 : ¬ (7 < (T.ps.length : Int)) := by omega
 have hl6 : ¬ (6 < (T.ns.length : Int)) := by omega
 go_enter Tryz.func76, Tryz.ntmps76
 go_wp2
 go_loopw [5] (fun i wr => MayRel d T w i w.heap.size #[.int .i64 4, .string T.nm, .slice An T.ns.length cn, .slice Ap T.ps.length cp, .bool T.many] wr) (fun i _ => T.ps.length - (intOf i).toNat)
 case atStart => exact ⟨0, Nat.zero_le _, rfl, fun j _ h => absurd h (by omega), bel, k0⟩
 case round =>
  clear k0
  obtain ⟨k, hk, rfl, hg, hb, k1⟩ := hrel
  have q := k1.five
  by_cases hlt : k < T.ps.length
  ·obtain ⟨b, o, An', cn', Ap', cp', rfl, hbl, hrep, hc⟩ := (RepL.keep hb T.ps _ hP).five hlt
   have hi : (k : Int) < (T.ps.length : Int) := by omega
   have hk7 : (k : Int) < 7 := by omega
   have hIH := Lh (IH _ (List.getElem_mem hlt))
   have HG := Lh hg
   clear hg
   have HNO : Hid (mayT d T.ps[k] = false → mayT (d + 1) T = false) := fun h => by
    rcases h0 : mayT (d + 1) T with _ | _
    ·rfl
    ·rw [may_parts h0 _ (List.getElem_mem hlt)] at h; cases h
   have HYES : Hid (mayT d T.ps[k] = true → ∀ j (h : j < T.ps.length), j < k + 1 → mayT d T.ps[j] = true) := fun h0 j h hj => by
    rcases Nat.lt_or_ge j k with h1 | h1
    ·exact HG.out j h h1
    ·obtain rfl : j = k := by omega
     exact h0
   generalize hps : T.ps[k] = p at *
   clear hps
   go_wp2_with fail
   refine (hIH.out _ _ hrep).mono ?_
   rintro e w2 ⟨rfl, hb2⟩
   have b3 := hb.trans (hb2.mono hb.size)
   have k2 := k1.below hb2
   clear q hc k1
   have q := k2.five
   rcases hev : mayT d p with _ | _
   ·have hh := Lh (HNO.out hev)
    go_wp2
    go_ret
    exact ⟨by rw [hh.out]; rfl, b3⟩
   ·go_wp2
    go_roundw
    case rel => exact ⟨k + 1, by omega, by go_num, HYES.out hev, b3, k2⟩
    case measure => simp [intOf] <;> omega
  ·have hi : (T.ps.length : Int) ≤ (k : Int) := by omega
   have hall : Hid (∀ p ∈ T.ps, mayT d p = true) := fun p hp => by
    obtain ⟨j, hj, rfl⟩ := List.getElem_of_mem hp
    exact hg j hj (by omega)
   clear hg
   have hn : Hid (mayT (d + 1) T = (bareT T && partsT d 1 7 T.ps)) := by
    show _ = _
    unfold mayT; rw [if_neg (by rw [H3.out]; decide), if_neg (by rw [H3.out]; decide), if_pos H3.out]; rfl
   obtain rfl : k = T.ps.length := by omega
   rcases hnm : T.nm.toList.isEmpty with _ | _
   ·have t1 : ¬ (T.nm.toList = []) := by simpa using hnm
    have hf : Hid (mayT (d + 1) T = false) := by show _ = _; rw [hn.out]; simp [bareT, hnm]
    go_wp2
    go_ret
    exact ⟨by rw [hf.out]; rfl, hb⟩
   ·have t1 : T.nm.toList = [] := by simpa using hnm
    by_cases h0 : T.ns.length = 0
    ·have hbt : Hid (bareT T = true) := by show _ = _; simp [bareT, t1, h0]
     have g0 : ¬ (0 < (T.ns.length : Int)) := by omega
     clear h0
     by_cases hn1 : 1 ≤ T.ps.length
     ·have hf : Hid (mayT (d + 1) T = true) := by
       show _ = _
       rw [hn.out, hbt.out]
       simp only [partsT, Bool.true_and, Bool.and_eq_true, List.all_eq_true, decide_eq_true_eq]
       exact ⟨⟨hn1, h7⟩, hall.out⟩
      have g1 : (1 : Int) ≤ (T.ps.length : Int) := by omega
      go_wp2
      go_ret
      exact ⟨by rw [hf.out]; first | rfl | simp, hb⟩
     ·have hf : Hid (mayT (d + 1) T = false) := by show _ = _; rw [hn.out]; simp [partsT, hn1]
      have g1 : ¬ (1 : Int) ≤ (T.ps.length : Int) := by omega
      go_wp2
      go_ret
      exact ⟨by rw [hf.out]; first | rfl | simp; try omega, hb⟩
    ·have g0 : (0 < (T.ns.length : Int)) := by omega
     have hf : Hid (mayT (d + 1) T = false) := by show _ = _; rw [hn.out]; simp [bareT, h0]
     clear h0
     go_wp2
     go_ret
     exact ⟨by rw [hf.out]; rfl, hb⟩
theorem mayR_other (d : Nat) (hd : d ≤ 50) (T : Ty) (HO : Hid (T.k ≠ 1 ∧ T.k ≠ 2 ∧ T.k ≠ 3 ∧ T.k ≠ 4)) (t1 : (T.k == 1) = false) (t2 : (T.k == 2) = false) (t3 : (T.k == 3) = false) (t4 : (T.k == 4) = false) (h7 : T.ps.length ≤ 7) (h6 : T.ns.length ≤ 6) (IH : ∀ p ∈ T.ps, MayR d p) (An : Option Addr) (cn : Nat) (Ap : Option Addr) (cp : Nat) (w : World)
 (hr : Rep w T [.int .i64 T.k, .string T.nm, .slice An T.ns.length cn, .slice Ap T.ps.length cp, .bool T.many]) : Calls Tryz.prog 76 #[.agg #[.int .i64 T.k, .string T.nm, .slice An T.ns.length cn, .slice Ap T.ps.length cp, .bool T.many], .int .i64 ((d + 1 : Nat) : Int)] w fun e w' => e = .returned (.bool (mayT (d + 1) T)) ∧ Below w.heap.size w w' := by
 have hcapN := hr.capN
 obtain ⟨An', cn', Ap', cp', he, hN, hP⟩ := hr.five
 simp at he
 obtain ⟨⟨rfl, rfl⟩, rfl, rfl⟩ := he
 have d0 : ¬ ((d : Int) + 1 < 1) := by omega
 have k0 := Blk.new_ w 34 #[.int .i64 T.k, .string T.nm, .slice An T.ns.length cn, .slice Ap T.ps.length cp, .bool T.many]
 have hl7 : ¬ (7 < (T.ps.length : Int)) := by omega
 have hl6 : ¬ (6 < (T.ns.length : Int)) := by omega
 go_enter Tryz.func76, Tryz.ntmps76
 go_wp2
 go_loopw [5] (fun i wr => MayRel d T w i w.heap.size #[.int .i64 T.k, .string T.nm, .slice An T.ns.length cn, .slice Ap T.ps.length cp, .bool T.many] wr) (fun i _ => T.ps.length - (intOf i).toNat)
 case atStart => exact ⟨0, Nat.zero_le _, rfl, fun j _ h => absurd h (by omega), bel, k0⟩
 case round =>
  clear k0
  obtain ⟨k, hk, rfl, hg, hb, k1⟩ := hrel
  have q := k1.five
  by_cases hlt : k < T.ps.length
  ·obtain ⟨b, o, An', cn', Ap', cp', rfl, hbl, hrep, hc⟩ := (RepL.keep hb T.ps _ hP).five hlt
   have hi : (k : Int) < (T.ps.length : Int) := by omega
   have hk7 : (k : Int) < 7 := by omega
   have hIH := Lh (IH _ (List.getElem_mem hlt))
   have HG := Lh hg
   clear hg
   have HNO : Hid (mayT d T.ps[k] = false → mayT (d + 1) T = false) := fun h => by
    rcases h0 : mayT (d + 1) T with _ | _
    ·rfl
    ·rw [may_parts h0 _ (List.getElem_mem hlt)] at h; cases h
   have HYES : Hid (mayT d T.ps[k] = true → ∀ j (h : j < T.ps.length), j < k + 1 → mayT d T.ps[j] = true) := fun h0 j h hj => by
    rcases Nat.lt_or_ge j k with h1 | h1
    ·exact HG.out j h h1
    ·obtain rfl : j = k := by omega
     exact h0
   generalize hps : T.ps[k] = p at *
   clear hps
   go_wp2_with fail
   refine (hIH.out _ _ hrep).mono ?_
   rintro e w2 ⟨rfl, hb2⟩
   have b3 := hb.trans (hb2.mono hb.size)
   have k2 := k1.below hb2
   clear q hc k1
   have q := k2.five
   rcases hev : mayT d p with _ | _
   ·have hh := Lh (HNO.out hev)
    go_wp2
    go_ret
    exact ⟨by rw [hh.out]; rfl, b3⟩
   ·go_wp2
    go_roundw
    case rel => exact ⟨k + 1, by omega, by go_num, HYES.out hev, b3, k2⟩
    case measure => simp [intOf] <;> omega
  ·have hi : (T.ps.length : Int) ≤ (k : Int) := by omega
   have hall : Hid (∀ p ∈ T.ps, mayT d p = true) := fun p hp => by
    obtain ⟨j, hj, rfl⟩ := List.getElem_of_mem hp
    exact hg j hj (by omega)
   clear hg
   have hn : Hid (mayT (d + 1) T = (bareT T && false)) := by
    show _ = _
    obtain ⟨a1, a2, a3, a4⟩ := HO.out
    unfold mayT; rw [if_neg (by omega), if_neg a3, if_neg a4]; simp
   obtain rfl : k = T.ps.length := by omega
   rcases hnm : T.nm.toList.isEmpty with _ | _
   ·have t1 : ¬ (T.nm.toList = []) := by simpa using hnm
    have hf : Hid (mayT (d + 1) T = false) := by show _ = _; rw [hn.out]; simp [bareT, hnm]
    go_wp2
    go_ret
    exact ⟨by rw [hf.out]; rfl, hb⟩
   ·have t1 : T.nm.toList = [] := by simpa using hnm
    by_cases h0 : T.ns.length = 0
    ·have hbt : Hid (bareT T = true) := by show _ = _; simp [bareT, t1, h0]
     have g0 : ¬ (0 < (T.ns.length : Int)) := by omega
     clear h0
     have hf : Hid (mayT (d + 1) T = false) := by show _ = _; rw [hn.out]; simp
     go_wp2
     go_ret
     exact ⟨by rw [hf.out]; rfl, hb⟩
    ·have g0 : (0 < (T.ns.length : Int)) := by omega
     have hf : Hid (mayT (d + 1) T = false) := by show _ = _; rw [hn.out]; simp [bareT, h0]
     clear h0
     go_wp2
     go_ret
     exact ⟨by rw [hf.out]; rfl, hb⟩
theorem mayR_1 (d : Nat) (hd : d ≤ 50) (T : Ty) (H12 : Hid (T.k = 1 ∨ T.k = 2)) (h7 : T.ps.length ≤ 7) (h6 : T.ns.length ≤ 6) (IH : ∀ p ∈ T.ps, MayR d p) (An : Option Addr) (cn : Nat) (Ap : Option Addr) (cp : Nat) (w : World)
 (hr : Rep w T [.int .i64 1, .string T.nm, .slice An T.ns.length cn, .slice Ap T.ps.length cp, .bool T.many]) : Calls Tryz.prog 76 #[.agg #[.int .i64 1, .string T.nm, .slice An T.ns.length cn, .slice Ap T.ps.length cp, .bool T.many], .int .i64 ((d + 1 : Nat) : Int)] w fun e w' => e = .returned (.bool (mayT (d + 1) T)) ∧ Below w.heap.size w w' := by
 have hcapN := hr.capN
 obtain ⟨An', cn', Ap', cp', he, hN, hP⟩ := hr.five
 simp at he
 obtain ⟨-, ⟨rfl, rfl⟩, rfl, rfl⟩ := he
 have d0 : ¬ ((d : Int) + 1 < 1) := by omega
 have k0 := Blk.new_ w 34 #[.int .i64 1, .string T.nm, .slice An T.ns.length cn, .slice Ap T.ps.length cp, .bool T.many]
 have hl7 : ¬ (7 < (T.ps.length : Int)) := by omega
 have hl6 : ¬ (6 < (T.ns.length : Int)) := by omega
 go_enter Tryz.func76, Tryz.ntmps76
 go_wp2
 go_loopw [5] (fun i wr => MayRel d T w i w.heap.size #[.int .i64 1, .string T.nm, .slice An T.ns.length cn, .slice Ap T.ps.length cp, .bool T.many] wr) (fun i _ => T.ps.length - (intOf i).toNat)
 case atStart => exact ⟨0, Nat.zero_le _, rfl, fun j _ h => absurd h (by omega), bel, k0⟩
 case round =>
  clear k0
  obtain ⟨k, hk, rfl, hg, hb, k1⟩ := hrel
  have q := k1.five
  by_cases hlt : k < T.ps.length
  ·obtain ⟨b, o, An', cn', Ap', cp', rfl, hbl, hrep, hc⟩ := (RepL.keep hb T.ps _ hP).five hlt
   have hi : (k : Int) < (T.ps.length : Int) := by omega
   have hk7 : (k : Int) < 7 := by omega
   have hIH := Lh (IH _ (List.getElem_mem hlt))
   have HG := Lh hg
   clear hg
   have HNO : Hid (mayT d T.ps[k] = false → mayT (d + 1) T = false) := fun h => by
    rcases h0 : mayT (d + 1) T with _ | _
    ·rfl
    ·rw [may_parts h0 _ (List.getElem_mem hlt)] at h; cases h
   have HYES : Hid (mayT d T.ps[k] = true → ∀ j (h : j < T.ps.length), j < k + 1 → mayT d T.ps[j] = true) := fun h0 j h hj => by
    rcases Nat.lt_or_ge j k with h1 | h1
    ·exact HG.out j h h1
    ·obtain rfl : j = k := by omega
     exact h0
   generalize hps : T.ps[k] = p at *
   clear hps
   go_wp2_with fail
   refine (hIH.out _ _ hrep).mono ?_
   rintro e w2 ⟨rfl, hb2⟩
   have b3 := hb.trans (hb2.mono hb.size)
   have k2 := k1.below hb2
   clear q hc k1
   have q := k2.five
   rcases hev : mayT d p with _ | _
   ·have hh := Lh (HNO.out hev)
    go_wp2
    go_ret
    exact ⟨by rw [hh.out]; rfl, b3⟩
   ·go_wp2
    go_roundw
    case rel => exact ⟨k + 1, by omega, by go_num, HYES.out hev, b3, k2⟩
    case measure => simp [intOf] <;> omega
  ·have hi : (T.ps.length : Int) ≤ (k : Int) := by omega
   have hall : Hid (∀ p ∈ T.ps, mayT d p = true) := fun p hp => by
    obtain ⟨j, hj, rfl⟩ := List.getElem_of_mem hp
    exact hg j hj (by omega)
   clear hg
   have hn : Hid (mayT (d + 1) T = (bareT T && (T.ps.length == 0) && !T.many)) := by
    show _ = _
    unfold mayT; rw [if_pos H12.out]
   obtain rfl : k = T.ps.length := by omega
   rcases hnm : T.nm.toList.isEmpty with _ | _
   ·have t1 : ¬ (T.nm.toList = []) := by simpa using hnm
    have hf : Hid (mayT (d + 1) T = false) := by show _ = _; rw [hn.out]; simp [bareT, hnm]
    go_wp2
    go_ret
    exact ⟨by rw [hf.out]; rfl, hb⟩
   ·have t1 : T.nm.toList = [] := by simpa using hnm
    by_cases h0 : T.ns.length = 0
    ·have hbt : Hid (bareT T = true) := by show _ = _; simp [bareT, t1, h0]
     have g0 : ¬ (0 < (T.ns.length : Int)) := by omega
     clear h0
     by_cases hn1 : T.ps.length = 0
     ·have g1 : ((T.ps.length : Int) == 0) = true := by simp [hn1]
      have hf : Hid (mayT (d + 1) T = !T.many) := by show _ = _; rw [hn.out, hbt.out, hn1]; rfl
      clear hn1
      rcases hmn : T.many with _ | _
      ·rw [hmn] at q hf
       go_wp2
       go_ret
       exact ⟨by rw [hf.out]; rfl, hb⟩
      ·rw [hmn] at q hf
       go_wp2
       go_ret
       exact ⟨by rw [hf.out]; rfl, hb⟩
     ·have g1 : ((T.ps.length : Int) == 0) = false := by simp; exact fun h => hn1 (by simp [h])
      have hf : Hid (mayT (d + 1) T = false) := by show _ = _; rw [hn.out]; simp [hn1]
      clear hn1
      go_wp2
      go_ret
      exact ⟨by rw [hf.out]; rfl, hb⟩
    ·have g0 : (0 < (T.ns.length : Int)) := by omega
     have hf : Hid (mayT (d + 1) T = false) := by show _ = _; rw [hn.out]; simp [bareT, h0]
     clear h0
     go_wp2
     go_ret
     exact ⟨by rw [hf.out]; rfl, hb⟩
theorem mayR_2 (d : Nat) (hd : d ≤ 50) (T : Ty) (H12 : Hid (T.k = 1 ∨ T.k = 2)) (h7 : T.ps.length ≤ 7) (h6 : T.ns.length ≤ 6) (IH : ∀ p ∈ T.ps, MayR d p) (An : Option Addr) (cn : Nat) (Ap : Option Addr) (cp : Nat) (w : World)
 (hr : Rep w T [.int .i64 2, .string T.nm, .slice An T.ns.length cn, .slice Ap T.ps.length cp, .bool T.many]) : Calls Tryz.prog 76 #[.agg #[.int .i64 2, .string T.nm, .slice An T.ns.length cn, .slice Ap T.ps.length cp, .bool T.many], .int .i64 ((d + 1 : Nat) : Int)] w fun e w' => e = .returned (.bool (mayT (d + 1) T)) ∧ Below w.heap.size w w' := by
 have hcapN := hr.capN
 obtain ⟨An', cn', Ap', cp', he, hN, hP⟩ := hr.five
 simp at he
 obtain ⟨-, ⟨rfl, rfl⟩, rfl, rfl⟩ := he
 have d0 : ¬ ((d : Int) + 1 < 1) := by omega
 have k0 := Blk.new_ w 34 #[.int .i64 2, .string T.nm, .slice An T.ns.length cn, .slice Ap T.ps.length cp, .bool T.many]
 have hl7 : ¬ (7 < (T.ps.length : Int)) := by omega
 have hl6 : ¬ (6 < (T.ns.length : Int)) := by omega
 go_enter Tryz.func76, Tryz.ntmps76
 go_wp2
 go_loopw [5] (fun i wr => MayRel d T w i w.heap.size #[.int .i64 2, .string T.nm, .slice An T.ns.length cn, .slice Ap T.ps.length cp, .bool T.many] wr) (fun i _ => T.ps.length - (intOf i).toNat)
 case atStart => exact ⟨0, Nat.zero_le _, rfl, fun j _ h => absurd h (by omega), bel, k0⟩
 case round =>
  clear k0
  obtain ⟨k, hk, rfl, hg, hb, k1⟩ := hrel
  have q := k1.five
  by_cases hlt : k < T.ps.length
  ·obtain ⟨b, o, An', cn', Ap', cp', rfl, hbl, hrep, hc⟩ := (RepL.keep hb T.ps _ hP).five hlt
   have hi : (k : Int) < (T.ps.length : Int) := by omega
   have hk7 : (k : Int) < 7 := by omega
   have hIH := Lh (IH _ (List.getElem_mem hlt))
   have HG := Lh hg
   clear hg
   have HNO : Hid (mayT d T.ps[k] = false → mayT (d + 1) T = false) := fun h => by
    rcases h0 : mayT (d + 1) T with _ | _
    ·rfl
    ·rw [may_parts h0 _ (List.getElem_mem hlt)] at h; cases h
   have HYES : Hid (mayT d T.ps[k] = true → ∀ j (h : j < T.ps.length), j < k + 1 → mayT d T.ps[j] = true) := fun h0 j h hj => by
    rcases Nat.lt_or_ge j k with h1 | h1
    ·exact HG.out j h h1
    ·obtain rfl : j = k := by omega
     exact h0
   generalize hps : T.ps[k] = p at *
   clear hps
   go_wp2_with fail
   refine (hIH.out _ _ hrep).mono ?_
   rintro e w2 ⟨rfl, hb2⟩
   have b3 := hb.trans (hb2.mono hb.size)
   have k2 := k1.below hb2
   clear q hc k1
   have q := k2.five
   rcases hev : mayT d p with _ | _
   ·have hh := Lh (HNO.out hev)
    go_wp2
    go_ret
    exact ⟨by rw [hh.out]; rfl, b3⟩
   ·go_wp2
    go_roundw
    case rel => exact ⟨k + 1, by omega, by go_num, HYES.out hev, b3, k2⟩
    case measure => simp [intOf] <;> omega
  ·have hi : (T.ps.length : Int) ≤ (k : Int) := by omega
   have hall : Hid (∀ p ∈ T.ps, mayT d p = true) := fun p hp => by
    obtain ⟨j, hj, rfl⟩ := List.getElem_of_mem hp
    exact hg j hj (by omega)
   clear hg
   have hn : Hid (mayT (d + 1) T = (bareT T && (T.ps.length == 0) && !T.many)) := by
    show _ = _
    unfold mayT; rw [if_pos H12.out]
   obtain rfl : k = T.ps.length := by omega
   rcases hnm : T.nm.toList.isEmpty with _ | _
   ·have t1 : ¬ (T.nm.toList = []) := by simpa using hnm
    have hf : Hid (mayT (d + 1) T = false) := by show _ = _; rw [hn.out]; simp [bareT, hnm]
    go_wp2
    go_ret
    exact ⟨by rw [hf.out]; rfl, hb⟩
   ·have t1 : T.nm.toList = [] := by simpa using hnm
    by_cases h0 : T.ns.length = 0
    ·have hbt : Hid (bareT T = true) := by show _ = _; simp [bareT, t1, h0]
     have g0 : ¬ (0 < (T.ns.length : Int)) := by omega
     clear h0
     by_cases hn1 : T.ps.length = 0
     ·have g1 : ((T.ps.length : Int) == 0) = true := by simp [hn1]
      have hf : Hid (mayT (d + 1) T = !T.many) := by show _ = _; rw [hn.out, hbt.out, hn1]; rfl
      clear hn1
      rcases hmn : T.many with _ | _
      ·rw [hmn] at q hf
       go_wp2
       go_ret
       exact ⟨by rw [hf.out]; rfl, hb⟩
      ·rw [hmn] at q hf
       go_wp2
       go_ret
       exact ⟨by rw [hf.out]; rfl, hb⟩
     ·have g1 : ((T.ps.length : Int) == 0) = false := by simp; exact fun h => hn1 (by simp [h])
      have hf : Hid (mayT (d + 1) T = false) := by show _ = _; rw [hn.out]; simp [hn1]
      clear hn1
      go_wp2
      go_ret
      exact ⟨by rw [hf.out]; rfl, hb⟩
    ·have g0 : (0 < (T.ns.length : Int)) := by omega
     have hf : Hid (mayT (d + 1) T = false) := by show _ = _; rw [hn.out]; simp [bareT, h0]
     clear h0
     go_wp2
     go_ret
     exact ⟨by rw [hf.out]; rfl, hb⟩
theorem mayR_struct (d : Nat) (hd : d ≤ 50) (T : Ty) (H3 : Hid (T.k = 3)) (h7 : T.ps.length ≤ 7) (h6 : T.ns.length ≤ 6) (IH : ∀ p ∈ T.ps, MayR d p) (An : Option Addr) (cn : Nat) (Ap : Option Addr) (cp : Nat) (w : World)
 (hr : Rep w T [.int .i64 3, .string T.nm, .slice An T.ns.length cn, .slice Ap T.ps.length cp, .bool T.many]) : Calls Tryz.prog 76 #[.agg #[.int .i64 3, .string T.nm, .slice An T.ns.length cn, .slice Ap T.ps.length cp, .bool T.many], .int .i64 ((d + 1 : Nat) : Int)] w fun e w' => e = .returned (.bool (mayT (d + 1) T)) ∧ Below w.heap.size w w' := by
 have hcapN := hr.capN
 obtain ⟨An', cn', Ap', cp', he, hN, hP⟩ := hr.five
 simp at he
 obtain ⟨-, ⟨rfl, rfl⟩, rfl, rfl⟩ := he
 have d0 : ¬ ((d : Int) + 1 < 1) := by omega
 have k0 := Blk.new_ w 34 #[.int .i64 3, .string T.nm, .slice An T.ns.length cn, .slice Ap T.ps.length cp, .bool T.many]
 have hl7 : ¬ (7 < (T.ps.length : Int)) := by omega
 have hl6 : ¬ (6 < (T.ns.length : Int)) := by omega
 go_enter Tryz.func76, Tryz.ntmps76
 go_wp2
 go_loopw [5] (fun i wr => MayRel d T w i w.heap.size #[.int .i64 3, .string T.nm, .slice An T.ns.length cn, .slice Ap T.ps.length cp, .bool T.many] wr) (fun i _ => T.ps.length - (intOf i).toNat)
 case atStart => exact ⟨0, Nat.zero_le _, rfl, fun j _ h => absurd h (by omega), bel, k0⟩
 case round =>
  clear k0
  obtain ⟨k, hk, rfl, hg, hb, k1⟩ := hrel
  have q := k1.five
  by_cases hlt : k < T.ps.length
  ·obtain ⟨b, o, An', cn', Ap', cp', rfl, hbl, hrep, hc⟩ := (RepL.keep hb T.ps _ hP).five hlt
   have hi : (k : Int) < (T.ps.length : Int) := by omega
   have hk7 : (k : Int) < 7 := by omega
   have hIH := Lh (IH _ (List.getElem_mem hlt))
   have HG := Lh hg
   clear hg
   have HNO : Hid (mayT d T.ps[k] = false → mayT (d + 1) T = false) := fun h => by
    rcases h0 : mayT (d + 1) T with _ | _
    ·rfl
    ·rw [may_parts h0 _ (List.getElem_mem hlt)] at h; cases h
   have HYES : Hid (mayT d T.ps[k] = true → ∀ j (h : j < T.ps.length), j < k + 1 → mayT d T.ps[j] = true) := fun h0 j h hj => by
    rcases Nat.lt_or_ge j k with h1 | h1
    ·exact HG.out j h h1
    ·obtain rfl : j = k := by omega
     exact h0
   generalize hps : T.ps[k] = p at *
   clear hps
   go_wp2_with fail
   refine (hIH.out _ _ hrep).mono ?_
   rintro e w2 ⟨rfl, hb2⟩
   have b3 := hb.trans (hb2.mono hb.size)
   have k2 := k1.below hb2
   clear q hc k1
   have q := k2.five
   rcases hev : mayT d p with _ | _
   ·have hh := Lh (HNO.out hev)
    go_wp2
    go_ret
    exact ⟨by rw [hh.out]; rfl, b3⟩
   ·go_wp2
    go_roundw
    case rel => exact ⟨k + 1, by omega, by go_num, HYES.out hev, b3, k2⟩
    case measure => simp [intOf] <;> omega
  ·have hi : (T.ps.length : Int) ≤ (k : Int) := by omega
   have hall : Hid (∀ p ∈ T.ps, mayT d p = true) := fun p hp => by
    obtain ⟨j, hj, rfl⟩ := List.getElem_of_mem hp
    exact hg j hj (by omega)
   clear hg
   obtain rfl : k = T.ps.length := by omega
   have hn : Hid (mayT (d + 1) T = (!T.many && nameOf T.nm && (T.ns.length == T.ps.length) && partsT d 1 6 T.ps && namedL T.ns && decide ((sizeT T).1 ≤ 12))) := by
    show _ = _
    unfold mayT; rw [if_neg (by rw [H3.out]; decide), if_pos H3.out]; rfl
   rcases hmn : T.many with _ | _
   ·rcases hnm : nameOf T.nm with _ | _
    ·have hf : Hid (mayT (d + 1) T = false) := by show _ = _; rw [hn.out, hnm]; simp
     rw [hmn] at q
     go_wp2_with fail
     refine (nameR_any _ _).mono ?_
     rintro e w2 ⟨rfl, hb2⟩
     rw [hnm]
     clear q
     go_wp2
     go_ret
     exact ⟨by rw [hf.out]; rfl, hb.trans (hb2.mono hb.size)⟩
    ·rw [hmn] at q
     go_wp2_with fail
     refine (nameR_any _ _).mono ?_
     rintro e w2 ⟨rfl, hb2⟩
     rw [hnm]
     have b3 := hb.trans (hb2.mono hb.size)
     have k2 := k1.below hb2
     rw [hmn] at k2
     clear q k1
     have q := k2.five
     by_cases hn1 : 1 ≤ T.ps.length
     ·by_cases hn6 : T.ps.length ≤ 6
      ·by_cases hlen : T.ns.length = T.ps.length
       ·have HL := Lh hlen
        have hp : Hid (partsT d 1 6 T.ps = true) := by
         show _ = _
         simp only [partsT, Bool.and_eq_true, List.all_eq_true, decide_eq_true_eq]
         exact ⟨⟨hn1, hn6⟩, hall.out⟩
        have hn' : Hid (mayT (d + 1) T = (namedL T.ns && decide ((sizeT T).1 ≤ 12))) := by
         show _ = _
         rw [hn.out, hmn, hnm, hp.out, HL.out]; simp
        clear hn
        have g1 : ¬ ((T.ps.length : Int) < 1) := by omega
        have g2 : ¬ (6 < (T.ps.length : Int)) := by omega
        rw [hlen] at q k2 hcapN
        clear hlen
        go_wp2
        go_loopw [7] (fun i wr => NamesRel T w i w.heap.size #[.int .i64 3, .string T.nm, .slice An T.ps.length cn, .slice Ap T.ps.length cp, .bool false] wr) (fun i _ => T.ps.length - (intOf i).toNat)
        case atStart => exact ⟨0, Nat.zero_le _, rfl, fun j _ h => absurd h (by omega), by simp, b3, k2⟩
        case round =>
         clear q k2 b3 hb2 hb
         obtain ⟨j, hj, rfl, hg, hnd, hb, k2⟩ := hrel
         have q := k2.five
         by_cases hlt' : j < T.ps.length
         ·have hjn : j < T.ns.length := by rw [HL.out]; exact hlt'
          obtain ⟨bn, on, rfl, hbn, c0⟩ := hN.str hjn
          rw [← keep_cell hb hbn] at c0
          have hbn' : bn < wr.heap.size := Nat.lt_of_lt_of_le hbn hb.size
          have hi' : (j : Int) < (T.ps.length : Int) := by omega
          have hi'' : (0 : Int) ≤ (j : Int) := by omega
          have hjc : (j : Int) ≤ (cn : Int) := by omega
          have hj7 : (j : Int) < 7 := by omega
          have hno := @named_no T.ns j hjn
          have HYES := Lh (@nodup_snoc T.ns j hjn hnd)
          have HG : Hid (nameOf T.ns[j] = true → ∀ i (h : i < T.ns.length), i < j + 1 → nameOf T.ns[i] = true) := fun h0 i h hij => by
           rcases Nat.lt_or_ge i j with h1 | h1
           ·exact hg i h h1
           ·obtain rfl : i = j := by omega
            exact h0
          have HNO : Hid (nameOf T.ns[j] = false ∨ strIn (T.ns.take j) T.ns[j] = true → mayT (d + 1) T = false) := fun h => by
           rw [hn'.out, hno h]; rfl
          have hrt := (hN.keep hb).take_ j
          rw [← List.map_take] at hrt
          have hlt2 : (T.ns.take j).length = j := by simp; omega
          have hl0 : w.heap.size < wr.heap.size := k2.lt
          have HAM : Hid (∀ W, (Below wr.heap.size wr W ∧ (W.cell? ⟨w.heap.size, 0, none⟩ = some (.int .i64 3) ∧ W.cell? ⟨w.heap.size, 1, none⟩ = some (.string T.nm) ∧ W.cell? ⟨w.heap.size, 2, none⟩ = some (.slice (some ⟨bn, on, none⟩) T.ps.length cn) ∧ W.cell? ⟨w.heap.size, 3, none⟩ = some (.slice Ap T.ps.length cp) ∧ W.cell? ⟨w.heap.size, 4, none⟩ = some (.bool false)) ∧ W.cell? ⟨bn, on + j, none⟩ = some (.string T.ns[j])) → Calls Tryz.prog 43 #[.slice (some ⟨bn, on, none⟩) j cn, .string T.ns[j]] W fun e w' => e = .returned (.bool (strIn (T.ns.take j) T.ns[j])) ∧ w' = W) := fun W hW => by
           have h := among_any (some ⟨bn, on, none⟩) cn (T.ns.take j) T.ns[j] W (hrt.keep hW.1) (by unfold maxLen; omega)
           rw [hlt2] at h
           exact h
          clear hno hg hnd hrt hlt2
          generalize T.ns[j] = s at *
          generalize strIn (T.ns.take j) s = si at *
          rcases hns : nameOf s with _ | _
          ·have hf := Lh (HNO.out (.inl hns))
           clear HAM HNO HYES HG
           have HNM : Hid (∀ W, Calls Tryz.prog 22 #[.string s] W fun e w' => e = .returned (.bool false) ∧ Below W.heap.size W w') := fun W => by
            have h := nameR_any s W
            rw [hns] at h
            exact h
           clear hns
           go_wp2_with fail
           refine wp_region_held_drew (S := fun W => Below wr.heap.size wr W ∧ (W.cell? ⟨w.heap.size, 0, none⟩ = some (.int .i64 3) ∧ W.cell? ⟨w.heap.size, 1, none⟩ = some (.string T.nm) ∧ W.cell? ⟨w.heap.size, 2, none⟩ = some (.slice (some ⟨bn, on, none⟩) T.ps.length cn) ∧ W.cell? ⟨w.heap.size, 3, none⟩ = some (.slice Ap T.ps.length cp) ∧ W.cell? ⟨w.heap.size, 4, none⟩ = some (.bool false)) ∧ W.cell? ⟨bn, on + j, none⟩ = some (.string s)) (by kernel_rfl) ⟨(Below.refl _ _).drew, q, c0⟩ (fun hHeld => ?_)
           (refine tQ 0 ?_; try simp only [sq]; refine tQ 1 ?_; try simp only [sq]; refine tQ 2 ?_; try simp only [sq]; refine tQ 3 ?_; try simp only [sq]; refine tQ 4 ?_; try simp only [sq])
           refine wpAnyH_ready (rs := [5]) (by kernel_rfl) (by simp) ?_
           refine AllReadyH.cons rfl (fun K hK => ?_) AllReadyH.nil
           go_simp
           with_reducible refine (HNM.out _).mono ?_
           rintro e w' ⟨rfl, hbq⟩
           refine hK.out _ _ ?_ (fun hHeld => ?_)
           ·exact keep6 hl0 hbn' (by assumption) hbq
           clear hK K
           (try simp only [Act.put, List.setIfInBounds_toArray, List.set_cons_zero, List.set_cons_succ])
           (refine tQ 6 ?_; try simp only [sq]; refine tQ 7 ?_; try simp only [sq])
           (refine pQ 8 ?_; try simp only [sq]; refine pQ 9 ?_; try simp only [sq]; refine pQ 10 ?_; try simp only [sq]; refine pQ 11 ?_; try simp only [sq]; refine pQ 12 ?_; try simp only [sq]; refine pQ 13 ?_; try simp only [sq]; refine pQ 14 ?_; try simp only [sq]; refine pQ 15 ?_; try simp only [sq]; refine pQ 16 ?_; try simp only [sq]; refine pQ 17 ?_; try simp only [sq])
           refine tQ 18 ?_; try simp only [sq]
           refine fQ ?_ _
           have hbf := hb.trans (hHeld.1.mono hb.size)
           clear q c0
           go_wp2
           go_ret
           exact ⟨by rw [hf.out]; rfl, hbf⟩
          ·have HNM : Hid (∀ W, Calls Tryz.prog 22 #[.string s] W fun e w' => e = .returned (.bool true) ∧ Below W.heap.size W w') := fun W => by
            have h := nameR_any s W
            rw [hns] at h
            exact h
           cases si
           ·have hy := Lh (HYES.out rfl)
            have hgg := Lh (HG.out hns)
            clear HYES HG HNO hns
            go_wp2_with fail
            go_region_held3 (fun W => Below wr.heap.size wr W ∧ (W.cell? ⟨w.heap.size, 0, none⟩ = some (.int .i64 3) ∧ W.cell? ⟨w.heap.size, 1, none⟩ = some (.string T.nm) ∧ W.cell? ⟨w.heap.size, 2, none⟩ = some (.slice (some ⟨bn, on, none⟩) T.ps.length cn) ∧ W.cell? ⟨w.heap.size, 3, none⟩ = some (.slice Ap T.ps.length cp) ∧ W.cell? ⟨w.heap.size, 4, none⟩ = some (.bool false)) ∧ W.cell? ⟨bn, on + j, none⟩ = some (.string s)) (first | exact ⟨(Below.refl _ _).drew, q, c0⟩ | exact keep6 hl0 hbn' (by assumption) hbq | exact ⟨Below.drew (And.left (by assumption)), And.right (by assumption)⟩ | go_keep) (first | (go_at_call 22; ((with_reducible refine (HNM.out _).mono ?_); rintro e w' ⟨rfl, hbq⟩)) | (go_at_call 43; ((with_reducible refine (HAM.out _ (by assumption)).mono ?_); rintro e w' ⟨rfl, rfl⟩)))
            all_goals
             rename_i hh
             have hbf := hb.trans (hh.1.mono hb.size)
             have k3 := k2.below hh.1
             clear q c0
             have q := k3.five
             go_wp2
             go_roundw
             case rel => exact ⟨j + 1, by omega, by go_num, hgg.out, hy.out, hbf, k3⟩
             case measure => simp [intOf] <;> omega
           ·have hf := Lh (HNO.out (.inr rfl))
            clear HYES HG HNO hns
            go_wp2_with fail
            go_region_held3 (fun W => Below wr.heap.size wr W ∧ (W.cell? ⟨w.heap.size, 0, none⟩ = some (.int .i64 3) ∧ W.cell? ⟨w.heap.size, 1, none⟩ = some (.string T.nm) ∧ W.cell? ⟨w.heap.size, 2, none⟩ = some (.slice (some ⟨bn, on, none⟩) T.ps.length cn) ∧ W.cell? ⟨w.heap.size, 3, none⟩ = some (.slice Ap T.ps.length cp) ∧ W.cell? ⟨w.heap.size, 4, none⟩ = some (.bool false)) ∧ W.cell? ⟨bn, on + j, none⟩ = some (.string s)) (first | exact ⟨(Below.refl _ _).drew, q, c0⟩ | exact keep6 hl0 hbn' (by assumption) hbq | exact ⟨Below.drew (And.left (by assumption)), And.right (by assumption)⟩ | go_keep) (first | (go_at_call 22; ((with_reducible refine (HNM.out _).mono ?_); rintro e w' ⟨rfl, hbq⟩)) | (go_at_call 43; ((with_reducible refine (HAM.out _ (by assumption)).mono ?_); rintro e w' ⟨rfl, rfl⟩)))
            all_goals
             rename_i hh
             have hbf := hb.trans (hh.1.mono hb.size)
             clear q c0
             go_wp2
             go_ret
             exact ⟨by rw [hf.out]; rfl, hbf⟩
         ·have hi' : ¬ (j : Int) < (T.ps.length : Int) := by omega
          obtain rfl : j = T.ps.length := by omega
          have hnl : namedL T.ns = true := named_yes (fun i h => hg i h (by have := HL.out; omega)) (by rw [← HL.out, List.take_length] at hnd; exact hnd)
          have hm2 : Hid (mayT (d + 1) T = decide ((sizeT T).1 ≤ 12)) := by show _ = _; rw [hn'.out, hnl]; rfl
          have hS : SizeR T := sizeR_struct T H3.out (place_any T H3.out h7 (fun p hpp => (sized_of_may d p (hall.out p hpp)).2) (fun p hpp => sizeR_all d p (hall.out p hpp)) (fun p hpp => even_all d p (hall.out p hpp)) (even_struct T H3.out h7 (fun p hpp => even_all d p (hall.out p hpp))) _ (Nat.le_refl _))
          have hsz := (sizeT T).1
          have HSS := Lh hS
          clear hg hnd hnl hS
          rw [hmn, HL.out] at hr
          go_wp2_with fail
          refine (HSS.out _ _ (Rep.keep hb _ _ hr)).mono ?_
          rintro e w3 ⟨rfl, hb3⟩
          clear q
          by_cases h12 : (sizeT T).1 ≤ 12
          ·have g3 : ((sizeT T).1 : Int) ≤ 12 := by omega
           go_wp2
           go_ret
           exact ⟨by rw [hm2.out]; simp [h12], hb.trans (hb3.mono hb.size)⟩
          ·have g3 : ¬ ((sizeT T).1 : Int) ≤ 12 := by omega
           go_wp2
           go_ret
           exact ⟨by rw [hm2.out]; simp [h12]; omega, hb.trans (hb3.mono hb.size)⟩
       ·have hf : Hid (mayT (d + 1) T = false) := by show _ = _; rw [hn.out]; simp [hlen]
        have g1 : ¬ ((T.ps.length : Int) < 1) := by omega
        have g2 : ¬ (6 < (T.ps.length : Int)) := by omega
        have g3 : (((T.ns.length : Nat) : Int) != ((T.ps.length : Nat) : Int)) = true := by simp; omega
        go_wp2
        go_ret
        exact ⟨by rw [hf.out]; rfl, b3⟩
      ·have hf : Hid (mayT (d + 1) T = false) := by show _ = _; rw [hn.out]; simp [partsT, hn6]
       have g1 : ¬ ((T.ps.length : Int) < 1) := by omega
       have g2 : (6 < (T.ps.length : Int)) := by omega
       go_wp2
       go_ret
       exact ⟨by rw [hf.out]; rfl, b3⟩
     ·have hf : Hid (mayT (d + 1) T = false) := by show _ = _; rw [hn.out]; simp [partsT, hn1]
      have g1 : ((T.ps.length : Int) < 1) := by omega
      go_wp2
      go_ret
      exact ⟨by rw [hf.out]; rfl, b3⟩
   ·have hf : Hid (mayT (d + 1) T = false) := by show _ = _; rw [hn.out, hmn]; simp
    rw [hmn] at q
    go_wp2
    go_ret
    exact ⟨by rw [hf.out]; rfl, hb⟩
theorem mayR_any : ∀ (d : Nat), d ≤ 51 → ∀ T : Ty, MayR d T
 | 0, _, T => by
  intro cs w hr
  obtain ⟨An, cn, Ap, cp, rfl, hN, hP⟩ := hr.five
  have hn : mayT 0 T = false := rfl
  go_enter Tryz.func76, Tryz.ntmps76
  go_wp2
  go_ret
  exact ⟨by first | rfl | (rw [hn]; rfl), bel⟩
 | d + 1, hd, T => by
  have IH : ∀ p ∈ T.ps, MayR d p := fun p _ => mayR_any d (by omega) p
  intro cs w hr
  have hr0 := hr
  obtain ⟨An, cn, Ap, cp, rfl, hN, hP⟩ := hr.five
  have d0 : ¬ ((d : Int) + 1 < 1) := by omega
  by_cases h7 : T.ps.length ≤ 7
  ·by_cases h6 : T.ns.length ≤ 6
   ·by_cases h1 : T.k = 1
    ·have h := mayR_1 d (by omega) T (Or.inl h1) h7 h6 IH An cn Ap cp w (by rw [← h1]; exact hr0)
     rw [← h1] at h
     exact h
    ·by_cases h2 : T.k = 2
     ·have h := mayR_2 d (by omega) T (Or.inr h2) h7 h6 IH An cn Ap cp w (by rw [← h2]; exact hr0)
      rw [← h2] at h
      exact h
     ·by_cases h3 : T.k = 3
      ·have h := mayR_struct d (by omega) T h3 h7 h6 IH An cn Ap cp w (by rw [← h3]; exact hr0)
       rw [← h3] at h
       exact h
      ·by_cases h4 : T.k = 4
       ·have h := mayR_fn d (by omega) T h4 h7 h6 IH An cn Ap cp w (by rw [← h4]; exact hr0)
        rw [← h4] at h
        exact h
       ·exact mayR_other d (by omega) T ⟨h1, h2, h3, h4⟩ (by simpa using h1) (by simpa using h2) (by simpa using h3) (by simpa using h4) h7 h6 IH An cn Ap cp w hr0
   ·have hf : Hid (mayT (d + 1) T = false) := by
     show _ = _
     rcases h0 : mayT (d + 1) T with _ | _
     ·rfl
     ·exact absurd (may_names h0) h6
    have g1 : ¬ (7 < (T.ps.length : Int)) := by omega
    have g2 : 6 < (T.ns.length : Int) := by omega
    clear h6 h7
    go_enter Tryz.func76, Tryz.ntmps76
    go_wp2
    go_ret
    exact ⟨by rw [hf.out]; rfl, bel⟩
  ·have hf : Hid (mayT (d + 1) T = false) := by
    show _ = _
    rcases h0 : mayT (d + 1) T with _ | _
    ·rfl
    ·exact absurd (may_len h0) h7
   have g1 : 7 < (T.ps.length : Int) := by omega
   clear h7
   go_enter Tryz.func76, Tryz.ntmps76
   go_wp2
   go_ret
   exact ⟨by rw [hf.out]; rfl, bel⟩
theorem mayRef_any (T : Ty) (cs : List Value) (w : World) (hr : Rep w T cs) : Calls Tryz.prog 54 #[.agg cs.toArray] w fun e w' => e = .returned (.bool (may T)) ∧ Below w.heap.size w w' := by
 have hr0 := hr
 obtain ⟨An, cn, Ap, cp, rfl, hN, hP⟩ := hr.five
 have h4 : Hid (∀ (cs : List Value) (w : World), Rep w T cs → Calls Tryz.prog 76 #[.agg cs.toArray, .int .i64 4] w fun e w' => e = .returned (.bool (mayT 4 T)) ∧ Below w.heap.size w w') := mayR_any 4 (by omega) T
 go_enter Tryz.func54, Tryz.ntmps54
 go_wp2_with fail
 refine (h4.out _ _ (Rep.keep (bel) _ _ hr0)).mono ?_
 rintro e w1 ⟨rfl, hb⟩
 go_wp2
 go_ret
 exact ⟨rfl, Below.trans (bel) (hb.mono (by simp))⟩
end Go.Proofs.YthihaeobkoiljaaGreat
