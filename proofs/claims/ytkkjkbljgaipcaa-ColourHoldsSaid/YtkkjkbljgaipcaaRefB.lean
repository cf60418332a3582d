/- The document's words on how types lie: IsEven, Place, Size. -/
import Derived.Test.YtkkjkbljgaipcaaRefA
import Derived.Test.YtkkjkbljgaipcaaTypT
import Derived.Test.YtkkjkbljgaipcaaTypF
import Derived.Deep.RegionHeld3
import Derived.Deep.DrawnRows
namespace Go.Proofs.Ytkkjkbljgaipcaa
open Go.RowKit
set_option linter.unusedVariables false
set_option linter.unusedSimpArgs false
set_option maxRecDepth 100000
set_option maxHeartbeats 2000000
theorem Blk.five {w : World} {m : Nat} {t : TypeId} {a0 a1 a2 a3 a4 : Value} (h : Blk w m t #[a0, a1, a2, a3, a4]) :
    w.cell? ⟨m, 0, none⟩ = some a0 ∧ w.cell? ⟨m, 1, none⟩ = some a1 ∧ w.cell? ⟨m, 2, none⟩ = some a2 ∧ w.cell? ⟨m, 3, none⟩ = some a3 ∧ w.cell? ⟨m, 4, none⟩ = some a4 :=
  ⟨h.cell 0 _ rfl, h.cell 1 _ rfl, h.cell 2 _ rfl, h.cell 3 _ rfl, h.cell 4 _ rfl⟩
/-- the k-th of a row of types: its cells -/
theorem RepL.five {w : World} {ts : List Ty} {A : Option Addr} (h : RepL w ts A) {k : Nat} (hk : k < ts.length) :
    ∃ b o An cn Ap cp, A = some ⟨b, o, none⟩ ∧ b < w.heap.size ∧ Rep w ts[k] [.int .i64 ts[k].k, .string ts[k].nm, .slice An ts[k].ns.length cn, .slice Ap ts[k].ps.length cp, .bool ts[k].many] ∧
      (w.cell? ⟨b, o + k * 5, none⟩ = some (.int .i64 ts[k].k) ∧ w.cell? ⟨b, o + k * 5 + 1, none⟩ = some (.string ts[k].nm) ∧ w.cell? ⟨b, o + k * 5 + 2, none⟩ = some (.slice An ts[k].ns.length cn) ∧ w.cell? ⟨b, o + k * 5 + 3, none⟩ = some (.slice Ap ts[k].ps.length cp) ∧ w.cell? ⟨b, o + k * 5 + 4, none⟩ = some (.bool ts[k].many)) := by
  obtain ⟨b, o, cs, rfl, hbl, hc, hrep⟩ := RepL.at_ ts _ h k hk
  have hrep' := hrep
  obtain ⟨An, cn, Ap, cp, rfl, -, -⟩ := hrep'.five
  exact ⟨b, o, An, cn, Ap, cp, rfl, hbl, hrep, hc 0 _ rfl, hc 1 _ rfl, hc 2 _ rfl, hc 3 _ rfl, hc 4 _ rfl⟩
theorem keep5 {w w' : World} {b o : Nat} {a0 a1 a2 a3 a4 : Value} (hb : Below w.heap.size w w') (hl : b < w.heap.size)
    (h : w.cell? ⟨b, o, none⟩ = some a0 ∧ w.cell? ⟨b, o + 1, none⟩ = some a1 ∧ w.cell? ⟨b, o + 2, none⟩ = some a2 ∧ w.cell? ⟨b, o + 3, none⟩ = some a3 ∧ w.cell? ⟨b, o + 4, none⟩ = some a4) :
    w'.cell? ⟨b, o, none⟩ = some a0 ∧ w'.cell? ⟨b, o + 1, none⟩ = some a1 ∧ w'.cell? ⟨b, o + 2, none⟩ = some a2 ∧ w'.cell? ⟨b, o + 3, none⟩ = some a3 ∧ w'.cell? ⟨b, o + 4, none⟩ = some a4 :=
  ⟨(keep_cell hb hl).trans h.1, (keep_cell hb hl).trans h.2.1, (keep_cell hb hl).trans h.2.2.1, (keep_cell hb hl).trans h.2.2.2.1, (keep_cell hb hl).trans h.2.2.2.2⟩
theorem keep11 {w0 w w' : World} {m n o : Nat} {a0 a1 a2 a3 a4 b0 b1 b2 b3 b4 : Value} (hm : m < w0.heap.size) (hn : n < w0.heap.size)
    (h : Below w0.heap.size w0 w ∧ (w.cell? ⟨m, 0, none⟩ = some a0 ∧ w.cell? ⟨m, 1, none⟩ = some a1 ∧ w.cell? ⟨m, 2, none⟩ = some a2 ∧ w.cell? ⟨m, 3, none⟩ = some a3 ∧ w.cell? ⟨m, 4, none⟩ = some a4) ∧ w.cell? ⟨n, o, none⟩ = some b0 ∧ w.cell? ⟨n, o + 1, none⟩ = some b1 ∧ w.cell? ⟨n, o + 2, none⟩ = some b2 ∧ w.cell? ⟨n, o + 3, none⟩ = some b3 ∧ w.cell? ⟨n, o + 4, none⟩ = some b4)
    (hb : Below w.heap.size w w') : Below w0.heap.size w0 w' ∧ (w'.cell? ⟨m, 0, none⟩ = some a0 ∧ w'.cell? ⟨m, 1, none⟩ = some a1 ∧ w'.cell? ⟨m, 2, none⟩ = some a2 ∧ w'.cell? ⟨m, 3, none⟩ = some a3 ∧ w'.cell? ⟨m, 4, none⟩ = some a4) ∧ w'.cell? ⟨n, o, none⟩ = some b0 ∧ w'.cell? ⟨n, o + 1, none⟩ = some b1 ∧ w'.cell? ⟨n, o + 2, none⟩ = some b2 ∧ w'.cell? ⟨n, o + 3, none⟩ = some b3 ∧ w'.cell? ⟨n, o + 4, none⟩ = some b4 := by
  obtain ⟨h0, h1, h2⟩ := h
  have hs := h0.size
  have e := keep5 (o := 0) hb (show m < w.heap.size by omega) (by simpa using h1)
  exact ⟨h0.trans (hb.mono hs), by simpa using e, keep5 hb (by omega) h2⟩
def EvenR (T : Ty) : Prop := ∀ (cs : List Value) (w : World), Rep w T cs → Calls Try.prog 56 #[.agg cs.toArray] w fun e w' => e = .returned (.bool (sizeT T).2) ∧ Below w.heap.size w w'
def SizeR (T : Ty) : Prop := ∀ (cs : List Value) (w : World), Rep w T cs → Calls Try.prog 28 #[.agg cs.toArray] w fun e w' => e = .returned (.int .i64 ((sizeT T).1 : Int)) ∧ Below w.heap.size w w'
def EvRel (T : Ty) (w : World) (i : Value) (H : Nat) (bs : Array Value) (wr : World) : Prop := ∃ k : Nat, k ≤ T.ps.length ∧ i = .int .i64 k ∧ (∀ j (h : j < T.ps.length), j < k → (sizeT T.ps[j]).2 = false) ∧ Below w.heap.size w wr ∧ Blk wr H 25 bs
theorem even_other (T : Ty) (h3 : T.k ≠ 3) : EvenR T := by
  intro cs w hr
  obtain ⟨An, cn, Ap, cp, rfl, hN, hP⟩ := hr.five
  have e : (sizeT T).2 = (T.k == 2) := by
    rw [sizeT_eq]
    by_cases h2 : T.k = 2
    · rw [if_pos h2, h2]; rfl
    · rw [if_neg h2, if_neg h3]
      simpa using h2
  have HE := Lib.hid e
  clear e
  have t3 : (T.k == 3) = false := by simpa using h3
  go_enter Try.func56, Try.ntmps56
  go_wp2
  go_ret
  exact ⟨by rw [HE.out]; rfl, by (repeat (first | with_reducible assumption | with_reducible exact Below.refl _ _ | (refine Below.setCell ?_ (by first | omega | (simp; done) | (simp; omega)) _) | (refine Below.drewN_ ?_ _) | (refine Below.drew ?_) | (refine Below.alloc ?_ (by first | omega | (simp; done) | (simp; omega)) _)))⟩
theorem even_struct (T : Ty) (h3 : T.k = 3) (hl : T.ps.length ≤ 7) (IH : ∀ p ∈ T.ps, EvenR p) : EvenR T := by
  intro cs w hr
  obtain ⟨An, cn, Ap, cp, rfl, hN, hP⟩ := hr.five
  have e : Hid ((sizeT T).2 = (T.ps.map sizeT).any (·.2)) := by
    show _ = _
    rw [sizeT_eq, if_neg (by omega), if_pos h3]; rfl
  rw [h3]
  have k0 := Blk.new_ w 25 #[.int .i64 3, .string T.nm, .slice An T.ns.length cn, .slice Ap T.ps.length cp, .bool T.many]
  go_enter Try.func56, Try.ntmps56
  go_wp2
  go_loopw [3] (fun i wr => EvRel T w i w.heap.size #[.int .i64 3, .string T.nm, .slice An T.ns.length cn, .slice Ap T.ps.length cp, .bool T.many] wr) (fun i _ => T.ps.length - (intOf i).toNat)
  case atStart => exact ⟨0, Nat.zero_le _, rfl, fun j _ h => absurd h (by omega), by (repeat (first | with_reducible assumption | with_reducible exact Below.refl _ _ | (refine Below.setCell ?_ (by first | omega | (simp; done) | (simp; omega)) _) | (refine Below.drewN_ ?_ _) | (refine Below.drew ?_) | (refine Below.alloc ?_ (by first | omega | (simp; done) | (simp; omega)) _))), k0⟩
  case round =>
    clear k0
    obtain ⟨k, hk, rfl, hg, hb, k1⟩ := hrel
    have q := k1.five
    by_cases hlt : k < T.ps.length
    · obtain ⟨b, o, An', cn', Ap', cp', rfl, hbl, hrep, hc⟩ := (RepL.keep hb T.ps _ hP).five hlt
      have hi : (k : Int) < (T.ps.length : Int) := by omega
      have hk7 : (k : Int) < 7 := by omega
      have hIH := Lib.hid (IH _ (List.getElem_mem hlt))
      have HG := Lib.hid hg
      clear hg
      have hno : (sizeT T.ps[k]).2 = true → (T.ps.map sizeT).any (·.2) = true := fun h => List.any_eq_true.2 ⟨_, List.mem_map.2 ⟨_, List.getElem_mem hlt, rfl⟩, h⟩
      have hyes : Hid ((sizeT T.ps[k]).2 = false → ∀ j (h : j < T.ps.length), j < k + 1 → (sizeT T.ps[j]).2 = false) := fun h0 j h hj => by
        rcases Nat.lt_or_ge j k with h1 | h1
        · exact HG.out j h h1
        · obtain rfl : j = k := by omega
          exact h0
      have HNO := Lib.hid hno
      clear hno
      generalize hps : T.ps[k] = p at *
      clear hps
      go_wp2_with fail
      refine (hIH.out _ _ hrep).mono ?_
      rintro e w2 ⟨rfl, hb2⟩
      have b3 := hb.trans (hb2.mono hb.size)
      have k2 := k1.below hb2
      clear q hc k1
      have q := k2.five
      rcases hev : (sizeT p).2 with _ | _
      · go_wp2
        go_roundw
        case rel => exact ⟨k + 1, by omega, by go_num, hyes.out hev, b3, k2⟩
        case measure => (first | (simp [intOf]; done) | (simp [intOf]; omega))
      · have hh := Lib.hid (HNO.out hev)
        go_wp2
        go_ret
        exact ⟨by rw [e.out, hh.out]; rfl, b3⟩
    · have hi : (T.ps.length : Int) ≤ (k : Int) := by omega
      have hh : Hid ((T.ps.map sizeT).any (·.2) = false) := by
        show _ = _
        rw [List.any_eq_false]
        intro x hx
        obtain ⟨p, hp, rfl⟩ := List.mem_map.1 hx
        obtain ⟨j, hj, rfl⟩ := List.getElem_of_mem hp
        rw [hg j hj (by omega)]
        decide
      clear hg
      go_wp2
      go_ret
      exact ⟨by rw [e.out, hh.out]; rfl, hb⟩
theorem even_all : ∀ (d : Nat) (T : Ty), mayT d T = true → EvenR T
  | 0, T, h => by cases h
  | d + 1, T, h => by
    by_cases h3 : T.k = 3
    · exact even_struct T h3 (may_len h) fun p hp => even_all d p ((may_st h h3).2.2.2.1 p hp)
    · exact even_other T h3
def plcR (T : Ty) (k : Nat) : Nat := if k < T.ps.length then plcZ (T.ps.map sizeT) k else (sizeT T).1
def PlaceR (T : Ty) (k : Nat) : Prop := ∀ (cs : List Value) (w : World), Rep w T cs → Calls Try.prog 55 #[.agg cs.toArray, .int .i64 (k : Int)] w fun e w' => e = .returned (.int .i64 (plcR T k : Int)) ∧ Below w.heap.size w w'
def PlRel (T : Ty) (k : Nat) (w : World) (a i : Value) (H : Nat) (bs : Array Value) (wr : World) : Prop :=
  ∃ j : Nat, j ≤ k ∧ i = .int .i64 j ∧ a = .int .i64 (endZ (T.ps.map sizeT) j : Int) ∧ Below w.heap.size w wr ∧ Blk wr H 25 bs
theorem endZ_91 {T : Ty} (hl : T.ps.length ≤ 7) (hm : ∀ p ∈ T.ps, (sizeT p).1 ≤ 12) {k : Nat} (hk : k ≤ T.ps.length) : endZ (T.ps.map sizeT) k ≤ 91 := by
  have := endZ_le (T.ps.map sizeT) 12 (fun j => by
    by_cases hj : j < T.ps.length
    · simp [hj]
      exact hm _ (List.getElem_mem hj)
    · simp [hj]) k
  omega
theorem wrap_small {a b : Int} (h1 : 0 ≤ a) (h2 : a ≤ 100000) (h3 : 0 ≤ b) (h4 : b ≤ 100000) : IntKind.i64.wrap (a + b) = a + b := by
  simp [IntKind.wrap, IntKind.min, IntKind.max, IntKind.signed, IntKind.bits]; omega
theorem place_any (T : Ty) (h3 : T.k = 3) (hl : T.ps.length ≤ 7) (hm : ∀ p ∈ T.ps, (sizeT p).1 ≤ 12) (hS : ∀ p ∈ T.ps, SizeR p) (hE : ∀ p ∈ T.ps, EvenR p) (hET : EvenR T) : ∀ (k : Nat), k ≤ T.ps.length → PlaceR T k := by
  intro k
  induction k using Nat.strongRecOn with
  | ind k IH =>
    intro hkl cs w hr
    have H3 := Lib.hid h3
    clear h3
    have hr0 := hr
    obtain ⟨An, cn, Ap, cp, rfl, hN, hP⟩ := hr.five
    have HR := Lib.hid hr0
    clear hr hr0
    have k0 := Blk.new_ w 25 #[.int .i64 T.k, .string T.nm, .slice An T.ns.length cn, .slice Ap T.ps.length cp, .bool T.many]
    have hk7 : (k : Int) ≤ 7 := by omega
    go_enter Try.func55, Try.ntmps55
    go_wp2
    go_loopw [5, 6] (fun a i wr => PlRel T k w a i w.heap.size #[.int .i64 T.k, .string T.nm, .slice An T.ns.length cn, .slice Ap T.ps.length cp, .bool T.many] wr) (fun _ i _ => k - (intOf i).toNat)
    case atStart => exact ⟨0, Nat.zero_le _, rfl, rfl, by (repeat (first | with_reducible assumption | with_reducible exact Below.refl _ _ | (refine Below.setCell ?_ (by first | omega | (simp; done) | (simp; omega)) _) | (refine Below.drewN_ ?_ _) | (refine Below.drew ?_) | (refine Below.alloc ?_ (by first | omega | (simp; done) | (simp; omega)) _))), k0⟩
    case round =>
      clear k0
      obtain ⟨j, hj, rfl, rfl, hb, k1⟩ := hrel
      have q := k1.five
      have hE91 := endZ_91 hl hm (Nat.le_trans hj hkl)
      by_cases hlt : j < k
      · have hjl : j < T.ps.length := by omega
        obtain ⟨b, o, An', cn', Ap', cp', rfl, hbl, hrep, hc⟩ := (RepL.keep hb T.ps _ hP).five hjl
        have hi : (j : Int) < (k : Int) := by omega
        have hi2 : (j : Int) < (T.ps.length : Int) := by omega
        have hz12 := hm _ (List.getElem_mem hjl)
        have hz : (T.ps.map sizeT).getD j (0, false) = sizeT T.ps[j] := by simp [hjl]
        have hsucc := endZ_succ (T.ps.map sizeT) j
        rw [hz] at hsucc
        have hE91' := endZ_91 hl hm (show j + 1 ≤ T.ps.length by omega)
        have hplc : plcR T j = plcZ (T.ps.map sizeT) j := by unfold plcR; rw [if_pos hjl]
        have hIH := IH j hlt (by omega)
        have hSk := hS _ (List.getElem_mem hjl)
        clear hz
        generalize T.ps[j] = p at *
        have HPC : Hid (∀ W, (Below wr.heap.size wr W ∧ (W.cell? ⟨w.heap.size, 0, none⟩ = some (.int .i64 T.k) ∧ W.cell? ⟨w.heap.size, 1, none⟩ = some (.string T.nm) ∧ W.cell? ⟨w.heap.size, 2, none⟩ = some (.slice An T.ns.length cn) ∧ W.cell? ⟨w.heap.size, 3, none⟩ = some (.slice (some ⟨b, o, none⟩) T.ps.length cp) ∧ W.cell? ⟨w.heap.size, 4, none⟩ = some (.bool T.many)) ∧ W.cell? ⟨b, o + j * 5, none⟩ = some (.int .i64 p.k) ∧ W.cell? ⟨b, o + j * 5 + 1, none⟩ = some (.string p.nm) ∧ W.cell? ⟨b, o + j * 5 + 2, none⟩ = some (.slice An' p.ns.length cn') ∧ W.cell? ⟨b, o + j * 5 + 3, none⟩ = some (.slice Ap' p.ps.length cp') ∧ W.cell? ⟨b, o + j * 5 + 4, none⟩ = some (.bool p.many)) → Calls Try.prog 55 #[.agg #[.int .i64 T.k, .string T.nm, .slice An T.ns.length cn, .slice (some ⟨b, o, none⟩) T.ps.length cp, .bool T.many], .int .i64 (j : Int)] W fun e w' => e = .returned (.int .i64 (plcZ (T.ps.map sizeT) j : Int)) ∧ Below W.heap.size W w') := fun W hW => by
          have h := hIH _ W (Rep.keep (hb.trans (hW.1.mono hb.size)) _ _ HR.out)
          rw [hplc] at h
          exact h
        have HSZ : Hid (∀ W, (Below wr.heap.size wr W ∧ (W.cell? ⟨w.heap.size, 0, none⟩ = some (.int .i64 T.k) ∧ W.cell? ⟨w.heap.size, 1, none⟩ = some (.string T.nm) ∧ W.cell? ⟨w.heap.size, 2, none⟩ = some (.slice An T.ns.length cn) ∧ W.cell? ⟨w.heap.size, 3, none⟩ = some (.slice (some ⟨b, o, none⟩) T.ps.length cp) ∧ W.cell? ⟨w.heap.size, 4, none⟩ = some (.bool T.many)) ∧ W.cell? ⟨b, o + j * 5, none⟩ = some (.int .i64 p.k) ∧ W.cell? ⟨b, o + j * 5 + 1, none⟩ = some (.string p.nm) ∧ W.cell? ⟨b, o + j * 5 + 2, none⟩ = some (.slice An' p.ns.length cn') ∧ W.cell? ⟨b, o + j * 5 + 3, none⟩ = some (.slice Ap' p.ps.length cp') ∧ W.cell? ⟨b, o + j * 5 + 4, none⟩ = some (.bool p.many)) → Calls Try.prog 28 #[.agg #[.int .i64 p.k, .string p.nm, .slice An' p.ns.length cn', .slice Ap' p.ps.length cp', .bool p.many]] W fun e w' => e = .returned (.int .i64 ((sizeT p).1 : Int)) ∧ Below W.heap.size W w') := fun W hW =>
          hSk _ W (Rep.keep hW.1 _ _ hrep)
        clear hIH hSk hplc
        have hl0 : w.heap.size < wr.heap.size := k1.lt
        have hsucc' := Lib.hid hsucc
        have hwr : IntKind.i64.wrap ((plcZ (T.ps.map sizeT) j : Int) + ((sizeT p).1 : Int)) = (plcZ (T.ps.map sizeT) j : Int) + ((sizeT p).1 : Int) := wrap_small (by omega) (by omega) (by omega) (by omega)
        clear hsucc
        generalize (sizeT p).1 = z at *
        generalize plcZ (T.ps.map sizeT) j = P at *
        go_wp2_with fail
        go_region_held3 (fun W => Below wr.heap.size wr W ∧ (W.cell? ⟨w.heap.size, 0, none⟩ = some (.int .i64 T.k) ∧ W.cell? ⟨w.heap.size, 1, none⟩ = some (.string T.nm) ∧ W.cell? ⟨w.heap.size, 2, none⟩ = some (.slice An T.ns.length cn) ∧ W.cell? ⟨w.heap.size, 3, none⟩ = some (.slice (some ⟨b, o, none⟩) T.ps.length cp) ∧ W.cell? ⟨w.heap.size, 4, none⟩ = some (.bool T.many)) ∧ W.cell? ⟨b, o + j * 5, none⟩ = some (.int .i64 p.k) ∧ W.cell? ⟨b, o + j * 5 + 1, none⟩ = some (.string p.nm) ∧ W.cell? ⟨b, o + j * 5 + 2, none⟩ = some (.slice An' p.ns.length cn') ∧ W.cell? ⟨b, o + j * 5 + 3, none⟩ = some (.slice Ap' p.ps.length cp') ∧ W.cell? ⟨b, o + j * 5 + 4, none⟩ = some (.bool p.many)) (first | exact ⟨(Below.refl _ _).drew, q, hc⟩ | exact keep11 hl0 hbl (by assumption) hbq | exact ⟨Below.drew (And.left (by assumption)), And.right (by assumption)⟩ | go_keep) (first | (go_at_call 55; ((with_reducible refine (HPC.out _ (by assumption)).mono ?_); rintro e w' ⟨rfl, hbq⟩)) | (go_at_call 28; ((with_reducible refine (HSZ.out _ (by assumption)).mono ?_); rintro e w' ⟨rfl, hbq⟩)))
        all_goals
          rename_i hh
          have hbf := hb.trans (hh.1.mono hb.size)
          have k2 := k1.below hh.1
          clear q hc
          have q := k2.five
          go_wp2
          go_roundw
          case rel => exact ⟨j + 1, by omega, by go_num, by rw [hsucc'.out]; go_num, hbf, k2⟩
          case measure => (first | (simp [intOf]; done) | (simp [intOf]; omega))
      · obtain rfl : j = k := by omega
        have hEI : (endZ (T.ps.map sizeT) j : Int) ≤ 91 := by omega
        have hin : ¬ (j : Int) < (j : Int) := by omega
        by_cases hjl : j < T.ps.length
        · obtain ⟨b, o, An', cn', Ap', cp', rfl, hbl, hrep, hc⟩ := (RepL.keep hb T.ps _ hP).five hjl
          have hi2 : (j : Int) < (T.ps.length : Int) := by omega
          have hev := Lib.hid (hE _ (List.getElem_mem hjl))
          have hz : (T.ps.map sizeT).getD j (0, false) = sizeT T.ps[j] := by simp [hjl]
          have hplc : plcR T j = if (sizeT T.ps[j]).2 then endZ (T.ps.map sizeT) j + endZ (T.ps.map sizeT) j % 2 else endZ (T.ps.map sizeT) j := by unfold plcR plcZ; rw [if_pos hjl, hz]
          have HPL := Lib.hid hplc
          clear hz hplc
          generalize T.ps[j] = p at *
          generalize endZ (T.ps.map sizeT) j = E at *
          go_wp2_with fail
          refine (hev.out _ _ hrep).mono ?_
          rintro e w2 ⟨rfl, hb2⟩
          have b3 := hb.trans (hb2.mono hb.size)
          have k2 := k1.below hb2
          clear q hc k1
          have q := k2.five
          rcases hevv : (sizeT p).2 with _ | _
          · have hf : Hid (plcR T j = E) := by have := HPL.out; rw [hevv] at this; show _ = _; simpa using this
            clear HPL
            go_wp2
            go_ret
            exact ⟨by rw [hf.out]; rfl, b3⟩
          · have hf : plcR T j = E + E % 2 := by have := HPL.out; rw [hevv] at this; simpa using this
            clear HPL
            rcases Nat.mod_two_eq_zero_or_one E with h0 | h0
            · have t : ((E : Int) % 2 == 1) = false := by simp; omega
              have hf' : Hid (plcR T j = E) := by show _ = _; omega
              clear hf h0
              go_wp2
              go_ret
              exact ⟨by rw [hf'.out]; rfl, b3⟩
            · have t : ((E : Int) % 2 == 1) = true := by simp; omega
              have hf' : Hid (plcR T j = E + 1) := by show _ = _; omega
              clear hf h0
              go_wp2
              go_ret
              exact ⟨by rw [hf'.out]; rfl, b3⟩
        · have hi2 : ¬ (j : Int) < (T.ps.length : Int) := by omega
          have hi3 : (T.ps.length : Int) ≤ (j : Int) := by omega
          have hje : j = T.ps.length := by omega
          have hsz : (sizeT T) = sizeZ (T.ps.map sizeT) := by rw [sizeT_eq, if_neg (by rw [H3.out]; decide), if_pos H3.out]
          have hplc : plcR T j = if (sizeT T).2 then endZ (T.ps.map sizeT) j + endZ (T.ps.map sizeT) j % 2 else endZ (T.ps.map sizeT) j := by
            unfold plcR
            rw [if_neg hjl, hsz]
            unfold sizeZ
            rw [List.length_map, ← hje]
          have HPL := Lib.hid hplc
          have HET := Lib.hid hET
          clear hplc hsz hje hET
          generalize endZ (T.ps.map sizeT) j = E at *
          go_wp2_with fail
          refine (HET.out _ _ (Rep.keep hb _ _ HR.out)).mono ?_
          rintro e w2 ⟨rfl, hb2⟩
          have b3 := hb.trans (hb2.mono hb.size)
          have k2 := k1.below hb2
          clear q k1
          have q := k2.five
          rcases hevv : (sizeT T).2 with _ | _
          · have hf : Hid (plcR T j = E) := by have := HPL.out; rw [hevv] at this; show _ = _; simpa using this
            clear HPL
            go_wp2
            go_ret
            exact ⟨by rw [hf.out]; rfl, b3⟩
          · have hf : plcR T j = E + E % 2 := by have := HPL.out; rw [hevv] at this; simpa using this
            clear HPL
            rcases Nat.mod_two_eq_zero_or_one E with h0 | h0
            · have t : ((E : Int) % 2 == 1) = false := by simp; omega
              have hf' : Hid (plcR T j = E) := by show _ = _; omega
              clear hf h0
              go_wp2
              go_ret
              exact ⟨by rw [hf'.out]; rfl, b3⟩
            · have t : ((E : Int) % 2 == 1) = true := by simp; omega
              have hf' : Hid (plcR T j = E + 1) := by show _ = _; omega
              clear hf h0
              go_wp2
              go_ret
              exact ⟨by rw [hf'.out]; rfl, b3⟩
theorem sizeR_other (T : Ty) (h3 : T.k ≠ 3) : SizeR T := by
  intro cs w hr
  obtain ⟨An, cn, Ap, cp, rfl, hN, hP⟩ := hr.five
  by_cases h2 : T.k = 2
  · have e : Hid ((sizeT T).1 = 2) := by show _ = _; rw [sizeT_eq, if_pos h2]
    rw [h2]
    go_enter Try.func28, Try.ntmps28
    go_wp2
    go_ret
    exact ⟨by rw [e.out]; rfl, by (repeat (first | with_reducible assumption | with_reducible exact Below.refl _ _ | (refine Below.setCell ?_ (by first | omega | (simp; done) | (simp; omega)) _) | (refine Below.drewN_ ?_ _) | (refine Below.drew ?_) | (refine Below.alloc ?_ (by first | omega | (simp; done) | (simp; omega)) _)))⟩
  · have e : Hid ((sizeT T).1 = 1) := by show _ = _; rw [sizeT_eq, if_neg h2, if_neg h3]
    have t2 : (T.k == 2) = false := by simpa using h2
    have t3 : (T.k == 3) = false := by simpa using h3
    go_enter Try.func28, Try.ntmps28
    go_wp2
    go_ret
    exact ⟨by rw [e.out]; rfl, by (repeat (first | with_reducible assumption | with_reducible exact Below.refl _ _ | (refine Below.setCell ?_ (by first | omega | (simp; done) | (simp; omega)) _) | (refine Below.drewN_ ?_ _) | (refine Below.drew ?_) | (refine Below.alloc ?_ (by first | omega | (simp; done) | (simp; omega)) _)))⟩
theorem sizeR_struct (T : Ty) (h3 : T.k = 3) (hpl : PlaceR T T.ps.length) : SizeR T := by
  intro cs w hr
  have hr0 := hr
  obtain ⟨An, cn, Ap, cp, rfl, hN, hP⟩ := hr.five
  have HR := Lib.hid hr0
  have e : Hid (plcR T T.ps.length = (sizeT T).1) := by show _ = _; unfold plcR; rw [if_neg (by omega)]
  have HP : Hid (∀ (cs : List Value) (w : World), Rep w T cs → Calls Try.prog 55 #[.agg cs.toArray, .int .i64 ((T.ps.length : Nat) : Int)] w fun e w' => e = .returned (.int .i64 (plcR T T.ps.length : Int)) ∧ Below w.heap.size w w') := hpl
  clear hr hr0 hpl
  rw [h3] at HR ⊢
  go_enter Try.func28, Try.ntmps28
  go_wp2_with fail
  with_reducible refine (HP.out _ _ (Rep.keep (by (repeat (first | with_reducible assumption | with_reducible exact Below.refl _ _ | (refine Below.setCell ?_ (by first | omega | (simp; done) | (simp; omega)) _) | (refine Below.drewN_ ?_ _) | (refine Below.drew ?_) | (refine Below.alloc ?_ (by first | omega | (simp; done) | (simp; omega)) _)))) _ _ HR.out)).mono ?_
  rintro e' w2 ⟨rfl, hb2⟩
  rw [e.out]
  go_wp2
  go_ret
  exact ⟨rfl, Below.trans (by (repeat (first | with_reducible assumption | with_reducible exact Below.refl _ _ | (refine Below.setCell ?_ (by first | omega | (simp; done) | (simp; omega)) _) | (refine Below.drewN_ ?_ _) | (refine Below.drew ?_) | (refine Below.alloc ?_ (by first | omega | (simp; done) | (simp; omega)) _)))) (hb2.mono (by simp))⟩
theorem sizeR_all : ∀ (d : Nat) (T : Ty), mayT d T = true → SizeR T
  | 0, T, h => by cases h
  | d + 1, T, h => by
    by_cases h3 : T.k = 3
    · have hp := (may_st h h3).2.2.2.1
      exact sizeR_struct T h3 (place_any T h3 (may_len h) (fun p hpp => (sized_of_may d p (hp p hpp)).2) (fun p hpp => sizeR_all d p (hp p hpp)) (fun p hpp => even_all d p (hp p hpp)) (even_all (d + 1) T h) _ (Nat.le_refl _))
    · exact sizeR_other T h3
end Go.Proofs.Ytkkjkbljgaipcaa
