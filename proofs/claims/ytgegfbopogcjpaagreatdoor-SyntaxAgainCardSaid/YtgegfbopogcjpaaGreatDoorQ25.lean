/- What is read may be printed, 4: a known text. No program is in sight; How deep a node is, and how many it has: syntax.weigh; syntax.Print's deferred closure; A unit printed: syntax.Print; syntax.Parse's deferred closure. -/
import Derived.Test.YtgegfbopogcjpaaGreatDoorQ01
import Derived.Test.YtgegfbopogcjpaaGreatDoorQ02
import Derived.Test.YtgegfbopogcjpaaGreatDoorQ07
import Derived.Test.YtgegfbopogcjpaaGreatDoorQ08
import Derived.Test.YtgegfbopogcjpaaGreatDoorQ14
import Derived.Test.YtgegfbopogcjpaaGreatDoorQ16
import Derived.Test.YtgegfbopogcjpaaGreatDoorQ24
import Derived.WalkKit
import Derived.Deep.LoopGhost
import Derived.WalkLawsBesides
import Derived.Lib.Hide
import Derived.IntWalk
namespace Go.Proofs.YtgegfbopogcjpaaGreatDoor
set_option linter.unusedVariables false
set_option linter.unusedSimpArgs false
set_option maxRecDepth 100000
def kn : Nd := .mk 1 ⟨#[]⟩ 0 [.mk 6 ⟨#[103]⟩ 0 [.mk 9 ⟨#[]⟩ 0 [], .mk 21 ⟨#[]⟩ 1 []]]
theorem known_parse : parseOf ⟨#[105, 110, 116, 32, 103, 61, 49, 59]⟩ = ⟨kn, 0, 0⟩ := by rfl
theorem digs1 : digsN 1 = [49] := by
 unfold digsN
 rw [Lib.decDigits_one (by decide)]
 rfl
theorem known_shw : shw kn = [⟨#[105, 110, 116]⟩, ⟨#[103]⟩, ⟨#[61]⟩, ⟨#[49]⟩, ⟨#[59]⟩] := by
 have h : shw (.mk 21 ⟨#[]⟩ 1 []) = [⟨#[49]⟩] := by
  rw [shw_eq]
  show numT 21 1 = _
  unfold numT
  rw [if_neg (by decide), show (1 : Int).natAbs = 1 from rfl, digs1]
  rfl
 show [] ++ shw (.mk 9 ⟨#[]⟩ 0 []) ++ [⟨#[103]⟩, ⟨#[61]⟩] ++ shw (.mk 21 ⟨#[]⟩ 1 []) ++ [⟨#[59]⟩] ++ [] = _
 rw [h]
 rfl
theorem known_print : printT kn = ⟨#[105, 110, 116, 32, 103, 32, 61, 32, 49, 32, 59]⟩ := by
 unfold printT
 rw [known_shw, if_pos]
 ·rfl
 ·exact ⟨by decide, rfl, by decide, by decide⟩
end Go.Proofs.YtgegfbopogcjpaaGreatDoor
namespace Go.Proofs.YtgegfbopogcjpaaGreatDoor
open Go.RowKit
set_option linter.unusedVariables false
set_option linter.unusedSimpArgs false
set_option maxRecDepth 100000
set_option maxHeartbeats 1000000
theorem wmany_eq (n : Nd) : many n = manyL n.kids + 1 := by cases n; rw [many]; rfl
theorem wdeep_eq (n : Nd) : deep n = deepL n.kids + 1 := by cases n; rw [deep]; rfl
theorem wmanyL_append (l r : List Nd) : manyL (l ++ r) = manyL l + manyL r := by
 induction l with
 | nil => simp [manyL]
 | cons a l ih => rw [List.cons_append, manyL, manyL, ih]; omega
theorem wdeepL_append (l r : List Nd) : deepL (l ++ r) = max (deepL l) (deepL r) := by
 induction l with
 | nil => simp [deepL]
 | cons a l ih => rw [List.cons_append, deepL, deepL, ih]; omega
theorem wmany_take {l : List Nd} {k : Nat} (h : k < l.length) : manyL (l.take (k + 1)) = manyL (l.take k) + many l[k] := by
 rw [List.take_succ_eq_append_getElem h, wmanyL_append]; simp [manyL]
theorem wdeep_take {l : List Nd} {k : Nat} (h : k < l.length) : deepL (l.take (k + 1)) = max (deepL (l.take k)) (deep l[k]) := by
 rw [List.take_succ_eq_append_getElem h, wdeepL_append]; simp [deepL]
theorem wmany_part {l : List Nd} {k : Nat} (h : k < l.length) : manyL (l.take k) + many l[k] ≤ manyL l := by
 rw [← wmany_take h]
 have := wmanyL_append (l.take (k + 1)) (l.drop (k + 1))
 rw [List.take_append_drop] at this
 omega
theorem wdeep_part {l : List Nd} {k : Nat} (h : k < l.length) : deep l[k] ≤ deepL l := by
 have h1 := wdeepL_append (l.take (k + 1)) (l.drop (k + 1))
 rw [List.take_append_drop, wdeep_take h] at h1
 omega
def wOk (C D : Int) (n : Nd) : Bool := decide (C + many n ≤ 700) && decide (D + deep n ≤ 17)
theorem grow_set' (w : World) (b i : Nat) (u : Value) : w.grownBy (w.setCell ⟨b, i, none⟩ u) (some b) :=
 ⟨rfl, rfl, rfl, by simp [World.setCell], fun k hk hne => Below.heap_setCell w _ u k (fun e => hne (by rw [e]))⟩
theorem grow_alloc' (w : World) (o : Obj) (row : Option Nat) : w.grownBy (w.alloc o) row := ⟨rfl, rfl, rfl, by simp, fun i hi _ => Below.heap_alloc w o i hi⟩
theorem grow_below' {B : Nat} {w w' : World} {pm : Nat} (h : w.grownBy w' (some pm)) (hB : B ≤ pm) (hw : B ≤ w.heap.size) : Below B w w' :=
 ⟨h.os, h.tape, h.output, h.size, fun k hk => h.block k (Nat.lt_of_lt_of_le hk hw) (by intro e; injection e with e; omega)⟩
def WeOut (pm : Nat) (C D : Int) (n : Nd) (w : World) (e : Ending) (w' : World) : Prop :=
 w.grownBy w' (some pm) ∧ (wOk C D n = true ∧ e = .returned (.bool true) ∧ Blk w' pm 3 #[.int .i64 (C + many n)] ∨ wOk C D n = false ∧ e = .returned (.bool false))
def WeRel (pm : Nat) (C D : Int) (l : List Nd) (w : World) (i : Value) (wr : World) : Prop :=
 ∃ k : Nat, i = .int .i64 k ∧ k ≤ l.length ∧ Hid (w.grownBy wr (some pm) ∧ Blk wr pm 3 #[.int .i64 (C + 1 + manyL (l.take k))] ∧ C + 1 + manyL (l.take k) ≤ 700 ∧ D + deepL (l.take k) ≤ 16)
def Weighs (w0 : World) (n : Nd) : Prop :=
 ∀ (cs : List Value) (w : World) (pm : Nat) (C D : Int), RepN w0 n cs → Below w0.heap.size w0 w → w0.heap.size ≤ pm → Blk w pm 3 #[.int .i64 C] → 0 ≤ C → C ≤ 700 → 1 ≤ D → D ≤ 17 →
  Calls Tryz.prog 13 #[.agg cs.toArray, .int .i64 D, .pointer (some ⟨pm, 0, none⟩)] w (WeOut pm C D n w)
theorem weigh_all (w0 : World) : ∀ (N : Nat) (n : Nd), many n ≤ N → Weighs w0 n
 | 0, n, h => absurd h (by have := many_pos n; omega)
 | N + 1, n, hN => by
  intro cs w pm C D hr hb0 hpm hk hC0 hC hD0 hD
  have IH := Lib.hid (fun m (hm : m ∈ n.kids) => weigh_all w0 N m (by have := many_kid hm; omega))
  obtain ⟨A, c, rfl, hR, hcap, hlm, hn64, hts⟩ := hr.four
  have HR := Lib.hid hR
  clear hr hR hN
  have hmn := wmany_eq n
  have hdn := wdeep_eq n
  have hlt := hk.lt
  have hwle : w0.heap.size ≤ w.heap.size := hb0.size
  have hne : pm ≠ w.heap.size := by omega
  have c0 := hk.cell 0 (.int .i64 C) rfl
  have f0 := hk.free 0
  have K1 := Lib.hid ((hk.set_ 0 (.int .i64 (C + 1))).alloc (.cells #[.int .i64 n.k, .string n.t, .int .i64 n.num, .slice A n.kids.length c] 24))
  have G1 := Lib.hid ((grow_set' w pm 0 (.int .i64 (C + 1))).trans (grow_alloc' _ (.cells #[.int .i64 n.k, .string n.t, .int .i64 n.num, .slice A n.kids.length c] 24) (some pm)))
  obtain ⟨V, HV⟩ : ∃ V, Hid (wOk C D n = V) := ⟨_, rfl⟩
  by_cases h1 : D ≤ 16
  ·by_cases h2 : C + 1 ≤ 700
   ·have d1 : decide (16 < D) = false := by rw [decide_eq_false_iff_not]; omega
    have d2 : decide (700 < C + 1) = false := by rw [decide_eq_false_iff_not]; omega
    have hll := manyL_len n.kids
    have hl9 : n.kids.length ≤ 9223372036854775807 := by unfold maxLen at hlm; omega
    go_enter Tryz.func13, Tryz.ntmps13
    go_wp2_with fail
    generalize n.kids = l at *
    go_loopw [25] (fun i wr => WeRel pm C D l w i wr) (fun i _ => l.length - (intOf i).toNat)
    case atStart => exact ⟨0, rfl, Nat.zero_le _, Lib.hid ⟨G1.out, by simpa [manyL, Blk] using K1.out, by simp [manyL]; omega, by simp [deepL]; omega⟩⟩
    case round =>
     obtain ⟨k, rfl, hk1, HL⟩ := hrel
     clear K1 G1 c0 f0
     have c1 := HL.out.2.1.cell 0 (.int .i64 (C + 1 + manyL (l.take k))) rfl
     have f1 := HL.out.2.1.free 0
     have hc7 := HL.out.2.2.1
     have hd16 := HL.out.2.2.2
     by_cases hlt' : k < l.length
     ·have hi : (k : Int) < (l.length : Int) := by omega
      obtain ⟨b, o, cs, hA, hbl, hc, hrep⟩ := RepNL.at_ l _ HR.out k hlt'
      subst hA
      obtain ⟨A', c', rfl, -⟩ := hrep.four
      have bw := hb0.trans (grow_below' HL.out.1 hpm hwle)
      have z0 := (bw.cell (p := ⟨b, o + k * 4 + 0, none⟩) hbl).trans (hc 0 _ rfl)
      have z1 := (bw.cell (p := ⟨b, o + k * 4 + 1, none⟩) hbl).trans (hc 1 _ rfl)
      have z2 := (bw.cell (p := ⟨b, o + k * 4 + 2, none⟩) hbl).trans (hc 2 _ rfl)
      have z3 := (bw.cell (p := ⟨b, o + k * 4 + 3, none⟩) hbl).trans (hc 3 _ rfl)
      rw [Nat.add_zero] at z0
      have BW := Lib.hid bw
      have HREP := Lib.hid hrep
      have hm1 := wmany_part hlt'
      have hd1 := wdeep_part hlt'
      have HT := Lib.hid (wmany_take hlt')
      have HTD := Lib.hid (wdeep_take hlt')
      have HI := Lib.hid (IH.out _ (List.getElem_mem hlt'))
      have hsz := bw.size
      have hps := HL.out.2.1.lt
      clear hc bw hrep
      generalize l[k] = x at *
      have KX := Lib.hid (HL.out.2.1.alloc (.cells #[.int .i64 x.k, .string x.t, .int .i64 x.num, .slice A' x.kids.length c'] 24))
      have GX := Lib.hid (HL.out.1.trans (grow_alloc' wr (.cells #[.int .i64 x.k, .string x.t, .int .i64 x.num, .slice A' x.kids.length c'] 24) (some pm)))
      have BX := Lib.hid (BW.out.alloc hsz (.cells #[.int .i64 x.k, .string x.t, .int .i64 x.num, .slice A' x.kids.length c'] 24))
      go_wp2_with fail
      refine (HI.out _ _ pm (C + 1 + manyL (l.take k)) (D + 1) HREP.out BX.out hpm KX.out (by omega) (by omega) (by omega) (by omega)).mono ?_
      rintro e w2 ⟨g2, (⟨o2, rfl, k2⟩ | ⟨o2, rfl⟩)⟩
      ·have G2 := Lib.hid (GX.out.trans g2)
       have K2 := Lib.hid k2
       have hx1 : C + 1 + manyL (l.take k) + many x ≤ 700 ∧ D + 1 + deep x ≤ 17 := by
        unfold wOk at o2
        simp only [Bool.and_eq_true, decide_eq_true_eq] at o2
        exact o2
       have HX1 := Lib.hid hx1
       clear g2 k2 o2 hx1
       go_wp2
       go_roundw
       case rel =>
        refine ⟨k + 1, by go_num, by omega, Lib.hid ⟨G2.out, ?_, ?_, ?_⟩⟩
        ·rw [HT.out]
         have := K2.out
         rw [show C + 1 + ((manyL (l.take k) + many x : Nat) : Int) = C + 1 + manyL (l.take k) + many x by omega]
         exact this
        ·rw [HT.out]; have := HX1.out.1; omega
        ·rw [HTD.out]; have := HX1.out.2; omega
       case measure => (first | (simp [intOf]; done) | (simp [intOf]; omega))
      ·have G2 := Lib.hid (GX.out.trans g2)
       have hvf : V = false := by
        rw [← HV.out]
        unfold wOk at o2 ⊢
        rw [Bool.and_eq_false_iff] at o2 ⊢
        simp only [decide_eq_false_iff_not] at o2 ⊢
        omega
       have HVF := Lib.hid hvf
       clear g2 o2 hvf
       go_wp2
       go_ret
       exact ⟨G2.out, .inr ⟨HV.out.trans HVF.out, rfl⟩⟩
     ·have hi : ¬ (k : Int) < (l.length : Int) := by omega
      obtain rfl : k = l.length := by omega
      have hvt : V = true := by
       rw [← HV.out]
       unfold wOk
       rw [List.take_length] at hc7 hd16
       rw [Bool.and_eq_true]
       simp only [decide_eq_true_eq]
       omega
      have HVT := Lib.hid hvt
      have KF : Hid (Blk wr pm 3 #[.int .i64 (C + many n)]) := by
       have := HL.out.2.1
       rw [List.take_length] at this
       rw [hmn]
       rw [show C + ((manyL l + 1 : Nat) : Int) = C + 1 + manyL l by omega]
       exact this
      clear hvt
      go_wp2
      go_ret
      exact ⟨HL.out.1, .inl ⟨HV.out.trans HVT.out, rfl, KF.out⟩⟩
   ·have d1 : decide (16 < D) = false := by rw [decide_eq_false_iff_not]; omega
    have d2 : decide (700 < C + 1) = true := by rw [decide_eq_true_eq]; omega
    have hvf : V = false := by
     rw [← HV.out]
     unfold wOk
     rw [Bool.and_eq_false_iff]
     simp only [decide_eq_false_iff_not]
     omega
    have HVF := Lib.hid hvf
    clear hvf
    go_enter Tryz.func13, Tryz.ntmps13
    go_wp2
    go_ret
    exact ⟨G1.out, .inr ⟨HV.out.trans HVF.out, rfl⟩⟩
  ·have d1 : decide (16 < D) = true := by rw [decide_eq_true_eq]; omega
   have hdp : 1 ≤ deep n := by omega
   have hvf : V = false := by
    rw [← HV.out]
    unfold wOk
    rw [Bool.and_eq_false_iff]
    simp only [decide_eq_false_iff_not]
    omega
   have HVF := Lib.hid hvf
   clear hvf
   go_enter Tryz.func13, Tryz.ntmps13
   go_wp2
   go_ret
   exact ⟨G1.out, .inr ⟨HV.out.trans HVF.out, rfl⟩⟩
theorem weigh_any (w0 : World) (n : Nd) : Weighs w0 n := weigh_all w0 _ n (Nat.le_refl _)
theorem wOk_fits (n : Nd) : wOk 0 1 n = fitsN n := by
 unfold wOk fitsN
 congr 1
 ·rw [decide_eq_decide]; omega
 ·rw [decide_eq_decide]; omega
end Go.Proofs.YtgegfbopogcjpaaGreatDoor
namespace Go.Proofs.YtgegfbopogcjpaaGreatDoor
open Go.RowKit
set_option linter.unusedVariables false
set_option linter.unusedSimpArgs false
set_option maxRecDepth 100000
set_option maxHeartbeats 1000000
theorem catch_idle (p q : Addr) (w : World) :
 CallsD Tryz.prog 17 #[.pointer (some p), .pointer (some q)] .returning w fun e u' w' => e = .returned (.tuple #[]) ∧ u' = .returning ∧ w' = w := by
 refine callsD_of_wpS Tryz.func17 rfl fun c₀ cs hu => ?_
 apply wpS_seq
 apply wpS_region
 simp [wpOpsS, go_sem, recoverD, hu, Tryz.ntmps17, Exit.thenS, Array.replicate]
 refine wpS_of_wp ?_
 go_wp2
 cases c₀
 simp_all [bodyPostS, results, Tryz.results17]
theorem ta_none (w : World) : (Instr.typeAssert (.iface 52 (.agg #[])) 20 52 true).run Tryz.prog w = .ok (.tuple #[.agg #[], .bool true]) w := by kernel_rfl
theorem catch_none (b1 b2 : Nat) (s : ByteArray) (k : Int) (w : World) (h1 : Blk w b1 9 #[.string s]) (h2 : Blk w b2 25 #[.int .i64 k]) (hne : b1 ≠ b2) :
 CallsD Tryz.prog 17 #[.pointer (some ⟨b1, 0, none⟩), .pointer (some ⟨b2, 0, none⟩)] (.panicking [{ v := .iface 52 (.agg #[]), recovered := false }]) w fun e u' w' =>
  e = .returned (.tuple #[]) ∧ u' = .panicking [{ v := .iface 52 (.agg #[]), recovered := true }] ∧ Blk w' b1 9 #[.string ⟨#[]⟩] ∧ Blk w' b2 25 #[.int .i64 2] ∧ w'.os = w.os ∧ w'.tape = w.tape ∧ w'.output = w.output ∧ w.heap.size ≤ w'.heap.size ∧ ∀ j, j < w.heap.size → j ≠ b1 → j ≠ b2 → w'.heap[j]? = w.heap[j]? := by
 have c1 := h1.cell 0 (.string s) rfl
 have c2 := h2.cell 0 (.int .i64 k) rfl
 have f1 := h1.free 0
 have f2 := h2.free 0
 have H1 := Lib.hid h1
 have H2 := Lib.hid h2
 have hta := ta_none
 have hl1 := h1.lt
 have hl2 := h2.lt
 clear h1 h2
 refine callsD_of_wpS Tryz.func17 rfl fun c₀ cs hu => ?_
 apply wpS_seq
 apply wpS_region
 simp [wpOpsS, go_sem, recoverD, hu, Tryz.ntmps17, Exit.thenS, Array.replicate]
 refine wpS_of_wp ?_
 go_wp2
 refine ⟨rfl, _, by cases c₀; rfl, _, results_none rfl _ _ _, rfl, rfl, ?_, ?_, rfl, rfl, rfl, ?_, ?_⟩
 ·exact ((H1.out.set_ 0 (.string ⟨#[]⟩)).far (p := ⟨b2, 0, none⟩) hne _).alloc _
 ·exact ((H2.out.far (p := ⟨b1, 0, none⟩) (fun e => hne e.symm) _).set_ 0 (.int .i64 2)).alloc _
 ·simp [World.setCell]
 ·intro j hj h1 h2
  exact (Below.heap_alloc _ _ j (by simpa [World.setCell] using hj)).trans ((Below.heap_setCell _ ⟨b2, 0, none⟩ _ j h2).trans (Below.heap_setCell _ ⟨b1, 0, none⟩ _ j h1))
end Go.Proofs.YtgegfbopogcjpaaGreatDoor
namespace Go.Proofs.YtgegfbopogcjpaaGreatDoor
open Go.RowKit
set_option linter.unusedVariables false
set_option linter.unusedSimpArgs false
set_option maxRecDepth 100000
set_option maxHeartbeats 2000000
theorem join_eq : ∀ l : List ByteArray, Lib.join (l.map (·.data.toList)) (⟨#[32]⟩ : ByteArray).data.toList = joinW l
 | [] => rfl
 | [a] => by rw [List.map_cons, List.map_nil, Lib.join_one]; rfl
 | a :: b :: l => by
  have h := join_eq (b :: l)
  rw [joinW, ← h]
  simp [Lib.join, List.intercalate, List.intersperse]
theorem results_print {w : World} {b1 b2 : Nat} {s : ByteArray} {k : Int} {tmps : Array Value} (h1 : Blk w b1 9 #[.string s]) (h2 : Blk w b2 25 #[.int .i64 k]) (t2 : tmps.getD 2 undef = .pointer (some ⟨b1, 0, none⟩)) (t3 : tmps.getD 3 undef = .pointer (some ⟨b2, 0, none⟩)) :
 (results Tryz.f9 tmps).run Tryz.prog w = .ok (.tuple #[.string s, .int .i64 k]) w := by
 have c0 := h1.cell 0 (.string s) rfl
 have c1 := h2.cell 0 (.int .i64 k) rfl
 simp only [Array.getD_eq_getD_getElem?] at t2 t3
 simp [results, Tryz.results9, go_sem, t2, t3, c0, c1]
theorem PK.old {p k : Nat} {w w' : World} (h : PK p w w') (hk : k < w.heap.size) (hp : k ≠ p) (hr : rowAt w p = none) : w'.heap[k]? = w.heap[k]? := (h.keep k hk hp (by rw [hr]; simp)).1
theorem join_any {B : Nat} {v : Value} {ws : List ByteArray} (w : World) (h : w.ownsRow B 9 1 v ws.length (ws.map .string)) (hs : Short ws) (hl : ws.length ≤ 100000) :
 Calls Tryz.prog 21 #[v, .string ⟨#[32]⟩] w fun e w' => e = .returned (.string ⟨(joinW ws).toArray⟩) ∧ Below w.heap.size w w' := by
 rcases h.2 with ⟨rfl, h0⟩ | ⟨g, cap, cur, rfl, -, hg, hnc, hcm, hcs, htake⟩
 ·have hw : ws = [] := List.eq_nil_of_length_eq_zero h0
  subst hw
  exact (sh_strings_Join_none none 0 ⟨#[32]⟩ w).mono fun e w' ⟨he, hw⟩ => ⟨he, hw ▸ Below.refl _ _⟩
 ·have hj := join_short ws hs
  refine (sh_strings_Join g 0 cap ws ⟨#[32]⟩ w ?_ ?_ (by omega) hnc ?_).mono ?_
  ·intro j x hx
   have := h.cells (g := g) rfl j (.string x) (by rw [List.getElem?_map, hx]; rfl)
   rw [add_plain_] at this
   exact this
  ·exact (h.lt g rfl).2
  ·rw [join_eq]; omega
  ·intro e w' hq
   rw [join_eq] at hq
   exact hq
def PrintOut (n : Nd) (w : World) (e : Ending) (w' : World) : Prop := e = .returned (.tuple #[.string (printT n), .int .i64 (printE n)]) ∧ Below w.heap.size w w'
def PB (w : World) (n : Nd) (A : Option Addr) (c : Nat) (s : ByteArray) (k : Int) (w' : World) : Prop :=
 Below w.heap.size w w' ∧ Blk w' w.heap.size 24 #[.int .i64 n.k, .string n.t, .int .i64 n.num, .slice A n.kids.length c] ∧ Blk w' (w.heap.size + 1) 9 #[.string s] ∧ Blk w' (w.heap.size + 1 + 1) 25 #[.int .i64 k]
theorem PB.below {w w1 w2 : World} {n : Nd} {A : Option Addr} {c : Nat} {s : ByteArray} {k : Int} (h : PB w n A c s k w1) (hb : Below w1.heap.size w1 w2) : PB w n A c s k w2 :=
 ⟨below_trans h.1 (Nat.le_refl _) hb, h.2.1.below hb, h.2.2.1.below hb, h.2.2.2.below hb⟩
theorem PB.grown {w w1 w2 : World} {n : Nd} {A : Option Addr} {c pm : Nat} {s : ByteArray} {k : Int} (h : PB w n A c s k w1) (hg : w1.grownBy w2 (some pm)) (hpm : w.heap.size + 1 + 1 < pm) : PB w n A c s k w2 :=
 ⟨h.1.trans (grow_below' hg (by omega) h.1.size), h.2.1.grown hg (by intro e; injection e with e; omega), h.2.2.1.grown hg (by intro e; injection e with e; omega), h.2.2.2.grown hg (by intro e; injection e with e; omega)⟩
theorem PB.pk {w w1 w2 : World} {n : Nd} {A : Option Addr} {c p : Nat} {s : ByteArray} {k : Int} {ws : List ByteArray} (h : PB w n A c s k w1) (hk : PK p w1 w2) (hp : w.heap.size + 1 + 1 < p) (hr : rowAt w1 p = none) (hP : Pr w.heap.size p ws w1) : PB w n A c s k w2 :=
 ⟨h.1.trans (hk.below hP), (hk.old h.2.1.lt (by omega) hr).trans h.2.1, (hk.old h.2.2.1.lt (by omega) hr).trans h.2.2.1, (hk.old h.2.2.2.lt (by omega) hr).trans h.2.2.2⟩
theorem PB.set {w w1 : World} {n : Nd} {A : Option Addr} {c : Nat} {s : ByteArray} {k : Int} (h : PB w n A c s k w1) (s' : ByteArray) (k' : Int) : PB w n A c s' k' ((w1.setCell ⟨w.heap.size + 1, 0, none⟩ (.string s')).setCell ⟨w.heap.size + 1 + 1, 0, none⟩ (.int .i64 k')) :=
 ⟨(h.1.setCell (by show w.heap.size ≤ w.heap.size + 1; omega) _).setCell (by show w.heap.size ≤ w.heap.size + 1 + 1; omega) _, (h.2.1.far (p := ⟨w.heap.size + 1, 0, none⟩) (by show w.heap.size ≠ w.heap.size + 1; omega) _).far (p := ⟨w.heap.size + 1 + 1, 0, none⟩) (by show w.heap.size ≠ w.heap.size + 1 + 1; omega) _, (h.2.2.1.set_ 0 _).far (p := ⟨w.heap.size + 1 + 1, 0, none⟩) (by show w.heap.size + 1 ≠ w.heap.size + 1 + 1; omega) _, (h.2.2.2.far (p := ⟨w.heap.size + 1, 0, none⟩) (by show w.heap.size + 1 + 1 ≠ w.heap.size + 1; omega) _).set_ 0 _⟩
theorem PB.set1 {w w1 : World} {n : Nd} {A : Option Addr} {c : Nat} {s : ByteArray} {k : Int} (h : PB w n A c s k w1) (s' : ByteArray) : PB w n A c s' k (w1.setCell ⟨w.heap.size + 1, 0, none⟩ (.string s')) :=
 ⟨h.1.setCell (by show w.heap.size ≤ w.heap.size + 1; omega) _, h.2.1.far (p := ⟨w.heap.size + 1, 0, none⟩) (by show w.heap.size ≠ w.heap.size + 1; omega) _, h.2.2.1.set_ 0 _, h.2.2.2.far (p := ⟨w.heap.size + 1, 0, none⟩) (by show w.heap.size + 1 + 1 ≠ w.heap.size + 1; omega) _⟩
theorem cfp (cap : Array Value) (w : World) : (invoke (.fn (.func 17) cap) #[]).run Tryz.prog w = .ok (.enter 17 cap) w := by
 have := cf_of Tryz.func17 (by kernel_rfl) (by kernel_rfl) cap w
 simp [invoke]
theorem leaveP_no {w w1 : World} {n : Nd} {A : Option Addr} {c : Nat} {s : ByteArray} {k : Int} (tmps : Array Value) (h : PB w n A c s k w1) (t2 : tmps.getD 2 undef = .pointer (some ⟨w.heap.size + 1, 0, none⟩)) (t3 : tmps.getD 3 undef = .pointer (some ⟨w.heap.size + 1 + 1, 0, none⟩))
 (hT : printT n = ⟨#[]⟩) (hE : printE n = 2) :
 Leaves Tryz.prog Tryz.f9 tmps (PrintOut n w) [{ target := .fn (.func 17) #[.pointer (some ⟨w.heap.size + 1, 0, none⟩), .pointer (some ⟨w.heap.size + 1 + 1, 0, none⟩)], args := #[] }] (.panicking [{ v := .iface 52 (.agg #[]), recovered := false }]) w1 := by
 refine leaves_cons (f := 17) (args := #[.pointer (some ⟨w.heap.size + 1, 0, none⟩), .pointer (some ⟨w.heap.size + 1 + 1, 0, none⟩)]) (by simp) (cfp _ _) ?_
 refine (catch_none _ _ s k w1 h.2.2.1 h.2.2.2 (by omega)).mono ?_
 rintro e u' w' ⟨rfl, rfl, k1, k2, h1, h2, h3, h4, h5⟩
 refine ⟨_, results_print k1 k2 t2 t3, ?_, ?_⟩
 ·rw [hT, hE]
 ·exact h.1.trans ⟨h1, h2, h3, h4, fun j hj => h5 j (Nat.lt_of_lt_of_le hj h.1.size) (by omega) (by omega)⟩
theorem leaveP_yes {w w1 : World} {n : Nd} {A : Option Addr} {c : Nat} {s : ByteArray} {k : Int} (tmps : Array Value) (h : PB w n A c s k w1) (t2 : tmps.getD 2 undef = .pointer (some ⟨w.heap.size + 1, 0, none⟩)) (t3 : tmps.getD 3 undef = .pointer (some ⟨w.heap.size + 1 + 1, 0, none⟩))
 (hT : printT n = s) (hE : printE n = k) :
 Leaves Tryz.prog Tryz.f9 tmps (PrintOut n w) [{ target := .fn (.func 17) #[.pointer (some ⟨w.heap.size + 1, 0, none⟩), .pointer (some ⟨w.heap.size + 1 + 1, 0, none⟩)], args := #[] }] .returning w1 := by
 refine leaves_cons (f := 17) (args := #[.pointer (some ⟨w.heap.size + 1, 0, none⟩), .pointer (some ⟨w.heap.size + 1 + 1, 0, none⟩)]) (by simp) (cfp _ _) ?_
 refine (catch_idle _ _ w1).mono ?_
 rintro e u' w' ⟨rfl, rfl, rfl⟩
 exact ⟨_, results_print h.2.2.1 h.2.2.2 t2 t3, by rw [hT, hE], h.1⟩
def UnitRel (w0 wP : World) (p : Nat) (l : List Nd) (i : Value) (wr : World) : Prop :=
 ∃ (k : Nat) (ws1 : List ByteArray), i = .int .i64 k ∧ k ≤ l.length ∧ Hid (Stq w0 p ws1 wr ∧ PK p wP wr ∧ ws1 = ((l.take k).map shw).flatten ∧ (l.take k).all (okC 1) = true ∧ ws1.length ≤ 10 * manyL (l.take k))
theorem isN_unit {n : Nd} (hk : n.k = 1) : isN n false = (plainB n false false 0 (-1) && n.kids.all (okC 1)) := by
 rw [isN_p0 (text := false) (least := 0) (most := -1) (by rw [hk]; rfl) (by omega) (by omega) (by omega) (by omega), hk, isNL_okC (c := 1) _ _ (fun _ _ _ => rfl)]
 rfl
theorem print_any (n : Nd) (cs : List Value) (w : World) (hr : RepN w n cs) (hE : Env w) : Calls Tryz.prog 9 #[.agg cs.toArray] w (PrintOut n w) := by
 have hr0 := hr
 obtain ⟨A, c, rfl, hR, hcap, hlm, hn64, hts⟩ := hr.four
 have HR := Lib.hid hR
 have HR0 := Lib.hid hr0
 clear hr hr0 hR
 have hmf : ∀ (fn : Fn) (first cap : Array Value) (w : World), (Instr.makeFunc fn first cap).run Tryz.prog w = .ok (.func fn first cap) w := fun _ _ _ _ => rfl
 have HPT : Hid (printT n = if fitsN n = true ∧ n.k = 1 ∧ isN n false = true ∧ (joinW (shw n)).length ≤ 4000 then ⟨(joinW (shw n)).toArray⟩ else ⟨#[]⟩) := rfl
 have HPE : Hid (printE n = if fitsN n = false then 1 else if ¬ (n.k = 1 ∧ isN n false = true) then 2 else if 4000 < (joinW (shw n)).length then 1 else 0) := rfl
 have X0 : Hid (PB w n A c ⟨#[]⟩ 0 ((((w.alloc (.cells #[.int .i64 n.k, .string n.t, .int .i64 n.num, .slice A n.kids.length c] 24)).alloc (.cells #[.string ⟨#[]⟩] 9)).alloc (.cells #[.int .i64 0] 25)).alloc (.cells #[.int .i64 0] 3))) := by
  refine ⟨by (repeat (first | with_reducible assumption | with_reducible exact Below.refl _ _ | (refine Below.setCell ?_ (by first | omega | (simp; done) | (simp; omega)) _) | (refine Below.drewN_ ?_ _) | (refine Below.drew ?_) | (refine Below.alloc ?_ (by first | omega | (simp; done) | (simp; omega)) _))), ((Blk.new_ _ _ _).alloc _).alloc _ |>.alloc _, ?_, ?_⟩
  ·have := ((Blk.new_ (w.alloc (.cells #[.int .i64 n.k, .string n.t, .int .i64 n.num, .slice A n.kids.length c] 24)) 9 #[.string ⟨#[]⟩]).alloc (.cells #[.int .i64 0] 25)).alloc (.cells #[.int .i64 0] 3)
   simpa using this
  ·have := (Blk.new_ ((w.alloc (.cells #[.int .i64 n.k, .string n.t, .int .i64 n.num, .slice A n.kids.length c] 24)).alloc (.cells #[.string ⟨#[]⟩] 9)) 25 #[.int .i64 0]).alloc (.cells #[.int .i64 0] 3)
   simpa using this
 have XM : Hid (Blk ((((w.alloc (.cells #[.int .i64 n.k, .string n.t, .int .i64 n.num, .slice A n.kids.length c] 24)).alloc (.cells #[.string ⟨#[]⟩] 9)).alloc (.cells #[.int .i64 0] 25)).alloc (.cells #[.int .i64 0] 3)) (w.heap.size + 1 + 1 + 1) 3 #[.int .i64 0]) := by
  have := Blk.new_ (((w.alloc (.cells #[.int .i64 n.k, .string n.t, .int .i64 n.num, .slice A n.kids.length c] 24)).alloc (.cells #[.string ⟨#[]⟩] 9)).alloc (.cells #[.int .i64 0] 25)) 3 #[.int .i64 0]
  show Blk _ _ _ _
  simpa using this
 have HWN := Lib.hid (weigh_any w n)
 go_enter_defers Tryz.func9, Tryz.ntmps9
 go_wp2_with fail
 refine (HWN.out _ _ _ 0 1 HR0.out X0.out.1 (by omega) XM.out (by omega) (by omega) (by omega) (by omega)).mono ?_
 rintro e w1 ⟨g1, hcase⟩
 rw [wOk_fits] at hcase
 have X1 := Lib.hid (X0.out.grown g1 (by omega))
 clear g1 XM X0
 rcases hcase with ⟨hfit, rfl, -⟩ | ⟨hfit, rfl⟩
 rotate_left
 ·have HF := Lib.hid hfit
  have c1 := X1.out.2.2.1.cell 0 (.string ⟨#[]⟩) rfl
  have c2 := X1.out.2.2.2.cell 0 (.int .i64 0) rfl
  have f1 := X1.out.2.2.1.free 0
  have f2 := X1.out.2.2.2.free 0
  clear hfit
  go_wp2
  refine ⟨_, results_print (X1.out.set ⟨#[]⟩ 1).2.2.1 (X1.out.set ⟨#[]⟩ 1).2.2.2 rfl rfl, ?_, (X1.out.set ⟨#[]⟩ 1).1⟩
  rw [HPT.out, HPE.out, HF.out, if_pos rfl, if_neg (by simp)]
 have HF := Lib.hid hfit
 have hm7 : many n ≤ 700 := by
  unfold fitsN at hfit
  simp only [Bool.and_eq_true, decide_eq_true_eq] at hfit
  exact hfit.1
 have hmany := many_eq n
 clear hfit
 have q0 := X1.out.2.1.cell 0 (.int .i64 n.k) rfl
 have q1 := X1.out.2.1.cell 1 (.string n.t) rfl
 have q2 := X1.out.2.1.cell 2 (.int .i64 n.num) rfl
 have q3 := X1.out.2.1.cell 3 (.slice A n.kids.length c) rfl
 rcases b1 : (n.k == 1) with _ | _
 ·have hk1 : ¬ n.k = 1 := by simpa using b1
  have H1 := Lib.hid hk1
  clear hk1
  go_wp2_with fail
  refine (must_no _).mono ?_
  rintro e w' ⟨rfl, rfl⟩
  go_wp2
  refine leaveP_no _ X1.out rfl rfl ?_ ?_
  ·rw [HPT.out, if_neg (fun h => H1.out h.2.1)]
  ·rw [HPE.out, HF.out, if_neg (by simp), if_pos (fun h => H1.out h.1)]
 have H1 : Hid (n.k = 1) := by show _ = _; simpa using b1
 have HIS := Lib.hid (isN_unit H1.out)
 go_wp2_with fail
 refine (must_yes _).mono ?_
 rintro e w' ⟨rfl, rfl⟩
 go_wp2_with fail
 refine (plain_any n _ _ _ _ _ _ _ (hE.keep X1.out.1).ml).mono ?_
 rintro e w2 ⟨(⟨hq, rfl⟩ | ⟨hq, rfl⟩), hb2⟩
 rotate_left
 ·have X2 := Lib.hid (X1.out.below hb2)
  have HN : Hid (isN n false = false) := by show _ = _; rw [HIS.out, hq]; rfl
  clear hq hb2
  unfold noneE
  go_wp2
  refine leaveP_no _ X2.out rfl rfl ?_ ?_
  ·rw [HPT.out, if_neg (fun h => by rw [HN.out] at h; cases h.2.2.1)]
  ·rw [HPE.out, HF.out, if_neg (by simp), if_pos (fun h => by rw [HN.out] at h; cases h.2)]
 have X2 := Lib.hid (X1.out.below hb2)
 have HQ := Lib.hid hq
 clear hq hb2 q0 q1 q2 q3 b1
 have HIS2 : Hid (isN n false = n.kids.all (okC 1)) := by show _ = _; rw [HIS.out, HQ.out]; rfl
 have hsz := X2.out.2.2.2.lt
 have X3 := Lib.hid (X2.out.below ((Below.refl _ _).alloc (Nat.le_refl _) (.cells #[.slice none 0 0] 58)))
 have P3 : Hid (Pr w.heap.size w2.heap.size [] (w2.alloc (.cells #[.slice none 0 0] 58))) := ⟨by omega, _, Blk.new_ _ _ _, World.ownsRow_nil _ _ _ _⟩
 have R3 : Hid (rowAt (w2.alloc (.cells #[.slice none 0 0] 58)) w2.heap.size = none) := rowAt_of (Blk.new_ _ _ _)
 have q0 := X2.out.2.1.cell 0 (.int .i64 n.k) rfl
 have q1 := X2.out.2.1.cell 1 (.string n.t) rfl
 have q2 := X2.out.2.1.cell 2 (.int .i64 n.num) rfl
 have q3 := X2.out.2.1.cell 3 (.slice A n.kids.length c) rfl
 have q3' := X3.out.2.1.cell 3 (.slice A n.kids.length c) rfl
 have hll := manyL_len n.kids
 have HSH : Hid (shw n = (n.kids.map shw).flatten) := by show _ = _; rw [shw_eq, H1.out]; rfl
 go_wp2_with fail
 obtain ⟨wP, hwP⟩ : ∃ v : World, v = w2.alloc (.cells #[.slice none 0 0] 58) := ⟨_, rfl⟩
 rw [← hwP] at X3 P3 R3 q3' ⊢
 have hpp : w2.heap.size < wP.heap.size := by rw [hwP]; simp
 generalize w2.heap.size = p at *
 clear hwP q0 q1 q2 q3 X1 X2 HIS
 generalize n.kids = l at *
 have hlen9 : l.length ≤ 9223372036854775807 := by unfold maxLen at hlm; exact hlm
 go_loopw [23] (fun i wr => UnitRel w wP p l i wr) (fun i _ => l.length - (intOf i).toNat)
 case atStart => exact ⟨0, [], rfl, Nat.zero_le _, Lib.hid ⟨⟨X3.out.1, P3.out⟩, PK.refl_ _ _, by simp, by simp, by simp⟩⟩
 case round =>
  obtain ⟨k, ws1, rfl, hk1, HRL⟩ := hrel
  clear q3'
  have hle := HRL.out.2.2.2.2
  have hmt := manyL_take_le l k
  have X4 := Lib.hid (X3.out.pk HRL.out.2.1 (by omega) R3.out P3.out)
  by_cases hlt : k < l.length
  ·have hi : (k : Int) < (l.length : Int) := by omega
   obtain ⟨b, o, cs, hAA, hbl, hc, hrep⟩ := RepNL.at_ l _ HR.out k hlt
   subst hAA
   obtain ⟨A', c', rfl, -⟩ := hrep.four
   have bw := HRL.out.1.1
   have c0 := (bw.cell (p := ⟨b, o + k * 4 + 0, none⟩) hbl).trans (hc 0 _ rfl)
   have c1 := (bw.cell (p := ⟨b, o + k * 4 + 1, none⟩) hbl).trans (hc 1 _ rfl)
   have c2 := (bw.cell (p := ⟨b, o + k * 4 + 2, none⟩) hbl).trans (hc 2 _ rfl)
   have c3 := (bw.cell (p := ⟨b, o + k * 4 + 3, none⟩) hbl).trans (hc 3 _ rfl)
   rw [Nat.add_zero] at c0
   clear hc bw
   have HL := Lib.hid (decl_ok w p hE (l[k]'hlt))
   have HT := Lib.hid (manyL_take hlt)
   have HAT := Lib.hid (all_take (okf := okC 1) hlt HRL.out.2.2.2.1)
   have HAF := Lib.hid (all_false (okf := okC 1) hlt)
   have HTS : Hid ((l.take (k + 1)).map shw = (l.take k).map shw ++ [shw l[k]]) := by show _ = _; rw [List.take_succ_eq_append_getElem hlt, List.map_append]; rfl
   have HREP := Lib.hid hrep
   have hmm : manyL (l.take k) + many l[k] ≤ manyL l := by rw [← HT.out]; exact manyL_take_le _ _
   have hpos := many_pos l[k]
   clear hrep
   generalize l[k] = x at *
   have hlw2 := HRL.out.1.2.lt
   have X5 := Lib.hid (X4.out.below ((Below.refl _ _).alloc (Nat.le_refl _) (.cells #[.int .i64 x.k, .string x.t, .int .i64 x.num, .slice A' x.kids.length c'] 24)))
   go_wp2_with fail
   refine (HL.out _ _ _ HREP.out (HRL.out.1.alloc _) (by omega)).mono ?_
   rintro e w2 ⟨ws2, h2, p2, l2, (⟨o2, rfl, e2⟩ | ⟨o2, rfl⟩)⟩
   ·have H2 := Lib.hid h2
    have P2 := Lib.hid ((HRL.out.2.1.trans_ (PK.alloc_ _ _ hlw2)).trans_ p2)
    have E2 := Lib.hid e2
    have O2 := Lib.hid o2
    clear h2 p2 e2 o2
    go_wp2
    go_roundw
    case rel =>
     refine ⟨k + 1, ws2, by go_num, by omega, Lib.hid ⟨H2.out, P2.out, ?_, HAT.out.trans O2.out, by rw [HT.out]; omega⟩⟩
     rw [E2.out, HRL.out.2.2.1, HTS.out]
     simp
    case measure => (first | (simp [intOf]; done) | (simp [intOf]; omega))
   ·have P2 := Lib.hid ((HRL.out.2.1.trans_ (PK.alloc_ _ _ hlw2)).trans_ p2)
    have X6 := Lib.hid (X3.out.pk P2.out (by omega) R3.out P3.out)
    have HN : Hid (isN n false = false) := by show _ = _; rw [HIS2.out]; exact HAF.out o2
    clear h2 p2 o2
    unfold noneE
    go_wp2
    refine leaveP_no _ X6.out rfl rfl ?_ ?_
    ·rw [HPT.out, if_neg (fun h => by rw [HN.out] at h; cases h.2.2.1)]
    ·rw [HPE.out, HF.out, if_neg (by simp), if_pos (fun h => by rw [HN.out] at h; cases h.2)]
  ·have hi : ¬ (k : Int) < (l.length : Int) := by omega
   have ek : k = l.length := by omega
   have HT1 : Hid (ws1 = shw n ∧ isN n false = true) := by
    have h1 := HRL.out.2.2.1
    have h2 := HRL.out.2.2.2.1
    rw [ek, List.take_length] at h1 h2
    exact ⟨by rw [h1, HSH.out], by rw [HIS2.out]; exact h2⟩
   have hle2 : ws1.length ≤ 10 * manyL l := by omega
   clear ek
   obtain ⟨v, hv, hown⟩ := HRL.out.1.2.2
   have c0 := hv.cell 0 v rfl
   have HO := Lib.hid hown
   have HSS : Hid (Short ws1) := by show Short _; rw [HT1.out.1]; exact shw_short _ n (Nat.le_refl _) false HT1.out.2
   have hjs := join_short ws1 HSS.out
   have d1 := X4.out.2.2.1.cell 0 (.string ⟨#[]⟩) rfl
   have f1 := X4.out.2.2.1.free 0
   obtain ⟨Av, cv, rfl, -⟩ := Row.of_own hown
   clear hown hv
   go_wp2_with fail
   refine (join_any _ HO.out HSS.out (by omega)).mono ?_
   rintro e w5 ⟨rfl, hb5⟩
   have X6 := Lib.hid (X4.out.below hb5)
   have HRT : Hid (joinW ws1 = joinW (shw n)) := by show _ = _; rw [HT1.out.1]
   have hzz : (⟨(joinW ws1).toArray⟩ : ByteArray).size = (joinW ws1).length := by show (joinW ws1).toArray.size = _; simp
   have HZZ := Lib.hid hzz
   obtain ⟨J, HJ⟩ : ∃ J : ByteArray, Hid ((⟨(joinW ws1).toArray⟩ : ByteArray) = J) := ⟨_, rfl⟩
   have hjz : J.size ≤ 21 * ws1.length := by rw [← HJ.out, HZZ.out]; exact hjs
   rw [HJ.out]
   clear hb5 c0 d1 f1 hzz
   have d1 := X6.out.2.2.1.cell 0 (.string ⟨#[]⟩) rfl
   have f1 := X6.out.2.2.1.free 0
   have d2 := X6.out.2.2.2.cell 0 (.int .i64 0) rfl
   have f2 := X6.out.2.2.2.free 0
   have X7 := Lib.hid (X6.out.set1 J)
   by_cases h4 : J.size ≤ 4000
   ·have d4 : decide ((4000 : Int) < (J.size : Int)) = false := by rw [decide_eq_false_iff_not]; omega
    have d5 : ¬ (4000 : Int) < (J.size : Int) := by omega
    have H4 : Hid ((joinW (shw n)).length ≤ 4000) := by show _ ≤ _; rw [← HRT.out, ← HZZ.out, HJ.out]; exact h4
    have X8 := Lib.hid (X7.out.set J 0)
    go_wp2
    refine leaveP_yes _ X8.out rfl rfl ?_ ?_
    ·rw [HPT.out, if_pos ⟨HF.out, H1.out, HT1.out.2, H4.out⟩, ← HRT.out, HJ.out]
    ·rw [HPE.out, HF.out, if_neg (by simp), if_neg (fun h => h ⟨H1.out, HT1.out.2⟩), if_neg (by have := H4.out; omega)]
   ·have d4 : decide ((4000 : Int) < (J.size : Int)) = true := by rw [decide_eq_true_eq]; omega
    have d5 : (4000 : Int) < (J.size : Int) := by omega
    have H4 : Hid (4000 < (joinW (shw n)).length) := by show _ < _; rw [← HRT.out, ← HZZ.out, HJ.out]; omega
    have X8 := Lib.hid (X7.out.set ⟨#[]⟩ 1)
    go_wp2
    refine leaveP_yes _ X8.out rfl rfl ?_ ?_
    ·rw [HPT.out, if_neg (fun h => by have := h.2.2.2; have := H4.out; omega)]
    ·rw [HPE.out, HF.out, if_neg (by simp), if_neg (fun h => h ⟨H1.out, HT1.out.2⟩), if_pos H4.out]
end Go.Proofs.YtgegfbopogcjpaaGreatDoor
namespace Go.Proofs.YtgegfbopogcjpaaGreatDoor
open Go.RowKit
set_option linter.unusedVariables false
set_option linter.unusedSimpArgs false
set_option maxRecDepth 100000
set_option maxHeartbeats 1000000
theorem results_par {fn : Func} (h : fn.results = #[.cell 2 24, .cell 3 27]) {w : World} {b c : Nat} {a0 a1 a2 a3 x0 x1 : Value} {tmps : Array Value} (k : Blk w b 24 #[a0, a1, a2, a3]) (k2 : Blk w c 27 #[x0, x1])
 (h2 : tmps.getD 2 undef = .pointer (some ⟨b, 0, none⟩)) (h3 : tmps.getD 3 undef = .pointer (some ⟨c, 0, none⟩)) : (results fn tmps).run Tryz.prog w = .ok (.tuple #[.agg #[a0, a1, a2, a3], .agg #[x0, x1]]) w := by
 have c0 := k.cell 0 _ rfl
 have c1 := k.cell 1 _ rfl
 have c2 := k.cell 2 _ rfl
 have c3 := k.cell 3 _ rfl
 have d0 := k2.cell 0 _ rfl
 have d1 := k2.cell 1 _ rfl
 simp at c0 c1 c2 c3 d0 d1
 simp only [Array.getD_eq_getD_getElem?] at h2 h3
 simp [results, h, go_sem, h2, h3, c0, c1, c2, c3, d0, d1]
def PaO (P : Pa) (w : World) (e : Ending) (w' : World) : Prop :=
 ∃ A c, e = .returned (.tuple #[.agg #[.int .i64 P.n.k, .string P.n.t, .int .i64 P.n.num, .slice A P.n.kids.length c], .agg #[.int .i64 P.e, .int .i64 P.p]]) ∧ RepN w' P.n [.int .i64 P.n.k, .string P.n.t, .int .i64 P.n.num, .slice A P.n.kids.length c] ∧ Below w.heap.size w w'
def PaOut (s : ByteArray) (w : World) (e : Ending) (w' : World) : Prop := PaO (parseOf s) w e w'
theorem repN_zero (w : World) : RepN w nd0 [.int .i64 0, .string ⟨#[]⟩, .int .i64 0, .slice none 0 0] := by
 unfold RepN
 exact ⟨none, 0, rfl, by unfold RepNL; trivial, Nat.le_refl _, Nat.zero_le _, i64_0, Nat.zero_le _⟩
theorem catchU_idle (p q : Addr) (w : World) :
 CallsD Tryz.prog 11 #[.pointer (some p), .pointer (some q)] .returning w fun e u' w' => e = .returned (.tuple #[]) ∧ u' = .returning ∧ w' = w := by
 refine callsD_of_wpS Tryz.func11 rfl fun c₀ cs hu => ?_
 apply wpS_seq
 apply wpS_region
 simp [wpOpsS, go_sem, recoverD, hu, Tryz.ntmps11, Exit.thenS, Array.replicate]
 refine wpS_of_wp ?_
 go_wp2
 cases c₀
 simp_all [bodyPostS, results, Tryz.results11]
theorem taU_bad (k : Int) (w : World) : (Instr.typeAssert (.iface 39 (.agg #[.int .i64 k])) 20 39 true).run Tryz.prog w = .ok (.tuple #[.agg #[.int .i64 k], .bool true]) w := by kernel_rfl
theorem catchU_bad (b1 b2 : Nat) (a0 a1 a2 a3 x0 x1 : Value) (k : Int) (w : World) (h1 : Blk w b1 24 #[a0, a1, a2, a3]) (h2 : Blk w b2 27 #[x0, x1]) (hne : b1 ≠ b2) :
 CallsD Tryz.prog 11 #[.pointer (some ⟨b1, 0, none⟩), .pointer (some ⟨b2, 0, none⟩)] (.panicking [{ v := .iface 39 (.agg #[.int .i64 k]), recovered := false }]) w fun e u' w' =>
  e = .returned (.tuple #[]) ∧ u' = .panicking [{ v := .iface 39 (.agg #[.int .i64 k]), recovered := true }] ∧ Blk w' b1 24 #[.int .i64 0, .string ⟨#[]⟩, .int .i64 0, .slice none 0 0] ∧ Blk w' b2 27 #[.int .i64 2, .int .i64 k] ∧ w'.os = w.os ∧ w'.tape = w.tape ∧ w'.output = w.output ∧ w.heap.size ≤ w'.heap.size ∧ ∀ j, j < w.heap.size → j ≠ b1 → j ≠ b2 → w'.heap[j]? = w.heap[j]? := by
 obtain ⟨f0, f1, f2, f3, g0, g1, g2, g3⟩ := h1.all4
 have k0 := h2.free 0
 have k1 := h2.free 1
 have l0 := h2.cell 0 x0 rfl
 have l1 := h2.cell 1 x1 rfl
 have H1 := Lib.hid h1
 have H2 := Lib.hid h2
 have hta := taU_bad k
 have hl1 := h1.lt
 have hl2 := h2.lt
 have hlb1 := Nat.ne_of_lt hl1
 have hlb2 := Nat.ne_of_lt hl2
 clear h1 h2
 refine callsD_of_wpS Tryz.func11 rfl fun c₀ cs hu => ?_
 apply wpS_seq
 apply wpS_region
 simp [wpOpsS, go_sem, recoverD, hu, Tryz.ntmps11, Exit.thenS, Array.replicate]
 refine wpS_of_wp ?_
 go_wp2
 have hbl : Below w.heap.size w (w.alloc (.cells #[.int .i64 k] 39)) := (Below.refl _ _).alloc (Nat.le_refl _) _
 have KB := Blk.new_ w 39 #[.int .i64 k]
 replace H1 := Lib.hid (H1.out.below hbl)
 replace H2 := Lib.hid (H2.out.below hbl)
 have HB := Lib.hid hbl
 clear hbl f0 f1 f2 f3 g0 g1 g2 g3 k0 k1 l0 l1 hta
 generalize w.alloc (.cells #[.int .i64 k] 39) = w1 at *
 generalize hb3 : w.heap.size = b3 at *
 obtain ⟨f0, f1, f2, f3, g0, g1, g2, g3⟩ := H1.out.all4
 have k0 := H2.out.free 0
 have k1 := H2.out.free 1
 have l0 := H2.out.cell 0 x0 rfl
 have l1 := H2.out.cell 1 x1 rfl
 have m0 := KB.cell 0 (.int .i64 k) rfl
 have hne2 : b2 ≠ b1 := Ne.symm hne
 clear KB
 go_region
 go_wp2
 have hne2 : b2 ≠ b1 := Ne.symm hne
 have KN := ((blk_put4 H1.out (.int .i64 0) (.string ⟨#[]⟩) (.int .i64 0) (.slice none 0 0)).far (p := ⟨b2, 0, none⟩) hne (.int .i64 2)).far (p := ⟨b2, 1, none⟩) hne (.int .i64 k)
 have KG := ((((Blk.far H2.out (p := ⟨b1, 0, none⟩) hne2 (.int .i64 0)).far (p := ⟨b1, 1, none⟩) hne2 (.string ⟨#[]⟩)).far (p := ⟨b1, 2, none⟩) hne2 (.int .i64 0)).far (p := ⟨b1, 3, none⟩) hne2 (.slice none 0 0)).set_ 0 (.int .i64 2) |>.set_ 1 (.int .i64 k)
 have m1 := put4_mv w1 b1 (.int .i64 0) (.string ⟨#[]⟩) (.int .i64 0) (.slice none 0 0)
 have m2 := put1_mv ((((w1.setCell ⟨b1, 0, none⟩ (.int .i64 0)).setCell ⟨b1, 1, none⟩ (.string ⟨#[]⟩)).setCell ⟨b1, 2, none⟩ (.int .i64 0)).setCell ⟨b1, 3, none⟩ (.slice none 0 0)) b2 0 (.int .i64 2)
 have m3 := put1_mv (((((w1.setCell ⟨b1, 0, none⟩ (.int .i64 0)).setCell ⟨b1, 1, none⟩ (.string ⟨#[]⟩)).setCell ⟨b1, 2, none⟩ (.int .i64 0)).setCell ⟨b1, 3, none⟩ (.slice none 0 0)).setCell ⟨b2, 0, none⟩ (.int .i64 2)) b2 1 (.int .i64 k)
 simp only [List.setIfInBounds_toArray, List.set_cons_zero, List.set_cons_succ] at KG
 generalize ((((w1.setCell ⟨b1, 0, none⟩ (.int .i64 0)).setCell ⟨b1, 1, none⟩ (.string ⟨#[]⟩)).setCell ⟨b1, 2, none⟩ (.int .i64 0)).setCell ⟨b1, 3, none⟩ (.slice none 0 0)) = W1 at *
 generalize W1.setCell ⟨b2, 0, none⟩ (.int .i64 2) = W2 at *
 generalize W2.setCell ⟨b2, 1, none⟩ (.int .i64 k) = W3 at *
 have hs1 := m1.size
 have hs2 := m2.size
 have hs3 := m3.size
 have hs0 := HB.out.size
 refine ⟨rfl, _, by cases c₀; rfl, _, results_none rfl _ _ _, rfl, rfl, Blk.drw KN, Blk.drw KG, m3.os.trans (m2.os.trans (m1.os.trans HB.out.os)), m3.tape.trans (m2.tape.trans (m1.tape.trans HB.out.tape)), m3.output.trans (m2.output.trans (m1.output.trans HB.out.output)), Nat.le_trans hs0 (Nat.le_trans hs1 (Nat.le_trans hs2 hs3)), fun j hj h1 h2 => ?_⟩
 have e1 : some j ≠ some b1 := fun e => h1 (by injection e)
 have e2 : some j ≠ some b2 := fun e => h2 (by injection e)
 exact (m3.block j (by omega) e2).trans ((m2.block j (by omega) e2).trans ((m1.block j (by omega) e1).trans (HB.out.block j (hb3 ▸ hj))))
theorem row_box {w : World} {A : Option Addr} {L : List Tok} (h : Row w A (L.flatMap tkV)) (hok : ∀ t ∈ L, TokOk t.k t.s) (hne : L ≠ []) {b : Nat} {T : TypeId} {cs : Array Value} (hb : Blk w b T cs) (hz : ∀ (j : Nat) (k : Int), cs[j]? = some (.int .i64 k) → k = 0) :
 ∀ b' o, A = some ⟨b', o, none⟩ → b' ≠ b := by
 obtain ⟨t, L', rfl⟩ := List.exists_cons_of_ne_nil hne
 have ht := hok t (.head _)
 rcases h with h | ⟨b2, o2, hA, hlt, hc⟩
 ·simp [tkV] at h
 ·intro b' o e1 e2
  rw [hA] at e1
  injection e1 with e1
  injection e1 with e1 e3
  subst e1 e2
  have := hc 0 (.int .i64 t.k) (by simp [tkV])
  unfold Blk at hb
  simp only [World.cell?, hb] at this
  have h0 : t.k = 0 := hz (o2 + 0) t.k (by simpa using this)
  rw [h0] at ht
  rcases ht with ⟨h, -⟩ | ⟨h, -⟩ | ⟨h, -⟩ <;> omega
theorem lexN_p (s : ByteArray) : ∀ (n : Nat) (note : Bool) (k : Nat) (acc : List Tok), (lexN s n note k acc).e = 0 → (lexN s n note k acc).p = 0
 | 0, _, _, _, _ => rfl
 | n + 1, note, k, acc, h => by
  rw [lexN] at h ⊢
  split
  ·rename_i h1
   rw [if_pos h1] at h
   split
   ·rename_i h2
    rw [if_pos h2] at h
    exact lexN_p s n _ _ _ h
   ·rename_i h2
    rw [if_neg h2] at h
    exact absurd h h2
  ·rfl
theorem lexOf_p {s : ByteArray} (h : (lexOf s).e = 0) : (lexOf s).p = 0 ∧ s.size ≤ 4000 := by
 unfold lexOf at h ⊢
 split
 ·rename_i h1
  rw [if_pos h1] at h
  cases h
 ·rename_i h1
  rw [if_neg h1] at h
  exact ⟨lexN_p _ _ _ _ _ h, by omega⟩
theorem node_zero (j : Nat) (k : Int) (hj : (#[.int .i64 0, .string ⟨#[]⟩, .int .i64 0, .slice none 0 0] : Array Value)[j]? = some (.int .i64 k)) : k = 0 := by
 match j with
 | 0 => simpa using hj.symm
 | 1 => simp at hj
 | 2 => simpa using hj.symm
 | 3 => simp at hj
 | j + 4 => simp at hj
theorem fault_zero (j : Nat) (k : Int) (hj : (#[.int .i64 0, .int .i64 0] : Array Value)[j]? = some (.int .i64 k)) : k = 0 := by
 match j with
 | 0 => simpa using hj.symm
 | 1 => simpa using hj.symm
 | j + 2 => simp at hj
theorem cfU (cap : Array Value) (w : World) : (invoke (.fn (.func 11) cap) #[]).run Tryz.prog w = .ok (.enter 11 cap) w := by
 have := cf_fn Tryz.func11 (by kernel_rfl) (by kernel_rfl) cap w
 simp [invoke]
theorem leaveU_bad {w w1 : World} {a0 a1 a2 a3 x0 x1 : Value} {P : Pa} {q : Int} (tmps : Array Value) (h1 : Blk w1 w.heap.size 24 #[a0, a1, a2, a3]) (h2 : Blk w1 (w.heap.size + 1) 27 #[x0, x1]) (hb : Below w.heap.size w w1)
 (t2 : tmps.getD 2 undef = .pointer (some ⟨w.heap.size, 0, none⟩)) (t3 : tmps.getD 3 undef = .pointer (some ⟨w.heap.size + 1, 0, none⟩)) (hn : P.n = nd0) (hE : P.e = 2) (hp : (P.p : Int) = q) :
 Leaves Tryz.prog Tryz.f6 tmps (PaO P w) [{ target := .fn (.func 11) #[.pointer (some ⟨w.heap.size, 0, none⟩), .pointer (some ⟨w.heap.size + 1, 0, none⟩)], args := #[] }] (.panicking [{ v := .iface 39 (.agg #[.int .i64 q]), recovered := false }]) w1 := by
 refine leaves_cons (f := 11) (args := #[.pointer (some ⟨w.heap.size, 0, none⟩), .pointer (some ⟨w.heap.size + 1, 0, none⟩)]) (by simp) (cfU _ _) ?_
 refine (catchU_bad _ _ _ _ _ _ _ _ q w1 h1 h2 (by omega)).mono ?_
 rintro e u' w' ⟨rfl, rfl, k1, k2, e1, e2, e3, e4, e5⟩
 refine ⟨_, results_par (by kernel_rfl) k1 k2 t2 t3, ?_⟩
 exact ⟨none, 0, by rw [hn, hE, hp]; rfl, by rw [hn]; exact repN_zero _, hb.trans ⟨e1, e2, e3, e4, fun j hj => e5 j (Nat.lt_of_lt_of_le hj hb.size) (by omega) (by omega)⟩⟩
theorem leaveU_ok {w w1 : World} {n : Nd} {A : Option Addr} {c m : Nat} {e p : Int} {P : Pa} (tmps : Array Value) (h1 : Blk w1 w.heap.size 24 #[.int .i64 n.k, .string n.t, .int .i64 n.num, .slice A m c]) (hm : n.kids.length = m) (h2 : Blk w1 (w.heap.size + 1) 27 #[.int .i64 e, .int .i64 p]) (hb : Below w.heap.size w w1)
 (t2 : tmps.getD 2 undef = .pointer (some ⟨w.heap.size, 0, none⟩)) (t3 : tmps.getD 3 undef = .pointer (some ⟨w.heap.size + 1, 0, none⟩)) (hn : P.n = n) (hE : P.e = e) (hp : (P.p : Int) = p) (hr : RepN w1 n (cN n A c)) :
 Leaves Tryz.prog Tryz.f6 tmps (PaO P w) [{ target := .fn (.func 11) #[.pointer (some ⟨w.heap.size, 0, none⟩), .pointer (some ⟨w.heap.size + 1, 0, none⟩)], args := #[] }] .returning w1 := by
 refine leaves_cons (f := 11) (args := #[.pointer (some ⟨w.heap.size, 0, none⟩), .pointer (some ⟨w.heap.size + 1, 0, none⟩)]) (by simp) (cfU _ _) ?_
 refine (catchU_idle _ _ w1).mono ?_
 rintro e u' w' ⟨rfl, rfl, rfl⟩
 subst hm
 exact ⟨_, results_par (by kernel_rfl) h1 h2 t2 t3, A, c, by rw [hn, hE, hp], by rw [hn]; exact hr, hb⟩
theorem mv_low {p : Nat} {w W : World} (h : Mv p w W) (hp : w.heap.size ≤ p) : Below w.heap.size w W :=
 ⟨h.os, h.tape, h.output, h.size, fun b hb => h.block b hb (fun e => by injection e with e; omega)⟩
abbrev GU (w : World) (p : Nat) : Nat → Prop := fun b => b < w.heap.size ∨ (w.heap.size + 1 < b ∧ b ≤ p)
theorem uni_st {w W : World} {A : Option Addr} {c E : Nat} {L : List Tok} (hb : Below w.heap.size w W) (h1 : Blk W w.heap.size 24 #[.int .i64 0, .string ⟨#[]⟩, .int .i64 0, .slice none 0 0])
 (h2 : Blk W (w.heap.size + 1) 27 #[.int .i64 0, .int .i64 0]) (hrow : Row W A (L.flatMap tkV)) (hok : ∀ t ∈ L, TokOk t.k t.s) (hlen : L.length ≤ 4000) (hE : E ≤ 4000) (hml : ML w) :
 St (fun j W' => PSt ⟨W.heap.size, A, c, L, E⟩ W' j) W.heap.size (GU w W.heap.size) w (W.alloc (.cells #[.slice A L.length c, .int .i64 0, .int .i64 (E : Int)] 42)) 0
  [rw_ w.heap.size (fun _ => False) [] none 0, bx w.heap.size 24 #[.int .i64 0, .string ⟨#[]⟩, .int .i64 0, .slice none 0 0], bx (w.heap.size + 1) 27 #[.int .i64 0, .int .i64 0]] := by
 have hba : Below W.heap.size W (W.alloc (.cells #[.slice A L.length c, .int .i64 0, .int .i64 (E : Int)] 42)) := (Below.refl _ _).alloc (Nat.le_refl _) _
 have hlt2 := h2.lt
 have hsz : (W.alloc (.cells #[.slice A L.length c, .int .i64 0, .int .i64 (E : Int)] 42)).heap.size = W.heap.size + 1 := by simp
 have hrb : ∀ b o, L ≠ [] → A = some ⟨b, o, none⟩ → b < W.heap.size ∧ b ≠ w.heap.size ∧ b ≠ w.heap.size + 1 := fun b o hne e => by
  have e1 := row_box hrow hok hne h1 node_zero b o e
  have e2 := row_box hrow hok hne h2 fault_zero b o e
  refine ⟨?_, e1, e2⟩
  rcases hrow with h | ⟨b2, o2, hA, hlt, -⟩
  ·obtain ⟨t, L', rfl⟩ := List.exists_cons_of_ne_nil hne
   simp [tkV] at h
  ·rw [hA] at e
   injection e with e
   injection e with e
   omega
 obtain ⟨mm, hmm⟩ := hml
 have hmlt := World.block_lt_of_cell? w _ hmm
 have hP : PSt ⟨W.heap.size, A, c, L, E⟩ (W.alloc (.cells #[.slice A L.length c, .int .i64 0, .int .i64 (E : Int)] 42)) 0 :=
  ⟨Blk.new_ _ _ _, hrow.keep hba, fun hne b o e => by have := (hrb b o hne e).1; show b ≠ W.heap.size; omega, ⟨mm, (World.cell?_of_block ((hba.block _ (Nat.lt_of_lt_of_le hmlt hb.size)).trans (hb.block _ hmlt))).trans hmm⟩, hlen, hE, Nat.zero_le _, hok⟩
 refine ⟨.inr ⟨hlt2, Nat.le_refl _⟩, fun b hG => ?_, ?_, hP, fun j W1 W2 h hs hk => ?_, ?_, ?_, ?_⟩
 ·rcases hG with hG | hG
  ·have := hb.size; omega
  ·omega
 ·exact (mv_below hb).below_ hba
 ·have hkp := hk W.heap.size (.inr ⟨hlt2, Nat.le_refl _⟩)
  refine ⟨hkp.trans h.blk, ?_, h.ne, ?_, h.len, h.iE, h.at_, h.ok⟩
  ·rcases h.row with h' | ⟨b, o, hA, hlt, hc⟩
   ·exact .inl h'
   ·by_cases hne : L = []
    ·exact .inl (by rw [hne]; rfl)
    ·have hr := hrb b o hne hA
     have hG : GU w W.heap.size b := by
      unfold GU
      rcases Nat.lt_or_ge b w.heap.size with h | h
      ·exact .inl h
      ·exact .inr ⟨by omega, by omega⟩
     exact .inr ⟨b, o, hA, Nat.lt_of_lt_of_le hlt hs, fun j v hj => (World.cell?_of_block (a := ⟨b, o + j, none⟩) (hk b hG)).trans (hc j v hj)⟩
  ·obtain ⟨m2, hm2⟩ := h.ml
   exact ⟨m2, (World.cell?_of_block (hk _ (.inl hmlt))).trans hm2⟩
 ·intro r hr
  rcases List.mem_cons.1 hr with rfl | hr
  ·exact ⟨[], rfl, fun g e => (nomatch e), World.ownsRow_nil _ _ _ _⟩
  ·rcases List.mem_cons.1 hr with rfl | hr
   ·exact h1.alloc _
   ·rw [List.mem_singleton] at hr
    subst hr
    exact h2.alloc _
 ·intro r hr b hv
  rcases List.mem_cons.1 hr with rfl | hr
  ·exact hv.elim
  ·rcases List.mem_cons.1 hr with rfl | hr
   ·have e : b = w.heap.size := hv
    subst e
    exact ⟨Nat.le_refl _, by omega, fun hG => by rcases hG with h | h <;> omega⟩
   ·rw [List.mem_singleton] at hr
    subst hr
    have e : b = w.heap.size + 1 := hv
    subst e
    exact ⟨by omega, by omega, fun hG => by rcases hG with h | h <;> omega⟩
 ·refine .cons (fun s hs b hv => hv.elim) (.cons (fun s hs b hv hv2 => ?_) (.cons (fun s hs => (nomatch hs)) .nil))
  rw [List.mem_singleton] at hs
  subst hs
  have e : b = w.heap.size := hv
  have e2 : b = w.heap.size + 1 := hv2
  omega
end Go.Proofs.YtgegfbopogcjpaaGreatDoor
