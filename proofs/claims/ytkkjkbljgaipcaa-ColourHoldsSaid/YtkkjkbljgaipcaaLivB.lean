/- The walk of the closure of live.Sets: what goes back. -/
import Derived.Test.YtkkjkbljgaipcaaLivA
namespace Go.Proofs.Ytkkjkbljgaipcaa
open Go.RowKit
set_option linter.unusedVariables false
set_option linter.unusedSimpArgs false
set_option maxRecDepth 100000
set_option maxHeartbeats 4000000
/-- the sets, one for each order -/
def MapsAt (w : World) (base regs : Nat) (ms : List Nat) (L : Nat → Int → Bool) : Prop := ms.Nodup ∧ ∀ i (h : i < ms.length), base ≤ ms[i] ∧ SetAt w ms[i] (cntR regs (L i)) (L i)
def pairC (p : Int × Int) : List Value := [.int .i64 p.1, .int .i64 p.2]
/-- the work's row, in its box -/
def WorkAt (w : World) (base Bw : Nat) (W : List (Int × Int)) : Prop := ∃ v, Blk w Bw 97 #[v] ∧ w.ownsRow base 98 2 v W.length (W.flatMap pairC)
/-- the row of sets, in its box -/
def InAt (w : World) (Bi I : Nat) (ms : List Nat) : Prop := Blk w Bi 47 #[.slice (some ⟨I, 0, none⟩) ms.length ms.length] ∧ Blk w I 46 (ms.map fun m => Value.map (some m)).toArray
/-- what is neither the work nor its box stays -/
def Keep2 (w w' : World) : Prop := ∀ b t cs, t ≠ 97 → t ≠ 98 → Blk w b t cs → Blk w' b t cs
theorem Keep2.refl (w : World) : Keep2 w w := fun _ _ _ _ _ h => h
theorem Keep2.trans {a b c : World} (h : Keep2 a b) (k : Keep2 b c) : Keep2 a c := fun x t cs h1 h2 hb => k x t cs h1 h2 (h x t cs h1 h2 hb)
theorem Keep2.below {a b : World} (h : Below a.heap.size a b) : Keep2 a b := fun _ _ _ _ _ hb => hb.below h
theorem InAt.keep {w w' : World} {Bi I : Nat} {ms : List Nat} (h : InAt w Bi I ms) (hk : Keep2 w w') : InAt w' Bi I ms := ⟨hk _ _ _ (by decide) (by decide) h.1, hk _ _ _ (by decide) (by decide) h.2⟩
theorem set_ne_blk {w : World} {b b' m : Nat} {S : Int → Bool} {t : TypeId} {cs : Array Value} (h : SetAt w b m S) (hb : Blk w b' t cs) : b' ≠ b := by
  rintro rfl
  obtain ⟨es, c, h⟩ := h.at_map
  unfold Blk at hb
  rw [hb] at h
  cases h
theorem set_ne_row {w : World} {base b m n size : Nat} {S : Int → Bool} {e : TypeId} {v : Value} {xs : List Value} (h : SetAt w b m S) (ho : w.ownsRow base e size v n xs) : some b ≠ v.ownBlock := by
  intro he
  obtain ⟨es, c, h⟩ := h.at_map
  rcases ho.2 with ⟨rfl, _⟩ | ⟨g, cap, cur, rfl, _, hg, _⟩
  · cases he
  · simp only [Value.ownBlock] at he
    injection he with he
    subst he
    rw [h] at hg
    cases hg
theorem MapsAt.kept {w w' : World} {base regs : Nat} {ms : List Nat} {L : Nat → Int → Bool} {row : Option Nat} (h : MapsAt w base regs ms L) (hg : w.grownBy w' row) (hne : ∀ i (h : i < ms.length), some ms[i] ≠ row) : MapsAt w' base regs ms L :=
  ⟨h.1, fun i hi => ⟨(h.2 i hi).1, (h.2 i hi).2.kept hg (hne i hi)⟩⟩
theorem grow_below' {w w' : World} (h : Below w.heap.size w w') (row : Option Nat) : w.grownBy w' row := ⟨h.os, h.tape, h.output, h.size, fun i hi _ => h.block i hi⟩
theorem MapsAt.below {w w' : World} {base regs : Nat} {ms : List Nat} {L : Nat → Int → Bool} (h : MapsAt w base regs ms L) (hb : Below w.heap.size w w') : MapsAt w' base regs ms L := h.kept (grow_below' hb none) (fun _ _ e => by cases e)
theorem WorkAt.below {w w' : World} {base Bw : Nat} {W : List (Int × Int)} (h : WorkAt w base Bw W) (hb : Below w.heap.size w w') : WorkAt w' base Bw W := by
  obtain ⟨v, h1, h2⟩ := h
  exact ⟨v, h1.below hb, own_below h2 hb⟩
theorem nodup_ne {α : Type} {l : List α} (h : l.Nodup) {i j : Nat} (hi : i < l.length) (hj : j < l.length) (hne : i ≠ j) : l[i] ≠ l[j] := by
  have hp := List.pairwise_iff_getElem.1 h
  rcases Nat.lt_or_gt_of_ne hne with h1 | h1
  · exact hp i j hi hj h1
  · exact (hp j i hj hi h1).symm
theorem ne_or {v : Value} {m : Nat} (h : some m ≠ v.ownBlock) : v.ownBlock = none ∨ v.ownBlock ≠ some m := by
  rcases e : v.ownBlock with _ | g
  · exact .inl rfl
  · exact .inr (fun e' => h (by rw [e, e']))
/-- the work does not lie in block b -/
def WorkFree (w : World) (Bw b : Nat) : Prop := ∀ v, w.cell? ⟨Bw, 0, none⟩ = some v → v.ownBlock ≠ some b
/-- pairs that are not among the work stay -/
def Stay2 (w w' : World) (Bw : Nat) : Prop := ∀ b cs, WorkFree w Bw b → Blk w b 98 cs → Blk w' b 98 cs ∧ WorkFree w' Bw b
theorem info_pair : (Try.prog.info? 98).map (fun i => (i.zero, i.size, i.bytes)) = some (some (.agg #[.int .i64 0, .int .i64 0]), 2, 16) := by kernel_rfl
def BackOut (base regs : Nat) (ms : List Nat) (L : Nat → Int → Bool) (W : List (Int × Int)) (Bw : Nat) (r : Int) (i : Nat) (w : World) (e : Ending) (w' : World) : Prop :=
  e = .returned (.tuple #[]) ∧ ((L i r = true ∧ w' = w) ∨ (L i r = false ∧ MapsAt w' base regs ms (updL L i r) ∧ WorkAt w' base Bw (W ++ [(r, (i : Int))]) ∧ Keep2 w w' ∧ Below base w w' ∧ Stay2 w w' Bw))
theorem back_any (base regs : Nat) (ms : List Nat) (L : Nat → Int → Bool) (W : List (Int × Int)) (Bi I Bw : Nat) (r : Int) (i : Nat) (w : World) (hregs : regs ≤ 8000) (hi : i < ms.length) (hms : ms.length ≤ 6000) (hr0 : 0 ≤ r) (hr1 : r < regs) (hW : W.length ≤ 100000000)
    (hin : InAt w Bi I ms) (hM : MapsAt w base regs ms L) (hWk : WorkAt w base Bw W) (hBw : base ≤ Bw) (hbz : base ≤ w.heap.size) :
    Calls Try.prog 60 #[.int .i64 r, .int .i64 (i : Int), .pointer (some ⟨Bi, 0, none⟩), .pointer (some ⟨Bw, 0, none⟩)] w (BackOut base regs ms L W Bw r i w) := by
  obtain ⟨h1, h2⟩ := hin
  obtain ⟨v, h3, h4⟩ := hWk
  have hset := (hM.2 i hi).2
  have hmb := (hM.2 i hi).1
  have hwf : (Lit.int .i64 r).wf = true := (wf_iff r).2 (by omega)
  have c1 := h1.cell 0 (.slice (some ⟨I, 0, none⟩) ms.length ms.length) rfl
  have c2 := h2.cell i (.map (some ms[i])) (by simp [hi])
  have c3 := h3.cell 0 v rfl
  have hi0 : (0 : Int) ≤ (i : Int) := by omega
  have hi1 : (i : Int) < (ms.length : Int) := by omega
  have hi6 : (i : Int) < 6000 := by omega
  have hlk := hset.look r hwf
  have hcl := cntR_le regs (L i)
  have hnd := hM.1
  have HO : Hid (∀ j (h : j < ms.length), j ≠ i → ms[j] ≠ ms[i]) := fun j hj hne => nodup_ne hnd hj hi hne
  rcases hL : L i r with _ | _
  · rw [hL] at hlk
    have HM := Lib.hid hM
    have HS := Lib.hid hset
    have HW4 := Lib.hid h4
    have HL := Lib.hid hL
    have hne1 := set_ne_blk hset h1
    have hne2 := set_ne_blk hset h2
    have hne3 := set_ne_blk hset h3
    have HN4 := Lib.hid (set_ne_row hset h4)
    obtain ⟨i0, hinfo, hz0, hz1, hz2⟩ := info_parts info_pair
    clear hM hset hL hnd h4
    generalize hm : ms[i] = m at *
    go_enter Try.func60, Try.ntmps60
    go_wp2_with (first
      | (at_mapUpdate; go_must ((refine wpList_set_put _ rfl _ _ _ rfl m (cntR regs (L i)) (L i) (by rfl) HS.out r (by rfl) (by rfl) hwf (by unfold maxLen; omega) ?_; intro w2 hs2 hg2; have k1 := h1.grown hg2 (fun e => hne1 (by simpa using e)); have k2 := h2.grown hg2 (fun e => hne2 (by simpa using e)); have k3 := h3.grown hg2 (fun e => hne3 (by simpa using e)); have c3' := k3.cell 0 v rfl; have f3' := k3.free 0; have h42 := HW4.out.kept hg2 (ne_or HN4.out); have hsz2 := hg2.size; have H42 := Lib.hid h42; have HS2 := Lib.hid hs2; have HG2 := Lib.hid hg2; clear hs2 hg2 h42)))
      | (at_builtin; go_must ((refine wpList_append_own_at _ rfl _ _ 97 rfl base 98 i0 _ 2 16 Try.underlying97 hinfo hz0 hz1 hz2 rfl (by omega) v W.length (W.flatMap pairC) (by rfl) (H42.out.alloc _) ⟨w2.heap.size, 0, none⟩ 1 1 (pairC (r, (i : Int))) (by rfl) (by rfl) (World.news_of_block (cs := (pairC (r, (i : Int))).toArray) (t := 98) (fr := (0, 0)) (heap_new (by simp))) (by simp [pairC, Value.oneCell']) (by unfold maxLen; omega) (by omega) (by simp; omega) ?_; intro v' w3 hown3 hg3 _ hat3; obtain ⟨g', cap', rfl⟩ := ownsRow_succ hown3; have HA3 := Lib.hid hat3; clear hat3; have k4 := (k3.alloc _).grown hg3 (own_blk H42.out k3 (by decide)); have c4 := k4.cell 0 v rfl; have f4 := k4.free 0; have HO3 := Lib.hid hown3; have HG3 := Lib.hid hg3; clear hown3 hg3))))
    have h42 := H42.out
    have bw2 : Below base w w2 := (Below.refl base w).grown HG2.out hbz (fun j e => by injection e with e; omega)
    have hsz3 := HG3.out.size
    have bw3 : Below base w w3 := (bw2.alloc (by omega) _).grown HG3.out (by simp; omega) (own_ge h42)
    have hm3 : MapsAt w3 base regs ms (updL L i r) := by
      refine ⟨HM.out.1, fun j hj => ⟨(HM.out.2 j hj).1, ?_⟩⟩
      by_cases e : j = i
      · subst e
        have hs3 := (HS2.out.kept (grow_below' (Below.alloc (Below.refl _ w2) (Nat.le_refl _) (.cells #[.int .i64 r, .int .i64 (j : Int)] 98)) none) (by simp)).kept HG3.out (set_ne_row HS2.out h42)
        rw [updL_same, cntR_put hr0 hr1 HL.out, hm]
        exact hs3
      · rw [updL_other L r e]
        have hsj := (HM.out.2 j hj).2
        have hs2 := hsj.kept HG2.out (fun h => HO.out j hj e (by simpa using h))
        exact (hs2.kept (grow_below' (Below.alloc (Below.refl _ w2) (Nat.le_refl _) (.cells #[.int .i64 r, .int .i64 (i : Int)] 98)) none) (by simp)).kept HG3.out (set_ne_row hs2 h42)
    have kp3 : Keep2 w w3 := fun b t cs t1 t2 hb => by
      have hn : b ≠ m := set_ne_blk HS.out hb
      have hb2 := hb.grown HG2.out (fun e => hn (by simpa using e))
      exact (hb2.alloc _).grown HG3.out (own_blk h42 hb2 (Ne.symm t2))
    have HM3 := Lib.hid hm3
    have HK3 := Lib.hid kp3
    have HB3 := Lib.hid bw3
    have hne4 := set_ne_blk (HM.out.2 i hi).2 h3
    clear hm3 kp3 bw3 bw2 h42 hlk hcl
    go_wp2
    go_end0
    refine ⟨rfl, .inr ⟨HL.out, HM3.out.kept (grow_set w3 Bw 0 _) (fun j hj e => ?_), ⟨_, k4.set_ 0 _, ?_⟩, fun b t cs t1 t2 hb => ?_, HB3.out.setCell (p := ⟨Bw, 0, none⟩) hBw _, fun b cs hf hb => ?_⟩⟩
    · injection e with e
      exact set_ne_blk (HM3.out.2 j hj).2 k4 e.symm
    · have ho : w3.ownsRow base 98 2 (.slice (some ⟨g', 0, none⟩) (W.length + 1) cap') (W ++ [(r, (i : Int))]).length ((W ++ [(r, (i : Int))]).flatMap pairC) := by
        simpa using HO3.out
      exact own_set ho (own_blk ho k4 (by decide)) _
    · exact (HK3.out b t cs t1 t2 hb).far (fun e => t1 (by
        have hb3 := HK3.out b t cs t1 t2 hb
        subst e
        unfold Blk at hb3 k4
        rw [k4] at hb3
        injection hb3 with hb3
        injection hb3 with _ ht
        exact ht.symm)) _
    · have hfv : v.ownBlock ≠ some b := hf v (h3.cell 0 v rfl)
      have hn : b ≠ m := set_ne_blk HS.out hb
      have hb2 := hb.grown HG2.out (fun e => hn (by simpa using e))
      have hb3 := (hb2.alloc (.cells #[.int .i64 r, .int .i64 (i : Int)] 98)).grown HG3.out (fun e => hfv e.symm)
      have hlb := hb2.lt
      refine ⟨hb3.far (fun e => ?_) _, fun v0 h0 => ?_⟩
      · simp only at e
        subst e
        exact absurd rfl (Blk.ne_ hb3 k4 (by decide))
      · have h1 := (k4.set_ 0 (.slice (some ⟨g', 0, none⟩) (W.length + 1) cap')).cell 0 (.slice (some ⟨g', 0, none⟩) (W.length + 1) cap') rfl
        rw [h1] at h0
        injection h0 with h0
        subst h0
        rcases HA3.out with e | e
        · rw [e]; exact hfv
        · rw [e]
          intro e2
          injection e2 with e2
          simp at e2
          omega
  · rw [hL] at hlk
    have HL := Lib.hid hL
    clear hM hset hL hnd HO h4
    go_enter Try.func60, Try.ntmps60
    go_wp2
    refine bodyPost_ret (results_none rfl _ _ _) rfl ?_
    exact ⟨rfl, .inl ⟨HL.out, rfl⟩⟩
end Go.Proofs.Ytkkjkbljgaipcaa
