/- The token that begins at a place (scanner.next). -/
import Derived.Test.YtgegfbopogcjpaaGreatDoorQ03
import Derived.Lib.IndexAny
import Derived.Deep.CutRange
namespace Go.Proofs.YtgegfbopogcjpaaGreatDoor
open Go.RowKit Go.Shelf
set_option linter.unusedVariables false
set_option linter.unusedSimpArgs false
set_option maxRecDepth 100000
set_option maxHeartbeats 1000000
theorem byte_lt (s : ByteArray) (j : Nat) : 0 ≤ byteI s j ∧ byteI s j < 256 := by
 unfold byteI
 split
 ·have := (s[j]).toNat_lt; omega
 ·omega
def signsB : ByteArray := ⟨#[123, 125, 40, 41, 59, 44, 46, 61, 60, 43, 45, 42, 47, 37, 38, 124, 94, 33]⟩
theorem idx_any (c : Int) (w : World) (h : 0 ≤ c ∧ c < 256) : Calls Tryz.prog 68 #[.string signsB, .int .u8 c] w fun e w' => (∃ n : Int, e = .returned (.int .i64 n) ∧ decide (0 ≤ n) = signI c) ∧ w' = w := by
 refine (sh_strings_IndexByte signsB c w).mono fun e w' ⟨h1, h2⟩ => ⟨⟨_, h1, ?_⟩, h2⟩
 rw [← Lib.contains_iff_indexByte]
 obtain ⟨n, rfl⟩ : ∃ n : Nat, c = n := ⟨c.toNat, by omega⟩
 have hn : (n.toUInt8).toNat = n := by simp; omega
 rw [Int.toNat_natCast, Bool.eq_iff_iff, List.contains_iff_mem]
 unfold signI
 show n.toUInt8 ∈ oneSigns ↔ _
 rw [List.any_eq_true]
 constructor
 ·intro hm
  exact ⟨_, hm, by rw [hn]; simp⟩
 ·rintro ⟨b, hb, he⟩
  rw [beq_iff_eq] at he
  have : b = n.toUInt8 := UInt8.toNat_inj.1 (by rw [hn]; omega)
  rw [← this]
  exact hb
def dots (s : ByteArray) (j : Nat) : Bool := byteI s j == 46 && byteI s (j + 1) == 46 && byteI s (j + 2) == 46
def eqs (s : ByteArray) (j : Nat) : Bool := byteI s j == 61 && byteI s (j + 1) == 61
theorem signLen_eq (s : ByteArray) (j : Nat) : signLen s j = if dots s j = true then 3 else if eqs s j = true then 2 else if signI (byteI s j) = true then 1 else 0 := by
 unfold signLen dots eqs
 simp only [Bool.and_eq_true, beq_iff_eq, and_assoc]
theorem byteI_none {s : ByteArray} {j : Nat} (h : s.size ≤ j) : byteI s j = 0 := by
 unfold byteI; rw [dif_neg (by omega)]
theorem rest_at (s : ByteArray) (j i : Nat) : byteI s (j + i) = match (s.extract j s.size).data.toList[i]? with
 | some b => (b.toNat : Int)
 | none => 0 := by
 rw [Lib.extract_data, List.getElem?_take, List.getElem?_drop]
 by_cases h : j + i < s.size
 ·rw [if_pos (by omega), byteI_at h, List.getElem?_eq_getElem (by rw [Array.length_toList]; exact h)]
  rw [Array.getElem_toList]; rfl
 ·rw [byteI_none (by omega)]
  split
  ·rename_i b hb
   split at hb
   ·rw [List.getElem?_eq_none (by rw [Array.length_toList]; show s.size ≤ _; omega)] at hb; cases hb
   ·cases hb
  ·rfl
theorem dots_prefix (s : ByteArray) (j : Nat) : Lib.hasPrefix (s.extract j s.size).data.toList [46, 46, 46] = dots s j := by
 unfold dots
 rw [show byteI s j = byteI s (j + 0) from rfl, rest_at s j 0, rest_at s j 1, rest_at s j 2]
 generalize (s.extract j s.size).data.toList = l
 unfold Lib.hasPrefix
 rw [Bool.eq_iff_iff]
 match l with
 | [] => simp [List.isPrefixOf]
 | [a] => simp [List.isPrefixOf]
 | [a, b] => simp [List.isPrefixOf]
 | a :: b :: c :: r => simp [List.isPrefixOf, ← UInt8.toNat_inj]; omega
theorem eqs_prefix (s : ByteArray) (j : Nat) : Lib.hasPrefix (s.extract j s.size).data.toList [61, 61] = eqs s j := by
 unfold eqs
 rw [show byteI s j = byteI s (j + 0) from rfl, rest_at s j 0, rest_at s j 1]
 generalize (s.extract j s.size).data.toList = l
 unfold Lib.hasPrefix
 rw [Bool.eq_iff_iff]
 match l with
 | [] => simp [List.isPrefixOf]
 | [a] => simp [List.isPrefixOf]
 | a :: b :: r => simp [List.isPrefixOf, ← UInt8.toNat_inj]; omega
theorem dots_size {s : ByteArray} {j : Nat} (h : dots s j = true) : j + 3 ≤ s.size ∧ s.extract j (j + 3) = ⟨#[46, 46, 46]⟩ := by
 unfold dots at h
 simp only [Bool.and_eq_true, beq_iff_eq] at h
 obtain ⟨⟨h0, h1⟩, h2⟩ := h
 have hs : j + 2 < s.size := by
  rcases Nat.lt_or_ge (j + 2) s.size with h | h
  ·exact h
  ·rw [byteI_none h] at h2; cases h2
 refine ⟨by omega, ByteArray.ext_getElem (by rw [ByteArray.size_extract]; show min (j + 3) s.size - j = 3; omega) fun i hi hi' => ?_⟩
 have hi3 : i < 3 := hi'
 have e : ((s.extract j (j + 3))[i].toNat : Int) = byteI s (j + i) := by rw [ByteArray.getElem_extract, byteI_at (by omega)]
 apply UInt8.toNat_inj.1
 have h3 : i = 0 ∨ i = 1 ∨ i = 2 := by omega
 rcases h3 with rfl | rfl | rfl
 ·rw [show byteI s (j + 0) = byteI s j from rfl, h0] at e; show _ = 46; omega
 ·rw [h1] at e; show _ = 46; omega
 ·rw [h2] at e; show _ = 46; omega
theorem eqs_size {s : ByteArray} {j : Nat} (h : eqs s j = true) : j + 2 ≤ s.size ∧ s.extract j (j + 2) = ⟨#[61, 61]⟩ := by
 unfold eqs at h
 simp only [Bool.and_eq_true, beq_iff_eq] at h
 obtain ⟨h0, h1⟩ := h
 have hs : j + 1 < s.size := by
  rcases Nat.lt_or_ge (j + 1) s.size with h | h
  ·exact h
  ·rw [byteI_none h] at h1; cases h1
 refine ⟨by omega, ByteArray.ext_getElem (by rw [ByteArray.size_extract]; show min (j + 2) s.size - j = 2; omega) fun i hi hi' => ?_⟩
 have hi3 : i < 2 := hi'
 have e : ((s.extract j (j + 2))[i].toNat : Int) = byteI s (j + i) := by rw [ByteArray.getElem_extract, byteI_at (by omega)]
 apply UInt8.toNat_inj.1
 have h3 : i = 0 ∨ i = 1 := by omega
 rcases h3 with rfl | rfl
 ·rw [show byteI s (j + 0) = byteI s j from rfl, h0] at e; show _ = 61; omega
 ·rw [h1] at e; show _ = 61; omega
theorem extract_one {s : ByteArray} {j : Nat} (h : j < s.size) : s.extract j (j + 1) = ⟨#[s[j]'h]⟩ := by
 refine ByteArray.ext_getElem (by rw [ByteArray.size_extract]; show min (j + 1) s.size - j = 1; omega) fun i hi hi' => ?_
 have hi3 : i < 1 := hi'
 obtain rfl : i = 0 := by omega
 rw [ByteArray.getElem_extract]
 rfl
theorem encode_sign {n : Int} {b : UInt8} (hn : n = (b.toNat : Int)) (h : signI (b.toNat : Int) = true) : Utf8.encode n = ⟨#[b]⟩ := by
 have hb : b.toNat < 128 := by
  unfold signI at h
  rw [List.any_eq_true] at h
  obtain ⟨c, hc, he⟩ := h
  rw [beq_iff_eq] at he
  have : ∀ c ∈ oneSigns, c.toNat < 128 := by decide
  have := this c hc
  omega
 subst hn
 have hv : Utf8.valid (b.toNat : Int) = true := by simp [Utf8.valid]; omega
 unfold Utf8.encode
 simp only [hv, if_true, Int.toNat_natCast]
 rw [if_pos (by omega)]
 simp
theorem Below.grownBy_ {w w' : World} {row : Option Nat} (h : Below w.heap.size w w') : w.grownBy w' row := ⟨h.os, h.tape, h.output, h.size, fun i hi _ => h.block i hi⟩
theorem grow_then {a b c : World} {g : Nat} (h : a.grownBy b (some g)) (k : b.grownBy c (some g)) : a.grownBy c (some g) :=
 ⟨k.os.trans h.os, k.tape.trans h.tape, k.output.trans h.output, Nat.le_trans h.size k.size, fun i hi hn => (k.block i (Nat.lt_of_lt_of_le hi h.size) hn).trans (h.block i hi hn)⟩
theorem grow_drewN {a w : World} {g : Option Nat} (h : a.grownBy w g) (n : Nat) : a.grownBy (w.drewN n) g := ⟨h.os, h.tape, h.output, h.size, h.block⟩
theorem grow_set3 {a w : World} {g b : Nat} (h : a.grownBy w (some g)) (hb : a.heap.size ≤ b) (u0 u1 u2 : Value) : a.grownBy (((w.setCell ⟨b, 0, none⟩ u0).setCell ⟨b, 1, none⟩ u1).setCell ⟨b, 2, none⟩ u2) (some g) := by
 have one : ∀ (w : World) (o : Nat) (u : Value), a.grownBy w (some g) → a.grownBy (w.setCell ⟨b, o, none⟩ u) (some g) := fun w o u h =>
  ⟨h.os, h.tape, h.output, by simpa [World.setCell] using h.size, fun i hi hne => (Below.heap_setCell w ⟨b, o, none⟩ u i (fun e => by subst e; show False; omega)).trans (h.block i hi hne)⟩
 exact one _ _ _ (one _ _ _ (one _ _ _ h))
theorem scn_far3 {w : World} {g b k : Nat} {s : ByteArray} {e p : Int} (h : Scn w g s k e p) (hne : g ≠ b) (u0 u1 u2 : Value) : Scn (((w.setCell ⟨b, 0, none⟩ u0).setCell ⟨b, 1, none⟩ u1).setCell ⟨b, 2, none⟩ u2) g s k e p :=
 ((Blk.far h (p := ⟨b, 0, none⟩) hne u0).far (p := ⟨b, 1, none⟩) hne u1).far (p := ⟨b, 2, none⟩) hne u2
theorem scn_move {w : World} {g j k' : Nat} {s : ByteArray} {e p u : Int} (h : Scn w g s j e p) (n : Nat) (hu : u = (k' : Int)) : Scn ((w.drewN n).setCell ⟨g, 1, none⟩ (.int .i64 u)) g s k' e p := by
 subst hu
 exact (Blk.drewN h n).set_ 1 _
theorem blk_move {w : World} {b g : Nat} {t : TypeId} {cs : Array Value} (h : Blk w b t cs) (hne : b ≠ g) (n : Nat) (u : Value) : Blk ((w.drewN n).setCell ⟨g, 1, none⟩ u) b t cs := (Blk.drewN h n).far (p := ⟨g, 1, none⟩) hne u
theorem grow_move {a w : World} {g : Nat} (h : a.grownBy w (some g)) (n : Nat) (u : Value) : a.grownBy ((w.drewN n).setCell ⟨g, 1, none⟩ u) (some g) :=
 ⟨h.os, h.tape, h.output, by simpa [World.setCell] using h.size, fun i hi hne => (Below.heap_setCell (w.drewN n) ⟨g, 1, none⟩ u i (fun e => hne (by rw [e]))).trans (h.block i hi hne)⟩
theorem scn_move0 {w : World} {g j k' : Nat} {s : ByteArray} {e p u : Int} (h : Scn w g s j e p) (hu : u = (k' : Int)) : Scn (w.setCell ⟨g, 1, none⟩ (.int .i64 u)) g s k' e p := by
 subst hu
 exact Blk.set_ h 1 _
theorem grow_move0 {a w : World} {g : Nat} (h : a.grownBy w (some g)) (u : Value) : a.grownBy (w.setCell ⟨g, 1, none⟩ u) (some g) :=
 ⟨h.os, h.tape, h.output, by simpa [World.setCell] using h.size, fun i hi hne => (Below.heap_setCell w ⟨g, 1, none⟩ u i (fun e => hne (by rw [e]))).trans (h.block i hi hne)⟩
def NextOut (w : World) (g : Nat) (s : ByteArray) (j : Nat) (ce cp : Int) (e : Ending) (w' : World) : Prop :=
 e = .returned (.tuple #[.agg (if (tokAt s j).e = 0 then tokC (tokAt s j).k (tokAt s j).t 0 else zeroT), .int .i64 (tokAt s j).e]) ∧ (∃ z : Nat, z ≤ s.size ∧ Scn w' g s z ce cp ∧ ((tokAt s j).e = 0 → z = (tokAt s j).z)) ∧ w.grownBy w' (some g)
theorem NextOut.ok {w w' : World} {g : Nat} {s : ByteArray} {j z : Nat} {ce cp k : Int} {t : ByteArray} (hR : tokAt s j = ⟨0, k, t, z⟩) (hz : z ≤ s.size) (h : Scn w' g s z ce cp) (hg : w.grownBy w' (some g)) :
 NextOut w g s j ce cp (.returned (.tuple #[.agg #[.int .i64 k, .string t, .int .i64 0], .int .i64 0])) w' := by
 refine ⟨by rw [hR]; rfl, ⟨z, hz, h, fun _ => by rw [hR]⟩, hg⟩
theorem NextOut.bad {w w' : World} {g : Nat} {s : ByteArray} {j z : Nat} {ce cp e : Int} (hR : (tokAt s j).e = e) (he : e ≠ 0) (hz : z ≤ s.size) (h : Scn w' g s z ce cp) (hg : w.grownBy w' (some g)) :
 NextOut w g s j ce cp (.returned (.tuple #[.agg #[.int .i64 0, .string ⟨#[]⟩, .int .i64 0], .int .i64 e])) w' := by
 refine ⟨by rw [hR, if_neg he]; rfl, ⟨z, hz, h, fun h0 => absurd h0 (by rw [hR]; exact he)⟩, hg⟩
theorem next_letter (g : Nat) (s : ByteArray) (j : Nat) (ce cp : Int) (w : World) (hj : j < s.size) (hs : s.size ≤ 4000) (hb : Scn w g s j ce cp) (he : ER w) (hg : ∀ k, Tryz.prog.globalNamed "strconv.ErrRange" = some k → k ≠ g) (hl : letterI (byteI s j) = true) :
 Calls Tryz.prog 23 #[.pointer (some ⟨g, 0, none⟩)] w (NextOut w g s j ce cp) := by
 have hc' : ((s[j]'hj).toNat : Int) = byteI s j := (byteI_at hj).symm
 have HR : Hid (tokAt s j = ⟨if 16 < endOf s chrI j - j then 1 else 0, 1, s.extract j (endOf s chrI j), endOf s chrI j⟩) := by show _ = _; unfold tokAt; rw [if_pos hl]
 have hgt : j < endOf s chrI j := endOf_gt hj (chr_of_letter hl)
 have hle : endOf s chrI j ≤ s.size := endOf_le (by omega)
 have hl' : letterI ((s[j]'hj).toNat : Int) = true := by rw [hc']; exact hl
 clear hc' hl
 have kb0 := Blk.new_ w 50 zeroT
 have B0 : Below w.heap.size w (w.alloc (.cells zeroT 50)) := by (repeat (first | with_reducible assumption | with_reducible exact Below.refl _ _ | (refine Below.setCell ?_ (by first | omega | (simp; done) | (simp; omega)) _) | (refine Below.drewN_ ?_ _) | (refine Below.drew ?_) | (refine Below.alloc ?_ (by first | omega | (simp; done) | (simp; omega)) _)))
 have HB := Lib.hid (hb.below B0)
 have HE0 := Lib.hid (ER.keep he B0)
 have HGN : Hid (g ≠ w.heap.size) := fun e => by have := hb.lt; omega
 have HG0 : Hid (w.grownBy (w.alloc (.cells zeroT 50)) (some g)) := Below.grownBy_ B0
 have HGE := Lib.hid hg
 clear hb he hg B0
 go_enter Tryz.func23, Tryz.ntmps23
 go_upto_region 1 with (fail)
 have hz0 : (w.alloc (.cells #[.int .i64 0, .string ⟨#[]⟩, .int .i64 0] 50)) = (w.alloc (.cells zeroT 50)) := rfl
 rw [hz0]
 clear hz0
 generalize hw1 : w.alloc (.cells zeroT 50) = w1 at *
 clear hw1
 have KB : Hid (Blk w1 w.heap.size 50 #[.int .i64 0, .string ⟨#[]⟩, .int .i64 0]) := kb0
 clear kb0
 have c0 := HB.out.cell 0 (.string s) rfl
 have c1 := HB.out.cell 1 (.int .i64 j) rfl
 have g0 : (0 : Int) ≤ (j : Int) := by omega
 have g1 : (j : Int) < (s.size : Int) := by omega
 go_wp2_with fail
 go_quiet (fail)
 clear c0 c1
 have HBq : Hid (Scn (w1.drewN nq) g s j ce cp) := Blk.drewN HB.out nq
 have KBq := Lib.hid (Blk.drewN KB.out nq)
 have HGq := Lib.hid (grow_drewN HG0.out nq)
 have HEq : Hid (ER (w1.drewN nq)) := HE0.out
 clear HB KB HG0 HE0
 generalize w1.drewN nq = w1q at *
 have c0 := HBq.out.cell 0 (.string s) rfl
 have c1 := HBq.out.cell 1 (.int .i64 j) rfl
 go_wp2_with (go_at_call 64; refine (lexLetter_any _ _).mono ?_; rintro e w' ⟨rfl, hw⟩; subst hw)
 refine (run_chr g s j ce cp _ (by omega) hs HBq.out).mono ?_
 rintro e w2 ⟨rfl, hs2, ho2⟩
 have HS2 := Lib.hid hs2
 have HO2 : Hid (w.grownBy w2 (some g)) := grow_then HGq.out ho2.1
 have KB2 : Hid (Blk w2 w.heap.size 50 #[.int .i64 0, .string ⟨#[]⟩, .int .i64 0]) := KBq.out.grown ho2.1 (fun e => HGN.out (by injection e with e; exact e.symm))
 clear hs2 ho2
 have x0 := KB2.out.cell 0 (.int .i64 0) rfl
 have x1 := KB2.out.cell 1 (.string ⟨#[]⟩) rfl
 have x2 := KB2.out.cell 2 (.int .i64 0) rfl
 have f0 := KB2.out.free 0
 have f1 := KB2.out.free 1
 have f2 := KB2.out.free 2
 have hsz : (s.extract j (endOf s chrI j)).size = endOf s chrI j - j := by rw [ByteArray.size_extract]; omega
 generalize s.extract j (endOf s chrI j) = T at *
 generalize endOf s chrI j = z at *
 by_cases h16 : 16 < z - j
 ·have d1 : (16 : Int) < (T.size : Int) := by omega
  have HR1 : Hid ((tokAt s j).e = 1) := by show _ = _; rw [HR.out]; show (if _ then _ else _) = _; rw [if_pos h16]
  clear hsz
  go_wp2_with fail
  exact bodyPost_ret (results_tok (by kernel_rfl) (lblk_set3 KB2.out _ _ _) rfl rfl) rfl (NextOut.bad HR1.out (by decide) hle (scn_far3 HS2.out HGN.out _ _ _) (grow_set3 HO2.out (Nat.le_refl _) _ _ _))
 ·have d1 : ¬ (16 : Int) < (T.size : Int) := by omega
  have HR1 : Hid (tokAt s j = ⟨0, 1, T, z⟩) := by show _ = _; rw [HR.out, if_neg h16]
  clear hsz
  go_wp2_with fail
  exact bodyPost_ret (results_tok (by kernel_rfl) (lblk_set3 KB2.out _ _ _) rfl rfl) rfl (NextOut.ok HR1.out hle (scn_far3 HS2.out HGN.out _ _ _) (grow_set3 HO2.out (Nat.le_refl _) _ _ _))
theorem next_digit (g : Nat) (s : ByteArray) (j : Nat) (ce cp : Int) (w : World) (hj : j < s.size) (hs : s.size ≤ 4000) (hb : Scn w g s j ce cp) (he : ER w) (hg : ∀ k, Tryz.prog.globalNamed "strconv.ErrRange" = some k → k ≠ g) (hl : letterI (byteI s j) = false) (hd : digitI (byteI s j) = true) :
 Calls Tryz.prog 23 #[.pointer (some ⟨g, 0, none⟩)] w (NextOut w g s j ce cp) := by
 have hc' : ((s[j]'hj).toNat : Int) = byteI s j := (byteI_at hj).symm
 have HR : Hid (tokAt s j = ⟨numE (s.extract j (endOf s chrI j)), numK (s.extract j (endOf s chrI j)), digitsOf (s.extract j (endOf s chrI j)), endOf s chrI j⟩) := by show _ = _; unfold tokAt; rw [if_neg (by rw [hl]; simp), if_pos hd]
 have hgt : j < endOf s chrI j := endOf_gt hj (chr_of_digit hd)
 have hle : endOf s chrI j ≤ s.size := endOf_le (by omega)
 have hl' : letterI ((s[j]'hj).toNat : Int) = false := by rw [hc']; exact hl
 have hd' : digitI ((s[j]'hj).toNat : Int) = true := by rw [hc']; exact hd
 have hrow : digitI (byteI (s.extract j (endOf s chrI j)) 0) = true := by rw [byteI_extract (by omega) hle]; exact hd
 clear hc' hl hd
 have kb0 := Blk.new_ w 50 zeroT
 have B0 : Below w.heap.size w (w.alloc (.cells zeroT 50)) := by (repeat (first | with_reducible assumption | with_reducible exact Below.refl _ _ | (refine Below.setCell ?_ (by first | omega | (simp; done) | (simp; omega)) _) | (refine Below.drewN_ ?_ _) | (refine Below.drew ?_) | (refine Below.alloc ?_ (by first | omega | (simp; done) | (simp; omega)) _)))
 have HB := Lib.hid (hb.below B0)
 have HE0 := Lib.hid (ER.keep he B0)
 have HGN : Hid (g ≠ w.heap.size) := fun e => by have := hb.lt; omega
 have HG0 : Hid (w.grownBy (w.alloc (.cells zeroT 50)) (some g)) := Below.grownBy_ B0
 have HGE := Lib.hid hg
 clear hb he hg B0
 go_enter Tryz.func23, Tryz.ntmps23
 go_upto_region 1 with (fail)
 have hz0 : (w.alloc (.cells #[.int .i64 0, .string ⟨#[]⟩, .int .i64 0] 50)) = (w.alloc (.cells zeroT 50)) := rfl
 rw [hz0]
 clear hz0
 generalize hw1 : w.alloc (.cells zeroT 50) = w1 at *
 clear hw1
 have KB : Hid (Blk w1 w.heap.size 50 #[.int .i64 0, .string ⟨#[]⟩, .int .i64 0]) := kb0
 clear kb0
 have c0 := HB.out.cell 0 (.string s) rfl
 have c1 := HB.out.cell 1 (.int .i64 j) rfl
 have g0 : (0 : Int) ≤ (j : Int) := by omega
 have g1 : (j : Int) < (s.size : Int) := by omega
 go_wp2_with fail
 go_quiet (fail)
 clear c0 c1
 have HBq : Hid (Scn (w1.drewN nq) g s j ce cp) := Blk.drewN HB.out nq
 have KBq := Lib.hid (Blk.drewN KB.out nq)
 have HGq := Lib.hid (grow_drewN HG0.out nq)
 have HEq : Hid (ER (w1.drewN nq)) := HE0.out
 clear HB KB HG0 HE0
 generalize w1.drewN nq = w1q at *
 have c0 := HBq.out.cell 0 (.string s) rfl
 have c1 := HBq.out.cell 1 (.int .i64 j) rfl
 go_wp2_with (first
  | (go_at_call 64; refine (lexLetter_any _ _).mono ?_; rintro e w' ⟨rfl, hw⟩; subst hw)
  | (go_at_call 66; refine (lexDigit_any _ _).mono ?_; rintro e w' ⟨rfl, hw⟩; subst hw))
 refine (run_chr g s j ce cp _ (by omega) hs HBq.out).mono ?_
 rintro e w2 ⟨rfl, hs2, ho2⟩
 have HS2 := Lib.hid hs2
 have HO2 : Hid (w.grownBy w2 (some g)) := grow_then HGq.out ho2.1
 have HE2 : Hid (ER w2) := ER.only HEq.out ho2 HGE.out
 have KB2 : Hid (Blk w2 w.heap.size 50 #[.int .i64 0, .string ⟨#[]⟩, .int .i64 0]) := KBq.out.grown ho2.1 (fun e => HGN.out (by injection e with e; exact e.symm))
 clear hs2 ho2
 have hsz : (s.extract j (endOf s chrI j)).size = endOf s chrI j - j := by rw [ByteArray.size_extract]; omega
 generalize s.extract j (endOf s chrI j) = T at *
 generalize endOf s chrI j = z at *
 have HNUM : Hid (Calls Tryz.prog 67 #[.string T] w2 fun e w' => e = .returned (.tuple #[.agg (if numE T = 0 then tokC (numK T) (digitsOf T) 0 else zeroT), .int .i64 (numE T)]) ∧ Below w2.heap.size w2 w') := lnumber_any T w2 (by omega) (by omega) hrow HE2.out
 clear hsz hrow
 go_wp2_with fail
 by_cases h0 : numE T = 0
 ·have HR1 : Hid (tokAt s j = ⟨0, numK T, digitsOf T, z⟩) := by show _ = _; rw [HR.out, h0]
  rw [if_pos h0, h0] at HNUM
  clear h0
  unfold tokC at HNUM
  generalize numK T = K at *
  generalize digitsOf T = D at *
  refine HNUM.out.mono ?_
  clear HNUM
  rintro e w3 ⟨rfl, hb3⟩
  have KB3 := Lib.hid (KB2.out.below hb3)
  have HS3 := Lib.hid (Blk.below HS2.out hb3)
  have HO3 := Lib.hid (grow_then HO2.out (Below.grownBy_ hb3))
  clear hb3
  have x0 := KB3.out.cell 0 (.int .i64 0) rfl
  have x1 := KB3.out.cell 1 (.string ⟨#[]⟩) rfl
  have x2 := KB3.out.cell 2 (.int .i64 0) rfl
  have f0 := KB3.out.free 0
  have f1 := KB3.out.free 1
  have f2 := KB3.out.free 2
  go_wp2_with fail
  exact bodyPost_ret (results_tok (by kernel_rfl) (lblk_set3 KB3.out _ _ _) rfl rfl) rfl (NextOut.ok HR1.out hle (scn_far3 HS3.out HGN.out _ _ _) (grow_set3 HO3.out (Nat.le_refl _) _ _ _))
 ·have HR1 : Hid ((tokAt s j).e = numE T) := by show _ = _; rw [HR.out]
  have HN0 := Lib.hid h0
  rw [if_neg h0] at HNUM
  clear h0
  unfold zeroT at HNUM
  generalize numE T = E at *
  refine HNUM.out.mono ?_
  clear HNUM
  rintro e w3 ⟨rfl, hb3⟩
  have KB3 := Lib.hid (KB2.out.below hb3)
  have HS3 := Lib.hid (Blk.below HS2.out hb3)
  have HO3 := Lib.hid (grow_then HO2.out (Below.grownBy_ hb3))
  clear hb3
  have x0 := KB3.out.cell 0 (.int .i64 0) rfl
  have x1 := KB3.out.cell 1 (.string ⟨#[]⟩) rfl
  have x2 := KB3.out.cell 2 (.int .i64 0) rfl
  have f0 := KB3.out.free 0
  have f1 := KB3.out.free 1
  have f2 := KB3.out.free 2
  go_wp2_with fail
  exact bodyPost_ret (results_tok (by kernel_rfl) (lblk_set3 KB3.out _ _ _) rfl rfl) rfl (NextOut.bad HR1.out HN0.out hle (scn_far3 HS3.out HGN.out _ _ _) (grow_set3 HO3.out (Nat.le_refl _) _ _ _))
theorem next_none (g : Nat) (s : ByteArray) (j : Nat) (ce cp : Int) (w : World) (hj : j < s.size) (hs : s.size ≤ 4000) (hb : Scn w g s j ce cp) (he : ER w) (hg : ∀ k, Tryz.prog.globalNamed "strconv.ErrRange" = some k → k ≠ g) (hl : letterI (byteI s j) = false) (hd : digitI (byteI s j) = false) (hsg : signI (byteI s j) = false) :
 Calls Tryz.prog 23 #[.pointer (some ⟨g, 0, none⟩)] w (NextOut w g s j ce cp) := by
 have hc' : ((s[j]'hj).toNat : Int) = byteI s j := (byteI_at hj).symm
 have HT : Hid (tokAt s j = ⟨if signLen s j = 0 then 2 else 0, 4, s.extract j (j + signLen s j), j + signLen s j⟩) := by show _ = _; unfold tokAt; rw [if_neg (by rw [hl]; simp), if_neg (by rw [hd]; simp)]
 have hl' : letterI ((s[j]'hj).toNat : Int) = false := by rw [hc']; exact hl
 have hd' : digitI ((s[j]'hj).toNat : Int) = false := by rw [hc']; exact hd
 have HIX : Hid (∀ W : World, Calls Tryz.prog 68 #[.string signsB, .int .u8 ((s[j]'hj).toNat : Int)] W fun e w' => (∃ n : Int, e = .returned (.int .i64 n) ∧ decide (0 ≤ n) = false) ∧ w' = W) := fun W => by
  have := idx_any ((s[j]'hj).toNat : Int) W (by rw [hc']; exact byte_lt s j)
  rw [hc', hsg] at this
  rw [hc']
  exact this
 have HR : Hid ((tokAt s j).e = 2) := by
  show _ = _
  have h0 : signLen s j = 0 := by
   rw [signLen_eq, if_neg, if_neg, if_neg (by rw [hsg]; simp)]
   ·intro h; simp [eqs] at h; rw [h.1] at hsg; cases hsg
   ·intro h; simp [dots] at h; rw [h.1.1] at hsg; cases hsg
  rw [HT.out]; show (if _ then _ else _) = _; rw [if_pos h0]
 clear hc' hl hd hsg HT
 have kb0 := Blk.new_ w 50 zeroT
 have B0 : Below w.heap.size w (w.alloc (.cells zeroT 50)) := by (repeat (first | with_reducible assumption | with_reducible exact Below.refl _ _ | (refine Below.setCell ?_ (by first | omega | (simp; done) | (simp; omega)) _) | (refine Below.drewN_ ?_ _) | (refine Below.drew ?_) | (refine Below.alloc ?_ (by first | omega | (simp; done) | (simp; omega)) _)))
 have HB := Lib.hid (hb.below B0)
 have HE0 := Lib.hid (ER.keep he B0)
 have HGN : Hid (g ≠ w.heap.size) := fun e => by have := hb.lt; omega
 have HG0 : Hid (w.grownBy (w.alloc (.cells zeroT 50)) (some g)) := Below.grownBy_ B0
 have HGE := Lib.hid hg
 clear hb he hg B0
 go_enter Tryz.func23, Tryz.ntmps23
 go_upto_region 1 with (fail)
 have hz0 : (w.alloc (.cells #[.int .i64 0, .string ⟨#[]⟩, .int .i64 0] 50)) = (w.alloc (.cells zeroT 50)) := rfl
 rw [hz0]
 clear hz0
 generalize hw1 : w.alloc (.cells zeroT 50) = w1 at *
 clear hw1
 have KB : Hid (Blk w1 w.heap.size 50 #[.int .i64 0, .string ⟨#[]⟩, .int .i64 0]) := kb0
 clear kb0
 have c0 := HB.out.cell 0 (.string s) rfl
 have c1 := HB.out.cell 1 (.int .i64 j) rfl
 have g0 : (0 : Int) ≤ (j : Int) := by omega
 have g1 : (j : Int) < (s.size : Int) := by omega
 go_wp2_with fail
 go_quiet (fail)
 clear c0 c1
 have HBq : Hid (Scn (w1.drewN nq) g s j ce cp) := Blk.drewN HB.out nq
 have KBq := Lib.hid (Blk.drewN KB.out nq)
 have HGq := Lib.hid (grow_drewN HG0.out nq)
 have HEq : Hid (ER (w1.drewN nq)) := HE0.out
 clear HB KB HG0 HE0
 generalize w1.drewN nq = w1q at *
 have c0 := HBq.out.cell 0 (.string s) rfl
 have c1 := HBq.out.cell 1 (.int .i64 j) rfl
 go_wp2_with (first
  | (go_at_call 64; refine (lexLetter_any _ _).mono ?_; rintro e w' ⟨rfl, hw⟩; subst hw)
  | (go_at_call 66; refine (lexDigit_any _ _).mono ?_; rintro e w' ⟨rfl, hw⟩; subst hw))
 refine (HIX.out _).mono ?_
 clear HIX
 rintro e w' ⟨⟨n, rfl, hn⟩, hw⟩
 subst hw
 have x0 := KBq.out.cell 0 (.int .i64 0) rfl
 have x1 := KBq.out.cell 1 (.string ⟨#[]⟩) rfl
 have x2 := KBq.out.cell 2 (.int .i64 0) rfl
 have f0 := KBq.out.free 0
 have f1 := KBq.out.free 1
 have f2 := KBq.out.free 2
 go_wp2_with fail
 exact bodyPost_ret (results_tok (by kernel_rfl) (lblk_set3 KBq.out _ _ _) rfl rfl) rfl (NextOut.bad HR.out (by decide) (Nat.le_of_lt hj) (scn_far3 HBq.out HGN.out _ _ _) (grow_set3 HGq.out (Nat.le_refl _) _ _ _))
theorem next_dots (g : Nat) (s : ByteArray) (j : Nat) (ce cp : Int) (w : World) (hj : j < s.size) (hs : s.size ≤ 4000) (hb : Scn w g s j ce cp) (he : ER w) (hg : ∀ k, Tryz.prog.globalNamed "strconv.ErrRange" = some k → k ≠ g) (hl : letterI (byteI s j) = false) (hd : digitI (byteI s j) = false) (hdt : dots s j = true) :
 Calls Tryz.prog 23 #[.pointer (some ⟨g, 0, none⟩)] w (NextOut w g s j ce cp) := by
 have hc' : ((s[j]'hj).toNat : Int) = byteI s j := (byteI_at hj).symm
 have hsg : signI (byteI s j) = true := by unfold dots at hdt; simp at hdt; rw [hdt.1.1]; rfl
 have HT : Hid (tokAt s j = ⟨if signLen s j = 0 then 2 else 0, 4, s.extract j (j + signLen s j), j + signLen s j⟩) := by show _ = _; unfold tokAt; rw [if_neg (by rw [hl]; simp), if_neg (by rw [hd]; simp)]
 have hl' : letterI ((s[j]'hj).toNat : Int) = false := by rw [hc']; exact hl
 have hd' : digitI ((s[j]'hj).toNat : Int) = false := by rw [hc']; exact hd
 have HIX : Hid (∀ W : World, Calls Tryz.prog 68 #[.string signsB, .int .u8 ((s[j]'hj).toNat : Int)] W fun e w' => (∃ n : Int, e = .returned (.int .i64 n) ∧ decide (0 ≤ n) = true) ∧ w' = W) := fun W => by
  have := idx_any ((s[j]'hj).toNat : Int) W (by rw [hc']; exact byte_lt s j)
  rw [hc', hsg] at this
  rw [hc']
  exact this
 have hsl : signLen s j = 3 := by rw [signLen_eq, if_pos hdt]
 have HR : Hid (tokAt s j = ⟨0, 4, ⟨#[46, 46, 46]⟩, j + 3⟩) := by
  show _ = _
  rw [HT.out, hsl]; exact by rw [if_neg (by decide), (dots_size hdt).2]
 have hle : j + 3 ≤ s.size := (dots_size hdt).1
 have HPD : Hid (∀ W : World, Calls Tryz.prog 69 #[.string (s.extract j s.size), .string ⟨#[46, 46, 46]⟩] W fun e w' => e = .returned (.bool true) ∧ w' = W) := fun W => by
  have := sh_strings_HasPrefix (s.extract j s.size) ⟨#[46, 46, 46]⟩ W
  rw [show Lib.hasPrefix (s.extract j s.size).data.toList (⟨#[46, 46, 46]⟩ : ByteArray).data.toList = true from (dots_prefix s j).trans hdt] at this
  exact this
 have HPE : Hid (∀ W : World, Calls Tryz.prog 69 #[.string (s.extract j s.size), .string ⟨#[61, 61]⟩] W fun e w' => e = .returned (.bool (eqs s j)) ∧ w' = W) := fun W => by
  have := sh_strings_HasPrefix (s.extract j s.size) ⟨#[61, 61]⟩ W
  rw [show Lib.hasPrefix (s.extract j s.size).data.toList (⟨#[61, 61]⟩ : ByteArray).data.toList = eqs s j from eqs_prefix s j] at this
  exact this
 have hi0 : ∀ W : World, (Instr.index 94 (.agg #[.string ⟨#[46, 46, 46]⟩, .string ⟨#[61, 61]⟩]) (.int .i64 0)).run Tryz.prog W = .ok (.string ⟨#[46, 46, 46]⟩) W := fun _ => by kernel_rfl
 have hi1 : ∀ W : World, (Instr.index 94 (.agg #[.string ⟨#[46, 46, 46]⟩, .string ⟨#[61, 61]⟩]) (.int .i64 1)).run Tryz.prog W = .ok (.string ⟨#[61, 61]⟩) W := fun _ => by kernel_rfl
 clear HPE hi1
 clear hc' hl hd hsg HT hsl hdt
 have kb0 := Blk.new_ w 50 zeroT
 have B0 : Below w.heap.size w (w.alloc (.cells zeroT 50)) := by (repeat (first | with_reducible assumption | with_reducible exact Below.refl _ _ | (refine Below.setCell ?_ (by first | omega | (simp; done) | (simp; omega)) _) | (refine Below.drewN_ ?_ _) | (refine Below.drew ?_) | (refine Below.alloc ?_ (by first | omega | (simp; done) | (simp; omega)) _)))
 have HB := Lib.hid (hb.below B0)
 have HE0 := Lib.hid (ER.keep he B0)
 have HGN : Hid (g ≠ w.heap.size) := fun e => by have := hb.lt; omega
 have HG0 : Hid (w.grownBy (w.alloc (.cells zeroT 50)) (some g)) := Below.grownBy_ B0
 have HGE := Lib.hid hg
 clear hb he hg B0
 go_enter Tryz.func23, Tryz.ntmps23
 go_upto_region 1 with (fail)
 have hz0 : (w.alloc (.cells #[.int .i64 0, .string ⟨#[]⟩, .int .i64 0] 50)) = (w.alloc (.cells zeroT 50)) := rfl
 rw [hz0]
 clear hz0
 generalize hw1 : w.alloc (.cells zeroT 50) = w1 at *
 clear hw1
 have KB : Hid (Blk w1 w.heap.size 50 #[.int .i64 0, .string ⟨#[]⟩, .int .i64 0]) := kb0
 clear kb0
 have c0 := HB.out.cell 0 (.string s) rfl
 have c1 := HB.out.cell 1 (.int .i64 j) rfl
 have g0 : (0 : Int) ≤ (j : Int) := by omega
 have g1 : (j : Int) < (s.size : Int) := by omega
 go_wp2_with fail
 go_quiet (fail)
 clear c0 c1
 have HBq : Hid (Scn (w1.drewN nq) g s j ce cp) := Blk.drewN HB.out nq
 have KBq := Lib.hid (Blk.drewN KB.out nq)
 have HGq := Lib.hid (grow_drewN HG0.out nq)
 have HEq : Hid (ER (w1.drewN nq)) := HE0.out
 clear HB KB HG0 HE0
 generalize w1.drewN nq = w1q at *
 have c0 := HBq.out.cell 0 (.string s) rfl
 have c1 := HBq.out.cell 1 (.int .i64 j) rfl
 go_wp2_with (first
  | (go_at_call 64; refine (lexLetter_any _ _).mono ?_; rintro e w' ⟨rfl, hw⟩; subst hw)
  | (go_at_call 66; refine (lexDigit_any _ _).mono ?_; rintro e w' ⟨rfl, hw⟩; subst hw))
 refine (HIX.out _).mono ?_
 clear HIX
 rintro e w' ⟨⟨n, rfl, hn⟩, hw⟩
 subst hw
 have x0 := KBq.out.cell 0 (.int .i64 0) rfl
 have x1 := KBq.out.cell 1 (.string ⟨#[]⟩) rfl
 have x2 := KBq.out.cell 2 (.int .i64 0) rfl
 have f0 := KBq.out.free 0
 have f1 := KBq.out.free 1
 have f2 := KBq.out.free 2
 have fg1 := HBq.out.free 1
 have hgn := HGN.out
 go_wp2_with fail
 refine wp_loop_rounds 3 ?_
 rw [rounds_succ]
 go_wp2_with fail
 go_quiet ((go_at_call 69; exact Calls.quiet_of_same (HPD.out _)))
 go_wp2_with fail
 exact bodyPost_ret (results_tok (by kernel_rfl) (lblk_set3 (blk_move KBq.out (fun e => HGN.out e.symm) _ _) _ _ _) rfl rfl) rfl (NextOut.ok HR.out hle (scn_far3 (scn_move HBq.out _ (by omega)) HGN.out _ _ _) (grow_set3 (grow_move HGq.out _ _) (Nat.le_refl _) _ _ _))
theorem next_eqs (g : Nat) (s : ByteArray) (j : Nat) (ce cp : Int) (w : World) (hj : j < s.size) (hs : s.size ≤ 4000) (hb : Scn w g s j ce cp) (he : ER w) (hg : ∀ k, Tryz.prog.globalNamed "strconv.ErrRange" = some k → k ≠ g) (hl : letterI (byteI s j) = false) (hd : digitI (byteI s j) = false) (hdt : dots s j = false) (heq : eqs s j = true) :
 Calls Tryz.prog 23 #[.pointer (some ⟨g, 0, none⟩)] w (NextOut w g s j ce cp) := by
 have hc' : ((s[j]'hj).toNat : Int) = byteI s j := (byteI_at hj).symm
 have hsg : signI (byteI s j) = true := by unfold eqs at heq; simp at heq; rw [heq.1]; rfl
 have HT : Hid (tokAt s j = ⟨if signLen s j = 0 then 2 else 0, 4, s.extract j (j + signLen s j), j + signLen s j⟩) := by show _ = _; unfold tokAt; rw [if_neg (by rw [hl]; simp), if_neg (by rw [hd]; simp)]
 have hl' : letterI ((s[j]'hj).toNat : Int) = false := by rw [hc']; exact hl
 have hd' : digitI ((s[j]'hj).toNat : Int) = false := by rw [hc']; exact hd
 have HIX : Hid (∀ W : World, Calls Tryz.prog 68 #[.string signsB, .int .u8 ((s[j]'hj).toNat : Int)] W fun e w' => (∃ n : Int, e = .returned (.int .i64 n) ∧ decide (0 ≤ n) = true) ∧ w' = W) := fun W => by
  have := idx_any ((s[j]'hj).toNat : Int) W (by rw [hc']; exact byte_lt s j)
  rw [hc', hsg] at this
  rw [hc']
  exact this
 have hsl : signLen s j = 2 := by rw [signLen_eq, if_neg (by rw [hdt]; simp), if_pos heq]
 have HR : Hid (tokAt s j = ⟨0, 4, ⟨#[61, 61]⟩, j + 2⟩) := by
  show _ = _
  rw [HT.out, hsl]; exact by rw [if_neg (by decide), (eqs_size heq).2]
 have hle : j + 2 ≤ s.size := (eqs_size heq).1
 have HPD : Hid (∀ W : World, Calls Tryz.prog 69 #[.string (s.extract j s.size), .string ⟨#[46, 46, 46]⟩] W fun e w' => e = .returned (.bool false) ∧ w' = W) := fun W => by
  have := sh_strings_HasPrefix (s.extract j s.size) ⟨#[46, 46, 46]⟩ W
  rw [show Lib.hasPrefix (s.extract j s.size).data.toList (⟨#[46, 46, 46]⟩ : ByteArray).data.toList = false from (dots_prefix s j).trans hdt] at this
  exact this
 have HPE : Hid (∀ W : World, Calls Tryz.prog 69 #[.string (s.extract j s.size), .string ⟨#[61, 61]⟩] W fun e w' => e = .returned (.bool (eqs s j)) ∧ w' = W) := fun W => by
  have := sh_strings_HasPrefix (s.extract j s.size) ⟨#[61, 61]⟩ W
  rw [show Lib.hasPrefix (s.extract j s.size).data.toList (⟨#[61, 61]⟩ : ByteArray).data.toList = eqs s j from eqs_prefix s j] at this
  exact this
 have hi0 : ∀ W : World, (Instr.index 94 (.agg #[.string ⟨#[46, 46, 46]⟩, .string ⟨#[61, 61]⟩]) (.int .i64 0)).run Tryz.prog W = .ok (.string ⟨#[46, 46, 46]⟩) W := fun _ => by kernel_rfl
 have hi1 : ∀ W : World, (Instr.index 94 (.agg #[.string ⟨#[46, 46, 46]⟩, .string ⟨#[61, 61]⟩]) (.int .i64 1)).run Tryz.prog W = .ok (.string ⟨#[61, 61]⟩) W := fun _ => by kernel_rfl
 have HPE : Hid (∀ W : World, Calls Tryz.prog 69 #[.string (s.extract j s.size), .string ⟨#[61, 61]⟩] W fun e w' => e = .returned (.bool true) ∧ w' = W) := fun W => by
  have := HPE.out W
  rw [heq] at this
  exact this
 clear heq
 clear hc' hl hd hsg HT hsl hdt
 have kb0 := Blk.new_ w 50 zeroT
 have B0 : Below w.heap.size w (w.alloc (.cells zeroT 50)) := by (repeat (first | with_reducible assumption | with_reducible exact Below.refl _ _ | (refine Below.setCell ?_ (by first | omega | (simp; done) | (simp; omega)) _) | (refine Below.drewN_ ?_ _) | (refine Below.drew ?_) | (refine Below.alloc ?_ (by first | omega | (simp; done) | (simp; omega)) _)))
 have HB := Lib.hid (hb.below B0)
 have HE0 := Lib.hid (ER.keep he B0)
 have HGN : Hid (g ≠ w.heap.size) := fun e => by have := hb.lt; omega
 have HG0 : Hid (w.grownBy (w.alloc (.cells zeroT 50)) (some g)) := Below.grownBy_ B0
 have HGE := Lib.hid hg
 clear hb he hg B0
 go_enter Tryz.func23, Tryz.ntmps23
 go_upto_region 1 with (fail)
 have hz0 : (w.alloc (.cells #[.int .i64 0, .string ⟨#[]⟩, .int .i64 0] 50)) = (w.alloc (.cells zeroT 50)) := rfl
 rw [hz0]
 clear hz0
 generalize hw1 : w.alloc (.cells zeroT 50) = w1 at *
 clear hw1
 have KB : Hid (Blk w1 w.heap.size 50 #[.int .i64 0, .string ⟨#[]⟩, .int .i64 0]) := kb0
 clear kb0
 have c0 := HB.out.cell 0 (.string s) rfl
 have c1 := HB.out.cell 1 (.int .i64 j) rfl
 have g0 : (0 : Int) ≤ (j : Int) := by omega
 have g1 : (j : Int) < (s.size : Int) := by omega
 go_wp2_with fail
 go_quiet (fail)
 clear c0 c1
 have HBq : Hid (Scn (w1.drewN nq) g s j ce cp) := Blk.drewN HB.out nq
 have KBq := Lib.hid (Blk.drewN KB.out nq)
 have HGq := Lib.hid (grow_drewN HG0.out nq)
 have HEq : Hid (ER (w1.drewN nq)) := HE0.out
 clear HB KB HG0 HE0
 generalize w1.drewN nq = w1q at *
 have c0 := HBq.out.cell 0 (.string s) rfl
 have c1 := HBq.out.cell 1 (.int .i64 j) rfl
 go_wp2_with (first
  | (go_at_call 64; refine (lexLetter_any _ _).mono ?_; rintro e w' ⟨rfl, hw⟩; subst hw)
  | (go_at_call 66; refine (lexDigit_any _ _).mono ?_; rintro e w' ⟨rfl, hw⟩; subst hw))
 refine (HIX.out _).mono ?_
 clear HIX
 rintro e w' ⟨⟨n, rfl, hn⟩, hw⟩
 subst hw
 generalize hWW : w' = WW at *
 clear hWW
 have x0 := KBq.out.cell 0 (.int .i64 0) rfl
 have x1 := KBq.out.cell 1 (.string ⟨#[]⟩) rfl
 have x2 := KBq.out.cell 2 (.int .i64 0) rfl
 have f0 := KBq.out.free 0
 have f1 := KBq.out.free 1
 have f2 := KBq.out.free 2
 have fg1 := HBq.out.free 1
 have hgn := HGN.out
 go_wp2_with fail
 refine wp_loop_rounds 3 ?_
 rw [rounds_succ]
 go_wp2_with fail
 go_quiet ((go_at_call 69; exact Calls.quiet_of_same (HPD.out _)))
 obtain ⟨nq2, hnq2⟩ : ∃ m, m = nq := ⟨nq, rfl⟩
 rw [← hnq2]
 clear hnq2
 clear c0 c1 x0 x1 x2 f0 f1 f2 fg1
 have HB2 : Hid (Scn (WW.drewN nq2) g s j ce cp) := Blk.drewN HBq.out nq2
 have KB2 := Lib.hid (Blk.drewN KBq.out nq2)
 have HG2 := Lib.hid (grow_drewN HGq.out nq2)
 clear HBq KBq HGq
 generalize WW.drewN nq2 = w2q at *
 obtain ⟨HBq, KBq, HGq⟩ : Hid (Scn w2q g s j ce cp) ∧ Hid (Blk w2q w.heap.size 50 #[.int .i64 0, .string ⟨#[]⟩, .int .i64 0]) ∧ Hid (w.grownBy w2q (some g)) := ⟨HB2, KB2, HG2⟩
 clear HB2 KB2 HG2
 have c0 := HBq.out.cell 0 (.string s) rfl
 have c1 := HBq.out.cell 1 (.int .i64 j) rfl
 have x0 := KBq.out.cell 0 (.int .i64 0) rfl
 have x1 := KBq.out.cell 1 (.string ⟨#[]⟩) rfl
 have x2 := KBq.out.cell 2 (.int .i64 0) rfl
 have f0 := KBq.out.free 0
 have f1 := KBq.out.free 1
 have f2 := KBq.out.free 2
 have fg1 := HBq.out.free 1
 go_wp2_with fail
 rw [rounds_succ]
 go_wp2_with fail
 go_quiet ((go_at_call 69; exact Calls.quiet_of_same (HPE.out _)))
 go_wp2_with fail
 exact bodyPost_ret (results_tok (by kernel_rfl) (lblk_set3 (blk_move KBq.out (fun e => HGN.out e.symm) _ _) _ _ _) rfl rfl) rfl (NextOut.ok HR.out hle (scn_far3 (scn_move HBq.out _ (by omega)) HGN.out _ _ _) (grow_set3 (grow_move HGq.out _ _) (Nat.le_refl _) _ _ _))
theorem next_one (g : Nat) (s : ByteArray) (j : Nat) (ce cp : Int) (w : World) (hj : j < s.size) (hs : s.size ≤ 4000) (hb : Scn w g s j ce cp) (he : ER w) (hg : ∀ k, Tryz.prog.globalNamed "strconv.ErrRange" = some k → k ≠ g) (hl : letterI (byteI s j) = false) (hd : digitI (byteI s j) = false) (hdt : dots s j = false) (heq : eqs s j = false) (hsg : signI (byteI s j) = true) :
 Calls Tryz.prog 23 #[.pointer (some ⟨g, 0, none⟩)] w (NextOut w g s j ce cp) := by
 have hc' : ((s[j]'hj).toNat : Int) = byteI s j := (byteI_at hj).symm
 have HT : Hid (tokAt s j = ⟨if signLen s j = 0 then 2 else 0, 4, s.extract j (j + signLen s j), j + signLen s j⟩) := by show _ = _; unfold tokAt; rw [if_neg (by rw [hl]; simp), if_neg (by rw [hd]; simp)]
 have hl' : letterI ((s[j]'hj).toNat : Int) = false := by rw [hc']; exact hl
 have hd' : digitI ((s[j]'hj).toNat : Int) = false := by rw [hc']; exact hd
 have HIX : Hid (∀ W : World, Calls Tryz.prog 68 #[.string signsB, .int .u8 ((s[j]'hj).toNat : Int)] W fun e w' => (∃ n : Int, e = .returned (.int .i64 n) ∧ decide (0 ≤ n) = true) ∧ w' = W) := fun W => by
  have := idx_any ((s[j]'hj).toNat : Int) W (by rw [hc']; exact byte_lt s j)
  rw [hc', hsg] at this
  rw [hc']
  exact this
 have hsl : signLen s j = 1 := by rw [signLen_eq, if_neg (by rw [hdt]; simp), if_neg (by rw [heq]; simp), if_pos hsg]
 have HR : Hid (tokAt s j = ⟨0, 4, ⟨#[s[j]'hj]⟩, j + 1⟩) := by
  show _ = _
  rw [HT.out, hsl]; exact by rw [if_neg (by decide), extract_one hj]
 have hle : j + 1 ≤ s.size := hj
 have HPD : Hid (∀ W : World, Calls Tryz.prog 69 #[.string (s.extract j s.size), .string ⟨#[46, 46, 46]⟩] W fun e w' => e = .returned (.bool false) ∧ w' = W) := fun W => by
  have := sh_strings_HasPrefix (s.extract j s.size) ⟨#[46, 46, 46]⟩ W
  rw [show Lib.hasPrefix (s.extract j s.size).data.toList (⟨#[46, 46, 46]⟩ : ByteArray).data.toList = false from (dots_prefix s j).trans hdt] at this
  exact this
 have HPE : Hid (∀ W : World, Calls Tryz.prog 69 #[.string (s.extract j s.size), .string ⟨#[61, 61]⟩] W fun e w' => e = .returned (.bool (eqs s j)) ∧ w' = W) := fun W => by
  have := sh_strings_HasPrefix (s.extract j s.size) ⟨#[61, 61]⟩ W
  rw [show Lib.hasPrefix (s.extract j s.size).data.toList (⟨#[61, 61]⟩ : ByteArray).data.toList = eqs s j from eqs_prefix s j] at this
  exact this
 have hi0 : ∀ W : World, (Instr.index 94 (.agg #[.string ⟨#[46, 46, 46]⟩, .string ⟨#[61, 61]⟩]) (.int .i64 0)).run Tryz.prog W = .ok (.string ⟨#[46, 46, 46]⟩) W := fun _ => by kernel_rfl
 have hi1 : ∀ W : World, (Instr.index 94 (.agg #[.string ⟨#[46, 46, 46]⟩, .string ⟨#[61, 61]⟩]) (.int .i64 1)).run Tryz.prog W = .ok (.string ⟨#[61, 61]⟩) W := fun _ => by kernel_rfl
 have HPE : Hid (∀ W : World, Calls Tryz.prog 69 #[.string (s.extract j s.size), .string ⟨#[61, 61]⟩] W fun e w' => e = .returned (.bool false) ∧ w' = W) := fun W => by
  have := HPE.out W
  rw [heq] at this
  exact this
 clear heq
 have henc : ∀ n : Int, n = ((s[j]'hj).toNat : Int) → Utf8.encode n = ⟨#[s[j]'hj]⟩ := fun n hn => encode_sign hn (by rw [hc']; exact hsg)
 clear hc' hl hd hsg HT hsl hdt
 have kb0 := Blk.new_ w 50 zeroT
 have B0 : Below w.heap.size w (w.alloc (.cells zeroT 50)) := by (repeat (first | with_reducible assumption | with_reducible exact Below.refl _ _ | (refine Below.setCell ?_ (by first | omega | (simp; done) | (simp; omega)) _) | (refine Below.drewN_ ?_ _) | (refine Below.drew ?_) | (refine Below.alloc ?_ (by first | omega | (simp; done) | (simp; omega)) _)))
 have HB := Lib.hid (hb.below B0)
 have HE0 := Lib.hid (ER.keep he B0)
 have HGN : Hid (g ≠ w.heap.size) := fun e => by have := hb.lt; omega
 have HG0 : Hid (w.grownBy (w.alloc (.cells zeroT 50)) (some g)) := Below.grownBy_ B0
 have HGE := Lib.hid hg
 clear hb he hg B0
 go_enter Tryz.func23, Tryz.ntmps23
 go_upto_region 1 with (fail)
 have hz0 : (w.alloc (.cells #[.int .i64 0, .string ⟨#[]⟩, .int .i64 0] 50)) = (w.alloc (.cells zeroT 50)) := rfl
 rw [hz0]
 clear hz0
 generalize hw1 : w.alloc (.cells zeroT 50) = w1 at *
 clear hw1
 have KB : Hid (Blk w1 w.heap.size 50 #[.int .i64 0, .string ⟨#[]⟩, .int .i64 0]) := kb0
 clear kb0
 have c0 := HB.out.cell 0 (.string s) rfl
 have c1 := HB.out.cell 1 (.int .i64 j) rfl
 have g0 : (0 : Int) ≤ (j : Int) := by omega
 have g1 : (j : Int) < (s.size : Int) := by omega
 go_wp2_with fail
 go_quiet (fail)
 clear c0 c1
 have HBq : Hid (Scn (w1.drewN nq) g s j ce cp) := Blk.drewN HB.out nq
 have KBq := Lib.hid (Blk.drewN KB.out nq)
 have HGq := Lib.hid (grow_drewN HG0.out nq)
 have HEq : Hid (ER (w1.drewN nq)) := HE0.out
 clear HB KB HG0 HE0
 generalize w1.drewN nq = w1q at *
 have c0 := HBq.out.cell 0 (.string s) rfl
 have c1 := HBq.out.cell 1 (.int .i64 j) rfl
 go_wp2_with (first
  | (go_at_call 64; refine (lexLetter_any _ _).mono ?_; rintro e w' ⟨rfl, hw⟩; subst hw)
  | (go_at_call 66; refine (lexDigit_any _ _).mono ?_; rintro e w' ⟨rfl, hw⟩; subst hw))
 refine (HIX.out _).mono ?_
 clear HIX
 rintro e w' ⟨⟨n, rfl, hn⟩, hw⟩
 subst hw
 generalize hWW : w' = WW at *
 clear hWW
 have x0 := KBq.out.cell 0 (.int .i64 0) rfl
 have x1 := KBq.out.cell 1 (.string ⟨#[]⟩) rfl
 have x2 := KBq.out.cell 2 (.int .i64 0) rfl
 have f0 := KBq.out.free 0
 have f1 := KBq.out.free 1
 have f2 := KBq.out.free 2
 have fg1 := HBq.out.free 1
 have hgn := HGN.out
 go_wp2_with fail
 refine wp_loop_rounds 3 ?_
 rw [rounds_succ]
 go_wp2_with fail
 go_quiet ((go_at_call 69; exact Calls.quiet_of_same (HPD.out _)))
 obtain ⟨nq2, hnq2⟩ : ∃ m, m = nq := ⟨nq, rfl⟩
 rw [← hnq2]
 clear hnq2
 clear c0 c1 x0 x1 x2 f0 f1 f2 fg1
 have HB2 : Hid (Scn (WW.drewN nq2) g s j ce cp) := Blk.drewN HBq.out nq2
 have KB2 := Lib.hid (Blk.drewN KBq.out nq2)
 have HG2 := Lib.hid (grow_drewN HGq.out nq2)
 clear HBq KBq HGq
 generalize WW.drewN nq2 = w2q at *
 obtain ⟨HBq, KBq, HGq⟩ : Hid (Scn w2q g s j ce cp) ∧ Hid (Blk w2q w.heap.size 50 #[.int .i64 0, .string ⟨#[]⟩, .int .i64 0]) ∧ Hid (w.grownBy w2q (some g)) := ⟨HB2, KB2, HG2⟩
 clear HB2 KB2 HG2
 have c0 := HBq.out.cell 0 (.string s) rfl
 have c1 := HBq.out.cell 1 (.int .i64 j) rfl
 have x0 := KBq.out.cell 0 (.int .i64 0) rfl
 have x1 := KBq.out.cell 1 (.string ⟨#[]⟩) rfl
 have x2 := KBq.out.cell 2 (.int .i64 0) rfl
 have f0 := KBq.out.free 0
 have f1 := KBq.out.free 1
 have f2 := KBq.out.free 2
 have fg1 := HBq.out.free 1
 go_wp2_with fail
 rw [rounds_succ]
 go_wp2_with fail
 go_quiet ((go_at_call 69; exact Calls.quiet_of_same (HPE.out _)))
 obtain ⟨nq3, hnq3⟩ : ∃ m, m = nq := ⟨nq, rfl⟩
 rw [← hnq3]
 clear hnq3
 clear c0 c1 x0 x1 x2 f0 f1 f2 fg1
 have HB3 : Hid (Scn (w2q.drewN nq3) g s j ce cp) := Blk.drewN HBq.out nq3
 have KB3 := Lib.hid (Blk.drewN KBq.out nq3)
 have HG3 := Lib.hid (grow_drewN HGq.out nq3)
 clear HBq KBq HGq
 generalize w2q.drewN nq3 = w3q at *
 obtain ⟨HBq, KBq, HGq⟩ : Hid (Scn w3q g s j ce cp) ∧ Hid (Blk w3q w.heap.size 50 #[.int .i64 0, .string ⟨#[]⟩, .int .i64 0]) ∧ Hid (w.grownBy w3q (some g)) := ⟨HB3, KB3, HG3⟩
 clear HB3 KB3 HG3
 have c0 := HBq.out.cell 0 (.string s) rfl
 have c1 := HBq.out.cell 1 (.int .i64 j) rfl
 have x0 := KBq.out.cell 0 (.int .i64 0) rfl
 have x1 := KBq.out.cell 1 (.string ⟨#[]⟩) rfl
 have x2 := KBq.out.cell 2 (.int .i64 0) rfl
 have f0 := KBq.out.free 0
 have f1 := KBq.out.free 1
 have f2 := KBq.out.free 2
 have fg1 := HBq.out.free 1
 go_wp2_with fail
 rw [rounds_succ]
 go_wp2_with fail
 have he : Utf8.encode (wrap32 ((s[j]'hj).toNat : Int)) = ⟨#[s[j]'hj]⟩ := henc _ (by have := (s[j]'hj).toNat_lt; unfold wrap32; omega)
 rw [he]
 exact bodyPost_ret (results_tok (by kernel_rfl) (lblk_set3 (Blk.far KBq.out (p := ⟨g, 1, none⟩) (fun e => HGN.out e.symm) _) _ _ _) rfl rfl) rfl (NextOut.ok HR.out hle (scn_far3 (scn_move0 HBq.out (by omega)) HGN.out _ _ _) (grow_set3 (grow_move0 HGq.out _) (Nat.le_refl _) _ _ _))
theorem next_any (g : Nat) (s : ByteArray) (j : Nat) (ce cp : Int) (w : World) (hj : j < s.size) (hs : s.size ≤ 4000) (hb : Scn w g s j ce cp) (he : ER w) (hg : ∀ k, Tryz.prog.globalNamed "strconv.ErrRange" = some k → k ≠ g) :
 Calls Tryz.prog 23 #[.pointer (some ⟨g, 0, none⟩)] w (NextOut w g s j ce cp) := by
 rcases hl : letterI (byteI s j) with _ | _
 ·rcases hd : digitI (byteI s j) with _ | _
  ·rcases hsg : signI (byteI s j) with _ | _
   ·exact next_none g s j ce cp w hj hs hb he hg hl hd hsg
   ·rcases hdt : dots s j with _ | _
    ·rcases heq : eqs s j with _ | _
     ·exact next_one g s j ce cp w hj hs hb he hg hl hd hdt heq hsg
     ·exact next_eqs g s j ce cp w hj hs hb he hg hl hd hdt heq
    ·exact next_dots g s j ce cp w hj hs hb he hg hl hd hdt
  ·exact next_digit g s j ce cp w hj hs hb he hg hl hd
 ·exact next_letter g s j ce cp w hj hs hb he hg hl
end Go.Proofs.YtgegfbopogcjpaaGreatDoor
