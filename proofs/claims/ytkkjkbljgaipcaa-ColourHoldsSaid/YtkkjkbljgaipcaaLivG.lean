/- The walk of ref13.Live. -/
import Derived.Test.YtkkjkbljgaipcaaLivF
namespace Go.Proofs.Ytkkjkbljgaipcaa
open Go.RowKit
set_option linter.unusedVariables false
set_option linter.unusedSimpArgs false
set_option maxRecDepth 100000
set_option maxHeartbeats 16000000
def bits (regs : Nat) (S : Int → Bool) : Array Value := ((List.range regs).map fun r : Nat => Value.bool (S (r : Int))).toArray
theorem bits_at {regs r : Nat} (S : Int → Bool) (h : r < regs) : (bits regs S)[r]? = some (.bool (S (r : Int))) := by
  unfold bits
  rw [List.getElem?_toArray, List.getElem?_map, List.getElem?_range h]; rfl
theorem bits_set {regs r : Nat} (S : Int → Bool) (h : r < regs) : (bits regs S).setIfInBounds r (.bool true) = bits regs (fun y => (y == (r : Int)) || S y) := by
  unfold bits
  rw [List.setIfInBounds_toArray]
  congr 1
  apply List.ext_getElem?
  intro j
  rw [List.getElem?_set]
  simp only [List.length_map, List.length_range]
  by_cases hj : j < regs
  · rw [List.getElem?_map, List.getElem?_map, List.getElem?_range hj]
    by_cases e : r = j
    · subst e; simp [h]
    · rw [if_neg e]
      have : ((j : Int) == (r : Int)) = false := by rw [beq_eq_false_iff_ne]; omega
      simp [this]
  · rw [if_neg (by omega), List.getElem?_eq_none (by simp; omega), List.getElem?_eq_none (by simp; omega)]
theorem bits_zero (regs : Nat) : bits regs (fun _ => false) = (List.replicate regs (Value.bool false)).toArray := by
  unfold bits
  congr 1
  apply List.ext_getElem?
  intro j
  rw [List.getElem?_map, List.getElem?_replicate]
  by_cases hj : j < regs
  · rw [List.getElem?_range hj, if_pos hj]; rfl
  · rw [List.getElem?_eq_none (by simp; omega), if_neg hj]; rfl
def slV (bs : List Nat) (regs n : Nat) : Array Value := ((bs.map fun m => Value.slice (some ⟨m, 0, none⟩) regs regs) ++ List.replicate (n - bs.length) (Value.slice none 0 0)).toArray
theorem slV_set {bs : List Nat} {regs n m : Nat} (h : bs.length < n) : (slV bs regs n).setIfInBounds bs.length (.slice (some ⟨m, 0, none⟩) regs regs) = slV (bs ++ [m]) regs n := by
  unfold slV
  rw [List.setIfInBounds_toArray]
  congr 1
  apply List.ext_getElem?
  intro j
  rw [List.getElem?_set]
  simp only [List.length_append, List.length_map, List.length_replicate, List.length_singleton]
  rcases Nat.lt_trichotomy bs.length j with hj | hj | hj
  · rw [if_neg (by omega), List.getElem?_append_right (by simp; omega), List.getElem?_append_right (by simp; omega)]
    simp only [List.length_map, List.length_append, List.length_singleton, List.getElem?_replicate]
    by_cases h2 : j < n
    · rw [if_pos (by omega), if_pos (by omega)]
    · rw [if_neg (by omega), if_neg (by omega)]
  · subst hj
    rw [if_pos rfl, if_pos (by omega)]
    simp
  · rw [if_neg (by omega), List.getElem?_append_left (by simp; omega), List.getElem?_append_left (by simp; omega)]
    simp [List.getElem?_append_left, hj]
/-- the rows of bits -/
structure RSt (code : List Or) (regs H : Nat) (bo : Array Value) (bs : List Nat) (w wr : World) (L : Nat → Int → Bool) : Prop where
  ins : Blk wr (H + 1) 48 (bs.map fun m => Value.slice (some ⟨m, 0, none⟩) regs regs).toArray
  nodup : bs.Nodup
  bits : ∀ i (h : i < bs.length), H ≤ bs[i] ∧ Blk wr bs[i] 4 (bits regs (L i))
  body : Blk wr H 28 bo
  below : Below H w wr
  sound : ∀ i r, L i r = true → LiveP code i r
theorem RSt.keep {code : List Or} {regs H : Nat} {bo : Array Value} {bs : List Nat} {w wr w' : World} {L : Nat → Int → Bool} (h : RSt code regs H bo bs w wr L) (hb : Below wr.heap.size wr w') : RSt code regs H bo bs w w' L :=
  ⟨h.ins.below hb, h.nodup, fun i hi => ⟨(h.bits i hi).1, (h.bits i hi).2.below hb⟩, h.body.below hb, h.below.trans (hb.mono (Nat.le_of_lt h.body.lt)), h.sound⟩
theorem RSt.put {code : List Or} {regs H i r : Nat} {bo : Array Value} {bs : List Nat} {w wr : World} {L : Nat → Int → Bool} (h : RSt code regs H bo bs w wr L) (hi : i < bs.length) (hr : r < regs) (hl : LiveP code i (r : Int)) :
    RSt code regs H bo bs w (wr.setCell ⟨bs[i], r, none⟩ (.bool true)) (updL L i (r : Int)) := by
  have hb := (h.bits i hi).2
  refine ⟨h.ins.far (Blk.ne_ h.ins hb (by decide)) _, h.nodup, fun j hj => ⟨(h.bits j hj).1, ?_⟩, h.body.far (Blk.ne_ h.body hb (by decide)) _, h.below.setCell (p := ⟨bs[i], r, none⟩) (h.bits i hi).1 _, fun j x hx => ?_⟩
  · by_cases e : j = i
    · subst e
      have := hb.set_ r (.bool true)
      rw [bits_set _ hr] at this
      rw [updL_same]
      exact this
    · rw [updL_other L _ e]
      exact (h.bits j hj).2.far (nodup_ne h.nodup hj hi e) _
  · rcases updL_cases hx with ⟨rfl, rfl⟩ | hx
    · exact hl
    · exact h.sound j x hx
/-- nothing is to be added for order i and register r -/
def ClAt (code : List Or) (L : Nat → Int → Bool) (i : Nat) (r : Int) : Prop := ∀ h : i < code.length, (r ∈ code[i].s ∨ ∃ k : Nat, (k : Int) ∈ leadsL code[i] i ∧ L k r = true ∧ r ∉ code[i].d) → L i r = true
theorem closed_all {code : List Or} {regs : Nat} {L : Nat → Int → Bool} (hw : WfC code (regs : Int)) (hs : ∀ i r, L i r = true → LiveP code i r) (hc : ∀ i r, i < code.length → 0 ≤ r → r < (regs : Int) → ClAt code L i r) : L = liveB code := by
  funext i r
  rw [Bool.eq_iff_iff, liveB_iff]
  refine ⟨hs i r, fun h => live_least (fun i hi r hr => ?_) (fun i hi k r hk hl hd => ?_) h⟩
  · obtain ⟨h0, h1⟩ := hw.reads i hi r hr
    exact hc i r hi h0 h1 hi (.inl hr)
  · obtain ⟨h0, h1⟩ := (hs k r hl).reg hw
    exact hc i r hi h0 h1 hi (.inr ⟨k, hk, hl, hd⟩)
/-- what the document reckons for one register of one order -/
def isB (L : Nat → Int → Bool) (s d ld : List Int) (r : Int) : Bool := s.contains r || ld.any fun x => L x.toNat r && !d.contains r
theorem isB_take {L : Nat → Int → Bool} {s d ld : List Int} {r : Int} {m : Nat} (h : m < ld.length) : isB L s d (ld.take (m + 1)) r = (isB L s d (ld.take m) r || (L (ld[m]).toNat r && !d.contains r)) := by
  unfold isB
  rw [List.take_succ_eq_append_getElem h, List.any_append]
  simp [Bool.or_assoc]
theorem isB_up {L : Nat → Int → Bool} {s d ld : List Int} {r : Int} {m : Nat} (h : isB L s d (ld.take m) r = true) : isB L s d ld r = true := by
  unfold isB at *
  rw [Bool.or_eq_true] at *
  rcases h with h | h
  · exact .inl h
  · rw [List.any_eq_true] at h ⊢
    obtain ⟨x, hx, h⟩ := h
    exact .inr ⟨x, List.mem_of_mem_take hx, h⟩
theorem isB_live {code : List Or} {L : Nat → Int → Bool} {k : Nat} {r : Int} {regs : Int} (hw : WfC code regs) (hk : k < code.length) (hs : ∀ i r, L i r = true → LiveP code i r) (h : isB L code[k].s code[k].d (leadsR code[k] k) r = true) : LiveP code k r := by
  unfold isB at h
  rw [Bool.or_eq_true] at h
  rcases h with h | h
  · exact LiveP.use hk (List.contains_iff_mem.1 h)
  · rw [List.any_eq_true] at h
    obtain ⟨x, hx, h⟩ := h
    rw [Bool.and_eq_true] at h
    obtain ⟨h1, h2⟩ := h
    rw [leadsR_mem] at hx
    have h0 := (hw.leads k hk x hx).1
    refine LiveP.step (k := x.toNat) hk (by rw [show ((x.toNat : Nat) : Int) = x by omega]; exact hx) (hs _ _ h1) (fun hm => ?_)
    rw [List.contains_iff_mem.2 hm] at h2
    cases h2
theorem isB_closed {code : List Or} {L : Nat → Int → Bool} {k : Nat} {r : Int} (hk : k < code.length) (h : isB L code[k].s code[k].d (leadsR code[k] k) r = false) : ClAt code L k r := fun _ hx => by
  exfalso
  unfold isB at h
  rw [Bool.or_eq_false_iff] at h
  rcases hx with hx | ⟨q, hq, hl, hd⟩
  · rw [List.contains_iff_mem.2 hx] at h
    cases h.1
  · have h2 := h.2
    rw [List.any_eq_false] at h2
    have := h2 (q : Int) ((leadsR_mem _ _ _).2 hq)
    rw [Int.toNat_natCast, hl] at this
    have hc : code[k].d.contains r = false := by
      rcases e : code[k].d.contains r with _ | _
      · rfl
      · exact absurd (List.contains_iff_mem.1 e) hd
    rw [hc] at this
    exact this rfl
def IniRel (n regs H : Nat) (bo : Array Value) (w : World) (i : Value) (wr : World) : Prop :=
  ∃ bs : List Nat, bs.length ≤ n ∧ i = .int .i64 (bs.length : Int) ∧ bs.Nodup ∧ Blk wr (H + 1) 48 (slV bs regs n) ∧ (∀ m ∈ bs, H ≤ m ∧ Blk wr m 4 (bits regs (fun _ => false))) ∧ Blk wr H 28 bo ∧ Below H w wr
def RndRel (code : List Or) (regs H : Nat) (bo : Array Value) (bs : List Nat) (w : World) (gk : Nat) (a : Value) (wr : World) : Prop :=
  ∃ again L, a = .bool again ∧ 2 * (code.length * regs - cntL code.length regs L) + (if again then 1 else 0) ≤ gk ∧ (again = false → ∀ i r, i < code.length → 0 ≤ r → r < (regs : Int) → ClAt code L i r) ∧ RSt code regs H bo bs w wr L
def OrdRel3 (code : List Or) (regs H : Nat) (bo : Array Value) (bs : List Nat) (w : World) (c0 : Nat) (a i : Value) (wr : World) : Prop :=
  ∃ (k : Nat) (again : Bool) (L : Nat → Int → Bool), k ≤ code.length ∧ i = .int .i64 ((k : Int) - 1) ∧ a = .bool again ∧ c0 ≤ cntL code.length regs L ∧ (again = true → c0 < cntL code.length regs L) ∧ (again = false → ∀ i r, k ≤ i → i < code.length → 0 ≤ r → r < (regs : Int) → ClAt code L i r) ∧ RSt code regs H bo bs w wr L
def RegRel (code : List Or) (regs H : Nat) (bo : Array Value) (bs : List Nat) (w : World) (c0 k g : Nat) (ld : List Int) (ob : Nat) (oc : Array Value) (a i : Value) (wr : World) : Prop :=
  ∃ (r : Nat) (again : Bool) (L : Nat → Int → Bool), r ≤ regs ∧ i = .int .i64 (r : Int) ∧ a = .bool again ∧ c0 ≤ cntL code.length regs L ∧ (again = true → c0 < cntL code.length regs L) ∧ (again = false → (∀ i r, k + 1 ≤ i → i < code.length → 0 ≤ r → r < (regs : Int) → ClAt code L i r) ∧ ∀ q : Nat, q < r → ClAt code L k (q : Int)) ∧ RSt code regs H bo bs w wr L ∧
    Blk wr ob 60 oc ∧ (ld ≠ [] → Blk wr g 3 (ld.map i64).toArray)
theorem info_bools : (Try.prog.info? 48).map (fun i => (i.zero, i.size, i.bytes)) = some (some (.slice none 0 0), 1, 24) := by kernel_rfl
theorem info_boolR : (Try.prog.info? 4).map (fun i => (i.zero, i.size, i.bytes)) = some (some (.bool false), 1, 1) := by kernel_rfl
def LiveROut (b : Bo) (w : World) (e : Ending) (w' : World) : Prop := ∃ (regs I : Nat) (bs : List Nat), b.regs = (regs : Int) ∧ e = .returned (.slice (some ⟨I, 0, none⟩) b.code.length b.code.length) ∧ bs.length = b.code.length ∧
  Blk w' I 48 (bs.map fun m => Value.slice (some ⟨m, 0, none⟩) regs regs).toArray ∧ (∀ i (h : i < bs.length), Blk w' bs[i] 4 (bits regs (liveB b.code i))) ∧ Below w.heap.size w w'
theorem liveR_any (b : Bo) (cs : List Value) (w : World) (hr : RepB w b cs) (hbo : bodyB b = true) : Calls Try.prog 21 #[.agg cs.toArray] w (LiveROut b w) := by
  have hlen := code_le hbo
  have HWF := Lib.hid (wf_of hbo)
  have HR := Lib.hid hr
  obtain ⟨An, cn, Ap, cp, A, c, rfl, hT, hP, hO, hl⟩ := hr.nine
  obtain ⟨regs, hregs⟩ : ∃ regs : Nat, b.regs = (regs : Int) := ⟨b.regs.toNat, by have := (head_parts (head_of hbo)).2.2.2.1; omega⟩
  have hr8 : regs ≤ 8000 := by have := (head_parts (head_of hbo)).2.2.2.2.1; omega
  have hpos := (head_parts (head_of hbo)).2.2.2.2.2.1
  obtain ⟨bb, oo, -, -, -, -, -, -, -, -, rfl, -⟩ := hO.ten (k := 0) (by omega)
  have HO := Lib.hid hO
  rw [hregs] at HWF
  have HRG := Lib.hid hregs
  have hmk1 := run_make_row' (P := Try.prog) 61 48 (.slice none 0 0) 24 Try.underlying61 info_bools rfl .i64 .i64 b.code.length (by omega) (by omega)
  have hmk2 := run_make_row' (P := Try.prog) 48 4 (.bool false) 1 Try.underlying48 info_boolR rfl .i64 .i64 regs (by omega) (by omega)
  rw [made_one] at hmk1 hmk2
  rw [← bits_zero] at hmk2
  clear hr hT hP hO hl hbo hregs
  go_enter Try.func21, Try.ntmps21
  go_upto_region 3 with (fail)
  have Q0 : IniRel b.code.length regs w.heap.size #[.string b.nm, .bool b.static, .int .i64 b.ty.k, .string b.ty.nm, .slice An b.ty.ns.length cn, .slice Ap b.ty.ps.length cp, .bool b.ty.many, .int .i64 b.regs, .slice (some ⟨bb, oo, none⟩) b.code.length c] w (.int .i64 0) ((w.alloc (.cells #[.string b.nm, .bool b.static, .int .i64 b.ty.k, .string b.ty.nm, .slice An b.ty.ns.length cn, .slice Ap b.ty.ps.length cp, .bool b.ty.many, .int .i64 b.regs, .slice (some ⟨bb, oo, none⟩) b.code.length c] 28)).alloc (.cells (Array.replicate b.code.length (.slice none 0 0)) 48)) := by
    refine ⟨[], Nat.zero_le _, rfl, by simp, ?_, by simp, (Blk.new_ w _ _).alloc _, by (repeat (first | with_reducible assumption | with_reducible exact Below.refl _ _ | (refine Below.setCell ?_ (by first | omega | (simp; done) | (simp; omega)) _) | (refine Below.drewN_ ?_ _) | (refine Below.drew ?_) | (refine Below.alloc ?_ (by first | omega | (simp; done) | (simp; omega)) _)))⟩
    have := Blk.nxt1 w (.cells #[.string b.nm, .bool b.static, .int .i64 b.ty.k, .string b.ty.nm, .slice An b.ty.ns.length cn, .slice Ap b.ty.ps.length cp, .bool b.ty.many, .int .i64 b.regs, .slice (some ⟨bb, oo, none⟩) b.code.length c] 28) 48 (Array.replicate b.code.length (.slice none 0 0))
    have e : slV [] regs b.code.length = Array.replicate b.code.length (.slice none 0 0) := by unfold slV; simp
    rw [e]
    exact this
  generalize (w.alloc (.cells #[.string b.nm, .bool b.static, .int .i64 b.ty.k, .string b.ty.nm, .slice An b.ty.ns.length cn, .slice Ap b.ty.ps.length cp, .bool b.ty.many, .int .i64 b.regs, .slice (some ⟨bb, oo, none⟩) b.code.length c] 28)).alloc (.cells (Array.replicate b.code.length (.slice none 0 0)) 48) = W0 at *
  clear hmk1
  go_wp2
  go_loopw [4] (fun i wr => IniRel b.code.length regs w.heap.size #[.string b.nm, .bool b.static, .int .i64 b.ty.k, .string b.ty.nm, .slice An b.ty.ns.length cn, .slice Ap b.ty.ps.length cp, .bool b.ty.many, .int .i64 b.regs, .slice (some ⟨bb, oo, none⟩) b.code.length c] w i wr) (fun i _ => b.code.length - (intOf i).toNat)
  case atStart => exact Q0
  case round =>
    clear Q0
    obtain ⟨bs, hbl, rfl, hnd, hins, hbits, hbody, hbw⟩ := hrel
    by_cases hlt : bs.length < b.code.length
    · have hk0 : (0 : Int) ≤ (bs.length : Int) := by omega
      have hk1 : (bs.length : Int) < (b.code.length : Int) := by omega
      have hk6 : (bs.length : Int) < 6000 := by omega
      have kI : Blk wr (w.heap.size + 1) 48 (slV bs regs b.code.length) := hins
      have c1 := kI.cell bs.length (.slice none 0 0) (by
        unfold slV
        rw [List.getElem?_toArray, List.getElem?_append_right (by simp), List.getElem?_replicate, if_pos (by simp; omega)])
      have f1 := kI.free bs.length
      have y7 : wr.cell? ⟨w.heap.size, 7, none⟩ = some (.int .i64 (regs : Int)) := by
        have := hbody.cell 7 (.int .i64 b.regs) rfl
        rw [HRG.out] at this
        exact this
      have hlI := kI.lt
      have hlH := hbody.lt
      have hsz : ∀ v, (wr.setCell ⟨w.heap.size + 1, bs.length, none⟩ v).heap.size = wr.heap.size := fun v => by simp [World.setCell]
      have hnew : IniRel b.code.length regs w.heap.size #[.string b.nm, .bool b.static, .int .i64 b.ty.k, .string b.ty.nm, .slice An b.ty.ns.length cn, .slice Ap b.ty.ps.length cp, .bool b.ty.many, .int .i64 b.regs, .slice (some ⟨bb, oo, none⟩) b.code.length c] w (.int .i64 ((bs.length + 1 : Nat) : Int)) ((wr.setCell ⟨w.heap.size + 1, bs.length, none⟩ (.slice (some ⟨wr.heap.size, 0, none⟩) regs regs)).alloc (.cells (bits regs (fun _ => false)) 4)) := by
        refine ⟨bs ++ [wr.heap.size], by simp; omega, by simp, ?_, ?_, fun m hm => ?_, (hbody.far (by simp) _).alloc _, (hbw.setCell (p := ⟨w.heap.size + 1, bs.length, none⟩) (by simp) _).alloc (by rw [hsz]; omega) _⟩
        · rw [List.nodup_append]
          refine ⟨hnd, by simp, fun a ha b hb e => ?_⟩
          rw [List.mem_singleton] at hb
          subst hb
          have := (hbits a ha).2.lt
          omega
        · rw [← slV_set hlt]
          exact (kI.set_ _ _).alloc _
        · rcases List.mem_append.1 hm with hm | hm
          · exact ⟨(hbits m hm).1, (((hbits m hm).2).far (Blk.ne_ (hbits m hm).2 kI (by decide)) _).alloc _⟩
          · rw [List.mem_singleton] at hm
            subst hm
            refine ⟨by omega, ?_⟩
            have := Blk.new_ (wr.setCell ⟨w.heap.size + 1, bs.length, none⟩ (.slice (some ⟨wr.heap.size, 0, none⟩) regs regs)) 4 (bits regs (fun _ => false))
            rw [hsz] at this
            exact this
      have HNEW := Lib.hid hnew
      clear hnew hsz hnd hins hbits hbody hbw kI
      go_wp2
      go_roundw
      case rel => exact HNEW.out
      case measure => (first | (simp [intOf]; done) | (simp [intOf]; omega))
    · have hk1 : ¬ (bs.length : Int) < (b.code.length : Int) := by omega
      have hbl' : bs.length = b.code.length := by omega
      have R0 : RSt b.code regs w.heap.size #[.string b.nm, .bool b.static, .int .i64 b.ty.k, .string b.ty.nm, .slice An b.ty.ns.length cn, .slice Ap b.ty.ps.length cp, .bool b.ty.many, .int .i64 b.regs, .slice (some ⟨bb, oo, none⟩) b.code.length c] bs w wr (fun _ _ => false) := by
        refine ⟨?_, hnd, fun i hi => hbits _ (List.getElem_mem hi), hbody, hbw, fun _ _ h => by cases h⟩
        have e : slV bs regs b.code.length = (bs.map fun m => Value.slice (some ⟨m, 0, none⟩) regs regs).toArray := by unfold slV; rw [hbl']; simp
        rw [← e]
        exact hins
      have HBL := Lib.hid hbl'
      have HR0 := Lib.hid R0
      clear hnd hins hbits hbody hbw R0 hbl' hmk2
      go_upto_region 7 with (fail)
      go_loopg [5] (2 * (b.code.length * regs) + 1) (fun gk a wr => RndRel b.code regs w.heap.size #[.string b.nm, .bool b.static, .int .i64 b.ty.k, .string b.ty.nm, .slice An b.ty.ns.length cn, .slice Ap b.ty.ps.length cp, .bool b.ty.many, .int .i64 b.regs, .slice (some ⟨bb, oo, none⟩) b.code.length c] bs w gk a wr)
      case atStart => exact ⟨true, _, rfl, by simp; omega, (fun h => by cases h), HR0.out⟩
      case round =>
        clear HR0
        obtain ⟨again, L, rfl, hgk, hcl, hst⟩ := hrel
        cases again
        · have hL := closed_all HWF.out hst.sound (hcl rfl)
          subst hL
          have HST := Lib.hid hst
          clear hst hcl
          go_wp2
          go_ret
          exact ⟨regs, w.heap.size + 1, bs, HRG.out, rfl, HBL.out, HST.out.ins, fun i hi => (HST.out.bits i hi).2, HST.out.below⟩
        · have HST := Lib.hid hst
          have hgk1 : 2 * (b.code.length * regs - cntL b.code.length regs L) + 1 ≤ gk := hgk
          have HGK := Lib.hid hgk1
          have hlHr := hst.body.lt
          have y8 := hst.body.cell 8 (.slice (some ⟨bb, oo, none⟩) b.code.length c) rfl
          have hp1 : (1 : Int) ≤ (b.code.length : Int) := by omega
          have hp6 : (b.code.length : Int) ≤ 6000 := by omega
          clear hst hcl hgk hgk1
          go_wp2
          go_loopw [5, 6] (fun a i wr => OrdRel3 b.code regs w.heap.size #[.string b.nm, .bool b.static, .int .i64 b.ty.k, .string b.ty.nm, .slice An b.ty.ns.length cn, .slice Ap b.ty.ps.length cp, .bool b.ty.many, .int .i64 b.regs, .slice (some ⟨bb, oo, none⟩) b.code.length c] bs w (cntL b.code.length regs L) a i wr) (fun _ i _ => (intOf i + 1).toNat)
          case atStart => exact ⟨b.code.length, false, L, Nat.le_refl _, rfl, rfl, Nat.le_refl _, (fun h => by cases h), (fun _ i r h1 h2 => absurd h2 (by omega)), HST.out⟩
          case round =>
            clear HST y8 hlHr
            obtain ⟨k, again, L1, hk, hi, rfl, hc1, hc2, hcl, hst⟩ := hrel
            rcases Nat.eq_zero_or_pos k with rfl | hk1
            · subst hi
              have hcx := cntL_le b.code.length regs L1
              have HST := Lib.hid hst
              have HCL : Hid (again = false → ∀ i r, i < b.code.length → 0 ≤ r → r < (regs : Int) → ClAt b.code L1 i r) := fun h i r h1 h2 h3 => hcl h i r (Nat.zero_le _) h1 h2 h3
              have HLT : Hid (2 * (b.code.length * regs - cntL b.code.length regs L1) + (if again then 1 else 0) < gk) := by
                have := HGK.out
                show _ < _
                cases again
                · simp; omega
                · have := hc2 rfl
                  simp; omega
              clear hst hcl hc1 hc2 hcx
              go_wp2
              go_roundg (2 * (b.code.length * regs - cntL b.code.length regs L1) + (if again then 1 else 0))
              case measure => exact HLT.out
              case rel => exact ⟨again, L1, rfl, Nat.le_refl _, HCL.out, HST.out⟩
            · obtain ⟨q, rfl⟩ : ∃ q, k = q + 1 := ⟨k - 1, by omega⟩
              have hcast : ((q + 1 : Nat) : Int) - 1 = (q : Int) := by omega
              rw [hcast] at hi
              subst hi
              clear hcast
              have hql : q < b.code.length := by omega
              have hqb : q < bs.length := by rw [HBL.out]; exact hql
              have hq0 : (0 : Int) ≤ (q : Int) := by omega
              have hq1 : (q : Int) < (b.code.length : Int) := by omega
              have hq6 : (q : Int) < 6000 := by omega
              obtain ⟨bb2, oo2, Ad, cd, As, c', An', cn', Ap', cp', hA, hbl2, hrep, hcs⟩ := HO.out.ten hql
              obtain ⟨rfl, rfl⟩ : bb = bb2 ∧ oo = oo2 := by simpa using hA
              obtain ⟨c0, c1, c2, c3, c4, c5, c6, c7, c8, c9⟩ := hcs wr hst.below
              obtain ⟨Adx, cdx, Asx, csx, Anx, cnx, Apx, cpx, hcsx, hD, hS, -, -, hdl, hsl, -⟩ := hrep.ten
              obtain ⟨rfl, rfl, rfl, rfl⟩ : Ad = Adx ∧ cd = cdx ∧ As = Asx ∧ c' = csx := by
                simp only [List.cons.injEq, Value.slice.injEq] at hcsx
                exact ⟨hcsx.2.1.1, hcsx.2.1.2.2, hcsx.2.2.1.1, hcsx.2.2.1.2.2⟩
              have X : Below wr.heap.size wr (wr.alloc (.cells #[.int .i64 b.code[q].op, .slice Ad b.code[q].d.length cd, .slice As b.code[q].s.length c', .int .i64 b.code[q].n, .string b.code[q].nm, .int .i64 b.code[q].ty.k, .string b.code[q].ty.nm, .slice An' b.code[q].ty.ns.length cn', .slice Ap' b.code[q].ty.ps.length cp', .bool b.code[q].ty.many] 60)) := by (repeat (first | with_reducible assumption | with_reducible exact Below.refl _ _ | (refine Below.setCell ?_ (by first | omega | (simp; done) | (simp; omega)) _) | (refine Below.drewN_ ?_ _) | (refine Below.drew ?_) | (refine Below.alloc ?_ (by first | omega | (simp; done) | (simp; omega)) _)))
              have hst2 := hst.keep X
              have kO := Blk.new_ wr 60 #[.int .i64 b.code[q].op, .slice Ad b.code[q].d.length cd, .slice As b.code[q].s.length c', .int .i64 b.code[q].n, .string b.code[q].nm, .int .i64 b.code[q].ty.k, .string b.code[q].ty.nm, .slice An' b.code[q].ty.ns.length cn', .slice Ap' b.code[q].ty.ps.length cp', .bool b.code[q].ty.many]
              have y0 := hst.body.cell 0 (.string b.nm) rfl
              have y1 := hst.body.cell 1 (.bool b.static) rfl
              have y2 := hst.body.cell 2 (.int .i64 b.ty.k) rfl
              have y3 := hst.body.cell 3 (.string b.ty.nm) rfl
              have y4 := hst.body.cell 4 (.slice An b.ty.ns.length cn) rfl
              have y5 := hst.body.cell 5 (.slice Ap b.ty.ps.length cp) rfl
              have y6 := hst.body.cell 6 (.bool b.ty.many) rfl
              have y7 := hst.body.cell 7 (.int .i64 b.regs) rfl
              have y8 := hst.body.cell 8 (.slice (some ⟨bb, oo, none⟩) b.code.length c) rfl
              have hlHr := hst.body.lt
              have HLD := Lib.hid (leadsR_any b _ q _ (HR.out.keep hst2.below) hql hlen)
              have HSO : Hid (∀ (M : Nat → Int → Bool) r, (∀ i r, M i r = true → LiveP b.code i r) → isB M b.code[q].s b.code[q].d (leadsR b.code[q] q) r = true → LiveP b.code q r) := fun M r hs h => isB_live HWF.out hql hs h
              have HCO : Hid (∀ (M : Nat → Int → Bool) r, isB M b.code[q].s b.code[q].d (leadsR b.code[q] q) r = false → ClAt b.code M q r) := fun M r h => isB_closed hql h
              have HLW : Hid (∀ x ∈ leadsR b.code[q] q, 0 ≤ x ∧ x < (b.code.length : Int)) := fun x hx => HWF.out.leads q hql x ((leadsR_mem _ _ _).1 hx)
              have hll := leadsR_len b.code[q] q
              have HST2 := Lib.hid hst2
              have HD := Lib.hid hD
              have HS := Lib.hid hS
              have HCL := Lib.hid hcl
              have HC1 := Lib.hid hc1
              have HC2 := Lib.hid hc2
              clear hst hst2 hcl hc1 hc2 hrep hcs hcsx hD hS hA X
              generalize leadsR b.code[q] q = ld at *
              generalize b.code[q] = o at *
              unfold maxLen at hsl hdl
              go_wp2_with fail
              (refine (HLD.out).mono ?_; rintro e w5 ⟨Al, cl, rfl, hnl, hb5⟩)
              have HST5 := Lib.hid (HST2.out.keep hb5)
              have kO5 := kO.below hb5
              obtain ⟨g, hg⟩ : ∃ g, ld ≠ [] → Al = some ⟨g, 0, none⟩ ∧ Blk w5 g 3 (ld.map i64).toArray := by
                rcases hnl with h | ⟨g, h1, h2, h3, h4⟩
                · exact ⟨0, fun h' => absurd h h'⟩
                · exact ⟨g, fun _ => ⟨h1, h4⟩⟩
              have HGG := Lib.hid hg
              have HGA : Hid (ld ≠ [] → Al = some ⟨g, 0, none⟩) := fun h => (hg h).1
              generalize wr.heap.size = ob at *
              clear hg hnl hb5 HLD HST2 kO c0 c1 c2 c3 c4 c5 c6 c7 c8 c9 y0 y1 y2 y3 y4 y5 y6 y7 y8 hlHr
              go_wp2
              go_loopw [5, 9] (fun a i wx => RegRel b.code regs w.heap.size #[.string b.nm, .bool b.static, .int .i64 b.ty.k, .string b.ty.nm, .slice An b.ty.ns.length cn, .slice Ap b.ty.ps.length cp, .bool b.ty.many, .int .i64 b.regs, .slice (some ⟨bb, oo, none⟩) b.code.length c] bs w (cntL b.code.length regs L) q g ld ob #[.int .i64 o.op, .slice Ad o.d.length cd, .slice As o.s.length c', .int .i64 o.n, .string o.nm, .int .i64 o.ty.k, .string o.ty.nm, .slice An' o.ty.ns.length cn', .slice Ap' o.ty.ps.length cp', .bool o.ty.many] a i wx) (fun _ i _ => regs - (intOf i).toNat)
              case atStart => exact ⟨0, again, L1, Nat.zero_le _, rfl, rfl, HC1.out, HC2.out, fun h => ⟨fun i r h1 => HCL.out h i r h1, fun q' hq' => absurd hq' (by omega)⟩, HST5.out, kO5, fun h => (HGG.out h).2⟩
              case round =>
                clear HCL HC1 HC2 HST5 kO5
                obtain ⟨r, again2, L2, hr, rfl, rfl, hc1, hc2, hcl, hst, hO5, hg5⟩ := hrel
                have y7 : wr.cell? ⟨w.heap.size, 7, none⟩ = some (.int .i64 (regs : Int)) := by
                  have := hst.body.cell 7 (.int .i64 b.regs) rfl
                  rw [HRG.out] at this
                  exact this
                have hlHr := hst.body.lt
                by_cases hrr : r < regs
                · have hr0 : (0 : Int) ≤ (r : Int) := by omega
                  have hr1 : (r : Int) < (regs : Int) := by omega
                  have hr88 : (r : Int) < 8000 := by omega
                  have kI : Blk wr (w.heap.size + 1) 48 (bs.map fun m => Value.slice (some ⟨m, 0, none⟩) regs regs).toArray := hst.ins
                  have i0 := kI.cell q (.slice (some ⟨bs[q], 0, none⟩) regs regs) (by simp [hqb])
                  have kB := (hst.bits q hqb).2
                  have j0 := kB.cell r (.bool (L2 q (r : Int))) (bits_at _ hrr)
                  have jf := kB.free r
                  have o2 := hO5.cell 2 (.slice As o.s.length c') rfl
                  have o1 := hO5.cell 1 (.slice Ad o.d.length cd) rfl
                  have HST6 := Lib.hid hst
                  have HO6 := Lib.hid hO5
                  have HG6 := Lib.hid hg5
                  have HC1 := Lib.hid hc1
                  have HC2 := Lib.hid hc2
                  have HCL := Lib.hid hcl
                  rcases hL : L2 q (r : Int) with _ | _
                  case true =>
                    rw [hL] at j0
                    have HCN : Hid (again2 = false → (∀ i r, q + 1 ≤ i → i < b.code.length → 0 ≤ r → r < (regs : Int) → ClAt b.code L2 i r) ∧ ∀ q' : Nat, q' < r + 1 → ClAt b.code L2 q (q' : Int)) := fun h => ⟨(HCL.out h).1, fun q' hq' => by
                      rcases Nat.lt_or_ge q' r with h1 | h1
                      · exact (HCL.out h).2 q' h1
                      · obtain rfl : q' = r := by omega
                        exact fun _ _ => hL⟩
                    have HL := Lib.hid hL
                    clear hst hO5 hg5 hc1 hc2 hcl hL kI kB
                    go_wp2
                    go_roundw
                    case rel => exact ⟨r + 1, again2, L2, by omega, by go_num, rfl, HC1.out, HC2.out, HCN.out, HST6.out, HO6.out, HG6.out⟩
                    case measure => (first | (simp [intOf]; done) | (simp [intOf]; omega))
                  rw [hL] at j0
                  have HL := Lib.hid hL
                  have HHS := Lib.hid (hasR_any As c' o.s (r : Int) wr (HS.out.keep hst.below) (by unfold maxLen; omega))
                  have HHD : Hid (Calls Try.prog 23 #[.slice Ad o.d.length cd, .int .i64 (r : Int)] wr fun e w' => e = .returned (.bool (o.d.contains (r : Int))) ∧ w' = wr) := hasR_any Ad cd o.d (r : Int) wr (HD.out.keep hst.below) (by unfold maxLen; omega)
                  have HSR : Hid (isB L2 o.s o.d ld (r : Int) = true → LiveP b.code q (r : Int)) := fun h => HSO.out L2 r hst.sound h
                  have HCR : Hid (isB L2 o.s o.d ld (r : Int) = false → ClAt b.code L2 q (r : Int)) := fun h => HCO.out L2 r h
                  have HBT : Hid (∀ m, m < ld.length → ∀ x, ld[m]? = some x → isB L2 o.s o.d (ld.take (m + 1)) (r : Int) = (isB L2 o.s o.d (ld.take m) (r : Int) || (L2 x.toNat (r : Int) && !o.d.contains (r : Int)))) := fun m hm x hx => by
                    rw [List.getElem?_eq_getElem hm] at hx
                    injection hx with hx
                    rw [isB_take hm, hx]
                  have HBU : Hid (∀ m, isB L2 o.s o.d (ld.take m) (r : Int) = true → isB L2 o.s o.d ld (r : Int) = true) := fun m h => isB_up h
                  have HB0 : Hid (isB L2 o.s o.d (ld.take 0) (r : Int) = o.s.contains (r : Int)) := by show _ = _; unfold isB; simp
                  have HBF : Hid (isB L2 o.s o.d (ld.take ld.length) (r : Int) = isB L2 o.s o.d ld (r : Int)) := by show _ = _; rw [List.take_length]
                  obtain ⟨F, hF⟩ : ∃ F : Nat → Bool, ∀ m, isB L2 o.s o.d (ld.take m) (r : Int) = F m := ⟨_, fun _ => rfl⟩
                  simp only [hF] at HBT HBU HB0 HBF
                  obtain ⟨cs, hcs⟩ : ∃ cs, o.s.contains (r : Int) = cs := ⟨_, rfl⟩
                  obtain ⟨cdd, hcd⟩ : ∃ cdd, o.d.contains (r : Int) = cdd := ⟨_, rfl⟩
                  rw [hcs] at HHS HB0
                  simp only [hcd] at HHD HBT
                  clear hst hO5 hg5 hc1 hc2 hcl hL hF hcs hcd kB
                  go_wp2_with fail
                  ((with_reducible refine (HHS.out).mono ?_); rintro e w6 ⟨rfl, rfl⟩)
                  go_upto_region 20 with (fail)
                  rw [← HB0.out]
                  go_wp2
                  go_loop [10, 11] (fun a i => ∃ m : Nat, m ≤ ld.length ∧ i = .int .i64 (m : Int) ∧ a = .bool (F m)) (fun _ i => ld.length - (intOf i).toNat)
                  case atStart => exact ⟨0, Nat.zero_le _, rfl, rfl⟩
                  case round =>
                    obtain ⟨m, hm, rfl, rfl⟩ := hrel
                    by_cases hgo : m < ld.length ∧ F m = false
                    · obtain ⟨hml, hFm⟩ := hgo
                      have hne : ld ≠ [] := fun e => by rw [e] at hml; simp at hml
                      obtain rfl := HGA.out hne
                      obtain ⟨hp0, hp1⟩ := HLW.out _ (List.getElem_mem hml)
                      obtain ⟨p, hp⟩ : ∃ p : Nat, ld[m] = (p : Int) := ⟨ld[m].toNat, by omega⟩
                      have hpl : p < bs.length := by rw [HBL.out]; omega
                      have hpn : (p : Int) < (b.code.length : Int) := by omega
                      have hpz : (0 : Int) ≤ (p : Int) := by omega
                      have g0 := (HG6.out hne).cell m (.int .i64 (p : Int)) (by simp [hml, i64, hp])
                      have p0 := kI.cell p (.slice (some ⟨bs[p], 0, none⟩) regs regs) (by simp [hpl])
                      have p1 := (HST6.out.bits p hpl).2.cell r (.bool (L2 p (r : Int))) (bits_at _ hrr)
                      have hbt := HBT.out m hml ld[m] (List.getElem?_eq_getElem hml)
                      rw [hp, Int.toNat_natCast, hFm, Bool.false_or] at hbt
                      have hm0 : (0 : Int) ≤ (m : Int) := by omega
                      have hm1 : (m : Int) < (ld.length : Int) := by omega
                      have hm2 : (m : Int) < 2 := by omega
                      have HB2 := Lib.hid hbt
                      rw [hFm]
                      clear hbt hp hp0 hp1 hFm
                      rcases hLp : L2 p (r : Int) with _ | _
                      · have HB3 : Hid (F (m + 1) = false) := by show _ = _; rw [HB2.out, hLp]; rfl
                        rw [hLp] at p1
                        clear hLp
                        go_wp2
                        go_round
                        case rel => exact ⟨m + 1, by omega, by go_num, by rw [HB3.out]⟩
                        case measure => (first | (simp [intOf]; done) | (simp [intOf]; omega))
                      · have HB3 : Hid (F (m + 1) = !cdd) := by show _ = _; rw [HB2.out, hLp]; rfl
                        rw [hLp] at p1
                        clear hLp
                        go_wp2_with fail
                        ((with_reducible refine (HHD.out).mono ?_); rintro e w6 ⟨rfl, rfl⟩)
                        go_wp2
                        go_round
                        case rel => exact ⟨m + 1, by omega, by go_num, by rw [HB3.out]⟩
                        case measure => (first | (simp [intOf]; done) | (simp [intOf]; omega))
                    · have hV : F m = isB L2 o.s o.d ld (r : Int) := by
                        by_cases h : m < ld.length
                        · have h1 : F m = true := by
                            rcases e : F m with _ | _
                            · exact absurd ⟨h, e⟩ hgo
                            · rfl
                          rw [h1, HBU.out m h1]
                        · obtain rfl : m = ld.length := by omega
                          exact HBF.out
                      have hgo2 : F m = true ∨ (F m = false ∧ ¬ (m : Int) < (ld.length : Int)) := by
                        rcases e : F m with _ | _
                        · exact .inr ⟨rfl, fun h => hgo ⟨by omega, e⟩⟩
                        · exact .inl rfl
                      rcases hgo2 with hT | ⟨hF0, hge⟩
                      · have hlv := HSR.out (by rw [← hV]; exact hT)
                        have HST7 := Lib.hid (HST6.out.put hqb hrr hlv)
                        have hcp := cntL_put (n := b.code.length) (regs := regs) hql hr0 hr1 HL.out
                        have HC3 : Hid (cntL b.code.length regs L ≤ cntL b.code.length regs (updL L2 q (r : Int)) ∧ cntL b.code.length regs L < cntL b.code.length regs (updL L2 q (r : Int))) := by
                          have := HC1.out
                          show _ ∧ _
                          omega
                        have HO7 := Lib.hid (HO6.out.far (p := ⟨bs[q], r, none⟩) (Blk.ne_ HO6.out (HST6.out.bits q hqb).2 (by decide)) (.bool true))
                        have HG7 : Hid (ld ≠ [] → Blk (w6.setCell ⟨bs[q], r, none⟩ (.bool true)) g 3 (ld.map i64).toArray) := fun h => (HG6.out h).far (p := ⟨bs[q], r, none⟩) (Blk.ne_ (HG6.out h) (HST6.out.bits q hqb).2 (by decide)) _
                        rw [hT]
                        clear hgo hV hT hlv hcp
                        go_wp2
                        all_goals
                          go_roundw
                          case rel => exact ⟨r + 1, true, _, by omega, by go_num, rfl, HC3.out.1, fun _ => HC3.out.2, (fun h => by cases h), HST7.out, HO7.out, HG7.out⟩
                          case measure => (first | (simp [intOf]; done) | (simp [intOf]; omega))
                      · have hcl := HCR.out (by rw [← hV]; exact hF0)
                        have HCN : Hid (again2 = false → (∀ i r, q + 1 ≤ i → i < b.code.length → 0 ≤ r → r < (regs : Int) → ClAt b.code L2 i r) ∧ ∀ q' : Nat, q' < r + 1 → ClAt b.code L2 q (q' : Int)) := fun h => ⟨(HCL.out h).1, fun q' hq' => by
                          rcases Nat.lt_or_ge q' r with h1 | h1
                          · exact (HCL.out h).2 q' h1
                          · obtain rfl : q' = r := by omega
                            exact hcl⟩
                        rw [hF0]
                        clear hgo hV hF0 hcl
                        go_wp2
                        go_roundw
                        case rel => exact ⟨r + 1, again2, L2, by omega, by go_num, rfl, HC1.out, HC2.out, HCN.out, HST6.out, HO6.out, HG6.out⟩
                        case measure => (first | (simp [intOf]; done) | (simp [intOf]; omega))
                · have hr1 : ¬ (r : Int) < (regs : Int) := by omega
                  have HCN : Hid (again2 = false → ∀ i r, q ≤ i → i < b.code.length → 0 ≤ r → r < (regs : Int) → ClAt b.code L2 i r) := fun h i x h1 h2 h3 h4 => by
                    rcases Nat.lt_or_ge q i with h5 | h5
                    · exact (hcl h).1 i x h5 h2 h3 h4
                    · obtain rfl : i = q := by omega
                      have := (hcl h).2 x.toNat (by omega)
                      rw [show ((x.toNat : Nat) : Int) = x by omega] at this
                      exact this
                  have HST6 := Lib.hid hst
                  have HC1 := Lib.hid hc1
                  have HC2 := Lib.hid hc2
                  clear hst hO5 hg5 hc1 hc2 hcl
                  go_wp2
                  go_roundw
                  case rel => exact ⟨q, again2, L2, by omega, rfl, rfl, HC1.out, HC2.out, HCN.out, HST6.out⟩
                  case measure => (first | (simp [intOf]; done) | (simp [intOf]; omega))
end Go.Proofs.Ytkkjkbljgaipcaa
