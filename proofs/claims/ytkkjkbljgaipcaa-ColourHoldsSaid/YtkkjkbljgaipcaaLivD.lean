/- The walk of live.Sets. -/
import Derived.Test.YtkkjkbljgaipcaaLivC
import Derived.Deep.OwnRows
namespace Go.Proofs.Ytkkjkbljgaipcaa
open Go.RowKit
set_option linter.unusedVariables false
set_option linter.unusedSimpArgs false
set_option maxRecDepth 100000
set_option maxHeartbeats 16000000
theorem info_map : (Try.prog.info? 46).map (fun i => (i.zero, i.size, i.bytes)) = some (some (.map none), 1, 8) := by kernel_rfl
theorem info_ints : (Try.prog.info? 35).map (fun i => (i.zero, i.size, i.bytes)) = some (some (.slice none 0 0), 1, 24) := by kernel_rfl
theorem made_one (z : Value) (n : Nat) : madeCells #[z] n = (List.replicate n z).toArray := by
  rw [← toList_madeCells_one, Array.toArray_toList]
def mapV (ms : List Nat) (n : Nat) : Array Value := ((ms.map fun m => Value.map (some m)) ++ List.replicate (n - ms.length) (Value.map none)).toArray
theorem mapV_set {ms : List Nat} {n m : Nat} (h : ms.length < n) : (mapV ms n).setIfInBounds ms.length (.map (some m)) = mapV (ms ++ [m]) n := by
  unfold mapV
  rw [List.setIfInBounds_toArray]
  congr 1
  apply List.ext_getElem?
  intro j
  rw [List.getElem?_set]
  simp only [List.length_append, List.length_map, List.length_replicate, List.length_singleton]
  rcases Nat.lt_trichotomy ms.length j with hj | hj | hj
  · rw [if_neg (by omega), List.getElem?_append_right (by simp; omega), List.getElem?_append_right (by simp; omega)]
    simp only [List.length_map, List.length_append, List.length_singleton, List.getElem?_replicate]
    by_cases h2 : j < n
    · rw [if_pos (by omega), if_pos (by omega)]
    · rw [if_neg (by omega), if_neg (by omega)]
  · subst hj
    rw [if_pos rfl, if_pos (by omega)]
    simp
  · rw [if_neg (by omega), List.getElem?_append_left (by simp; omega), List.getElem?_append_left (by simp; omega)]
    simp [List.getElem?_append_left, hj]
/-- the sets made so far, and the rows of who leads where -/
structure Ph1 (n H : Nat) (bo : Array Value) (ms : List Nat) (vs : List Value) (xss : List (List Int)) (w wr : World) : Prop where
  nodup : ms.Nodup
  sets : ∀ m ∈ ms, H ≤ m ∧ SetAt wr m 0 (fun _ => false)
  body : Blk wr H 28 bo
  ins : Blk wr (H + 1) 46 (mapV ms n)
  box : Blk wr (H + 2) 47 #[.slice (some ⟨H + 1, 0, none⟩) n n]
  from_ : Blk wr (H + 3) 35 vs.toArray
  rows : RowsAt wr (H + 4) vs xss
  len : vs.length = n
  below : Below H w wr
theorem Ph1.keep {n H : Nat} {bo : Array Value} {ms : List Nat} {vs : List Value} {xss : List (List Int)} {w wr w' : World} (h : Ph1 n H bo ms vs xss w wr) (hb : Below wr.heap.size wr w') : Ph1 n H bo ms vs xss w w' :=
  ⟨h.nodup, fun m hm => ⟨(h.sets m hm).1, (h.sets m hm).2.below hb⟩, h.body.below hb, h.ins.below hb, h.box.below hb, h.from_.below hb, h.rows.below hb, h.len, h.below.trans (hb.mono (Nat.le_of_lt h.body.lt))⟩
/-- one set more -/
theorem Ph1.make {n H : Nat} {bo : Array Value} {ms : List Nat} {vs : List Value} {xss : List (List Int)} {w wr : World} (h : Ph1 n H bo ms vs xss w wr) (hm : ms.length < n) :
    Ph1 n H bo (ms ++ [wr.heap.size]) vs xss w ((wr.alloc (.map #[] 0)).setCell ⟨H + 1, ms.length, none⟩ (.map (some wr.heap.size))) := by
  have hk := h.keep (Below.alloc (Below.refl _ wr) (Nat.le_refl _) (.map #[] 0))
  have hl := h.body.lt
  have hl3 := h.from_.lt
  have hg := grow_set (wr.alloc (.map #[] 0)) (H + 1) ms.length (.map (some wr.heap.size))
  refine ⟨?_, fun m hm' => ?_, hk.body.far (by simp) _, ?_, hk.box.far (by simp) _, hk.from_.far (by simp) _, hk.rows.kept hg (fun j hj => ?_), h.len, hk.below.setCell (p := ⟨H + 1, ms.length, none⟩) (by simp) _⟩
  · rw [List.nodup_append]
    refine ⟨h.nodup, by simp, fun a ha b hb e => ?_⟩
    rw [List.mem_singleton] at hb
    subst hb
    have := (h.sets a ha).2.lt
    omega
  · rcases List.mem_append.1 hm' with hm' | hm'
    · refine ⟨(h.sets m hm').1, (hk.sets m hm').2.kept hg (fun e => ?_)⟩
      injection e with e
      exact set_ne_blk (hk.sets m hm').2 hk.ins e.symm
    · rw [List.mem_singleton] at hm'
      subst hm'
      exact ⟨by omega, (SetAt.made wr).kept hg (fun e => by injection e with e; omega)⟩
  · rw [← mapV_set hm]
    exact hk.ins.set_ _ _
  · exact ne_or (own_blk (hk.rows.2.1 j hj (by rw [← hk.rows.1]; exact hj)) hk.ins (by decide))
/-- one more who leads to k -/
theorem Ph1.lead {n H k : Nat} {bo : Array Value} {ms : List Nat} {vs : List Value} {xss : List (List Int)} {w wr w3 : World} {o : Obj} {v' : Value} {x : Int} (h : Ph1 n H bo ms vs xss w wr) (hk : k < vs.length) (hk' : k < xss.length)
    (hown : w3.ownsRow (H + 4) 3 1 v' (xss[k].length + 1) (xss[k].map i64 ++ [i64 x])) (hg : (wr.alloc o).grownBy w3 vs[k].ownBlock) (hat : v'.ownBlock = vs[k].ownBlock ∨ v'.ownBlock = some (wr.alloc o).heap.size) :
    Ph1 n H bo ms (vs.set k v') (xss.set k (xss[k] ++ [x])) w (w3.setCell ⟨H + 3, k, none⟩ v') := by
  have h1 := h.keep (Below.alloc (Below.refl _ wr) (Nat.le_refl _) o)
  have hl := h.from_.lt
  have hr := h1.rows.2.1 k hk hk'
  have b1 : ∀ {b : Nat} {t : TypeId} {cs : Array Value}, Blk (wr.alloc o) b t cs → 3 ≠ t → Blk w3 b t cs := fun hb ht => hb.grown hg (own_blk hr hb ht)
  have hbl3 : Below H w w3 := h1.below.grown hg (by simp; omega) (fun j e => by have := own_ge hr j e; omega)
  have hrows := h1.rows.put hk hk' hown hg (by
    rcases hat with e | e
    · exact .inl e
    · exact .inr ⟨_, e, Nat.le_refl _⟩)
  have hg2 := grow_set w3 (H + 3) k v'
  have hf3 := b1 h1.from_ (by decide)
  refine ⟨h.nodup, fun m hm => ⟨(h.sets m hm).1, ((h1.sets m hm).2.kept hg (set_ne_row (h1.sets m hm).2 hr)).kept hg2 (fun e => ?_)⟩, (b1 h1.body (by decide)).far (by simp) _, (b1 h1.ins (by decide)).far (by simp) _, (b1 h1.box (by decide)).far (by simp) _, ?_, hrows.kept hg2 (fun j hj => ?_), by rw [List.length_set]; exact h.len, hbl3.setCell (p := ⟨H + 3, k, none⟩) (by simp) _⟩
  · injection e with e
    exact set_ne_blk ((h1.sets m hm).2.kept hg (set_ne_row (h1.sets m hm).2 hr)) hf3 e.symm
  · have := hf3.set_ k v'
    rw [List.setIfInBounds_toArray] at this
    exact this
  · exact ne_or (own_blk (hrows.2.1 j hj (by rw [← hrows.1]; exact hj)) hf3 (by decide))
def Ph1Rel (code : List Or) (H : Nat) (bo : Array Value) (w : World) (i : Value) (wr : World) : Prop :=
  ∃ k ms vs xss, k ≤ code.length ∧ i = .int .i64 (k : Int) ∧ ms.length = k ∧ xss.length = code.length ∧ Ph1 code.length H bo ms vs xss w wr ∧ PreOk code xss k 0
def Ph1In (code : List Or) (k : Nat) (H : Nat) (bo : Array Value) (g : Nat) (w : World) (i : Value) (wr : World) : Prop :=
  ∃ m ms vs xss, m ≤ (leadsAt code k).length ∧ i = .int .i64 (m : Int) ∧ ms.length = k + 1 ∧ xss.length = code.length ∧ Ph1 code.length H bo ms vs xss w wr ∧ PreOk code xss k m ∧ (leadsAt code k ≠ [] → Blk wr g 3 ((leadsAt code k).map i64).toArray ∧ ∀ j (h : j < vs.length), vs[j].ownBlock ≠ some g)
/-- the rows of who leads where, as they are read -/
def FromAt (w : World) (F : Nat) (vs : List Value) (xss : List (List Int)) : Prop :=
  Blk w F 35 vs.toArray ∧ vs.length = xss.length ∧ ∀ k (h : k < vs.length) (h' : k < xss.length), ∃ A c, vs[k] = .slice A xss[k].length c ∧ (xss[k] = [] ∨ ∃ g cur, A = some ⟨g, 0, none⟩ ∧ Blk w g 3 cur ∧ cur.toList.take xss[k].length = xss[k].map i64)
theorem FromAt.of {w : World} {F base : Nat} {vs : List Value} {xss : List (List Int)} (h1 : Blk w F 35 vs.toArray) (h : RowsAt w base vs xss) : FromAt w F vs xss := by
  refine ⟨h1, h.1, fun k hk hk' => ?_⟩
  obtain ⟨hl, h2 | ⟨g, cap, cur, hv, -, hg, -, -, -, ht⟩⟩ := h.2.1 k hk hk'
  · exact ⟨none, 0, by rw [h2.1, h2.2], .inl (List.eq_nil_of_length_eq_zero h2.2)⟩
  · exact ⟨_, _, hv, .inr ⟨g, cur, rfl, hg, by simpa using ht⟩⟩
theorem FromAt.keep {w w' : World} {F : Nat} {vs : List Value} {xss : List (List Int)} (h : FromAt w F vs xss) (hk : Keep2 w w') : FromAt w' F vs xss := by
  refine ⟨hk _ _ _ (by decide) (by decide) h.1, h.2.1, fun k h1 h2 => ?_⟩
  obtain ⟨A, c, hv, hx⟩ := h.2.2 k h1 h2
  refine ⟨A, c, hv, ?_⟩
  rcases hx with hx | ⟨g, cur, hA, hb, ht⟩
  · exact .inl hx
  · exact .inr ⟨g, cur, hA, hk _ _ _ (by decide) (by decide) hb, ht⟩
theorem FromAt.row {w : World} {F : Nat} {vs : List Value} {xss : List (List Int)} (h : FromAt w F vs xss) {k : Nat} (hk : k < vs.length) (hk' : k < xss.length) : ∃ A c, vs[k] = .slice A xss[k].length c ∧ Row w A (xss[k].map i64) := by
  obtain ⟨A, c, hv, hx⟩ := h.2.2 k hk hk'
  refine ⟨A, c, hv, ?_⟩
  rcases hx with hx | ⟨g, cur, rfl, hb, ht⟩
  · rw [hx]; exact .inl rfl
  · exact Row.of_blk hb ht
/-- going back: the sets, the work, and all that stays -/
structure Ph2 (n regs H Bw : Nat) (bo : Array Value) (ms : List Nat) (vs : List Value) (xss : List (List Int)) (w wr : World) (L : Nat → Int → Bool) (W : List (Int × Int)) : Prop where
  maps : MapsAt wr H regs ms L
  work : WorkAt wr H Bw W
  ins : InAt wr (H + 2) (H + 1) ms
  from_ : FromAt wr (H + 3) vs xss
  body : Blk wr H 28 bo
  below : Below H w wr
  cnt : W.length ≤ cntL n regs L
  bw : H ≤ Bw
theorem Ph2.keep {n regs H Bw : Nat} {bo : Array Value} {ms : List Nat} {vs : List Value} {xss : List (List Int)} {w wr w' : World} {L : Nat → Int → Bool} {W : List (Int × Int)} (h : Ph2 n regs H Bw bo ms vs xss w wr L W) (hb : Below wr.heap.size wr w') : Ph2 n regs H Bw bo ms vs xss w w' L W :=
  ⟨h.maps.below hb, h.work.below hb, h.ins.keep (Keep2.below hb), h.from_.keep (Keep2.below hb), h.body.below hb, h.below.trans (hb.mono (Nat.le_of_lt h.body.lt)), h.cnt, h.bw⟩
theorem Ph2.back {n regs H Bw : Nat} {bo : Array Value} {ms : List Nat} {vs : List Value} {xss : List (List Int)} {w wr w' : World} {L : Nat → Int → Bool} {W : List (Int × Int)} {r : Int} {i : Nat} (h : Ph2 n regs H Bw bo ms vs xss w wr L W) (hi : i < n) (h0 : 0 ≤ r) (h1 : r < regs) (hL : L i r = false)
    (hM : MapsAt w' H regs ms (updL L i r)) (hW : WorkAt w' H Bw (W ++ [(r, (i : Int))])) (hK : Keep2 wr w') (hB : Below H wr w') : Ph2 n regs H Bw bo ms vs xss w w' (updL L i r) (W ++ [(r, (i : Int))]) :=
  ⟨hM, hW, h.ins.keep hK, h.from_.keep hK, hK _ _ _ (by decide) (by decide) h.body, h.below.trans hB, by rw [cntL_put hi h0 h1 hL, List.length_append]; have := h.cnt; simp; omega, h.bw⟩
theorem Ph2.small {n regs H Bw : Nat} {bo : Array Value} {ms : List Nat} {vs : List Value} {xss : List (List Int)} {w wr : World} {L : Nat → Int → Bool} {W : List (Int × Int)} (h : Ph2 n regs H Bw bo ms vs xss w wr L W) (hn : n ≤ 6000) (hr : regs ≤ 8000) : W.length ≤ 100000000 := by
  have h1 := h.cnt
  have h2 := cntL_le n regs L
  have h3 : n * regs ≤ 6000 * 8000 := Nat.mul_le_mul hn hr
  omega
theorem head_of {b : Bo} (h : bodyB b = true) : headB b = true := by
  rcases hh : headB b with _ | _
  · rw [body_no hh] at h; cases h
  · rfl
theorem snoc_cases {α : Type} (l : List α) : l = [] ∨ ∃ l' a, l = l' ++ [a] := by
  rcases List.eq_nil_or_concat l with h | ⟨l', a, h⟩
  · exact .inl h
  · exact .inr ⟨l', a, by rw [h, List.concat_eq_append]⟩
theorem cntR_zero (regs : Nat) : cntR regs (fun _ => false) = 0 := by unfold cntR; simp
def OutRel (code : List Or) (n regs H Bw : Nat) (bo : Array Value) (ms : List Nat) (vs : List Value) (xss : List (List Int)) (w : World) (i : Value) (wr : World) : Prop :=
  ∃ j L, j ≤ n ∧ i = .int .i64 (j : Int) ∧ LInv code L [] [] j ∧ Ph2 n regs H Bw bo ms vs xss w wr L []
def RdRel (code : List Or) (n regs H Bw : Nat) (bo : Array Value) (ms : List Nat) (vs : List Value) (xss : List (List Int)) (w : World) (j : Nat) (s : List Int) (Bo_ : Nat) (oc : Array Value) (i : Value) (wr : World) : Prop :=
  ∃ m L W, m ≤ s.length ∧ i = .int .i64 (m : Int) ∧ LInv code L W [] j ∧ (∀ r ∈ s.take m, L j r = true) ∧ Ph2 n regs H Bw bo ms vs xss w wr L W ∧ Blk wr Bo_ 60 oc
def WkRel (code : List Or) (n regs H Bw : Nat) (bo : Array Value) (ms : List Nat) (vs : List Value) (xss : List (List Int)) (w : World) (j gk : Nat) (wr : World) : Prop :=
  ∃ L W, 2 * (n * regs - cntL n regs L) + W.length ≤ gk ∧ LInv code L W [] j ∧ Ph2 n regs H Bw bo ms vs xss w wr L W
def PrRel (code : List Or) (n regs H Bw : Nat) (bo : Array Value) (ms : List Nat) (vs : List Value) (xss : List (List Int)) (w : World) (j gk bx k : Nat) (x : Int) (ps : List Int) (i : Value) (wr : World) : Prop :=
  ∃ m L W, m ≤ ps.length ∧ i = .int .i64 (m : Int) ∧ 2 * (n * regs - cntL n regs L) + W.length < gk ∧ LInv code L W [(x, (k : Int))] j ∧ (∀ q (h : q < ps.length), q < m → ∀ i (hi : i < code.length), ps[q] = (i : Int) → x ∉ code[i].d → L i x = true) ∧ Ph2 n regs H Bw bo ms vs xss w wr L W ∧ Blk wr bx 98 #[.int .i64 x, .int .i64 (k : Int)] ∧ WorkFree wr Bw bx ∧ L k x = true
/-- the last of the work is taken away -/
theorem Ph2.pop {n regs H Bw : Nat} {bo : Array Value} {ms : List Nat} {vs : List Value} {xss : List (List Int)} {w wr : World} {L : Nat → Int → Bool} {W : List (Int × Int)} {x : Int × Int} {A : Option Addr} {c : Nat} (h : Ph2 n regs H Bw bo ms vs xss w wr L (W ++ [x]))
    (hc : wr.cell? ⟨Bw, 0, none⟩ = some (.slice A (W.length + 1) c)) : Ph2 n regs H Bw bo ms vs xss w (wr.setCell ⟨Bw, 0, none⟩ (.slice A W.length c)) L W := by
  obtain ⟨v, hb, hown⟩ := h.work
  have hv : v = .slice A (W.length + 1) c := by
    have := hb.cell 0 v rfl
    rw [hc] at this
    injection this with this
    exact this.symm
  subst hv
  have hg := grow_set wr Bw 0 (.slice A W.length c)
  have hK : Keep2 wr (wr.setCell ⟨Bw, 0, none⟩ (.slice A W.length c)) := fun b t cs t1 t2 hb' => hb'.far (fun e => by
    simp only at e
    subst e
    exact t1 (by unfold Blk at hb hb'; rw [hb] at hb'; injection hb' with hb'; injection hb' with _ ht; exact ht.symm)) _
  refine ⟨h.maps.kept hg (fun i hi e => ?_), ⟨_, hb.set_ 0 _, ?_⟩, h.ins.keep hK, h.from_.keep hK, hK _ _ _ (by decide) (by decide) h.body, h.below.setCell (p := ⟨Bw, 0, none⟩) h.bw _, ?_, h.bw⟩
  · injection e with e
    exact set_ne_blk (h.maps.2 i hi).2 hb e.symm
  · have h1 : wr.ownsRow H 98 2 (.slice A (W.length + 1) c) (W.length + 1) (W.flatMap pairC ++ pairC x) := by
      have := hown
      simpa using this
    exact own_set (own_pop h1 (flat_len pairC 2 (fun _ => rfl) W)) (by
      have := own_blk h1 hb (by decide)
      revert this
      cases A <;> simp [Value.ownBlock]) _
  · have := h.cnt
    rw [List.length_append] at this
    simp at this
    omega
def SetsOut (b : Bo) (w : World) (e : Ending) (w' : World) : Prop := ∃ (I : Nat) (ms : List Nat) (regs : Nat), b.regs = (regs : Int) ∧ e = .returned (.slice (some ⟨I, 0, none⟩) b.code.length b.code.length) ∧ ms.length = b.code.length ∧
  Blk w' I 46 (ms.map fun m => Value.map (some m)).toArray ∧ MapsAt w' w.heap.size regs ms (liveB b.code) ∧ Below w.heap.size w w'
theorem sets_any (b : Bo) (cs : List Value) (w : World) (hr : RepB w b cs) (hbo : bodyB b = true) : Calls Try.prog 30 #[.agg cs.toArray] w (SetsOut b w) := by
  have hlen := code_le hbo
  have HWF := Lib.hid (wf_of hbo)
  obtain ⟨An, cn, Ap, cp, A, c, rfl, hT, hP, hO, hl⟩ := hr.nine
  have HO := Lib.hid hO
  have hmk1 := run_make_row' (P := Try.prog) 47 46 (.map none) 8 Try.underlying47 info_map rfl .i64 .i64 b.code.length (by omega) (by omega)
  have hmk2 := run_make_row' (P := Try.prog) 40 35 (.slice none 0 0) 24 Try.underlying40 info_ints rfl .i64 .i64 b.code.length (by omega) (by omega)
  have hmm := @run_makeMap Try.prog
  rw [made_one] at hmk1 hmk2
  clear hr hT hP hO hl
  go_enter Try.func30, Try.ntmps30
  go_upto_region 4 with (fail)
  have P0 : Ph1 b.code.length w.heap.size #[.string b.nm, .bool b.static, .int .i64 b.ty.k, .string b.ty.nm, .slice An b.ty.ns.length cn, .slice Ap b.ty.ps.length cp, .bool b.ty.many, .int .i64 b.regs, .slice A b.code.length c] [] (List.replicate b.code.length (.slice none 0 0)) (List.replicate b.code.length []) w ((((w.alloc (.cells #[.string b.nm, .bool b.static, .int .i64 b.ty.k, .string b.ty.nm, .slice An b.ty.ns.length cn, .slice Ap b.ty.ps.length cp, .bool b.ty.many, .int .i64 b.regs, .slice A b.code.length c] 28)).alloc (.cells (Array.replicate b.code.length (.map none)) 46)).alloc (.cells #[.slice (some ⟨w.heap.size + 1, 0, none⟩) b.code.length b.code.length] 47)).alloc (.cells (Array.replicate b.code.length (.slice none 0 0)) 35)) := by
    refine ⟨by simp, by simp, ?_, ?_, ?_, ?_, RowsAt.none_ _ _ _, by simp, by (repeat (first | with_reducible assumption | with_reducible exact Below.refl _ _ | (refine Below.setCell ?_ (by first | omega | (simp; done) | (simp; omega)) _) | (refine Below.drewN_ ?_ _) | (refine Below.drew ?_) | (refine Below.alloc ?_ (by first | omega | (simp; done) | (simp; omega)) _)))⟩
    · exact (((Blk.new_ w _ _).alloc _).alloc _).alloc _
    · have := ((Blk.nxt1 w (.cells #[.string b.nm, .bool b.static, .int .i64 b.ty.k, .string b.ty.nm, .slice An b.ty.ns.length cn, .slice Ap b.ty.ps.length cp, .bool b.ty.many, .int .i64 b.regs, .slice A b.code.length c] 28) 46 (Array.replicate b.code.length (.map none))).alloc (.cells #[.slice (some ⟨w.heap.size + 1, 0, none⟩) b.code.length b.code.length] 47)).alloc (.cells (Array.replicate b.code.length (.slice none 0 0)) 35)
      have e : mapV [] b.code.length = Array.replicate b.code.length (.map none) := by unfold mapV; simp
      rw [e]
      exact this
    · have := (Blk.new_ ((w.alloc (.cells #[.string b.nm, .bool b.static, .int .i64 b.ty.k, .string b.ty.nm, .slice An b.ty.ns.length cn, .slice Ap b.ty.ps.length cp, .bool b.ty.many, .int .i64 b.regs, .slice A b.code.length c] 28)).alloc (.cells (Array.replicate b.code.length (.map none)) 46)) 47 #[.slice (some ⟨w.heap.size + 1, 0, none⟩) b.code.length b.code.length]).alloc (.cells (Array.replicate b.code.length (.slice none 0 0)) 35)
      simpa using this
    · have := Blk.new_ (((w.alloc (.cells #[.string b.nm, .bool b.static, .int .i64 b.ty.k, .string b.ty.nm, .slice An b.ty.ns.length cn, .slice Ap b.ty.ps.length cp, .bool b.ty.many, .int .i64 b.regs, .slice A b.code.length c] 28)).alloc (.cells (Array.replicate b.code.length (.map none)) 46)).alloc (.cells #[.slice (some ⟨w.heap.size + 1, 0, none⟩) b.code.length b.code.length] 47)) 35 (Array.replicate b.code.length (.slice none 0 0))
      simpa using this
  generalize (((w.alloc (.cells #[.string b.nm, .bool b.static, .int .i64 b.ty.k, .string b.ty.nm, .slice An b.ty.ns.length cn, .slice Ap b.ty.ps.length cp, .bool b.ty.many, .int .i64 b.regs, .slice A b.code.length c] 28)).alloc (.cells (Array.replicate b.code.length (.map none)) 46)).alloc (.cells #[.slice (some ⟨w.heap.size + 1, 0, none⟩) b.code.length b.code.length] 47)).alloc (.cells (Array.replicate b.code.length (.slice none 0 0)) 35) = W0 at *
  clear hmk1 hmk2
  go_wp2
  go_loopw [28] (fun i wr => Ph1Rel b.code w.heap.size #[.string b.nm, .bool b.static, .int .i64 b.ty.k, .string b.ty.nm, .slice An b.ty.ns.length cn, .slice Ap b.ty.ps.length cp, .bool b.ty.many, .int .i64 b.regs, .slice A b.code.length c] w i wr) (fun i _ => b.code.length - (intOf i).toNat)
  case atStart => exact ⟨0, _, _, _, Nat.zero_le _, rfl, rfl, by simp, P0, PreOk.start _ _⟩
  case round =>
    clear P0
    obtain ⟨k, ms, vs, xss, hk, rfl, hms, hxs, hP, hpre⟩ := hrel
    by_cases hlt : k < b.code.length
    · have hk0 : (0 : Int) ≤ (k : Int) := by omega
      have hk1 : (k : Int) < (b.code.length : Int) := by omega
      have hk6 : (k : Int) < 6000 := by omega
      have c0 : wr.cell? ⟨w.heap.size + 1 + 1, 0, none⟩ = some (.slice (some ⟨w.heap.size + 1, 0, none⟩) b.code.length b.code.length) := hP.box.cell 0 _ rfl
      have k1 : Blk wr (w.heap.size + 1) 46 (mapV ms b.code.length) := hP.ins
      have hm1 : (mapV ms b.code.length)[k]? = some (.map none) := by
        unfold mapV
        rw [List.getElem?_toArray, List.getElem?_append_right (by simp [hms]), List.getElem?_replicate, if_pos (by simp; omega)]
      have c1 := k1.cell k (.map none) hm1
      have f1 := k1.free k
      have hlH := hP.body.lt
      have hlI : w.heap.size + 1 < wr.heap.size := hP.ins.lt
      have hlB : w.heap.size + 1 + 1 < wr.heap.size := hP.box.lt
      have hlF : w.heap.size + 1 + 1 + 1 < wr.heap.size := hP.from_.lt
      have y8 := hP.body.cell 8 (.slice A b.code.length c) rfl
      have hP2 := hP.make (by rw [hms]; exact hlt)
      rw [hms] at hP2
      rw [World.setCell_alloc_past (hn := hlI)] at hP2
      have HP2 := Lib.hid hP2
      have HPR := Lib.hid hpre
      have HMS : Hid ((ms ++ [wr.heap.size]).length = k + 1) := by show _ = _; simp [hms]
      have HXS := Lib.hid hxs
      have HLA := Lib.hid (leadsAt_eq hlt)
      have hb1 := hP2.below
      have HLD := Lib.hid (leads_any A c b.code k _ (HO.out.keep hb1) hlt hlen)
      clear hP hpre hm1 hxs hb1
      clear hP2 k1
      have hne : w.heap.size ≠ w.heap.size + 1 := by omega
      go_wp2_with fail
      refine (HLD.out).mono ?_
      rintro e w2 ⟨Al, cl, rfl, hnl, hb2⟩
      have HP3 := Lib.hid (HP2.out.keep hb2)
      have HNL : Hid (leadsAt b.code k ≠ [] → ∃ g, Al = some ⟨g, 0, none⟩ ∧ Blk w2 g 3 ((leadsAt b.code k).map i64).toArray ∧ ∀ j (h : j < vs.length), vs[j].ownBlock ≠ some g) := fun hne => by
        rw [HLA.out] at hne ⊢
        rcases hnl with h | ⟨g, h1, h2, h3, h4⟩
        · exact absurd h hne
        · refine ⟨g, h1, h4, fun j hj e => ?_⟩
          have hj' : j < xss.length := by rw [← HP2.out.rows.1]; exact hj
          have := ((HP2.out.rows.2.1 j hj hj').lt g e).2
          omega
      have hll := leadsL_len b.code[k] k
      have hLL := HLA.out
      rw [← hLL] at hll ⊢
      clear hLL hnl hb2 HLD c0 c1 f1 y8 hlH hlI hlB hlF
      obtain ⟨g, hg⟩ : ∃ g, leadsAt b.code k ≠ [] → Al = some ⟨g, 0, none⟩ ∧ Blk w2 g 3 ((leadsAt b.code k).map i64).toArray ∧ ∀ j (h : j < vs.length), vs[j].ownBlock ≠ some g := by
        by_cases h : leadsAt b.code k = []
        · exact ⟨0, fun h' => absurd h h'⟩
        · obtain ⟨g, h1⟩ := HNL.out h
          exact ⟨g, fun _ => h1⟩
      have HGG := Lib.hid hg
      clear hg HNL
      go_wp2
      go_loopw [40] (fun i wx => Ph1In b.code k w.heap.size #[.string b.nm, .bool b.static, .int .i64 b.ty.k, .string b.ty.nm, .slice An b.ty.ns.length cn, .slice Ap b.ty.ps.length cp, .bool b.ty.many, .int .i64 b.regs, .slice A b.code.length c] g w i wx) (fun i _ => (leadsAt b.code k).length - (intOf i).toNat)
      case atStart => exact ⟨0, _, _, _, Nat.zero_le _, rfl, HMS.out, HXS.out, HP3.out, HPR.out, fun h => (HGG.out h).2⟩
      case round =>
        obtain ⟨m, ms2, vs2, xss2, hm, rfl, hms2, hxs2, hP, hpre, hgl⟩ := hrel
        by_cases hlm : m < (leadsAt b.code k).length
        · have hne : leadsAt b.code k ≠ [] := fun e => by rw [e] at hlm; simp at hlm
          obtain ⟨rfl, -⟩ := HGG.out hne
          obtain ⟨hgb, hgn⟩ := hgl hne
          have hmem : (leadsAt b.code k)[m] ∈ leadsL b.code[k] k := by rw [← leadsAt_eq hlt]; exact List.getElem_mem hlm
          have hyr := HWF.out.leads k hlt _ hmem
          obtain ⟨q, hq⟩ : ∃ q : Nat, (leadsAt b.code k)[m] = (q : Int) := ⟨((leadsAt b.code k)[m]).toNat, by omega⟩
          have hql : q < b.code.length := by omega
          have hqx : q < xss2.length := by rw [hxs2]; exact hql
          have hqv : q < vs2.length := by rw [hP.len]; exact hql
          have hgd : xss2.getD q [] = xss2[q] := by rw [List.getD_eq_getElem?_getD, List.getElem?_eq_getElem hqx]; rfl
          have hstep := hpre.step hqx hlm hq
          rw [hgd] at hstep
          have hlen1 := hpre.len hqx
          have hown := hP.rows.2.1 q hqv hqx
          have g0 : wr.cell? ⟨g, m, none⟩ = some (.int .i64 (q : Int)) := hgb.cell m (.int .i64 (q : Int)) (by simp [hlm, i64, hq])
          have kF : Blk wr (w.heap.size + 1 + 1 + 1) 35 vs2.toArray := hP.from_
          have hlF : w.heap.size + 1 + 1 + 1 < wr.heap.size := kF.lt
          have HP := Lib.hid hP
          have HGB := Lib.hid hgb
          have HGN := Lib.hid hgn
          have HST := Lib.hid hstep
          have hgl1 := hgb.lt
          have hm0 : (0 : Int) ≤ (m : Int) := by omega
          have hm1 : (m : Int) < ((leadsAt b.code k).length : Int) := by omega
          have hm2 : (m : Int) < 2 := by omega
          have hq0 : (0 : Int) ≤ (q : Int) := by omega
          have hq1 : (q : Int) < (b.code.length : Int) := by omega
          have fq := kF.cell q vs2[q] (by simp [hqv])
          obtain ⟨Aq, cq, hvq, -⟩ := Row.of_own hown
          have HOW := Lib.hid hown
          have HMS2 := Lib.hid hms2
          have HXS2 := Lib.hid hxs2
          obtain ⟨i0, hinfo, hz0, hz1, hz2⟩ := info_parts info_int
          clear hgl hgb hgn hpre hstep hP hown hmem hyr hgd hq hms2 hxs2 HP2 HP3 HPR HMS HXS
          rw [hvq] at fq
          have HVQ := Lib.hid hvq
          clear hvq
          generalize hxl' : xss2[q].length = xl at *
          have HXL := Lib.hid hxl'
          clear hxl'
          go_wp2_with (at_builtin; go_must ((refine wpList_append_own_at _ rfl _ _ 35 rfl (w.heap.size + 4) 3 i0 (.int .i64 0) 1 8 Try.underlying35 hinfo hz0 hz1 hz2 rfl (by decide) (.slice Aq xl cq) xl _ (by rfl) (by have := HOW.out; rw [HVQ.out] at this; exact this.alloc _) ⟨wr.heap.size, 0, none⟩ 1 1 [.int .i64 (k : Int)] (by rfl) (by rfl) (cell_one_new _ _ _) (by simp [Value.oneCell']) (by unfold maxLen; omega) (by omega) (by simp; omega) ?_; intro v' w3 hown3 hg3 _ hat3; obtain ⟨g', cap', rfl⟩ := ownsRow_succ hown3; have k3 := (kF.alloc (.cells #[.int .i64 (k : Int)] 3)).grown hg3 (own_blk (by have := HOW.out; rw [HVQ.out] at this; exact this.alloc _) (kF.alloc (.cells #[.int .i64 (k : Int)] 3)) (by decide)); have fq3 := k3.cell q (.slice Aq xl cq) (by simp [hqv]; exact HVQ.out); have ff3 := k3.free q; have HO3 := Lib.hid hown3; have HG3 := Lib.hid hg3; have HA3 := Lib.hid hat3; clear hown3 hg3 hat3)))
          go_roundw
          case rel =>
            have hle := HP.out.lead (o := .cells #[.int .i64 (k : Int)] 3) (x := (k : Int)) hqv hqx (by have := HO3.out; rw [HXL.out]; exact this) (by rw [HVQ.out]; exact HG3.out) (by rw [HVQ.out]; exact HA3.out)
            refine ⟨m + 1, ms2, _, _, by omega, by go_num, HMS2.out, by rw [List.length_set]; exact HXS2.out, hle, HST.out, fun _ => ⟨?_, fun j hj => ?_⟩⟩
            · have hb3 := (HGB.out.alloc (.cells #[.int .i64 (k : Int)] 3)).grown HG3.out (fun e => HGN.out q hqv (by rw [HVQ.out]; exact e.symm))
              exact hb3.far (fun e => by
                have hb4 := k3
                rw [show g = w.heap.size + 1 + 1 + 1 from e] at hb3
                exact absurd rfl (Blk.ne_ hb3 hb4 (by decide))) _
            · rw [List.length_set] at hj
              rw [List.getElem_set]
              split
              · intro e
                rcases HA3.out with h | h
                · rw [h] at e
                  exact HGN.out q hqv (by rw [HVQ.out]; exact e)
                · rw [h] at e
                  injection e with e
                  simp at e
                  omega
              · exact HGN.out j hj
          case measure => (first | (simp [intOf]; done) | (simp [intOf]; omega))
        · have hm1 : ¬ (m : Int) < ((leadsAt b.code k).length : Int) := by omega
          obtain rfl : m = (leadsAt b.code k).length := by omega
          have hn := hpre.next hlt
          have HN := Lib.hid hn
          have HP := Lib.hid hP
          have HMS2 := Lib.hid hms2
          have HXS2 := Lib.hid hxs2
          clear hn hpre hgl hP hms2 hxs2 HP2 HP3 HPR HMS HXS HGG
          go_wp2
          go_roundw
          case rel => exact ⟨k + 1, ms2, vs2, xss2, by omega, by go_num, HMS2.out, HXS2.out, HP.out, HN.out⟩
          case measure => (first | (simp [intOf]; done) | (simp [intOf]; omega))
    · have hk1 : ¬ (k : Int) < (b.code.length : Int) := by omega
      obtain rfl : k = b.code.length := by omega
      have HP := Lib.hid hP
      have HPR := Lib.hid hpre
      have HMS := Lib.hid hms
      have HXS := Lib.hid hxs
      have y8 := hP.body.cell 8 (.slice A b.code.length c) rfl
      have hlH := hP.body.lt
      have hlB : w.heap.size + 1 + 1 < wr.heap.size := hP.box.lt
      have hmf : ∀ (fn : Fn) (first cap : Array Value) (w : World), (Instr.makeFunc fn first cap).run Try.prog w = .ok (.func fn first cap) w := fun _ _ _ _ => rfl
      clear hP hpre hms hxs hmm
      go_upto_region 17 with (fail)
      obtain ⟨regs, hregs⟩ : ∃ regs : Nat, b.regs = (regs : Int) := ⟨b.regs.toNat, by have := (head_parts (head_of hbo)).2.2.2.1; omega⟩
      have hr8 : regs ≤ 8000 := by have := (head_parts (head_of hbo)).2.2.2.2.1; omega
      have hmv : mapV ms b.code.length = (ms.map fun m => Value.map (some m)).toArray := by unfold mapV; rw [HMS.out]; simp
      have Q0 : Ph2 b.code.length regs w.heap.size (wr.heap.size + 1) #[.string b.nm, .bool b.static, .int .i64 b.ty.k, .string b.ty.nm, .slice An b.ty.ns.length cn, .slice Ap b.ty.ps.length cp, .bool b.ty.many, .int .i64 b.regs, .slice A b.code.length c] ms vs xss w ((wr.alloc (.cells #[] 98)).alloc (.cells #[.slice (some ⟨wr.heap.size, 0, none⟩) 0 0] 97)) (fun _ _ => false) [] := by
        have X : Below wr.heap.size wr ((wr.alloc (.cells #[] 98)).alloc (.cells #[.slice (some ⟨wr.heap.size, 0, none⟩) 0 0] 97)) := by (repeat (first | with_reducible assumption | with_reducible exact Below.refl _ _ | (refine Below.setCell ?_ (by first | omega | (simp; done) | (simp; omega)) _) | (refine Below.drewN_ ?_ _) | (refine Below.drew ?_) | (refine Below.alloc ?_ (by first | omega | (simp; done) | (simp; omega)) _)))
        have hk := HP.out.keep X
        refine ⟨⟨hk.nodup, fun i hi => ?_⟩, ⟨_, Blk.nxt1 wr _ _ _, ?_⟩, ⟨?_, ?_⟩, FromAt.of hk.from_ hk.rows, hk.body, hk.below, by simp, by omega⟩
        · obtain ⟨h1, h2⟩ := hk.sets _ (List.getElem_mem hi)
          exact ⟨h1, by rw [cntR_zero]; exact h2⟩
        · exact ⟨rfl, .inr ⟨wr.heap.size, 0, #[], rfl, by omega, (Blk.new_ wr _ _).alloc _, Nat.le_refl _, by unfold maxLen; omega, rfl, rfl⟩⟩
        · have := hk.box
          rw [← HMS.out] at this
          exact this
        · rw [← hmv]; exact hk.ins
      generalize (wr.alloc (.cells #[] 98)).alloc (.cells #[.slice (some ⟨wr.heap.size, 0, none⟩) 0 0] 97) = W2 at *
      generalize wr.heap.size + 1 = Bw at *
      rw [hregs] at HWF
      have HRG := Lib.hid hregs
      clear y8 HP hmv hlB hregs
      go_wp2
      go_loopw [61] (fun i wr => OutRel b.code b.code.length regs w.heap.size Bw #[.string b.nm, .bool b.static, .int .i64 b.ty.k, .string b.ty.nm, .slice An b.ty.ns.length cn, .slice Ap b.ty.ps.length cp, .bool b.ty.many, .int .i64 b.regs, .slice A b.code.length c] ms vs xss w i wr) (fun i _ => b.code.length - (intOf i).toNat)
      case atStart => exact ⟨0, _, Nat.zero_le _, rfl, LInv.start _, Q0⟩
      case round =>
        clear Q0
        obtain ⟨j, L, hj, rfl, hinv, hQ⟩ := hrel
        by_cases hjl : j < b.code.length
        · obtain ⟨bb, oo, Ad, cd, As, c', An', cn', Ap', cp', rfl, hbl, hrep, hcs⟩ := HO.out.ten hjl
          obtain ⟨c0, c1, c2, c3, c4, c5, c6, c7, c8, c9⟩ := hcs wr hQ.below
          have hj0 : (0 : Int) ≤ (j : Int) := by omega
          have hj1 : (j : Int) < (b.code.length : Int) := by omega
          have hj6 : (j : Int) < 6000 := by omega
          obtain ⟨Adx, cdx, Asx, csx, Anx, cnx, Apx, cpx, hcsx, hD, hS, -, -, hdl, hsl, -⟩ := hrep.ten
          obtain ⟨rfl, rfl, rfl, rfl⟩ : Ad = Adx ∧ cd = cdx ∧ As = Asx ∧ c' = csx := by
            simp only [List.cons.injEq, Value.slice.injEq] at hcsx
            exact ⟨hcsx.2.1.1, hcsx.2.1.2.2, hcsx.2.2.1.1, hcsx.2.2.1.2.2⟩
          have HUSE : Hid (∀ r ∈ b.code[j].s, LiveP b.code j r ∧ 0 ≤ r ∧ r < (regs : Int)) := fun r hr => ⟨LiveP.use hjl hr, HWF.out.reads j hjl r hr⟩
          have HNX : Hid (∀ L W, LInv b.code L W [] j → (∀ r ∈ b.code[j].s, L j r = true) → LInv b.code L W [] (j + 1)) := fun L W h hs => h.next hjl hs
          have HS := Lib.hid hS
          have HI := Lib.hid hinv
          have HQ := Lib.hid hQ
          have X : Below wr.heap.size wr (wr.alloc (.cells #[.int .i64 b.code[j].op, .slice Ad b.code[j].d.length cd, .slice As b.code[j].s.length c', .int .i64 b.code[j].n, .string b.code[j].nm, .int .i64 b.code[j].ty.k, .string b.code[j].ty.nm, .slice An' b.code[j].ty.ns.length cn', .slice Ap' b.code[j].ty.ps.length cp', .bool b.code[j].ty.many] 60)) := by (repeat (first | with_reducible assumption | with_reducible exact Below.refl _ _ | (refine Below.setCell ?_ (by first | omega | (simp; done) | (simp; omega)) _) | (refine Below.drewN_ ?_ _) | (refine Below.drew ?_) | (refine Below.alloc ?_ (by first | omega | (simp; done) | (simp; omega)) _)))
          have HQ2 := Lib.hid (HQ.out.keep X)
          have kO := Blk.new_ wr 60 #[.int .i64 b.code[j].op, .slice Ad b.code[j].d.length cd, .slice As b.code[j].s.length c', .int .i64 b.code[j].n, .string b.code[j].nm, .int .i64 b.code[j].ty.k, .string b.code[j].ty.nm, .slice An' b.code[j].ty.ns.length cn', .slice Ap' b.code[j].ty.ps.length cp', .bool b.code[j].ty.many]
          have hlH2 := hQ.body.lt
          clear hinv hQ hcsx hrep hcs hD hS
          generalize b.code[j] = o at *
          unfold maxLen at hsl
          go_upto_region 20 with (fail)
          generalize wr.alloc (.cells #[.int .i64 o.op, .slice Ad o.d.length cd, .slice As o.s.length c', .int .i64 o.n, .string o.nm, .int .i64 o.ty.k, .string o.ty.nm, .slice An' o.ty.ns.length cn', .slice Ap' o.ty.ps.length cp', .bool o.ty.many] 60) = w4 at *
          generalize wr.heap.size = BO at *
          go_wp2
          go_loopw [69] (fun i wr => RdRel b.code b.code.length regs w.heap.size Bw #[.string b.nm, .bool b.static, .int .i64 b.ty.k, .string b.ty.nm, .slice An b.ty.ns.length cn, .slice Ap b.ty.ps.length cp, .bool b.ty.many, .int .i64 b.regs, .slice (some ⟨bb, oo, none⟩) b.code.length c] ms vs xss w j o.s BO #[.int .i64 o.op, .slice Ad o.d.length cd, .slice As o.s.length c', .int .i64 o.n, .string o.nm, .int .i64 o.ty.k, .string o.ty.nm, .slice An' o.ty.ns.length cn', .slice Ap' o.ty.ps.length cp', .bool o.ty.many] i wr) (fun i _ => o.s.length - (intOf i).toNat)
          case atStart => exact ⟨0, L, [], Nat.zero_le _, rfl, HI.out, by simp, HQ2.out, kO⟩
          case round =>
            obtain ⟨m, L2, W2, hm, rfl, hinv, hdone, hQ, hO2⟩ := hrel
            have HMSj : j < ms.length := by rw [HMS.out]; exact hjl
            by_cases hms : m < o.s.length
            · obtain ⟨bs, os, rfl, hbs, cs0⟩ := (Row.keep HS.out hQ.below).i64 hms
              have hm0 : (0 : Int) ≤ (m : Int) := by omega
              have hm1 : (m : Int) < (o.s.length : Int) := by omega
              obtain ⟨hlive, hr0, hr1⟩ := HUSE.out _ (List.getElem_mem hms)
              have HB : Hid (Calls Try.prog 60 #[.int .i64 o.s[m], .int .i64 (j : Int), .pointer (some ⟨w.heap.size + 1 + 1, 0, none⟩), .pointer (some ⟨Bw, 0, none⟩)] wr (BackOut w.heap.size regs ms L2 W2 Bw o.s[m] j wr)) :=
                back_any w.heap.size regs ms L2 W2 (w.heap.size + 1 + 1) (w.heap.size + 1) Bw o.s[m] j wr hr8 HMSj (by rw [HMS.out]; exact hlen) hr0 hr1 (hQ.small hlen hr8) hQ.ins hQ.maps hQ.work hQ.bw (Nat.le_of_lt hQ.body.lt)
              have HDN : Hid (∀ M : Nat → Int → Bool, (∀ y, L2 j y = true → M j y = true) → M j o.s[m] = true → ∀ r ∈ o.s.take (m + 1), M j r = true) := fun M h1 h2 r hr => by
                rw [List.take_succ_eq_append_getElem hms, List.mem_append, List.mem_singleton] at hr
                rcases hr with hr | rfl
                · exact h1 _ (hdone r hr)
                · exact h2
              have HI2 := Lib.hid hinv
              have HQ3 := Lib.hid hQ
              have HLV := Lib.hid hlive
              clear hinv hQ hdone hlive
              generalize o.s[m] = r at *
              go_wp2_with fail
              (refine (HB.out).mono ?_; rintro e w5 ⟨rfl, ⟨hL, rfl⟩ | ⟨hL, hM, hW, hK, hB, -⟩⟩)
              · have hd := HDN.out L2 (fun _ h => h) hL
                have HDD := Lib.hid hd
                clear hL hd HDN
                go_wp2
                go_roundw
                case rel => exact ⟨m + 1, L2, W2, by omega, by go_num, HI2.out, HDD.out, HQ3.out, hO2⟩
                case measure => (first | (simp [intOf]; done) | (simp [intOf]; omega))
              · have hd := HDN.out (updL L2 j r) (fun _ h => updL_up h) (updL_at L2 j r)
                have HDD := Lib.hid hd
                have HI3 := Lib.hid (HI2.out.put HLV.out)
                have HQ4 := Lib.hid (HQ3.out.back hjl hr0 hr1 hL hM hW hK hB)
                have hO3 := hK _ _ _ (by decide) (by decide) hO2
                clear hL hd HDN hM hW hK hB hO2
                go_wp2
                go_roundw
                case rel => exact ⟨m + 1, _, _, by omega, by go_num, HI3.out, HDD.out, HQ4.out, hO3⟩
                case measure => (first | (simp [intOf]; done) | (simp [intOf]; omega))
            · have hm1 : ¬ (m : Int) < (o.s.length : Int) := by omega
              have hd2 : ∀ r ∈ o.s, L2 j r = true := fun r hr => hdone r (by rw [List.take_of_length_le (by omega)]; exact hr)
              have HI2 := Lib.hid (HNX.out L2 W2 hinv hd2)
              have HQ3 := Lib.hid hQ
              clear hinv hQ hdone hd2 HI HQ HQ2 HNX HUSE HS
              go_upto_region 24 with (fail)
              go_loopg [] (2 * (b.code.length * regs - cntL b.code.length regs L2) + W2.length) (fun gk wr => WkRel b.code b.code.length regs w.heap.size Bw #[.string b.nm, .bool b.static, .int .i64 b.ty.k, .string b.ty.nm, .slice An b.ty.ns.length cn, .slice Ap b.ty.ps.length cp, .bool b.ty.many, .int .i64 b.regs, .slice (some ⟨bb, oo, none⟩) b.code.length c] ms vs xss w (j + 1) gk wr)
              case atStart => exact ⟨L2, W2, Nat.le_refl _, HI2.out, HQ3.out⟩
              case round =>
                clear HI2 HQ3
                obtain ⟨L3, W3, hgk, hinv, hQ⟩ := hrel
                obtain ⟨v, hbw, hown⟩ := hQ.work
                obtain ⟨Aw, cw, rfl, hrow⟩ := Row.of_own hown
                have hwz := hQ.small hlen hr8
                have hcw : W3.length ≤ cw := by
                  rcases hown.2 with ⟨h1, h2⟩ | ⟨g, cap, cur, h1, -, -, h2, -⟩
                  · omega
                  · injection h1 with h1 h3 h4
                    omega
                have z0 := hbw.cell 0 (.slice Aw W3.length cw) rfl
                have zf := hbw.free 0
                have hlW := hbw.lt
                rcases snoc_cases W3 with rfl | ⟨W4, x, rfl⟩
                · have HI4 := Lib.hid hinv
                  have HQ4 := Lib.hid hQ
                  clear hinv hQ hown hrow
                  go_wp2
                  go_roundw
                  case rel => exact ⟨j + 1, L3, by omega, by go_num, HI4.out, HQ4.out⟩
                  case measure => (first | (simp [intOf]; done) | (simp [intOf]; omega))
                · obtain ⟨x1, x2⟩ := x
                  have hxl : (W4 ++ [(x1, x2)]).length = W4.length + 1 := by simp
                  rw [hxl] at z0 hgk hcw hwz
                  obtain ⟨hx0, hLx⟩ := hinv.work (x1, x2) (by simp)
                  simp only at hx0 hLx
                  obtain ⟨k, rfl⟩ : ∃ k : Nat, x2 = (k : Int) := ⟨x2.toNat, by omega⟩
                  rw [Int.toNat_natCast] at hLx
                  have hlv := hinv.sound _ _ hLx
                  have hkl := hlv.lt
                  obtain ⟨hx10, hx11⟩ := hlv.reg HWF.out
                  obtain ⟨bw, ow, rfl, hbwl, hcells⟩ := hrow.at_ (by simp [pairC])
                  have p0 : wr.cell? ⟨bw, ow + W4.length * 2, none⟩ = some (.int .i64 x1) := hcells (W4.length * 2) _ (by
                    have := flat_at pairC 2 (fun _ => rfl) (W4 ++ [(x1, (k : Int))]) W4.length 0 (by omega)
                    rw [Nat.add_zero] at this
                    rw [this]; simp [pairC])
                  have p1 : wr.cell? ⟨bw, ow + W4.length * 2 + 1, none⟩ = some (.int .i64 (k : Int)) := by
                    have := hcells (W4.length * 2 + 1) (.int .i64 (k : Int)) (by
                      rw [flat_at pairC 2 (fun _ => rfl) (W4 ++ [(x1, (k : Int))]) W4.length 1 (by omega)]; simp [pairC])
                    rw [← Nat.add_assoc] at this
                    exact this
                  have hl0 : (0 : Int) ≤ (W4.length : Int) := by omega
                  have hl1 : (W4.length : Int) ≤ 100000000 := by omega
                  have hl2 : (W4.length : Int) + 1 ≤ (cw : Int) := by omega
                  have HI4 := Lib.hid hinv.pop
                  have hpop := hQ.pop z0
                  have HQ4 := Lib.hid (hpop.keep (Below.alloc (Below.refl _ _) (Nat.le_refl _) (.cells #[.int .i64 x1, .int .i64 (k : Int)] 98)))
                  have kF : Blk wr (w.heap.size + 1 + 1 + 1) 35 vs.toArray := hQ.from_.1
                  have hkx : k < xss.length := by rw [HXS.out]; exact hkl
                  have hkv : k < vs.length := by rw [hQ.from_.2.1]; exact hkx
                  obtain ⟨Ak, ck, hvk, -⟩ := hQ.from_.row hkv hkx
                  have fq := kF.cell k (.slice Ak xss[k].length ck) (by rw [← hvk]; simp [hkv])
                  have hneF : w.heap.size + 1 + 1 + 1 ≠ Bw := Blk.ne_ kF hbw (by decide)
                  have hlF := kF.lt
                  have hsx : (wr.setCell ⟨Bw, 0, none⟩ (.slice (some ⟨bw, ow, none⟩) W4.length cw)).heap.size = wr.heap.size := by simp [World.setCell]
                  have kX : Blk ((wr.setCell ⟨Bw, 0, none⟩ (.slice (some ⟨bw, ow, none⟩) W4.length cw)).alloc (.cells #[.int .i64 x1, .int .i64 (k : Int)] 98)) wr.heap.size 98 #[.int .i64 x1, .int .i64 (k : Int)] := by
                    have := Blk.new_ (wr.setCell ⟨Bw, 0, none⟩ (.slice (some ⟨bw, ow, none⟩) W4.length cw)) 98 #[.int .i64 x1, .int .i64 (k : Int)]
                    rw [hsx] at this
                    exact this
                  have hWF : WorkFree ((wr.setCell ⟨Bw, 0, none⟩ (.slice (some ⟨bw, ow, none⟩) W4.length cw)).alloc (.cells #[.int .i64 x1, .int .i64 (k : Int)] 98)) Bw wr.heap.size := fun v0 h0 => by
                    have h1 := ((hbw.set_ 0 (.slice (some ⟨bw, ow, none⟩) W4.length cw)).alloc (.cells #[.int .i64 x1, .int .i64 (k : Int)] 98)).cell 0 (.slice (some ⟨bw, ow, none⟩) W4.length cw) rfl
                    rw [h1] at h0
                    injection h0 with h0
                    subst h0
                    intro e
                    injection e with e
                    simp only at e
                    omega
                  have HKX := Lib.hid kX
                  have HWF2 := Lib.hid hWF
                  have HLX := Lib.hid hLx
                  have HPK := Lib.hid (fun x => (HPR.out.all hkx x))
                  have hpl := HPR.out.len hkx
                  obtain ⟨ps, hps⟩ : ∃ ps, xss[k] = ps := ⟨_, rfl⟩
                  have HVK : Hid (vs[k] = .slice Ak ps.length ck) := by show _ = _; rw [hvk, hps]
                  rw [hps] at fq HPK hpl
                  have HPS := Lib.hid hps
                  clear hinv hQ hown hrow hcells hxl hpop kF hvk hsx kX hWF hLx hlv hps
                  go_upto_region 28 with (fail)
                  generalize (wr.setCell ⟨Bw, 0, none⟩ (.slice (some ⟨bw, ow, none⟩) W4.length cw)).alloc (.cells #[.int .i64 x1, .int .i64 (k : Int)] 98) = w6 at *
                  have hlbx : wr.heap.size < w6.heap.size := HKX.out.lt
                  generalize wr.heap.size = bx at *
                  go_wp2
                  go_loopw [98] (fun i wr => PrRel b.code b.code.length regs w.heap.size Bw #[.string b.nm, .bool b.static, .int .i64 b.ty.k, .string b.ty.nm, .slice An b.ty.ns.length cn, .slice Ap b.ty.ps.length cp, .bool b.ty.many, .int .i64 b.regs, .slice (some ⟨bb, oo, none⟩) b.code.length c] ms vs xss w (j + 1) gk bx k x1 ps i wr) (fun i _ => ps.length - (intOf i).toNat)
                  case atStart => exact ⟨0, L3, W4, Nat.zero_le _, rfl, by omega, HI4.out, fun q _ h => absurd h (by omega), HQ4.out, HKX.out, HWF2.out, HLX.out⟩
                  case round =>
                    clear HI4 HQ4 HKX HWF2 HLX hgk p0 p1 z0 zf hlbx hbw
                    obtain ⟨m2, L, W, hm2, rfl, hgk2, hinv, hdone, hQ, hbx, hwf, hLk⟩ := hrel
                    by_cases hlm : m2 < ps.length
                    · obtain ⟨i, hil, hpi, hlead⟩ := (HPK.out ps[m2]).1 (List.getElem_mem hlm)
                      obtain ⟨Ak', ck', hvk', hrowk⟩ := hQ.from_.row hkv hkx
                      obtain ⟨rfl, rfl⟩ : Ak = Ak' ∧ ck = ck' := by
                        rw [HVK.out] at hvk'
                        injection hvk' with h1 h2 h3
                        exact ⟨h1, h3⟩
                      rw [HPS.out] at hrowk
                      obtain ⟨bk, ok, rfl, hbk, ck0⟩ := hrowk.i64 hlm
                      rw [hpi] at ck0
                      obtain ⟨bi, oi, Adi, cdi, Asi, csi, Ani, cni, Api, cpi, hA, hbli, hrepi, hcsi⟩ := HO.out.ten hil
                      obtain ⟨rfl, rfl⟩ : bb = bi ∧ oo = oi := by simpa using hA
                      obtain ⟨-, e1, -⟩ := hcsi wr hQ.below
                      obtain ⟨Adx, cdx, Asx, csx, Anx, cnx, Apx, cpx, hcsx, hDi, -, -, -, hdli, -⟩ := hrepi.ten
                      obtain ⟨rfl, rfl⟩ : Adi = Adx ∧ cdi = cdx := by
                        simp only [List.cons.injEq, Value.slice.injEq] at hcsx
                        exact ⟨hcsx.2.1.1, hcsx.2.1.2.2⟩
                      have HMSi : i < ms.length := by rw [HMS.out]; exact hil
                      have hm0 : (0 : Int) ≤ (m2 : Int) := by omega
                      have hm1' : (m2 : Int) < (ps.length : Int) := by omega
                      have hm3 : (m2 : Int) < 12000 := by omega
                      have hi0 : (0 : Int) ≤ (i : Int) := by omega
                      have hi1 : (i : Int) < (b.code.length : Int) := by omega
                      have y8 : wr.cell? ⟨w.heap.size, 8, none⟩ = some (.slice (some ⟨bb, oo, none⟩) b.code.length c) := hQ.body.cell 8 _ rfl
                      have hlHr := hQ.body.lt
                      have x0 := hbx.cell 0 (.int .i64 x1) rfl
                      have HCT : Hid (∀ n, Calls Try.prog 38 #[.slice Adi b.code[i].d.length cdi, .int .i64 x1] (wr.drewN n) fun e w' => e = .returned (.bool (b.code[i].d.contains x1)) ∧ w' = wr.drewN n) := fun n => containsI_any Adi cdi _ x1 _ ((Row.keep hDi hQ.below).keep (Below.drewN_ (Below.refl _ _) n)) hdli
                      have HDN : Hid (∀ M : Nat → Int → Bool, (∀ i y, L i y = true → M i y = true) → (x1 ∉ b.code[i].d → M i x1 = true) → ∀ q (h : q < ps.length), q < m2 + 1 → ∀ i (hi : i < b.code.length), ps[q] = (i : Int) → x1 ∉ b.code[i].d → M i x1 = true) := fun M h1 h2 q hq hqm i' hi' he hd => by
                        rcases Nat.lt_or_ge q m2 with h3 | h3
                        · exact h1 _ _ (hdone q hq h3 i' hi' he hd)
                        · obtain rfl : q = m2 := by omega
                          obtain rfl : i' = i := by rw [hpi] at he; omega
                          exact h2 hd
                      have HMEM : Hid (b.code[i].d.contains x1 = false → x1 ∉ b.code[i].d) := fun h hm => by rw [List.contains_iff_mem.2 hm] at h; cases h
                      have HMEM2 : Hid (b.code[i].d.contains x1 = true → x1 ∈ b.code[i].d) := fun h => List.contains_iff_mem.1 h
                      have HSTP : Hid (x1 ∉ b.code[i].d → LiveP b.code i x1) := fun hd => LiveP.step hil hlead (hinv.sound _ _ hLk) hd
                      have HI4 := Lib.hid hinv
                      have HQ4 := Lib.hid hQ
                      have HBX := Lib.hid hbx
                      have HWFX := Lib.hid hwf
                      have HLK := Lib.hid hLk
                      unfold maxLen at hdli
                      clear hinv hQ hdone hbx hwf hLk hrepi hcsi hA hcsx hDi hrowk hlead hpi hvk'
                      generalize b.code[i].d = dd at *
                      obtain ⟨ct, hct⟩ : ∃ ct, dd.contains x1 = ct := ⟨_, rfl⟩
                      rw [hct] at HCT HMEM HMEM2
                      clear hct
                      cases ct
                      · have hnd := HMEM.out rfl
                        have HND := Lib.hid hnd
                        clear hnd
                        go_wp2
                        go_quiet ((go_at_call 38; exact Calls.quiet_of_same (HCT.out _)))
                        have bq : Below wr.heap.size wr (wr.drewN nq) := Below.drewN_ (Below.refl _ _) nq
                        have hQ5 := HQ4.out.keep bq
                        have hbx5 := HBX.out.below bq
                        have hwf5 : WorkFree (wr.drewN nq) Bw bx := HWFX.out
                        have x05 := hbx5.cell 0 (.int .i64 x1) rfl
                        generalize wr.drewN nq = w7 at *
                        have HB : Hid (Calls Try.prog 60 #[.int .i64 x1, .int .i64 (i : Int), .pointer (some ⟨w.heap.size + 1 + 1, 0, none⟩), .pointer (some ⟨Bw, 0, none⟩)] w7 (BackOut w.heap.size regs ms L W Bw x1 i w7)) :=
                          back_any w.heap.size regs ms L W (w.heap.size + 1 + 1) (w.heap.size + 1) Bw x1 i w7 hr8 HMSi (by rw [HMS.out]; exact hlen) hx10 hx11 (hQ5.small hlen hr8) hQ5.ins hQ5.maps hQ5.work hQ5.bw (Nat.le_of_lt hQ5.body.lt)
                        have HQ5 := Lib.hid hQ5
                        have HBX5 := Lib.hid hbx5
                        have HWF5 := Lib.hid hwf5
                        clear hQ5 hbx5 hwf5 HQ4 HBX HWFX bq y8 e1 ck0 x0
                        go_wp2_with fail
                        (refine (HB.out).mono ?_; rintro e w8 ⟨rfl, ⟨hL, rfl⟩ | ⟨hL, hM, hW, hK, hB, hS⟩⟩)
                        · have HDD := Lib.hid (HDN.out L (fun _ _ h => h) (fun _ => hL))
                          clear hL HDN
                          go_wp2
                          go_roundw
                          case rel => exact ⟨m2 + 1, L, W, by omega, by go_num, hgk2, HI4.out, HDD.out, HQ5.out, HBX5.out, HWF5.out, HLK.out⟩
                          case measure => (first | (simp [intOf]; done) | (simp [intOf]; omega))
                        · have HDD := Lib.hid (HDN.out (updL L i x1) (fun _ _ h => updL_up h) (fun _ => updL_at L i x1))
                          have HI5 := Lib.hid (HI4.out.put (HSTP.out HND.out))
                          have HQ6 := Lib.hid (HQ5.out.back hil hx10 hx11 hL hM hW hK hB)
                          obtain ⟨hbx6, hwf6⟩ := hS bx _ HWF5.out HBX5.out
                          have HBX6 := Lib.hid hbx6
                          have HWF6 := Lib.hid hwf6
                          have hcp := cntL_put hil hx10 hx11 hL
                          have hcl := cntL_le b.code.length regs (updL L i x1)
                          have hgk3 : 2 * (b.code.length * regs - cntL b.code.length regs (updL L i x1)) + (W ++ [(x1, (i : Int))]).length < gk := by
                            rw [List.length_append, List.length_singleton]
                            omega
                          have HG3 := Lib.hid hgk3
                          have HLK3 := Lib.hid (updL_up (i := i) (x := x1) HLK.out)
                          clear hL hM hW hK hB hS HDN hbx6 hwf6 hcp hcl hgk3
                          go_wp2
                          go_roundw
                          case rel => exact ⟨m2 + 1, _, _, by omega, by go_num, HG3.out, HI5.out, HDD.out, HQ6.out, HBX6.out, HWF6.out, HLK3.out⟩
                          case measure => (first | (simp [intOf]; done) | (simp [intOf]; omega))
                      · have HDD := Lib.hid (HDN.out L (fun _ _ h => h) (fun h => absurd (HMEM2.out rfl) h))
                        clear HDN
                        go_wp2
                        go_quiet ((go_at_call 38; exact Calls.quiet_of_same (HCT.out _)))
                        have bq : Below wr.heap.size wr (wr.drewN nq) := Below.drewN_ (Below.refl _ _) nq
                        have HQ5 := Lib.hid (HQ4.out.keep bq)
                        have HBX5 := Lib.hid (HBX.out.below bq)
                        have HWF5 : Hid (WorkFree (wr.drewN nq) Bw bx) := HWFX.out
                        clear bq
                        go_wp2
                        go_roundw
                        case rel => exact ⟨m2 + 1, L, W, by omega, by go_num, hgk2, HI4.out, HDD.out, HQ5.out, HBX5.out, HWF5.out, HLK.out⟩
                        case measure => (first | (simp [intOf]; done) | (simp [intOf]; omega))
                    · have hm3 : ¬ (m2 : Int) < (ps.length : Int) := by omega
                      have hdn : LInv b.code L W [] (j + 1) := hinv.done (fun i hi hl hd => by
                        have hmem := (HPK.out (i : Int)).2 ⟨i, hi, rfl, hl⟩
                        obtain ⟨q, hq, he⟩ := List.getElem_of_mem hmem
                        exact hdone q hq (by omega) i hi he hd)
                      have HDD := Lib.hid hdn
                      have HQ5 := Lib.hid hQ
                      clear hinv hdone hQ hbx hwf hLk hdn
                      go_wp2
                      go_roundg (2 * (b.code.length * regs - cntL b.code.length regs L) + W.length)
                      case measure => exact hgk2
                      case rel => exact ⟨L, W, Nat.le_refl _, HDD.out, HQ5.out⟩
        · have hj1 : ¬ (j : Int) < (b.code.length : Int) := by omega
          obtain rfl : j = b.code.length := by omega
          have hall : L = liveB b.code := by funext i r; exact hinv.all i r
          subst hall
          have z0 : wr.cell? ⟨w.heap.size + 1 + 1, 0, none⟩ = some (.slice (some ⟨w.heap.size + 1, 0, none⟩) ms.length ms.length) := hQ.ins.1.cell 0 _ rfl
          rw [HMS.out] at z0
          have HQ := Lib.hid hQ
          clear hinv hQ
          go_wp2
          go_ret
          exact ⟨w.heap.size + 1, ms, regs, HRG.out, rfl, HMS.out, HQ.out.ins.2, HQ.out.maps, HQ.out.below⟩
end Go.Proofs.Ytkkjkbljgaipcaa
