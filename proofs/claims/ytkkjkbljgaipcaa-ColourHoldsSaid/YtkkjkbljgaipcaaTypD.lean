/- The contract of types.size. -/
import Derived.Test.YtkkjkbljgaipcaaTypC
import Derived.Shelf.RegionOpen
import Derived.RegionIn
namespace Go.Proofs.Ytkkjkbljgaipcaa
open Go.RowKit Go.Shelf
set_option linter.unusedVariables false
set_option linter.unusedSimpArgs false
set_option maxRecDepth 100000
set_option maxHeartbeats 2000000
attribute [local go_sem] Oper.semAt_some
theorem fin_take {m k : Nat} (h : k < m) : (List.finRange m).take k ++ [⟨k, h⟩] = (List.finRange m).take (k + 1) := by
  rw [List.take_succ_eq_append_getElem (by simpa using h)]
  simp
theorem laid_stops (n Bn : Nat) (w0 : World) (A : Option Addr) (c : Nat) (ps : List Ty) (hS : ∀ p ∈ ps, Sized p) (hm : ∀ p ∈ ps, (sizeT p).1 ≤ 12) (hl : ps.length ≤ 7) (w : World)
    (hw : Below w0.heap.size w0 w) (hBn : Bn < w.heap.size) (hB : w.cell? ⟨Bn, 3, none⟩ = some (.slice A ps.length c)) (hA : RepL w0 ps A) :
    SeqStopsK Fence.wide n Try.prog 99 #[.pointer (some ⟨Bn, 0, none⟩)] (fun x : Fin ps.length => #[Value.int .i64 (x.1 : Int), Value.int .i64 (plcZ (ps.map sizeT) x.1 : Int)]) (Below w0.heap.size)
      (fun ys => ys = List.finRange ps.length) (fun pre => ∃ k, k ≤ ps.length ∧ pre = (List.finRange ps.length).take k) ps.length w := fun l J Jx W hW hJ hJx hY h0 => by
  refine (laid1_in n l Bn w0 A c ps hS hm hl (fun k => J ((List.finRange ps.length).take k)) (fun k => Jx ((List.finRange ps.length).take k)) W (hw.trans (hW.mono hw.size))
    (fun s A B row hs hg hr => hJ _ A B row hs hg hr) (fun s A B row hs hg hr => hJx _ A B row hs hg hr) ?_ ((hW.cell (p := ⟨Bn, 3, none⟩) hBn).trans hB) hA (by simpa using h0)).mono ?_
  · intro k W1 hk hlt
    have := hY _ ⟨k, hlt⟩ W1 hk (by simp; omega)
    rw [fin_take] at this
    exact this
  · rintro e W' ⟨he, h | ⟨k, hk, h⟩⟩
    · exact ⟨he, .inl ⟨_, rfl, by
        have e1 : (List.finRange ps.length).take ps.length = List.finRange ps.length := List.take_of_length_le (by simp)
        rw [e1] at h
        exact h⟩⟩
    · exact ⟨he, .inr ⟨_, ⟨k, hk, rfl⟩, h⟩⟩
def nF (zs : List (Nat × Bool)) {m : Nat} (pre : List (Fin m)) : Nat := (pre.getLast?).elim 0 fun x => plcZ zs x.1 + (zs.getD x.1 (0, false)).1
def evF (zs : List (Nat × Bool)) {m : Nat} (pre : List (Fin m)) : Bool := pre.any fun x => (zs.getD x.1 (0, false)).2
theorem nF_snoc (zs : List (Nat × Bool)) {m : Nat} (pre : List (Fin m)) (x : Fin m) : nF zs (pre ++ [x]) = plcZ zs x.1 + (zs.getD x.1 (0, false)).1 := by simp [nF]
theorem evF_snoc (zs : List (Nat × Bool)) {m : Nat} (pre : List (Fin m)) (x : Fin m) : evF zs (pre ++ [x]) = (evF zs pre || (zs.getD x.1 (0, false)).2) := by simp [evF]
theorem nF_all (zs : List (Nat × Bool)) : nF zs (List.finRange zs.length) = endZ zs zs.length := by
  rcases hz : zs.length with _ | m
  · rfl
  · have h := fin_take (m := m + 1) (k := m) (Nat.lt_succ_self m)
    have e1 : (List.finRange (m + 1)).take (m + 1) = List.finRange (m + 1) := List.take_of_length_le (by simp)
    rw [e1] at h
    rw [← h, nF_snoc]
    rfl
theorem evF_all (zs : List (Nat × Bool)) : evF zs (List.finRange zs.length) = zs.any (·.2) := by
  unfold evF
  rw [Bool.eq_iff_iff, List.any_eq_true, List.any_eq_true]
  constructor
  · rintro ⟨x, -, hx⟩
    exact ⟨zs[x.1], List.getElem_mem x.2, by simpa using hx⟩
  · rintro ⟨y, hy, h⟩
    obtain ⟨j, hj, rfl⟩ := List.getElem_of_mem hy
    exact ⟨⟨j, hj⟩, List.mem_finRange _, by simpa [hj] using h⟩
theorem size_long (T : Ty) (h : T.k = 2) : Sized T := by
  intro cs w hr
  obtain ⟨An, cn, Ap, cp, rfl, h1, h2⟩ := hr.five
  rw [sizeT_eq, if_pos h, h]
  go_enter Try.func71, Try.ntmps71
  go_wp2
  go_ret2
  exact ⟨rfl, by (repeat (first | with_reducible assumption | with_reducible exact Below.refl _ _ | (refine Below.setCell ?_ (by first | omega | (simp; done) | (simp; omega)) _) | (refine Below.drewN_ ?_ _) | (refine Below.drew ?_) | (refine Below.alloc ?_ (by first | omega | (simp; done) | (simp; omega)) _)))⟩
theorem size_other (T : Ty) (h2 : T.k ≠ 2) (h3 : T.k ≠ 3) : Sized T := by
  intro cs w hr
  obtain ⟨An, cn, Ap, cp, rfl, -, -⟩ := hr.five
  rw [sizeT_eq, if_neg h2, if_neg h3]
  have d2 : (T.k == 2) = false := by simpa using h2
  have d3 : (T.k == 3) = false := by simpa using h3
  go_enter Try.func71, Try.ntmps71
  go_wp2
  go_ret2
  exact ⟨rfl, by (repeat (first | with_reducible assumption | with_reducible exact Below.refl _ _ | (refine Below.setCell ?_ (by first | omega | (simp; done) | (simp; omega)) _) | (refine Below.drewN_ ?_ _) | (refine Below.drew ?_) | (refine Below.alloc ?_ (by first | omega | (simp; done) | (simp; omega)) _)))⟩
theorem size_struct (T : Ty) (h3 : T.k = 3) (hl : T.ps.length ≤ 7) (hS : ∀ p ∈ T.ps, Sized p) (hm : ∀ p ∈ T.ps, (sizeT p).1 ≤ 12) : Sized T := by
  intro cs w hr
  obtain ⟨An, cn, Ap, cp, rfl, hN, hP⟩ := hr.five
  rw [sizeT_eq, if_neg (by omega), if_pos h3, h3]
  generalize hSZ : sizeZ (T.ps.map sizeT) = S
  refine (callsIn_wide (n := 10)).1 ?_
  refine callsIn_of_wp_marks Try.func71 rfl trivial ?_ rfl
  simp only [Try.ntmps71, List.size_toArray, List.length_cons, List.length_nil, Nat.reduceAdd, Nat.reduceSub, Array.replicate_succ, Array.replicate_zero, List.push_toArray, List.append_toArray, List.nil_append, List.cons_append]
  gi_wp2_with (refine ⟨trivial, ?_⟩; gi_at_call 91; refine (callsIn_wide.2 (laid_any _ _ _ _ _ _)).mono ?_; rintro e w' ⟨rfl, rfl⟩)
  have hb0 : Below w.heap.size w ((((w.alloc (.cells #[Value.int .i64 3, Value.string T.nm, Value.slice An T.ns.length cn, Value.slice Ap T.ps.length cp, Value.bool T.many] 25)).alloc (.cells #[.int .i64 0] 3)).alloc (.cells #[.bool false] 4)).alloc (.cells #[Value.int .i64 3, Value.string T.nm, Value.slice An T.ns.length cn, Value.slice Ap T.ps.length cp, Value.bool T.many] 25)) := by (repeat (first | with_reducible assumption | with_reducible exact Below.refl _ _ | (refine Below.setCell ?_ (by first | omega | (simp; done) | (simp; omega)) _) | (refine Below.drewN_ ?_ _) | (refine Below.drew ?_) | (refine Below.alloc ?_ (by first | omega | (simp; done) | (simp; omega)) _)))
  have x1 : ((((w.alloc (.cells #[Value.int .i64 3, Value.string T.nm, Value.slice An T.ns.length cn, Value.slice Ap T.ps.length cp, Value.bool T.many] 25)).alloc (.cells #[.int .i64 0] 3)).alloc (.cells #[.bool false] 4)).alloc (.cells #[Value.int .i64 3, Value.string T.nm, Value.slice An T.ns.length cn, Value.slice Ap T.ps.length cp, Value.bool T.many] 25)).cell? ⟨w.heap.size + 1, 0, none⟩ = some (.int .i64 0) := by go_simp
  have x2 : ((((w.alloc (.cells #[Value.int .i64 3, Value.string T.nm, Value.slice An T.ns.length cn, Value.slice Ap T.ps.length cp, Value.bool T.many] 25)).alloc (.cells #[.int .i64 0] 3)).alloc (.cells #[.bool false] 4)).alloc (.cells #[Value.int .i64 3, Value.string T.nm, Value.slice An T.ns.length cn, Value.slice Ap T.ps.length cp, Value.bool T.many] 25)).cell? ⟨w.heap.size + 2, 0, none⟩ = some (.bool false) := by go_simp
  have x3 : ((((w.alloc (.cells #[Value.int .i64 3, Value.string T.nm, Value.slice An T.ns.length cn, Value.slice Ap T.ps.length cp, Value.bool T.many] 25)).alloc (.cells #[.int .i64 0] 3)).alloc (.cells #[.bool false] 4)).alloc (.cells #[Value.int .i64 3, Value.string T.nm, Value.slice An T.ns.length cn, Value.slice Ap T.ps.length cp, Value.bool T.many] 25)).cell? ⟨w.heap.size, 3, none⟩ = some (.slice Ap T.ps.length cp) := by go_simp
  have x4 : ((((w.alloc (.cells #[Value.int .i64 3, Value.string T.nm, Value.slice An T.ns.length cn, Value.slice Ap T.ps.length cp, Value.bool T.many] 25)).alloc (.cells #[.int .i64 0] 3)).alloc (.cells #[.bool false] 4)).alloc (.cells #[Value.int .i64 3, Value.string T.nm, Value.slice An T.ns.length cn, Value.slice Ap T.ps.length cp, Value.bool T.many] 25)).cell? ⟨w.heap.size + 3, 3, none⟩ = some (.slice Ap T.ps.length cp) := by go_simp
  have f1 : ((((w.alloc (.cells #[Value.int .i64 3, Value.string T.nm, Value.slice An T.ns.length cn, Value.slice Ap T.ps.length cp, Value.bool T.many] 25)).alloc (.cells #[.int .i64 0] 3)).alloc (.cells #[.bool false] 4)).alloc (.cells #[Value.int .i64 3, Value.string T.nm, Value.slice An T.ns.length cn, Value.slice Ap T.ps.length cp, Value.bool T.many] 25)).frozen? ⟨w.heap.size + 1, 0, none⟩ = false := by go_simp
  have f2 : ((((w.alloc (.cells #[Value.int .i64 3, Value.string T.nm, Value.slice An T.ns.length cn, Value.slice Ap T.ps.length cp, Value.bool T.many] 25)).alloc (.cells #[.int .i64 0] 3)).alloc (.cells #[.bool false] 4)).alloc (.cells #[Value.int .i64 3, Value.string T.nm, Value.slice An T.ns.length cn, Value.slice Ap T.ps.length cp, Value.bool T.many] 25)).frozen? ⟨w.heap.size + 2, 0, none⟩ = false := by go_simp
  have hs0 : ((((w.alloc (.cells #[Value.int .i64 3, Value.string T.nm, Value.slice An T.ns.length cn, Value.slice Ap T.ps.length cp, Value.bool T.many] 25)).alloc (.cells #[.int .i64 0] 3)).alloc (.cells #[.bool false] 4)).alloc (.cells #[Value.int .i64 3, Value.string T.nm, Value.slice An T.ns.length cn, Value.slice Ap T.ps.length cp, Value.bool T.many] 25)).heap.size = w.heap.size + 4 := by simp
  generalize hW0 : ((((w.alloc (.cells #[Value.int .i64 3, Value.string T.nm, Value.slice An T.ns.length cn, Value.slice Ap T.ps.length cp, Value.bool T.many] 25)).alloc (.cells #[.int .i64 0] 3)).alloc (.cells #[.bool false] 4)).alloc (.cells #[Value.int .i64 3, Value.string T.nm, Value.slice An T.ns.length cn, Value.slice Ap T.ps.length cp, Value.bool T.many] 25)) = W0 at *
  refine wpIn_rangeFunc_ownF rfl (by omega) (gf := 99) (lb := #[.pointer (some ⟨w.heap.size + 1 + 1 + 1, 0, none⟩)]) rfl trivial (enters_of Try.func99 (by kernel_rfl) rfl)
    (laid_stops 9 (w.heap.size + 3) w Ap cp T.ps hS hm hl W0 hb0 (by omega) x4 hP) belowK_t (belowK_b (by omega)) (Below.refl _ _) (fun _ => rfl)
    (fun pre W => (((W.cell? ⟨w.heap.size + 1, 0, none⟩ = some (.int .i64 (nF (T.ps.map sizeT) pre)) ∧ W.frozen? ⟨w.heap.size + 1, 0, none⟩ = false) ∧ (W.cell? ⟨w.heap.size + 2, 0, none⟩ = some (.bool (evF (T.ps.map sizeT) pre)) ∧ W.frozen? ⟨w.heap.size + 2, 0, none⟩ = false)) ∧ W.cell? ⟨w.heap.size, 3, none⟩ = some (.slice Ap T.ps.length cp)) ∧ Below w.heap.size w W)
    (fun _ _ _ => False)
    (OwnFrom.and (Own.from (fun s A B row hs hg hr => ⟨⟨⟨cell_kept hs.1.1.1 hg hr, (frozen_kept hs.1.1.1 hg hr).trans hs.1.1.2⟩, ⟨cell_kept hs.1.2.1 hg hr, (frozen_kept hs.1.2.1 hg hr).trans hs.1.2.2⟩⟩, cell_kept hs.2 hg hr⟩) _) (ownFrom_below (Nat.le_refl _) (by omega)))
    (fun _ _ _ _ _ hs _ _ => hs)
    ⟨⟨⟨⟨x1, f1⟩, ⟨x2, f2⟩⟩, x3⟩, hb0⟩
    (fun x => { tmps := #[.agg #[Value.int .i64 3, Value.string T.nm, Value.slice An T.ns.length cn, Value.slice Ap T.ps.length cp, Value.bool T.many], .pointer (some ⟨w.heap.size, 0, none⟩), .int .i64 0, .bool false, .pointer (some ⟨w.heap.size + 1, 0, none⟩), .pointer (some ⟨w.heap.size + 1 + 1, 0, none⟩), .int .i64 (x.1 : Int), .int .i64 (plcZ (T.ps.map sizeT) x.1 : Int), undef, undef,
      .pointer (some ⟨w.heap.size, 0, none⟩), .int .i64 3, .bool false, .bool false, .bool true, .bool true, .agg #[Value.int .i64 3, Value.string T.nm, Value.slice An T.ns.length cn, Value.slice Ap T.ps.length cp, Value.bool T.many], .func (.func 99) #[] #[.pointer (some ⟨w.heap.size + 1 + 1 + 1, 0, none⟩)], .int .i64 (x.1 : Int), .int .i64 (plcZ (T.ps.map sizeT) x.1 : Int),
      undef, undef, undef, undef, undef, undef, undef, undef, undef, undef, undef, undef, undef, undef, undef, undef, undef, undef, undef, undef, undef, undef, undef], defers := [] }) ?assign ?body ?done ?stop
  case assign =>
    intro l x W K hK
    gi_wp2
    exact hK
  case body =>
    rintro l pre x W ⟨⟨⟨⟨y1, g1⟩, ⟨y2, g2⟩⟩, y3⟩, hB⟩ _
    dsimp only
    obtain ⟨k, hlt⟩ := x
    dsimp only
    obtain ⟨b, o, cs, rfl, hbl, hc, hrep0⟩ := RepL.at_ T.ps _ (RepL.keep hB T.ps _ hP) k hlt
    obtain ⟨b', o', -, hA', hb', -, -⟩ := RepL.at_ T.ps _ hP k hlt
    obtain ⟨rfl, rfl⟩ : b = b' ∧ o = o' := by simpa using hA'
    clear hA'
    have hrep := hrep0
    obtain ⟨An', cn', Ap', cp', rfl, -, -⟩ := hrep.five
    have c0 := hc 0 _ rfl
    have c1 := hc 1 _ rfl
    have c2 := hc 2 _ rfl
    have c3 := hc 3 _ rfl
    have c4 := hc 4 _ rfl
    rw [Nat.add_zero] at c0
    have hSk := hS _ (List.getElem_mem hlt)
    have hmk := hm _ (List.getElem_mem hlt)
    have hz : (T.ps.map sizeT).getD k (0, false) = sizeT T.ps[k] := by simp [hlt]
    have hn1 := nF_snoc (T.ps.map sizeT) pre ⟨k, hlt⟩
    have he1 := evF_snoc (T.ps.map sizeT) pre ⟨k, hlt⟩
    have hi : (k : Int) < (T.ps.length : Int) := by omega
    dsimp only at hn1 he1
    rw [hz] at hn1 he1
    have hE : plcZ (T.ps.map sizeT) k ≤ 92 := by
      have := endZ_le (T.ps.map sizeT) 12 (fun j => by
        by_cases hj : j < T.ps.length
        · simp [hj]
          exact hm _ (List.getElem_mem hj)
        · simp [hj]) k
      unfold plcZ
      split <;> omega
    clear hc hz x1 x2 x3 x4 f1 f2 hb0 hW0 hN hS hm hr
    generalize hps : T.ps[k] = p at *
    generalize nF (T.ps.map sizeT) pre = n0 at *
    generalize hqq : plcZ (T.ps.map sizeT) k = q at *
    generalize evF (T.ps.map sizeT) pre = e0 at *
    rcases hzz : sizeT p with ⟨z, ev⟩
    rw [hzz] at hn1 he1 hmk
    dsimp only at hn1 he1 hmk
    gi_wp2_with fail
    refine ⟨trivial, ?_⟩
    refine (CallsIn.inRound l (callsIn_wide.2 (hSk _ _ hrep))).mono ?_
    rintro e w2 ⟨rfl, hb2⟩
    have z1 := (hb2.cell (p := ⟨w.heap.size + 1, 0, none⟩) (World.block_lt_of_cell? W _ y1)).trans y1
    have z2 := (hb2.cell (p := ⟨w.heap.size + 2, 0, none⟩) (World.block_lt_of_cell? W _ y2)).trans y2
    have z3 := (hb2.cell (p := ⟨w.heap.size, 3, none⟩) (World.block_lt_of_cell? W _ y3)).trans y3
    have k1 := (hb2.frozen (p := ⟨w.heap.size + 1, 0, none⟩) (World.block_lt_of_cell? W _ y1)).trans g1
    have k2 := (hb2.frozen (p := ⟨w.heap.size + 2, 0, none⟩) (World.block_lt_of_cell? W _ y2)).trans g2
    have hko : KeepsOthers W w2 := KeepsOthers.of_grownBy (grown_of hb2) (fun j o h => by cases h)
    have hbw : Below w.heap.size W w2 := hb2.mono hB.size
    clear hb2 c0 c1 c2 c3 c4 y1 y2 y3 g1 g2 hrep hrep0 hSk hP hqq
    rw [hzz]
    cases e0
    · gi_wp2
      refine ⟨(hko.trans (KeepsOthers.setCell _ _ _)).trans (KeepsOthers.setCell _ _ _), (hbw.setCell (p := ⟨w.heap.size + 1, 0, none⟩) (by simp) _).setCell (p := ⟨w.heap.size + 1 + 1, 0, none⟩) (by simp; omega) _, ?_,
        ((hB.trans hbw).setCell (p := ⟨w.heap.size + 1, 0, none⟩) (by simp) _).setCell (p := ⟨w.heap.size + 1 + 1, 0, none⟩) (by simp; omega) _⟩
      rw [hn1, he1]
      refine ⟨⟨⟨?_, ?_⟩, ⟨?_, ?_⟩⟩, ?_⟩
      · go_simp
      · go_simp
      · go_simp
      · go_simp
      · go_simp
    · gi_wp2
      refine ⟨(hko.trans (KeepsOthers.setCell _ _ _)).trans (KeepsOthers.setCell _ _ _), (hbw.setCell (p := ⟨w.heap.size + 1, 0, none⟩) (by simp) _).setCell (p := ⟨w.heap.size + 1 + 1, 0, none⟩) (by simp; omega) _, ?_,
        ((hB.trans hbw).setCell (p := ⟨w.heap.size + 1, 0, none⟩) (by simp) _).setCell (p := ⟨w.heap.size + 1 + 1, 0, none⟩) (by simp; omega) _⟩
      rw [hn1, he1]
      refine ⟨⟨⟨?_, ?_⟩, ⟨?_, ?_⟩⟩, ?_⟩
      · go_simp
      · go_simp
      · go_simp
      · go_simp
      · go_simp
  case done =>
    rintro D ys W hD rfl ⟨⟨⟨⟨y1, g1⟩, ⟨y2, g2⟩⟩, y3⟩, hB⟩ hK
    have hal : nF (T.ps.map sizeT) (List.finRange T.ps.length) = endZ (T.ps.map sizeT) (T.ps.map sizeT).length := by
      have : ∀ m, m = (T.ps.map sizeT).length → nF (T.ps.map sizeT) (List.finRange m) = endZ (T.ps.map sizeT) (T.ps.map sizeT).length := fun m e => by subst e; exact nF_all _
      exact this _ (by simp)
    have hev : evF (T.ps.map sizeT) (List.finRange T.ps.length) = (T.ps.map sizeT).any (·.2) := by
      have : ∀ m, m = (T.ps.map sizeT).length → evF (T.ps.map sizeT) (List.finRange m) = (T.ps.map sizeT).any (·.2) := fun m e => by subst e; exact evF_all _
      exact this _ (by simp)
    have hsz : S = (if (T.ps.map sizeT).any (·.2) then endZ (T.ps.map sizeT) (T.ps.map sizeT).length + endZ (T.ps.map sizeT) (T.ps.map sizeT).length % 2 else endZ (T.ps.map sizeT) (T.ps.map sizeT).length, (T.ps.map sizeT).any (·.2)) := hSZ.symm
    have hE : endZ (T.ps.map sizeT) (T.ps.map sizeT).length ≤ 91 := by
      have := endZ_le (T.ps.map sizeT) 12 (fun j => by
        by_cases hj : j < T.ps.length
        · simp [hj]
          exact hm _ (List.getElem_mem hj)
        · simp [hj]) (T.ps.map sizeT).length
      simp only [List.length_map] at this ⊢
      omega
    rw [hal] at y1
    rw [hev] at y2
    clear hSZ hal hev hW0 x1 x2 x3 x4 f1 f2 hb0 hr hN hP hS hm y3
    generalize endZ (T.ps.map sizeT) (T.ps.map sizeT).length = E at *
    generalize (T.ps.map sizeT).any (·.2) = ev at *
    subst hsz
    cases ev
    · gi_wp2
      gi_region
      all_goals gi_wp2
      refine ⟨by simp, .inl ⟨_, _, rfl, run_takeDeferred (w := W.drew) hK, ?_⟩⟩
      refine ⟨.tuple #[.int .i64 (E : Int), .bool false], by simp [results, Try.f71, go_sem], rfl, ?_⟩
      exact hB.drew.trans (belowK_b (w := w) (Nat.le_refl _) W.drew D _ _ (by omega) hK rfl rfl)
    · have hK' := (KeepsOthers.setCell W ⟨w.heap.size + 1, 0, none⟩ (.int .i64 ((E : Int) + (E : Int) % 2))).same D _ hK rfl
      have hB' := hB.setCell (p := ⟨w.heap.size + 1, 0, none⟩) (by simp) (.int .i64 ((E : Int) + (E : Int) % 2))
      gi_wp2
      gi_region
      all_goals gi_wp2
      refine ⟨by simp, .inl ⟨_, _, rfl, run_takeDeferred (w := (W.setCell ⟨w.heap.size + 1, 0, none⟩ (.int .i64 ((E : Int) + (E : Int) % 2))).drew) hK', ?_⟩⟩
      refine ⟨.tuple #[.int .i64 ((E : Int) + (E : Int) % 2), .bool true], by simp [results, Try.f71, go_sem], by simp, ?_⟩
      exact hB'.drew.trans (belowK_b (w := w) (Nat.le_refl _) (W.setCell ⟨w.heap.size + 1, 0, none⟩ (.int .i64 ((E : Int) + (E : Int) % 2))).drew D _ _ (by omega) hK' rfl rfl)
  case stop =>
    rintro D c pre W _ _ h _
    exact h.elim
end Go.Proofs.Ytkkjkbljgaipcaa
