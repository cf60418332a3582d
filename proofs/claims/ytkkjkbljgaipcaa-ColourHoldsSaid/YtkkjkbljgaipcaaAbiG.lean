/- The walk of the document's places. -/
import Derived.Test.YtkkjkbljgaipcaaAbiV
import Derived.Test.YtkkjkbljgaipcaaAbiQ
namespace Go.Proofs.Ytkkjkbljgaipcaa
open Go.RowKit
set_option linter.unusedVariables false
set_option linter.unusedSimpArgs false
set_option maxRecDepth 100000
set_option maxHeartbeats 6000000
def By9Rel (bs : List Ty) (w : World) (H : Nat) (ts ps : Array Value) (x i : Value) (wr : World) : Prop :=
  ∃ k : Nat, k ≤ bs.length ∧ i = .int .i64 k ∧ x = .int .i64 ((bsum (bs.take k) : Nat) : Int) ∧ (∀ j (h : j < bs.length), j < k → beyT bs[j] = true) ∧ Below w.heap.size w wr ∧ Blk wr H 25 ts ∧ Blk wr (H + 1) 67 ps
theorem bsum_leK (bs : List Ty) (k : Nat) (hk : k ≤ bs.length) (h : ∀ j (hj : j < bs.length), j < k → beyT bs[j] = true) : bsum (bs.take k) ≤ 2 * k := by
  induction k with
  | zero => simp [bsum]
  | succ k ih =>
    rw [bsum_take (by omega)]
    have h1 := ih (by omega) (fun j hj hlt => h j hj (by omega))
    have h2 := (bey_words (h k (by omega) (by omega))).2
    omega
theorem SlOk.last {w : World} {bad : Option Nat} : ∀ {vs : List Value} {ls : List (List Pl)} {v : Value} {l : List Pl}, SlOk w bad (vs ++ [v]) (ls ++ [l]) → vs.length = ls.length → ∃ A c, v = .slice A l.length c ∧ TRow w 52 A (lcs l)
  | [], [], _, _, h, _ => by obtain ⟨⟨A, c, h1, h2, _⟩, _⟩ := h; exact ⟨A, c, h1, h2⟩
  | _ :: vs, _ :: ls, _, _, h, hl => SlOk.last h.2 (by simpa using hl)
  | [], _ :: _, _, _, _, hl => by simp at hl
  | _ :: _, [], _, _, _, hl => by simp at hl
def Own3 (F : Option Addr → Nat → Option Addr → Nat → World → Prop) (had : List Pl) (vh : Value) (wx : World) : Prop := ∃ A3 c3 Ah ch, vh = .slice Ah had.length ch ∧ F A3 c3 Ah ch wx
def Pk9 (m : Nat) (T : Ty) (F : Nat → Option Addr → Nat → Option Addr → Nat → Option Addr → Nat → List Value → World → Prop) (vh i : Value) (wx : World) : Prop :=
  ∃ k : Nat, k ≤ m ∧ i = .int .i64 k ∧ ∃ A1 c1 A2 c2 Ah ch vs, vh = .slice Ah (hadK T k).length ch ∧ F k A1 c1 A2 c2 Ah ch vs wx
theorem abiR_go (T : Ty) (cs : List Value) (bs : List Ty) (Ab : Option Addr) (cb : Nat) (w : World) (hr : Rep w T cs) (h4 : T.k = 4) (hmy : may T = true) (hbs : RepL w bs Ab) (h6 : bs.length ≤ 6) (hx : 0 < bs.length → T.many = true) : Calls Try.prog 29 #[.agg cs.toArray, .slice Ab bs.length cb] w (PlOut T bs w) := by
  have he0 : Hid (¬ (T.k ≠ 4 ∨ may T = false) ∧ ¬ (6 < bs.length ∨ (0 < bs.length ∧ T.many = false))) := ⟨by simp [h4, hmy], by rintro (h | ⟨h, h'⟩); omega; rw [hx h] at h'; cases h'⟩
  have hr0 := hr
  obtain ⟨An, cn, Ap, cp, rfl, hN, hP⟩ := hr.five
  have hcap := hr.cap
  have hb0 : Below w.heap.size w ((w.alloc (.cells #[.int .i64 T.k, .string T.nm, .slice An T.ns.length cn, .slice Ap T.ps.length cp, .bool T.many] 25)).alloc (.cells zeroP 67)) := by (repeat (first | with_reducible assumption | with_reducible exact Below.refl _ _ | (refine Below.setCell ?_ (by first | omega | (simp; done) | (simp; omega)) _) | (refine Below.drewN_ ?_ _) | (refine Below.drew ?_) | (refine Below.alloc ?_ (by first | omega | (simp; done) | (simp; omega)) _)))
  have HR := Lib.hid (Rep.keep hb0 _ _ hr0)
  unfold zeroP at hb0 HR
  rw [h4] at hb0 HR ⊢
  have H4 := Lib.hid h4
  clear hr h4
  go_enter Try.func29, Try.ntmps29
  go_wp2_with fail
  refine (mayRef_any T _ _ HR.out).mono ?_
  rintro e w1 ⟨rfl, hb⟩
  rw [hmy]
  have b1 := hb0.trans (hb.mono hb0.size)
  have kr := (Blk.nxt1 w (.cells #[.int .i64 4, .string T.nm, .slice An T.ns.length cn, .slice Ap T.ps.length cp, .bool T.many] 25) 67 zeroP).below hb
  have kt := ((Blk.new_ w 25 #[.int .i64 4, .string T.nm, .slice An T.ns.length cn, .slice Ap T.ps.length cp, .bool T.many]).alloc (.cells zeroP 67)).below hb
  unfold zeroP at kr
  clear hb hb0 HR
  have q4 := kt.cell 4 _ rfl
  have h6' : ¬ (6 : Int) < (bs.length : Int) := by omega
  have HX := Lib.hid hx
  clear hx
  have hd6 : decide ((6 : Int) < (bs.length : Int)) = false := by simp; omega
  go_upto_region 3 with (fail)
  go_cut [40] from 19 to 40 (fun s wx => s = .bool false ∧ wx = w1)
  case first =>
    by_cases h0 : 0 < bs.length
    · have hmt := HX.out h0
      rw [hmt] at q4
      have h0' : (0 : Int) < (bs.length : Int) := by omega
      clear h0 hmt
      go_wp2_with fail
      go_meet
      exact ⟨rfl, rfl⟩
    · have h0' : ¬ (0 : Int) < (bs.length : Int) := by omega
      clear h0
      go_wp2_with fail
      go_meet
      exact ⟨rfl, rfl⟩
  case rest =>
    obtain ⟨rfl, rfl⟩ := hcut
    go_wp2
    go_loopw [6, 7, 8] (fun x i _ wr => By9Rel bs w w.heap.size #[.int .i64 4, .string T.nm, .slice An T.ns.length cn, .slice Ap T.ps.length cp, .bool T.many] #[.int .i64 0, .int .i64 0, .slice none 0 0, .slice none 0 0, .slice none 0 0, .int .i64 0, .int .i64 0] x i wr) (fun _ i _ _ => bs.length - (intOf i).toNat)
    case atStart => exact ⟨0, Nat.zero_le _, rfl, rfl, fun j _ h => absurd h (by omega), b1, kt, kr⟩
    case round =>
      clear kt kr b1 q4
      obtain ⟨k, hk, rfl, rfl, hg, hb, kt, kr⟩ := hrel
      by_cases hlt : k < bs.length
      · obtain ⟨b, o, An', cn', Ap', cp', rfl, hbl, hrep, hc⟩ := (RepL.keep hb bs _ hbs).five hlt
        have hi : (k : Int) < (bs.length : Int) := by omega
        have hk7 : (k : Int) < 7 := by omega
        have hs0 := bsum_leK bs k hk hg
        have HBT := Lib.hid (bsum_take hlt)
        have HG := Lib.hid hg
        clear hg
        have HBAD : Hid (beyT bs[k] = false → abiE T bs = 3) := fun h => by
          unfold abiE
          rw [if_neg he0.out.1, if_neg he0.out.2, if_neg]
          intro hall
          rw [List.all_eq_true.1 hall _ (List.getElem_mem hlt)] at h
          cases h
        have HOK : Hid (beyT bs[k] = true → ∀ j (h : j < bs.length), j < k + 1 → beyT bs[j] = true) := fun h0 j h hj => by
          rcases Nat.lt_or_ge j k with h1 | h1
          · exact HG.out j h h1
          · obtain rfl : j = k := by omega
            exact h0
        generalize bs[k] = p at *
        generalize bsum (bs.take k) = s0 at *
        have hsz := hb.size
        have hbA := Below.alloc (Below.refl wr.heap.size wr) (Nat.le_refl _) (.cells #[.int .i64 p.k, .string p.nm, .slice An' p.ns.length cn', .slice Ap' p.ps.length cp', .bool p.many] 25)
        have hrep2 := Rep.keep hbA _ _ hrep
        go_wp2_with fail
        refine (mayRef_any p _ _ hrep2).mono ?_
        rintro e w2 ⟨rfl, hb2⟩
        have b3 := (hb.alloc hsz (.cells #[.int .i64 p.k, .string p.nm, .slice An' p.ns.length cn', .slice Ap' p.ps.length cp', .bool p.many] 25)).trans (hb2.mono (by simp; omega))
        have kp := (Blk.new_ wr 25 #[.int .i64 p.k, .string p.nm, .slice An' p.ns.length cn', .slice Ap' p.ps.length cp', .bool p.many]).below hb2
        have kt2 := (kt.alloc (.cells #[.int .i64 p.k, .string p.nm, .slice An' p.ns.length cn', .slice Ap' p.ps.length cp', .bool p.many] 25)).below hb2
        have kr2 := (kr.alloc (.cells #[.int .i64 p.k, .string p.nm, .slice An' p.ns.length cn', .slice Ap' p.ps.length cp', .bool p.many] 25)).below hb2
        have hrep3 := Rep.keep hb2 _ _ hrep2
        have e0 := kp.cell 0 _ rfl
        have e1 := kp.cell 1 _ rfl
        have e2 := kp.cell 2 _ rfl
        have e3 := kp.cell 3 _ rfl
        have e4 := kp.cell 4 _ rfl
        clear hc kt kr hb2 hrep hrep2 hbA
        have kr := kr2
        rcases hpm : may p with _ | _
        · have he := Lib.hid (HBAD.out (by simp [beyT, hpm]))
          have f := fun i => kr.free i
          have d0 := kr.cell 0 _ rfl
          have d1 := kr.cell 1 _ rfl
          have d2 := kr.cell 2 _ rfl
          have d3 := kr.cell 3 _ rfl
          have d4 := kr.cell 4 _ rfl
          have d5 := kr.cell 5 _ rfl
          have d6 := kr.cell 6 _ rfl
          go_wp2
          have k2 := kr.set7 (.int .i64 0) (.int .i64 0) (.slice none 0 0) (.slice none 0 0) (.slice none 0 0) (.int .i64 0) (.int .i64 0)
          exact bodyPost_ret (results_places (by kernel_rfl) k2 rfl rfl) rfl (PlOut.bad he.out (by decide) (below_set7 b3 (by omega) _ _ _ _ _ _ _))
        · by_cases h2 : p.k ≤ 2
          · have hbey := bey_of hpm h2
            have hok := Lib.hid (HOK.out hbey)
            have HSZ := Lib.hid (sizeR_all 4 p hpm _ _ hrep3)
            have hw2 := (bey_words hbey).2
            have h2' : ¬ 2 < p.k := by omega
            clear hpm HBAD HOK hbey h2
            generalize (sizeT p).1 = sp at *
            go_wp2_with fail
            ((with_reducible refine (HSZ.out).mono ?_); rintro e w4 ⟨rfl, hb4⟩)
            have b5 := b3.trans (hb4.mono b3.size)
            have kt5 := kt2.below hb4
            have kr5 := kr.below hb4
            clear b3 hb4 kt2 kr kr2 e0 e1 e2 e3 e4 kp
            go_wp2
            go_roundw
            case rel => exact ⟨k + 1, by omega, by go_num, by rw [HBT.out]; go_num, hok.out, b5, kt5, kr5⟩
            case measure => (first | (simp [intOf]; done) | (simp [intOf]; omega))
          · have h2' : 2 < p.k := by omega
            have he := Lib.hid (HBAD.out (by
              have : beyT p = false := by
                unfold beyT
                have a1 : (p.k == 1) = false := by simpa using (by omega : ¬ p.k = 1)
                have a2 : (p.k == 2) = false := by simpa using (by omega : ¬ p.k = 2)
                rw [a1, a2]; simp
              exact this))
            have f := fun i => kr.free i
            have d0 := kr.cell 0 _ rfl
            have d1 := kr.cell 1 _ rfl
            have d2 := kr.cell 2 _ rfl
            have d3 := kr.cell 3 _ rfl
            have d4 := kr.cell 4 _ rfl
            have d5 := kr.cell 5 _ rfl
            have d6 := kr.cell 6 _ rfl
            go_wp2
            have k2 := kr.set7 (.int .i64 0) (.int .i64 0) (.slice none 0 0) (.slice none 0 0) (.slice none 0 0) (.int .i64 0) (.int .i64 0)
            exact bodyPost_ret (results_places (by kernel_rfl) k2 rfl rfl) rfl (PlOut.bad he.out (by decide) (below_set7 b3 (by omega) _ _ _ _ _ _ _))
      · have hi : ¬ (k : Int) < (bs.length : Int) := by omega
        obtain rfl : k = bs.length := by omega
        have he : Hid (abiE T bs = 0) := by
          show _ = _
          unfold abiE
          rw [if_neg he0.out.1, if_neg he0.out.2, if_pos]
          rw [List.all_eq_true]
          intro x hx
          obtain ⟨j, hj, rfl⟩ := List.getElem_of_mem hx
          exact hg j hj hj
        have hsb := bsum_leK bs bs.length hk hg
        clear hg
        rw [List.take_length] at hsb ⊢
        obtain ⟨sb, hsb0⟩ : ∃ sb, bsum bs = sb := ⟨_, rfl⟩
        rw [hsb0] at hsb ⊢
        have HSB := Lib.hid hsb0
        clear hsb0
        have q3 := kt.cell 3 _ rfl
        obtain ⟨m, hmm⟩ : ∃ m, T.ps.length = m + 1 := ⟨T.ps.length - 1, by have := List.length_pos_iff.2 (may_fn hmy H4.out).2.2.1; omega⟩
        have hmx := may_len hmy
        have hps := (may_fn hmy H4.out).2.2.2
        have hlast : lastT T = T.ps[m]'(by omega) := by
          unfold lastT
          have e : T.ps.length - 1 = m := by omega
          rw [e]
          simp [hmm]
        obtain ⟨b, o, An', cn', Ap', cp', rfl, hbl, hrep, hc⟩ := (RepL.keep hb T.ps _ hP).five (by omega : m < T.ps.length)
        rw [← hlast] at hrep hc
        have hmyl : mayT 3 (lastT T) = true := by rw [hlast]; exact hps _ (List.getElem_mem _)
        have hn1 := size_pos 3 _ hmyl
        have HHM := Lib.hid hmm
        have hm7 : (m : Int) < 7 := by omega
        have hmc : (m : Int) ≤ (cp : Int) := by omega
        have HSZ := sizeR_all 3 _ hmyl
        rw [hmm] at q3
        clear hmm hlast hmyl
        obtain ⟨w2, rfl⟩ : ∃ w2 : World, w2 = wr := ⟨_, rfl⟩
        have hltH := kt.lt
        have HLT1 := Lib.hid kr.lt
        have hszw := hb.size
        have X2 : Below w2.heap.size w2 (w2.alloc (.cells #[.int .i64 (-1), .int .i64 (-1), .slice none 0 0, .slice none 0 0, .slice none 0 0, .int .i64 0, .int .i64 0] 67)) := by (repeat (first | with_reducible assumption | with_reducible exact Below.refl _ _ | (refine Below.setCell ?_ (by first | omega | (simp; done) | (simp; omega)) _) | (refine Below.drewN_ ?_ _) | (refine Below.drew ?_) | (refine Below.alloc ?_ (by first | omega | (simp; done) | (simp; omega)) _)))
        have st0 : R9St w w.heap.size w2.heap.size #[.int .i64 4, .string T.nm, .slice An T.ns.length cn, .slice (some ⟨b, o, none⟩) T.ps.length cp, .bool T.many] #[.int .i64 (-1), .int .i64 (-1), .slice none 0 0, .slice none 0 0, .slice none 0 0, .int .i64 0, .int .i64 0] (.slice none 0 0) (.slice none 0 0) (.slice none 0 0) (.slice none 0 0) 0 0 0 [] [] [] [] [] (w2.alloc (.cells #[.int .i64 (-1), .int .i64 (-1), .slice none 0 0, .slice none 0 0, .slice none 0 0, .int .i64 0, .int .i64 0] 67)) :=
          ⟨Nat.le_refl _, HLT1.out, Blk.new_ _ _ _, World.ownsRow_nil _ _ _ _, World.ownsRow_nil _ _ _ _, World.ownsRow_nil _ _ _ _, World.ownsRow_nil _ _ _ _, trivial, kt.alloc _, kr.alloc _, hb.alloc hszw _⟩
        have S0 := Lib.hid st0
        have hrep4 := Rep.keep X2 _ _ hrep
        clear st0
        go_wp2_with fail
        refine (HSZ _ _ hrep4).mono ?_
        rintro e w3 ⟨rfl, hb3⟩
        have X := Lib.hid (S0.out.below hb3)
        clear q3 hc hrep hrep4 X2 kt kr hb hb3 S0 HSZ hltH
        obtain ⟨n1, hn1e⟩ : ∃ n1, (sizeT (lastT T)).1 = n1 := ⟨_, rfl⟩
        rw [hn1e] at hn1 ⊢
        have HN1 := Lib.hid hn1e
        obtain ⟨rs, hrs⟩ : ∃ rs : Int, (if 2 < n1 then (0 : Int) else -1) = rs := ⟨_, rfl⟩
        obtain ⟨ns, hns⟩ : ∃ ns, (if n1 ≤ 2 then List.range n1 else []) = ns := ⟨_, rfl⟩
        obtain ⟨had, hhad⟩ : ∃ had, hadA T = had := ⟨_, rfl⟩
        have hhad0 : had = if 2 < n1 then [⟨false, 0⟩] else [] := by rw [← hhad, ← hn1e]; rfl
        have HRS := Lib.hid hrs
        have HNS := Lib.hid hns
        have HAD := Lib.hid hhad
        have HAD0 := Lib.hid hhad0
        clear hn1e hrs hns hhad hhad0
        obtain ⟨P, hPe⟩ : ∃ P, w2.heap.size = P := ⟨_, rfl⟩
        rw [hPe] at X ⊢
        clear hPe
        obtain ⟨tb, htb⟩ : ∃ tb, decide ((2 : Int) < (n1 : Int)) = tb := ⟨_, rfl⟩
        go_upto_if 77 with (fail)
        have HTB := Lib.hid htb
        clear htb
        go_cut [10] from 78 to 94 (fun vh wx => Own3 (fun A3 c3 Ah ch wx => R9St w w.heap.size P #[.int .i64 4, .string T.nm, .slice An T.ns.length cn, .slice (some ⟨b, o, none⟩) T.ps.length cp, .bool T.many] #[.int .i64 rs, .int .i64 (-1), (.slice none 0 0), (.slice none 0 0), (.slice A3 ns.length c3), .int .i64 (0 : Int), .int .i64 (0 : Int)] (.slice none 0 0) (.slice none 0 0) (.slice A3 ns.length c3) (.slice Ah had.length ch) 0 0 ns.length [] [] [] ns had wx) had vh wx)
        case first =>
          obtain ⟨i0, hi0, hz0, hz1, hz2⟩ := info_parts info_loc
          obtain ⟨i2, hx0, hx1, hx2, hx3⟩ := info_parts info_int
          cases tb
          rotate_left
          · have h2 : 2 < n1 := by have := HTB.out; simp at this; omega
            obtain rfl : (0 : Int) = rs := by rw [← HRS.out, if_pos h2]
            obtain rfl : [] = ns := by rw [← HNS.out, if_neg (by omega)]
            obtain rfl : [⟨false, 0⟩] = had := by rw [HAD0.out, if_pos h2]
            clear h2
            have p0 := X.out.kp.cell 0 (.int .i64 (-1)) rfl
            have f0 := X.out.kp.free 0
            go_wp2_with (at_builtin; refine wpList_append_own_at _ rfl _ _ 29 rfl w.heap.size 52 i0 (.agg #[.bool false, .int .i64 0]) 2 16 Try.underlying29 hi0 hz0 hz1 hz2 rfl (by decide) _ _ _ rfl (World.ownsRow_nil _ _ _ _) ⟨w3.heap.size, 0, none⟩ 1 1 [.bool false, .int .i64 0] rfl rfl ?c1a ?c2a ?c3a ?c4a ?c5a ?_)
            try (case c1a => exact World.news_of_block (cs := #[.bool false, .int .i64 0]) (t := 52) (fr := (0, 0)) (heap_new (by simp)))
            try (case c2a => simp [Value.oneCell'])
            try (case c3a => unfold maxLen; omega)
            try (case c4a => omega)
            try (case c5a => have := X.out.size; simp; omega)
            intro vh w4 oh hg _ hor
            have st := ((X.out.setP 0 (.int .i64 0)).alloc (.cells #[.bool false, .int .i64 0] 52)).appH (had' := [⟨false, 0⟩]) hg (by simpa [lcs, Pl.cells] using oh) (hor.imp id (fun e => by rw [e]; simp [World.setCell]))
            obtain ⟨Ah, ch, rfl, -⟩ := Row.of_own oh
            have ST := Lib.hid st
            clear st oh hg hor p0 f0 X
            go_wp2_with fail
            go_meet
            exact ⟨none, 0, Ah, ch, rfl, ST.out⟩
          · have h2 : ¬ 2 < n1 := by have := HTB.out; simp at this; omega
            obtain rfl : (-1 : Int) = rs := by rw [← HRS.out, if_neg h2]
            obtain rfl : [] = had := by rw [HAD0.out, if_neg h2]
            have hns : List.range n1 = ns := by rw [← HNS.out, if_pos (by omega)]
            have HNR := Lib.hid hns
            have hn12 : n1 ≤ 2 := by omega
            clear h2 hns
            have p4 := X.out.kp.cell 4 (.slice none 0 0) rfl
            go_wp2_with (at_builtin; refine wpList_append_own _ rfl _ _ 35 rfl w.heap.size 3 i2 (.int .i64 0) 1 8 Try.underlying35 hx0 hx1 hx2 hx3 rfl (by decide) _ _ _ rfl (X.out.o3.alloc _) ⟨w3.heap.size, 0, none⟩ 1 1 [.int .i64 0] rfl rfl ?c1b ?c2b ?c3b ?c4b ?c5b ?_)
            try (case c1b => exact World.news_of_block (cs := #[.int .i64 0]) (t := 3) (fr := (0, 0)) (heap_new rfl))
            try (case c2b => simp [Value.oneCell'])
            try (case c3b => unfold maxLen; omega)
            try (case c4b => omega)
            try (case c5b => have := X.out.size; simp; omega)
            intro v3 w4 o3 hg _
            have st := (X.out.alloc (.cells #[.int .i64 0] 3)).app3 (ns' := [0]) hg (by simpa [nat64] using o3)
            obtain ⟨A3, c3, rfl, -⟩ := Row.of_own o3
            have Y := Lib.hid st
            have p4 := st.kp.cell 4 (.slice none 0 0) rfl
            have f4 := st.kp.free 4
            clear st o3 hg X
            have Z := Lib.hid (Y.out.setP 4 (.slice A3 1 c3))
            by_cases hn2 : n1 = 2
            · have t2 : ((n1 : Int) == 2) = true := by simp; omega
              have HN2 := Lib.hid hn2
              clear hn2
              have q4 := Z.out.kp.cell 4 (.slice A3 1 c3) (by simp)
              have W4 : Hid (w4.heap.size = (w4.setCell ⟨P, 4, none⟩ (.slice A3 1 c3)).heap.size) := by show _ = _; simp [World.setCell]
              go_wp2_with (at_builtin; refine wpList_append_own _ rfl _ _ 35 rfl w.heap.size 3 i2 (.int .i64 0) 1 8 Try.underlying35 hx0 hx1 hx2 hx3 rfl (by decide) _ _ _ rfl (Z.out.o3.alloc _) ⟨w4.heap.size, 0, none⟩ 1 1 [.int .i64 1] rfl rfl ?c1d ?c2d ?c3d ?c4d ?c5d ?_)
              try (case c1d => exact World.news_of_block (cs := #[.int .i64 1]) (t := 3) (fr := (0, 0)) (heap_new W4.out))
              try (case c2d => simp [Value.oneCell'])
              try (case c3d => unfold maxLen; omega)
              try (case c4d => omega)
              try (case c5d => have := Z.out.size; simp at this ⊢; omega)
              intro v3 w5 o3 hg _
              have st := (Z.out.alloc (.cells #[.int .i64 1] 3)).app3 (ns' := [0, 1]) hg (by simpa [nat64] using o3)
              obtain ⟨A3', c3', rfl, -⟩ := Row.of_own o3
              have p4 := st.kp.cell 4 (.slice A3 1 c3) (by simp)
              have f4 := st.kp.free 4
              have Y2 := Lib.hid (st.setP 4 (.slice A3' 2 c3'))
              obtain rfl : [0, 1] = ns := by rw [← HNR.out, HN2.out]; rfl
              clear st o3 hg q4 Z Y
              go_wp2_with fail
              go_meet
              exact ⟨A3', c3', none, 0, rfl, by simpa using Y2.out⟩
            · have t2 : ((n1 : Int) == 2) = false := by simp; omega
              obtain rfl : [0] = ns := by rw [← HNR.out, show n1 = 1 from by omega]; rfl
              clear Y hn2
              go_wp2_with fail
              go_meet
              exact ⟨A3, c3, none, 0, rfl, by simpa using Z.out⟩
        case rest =>
          obtain ⟨A3, c3, Ah, ch, rfl, hst⟩ := hcut
          clear X
          have X := Lib.hid hst
          obtain ⟨w4, rfl⟩ : ∃ w4 : World, w4 = wc := ⟨_, rfl⟩
          have q4 := hst.kt.cell 4 (.bool T.many) rfl
          clear hst
          obtain ⟨mny, hmny⟩ : ∃ mny, T.many = mny := ⟨_, rfl⟩
          rw [hmny] at q4
          have HMT := Lib.hid hmny
          clear hmny
          have hhl : had.length ≤ 1 := by have := (hadA_had T).2.2.2; rw [HAD.out] at this; exact this
          obtain ⟨cn2, hcn⟩ : ∃ cn2 : Int, (if mny then (had.length : Int) else -1) = cn2 := ⟨_, rfl⟩
          obtain ⟨hdb, hhb⟩ : ∃ hdb, hadB T = hdb := ⟨_, rfl⟩
          have HB0 : Hid (hdb = if mny then had ++ [⟨false, had.length⟩] else had) := by show _ = _; rw [← hhb]; unfold hadB; rw [HMT.out, HAD.out]
          have HCN := Lib.hid hcn
          have HHB := Lib.hid hhb
          clear hcn hhb
          go_upto_if 96 with (fail)
          go_cut [10] from 97 to 105 (fun vh wx => Own3 (fun A3 c3 Ah ch wx => R9St w w.heap.size P #[.int .i64 4, .string T.nm, .slice An T.ns.length cn, .slice (some ⟨b, o, none⟩) T.ps.length cp, .bool T.many] #[.int .i64 rs, .int .i64 cn2, (.slice none 0 0), (.slice none 0 0), (.slice A3 ns.length c3), .int .i64 (0 : Int), .int .i64 (0 : Int)] (.slice none 0 0) (.slice none 0 0) (.slice A3 ns.length c3) (.slice Ah hdb.length ch) 0 0 ns.length [] [] [] ns hdb wx) hdb vh wx)
          case first =>
            obtain ⟨i0, hi0, hz0, hz1, hz2⟩ := info_parts info_loc
            cases mny
            · obtain rfl : had = hdb := by rw [HB0.out]; rfl
              obtain rfl : (-1 : Int) = cn2 := by rw [← HCN.out]; rfl
              go_wp2_with fail
              go_meet
              exact ⟨A3, c3, Ah, ch, rfl, X.out⟩
            · obtain rfl : had ++ [⟨false, had.length⟩] = hdb := by rw [HB0.out]; rfl
              obtain rfl : (had.length : Int) = cn2 := by rw [← HCN.out]; rfl
              have p1 := X.out.kp.cell 1 (.int .i64 (-1)) rfl
              have f1 := X.out.kp.free 1
              have Y := Lib.hid (X.out.setP 1 (.int .i64 (had.length : Int)))
              have W4 : Hid (w4.heap.size = (w4.setCell ⟨P, 1, none⟩ (.int .i64 (had.length : Int))).heap.size) := by show _ = _; simp [World.setCell]
              go_wp2_with (at_builtin; refine wpList_append_own_at _ rfl _ _ 29 rfl w.heap.size 52 i0 (.agg #[.bool false, .int .i64 0]) 2 16 Try.underlying29 hi0 hz0 hz1 hz2 rfl (by decide) _ _ _ rfl (Y.out.oh.alloc _) ⟨w4.heap.size, 0, none⟩ 1 1 [.bool false, .int .i64 (had.length : Int)] rfl rfl ?c1e ?c2e ?c3e ?c4e ?c5e ?_)
              try (case c1e => exact World.news_of_block (cs := #[.bool false, .int .i64 (had.length : Int)]) (t := 52) (fr := (0, 0)) (heap_new W4.out))
              try (case c2e => simp [Value.oneCell'])
              try (case c3e => unfold maxLen; omega)
              try (case c4e => omega)
              try (case c5e => have := Y.out.size; simp at this ⊢; omega)
              intro vh w5 oh hg _ hor
              have st := (Y.out.alloc (.cells #[.bool false, .int .i64 (had.length : Int)] 52)).appH (had' := had ++ [⟨false, had.length⟩]) hg (by rw [lcs_snoc, List.length_append]; exact oh) (hor.imp id (fun e => by rw [e]; simp [World.setCell]))
              obtain ⟨Ah', ch', rfl, -⟩ := Row.of_own oh
              have ST := Lib.hid st
              clear st oh hg hor p1 f1 X Y
              go_wp2_with fail
              go_meet
              exact ⟨A3, c3, Ah', ch', by simp, by simpa using ST.out⟩
          case rest =>
            obtain ⟨A3, c3, Ah, ch, rfl, hst⟩ := hcut
            clear X q4
            have X := Lib.hid hst
            obtain ⟨w5, rfl⟩ : ∃ w5 : World, w5 = wc := ⟨_, rfl⟩
            clear hst
            go_wp2_with fail
            go_loopw [10, 13, 14, 15, 16, 17] (fun vh i _ _ _ _ wr => Pk9 m T (fun k A1 c1 A2 c2 Ah ch vs wx => R9St w w.heap.size P #[.int .i64 4, .string T.nm, .slice An T.ns.length cn, .slice (some ⟨b, o, none⟩) T.ps.length cp, .bool T.many] #[.int .i64 rs, .int .i64 cn2, (.slice A1 k c1), (.slice A2 k c2), (.slice A3 ns.length c3), .int .i64 (0 : Int), .int .i64 (0 : Int)] (.slice A1 k c1) (.slice A2 k c2) (.slice A3 ns.length c3) (.slice Ah (hadK T k).length ch) k k ns.length vs (parK T.ps (gvB T) k).1 (parK T.ps (gvB T) k).2.1 ns (hadK T k) wx) vh i wr) (fun _ i _ _ _ _ _ => m - (intOf i).toNat)
            case atStart =>
              have e : hadK T 0 = hdb := by simp [hadK, parK, HHB.out]
              exact ⟨0, Nat.zero_le _, rfl, none, 0, none, 0, Ah, ch, [], by rw [e], by dsimp only; rw [e]; exact X.out⟩
            case round =>
              clear X
              obtain ⟨k, hk, rfl, A1, c1, A2, c2, Ah, ch, vs, rfl, hst⟩ := hrel
              have X := Lib.hid hst
              clear hst
              by_cases hkm : k < m
              · have hi2 : (k : Int) < (m : Int) := by omega
                have hk7 : (k : Int) < 7 := by omega
                have hkl : k < T.ps.length := by have := HHM.out; omega
                have hkl' : (k : Int) < (T.ps.length : Int) := by omega
                have hb := X.out.bb
                obtain ⟨b', o', An3, cn3, Ap3, cp3, hA', hbl', hrep, hc0⟩ := hP.five hkl
                injection hA' with hA'
                injection hA' with hA1 hA2
                subst hA1 hA2
                have hc := keep5 hb hbl' hc0
                have HC0 := Lib.hid hc0
                have hrep1 := Rep.keep hb _ _ hrep
                have hmp := hps _ (List.getElem_mem hkl)
                have HSZ := Lib.hid (sizeR_all 3 _ hmp _ _ hrep1)
                have HEV := even_all 3 _ hmp
                have hn0 := size_pos 3 _ hmp
                have hH := hadK_had T (fun p hp => size_pos 3 p (hps p hp)) k (by omega)
                have hgp := parK_p T.ps (gvB T) (gvB_p T).1 k
                rw [(gvB_p T).2] at hgp
                have HHS := Lib.hid (hadK_succ hkl)
                have HPS := Lib.hid (parK_succ hkl (gvB T))
                have hlg2 : (T.ps[k].k == 2) = true → (sizeT T.ps[k]).2 = true ∧ (sizeT T.ps[k]).1 = 2 := fun h => by rw [sizeT_eq, if_pos (by simpa using h)]; exact ⟨rfl, rfl⟩
                have hpw := par_words (parK T.ps (gvB T) k).2.2 (sizeT T.ps[k]).1 (sizeT T.ps[k]).2 (T.ps[k].k == 2) (fun h => (hlg2 h).2)
                have hpb := par_bd (parK T.ps (gvB T) k).2.2 hgp.1 (sizeT T.ps[k]).1 (sizeT T.ps[k]).2 (T.ps[k].k == 2)
                have hplen : (lcs ((parK T.ps (gvB T) k).2.2.par (sizeT T.ps[k]).1 (sizeT T.ps[k]).2 (T.ps[k].k == 2)).1).length = _ := flat_len Pl.cells 2 (fun _ => rfl) _
                generalize hhk1 : hadK T (k + 1) = hk1 at *
                generalize hS1 : parK T.ps (gvB T) (k + 1) = S1 at *
                generalize hadK T k = hd at *
                generalize parK T.ps (gvB T) k = S at *
                generalize T.ps[k] = p at *
                have HLG := Lib.hid hlg2
                have HPW := Lib.hid hpw
                have HHK1 := Lib.hid hhk1
                have HS1 := Lib.hid hS1
                obtain ⟨pr, hpr⟩ : ∃ pr, S.2.2.par (sizeT p).1 (sizeT p).2 (p.k == 2) = pr := ⟨_, rfl⟩
                rw [hpr] at HPW HHS HPS hpb hplen
                have HPR := Lib.hid hpr
                have HLEN := Lib.hid hplen
                clear hlg2 hpw hhk1 hS1 hpr hrep hc0 hplen
                obtain ⟨n, hn⟩ : ∃ n, (sizeT p).1 = n := ⟨_, rfl⟩
                obtain ⟨ev, hev⟩ : ∃ ev, (sizeT p).2 = ev := ⟨_, rfl⟩
                rw [hn, hev] at HPW
                rw [hn, hev] at HLG
                rw [hn] at hn0
                have HN := Lib.hid hn
                have HEQ := Lib.hid hev
                clear hn hev
                obtain ⟨cpb, hcp⟩ : ∃ cpb, decide ((4 : Int) < (n : Int)) = cpb := ⟨_, rfl⟩
                have HCP : Hid (decide (4 < n) = cpb) := by show _ = _; rw [← hcp]; exact decide_eq_decide.2 (by omega)
                have q3 := X.out.kt.cell 3 (.slice (some ⟨b, o, none⟩) T.ps.length cp) rfl
                have hsz5 := X.out.size
                go_wp2_with fail
                ((with_reducible refine (HSZ.out).mono ?_); rintro e w6 ⟨rfl, hb6⟩)
                rw [HN.out]
                have X6 := Lib.hid (X.out.below hb6)
                have hrep6 := Rep.keep hb6 _ _ hrep1
                have hc := keep5 X6.out.bb hbl' HC0.out
                have q3 := X6.out.kt.cell 3 (.slice (some ⟨b, o, none⟩) T.ps.length cp) rfl
                clear X hb6 hrep1 HSZ hb
                obtain ⟨w7, rfl⟩ : ∃ w7 : World, w7 = w6 := ⟨_, rfl⟩
                have HEV := Lib.hid (HEV _ _ hrep6)
                go_upto_region 31 with (fail)
                go_cut [16] from 119 to 128 (fun s wx => s = .bool (ev && !cpb) ∧ R9St w w.heap.size P #[.int .i64 4, .string T.nm, .slice An T.ns.length cn, .slice (some ⟨b, o, none⟩) T.ps.length cp, .bool T.many] #[.int .i64 rs, .int .i64 cn2, .slice A1 k c1, .slice A2 k c2, .slice A3 ns.length c3, .int .i64 ((0 : Nat) : Int), .int .i64 ((0 : Nat) : Int)] (.slice A1 k c1) (.slice A2 k c2) (.slice A3 ns.length c3) (.slice Ah hd.length ch) k k ns.length vs S.1 S.2.1 ns hd wx)
                case first =>
                  go_wp2_with fail
                  ((with_reducible refine (HEV.out).mono ?_); rintro e w8 ⟨rfl, hb8⟩)
                  rw [HEQ.out]
                  have X8 := Lib.hid (X6.out.below hb8)
                  clear hb8 X6
                  cases ev
                  · go_wp2_with fail
                    go_meet
                    exact ⟨by simp, X8.out⟩
                  · go_wp2_with fail
                    go_meet
                    exact ⟨by simp, X8.out⟩
                case rest =>
                  obtain ⟨rfl, hst⟩ := hcut
                  have X := Lib.hid hst
                  clear hst X6 hc q3 hrep6 HEV
                  obtain ⟨w8, rfl⟩ : ∃ w8 : World, w8 = wc := ⟨_, rfl⟩
                  obtain ⟨n', hn'⟩ : ∃ n', (if 4 < n then 1 else n) = n' := ⟨_, rfl⟩
                  have HPW1 := HPW.out.1
                  have HPW2 := HPW.out.2
                  rw [hn', HCP.out] at HPW1
                  rw [HCP.out] at HPW2
                  have hn4 : n' ≤ 4 := by rw [← hn']; split <;> omega
                  have hn'0 : 1 ≤ n' := by rw [← hn']; split <;> omega
                  have hlg : (p.k == 2) = true → (ev && !cpb) = true ∧ n' = 2 := fun h => by
                    obtain ⟨h1, h2⟩ := HLG.out h
                    have h3 := HCP.out
                    rw [← hn', h1, ← h3, h2]; simp
                  have HN' := Lib.hid hn'
                  have HP1 := Lib.hid HPW1
                  have HP2 := Lib.hid HPW2
                  clear hn' HPW1 HPW2
                  go_upto_if 129 with (fail)
                  go_cut [14] from 129 to 129 (fun s wx => s = .int .i64 (n' : Int) ∧ wx = w8)
                  case first =>
                    cases cpb
                    · have e : n = n' := by rw [← HN'.out, if_neg (by have := HCP.out; simpa using this)]
                      have HE := Lib.hid e
                      clear e
                      go_wp2_with fail
                      go_meet
                      exact ⟨by rw [HE.out], rfl⟩
                    · have e : 1 = n' := by rw [← HN'.out, if_pos (by have := HCP.out; simpa using this)]
                      have HE := Lib.hid e
                      clear e
                      go_wp2_with fail
                      go_meet
                      exact ⟨by rw [← HE.out]; rfl, rfl⟩
                  case rest =>
                    obtain ⟨rfl, rfl⟩ := hcut
                    obtain ⟨w9, rfl⟩ : ∃ w9 : World, w9 = wc := ⟨_, rfl⟩
                    have hc := keep5 X.out.bb hbl' HC0.out
                    have q3 := X.out.kt.cell 3 (.slice (some ⟨b, o, none⟩) T.ps.length cp) rfl
                    obtain ⟨e2, he2⟩ : ∃ e2, (ev && !cpb) = e2 := ⟨_, rfl⟩
                    rw [he2] at HP1 hlg ⊢
                    have HLG2 := Lib.hid hlg
                    have hRH : Row w9 Ah (lcs hd) := by
                      obtain ⟨A, c, e, h⟩ := Row.of_own X.out.oh
                      injection e with e1 e2 e3
                      subst e1
                      exact h
                    have HW9 := Lib.hid (words9_any Ah ch hd S.2.2 n' e2 (p.k == 2) w9 hRH (by omega) (fun x hx => by have := hH.2.2 x hx; omega) hH.1 (by omega) hn4 hlg)
                    clear he2 hlg hcp hRH
                    go_wp2_with fail
                    ((with_reducible refine (HW9.out).mono ?_); rintro e w10 ⟨A9, c9, rfl, own9, hb10⟩)
                    rw [← HP1.out] at own9 ⊢
                    have X10 := Lib.hid (X.out.below hb10)
                    clear hc q3 HW9
                    have hl0 : 1 ≤ pr.1.length := by rw [HP1.out, nexts_len]; exact hn'0
                    obtain ⟨g9, cap9, hv9, hg9, hlt9⟩ := own9.form (by omega)
                    obtain ⟨A9', c9', hv9', ht9⟩ := TRow.of_own own9
                    injection hv9' with ea eb ec
                    subst ea
                    injection hv9 with ea2 eb2 ec2
                    subst ea2
                    clear eb ec eb2 ec2
                    have hne9 : ∀ b o, some (⟨g9, 0, none⟩ : Addr) = some ⟨b, o, none⟩ → some b ≠ (Value.slice Ah hd.length ch).ownBlock := fun b o e => by
                      injection e with e
                      injection e with e _
                      subst e
                      exact own_ne_new X.out.oh hg9
                    have HNE := Lib.hid hne9
                    have HT9 := Lib.hid ht9
                    clear own9 hb10 hne9 ht9 hg9 X
                    obtain ⟨i0, hi0, hz0, hz1, hz2⟩ := info_parts info_loc
                    obtain ⟨i1, hy0, hy1, hy2, hy3⟩ := info_parts info_bool
                    obtain ⟨i3, ha0, ha1, ha2, ha3⟩ := info_parts info_lrow
                    have p2 := X10.out.kp.cell 2 (.slice A1 k c1) rfl
                    have hsz10 := X10.out.size
                    go_wp2_with (at_builtin; refine wpList_append_own _ rfl _ _ 65 rfl w.heap.size 29 i3 (.slice none 0 0) 1 24 Try.underlying65 ha0 ha1 ha2 ha3 rfl (by decide) _ _ _ rfl (X10.out.o1.alloc _) ⟨w10.heap.size, 0, none⟩ 1 1 [.slice (some ⟨g9, 0, none⟩) pr.1.length c9] rfl rfl ?c1f ?c2f ?c3f ?c4f ?c5f ?_)
                    try (case c1f => exact World.news_of_block (cs := #[.slice (some ⟨g9, 0, none⟩) pr.1.length c9]) (t := 29) (fr := (0, 0)) (heap_new rfl))
                    try (case c2f => simp [Value.oneCell'])
                    try (case c3f => unfold maxLen; omega)
                    try (case c4f => omega)
                    try (case c5f => simp; omega)
                    intro v1 w11 o1 hg _
                    have st := (X10.out.alloc (.cells #[.slice (some ⟨g9, 0, none⟩) pr.1.length c9] 29)).app1 hg o1 (HT9.out.keepB (by (repeat (first | with_reducible assumption | with_reducible exact Below.refl _ _ | (refine Below.setCell ?_ (by first | omega | (simp; done) | (simp; omega)) _) | (refine Below.drewN_ ?_ _) | (refine Below.drew ?_) | (refine Below.alloc ?_ (by first | omega | (simp; done) | (simp; omega)) _))))) HNE.out
                    obtain ⟨A1', c1', rfl, -⟩ := Row.of_own o1
                    have p2 := st.kp.cell 2 (.slice A1 k c1) rfl
                    have p3 := st.kp.cell 3 (.slice A2 k c2) rfl
                    have f2 := st.kp.free 2
                    have Y := Lib.hid (st.setP 2 (.slice A1' (k + 1) c1'))
                    have W11 : Hid (w11.heap.size = (w11.setCell ⟨P, 2, none⟩ (.slice A1' (k + 1) c1')).heap.size) := by show _ = _; simp [World.setCell]
                    clear st o1 hg X10 HT9 HNE hsz10
                    have hszY := Y.out.size
                    go_wp2_with (at_builtin; refine wpList_append_own _ rfl _ _ 48 rfl w.heap.size 4 i1 (.bool false) 1 1 Try.underlying48 hy0 hy1 hy2 hy3 rfl (by decide) _ _ _ rfl (Y.out.o2.alloc _) ⟨w11.heap.size, 0, none⟩ 1 1 [.bool cpb] rfl rfl ?c1h ?c2h ?c3h ?c4h ?c5h ?_)
                    try (case c1h => exact World.news_of_block (cs := #[.bool cpb]) (t := 4) (fr := (0, 0)) (heap_new W11.out))
                    try (case c2h => simp [Value.oneCell'])
                    try (case c3h => unfold maxLen; omega)
                    try (case c4h => omega)
                    try (case c5h => simp at hszY ⊢; omega)
                    intro v2 w12 o2 hg _
                    have st := (Y.out.alloc (.cells #[.bool cpb] 4)).app2 (cs' := S.2.1 ++ [cpb]) hg (by simpa using o2)
                    obtain ⟨A2', c2', rfl, -⟩ := Row.of_own o2
                    have p3 := st.kp.cell 3 (.slice A2 k c2) (by simp)
                    have f3 := st.kp.free 3
                    have hls : vs.length = S.1.length := (st.sl.len : _) |> fun h => by simpa using h
                    have Z := Lib.hid (st.setP 3 (.slice A2' (k + 1) c2'))
                    clear st o2 hg Y W11 p2 f2 hszY
                    have htl : TRow (w12.setCell ⟨P, 3, none⟩ (.slice A2' (k + 1) c2')) 52 (some ⟨g9, 0, none⟩) (lcs pr.1) := by
                      obtain ⟨A, c, e, h⟩ := SlOk.last Z.out.sl hls
                      injection e with e1 e2 e3
                      subst e1
                      exact h
                    obtain ⟨gx, ox, eA, hgl, hcx⟩ := htl.row.at_ (fun e => by have := congrArg List.length e; rw [HLEN.out] at this; simp at this; omega)
                    injection eA with eA
                    injection eA with e1 e2
                    subst e1 e2
                    have HCX := Lib.hid hcx
                    have hszZ := Z.out.size
                    have W12 : Hid (w12.heap.size = (w12.setCell ⟨P, 3, none⟩ (.slice A2' (k + 1) c2')).heap.size) := by show _ = _; simp [World.setCell]
                    have hl4 : pr.1.length ≤ 4 := hpb.2.2.1
                    have hd28 : hd.length ≤ 28 := by omega
                    clear hcx htl hls hgl
                    go_wp2_with (at_builtin; refine wpList_append_own_at _ rfl _ _ 29 rfl w.heap.size 52 i0 (.agg #[.bool false, .int .i64 0]) 2 16 Try.underlying29 hi0 hz0 hz1 hz2 rfl (by decide) _ _ _ rfl (Z.out.oh) ⟨g9, 0, none⟩ pr.1.length c9 (lcs pr.1) rfl (HLEN.out) ?c1i ?c2i ?c3i ?c4i ?c5i ?_)
                    try (case c1i => intro j u hj; have := HCX.out j u hj; rw [Nat.zero_add] at this; first | exact this | (rw [add_plain_, Nat.zero_add]; exact this))
                    try (case c2i => intro u hu; simp only [lcs, List.mem_flatMap, Pl.cells] at hu; obtain ⟨x, -, hx⟩ := hu; simp at hx; rcases hx with rfl | rfl <;> rfl)
                    try (case c3i => unfold maxLen; omega)
                    try (case c4i => omega)
                    try (case c5i => simp at hszZ ⊢; omega)
                    intro vh w13 oh hg _ hor
                    have hlen2 : hd.length + pr.1.length = (hd ++ pr.1).length := by simp
                    rw [hlen2] at oh
                    have st := Z.out.appH (had' := hd ++ pr.1) hg (by rw [show lcs (hd ++ pr.1) = lcs hd ++ lcs pr.1 from by simp [lcs]]; exact oh) (hor.imp id (fun e => by rw [e]; simp [World.setCell]))
                    obtain ⟨Ah', ch', rfl, -⟩ := Row.of_own oh
                    have ST := Lib.hid st
                    clear st oh hg hor hlen2 Z p3 f3 HCX hszZ W12
                    go_wp2
                    go_roundw
                    case rel => exact ⟨k + 1, by omega, by go_num, A1', c1', A2', c2', Ah', ch', vs ++ [.slice (some ⟨g9, 0, none⟩) pr.1.length c9], by rw [HHK1.out, HHS.out], by dsimp only; rw [HHK1.out, HS1.out, HHS.out, HPS.out, HP2.out]; simpa using ST.out⟩
                    case measure => (first | (simp [intOf]; done) | (simp [intOf]; omega))
              · have hi2 : ¬ (k : Int) < (m : Int) := by omega
                obtain rfl : m = k := by omega
                have hH := hadK_had T (fun p hp => size_pos 3 p (hps p hp)) m (by have := HHM.out; omega)
                have hgp := parK_p T.ps (gvB T) (gvB_p T).1 m
                rw [(gvB_p T).2] at hgp
                have hmle : m ≤ 6 := by have := HHM.out; omega
                obtain ⟨hd, hhd⟩ : ∃ hd, hadK T m = hd := ⟨_, rfl⟩
                obtain ⟨S, hS⟩ : ∃ S, parK T.ps (gvB T) m = S := ⟨_, rfl⟩
                rw [hhd, hS] at X hH
                rw [hS] at hgp
                rw [hhd]
                have HS := Lib.hid hS
                clear hhd hS
                obtain ⟨pls, cps, r, q⟩ := S
                simp only at X hH hgp HS
                obtain ⟨w6, rfl⟩ : ∃ w6 : World, w6 = wr := ⟨_, rfl⟩
                have hq36 : q ≤ 36 := by omega
                have hhad := hH.1
                obtain ⟨-, hplc, -⟩ := hhad
                simp only at hplc
                have hRH : Row w6 Ah (lcs hd) := by
                  obtain ⟨A, c, e, h⟩ := Row.of_own X.out.oh
                  injection e with e1 e2 e3
                  subst e1
                  exact h
                have HPF := placeFrom_any Ah ch hd w6 hRH (by omega) (fun x hx => by have := hH.2.2 x hx; omega)
                rw [hplc] at HPF
                have HPFH := Lib.hid HPF
                have q4 := X.out.kt.cell 4 (.bool mny) (by rw [← HMT.out]; rfl)
                obtain ⟨qe, hqe⟩ : ∃ qe, q + q % 2 = qe := ⟨_, rfl⟩
                obtain ⟨qq, hqq⟩ : ∃ qq, (if mny then qe else q) = qq := ⟨_, rfl⟩
                obtain ⟨ex, hex⟩ : ∃ ex, (if mny then qe else 0) = ex := ⟨_, rfl⟩
                have hqe38 : qe ≤ 38 := by omega
                have hq38 : qq ≤ 38 := by rw [← hqq]; split <;> omega
                have hsbx : mny = false → sb = 0 := fun h => by
                  have h0 : bs.length = 0 := by
                    rcases Nat.eq_zero_or_pos bs.length with h0 | h0
                    · exact h0
                    · have := HX.out h0; rw [HMT.out, h] at this; cases this
                  have : bs = [] := List.length_eq_zero_iff.1 h0
                  rw [← HSB.out, this]; rfl
                obtain ⟨tot, htot⟩ : ∃ tot, qq + sb = tot := ⟨_, rfl⟩
                obtain ⟨ar, har⟩ : ∃ ar, tot + tot % 2 = ar := ⟨_, rfl⟩
                have HUP1 := Lib.hid (fun w => up_to q qe w (by omega) hqe.symm)
                have HUP2 := Lib.hid (fun w => up_to tot ar w (by omega) har.symm)
                have HSBX := Lib.hid hsbx
                have HV : Hid (abiV T bs = ⟨rs, cn2, pls, cps, ns, ar, ex⟩) := by
                  show _ = _
                  have e1 : T.ps.length - 1 = m := by have := HHM.out; omega
                  have e3 : ((gvA T).r : Int) = (had.length : Int) := by rw [(hadA_had T).2.1, HAD.out]
                  unfold abiV
                  rw [if_pos he.out]
                  simp only [abiG, e1, HS.out, HMT.out, HSB.out, HN1.out, HRS.out, HNS.out, hqe, hqq, hex, htot, har, e3, HCN.out]
                have HLS : Hid (m = pls.length) := by show _ = _; have := (parK_len T.ps (gvB T) m).1; rw [HS.out] at this; exact this.symm
                have HQQ := Lib.hid hqq
                have HEX := Lib.hid hex
                have HTOT := Lib.hid htot
                clear hplc hRH HPF hqe hqq hex har htot hsbx hH
                go_wp2_with fail
                ((with_reducible refine (HPFH.out).mono ?_); rintro e w7 ⟨rfl, hw7⟩)
                subst hw7
                go_upto_if 159 with (fail)
                go_cut [18] from 160 to 166 (fun s wx => s = .int .i64 (tot : Int) ∧ R9St w w.heap.size P #[.int .i64 4, .string T.nm, .slice An T.ns.length cn, .slice (some ⟨b, o, none⟩) T.ps.length cp, .bool T.many] #[.int .i64 rs, .int .i64 cn2, .slice A1 m c1, .slice A2 m c2, .slice A3 ns.length c3, .int .i64 (0 : Int), .int .i64 (ex : Int)] (.slice A1 m c1) (.slice A2 m c2) (.slice A3 ns.length c3) (.slice Ah hd.length ch) m m ns.length vs pls cps ns hd wx)
                case first =>
                  cases mny
                  · obtain rfl : 0 = ex := by rw [← HEX.out]; rfl
                    have e : q = qq + sb := by rw [HSBX.out rfl, ← HQQ.out]; rfl
                    have HE := Lib.hid e
                    clear e
                    go_wp2_with fail
                    go_meet
                    exact ⟨by rw [← HTOT.out, ← HE.out], X.out⟩
                  · obtain rfl : qe = ex := by rw [← HEX.out]; rfl
                    obtain rfl : qe = qq := by rw [← HQQ.out]; rfl
                    have p6 := X.out.kp.cell 6 (.int .i64 0) rfl
                    have f6 := X.out.kp.free 6
                    have Y := Lib.hid (X.out.setP 6 (.int .i64 (qe : Int)))
                    clear X
                    go_wp2_with fail
                    ((with_reducible refine (HUP1.out _).mono ?_); rintro e w8 ⟨rfl, hw8⟩)
                    subst hw8
                    go_wp2_with fail
                    go_meet
                    exact ⟨by rw [← HTOT.out]; simp, by simpa using Y.out⟩
                case rest =>
                  obtain ⟨rfl, hst⟩ := hcut
                  clear X q4 HPFH HUP1
                  have X := Lib.hid hst
                  clear hst
                  obtain ⟨w8, rfl⟩ : ∃ w8 : World, w8 = wc := ⟨_, rfl⟩
                  have p5 := X.out.kp.cell 5 (.int .i64 0) rfl
                  have f5 := X.out.kp.free 5
                  have Y := X.out.setP 5 (.int .i64 (ar : Int))
                  have j0 := Y.kp.cell 0 (.int .i64 rs) (by simp)
                  have j1 := Y.kp.cell 1 (.int .i64 cn2) (by simp)
                  have j2 := Y.kp.cell 2 (.slice A1 m c1) (by simp)
                  have j3 := Y.kp.cell 3 (.slice A2 m c2) (by simp)
                  have j4 := Y.kp.cell 4 (.slice A3 ns.length c3) (by simp)
                  have j6 := Y.kp.cell 6 (.int .i64 (ex : Int)) (by simp)
                  have f := fun i => X.out.kr.free i
                  have d0 := X.out.kr.cell 0 (.int .i64 0) rfl
                  have d1 := X.out.kr.cell 1 (.int .i64 0) rfl
                  have d2 := X.out.kr.cell 2 (.slice none 0 0) rfl
                  have d3 := X.out.kr.cell 3 (.slice none 0 0) rfl
                  have d4 := X.out.kr.cell 4 (.slice none 0 0) rfl
                  have d5 := X.out.kr.cell 5 (.int .i64 0) rfl
                  have d6 := X.out.kr.cell 6 (.int .i64 0) rfl
                  have hHP := X.out.hP
                  have k2 := Lib.hid (Y.kr.set7 (.int .i64 rs) (.int .i64 cn2) (.slice A1 m c1) (.slice A2 m c2) (.slice A3 ns.length c3) (.int .i64 (ar : Int)) (.int .i64 (ex : Int)))
                  have Y2 : R9St w w.heap.size P #[.int .i64 4, .string T.nm, .slice An T.ns.length cn, .slice (some ⟨b, o, none⟩) T.ps.length cp, .bool T.many] #[.int .i64 rs, .int .i64 cn2, .slice A1 m c1, .slice A2 m c2, .slice A3 ns.length c3, .int .i64 (ar : Int), .int .i64 (ex : Int)] (.slice A1 m c1) (.slice A2 m c2) (.slice A3 ns.length c3) (.slice Ah hd.length ch) m m ns.length vs pls cps ns hd (w8.setCell ⟨P, 5, none⟩ (.int .i64 (ar : Int))) := by simpa using Y
                  have HO : Hid _ := Lib.hid (Y2.out HLS.out)
                  clear Y Y2 X
                  go_wp2_with fail
                  ((with_reducible refine (HUP2.out _).mono ?_); rintro e w9 ⟨rfl, hw9⟩)
                  subst hw9
                  go_wp2
                  exact bodyPost_ret (results_places (by kernel_rfl) k2.out rfl rfl) rfl ⟨_, by rw [he.out]; rfl, by rw [HV.out]; exact HO.out.1, HO.out.2⟩
end Go.Proofs.Ytkkjkbljgaipcaa
