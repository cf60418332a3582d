/- colour.build, colour.Of, ref13.Behind. -/
import Derived.Test.YtkkjkbljgaipcaaColK
import Derived.Test.YtkkjkbljgaipcaaLivG
/- The walk of colour.build. -/
namespace Go.Proofs.Ytkkjkbljgaipcaa
open Go.RowKit
set_option linter.unusedVariables false
set_option linter.unusedSimpArgs false
set_option maxRecDepth 100000
set_option maxHeartbeats 16000000
/-- the graph made, sets so far -/
def Ini (regs H : Nat) (bo : Array Value) (ms : List Nat) (g X lb : Nat) (w wr : World) : Prop :=
  ms.Nodup ∧ Blk wr g 50 #[.slice (some ⟨X, 0, none⟩) regs regs, .slice (some ⟨lb, 0, none⟩) regs regs] ∧ Blk wr X 46 (mapV ms regs) ∧ Blk wr lb 4 (bits regs (fun _ => false)) ∧
    Blk wr H 28 bo ∧ (∀ m ∈ ms, H ≤ m ∧ SetAt wr m 0 (fun _ => false)) ∧ H ≤ X ∧ H ≤ lb ∧ Below H w wr
def IniC (regs H : Nat) (bo : Array Value) (w : World) (v : Value) (wx : World) : Prop := ∃ g X lb, v = .pointer (some ⟨g, 0, none⟩) ∧ Ini regs H bo [] g X lb w wx
def IniR (regs H : Nat) (bo : Array Value) (g X lb : Nat) (w : World) (i : Value) (wr : World) : Prop := ∃ ms : List Nat, ms.length ≤ regs ∧ i = .int .i64 (ms.length : Int) ∧ Ini regs H bo ms g X lb w wr
theorem Ini.make {regs H : Nat} {bo : Array Value} {ms : List Nat} {g X lb : Nat} {w wr : World} (h : Ini regs H bo ms g X lb w wr) (hm : ms.length < regs) :
    Ini regs H bo (ms ++ [wr.heap.size]) g X lb w ((wr.alloc (.map #[] 0)).setCell ⟨X, ms.length, none⟩ (.map (some wr.heap.size))) := by
  obtain ⟨h1, h2, h3, h4, h5, h6, h7, h8, h9⟩ := h
  have hl := h5.lt
  have hX := h3.lt
  have hg := grow_set (wr.alloc (.map #[] 0)) X ms.length (.map (some wr.heap.size))
  refine ⟨?_, (h2.alloc _).far (Blk.ne_ h2 h3 (by decide)) _, ?_, (h4.alloc _).far (Blk.ne_ h4 h3 (by decide)) _, (h5.alloc _).far (Blk.ne_ h5 h3 (by decide)) _, fun m hm' => ?_, h7, h8, (h9.alloc (Nat.le_of_lt hl) _).setCell (p := ⟨X, ms.length, none⟩) h7 _⟩
  · rw [List.nodup_append]
    refine ⟨h1, by simp, fun a ha b hb e => ?_⟩
    rw [List.mem_singleton] at hb
    subst hb
    have := (h6 a ha).2.lt
    omega
  · rw [← mapV_set hm]
    exact (h3.alloc _).set_ _ _
  · rcases List.mem_append.1 hm' with hm' | hm'
    · have q := (h6 m hm').2
      refine ⟨(h6 m hm').1, (q.below (Below.alloc (Below.refl _ wr) (Nat.le_refl _) _)).kept hg (fun e => ?_)⟩
      injection e with e
      exact set_ne_blk q h3 e.symm
    · rw [List.mem_singleton] at hm'
      subst hm'
      refine ⟨Nat.le_of_lt hl, (SetAt.made wr).kept hg (fun e => ?_)⟩
      injection e with e
      omega
theorem ini_one (regs : Nat) (bo : Array Value) (w : World) : Ini regs w.heap.size bo [] (w.heap.size + 1 + 1 + 1) (w.heap.size + 1) (w.heap.size + 1 + 1) w ((((w.alloc (.cells bo 28)).alloc (.cells (mapV [] regs) 46)).alloc (.cells (bits regs (fun _ => false)) 4)).alloc (.cells #[.slice (some ⟨w.heap.size + 1, 0, none⟩) regs regs, .slice (some ⟨w.heap.size + 1 + 1, 0, none⟩) regs regs] 50)).drew := by
  refine ⟨by simp, ?_, ?_, ?_, ?_, by simp, by omega, by omega, ?_⟩
  · have := Blk.new_ (((w.alloc (.cells bo 28)).alloc (.cells (mapV [] regs) 46)).alloc (.cells (bits regs (fun _ => false)) 4)) 50 #[.slice (some ⟨w.heap.size + 1, 0, none⟩) regs regs, .slice (some ⟨w.heap.size + 1 + 1, 0, none⟩) regs regs]
    refine Blk.drew1 ?_
    simpa using this
  · have := ((Blk.new_ (w.alloc (.cells bo 28)) 46 (mapV [] regs)).alloc (.cells (bits regs (fun _ => false)) 4)).alloc (.cells #[.slice (some ⟨w.heap.size + 1, 0, none⟩) regs regs, .slice (some ⟨w.heap.size + 1 + 1, 0, none⟩) regs regs] 50)
    refine Blk.drew1 ?_
    simpa using this
  · have := (Blk.new_ ((w.alloc (.cells bo 28)).alloc (.cells (mapV [] regs) 46)) 4 (bits regs (fun _ => false))).alloc (.cells #[.slice (some ⟨w.heap.size + 1, 0, none⟩) regs regs, .slice (some ⟨w.heap.size + 1 + 1, 0, none⟩) regs regs] 50)
    refine Blk.drew1 ?_
    simpa using this
  · exact (((Blk.new_ w _ _).alloc _).alloc _).alloc _
  · refine Below.drew ?_
    (repeat (first | with_reducible assumption | with_reducible exact Below.refl _ _ | (refine Below.setCell ?_ (by first | omega | (simp; done) | (simp; omega)) _) | (refine Below.drewN_ ?_ _) | (refine Below.drew ?_) | (refine Below.alloc ?_ (by first | omega | (simp; done) | (simp; omega)) _)))
theorem ini_two (regs : Nat) (bo : Array Value) (w : World) : Ini regs w.heap.size bo [] (w.heap.size + 1 + 1 + 1) (w.heap.size + 1 + 1) (w.heap.size + 1) w ((((w.alloc (.cells bo 28)).alloc (.cells (bits regs (fun _ => false)) 4)).alloc (.cells (mapV [] regs) 46)).alloc (.cells #[.slice (some ⟨w.heap.size + 1 + 1, 0, none⟩) regs regs, .slice (some ⟨w.heap.size + 1, 0, none⟩) regs regs] 50)).drew := by
  refine ⟨by simp, ?_, ?_, ?_, ?_, by simp, by omega, by omega, ?_⟩
  · have := Blk.new_ (((w.alloc (.cells bo 28)).alloc (.cells (bits regs (fun _ => false)) 4)).alloc (.cells (mapV [] regs) 46)) 50 #[.slice (some ⟨w.heap.size + 1 + 1, 0, none⟩) regs regs, .slice (some ⟨w.heap.size + 1, 0, none⟩) regs regs]
    refine Blk.drew1 ?_
    simpa using this
  · have := (Blk.new_ ((w.alloc (.cells bo 28)).alloc (.cells (bits regs (fun _ => false)) 4)) 46 (mapV [] regs)).alloc (.cells #[.slice (some ⟨w.heap.size + 1 + 1, 0, none⟩) regs regs, .slice (some ⟨w.heap.size + 1, 0, none⟩) regs regs] 50)
    refine Blk.drew1 ?_
    simpa using this
  · have := ((Blk.new_ (w.alloc (.cells bo 28)) 4 (bits regs (fun _ => false))).alloc (.cells (mapV [] regs) 46)).alloc (.cells #[.slice (some ⟨w.heap.size + 1 + 1, 0, none⟩) regs regs, .slice (some ⟨w.heap.size + 1, 0, none⟩) regs regs] 50)
    refine Blk.drew1 ?_
    simpa using this
  · exact (((Blk.new_ w _ _).alloc _).alloc _).alloc _
  · refine Below.drew ?_
    (repeat (first | with_reducible assumption | with_reducible exact Below.refl _ _ | (refine Below.setCell ?_ (by first | omega | (simp; done) | (simp; omega)) _) | (refine Below.drewN_ ?_ _) | (refine Below.drew ?_) | (refine Below.alloc ?_ (by first | omega | (simp; done) | (simp; omega)) _)))
theorem Ini.start {regs H K : Nat} {bo : Array Value} {ms ss : List Nat} {g X lb I : Nat} {w wr w2 : World} {code : List Or} (h : Ini regs H bo ms g X lb w wr) (hm : ms.length = regs) (hK : w2.heap.size = K) (hb : Below wr.heap.size wr w2)
    (hs : ss.length = code.length) (hI : Blk w2 I 46 (ss.map fun m => Value.map (some m)).toArray) (hM : MapsAt w2 wr.heap.size regs ss (liveB code)) : Bst H wr.heap.size K regs code bo g X lb I ms ss w w2 (fun _ _ => false) (fun _ => false) := by
  obtain ⟨h1, h2, h3, h4, h5, h6, h7, h8, h9⟩ := h
  subst hK
  have e : mapV ms regs = (ms.map fun m => Value.map (some m)).toArray := by unfold mapV; rw [hm]; simp
  rw [e] at h3
  have hsz := hb.size
  exact ⟨h5.below hb, h2.below hb, h3.below hb, ⟨h1, fun _ _ h => (by cases h), fun i hi => ⟨(h6 _ (List.getElem_mem hi)).1, ((h6 _ (List.getElem_mem hi)).2.mono (Nat.zero_le _)).below hb⟩⟩, h4.below hb, hI, hM, h9.trans (hb.mono (Nat.le_of_lt h5.lt)), h8, hm, hs,
    fun m hm' => (h6 m hm').2.lt, hsz, Nat.le_refl _, (h5.below hb).lt, (h2.below hb).lt, (h3.below hb).lt, (h4.below hb).lt, hI.lt, fun m hm' => by
      obtain ⟨i, hi, rfl⟩ := List.mem_iff_getElem.1 hm'
      exact (hM.2 i hi).2.lt⟩
theorem Bst.split_call {H S0 K regs : Nat} {code : List Or} {bo : Array Value} {g X lb I : Nat} {ms ss : List Nat} {w wr : World} {G : Nat → Int → Bool} {lg : Int → Bool} (h : Bst H S0 K regs code bo g X lb I ms ss w wr G lg) (hr8 : regs ≤ 8000) {a b : Nat} (ha : a < regs) (hb : b < regs) :
    Calls Try.prog 36 #[.pointer (some ⟨g, 0, none⟩), .int .i64 (a : Int), .int .i64 (b : Int)] wr (SplitOut H regs ms G a b wr) := split_any H g X lb regs ms G a b wr ha hb hr8 h.rowsOf h.edges
def Ed2 (st : World → (Nat → Int → Bool) → Prop) (S : Int → Bool) (s0 r1 bd : Nat) (wx : World) : Prop := ∃ G L cnt, RangeAt wx s0 r1 bd S L cnt ∧ st wx G ∧ ∀ p q : Nat, S (p : Int) = true → L (p : Int) = false → S (q : Int) = true → Sym G p q
def Ed3 (st : World → (Nat → Int → Bool) → Prop) (S Lo : Int → Bool) (s0 r1 r2 bd cnt1 p : Nat) (wx : World) : Prop := ∃ G L cnt, RangeAt wx s0 r1 bd S Lo cnt1 ∧ RangeAt wx s0 r2 bd S L cnt ∧ st wx G ∧
  (∀ p' q : Nat, S (p' : Int) = true → Lo (p' : Int) = false → p' ≠ p → S (q : Int) = true → Sym G p' q) ∧ ∀ q : Nat, S (q : Int) = true → L (q : Int) = false → Sym G p q
/-- so many orders are seen to -/
def OrdR (code : List Or) (n : Nat) (st : World → (Nat → Int → Bool) → (Int → Bool) → Prop) (gk : Nat) (i : Value) (wx : World) : Prop :=
  ∃ k G lg, k ≤ n ∧ i = .int .i64 (k : Int) ∧ gk = n - k ∧ st wx G lg ∧ Req0 code G ∧ ReqK code k G lg
def LdR (code : List Or) (st : World → Prop) (regs bh gl ob : Nat) (oc : Array Value) (ld : List Int) (i : Value) (wx : World) : Prop :=
  ∃ (m : Nat) (Bh : Int → Bool), m ≤ ld.length ∧ i = .int .i64 (m : Int) ∧ st wx ∧ SetAt wx bh regs Bh ∧ (∀ x, Bh x = true → 0 ≤ x ∧ x < (regs : Int)) ∧ (∀ j (h : j < ld.length), j < m → ∀ x, liveB code ld[j].toNat x = true → Bh x = true) ∧
    Blk wx ob 60 oc ∧ (ld ≠ [] → Blk wx gl 3 (ld.map i64).toArray)
def Ld6 (S B0 : Int → Bool) (st : World → Prop) (regs s r bd bh gl ob : Nat) (oc : Array Value) (ld : List Int) (wx : World) : Prop :=
  ∃ (L Bh : Int → Bool) (cnt : Nat), RangeAt wx s r bd S L cnt ∧ st wx ∧ SetAt wx bh regs Bh ∧ (∀ x, Bh x = true → 0 ≤ x ∧ x < (regs : Int)) ∧ (∀ x, B0 x = true → Bh x = true) ∧ (∀ x, S x = true → L x = false → Bh x = true) ∧
    Blk wx ob 60 oc ∧ Blk wx gl 3 (ld.map i64).toArray
def LgC (st : World → (Int → Bool) → Prop) (lg0 Bh : Int → Bool) (d : List Int) (call : Bool) (regs bh ob : Nat) (oc : Array Value) (wx : World) : Prop :=
  ∃ lg, st wx lg ∧ (∀ x, lg0 x = true → lg x = true) ∧ (call = true → ∀ x, Bh x = true → x ∉ d → lg x = true) ∧ SetAt wx bh regs Bh ∧ Blk wx ob 60 oc
def Lg7 (st : World → (Int → Bool) → Prop) (lg0 Bh : Int → Bool) (d : List Int) (regs bh r ob : Nat) (oc : Array Value) (cnt : Nat) (wx : World) : Prop :=
  ∃ (lg L : Int → Bool), RangeAt wx bh r regs Bh L cnt ∧ st wx lg ∧ (∀ x, lg0 x = true → lg x = true) ∧ (∀ x, Bh x = true → L x = false → x ∉ d → lg x = true) ∧ Blk wx ob 60 oc
def D8 (st : World → (Nat → Int → Bool) → Prop) (G0 : Nat → Int → Bool) (Bh : Int → Bool) (d : List Int) (regs bh ob : Nat) (oc : Array Value) (i : Value) (wx : World) : Prop :=
  ∃ (n : Nat) (G : Nat → Int → Bool), n ≤ d.length ∧ i = .int .i64 (n : Int) ∧ st wx G ∧ (∀ i x, G0 i x = true → G i x = true) ∧ SetAt wx bh regs Bh ∧ Blk wx ob 60 oc ∧
    ∀ j (h : j < d.length), j < n → ∀ q : Nat, (Bh (q : Int) = true ∨ (q : Int) ∈ d) → Sym G d[j].toNat q
def D9 (st : World → (Nat → Int → Bool) → Prop) (G0 : Nat → Int → Bool) (Bh : Int → Bool) (regs bh r ob a : Nat) (oc : Array Value) (wx : World) : Prop :=
  ∃ (G : Nat → Int → Bool) (L : Int → Bool) (cnt : Nat), RangeAt wx bh r regs Bh L cnt ∧ st wx G ∧ (∀ i x, G0 i x = true → G i x = true) ∧ Blk wx ob 60 oc ∧ ∀ q : Nat, Bh (q : Int) = true → L (q : Int) = false → Sym G a q
def D10 (st : World → (Nat → Int → Bool) → Prop) (G0 : Nat → Int → Bool) (Bh : Int → Bool) (d : List Int) (regs bh ob a : Nat) (oc : Array Value) (i : Value) (wx : World) : Prop :=
  ∃ (n : Nat) (G : Nat → Int → Bool), n ≤ d.length ∧ i = .int .i64 (n : Int) ∧ st wx G ∧ (∀ i x, G0 i x = true → G i x = true) ∧ SetAt wx bh regs Bh ∧ Blk wx ob 60 oc ∧
    (∀ q : Nat, Bh (q : Int) = true → Sym G a q) ∧ ∀ j (h : j < d.length), j < n → Sym G a d[j].toNat
theorem build_any (b : Bo) (cs : List Value) (w : World) (hr : RepB w b cs) (hbo : bodyB b = true) : Calls Try.prog 15 #[.agg cs.toArray] w (BuildOut b w) := by
  have hlen := code_le hbo
  have HWF := Lib.hid (wf_of hbo)
  have HR := Lib.hid hr
  have HBO := Lib.hid hbo
  obtain ⟨An, cn, Ap, cp, A, c, rfl, hT, hP, hO, hl⟩ := hr.nine
  obtain ⟨regs, hregs⟩ : ∃ regs : Nat, b.regs = (regs : Int) := ⟨b.regs.toNat, by have := (head_parts (head_of hbo)).2.2.2.1; omega⟩
  have hr8 : regs ≤ 8000 := by have := (head_parts (head_of hbo)).2.2.2.2.1; omega
  have hpos := (head_parts (head_of hbo)).2.2.2.2.2.1
  obtain ⟨bb, oo, -, -, -, -, -, -, -, -, rfl, -⟩ := hO.ten (k := 0) (by omega)
  have HO := Lib.hid hO
  rw [hregs] at HWF
  have hmk1 := run_make_row' (P := Try.prog) 47 46 (.map none) 8 Try.underlying47 info_map rfl .i64 .i64 regs (by omega) (by omega)
  have hmk2 := run_make_row' (P := Try.prog) 48 4 (.bool false) 1 Try.underlying48 info_boolR rfl .i64 .i64 regs (by omega) (by omega)
  rw [made_one] at hmk1 hmk2
  rw [← bits_zero] at hmk2
  rw [← hregs] at hmk1 hmk2
  have e0 : mapV [] regs = (List.replicate regs (Value.map none)).toArray := by unfold mapV; simp
  rw [← e0] at hmk1
  have HRG := Lib.hid hregs
  clear hr hT hP hO hl hbo hregs e0
  go_enter Try.func15, Try.ntmps15
  go_upto_region 1 with (fail)
  go_cut [3] from 20 to 27 (fun v wx => IniC regs w.heap.size #[.string b.nm, .bool b.static, .int .i64 b.ty.k, .string b.ty.nm, .slice An b.ty.ns.length cn, .slice Ap b.ty.ps.length cp, .bool b.ty.many, .int .i64 b.regs, .slice (some ⟨bb, oo, none⟩) b.code.length c] w v wx)
  case first =>
    go_region
    all_goals (try go_wp2)
    · go_meet
      exact ⟨_, _, _, rfl, ini_one regs _ w⟩
    · go_meet
      exact ⟨_, _, _, rfl, ini_two regs _ w⟩
  case rest =>
    obtain ⟨g, X, lb, rfl, hI⟩ := hcut
    have HI := Lib.hid hI
    have kg := hI.2.1.cell 0 (.slice (some ⟨X, 0, none⟩) regs regs) rfl
    have HMM := Lib.hid (@run_makeMap Try.prog)
    clear hI hmk1 hmk2
    go_wp2
    clear kg
    go_loopw [33] (fun i wr => IniR regs w.heap.size #[.string b.nm, .bool b.static, .int .i64 b.ty.k, .string b.ty.nm, .slice An b.ty.ns.length cn, .slice Ap b.ty.ps.length cp, .bool b.ty.many, .int .i64 b.regs, .slice (some ⟨bb, oo, none⟩) b.code.length c] g X lb w i wr) (fun i _ => regs - (intOf i).toNat)
    case atStart => exact ⟨[], Nat.zero_le _, rfl, HI.out⟩
    case round =>
      clear HI
      obtain ⟨ms, hm, rfl, hI⟩ := hrel
      by_cases hlt : ms.length < regs
      · have hm0 : (0 : Int) ≤ (ms.length : Int) := by omega
        have hm1 : (ms.length : Int) < (regs : Int) := by omega
        have hm6 : (ms.length : Int) < 8000 := by omega
        have kg := hI.2.1.cell 0 (.slice (some ⟨X, 0, none⟩) regs regs) rfl
        have c1 := hI.2.2.1.cell ms.length (.map none) (by
          unfold mapV
          rw [List.getElem?_toArray, List.getElem?_append_right (by simp), List.getElem?_replicate, if_pos (by simp; omega)])
        have f1 := hI.2.2.1.free ms.length
        have hlX := hI.2.2.1.lt
        have hlg := hI.2.1.lt
        have hnew := hI.make hlt
        rw [World.setCell_alloc_past (hn := hlX)] at hnew
        have HN := Lib.hid hnew
        have hmm := HMM.out
        clear hI hnew
        go_wp2
        go_roundw
        case rel => exact ⟨ms ++ [wr.heap.size], by simp only [List.length_append, List.length_singleton]; omega, by simp only [List.length_append, List.length_singleton]; go_num, HN.out⟩
        case measure => (first | (simp [intOf]; done) | (simp [intOf]; omega))
      · have hm1 : ¬ (ms.length : Int) < (regs : Int) := by omega
        have hml : ms.length = regs := by omega
        clear hlt hm hm1
        have hHl := hI.2.2.2.2.1.lt
        have q := hI.2.2.2.2.1
        have q0 := q.cell 0 (.string b.nm) rfl
        have q1 := q.cell 1 (.bool b.static) rfl
        have q2 := q.cell 2 (.int .i64 b.ty.k) rfl
        have q3 := q.cell 3 (.string b.ty.nm) rfl
        have q4 := q.cell 4 (.slice An b.ty.ns.length cn) rfl
        have q5 := q.cell 5 (.slice Ap b.ty.ps.length cp) rfl
        have q6 := q.cell 6 (.bool b.ty.many) rfl
        have q7 := q.cell 7 (.int .i64 b.regs) rfl
        have q8 := q.cell 8 (.slice (some ⟨bb, oo, none⟩) b.code.length c) rfl
        have HST := Lib.hid (sets_any b _ wr (HR.out.keep hI.2.2.2.2.2.2.2.2) HBO.out)
        have HI2 := Lib.hid hI
        clear hI q
        have hml0 : (regs : Int) ≤ (ms.length : Int) := by omega
        go_wp2_with fail
        (refine (HST.out).mono ?_; rintro e w2 ⟨I, ss, regs', hregs', rfl, hss, hI2, hM, hb2⟩)
        obtain rfl : regs = regs' := by have := HRG.out; omega
        have B0 := HI2.out.start hml rfl hb2 hss hI2 hM
        generalize hK : w2.heap.size = K at *
        generalize wr.heap.size = S0 at *
        have hss0 : 0 < ss.length := by omega
        have hw0 := hI2.cell 0 (.map (some ss[0])) (by simp [hss0])
        have HLR : Hid (∀ x, liveB b.code 0 x = true → 0 ≤ x ∧ x < (regs : Int)) := fun x hx => (liveB_iff.1 hx).reg HWF.out
        have HSET := Lib.hid (hM.2 0 hss0).2
        have HS0 := Lib.hid (B0.not_ms (hM.2 0 hss0).1)
        have HB0 := Lib.hid B0
        have hl0 : (0 : Int) < (b.code.length : Int) := by omega
        clear q0 q1 q2 q3 q4 q5 q6 q7 q8 HST HI2 hI2 hM hb2 B0 hregs'
        generalize hs0 : ss[0] = s0 at *
        generalize hbd : cntR regs (liveB b.code 0) = bd at *
        clear hbd
        go_wp2_with (at_range; refine wpList_set_range _ rfl _ rfl s0 bd _ (by rfl) HSET.out ?_; intro w3 cnt3 hrg3 hg3 hs3; have HG3 := Lib.hid hrg3; have HGR := Lib.hid hg3; have HS3 := Lib.hid hs3; clear hrg3 hg3 hs3)
        go_frame
        have b3 : Below w2.heap.size w2 w3 := ⟨HGR.out.os, HGR.out.tape, HGR.out.output, HGR.out.size, fun i hi => HGR.out.block i hi (by simp)⟩
        have HB3 := Lib.hid (HB0.out.keep b3)
        have HK : Hid (w2.heap.size = K) := hK
        clear HSET HGR HS3 hw0 b3 HB0 hK
        go_loopw [] (fun wx => Ed2 (fun wx G => Bst w.heap.size S0 K regs b.code #[.string b.nm, .bool b.static, .int .i64 b.ty.k, .string b.ty.nm, .slice An b.ty.ns.length cn, .slice Ap b.ty.ps.length cp, .bool b.ty.many, .int .i64 b.regs, .slice (some ⟨bb, oo, none⟩) b.code.length c] g X lb I ms ss w wx G (fun _ => false)) (liveB b.code 0) s0 w2.heap.size bd wx) (fun wx => wx.rangeLeft s0 w2.heap.size)
        case atStart => exact ⟨_, _, cnt3, HG3.out, HB3.out, fun p q h1 h2 => by rw [h1] at h2; cases h2⟩
        case round =>
          clear HG3 HB3
          obtain ⟨G, L, cnt, hrg, hst, hsy⟩ := hrel
          have HRG1 := Lib.hid hrg
          have HST1 := Lib.hid hst
          have HSY := Lib.hid hsy
          clear hrg hst hsy
          go_wp2_with (at_next; refine wpList_set_next _ rfl _ rfl s0 w2.heap.size bd (liveB b.code 0) L cnt (by rfl) HRG1.out ?_ ?_)
          · intro hdone
            have hr0 : Req0 b.code G := fun p q h1 h2 => HSY.out p q h1 (hdone _ ((wf_iff _).2 (by have := HLR.out _ h1; omega))) h2
            have HR0 := Lib.hid hr0
            have q8 := HST1.out.body.cell 8 (.slice (some ⟨bb, oo, none⟩) b.code.length c) rfl
            clear hdone hr0 HSY HRG1
            go_upto_region 16 with (fail)
            clear q8
            go_loopg [69] b.code.length (fun gk i wx => OrdR b.code b.code.length (fun wx G lg => Bst w.heap.size S0 K regs b.code #[.string b.nm, .bool b.static, .int .i64 b.ty.k, .string b.ty.nm, .slice An b.ty.ns.length cn, .slice Ap b.ty.ps.length cp, .bool b.ty.many, .int .i64 b.regs, .slice (some ⟨bb, oo, none⟩) b.code.length c] g X lb I ms ss w wx G lg) gk i wx)
            case atStart => exact ⟨0, G, _, Nat.zero_le _, rfl, rfl, HST1.out, HR0.out, fun i hi h => absurd h (by omega)⟩
            case round =>
              clear HST1 HR0
              obtain ⟨k, G1, lg, hk, rfl, rfl, hst, hr0, hrk⟩ := hrel
              by_cases hkl : k < b.code.length
              · have hk0 : (0 : Int) ≤ (k : Int) := by omega
                have hk1 : (k : Int) < (b.code.length : Int) := by omega
                have hk6 : (k : Int) < 6000 := by omega
                obtain ⟨bb2, oo2, Ad, cd, As, c', An', cn', Ap', cp', hA, hbl2, hrep, hcs⟩ := HO.out.ten hkl
                obtain ⟨rfl, rfl⟩ : bb = bb2 ∧ oo = oo2 := by simpa using hA
                obtain ⟨c0, c1, c2, c3, c4, c5, c6, c7, c8, c9⟩ := hcs wr hst.below
                obtain ⟨Adx, cdx, Asx, csx, Anx, cnx, Apx, cpx, hcsx, hD, hS, -, -, hdl, hsl, -⟩ := hrep.ten
                obtain ⟨rfl, rfl, rfl, rfl⟩ : Ad = Adx ∧ cd = cdx ∧ As = Asx ∧ c' = csx := by
                  simp only [List.cons.injEq, Value.slice.injEq] at hcsx
                  exact ⟨hcsx.2.1.1, hcsx.2.1.2.2, hcsx.2.2.1.1, hcsx.2.2.1.2.2⟩
                have X : Below wr.heap.size wr ((wr.alloc (.cells #[.int .i64 b.code[k].op, .slice Ad b.code[k].d.length cd, .slice As b.code[k].s.length c', .int .i64 b.code[k].n, .string b.code[k].nm, .int .i64 b.code[k].ty.k, .string b.code[k].ty.nm, .slice An' b.code[k].ty.ns.length cn', .slice Ap' b.code[k].ty.ps.length cp', .bool b.code[k].ty.many] 60)).alloc (.map #[] 0)) := by (repeat (first | with_reducible assumption | with_reducible exact Below.refl _ _ | (refine Below.setCell ?_ (by first | omega | (simp; done) | (simp; omega)) _) | (refine Below.drewN_ ?_ _) | (refine Below.drew ?_) | (refine Below.alloc ?_ (by first | omega | (simp; done) | (simp; omega)) _)))
                have hst2 := hst.keep X
                have kO := (Blk.new_ wr 60 #[.int .i64 b.code[k].op, .slice Ad b.code[k].d.length cd, .slice As b.code[k].s.length c', .int .i64 b.code[k].n, .string b.code[k].nm, .int .i64 b.code[k].ty.k, .string b.code[k].ty.nm, .slice An' b.code[k].ty.ns.length cn', .slice Ap' b.code[k].ty.ps.length cp', .bool b.code[k].ty.many]).alloc (.map #[] 0)
                have hB : SetAt ((wr.alloc (.cells #[.int .i64 b.code[k].op, .slice Ad b.code[k].d.length cd, .slice As b.code[k].s.length c', .int .i64 b.code[k].n, .string b.code[k].nm, .int .i64 b.code[k].ty.k, .string b.code[k].ty.nm, .slice An' b.code[k].ty.ns.length cn', .slice Ap' b.code[k].ty.ps.length cp', .bool b.code[k].ty.many] 60)).alloc (.map #[] 0)) (wr.heap.size + 1) 0 (fun _ => false) := by
                  have := SetAt.made (wr.alloc (.cells #[.int .i64 b.code[k].op, .slice Ad b.code[k].d.length cd, .slice As b.code[k].s.length c', .int .i64 b.code[k].n, .string b.code[k].nm, .int .i64 b.code[k].ty.k, .string b.code[k].ty.nm, .slice An' b.code[k].ty.ns.length cn', .slice Ap' b.code[k].ty.ps.length cp', .bool b.code[k].ty.many] 60))
                  simpa using this
                have y8 := hst.body.cell 8 (.slice (some ⟨bb, oo, none⟩) b.code.length c) rfl
                have hlHr := hst.body.lt
                have HLD := Lib.hid (leads_any (some ⟨bb, oo, none⟩) c b.code k _ (HO.out.keep hst2.below) hkl hlen)
                have HWD : Hid (∀ x ∈ b.code[k].d, 0 ≤ x ∧ x < (regs : Int)) := fun x hx => HWF.out.writes k hkl x hx
                have HWL : Hid (∀ x ∈ leadsL b.code[k] k, 0 ≤ x ∧ x < (b.code.length : Int)) := fun x hx => HWF.out.leads k hkl x hx
                have HBEH : Hid (∀ q, Beh b.code k q → ∃ t : Nat, (t : Int) ∈ leadsL b.code[k] k ∧ liveB b.code t q = true) := fun q ⟨_, t, h⟩ => ⟨t, h⟩
                have HNX : Hid (∀ G2 lg2, ReqK b.code k G2 lg2 → ReqO b.code[k].d (b.code[k].op == 7 || b.code[k].op == 8) (Beh b.code k) G2 lg2 → ReqK b.code (k + 1) G2 lg2) := fun G2 lg2 h1 h2 => h1.next (fun _ => h2)
                have hll := leadsL_len b.code[k] k
                have HST2 := Lib.hid hst2
                have HKB : Hid (K ≤ wr.heap.size) := hst.big
                have HD := Lib.hid hD
                have HB := Lib.hid hB
                have HR0 := Lib.hid hr0
                have HRK := Lib.hid hrk
                have hmm := HMM.out
                clear hst hst2 hr0 hrk hrep hcs hcsx hD hS hA X hB
                generalize leadsL b.code[k] k = ld at *
                generalize b.code[k] = o at *
                unfold maxLen at hsl hdl
                go_wp2_with fail
                (refine (HLD.out).mono ?_; rintro e w5 ⟨Al, cl, rfl, hnl, hb5⟩)
                have HST5 := Lib.hid (HST2.out.keep hb5)
                have kO5 := kO.below hb5
                have HB5 := Lib.hid (HB.out.below hb5)
                obtain ⟨gl, hg⟩ : ∃ gl, ld ≠ [] → Al = some ⟨gl, 0, none⟩ ∧ Blk w5 gl 3 (ld.map i64).toArray := by
                  rcases hnl with h | ⟨gl, h1, h2, h3, h4⟩
                  · exact ⟨0, fun h' => absurd h h'⟩
                  · exact ⟨gl, fun _ => ⟨h1, h4⟩⟩
                have HGG := Lib.hid hg
                have HGA : Hid (ld ≠ [] → Al = some ⟨gl, 0, none⟩) := fun h => (hg h).1
                generalize wr.heap.size = ob at *
                clear hg hnl hb5 HLD HST2 kO c0 c1 c2 c3 c4 c5 c6 c7 c8 c9 y8 hlHr HB
                go_wp2
                go_loopw [80] (fun i wx => LdR b.code (fun wx => Bst w.heap.size S0 K regs b.code #[.string b.nm, .bool b.static, .int .i64 b.ty.k, .string b.ty.nm, .slice An b.ty.ns.length cn, .slice Ap b.ty.ps.length cp, .bool b.ty.many, .int .i64 b.regs, .slice (some ⟨bb, oo, none⟩) b.code.length c] g X lb I ms ss w wx G1 lg) regs (ob + 1) gl ob #[.int .i64 o.op, .slice Ad o.d.length cd, .slice As o.s.length c', .int .i64 o.n, .string o.nm, .int .i64 o.ty.k, .string o.ty.nm, .slice An' o.ty.ns.length cn', .slice Ap' o.ty.ps.length cp', .bool o.ty.many] ld i wx) (fun i _ => ld.length - (intOf i).toNat)
                case atStart => exact ⟨0, _, Nat.zero_le _, rfl, HST5.out, (SetAt.mono HB5.out (Nat.zero_le _)), (fun _ h => by cases h), (fun j _ h => absurd h (by omega)), kO5, fun h => (HGG.out h).2⟩
                case round =>
                  clear HST5 HB5 kO5 HGG
                  obtain ⟨m, Bh, hm, rfl, hst, hB, hBr, hBa, hO, hgl⟩ := hrel
                  by_cases hml2 : m < ld.length
                  · have hne : ld ≠ [] := fun e => by rw [e] at hml2; simp at hml2
                    obtain rfl := HGA.out hne
                    have hgb := hgl hne
                    obtain ⟨t, ht⟩ : ∃ t : Nat, ld[m] = (t : Int) := ⟨ld[m].toNat, by have := HWL.out _ (List.getElem_mem hml2); omega⟩
                    have htl : t < b.code.length := by have := HWL.out _ (List.getElem_mem hml2); omega
                    have hts : t < ss.length := by omega
                    have g0 := hgb.cell m (.int .i64 (t : Int)) (by simp [hml2, i64, ht])
                    have m0 : (0 : Int) ≤ (m : Int) := by omega
                    have m1 : (m : Int) < (ld.length : Int) := by omega
                    have m2 : (m : Int) < 2 := by omega
                    have t0 : (0 : Int) ≤ (t : Int) := by omega
                    have t1 : (t : Int) < (b.code.length : Int) := by omega
                    have hw0 := hst.live.cell t (.map (some ss[t])) (by simp [hts])
                    have HSET := Lib.hid (hst.sets.2 t hts).2
                    have HTK : Hid (ss[t] < K) := hst.top.2.2.2.2.2 _ (List.getElem_mem hts)
                    have HLT : Hid (∀ x, liveB b.code t x = true → 0 ≤ x ∧ x < (regs : Int)) := fun x hx => (liveB_iff.1 hx).reg HWF.out
                    have HBA2 : Hid (∀ Bh2 : Int → Bool, (∀ x, Bh x = true → Bh2 x = true) → (∀ x, liveB b.code t x = true → Bh2 x = true) → ∀ j (h : j < ld.length), j < m + 1 → ∀ x, liveB b.code ld[j].toNat x = true → Bh2 x = true) := fun Bh2 h1 h2 j hj hjm x hx => by
                      rcases Nat.lt_or_ge j m with h3 | h3
                      · exact h1 x (hBa j hj h3 x hx)
                      · obtain rfl : j = m := by omega
                        rw [ht, Int.toNat_natCast] at hx
                        exact h2 x hx
                    have HST := Lib.hid hst
                    have HB := Lib.hid hB
                    have HBR := Lib.hid hBr
                    have HOO := Lib.hid hO
                    have HGB := Lib.hid hgb
                    have HOL : Hid (ob + 1 < wr.heap.size) := hB.lt
                    have hlg := hgb.lt
                    have hlI := hst.live.lt
                    clear hst hB hBr hBa hO hgl hgb ht
                    generalize ss[t] = st at *
                    generalize hbd2 : cntR regs (liveB b.code t) = bd2 at *
                    clear hbd2
                    go_wp2_with (at_range; refine wpList_set_range _ rfl _ rfl st bd2 _ (by rfl) HSET.out ?_; intro w6 cnt6 hrg6 hg6 hs6; have HG6 := Lib.hid hrg6; have HGR6 := Lib.hid hg6; clear hrg6 hg6 hs6)
                    obtain ⟨W0, rfl⟩ : ∃ W0 : World, W0 = wr := ⟨_, rfl⟩
                    have b6 : Below W0.heap.size W0 w6 := ⟨HGR6.out.os, HGR6.out.tape, HGR6.out.output, HGR6.out.size, fun i hi => HGR6.out.block i hi (by simp)⟩
                    have HST6 := Lib.hid (HST.out.keep b6)
                    have HB6 := Lib.hid (HB.out.below b6)
                    have HO6 := Lib.hid (HOO.out.below b6)
                    have HGB6 := Lib.hid (HGB.out.below b6)
                    clear b6 HGR6 HST HB HOO HGB HSET hw0 g0 hlg hlI
                    go_loopw [] (fun wx => Ld6 (liveB b.code t) Bh (fun wx => Bst w.heap.size S0 K regs b.code #[.string b.nm, .bool b.static, .int .i64 b.ty.k, .string b.ty.nm, .slice An b.ty.ns.length cn, .slice Ap b.ty.ps.length cp, .bool b.ty.many, .int .i64 b.regs, .slice (some ⟨bb, oo, none⟩) b.code.length c] g X lb I ms ss w wx G1 lg) regs st W0.heap.size bd2 (ob + 1) gl ob #[.int .i64 o.op, .slice Ad o.d.length cd, .slice As o.s.length c', .int .i64 o.n, .string o.nm, .int .i64 o.ty.k, .string o.ty.nm, .slice An' o.ty.ns.length cn', .slice Ap' o.ty.ps.length cp', .bool o.ty.many] ld wx) (fun wx => wx.rangeLeft st W0.heap.size)
                    case atStart => exact ⟨_, Bh, cnt6, HG6.out, HST6.out, HB6.out, HBR.out, (fun _ h => h), (fun x h1 h2 => by rw [h1] at h2; cases h2), HO6.out, HGB6.out⟩
                    case round =>
                      clear HG6 HST6 HB6 HO6 HGB6 HBR
                      obtain ⟨L6, Bh6, cntx, hrg, hst, hB, hBr, hBu, hBl, hO, hgb⟩ := hrel
                      have HRG := Lib.hid hrg
                      have HST := Lib.hid hst
                      have HB := Lib.hid hB
                      have HBR := Lib.hid hBr
                      have HBU := Lib.hid hBu
                      have HBL := Lib.hid hBl
                      have HOO := Lib.hid hO
                      have HGB := Lib.hid hgb
                      clear hrg hst hB hBr hBu hBl hO hgb
                      go_wp2_with (at_next; refine wpList_set_next _ rfl _ rfl st W0.heap.size bd2 (liveB b.code t) L6 cntx (by rfl) HRG.out ?_ ?_)
                      · intro hdone
                        have hall := HBA2.out Bh6 HBU.out (fun x hx => HBL.out x hx (hdone x ((wf_iff x).2 (by have := HLT.out x hx; omega))))
                        have HALL := Lib.hid hall
                        clear hall hdone HBL HBU HRG
                        go_wp2
                        go_roundw
                        case rel => exact ⟨m + 1, Bh6, by omega, by go_num, HST.out, HB.out, HBR.out, HALL.out, HOO.out, fun _ => HGB.out⟩
                        case measure => (first | (simp [intOf]; done) | (simp [intOf]; omega))
                      · intro x w7 cnt7 hwx hLx hSx hrg7 hlt7 hg7 hs7 hen
                        have hxr := HLT.out x hSx
                        have n1 : W0.heap.size ≠ ob + 1 := by have := HOL.out; omega
                        have HST7 := Lib.hid (HST.out.grown hg7 (by have := HKB.out; have := HOL.out; omega))
                        have HB7 := Lib.hid (HB.out.kept hg7 (by intro e; injection e with e; exact n1 e.symm))
                        have hO7 := HOO.out.grown hg7 (by intro e; injection e with e; have := HOL.out; omega)
                        have hG7 := HGB.out.grown hg7 (by
                          intro e; injection e with e
                          obtain ⟨a1, a2, a3, a4, a5⟩ := HRG.out.at_iter
                          have h := HGB.out
                          unfold Blk at h
                          rw [← e, h] at a5
                          cases a5)
                        have HO7 := Lib.hid hO7
                        have HG7 := Lib.hid hG7
                        have HRG7 := Lib.hid hrg7
                        have HLT7 : Hid (cnt7 < cntx) := hlt7
                        have HLE : Hid (wr.rangeLeft st W0.heap.size = cntx) := HRG.out.left_eq
                        clear hrg7 hlt7 hg7 hs7 hLx hSx HRG HST HB HOO HGB hO7 hG7
                        go_wp2_with (at_mapUpdate; go_must ((refine wpList_set_put _ rfl _ _ _ rfl (ob + 1) regs Bh6 (by rfl) HB7.out x (by rfl) (by rfl) hwx (by unfold maxLen; omega) ?_; intro w8 hs8 hg8; have HS8 := Lib.hid hs8; have HG8 := Lib.hid hg8; clear hs8 hg8)))
                        have HST8 := Lib.hid (HST7.out.grown HG8.out (by have := HKB.out; omega))
                        have HRG8 := Lib.hid (HRG7.out.kept HG8.out (by have := HTK.out; have := HKB.out; intro e; injection e with e; omega) (by intro e; injection e with e; exact n1 e))
                        have HO8 := Lib.hid (HO7.out.grown HG8.out (by intro e; injection e with e; omega))
                        have HG9 := Lib.hid (HG7.out.grown HG8.out (fun e => by
                          injection e with e
                          exact set_ne_blk HB7.out HG7.out e))
                        have hBr8 : ∀ y, ((y == x) || Bh6 y) = true → 0 ≤ y ∧ y < (regs : Int) := fun y hy => by
                          rw [Bool.or_eq_true, beq_iff_eq] at hy
                          rcases hy with rfl | hy
                          · exact hxr
                          · exact HBR.out y hy
                        have HBR8 := Lib.hid hBr8
                        clear hBr8 hxr n1 hwx
                        go_frame
                        go_wp2
                        go_roundw
                        case rel =>
                          refine ⟨_, _, cnt7, HRG8.out, HST8.out, HS8.out.tight regs HBR8.out, HBR8.out, fun y hy => ?_, fun y h1 h2 => ?_, HO8.out, HG9.out⟩
                          · simp only [HBU.out y hy, Bool.or_true]
                          · by_cases e : y = x
                            · subst e; simp
                            · have e' : (y == x) = false := by simpa using e
                              simp only [e', Bool.not_false, Bool.and_true] at h2
                              simp only [HBL.out y h1 h2, Bool.or_true]
                        case measure =>
                          rw [HRG8.out.left_eq, HLE.out]
                          exact HLT7.out
                  · have hm1 : ¬ (m : Int) < (ld.length : Int) := by omega
                    have hbe : ∀ q, Beh b.code k q → Bh q = true := fun q hq => by
                      obtain ⟨t, ht, hl⟩ := HBEH.out q hq
                      obtain ⟨j, hj, e⟩ := List.mem_iff_getElem.1 ht
                      exact hBa j hj (by omega) q (by rw [e, Int.toNat_natCast]; exact hl)
                    have HBE := Lib.hid hbe
                    have HST := Lib.hid hst
                    have HB := Lib.hid hB
                    have HBR := Lib.hid hBr
                    have HOO := Lib.hid hO
                    clear hbe hst hB hBr hBa hgl hO HBEH HWL HGA
                    go_upto_region 27 with (fail)
                    obtain ⟨W0, rfl⟩ : ∃ W0 : World, W0 = wr := ⟨_, rfl⟩
                    go_cut [103] from 96 to 103 (fun v wx => v = .bool (o.op == 7 || o.op == 8) ∧ wx = W0)
                    case first =>
                      have h := HOO.out.cell 0 (.int .i64 o.op) rfl
                      rcases Bool.eq_false_or_eq_true (o.op == 7) with e7 | e7
                      · go_wp2
                        go_meet
                        exact ⟨by rw [e7]; rfl, rfl⟩
                      · rcases Bool.eq_false_or_eq_true (o.op == 8) with e8 | e8
                        · go_wp2
                          go_meet
                          exact ⟨by rw [e7, e8]; rfl, rfl⟩
                        · go_wp2
                          go_meet
                          exact ⟨by rw [e7, e8]; rfl, rfl⟩
                    case rest =>
                      obtain ⟨rfl, rfl⟩ := hcut
                      generalize (o.op == 7 || o.op == 8) = call at *
                      go_upto_if 103 with (fail)
                      go_cut [14] from 104 to 129 (fun v wx => LgC (fun wx lg => Bst w.heap.size S0 K regs b.code #[.string b.nm, .bool b.static, .int .i64 b.ty.k, .string b.ty.nm, .slice An b.ty.ns.length cn, .slice Ap b.ty.ps.length cp, .bool b.ty.many, .int .i64 b.regs, .slice (some ⟨bb, oo, none⟩) b.code.length c] g X lb I ms ss w wx G1 lg) lg Bh o.d call regs (ob + 1) ob #[.int .i64 o.op, .slice Ad o.d.length cd, .slice As o.s.length c', .int .i64 o.n, .string o.nm, .int .i64 o.ty.k, .string o.ty.nm, .slice An' o.ty.ns.length cn', .slice Ap' o.ty.ps.length cp', .bool o.ty.many] wx)
                      case first =>
                        cases call
                        · go_wp2
                          go_meet
                          exact ⟨lg, HST.out, fun _ h => h, (fun h => by cases h), HB.out, HOO.out⟩
                        · go_wp2_with (at_range; refine wpList_set_range _ rfl _ rfl (ob + 1) regs Bh (by rfl) HB.out ?_; intro w6 cnt6 hrg6 hg6 hs6; have HG6 := Lib.hid hrg6; have HGR6 := Lib.hid hg6; clear hrg6 hg6 hs6)
                          have b6 : Below wc.heap.size wc w6 := ⟨HGR6.out.os, HGR6.out.tape, HGR6.out.output, HGR6.out.size, fun i hi => HGR6.out.block i hi (by simp)⟩
                          have HST6 := Lib.hid (HST.out.keep b6)
                          have HO6 := Lib.hid (HOO.out.below b6)
                          have HOL : Hid (ob + 1 < wc.heap.size) := HB.out.lt
                          clear b6 HGR6 HST HOO HB
                          go_loopg [] cnt6 (fun gk wx => Lg7 (fun wx lg => Bst w.heap.size S0 K regs b.code #[.string b.nm, .bool b.static, .int .i64 b.ty.k, .string b.ty.nm, .slice An b.ty.ns.length cn, .slice Ap b.ty.ps.length cp, .bool b.ty.many, .int .i64 b.regs, .slice (some ⟨bb, oo, none⟩) b.code.length c] g X lb I ms ss w wx G1 lg) lg Bh o.d regs (ob + 1) wc.heap.size ob #[.int .i64 o.op, .slice Ad o.d.length cd, .slice As o.s.length c', .int .i64 o.n, .string o.nm, .int .i64 o.ty.k, .string o.ty.nm, .slice An' o.ty.ns.length cn', .slice Ap' o.ty.ps.length cp', .bool o.ty.many] gk wx)
                          case atStart => exact ⟨lg, _, HG6.out, HST6.out, (fun _ h => h), (fun x h1 h2 => by rw [h1] at h2; cases h2), HO6.out⟩
                          case round =>
                            clear HG6 HST6 HO6
                            obtain ⟨lg7, L7, hrg, hst, hup, hdn, hO⟩ := hrel
                            have HRG := Lib.hid hrg
                            have HST7 := Lib.hid hst
                            have HUP := Lib.hid hup
                            have HDN := Lib.hid hdn
                            have HO7 := Lib.hid hO
                            clear hrg hst hup hdn hO
                            go_wp2_with (at_next; refine wpList_set_next _ rfl _ rfl (ob + 1) wc.heap.size regs Bh L7 _ (by rfl) HRG.out ?_ ?_)
                            · intro hdone
                              have hall : ∀ x, Bh x = true → x ∉ o.d → lg7 x = true := fun x h1 h2 => HDN.out x h1 (hdone x ((wf_iff x).2 (by have := HBR.out x h1; omega))) h2
                              have HALL := Lib.hid hall
                              have HB9 := Lib.hid HRG.out.set
                              clear hall hdone HDN HRG
                              go_wp2
                              go_meet
                              exact ⟨lg7, HST7.out, HUP.out, fun _ => HALL.out, HB9.out, HO7.out⟩
                            · intro x w8 cnt8 hwx hLx hSx hrg8 hlt8 hg8 hs8 hen
                              obtain ⟨q, rfl⟩ : ∃ q : Nat, x = (q : Int) := ⟨x.toNat, by have := HBR.out x hSx; omega⟩
                              have hqr : q < regs := by have := HBR.out _ hSx; omega
                              have hst8 := HST7.out.grown hg8 (by have := HKB.out; have := HOL.out; omega)
                              have hO8 := HO7.out.grown hg8 (by intro e; injection e with e; have := HOL.out; omega)
                              have c1 := hst8.gr.cell 1 (.slice (some ⟨lb, 0, none⟩) regs regs) rfl
                              have c2 := hst8.long.cell q (.bool (lg7 (q : Int))) (bits_at lg7 hqr)
                              have f2 := hst8.long.free q
                              have o1 := hO8.cell 1 (.slice Ad o.d.length cd) rfl
                              have q0 : (0 : Int) ≤ (q : Int) := by omega
                              have q1 : (q : Int) < (regs : Int) := by omega
                              have q8 : (q : Int) < 8000 := by omega
                              have HCO := Lib.hid (containsI_any Ad cd o.d (q : Int) w8.drew (Row.keep HD.out hst8.below.drew) (by unfold maxLen; omega))
                              have HST8 := Lib.hid hst8
                              have HO8 := Lib.hid hO8
                              have HRG8 := Lib.hid hrg8
                              have HLT8 := Lib.hid hlt8
                              clear hst8 hO8 hrg8 hlt8 hg8 hs8 hLx hSx hwx HRG HST7 HO7
                              have hrel2 : ∀ v : Bool, v = (lg7 (q : Int) || !o.d.contains (q : Int)) → Lg7 (fun wx lg => Bst w.heap.size S0 K regs b.code #[.string b.nm, .bool b.static, .int .i64 b.ty.k, .string b.ty.nm, .slice An b.ty.ns.length cn, .slice Ap b.ty.ps.length cp, .bool b.ty.many, .int .i64 b.regs, .slice (some ⟨bb, oo, none⟩) b.code.length c] g X lb I ms ss w wx G1 lg) lg Bh o.d regs (ob + 1) wc.heap.size ob #[.int .i64 o.op, .slice Ad o.d.length cd, .slice As o.s.length c', .int .i64 o.n, .string o.nm, .int .i64 o.ty.k, .string o.ty.nm, .slice An' o.ty.ns.length cn', .slice Ap' o.ty.ps.length cp', .bool o.ty.many] cnt8 (w8.drew.setCell ⟨lb, q, none⟩ (.bool v)) := fun v hv => by
                                have bd : Below w8.heap.size w8 w8.drew := (Below.refl _ _).drew
                                have hg := grow_set w8.drew lb q (.bool v)
                                have hlb := HST8.out.top.2.2.2.1
                                have h1 := HKB.out
                                have h2 := HOL.out
                                refine ⟨fun y => (v && (y == (q : Int))) || lg7 y, _, (HRG8.out.kept (grow_below' bd none) (by simp) (by simp)).kept hg (by intro e; injection e with e; omega) (by intro e; injection e with e; omega), (HST8.out.keep bd).setLong hqr v (fun h => by rw [hv, h]; rfl), fun y hy => by simp only [HUP.out y hy, Bool.or_true], fun y h3 h4 h5 => ?_, (HO8.out.below bd).grown hg (by intro e; injection e with e; omega)⟩
                                by_cases e : y = (q : Int)
                                · subst e
                                  have hc : o.d.contains (q : Int) = false := by
                                    rw [Bool.eq_false_iff]
                                    intro h
                                    exact h5 (List.contains_iff_mem.1 h)
                                  rw [hv, hc]
                                  simp
                                · have e' : (y == (q : Int)) = false := by simpa using e
                                  simp only [e', Bool.not_false, Bool.and_true] at h4
                                  simp only [HDN.out y h3 h4 h5, Bool.or_true]
                              have HREL := Lib.hid hrel2
                              clear hrel2 HRG8 HST8 HO8 HUP HDN
                              go_upto_region 31 with (fail)
                              clear hen
                              generalize o.d.contains (q : Int) = ct at *
                              generalize lg7 (q : Int) = lq at *
                              cases lq
                              · go_region_with (go_at_call 38; refine (HCO.out).mono ?_; rintro e w9 ⟨rfl, rfl⟩)
                                all_goals (try go_wp2)
                                all_goals (go_roundg cnt8)
                                all_goals first
                                  | exact HLT8.out
                                  | exact HREL.out _ (by cases ct <;> rfl)
                                  | exact HREL.out true (by cases ct <;> rfl)
                                  | exact HREL.out (!ct) (by cases ct <;> rfl)
                              · go_region
                                all_goals (try go_wp2)
                                all_goals (go_roundg cnt8)
                                all_goals first
                                  | exact HLT8.out
                                  | exact HREL.out _ (by cases ct <;> rfl)
                                  | exact HREL.out true (by cases ct <;> rfl)
                                  | exact HREL.out (!ct) (by cases ct <;> rfl)
                      case rest =>
                        obtain ⟨lg2, hst, hup, hcl, hB, hO⟩ := hcut
                        have hwd := fun (n : Nat) (h : n < o.d.length) => HWD.out _ (List.getElem_mem h)
                        have HWD2 := Lib.hid hwd
                        have HRK2 := Lib.hid (HRK.out.up (fun _ _ h => h) hup)
                        have HCL := Lib.hid hcl
                        have HST2 := Lib.hid hst
                        have HB2 := Lib.hid hB
                        have HO2 := Lib.hid hO
                        have o1 := hO.cell 1 (.slice Ad o.d.length cd) rfl
                        clear hst hup hcl hB hO hwd HRK HST HB HOO
                        go_wp2
                        clear o1
                        go_loopw [133] (fun i wx => D8 (fun wx G => Bst w.heap.size S0 K regs b.code #[.string b.nm, .bool b.static, .int .i64 b.ty.k, .string b.ty.nm, .slice An b.ty.ns.length cn, .slice Ap b.ty.ps.length cp, .bool b.ty.many, .int .i64 b.regs, .slice (some ⟨bb, oo, none⟩) b.code.length c] g X lb I ms ss w wx G lg2) G1 Bh o.d regs (ob + 1) ob #[.int .i64 o.op, .slice Ad o.d.length cd, .slice As o.s.length c', .int .i64 o.n, .string o.nm, .int .i64 o.ty.k, .string o.ty.nm, .slice An' o.ty.ns.length cn', .slice Ap' o.ty.ps.length cp', .bool o.ty.many] i wx) (fun i _ => o.d.length - (intOf i).toNat)
                        case atStart => exact ⟨0, G1, Nat.zero_le _, rfl, HST2.out, (fun _ _ h => h), HB2.out, HO2.out, fun j _ h => absurd h (by omega)⟩
                        case round =>
                          clear HST2 HB2 HO2
                          obtain ⟨n, G8, hn, rfl, hst, hmo, hB, hO, hdn⟩ := hrel
                          by_cases hnl : n < o.d.length
                          · obtain ⟨bs, os, rfl, hbs, cs0⟩ := (Row.keep HD.out hst.below).i64 hnl
                            obtain ⟨a, ha⟩ : ∃ a : Nat, o.d[n] = (a : Int) := ⟨o.d[n].toNat, by have := HWD2.out n hnl; omega⟩
                            have har : a < regs := by have := HWD2.out n hnl; omega
                            rw [ha] at cs0
                            have n0 : (0 : Int) ≤ (n : Int) := by omega
                            have n1 : (n : Int) < (o.d.length : Int) := by omega
                            have HST := Lib.hid hst
                            have HMO := Lib.hid hmo
                            have HB := Lib.hid hB
                            have HO8 := Lib.hid hO
                            have HDN := Lib.hid hdn
                            have HAE : Hid (o.d[n] = (a : Int)) := ha
                            clear hst hmo hB hO hdn ha
                            go_wp2_with (at_range; refine wpList_set_range _ rfl _ rfl (ob + 1) regs Bh (by rfl) HB.out ?_; intro w6 cnt6 hrg6 hg6 hs6; have HG6 := Lib.hid hrg6; have HGR6 := Lib.hid hg6; clear hrg6 hg6 hs6)
                            go_frame
                            obtain ⟨W0, rfl⟩ : ∃ W0 : World, W0 = wr := ⟨_, rfl⟩
                            have b6 : Below W0.heap.size W0 w6 := ⟨HGR6.out.os, HGR6.out.tape, HGR6.out.output, HGR6.out.size, fun i hi => HGR6.out.block i hi (by simp)⟩
                            have HST6 := Lib.hid (HST.out.keep b6)
                            have HO6 := Lib.hid (HO8.out.below b6)
                            have HOL : Hid (ob + 1 < W0.heap.size) := HB.out.lt
                            clear b6 HGR6 HST HO8 HB cs0
                            go_loopw [] (fun wx => D9 (fun wx G => Bst w.heap.size S0 K regs b.code #[.string b.nm, .bool b.static, .int .i64 b.ty.k, .string b.ty.nm, .slice An b.ty.ns.length cn, .slice Ap b.ty.ps.length cp, .bool b.ty.many, .int .i64 b.regs, .slice (some ⟨bb, oo, none⟩) b.code.length c] g X lb I ms ss w wx G lg2) G8 Bh regs (ob + 1) W0.heap.size ob a #[.int .i64 o.op, .slice (some ⟨bs, os, none⟩) o.d.length cd, .slice As o.s.length c', .int .i64 o.n, .string o.nm, .int .i64 o.ty.k, .string o.ty.nm, .slice An' o.ty.ns.length cn', .slice Ap' o.ty.ps.length cp', .bool o.ty.many] wx) (fun wx => wx.rangeLeft (ob + 1) W0.heap.size)
                            case atStart => exact ⟨G8, _, cnt6, HG6.out, HST6.out, (fun _ _ h => h), HO6.out, fun q h1 h2 => by rw [h1] at h2; cases h2⟩
                            case round =>
                              clear HG6 HST6 HO6
                              obtain ⟨G9, L9, cnt9, hrg, hst, hmo9, hO, hdn9⟩ := hrel
                              have HRG := Lib.hid hrg
                              have HST := Lib.hid hst
                              have HMO9 := Lib.hid hmo9
                              have HO9 := Lib.hid hO
                              have HDN9 := Lib.hid hdn9
                              clear hrg hst hmo9 hO hdn9
                              go_wp2_with (at_next; refine wpList_set_next _ rfl _ rfl (ob + 1) W0.heap.size regs Bh L9 cnt9 (by rfl) HRG.out ?_ ?_)
                              · intro hdone
                                have hall : ∀ q : Nat, Bh (q : Int) = true → Sym G9 a q := fun q h1 => HDN9.out q h1 (hdone _ ((wf_iff _).2 (by have := HBR.out _ h1; omega)))
                                have HALL := Lib.hid hall
                                have HB9 := Lib.hid HRG.out.set
                                have o1 := HO9.out.cell 1 (.slice (some ⟨bs, os, none⟩) o.d.length cd) rfl
                                clear hall hdone HDN9 HRG
                                go_wp2
                                clear o1
                                go_loopw [150] (fun i wx => D10 (fun wx G => Bst w.heap.size S0 K regs b.code #[.string b.nm, .bool b.static, .int .i64 b.ty.k, .string b.ty.nm, .slice An b.ty.ns.length cn, .slice Ap b.ty.ps.length cp, .bool b.ty.many, .int .i64 b.regs, .slice (some ⟨bb, oo, none⟩) b.code.length c] g X lb I ms ss w wx G lg2) G9 Bh o.d regs (ob + 1) ob a #[.int .i64 o.op, .slice (some ⟨bs, os, none⟩) o.d.length cd, .slice As o.s.length c', .int .i64 o.n, .string o.nm, .int .i64 o.ty.k, .string o.ty.nm, .slice An' o.ty.ns.length cn', .slice Ap' o.ty.ps.length cp', .bool o.ty.many] i wx) (fun i _ => o.d.length - (intOf i).toNat)
                                case atStart => exact ⟨0, G9, Nat.zero_le _, rfl, HST.out, (fun _ _ h => h), HB9.out, HO9.out, HALL.out, fun j _ h => absurd h (by omega)⟩
                                case round =>
                                  clear HST HB9 HO9 HALL
                                  obtain ⟨n2, G10, hn2, rfl, hst, hmo10, hB, hO, hall, hdn10⟩ := hrel
                                  have HST := Lib.hid hst
                                  have HMO10 := Lib.hid hmo10
                                  have HB10 := Lib.hid hB
                                  have HO10 := Lib.hid hO
                                  have HALL := Lib.hid hall
                                  have HDN10 := Lib.hid hdn10
                                  clear hst hmo10 hB hO hall hdn10
                                  by_cases hnl2 : n2 < o.d.length
                                  · obtain ⟨bs2, os2, hA2, hbs2, cs2⟩ := (Row.keep HD.out HST.out.below).i64 hnl2
                                    obtain ⟨rfl, rfl⟩ : bs = bs2 ∧ os = os2 := by simpa using hA2
                                    obtain ⟨a2, ha2⟩ : ∃ a2 : Nat, o.d[n2] = (a2 : Int) := ⟨o.d[n2].toNat, by have := HWD2.out n2 hnl2; omega⟩
                                    have har2 : a2 < regs := by have := HWD2.out n2 hnl2; omega
                                    rw [ha2] at cs2
                                    have HAE2 : Hid (o.d[n2] = (a2 : Int)) := ha2
                                    have m0 : (0 : Int) ≤ (n2 : Int) := by omega
                                    have m1 : (n2 : Int) < (o.d.length : Int) := by omega
                                    have HSP := Lib.hid (HST.out.split_call hr8 har har2)
                                    clear ha2 hA2
                                    go_wp2_with fail
                                    (refine (HSP.out).mono ?_; rintro e w7 ⟨rfl, hE7, ho7⟩)
                                    have h1 := HKB.out
                                    have h2 := HST.out.sk
                                    have HST7 := Lib.hid (HST.out.split hE7 ho7)
                                    have HB7 := Lib.hid (ho7.set HB10.out (HST.out.not_ms (by omega)))
                                    have HO7 := Lib.hid (ho7.blk HO10.out (HST.out.not_ms (by omega)))
                                    clear hE7 ho7 HSP h1 h2 HST HB10 HO10 cs2
                                    go_wp2
                                    go_roundw
                                    case rel =>
                                      refine ⟨n2 + 1, _, by omega, by go_num, HST7.out, fun i x h => addE_up (HMO10.out i x h), HB7.out, HO7.out, fun q h => (HALL.out q h).up (fun _ _ h => addE_up h), fun j hj hlt => ?_⟩
                                      rcases Nat.lt_or_ge j n2 with h3 | h3
                                      · exact (HDN10.out j hj h3).up (fun _ _ h => addE_up h)
                                      · obtain rfl : j = n2 := by omega
                                        rw [HAE2.out, Int.toNat_natCast]
                                        exact Sym.new_ _ _ _
                                    case measure => (first | (simp [intOf]; done) | (simp [intOf]; omega))
                                  · have hm1 : ¬ (n2 : Int) < (o.d.length : Int) := by omega
                                    have hnew : ∀ j (h : j < o.d.length), j < n + 1 → ∀ q : Nat, (Bh (q : Int) = true ∨ (q : Int) ∈ o.d) → Sym G10 o.d[j].toNat q := fun j hj hlt q hq => by
                                      rcases Nat.lt_or_ge j n with h3 | h3
                                      · exact ((HDN.out j hj h3 q hq).up HMO9.out).up HMO10.out
                                      · obtain rfl : j = n := by omega
                                        rw [HAE.out, Int.toNat_natCast]
                                        rcases hq with hq | hq
                                        · exact HALL.out q hq
                                        · obtain ⟨j2, hj2, e⟩ := List.mem_iff_getElem.1 hq
                                          have := HDN10.out j2 hj2 (by omega)
                                          rw [e, Int.toNat_natCast] at this
                                          exact this
                                    have HNEW := Lib.hid hnew
                                    have HMN : Hid (∀ i x, G1 i x = true → G10 i x = true) := fun i x h => HMO10.out i x (HMO9.out i x (HMO.out i x h))
                                    clear hnew HDN HMO HMO9 HMO10 HDN10 HALL HAE hnl2 hn2
                                    go_wp2
                                    go_roundw
                                    case rel => exact ⟨n + 1, G10, by omega, by go_num, HST.out, HMN.out, HB10.out, HO10.out, HNEW.out⟩
                                    case measure => (first | (simp [intOf]; done) | (simp [intOf]; omega))
                              · intro x w8 cnt8 hwx hLx hSx hrg8 hlt8 hg8 hs8 hen
                                obtain ⟨q, rfl⟩ : ∃ q : Nat, x = (q : Int) := ⟨x.toNat, by have := HBR.out x hSx; omega⟩
                                have hqr : q < regs := by have := HBR.out _ hSx; omega
                                have hst8 := HST.out.grown hg8 (by have := HKB.out; have := HOL.out; omega)
                                have HO10 := Lib.hid (HO9.out.grown hg8 (by intro e; injection e with e; have := HOL.out; omega))
                                have HSP := Lib.hid (hst8.split_call hr8 har hqr)
                                have HST8 := Lib.hid hst8
                                have HRG8 := Lib.hid hrg8
                                have HLT8 : Hid (cnt8 < cnt9) := hlt8
                                have HLE8 : Hid (wr.rangeLeft (ob + 1) W0.heap.size = cnt9) := HRG.out.left_eq
                                clear hst8 hrg8 hlt8 hg8 hs8 hLx hSx hwx HRG HST HO9
                                go_wp2_with fail
                                (refine (HSP.out).mono ?_; rintro e w7 ⟨rfl, hE7, ho7⟩)
                                have h1 := HKB.out
                                have h2 := HST8.out.sk
                                have HST7 := Lib.hid (HST8.out.split hE7 ho7)
                                have HRG7 := Lib.hid (HRG8.out.only1 ho7 (HST8.out.not_ms (by omega)) HST8.out.maps_)
                                have HO7 := Lib.hid (ho7.blk HO10.out (HST8.out.not_ms (by omega)))
                                clear hE7 ho7 HSP h1 h2 HST8 HRG8 HO10
                                go_wp2
                                go_roundw
                                case rel =>
                                  refine ⟨_, _, cnt8, HRG7.out, HST7.out, fun i x h => addE_up (HMO9.out i x h), HO7.out, fun q' h1 h2 => ?_⟩
                                  by_cases e : q' = q
                                  · subst e; exact Sym.new_ _ _ _
                                  · refine (HDN9.out q' h1 ?_).up (fun _ _ h => addE_up h)
                                    have : ((q' : Int) == (q : Int)) = false := by rw [beq_eq_false_iff_ne]; omega
                                    rw [this] at h2
                                    simpa using h2
                                case measure =>
                                  rw [HRG7.out.left_eq, HLE8.out]
                                  exact HLT8.out
                          · have hm1 : ¬ (n : Int) < (o.d.length : Int) := by omega
                            have hreq : ReqO o.d call (Beh b.code k) G8 lg2 := by
                              refine ⟨fun a q h1 h2 => ?_, fun hc q h1 h2 => HCL.out hc q (HBE.out q h1) h2⟩
                              obtain ⟨j, hj, e⟩ := List.mem_iff_getElem.1 h1
                              have := hdn j hj (by omega) q (h2.imp (fun h => HBE.out _ h) id)
                              rw [e, Int.toNat_natCast] at this
                              exact this
                            have HRK3 := Lib.hid (HNX.out G8 lg2 (HRK2.out.up hmo (fun _ h => h)) hreq)
                            have HR3 := Lib.hid (HR0.out.up hmo)
                            have HST3 := Lib.hid hst
                            clear hst hmo hB hO hdn hreq
                            go_wp2
                            go_roundg (b.code.length - (k + 1))
                            case measure => omega
                            case rel => exact ⟨k + 1, G8, lg2, by omega, by go_num, rfl, HST3.out, HR3.out, HRK3.out⟩
              · have hm1 : ¬ (k : Int) < (b.code.length : Int) := by omega
                obtain rfl : k = b.code.length := by omega
                have HST3 := Lib.hid hst
                have HR3 := Lib.hid hr0
                have HRK3 := Lib.hid hrk
                clear hst hr0 hrk
                go_wp2
                go_ret
                exact ⟨regs, g, X, lb, ms, G1, lg, HRG.out, rfl, HST3.out.rowsOf, HST3.out.edges, HST3.out.long, HR3.out, HRK3.out, HST3.out.below⟩
          · intro x w4 cnt4 hwx hLx hSx hrg4 hlt4 hg4 hs4 hen
            obtain ⟨p, rfl⟩ : ∃ p : Nat, x = (p : Int) := ⟨x.toNat, by have := HLR.out x hSx; omega⟩
            have hpr : p < regs := by have := HLR.out _ hSx; omega
            have hst4 := HST1.out.grown hg4 (Nat.le_of_eq HK.out.symm)
            have hw0 := hst4.live.cell 0 (.map (some s0)) (by simp [hss0, hs0])
            have HLT : Hid (cnt4 < cnt) := hlt4
            have HLE : Hid (wr.rangeLeft s0 w2.heap.size = cnt) := HRG1.out.left_eq
            have HRG4 := Lib.hid hrg4
            have HST4 := Lib.hid hst4
            have HSX : Hid (liveB b.code 0 (p : Int) = true) := hSx
            have HKL : Hid (K < w4.heap.size) := by
              have := hrg4.lt
              have h := HK.out
              show _ < _
              omega
            clear hrg4 hst4 hlt4 hg4 hLx hSx hwx HRG1 HST1 hs4
            go_wp2_with (at_range; refine wpList_set_range _ rfl _ rfl s0 bd _ (by rfl) HRG4.out.set ?_; intro w5 cnt5 hrg5 hg5 hs5; have HG5 := Lib.hid hrg5; have HGR5 := Lib.hid hg5; clear hrg5 hg5 hs5)
            go_frame
            have b5 : Below w4.heap.size w4 w5 := ⟨HGR5.out.os, HGR5.out.tape, HGR5.out.output, HGR5.out.size, fun i hi => HGR5.out.block i hi (by simp)⟩
            have HST5 := Lib.hid (HST4.out.keep b5)
            have HRG5 := Lib.hid (HRG4.out.kept HGR5.out (by simp) (by simp))
            obtain ⟨wo, hwo⟩ : ∃ n : Nat, wr.rangeLeft s0 w2.heap.size = n := ⟨_, rfl⟩
            have HSYp : Hid (∀ p' q : Nat, liveB b.code 0 (p' : Int) = true → (L (p' : Int) && !((p' : Int) == (p : Int))) = false → p' ≠ p → liveB b.code 0 (q : Int) = true → Sym G p' q) := fun p' q h1 h2 h3 h4 => by
              refine HSY.out p' q h1 ?_ h4
              have : ((p' : Int) == (p : Int)) = false := by rw [beq_eq_false_iff_ne]; omega
              rw [this] at h2
              simpa using h2
            clear HSY b5 HGR5 HST4 HRG4 hw0 hen
            generalize hLo : (fun y => L y && !(y == (p : Int))) = Lo at *
            go_loopw [] (fun wx => Ed3 (fun wx G => Bst w.heap.size S0 K regs b.code #[.string b.nm, .bool b.static, .int .i64 b.ty.k, .string b.ty.nm, .slice An b.ty.ns.length cn, .slice Ap b.ty.ps.length cp, .bool b.ty.many, .int .i64 b.regs, .slice (some ⟨bb, oo, none⟩) b.code.length c] g X lb I ms ss w wx G (fun _ => false)) (liveB b.code 0) Lo s0 w2.heap.size w4.heap.size bd cnt4 p wx) (fun wx => wx.rangeLeft s0 w4.heap.size)
            case atStart => exact ⟨G, _, cnt5, HRG5.out, HG5.out, HST5.out, fun p' q h1 h2 h3 h4 => HSYp.out p' q h1 (by have e : (L (p' : Int) && !((p' : Int) == (p : Int))) = Lo (p' : Int) := congrFun hLo (p' : Int); rw [e]; exact h2) h3 h4, fun q h1 h2 => by rw [h1] at h2; cases h2⟩
            case round =>
              clear HG5 HST5 HRG5 HSYp HSX
              obtain ⟨G2, L2, cnt2, hrgo, hrg, hst, hsy1, hsy2⟩ := hrel
              have HRO := Lib.hid hrgo
              have HRG := Lib.hid hrg
              have HST2 := Lib.hid hst
              have HS1 := Lib.hid hsy1
              have HS2 := Lib.hid hsy2
              clear hrgo hrg hst hsy1 hsy2
              go_wp2_with (at_next; refine wpList_set_next _ rfl _ rfl s0 w4.heap.size bd (liveB b.code 0) L2 cnt2 (by rfl) HRG.out ?_ ?_)
              · intro hdone
                have hall : ∀ p' q : Nat, liveB b.code 0 (p' : Int) = true → Lo (p' : Int) = false → liveB b.code 0 (q : Int) = true → Sym G2 p' q := fun p' q h1 h2 h3 => by
                  by_cases e : p' = p
                  · subst e
                    exact HS2.out q h3 (hdone _ ((wf_iff _).2 (by have := HLR.out _ h3; omega)))
                  · exact HS1.out p' q h1 h2 e h3
                have HALL := Lib.hid hall
                clear hdone hall HS1 HS2 HRG
                go_wp2
                go_roundw
                case rel => exact ⟨G2, Lo, cnt4, HRO.out, HST2.out, HALL.out⟩
                case measure =>
                  rw [HRO.out.left_eq, HLE.out]
                  exact HLT.out
              · intro x w6 cnt6 hwx hLx hSx hrg6 hlt6 hg6 hs6 hen6
                obtain ⟨q, rfl⟩ : ∃ q : Nat, x = (q : Int) := ⟨x.toNat, by have := HLR.out x hSx; omega⟩
                have hqr : q < regs := by have := HLR.out _ hSx; omega
                have hst6 := HST2.out.grown hg6 (Nat.le_of_lt HKL.out)
                have n1 : s0 < K := HST2.out.top.2.2.2.2.2 _ (hs0 ▸ List.getElem_mem hss0)
                have n2 : w2.heap.size < w4.heap.size := by have := HK.out; have := HKL.out; omega
                have HRO6 := Lib.hid (HRO.out.kept hg6 (by have := HK.out; intro e; injection e with e; omega) (by intro e; injection e with e; omega))
                have HSP := Lib.hid (hst6.split_call hr8 hpr hqr)
                have HRG6 := Lib.hid hrg6
                have HST6 := Lib.hid hst6
                have HLT6 : Hid (cnt6 < cnt2) := hlt6
                have HLE2 : Hid (wr.rangeLeft s0 w4.heap.size = cnt2) := HRG.out.left_eq
                clear hrg6 hst6 hlt6 hLx hSx hwx hg6 HRG HRO HST2 hs6 n1 n2
                go_wp2_with fail
                (refine (HSP.out).mono ?_; rintro e w7 ⟨rfl, hE7, ho7⟩)
                have HST7 := Lib.hid (HST6.out.split hE7 ho7)
                have HRG7 := Lib.hid (HRG6.out.only1 ho7 HS0.out HST6.out.maps_)
                have HRO7 := Lib.hid (HRO6.out.only1 ho7 HS0.out HST6.out.maps_)
                clear hE7 ho7 HSP
                go_wp2
                go_roundw
                case rel =>
                  refine ⟨addE G2 p q, _, cnt6, HRO7.out, HRG7.out, HST7.out, fun p' q' h1 h2 h3 h4 => (HS1.out p' q' h1 h2 h3 h4).up (fun _ _ h => addE_up h), fun q' h1 h2 => ?_⟩
                  by_cases e : q' = q
                  · subst e; exact Sym.new_ _ _ _
                  · refine (HS2.out q' h1 ?_).up (fun _ _ h => addE_up h)
                    have : ((q' : Int) == (q : Int)) = false := by rw [beq_eq_false_iff_ne]; omega
                    rw [this] at h2
                    simpa using h2
                case measure =>
                  rw [HRG7.out.left_eq, HLE2.out]
                  exact HLT6.out
end Go.Proofs.Ytkkjkbljgaipcaa
/- The walk of colour.Of. -/
namespace Go.Proofs.Ytkkjkbljgaipcaa
open Go.RowKit
set_option linter.unusedVariables false
set_option linter.unusedSimpArgs false
set_option maxRecDepth 100000
set_option maxHeartbeats 16000000
theorem RangeAt.cnt_le {w : World} {b r m : Nat} {S L : Int → Bool} {cnt : Nat} (h : RangeAt w b r m S L cnt) : cnt ≤ m := by
  obtain ⟨n, D, left, h1, ⟨es, c, s, q, c0, -, -, hs, -, -, -, hc, -⟩, -⟩ := h
  rw [← hc]
  have := Array.size_filter_le (p := fun e : MapEntry => !q.contains e.born) (xs := es)
  unfold leftOf
  omega
/-- the first k places are as they may be -/
def LocsOk (G : Nat → Int → Bool) (lg : Int → Bool) (ls : List (Bool × Int)) (k : Nat) : Prop := ∀ r (h : r < ls.length), r < k → 0 ≤ ls[r].2 ∧ (ls[r].1 = false → ls[r].2 ≤ 11 ∧ (lg (r : Int) = true → 4 ≤ ls[r].2)) ∧ (ls[r].1 = true → ls[r].2 ≤ (r : Int)) ∧
  ∀ q (hq : q < r), G r (q : Int) = true → ls[r] ≠ ls[q]'(Nat.lt_trans hq h)
theorem LocsOk.next {G : Nat → Int → Bool} {lg : Int → Bool} {ls : List (Bool × Int)} {k : Nat} (h : LocsOk G lg ls k) (hk : k < ls.length) {s : Bool} {x : Int} (h0 : 0 ≤ x) (h1 : s = false → x ≤ 11 ∧ (lg (k : Int) = true → 4 ≤ x)) (h2 : s = true → x ≤ (k : Int))
    (h3 : ∀ q (hq : q < k), G k (q : Int) = true → (s, x) ≠ ls[q]'(Nat.lt_trans hq hk)) : LocsOk G lg (ls.set k (s, x)) (k + 1) := by
  intro r hr hlt
  simp only [List.length_set] at hr
  by_cases e : r = k
  · subst e
    rw [List.getElem_set_self]
    refine ⟨h0, h1, h2, fun q hq hG => ?_⟩
    rw [List.getElem_set_ne (by omega)]
    exact h3 q hq hG
  · rw [List.getElem_set_ne (by omega)]
    obtain ⟨a1, a2, a3, a4⟩ := h r hr (by omega)
    refine ⟨a1, a2, a3, fun q hq hG => ?_⟩
    rw [List.getElem_set_ne (by omega)]
    exact a4 q hq hG
def ColOut (b : Bo) (w : World) (e : Ending) (w' : World) : Prop :=
  (bodyB b = false ∧ e = .returned (.tuple #[.slice none 0 0, .int .i64 2]) ∧ Below w.heap.size w w') ∨
  (bodyB b = true ∧ ∃ (regs O : Nat) (ls : List (Bool × Int)) (G : Nat → Int → Bool) (lg : Int → Bool), b.regs = (regs : Int) ∧ e = .returned (.tuple #[.slice (some ⟨O, 0, none⟩) regs regs, .int .i64 0]) ∧ ls.length = regs ∧
    Blk w' O 52 (locCells ls).toArray ∧ LocsOk G lg ls regs ∧ Req0 b.code G ∧ ReqK b.code b.code.length G lg ∧ Below w.heap.size w w')
def OfR (G : Nat → Int → Bool) (lg : Int → Bool) (regs : Nat) (w w2 : World) (i : Value) (wx : World) : Prop :=
  ∃ (k : Nat) (ls : List (Bool × Int)), k ≤ regs ∧ i = .int .i64 (k : Int) ∧ ls.length = regs ∧ Blk wx w2.heap.size 52 (locCells ls).toArray ∧ LocsOk G lg ls k ∧ Below w2.heap.size w2 wx ∧ Below w.heap.size w wx
def TkR (G : Nat → Int → Bool) (ls : List (Bool × Int)) (regs k s r bt : Nat) (W0 wx : World) : Prop :=
  ∃ (L : Int → Bool) (cnt m : Nat) (T : Bool → Int → Bool), RangeAt wx s r regs (G k) L cnt ∧ m + cnt ≤ regs ∧ TakenAt wx bt m T ∧ (∀ st x, T st x = true → ∃ q, ∃ h : q < ls.length, q < k ∧ ls[q] = (st, x)) ∧
    (∀ q (h : q < ls.length), q < k → G k (q : Int) = true → L (q : Int) = false → T ls[q].1 ls[q].2 = true) ∧ Below W0.heap.size W0 wx
theorem colourOf_any (b : Bo) (cs : List Value) (w : World) (hr : RepB w b cs) (hm : ML w) : Calls Try.prog 6 #[.agg cs.toArray] w (ColOut b w) := by
  have HR := Lib.hid hr
  obtain ⟨An, cn, Ap, cp, A, c, rfl, -, -, -, -⟩ := hr.nine
  have B0 : Below w.heap.size w (w.alloc (.cells #[.string b.nm, .bool b.static, .int .i64 b.ty.k, .string b.ty.nm, .slice An b.ty.ns.length cn, .slice Ap b.ty.ps.length cp, .bool b.ty.many, .int .i64 b.regs, .slice A b.code.length c] 28)) := by (repeat (first | with_reducible assumption | with_reducible exact Below.refl _ _ | (refine Below.setCell ?_ (by first | omega | (simp; done) | (simp; omega)) _) | (refine Below.drewN_ ?_ _) | (refine Below.drew ?_) | (refine Below.alloc ?_ (by first | omega | (simp; done) | (simp; omega)) _)))
  have kb := Blk.new_ w 28 #[.string b.nm, .bool b.static, .int .i64 b.ty.k, .string b.ty.nm, .slice An b.ty.ns.length cn, .slice Ap b.ty.ps.length cp, .bool b.ty.many, .int .i64 b.regs, .slice A b.code.length c]
  have HC := Lib.hid (may3_any b _ _ (HR.out.keep B0) (hm.keep B0))
  have HB0 := Lib.hid B0
  clear hr hm B0
  go_enter Try.func6, Try.ntmps6
  go_wp2_with fail
  ((with_reducible refine (HC.out).mono ?_); rintro e w1 ⟨rfl, hb1⟩)
  have b1 := HB0.out.trans (hb1.mono HB0.out.size)
  have kb1 := kb.below hb1
  rcases hbo : bodyB b with _ | _
  · have HBO := Lib.hid hbo
    clear hbo
    go_wp2
    go_ret2
    exact .inl ⟨HBO.out, rfl, b1⟩
  have HBO := Lib.hid hbo
  have HST := Lib.hid (build_any b _ w1 (HR.out.keep b1) hbo)
  have hr8' := (head_parts (head_of hbo)).2.2.2.2.1
  clear hbo hb1 kb HC
  have q0 := kb1.cell 0 (.string b.nm) rfl
  have q1 := kb1.cell 1 (.bool b.static) rfl
  have q2 := kb1.cell 2 (.int .i64 b.ty.k) rfl
  have q3 := kb1.cell 3 (.string b.ty.nm) rfl
  have q4 := kb1.cell 4 (.slice An b.ty.ns.length cn) rfl
  have q5 := kb1.cell 5 (.slice Ap b.ty.ps.length cp) rfl
  have q6 := kb1.cell 6 (.bool b.ty.many) rfl
  have q7 := kb1.cell 7 (.int .i64 b.regs) rfl
  have q8 := kb1.cell 8 (.slice A b.code.length c) rfl
  go_wp2_with fail
  (refine (HST.out).mono ?_; rintro e w2 ⟨regs, g, X, lb, ms, G, lg, hregs, rfl, hrows, hE, hL, hq0, hqk, hb2⟩)
  have b2 := b1.trans (hb2.mono b1.size)
  have hr8 : regs ≤ 8000 := by omega
  have hmk := make_locs regs hr8
  rw [← hregs] at hmk
  have kb2 := kb1.below hb2
  have q7' := kb2.cell 7 (.int .i64 b.regs) rfl
  have kO := Blk.new_ w2 52 (locCells (List.replicate regs (false, 0))).toArray
  have bO : Below w2.heap.size w2 (w2.alloc (.cells (locCells (List.replicate regs (false, 0))).toArray 52)) := by (repeat (first | with_reducible assumption | with_reducible exact Below.refl _ _ | (refine Below.setCell ?_ (by first | omega | (simp; done) | (simp; omega)) _) | (refine Below.drewN_ ?_ _) | (refine Below.drew ?_) | (refine Below.alloc ?_ (by first | omega | (simp; done) | (simp; omega)) _)))
  have HKO := Lib.hid kO
  have HBO2 := Lib.hid bO
  have HROW := Lib.hid hrows
  have HE := Lib.hid hE
  have HL := Lib.hid hL
  have HQ0 := Lib.hid hq0
  have HQK := Lib.hid hqk
  have HRG := Lib.hid hregs
  have HB2 := Lib.hid b2
  have HMM := Lib.hid (@run_makeMap Try.prog)
  have hw1 := b1.size
  clear hregs hrows hE hL hq0 hqk hb2 b1 b2 q0 q1 q2 q3 q4 q5 q6 q7 q8 HST kb1 kO bO kb2 hr8' HB0
  go_upto_region 5 with (fail)
  clear hmk q7'
  generalize hW3 : w2.alloc (.cells (locCells (List.replicate regs (false, 0))).toArray 52) = w3 at *
  go_wp2
  go_loopw [19] (fun i wx => OfR G lg regs w w2 i wx) (fun i _ => regs - (intOf i).toNat)
  case atStart => exact ⟨0, _, Nat.zero_le _, rfl, by simp, HKO.out, fun r _ h => absurd h (by omega), HBO2.out, HB2.out.trans (HBO2.out.mono HB2.out.size)⟩
  case round =>
    clear HKO HBO2
    obtain ⟨k, ls, hk, rfl, hls, hO, hok, hb, hbw⟩ := hrel
    by_cases hlt : k < regs
    · have k0 : (0 : Int) ≤ (k : Int) := by omega
      have k1 : (k : Int) < (regs : Int) := by omega
      have k6 : (k : Int) < 8000 := by omega
      have hml := HROW.out.2.1
      have hkm : k < ms.length := by omega
      have c1 := (HROW.out.2.2.1.below hb).cell 0 (.slice (some ⟨X, 0, none⟩) regs regs) rfl
      have c2 := (HROW.out.2.2.2.below hb).cell k (.map (some ms[k])) (by simp [hkm])
      have hlX := (HROW.out.2.2.2.below hb).lt
      have hlg := (HROW.out.2.2.1.below hb).lt
      have X0 : Below wr.heap.size wr (wr.alloc (.map #[] 0)) := by (repeat (first | with_reducible assumption | with_reducible exact Below.refl _ _ | (refine Below.setCell ?_ (by first | omega | (simp; done) | (simp; omega)) _) | (refine Below.drewN_ ?_ _) | (refine Below.drew ?_) | (refine Below.alloc ?_ (by first | omega | (simp; done) | (simp; omega)) _)))
      have HNS : Hid (ms[k] < wr.heap.size) := ((HE.out.2.2 k hkm).2.below hb).lt
      have HSET := Lib.hid (((HE.out.2.2 k hkm).2.below hb).below X0)
      have HTK := Lib.hid (TakenAt.made wr)
      have HX0 := Lib.hid X0
      have HOO := Lib.hid hO
      have HOK := Lib.hid hok
      have HBB := Lib.hid hb
      have HBW := Lib.hid hbw
      have hmm := HMM.out
      clear hO hok hb hbw X0
      generalize ms[k] = s0 at *
      go_wp2_with (at_range; refine wpList_set_range _ rfl _ rfl s0 regs _ (by rfl) HSET.out ?_; intro w6 cnt6 hrg6 hg6 hs6; have HG6 := Lib.hid hrg6; have HGR6 := Lib.hid hg6; clear hrg6 hg6 hs6)
      go_frame
      obtain ⟨W0, rfl⟩ : ∃ W0 : World, W0 = wr := ⟨_, rfl⟩
      have e6 : (W0.alloc (.map #[] 0)).heap.size = W0.heap.size + 1 := by simp
      rw [e6] at HG6 ⊢
      have b6 : Below W0.heap.size W0 w6 := HX0.out.trans ((⟨HGR6.out.os, HGR6.out.tape, HGR6.out.output, HGR6.out.size, fun i hi => HGR6.out.block i hi (by simp)⟩ : Below (W0.alloc (.map #[] 0)).heap.size (W0.alloc (.map #[] 0)) w6).mono (by simp))
      have HTK6 := Lib.hid (HTK.out.kept HGR6.out (by simp))
      have HB6 := Lib.hid b6
      have hcl := HG6.out.cnt_le
      clear b6 HGR6 HTK HSET HX0 c1 c2 e6 hlX hlg
      go_loopw [] (fun wx => TkR G ls regs k s0 (W0.heap.size + 1) W0.heap.size W0 wx) (fun wx => wx.rangeLeft s0 (W0.heap.size + 1))
      case atStart => exact ⟨_, cnt6, 0, _, HG6.out, by omega, HTK6.out, (fun _ _ h => by cases h), (fun q h h1 h2 h3 => by rw [h2] at h3; cases h3), HB6.out⟩
      case round =>
        clear HG6 HTK6 HB6 hcl
        obtain ⟨L, cnt, m, T, hrg, hmc, hT, hT1, hT2, hbx⟩ := hrel
        have HRG1 := Lib.hid hrg
        have HT := Lib.hid hT
        have HT1 := Lib.hid hT1
        have HT2 := Lib.hid hT2
        have HBX := Lib.hid hbx
        clear hrg hT hT1 hT2 hbx
        go_wp2_with (at_next; refine wpList_set_next _ rfl _ rfl s0 (W0.heap.size + 1) regs (G k) L cnt (by rfl) HRG1.out ?_ ?_)
        · intro hdone
          have hfr : T true (k : Int) = false := by
            rcases e : T true (k : Int) with _ | _
            · rfl
            · obtain ⟨q, hq, hqk, he⟩ := HT1.out true (k : Int) e
              have := (HOK.out q hq hqk).2.2.1 (by rw [he])
              rw [he] at this
              simp only at this
              omega
          have hall : ∀ q (h : q < ls.length), q < k → G k (q : Int) = true → T ls[q].1 ls[q].2 = true := fun q h h1 h2 => HT2.out q h h1 h2 (hdone _ ((wf_iff _).2 (by omega)))
          have hbb := HBB.out.trans (HBX.out.mono HBB.out.size)
          have HBB2 := Lib.hid hbb
          have HBW2 := Lib.hid (HBW.out.trans (HBX.out.mono HBW.out.size))
          have HPK := Lib.hid (pick_any g X lb regs k W0.heap.size m lg T wr hlt hr8 (HROW.out.2.2.1.below hbb) (HL.out.below hbb) HT.out hfr)
          have HO2 := Lib.hid (HOO.out.below HBX.out)
          have HALL := Lib.hid hall
          clear hdone hfr hall hbb HT HT1 HT2 HRG1 HBX
          go_wp2_with fail
          (refine (HPK.out).mono ?_; rintro e w8 ⟨st, x, rfl, hTf, h0, h1, h2, hb8⟩)
          have hO8 := HO2.out.below hb8
          have hkl : k < ls.length := by omega
          obtain ⟨la, lb2⟩ := locCells_at ls hkl
          rw [Nat.mul_comm 2 k] at la lb2
          have o0 := hO8.cell (k * 2) (.bool ls[k].1) (by simpa using la)
          have o1 := hO8.cell (k * 2 + 1) (.int .i64 ls[k].2) (by simpa using lb2)
          have f0 := hO8.free (k * 2)
          have f1 := hO8.free (k * 2 + 1)
          have hO9 : Blk ((w8.setCell ⟨w2.heap.size, k * 2, none⟩ (.bool st)).setCell ⟨w2.heap.size, k * 2 + 1, none⟩ (.int .i64 x)) w2.heap.size 52 (locCells (ls.set k (st, x))).toArray := by
            have := (hO8.set_ (k * 2) (.bool st)).set_ (k * 2 + 1) (.int .i64 x)
            have e := locs_set (st, x) hkl
            rw [Nat.mul_comm 2 k] at e
            simp only at e
            rw [e] at this
            exact this
          have HO9 := Lib.hid hO9
          have hok2 : LocsOk G lg (ls.set k (st, x)) (k + 1) := HOK.out.next hkl h0 h1 h2 (fun q hq hG e => by
            have := HALL.out q (Nat.lt_trans hq hkl) hq hG
            rw [← e] at this
            rw [hTf] at this
            cases this)
          have HOK2 := Lib.hid hok2
          have HB8 := Lib.hid hb8
          have HO8 := Lib.hid hO8
          have hw2 := HB2.out.size
          clear hTf h0 h1 h2 hb8 hO8 la lb2 hok2 hO9
          go_wp2
          go_roundw
          case rel =>
            have hb9 := HBB2.out.trans (HB8.out.mono HBB2.out.size)
            have hbw9 := HBW2.out.trans (HB8.out.mono HBW2.out.size)
            exact ⟨k + 1, _, by omega, by go_num, by rw [List.length_set]; exact hls, HO9.out, HOK2.out, (hb9.setCell (p := ⟨w2.heap.size, k * 2, none⟩) (Nat.le_refl _) _).setCell (p := ⟨w2.heap.size, k * 2 + 1, none⟩) (Nat.le_refl _) _, (hbw9.setCell (p := ⟨w2.heap.size, k * 2, none⟩) hw2 _).setCell (p := ⟨w2.heap.size, k * 2 + 1, none⟩) hw2 _⟩
          case measure => (first | (simp [intOf]; done) | (simp [intOf]; omega))
        · intro x w7 cnt7 hwx hLx hSx hrg7 hlt7 hg7 hs7 hen
          obtain ⟨q, rfl⟩ : ∃ q : Nat, x = (q : Int) := ⟨x.toNat, by have := HE.out.2.1 k x hSx; omega⟩
          have hqr : q < regs := by have := HE.out.2.1 k _ hSx; omega
          have HRG7 := Lib.hid hrg7
          have HLT7 : Hid (cnt7 < cnt) := hlt7
          have HLE : Hid (wr.rangeLeft s0 (W0.heap.size + 1) = cnt) := HRG1.out.left_eq
          have HT7 := Lib.hid (HT.out.kept hg7 (by intro e; injection e with e; omega))
          have HBX7 := Lib.hid (HBX.out.grown hg7 (Nat.le_of_lt HT.out.lt) (fun j e => by injection e with e; omega))
          have hO7 := HOO.out.below HBX7.out
          have hql : q < ls.length := by omega
          obtain ⟨la, lb2⟩ := locCells_at ls hql
          rw [Nat.mul_comm 2 q] at la lb2
          have q0 : (0 : Int) ≤ (q : Int) := by omega
          have q1 : (q : Int) < (regs : Int) := by omega
          have hTL := HT.out.lt
          have HTL : Hid (W0.heap.size < w7.heap.size) := HT7.out.lt
          by_cases hqk : q < k
          · have qk : (q : Int) < (k : Int) := by omega
            have o0 := hO7.cell (q * 2) (.bool ls[q].1) (by simpa using la)
            have o1 := hO7.cell (q * 2 + 1) (.int .i64 ls[q].2) (by simpa using lb2)
            have hwl : (Lit.int .i64 ls[q].2).wf = true := by
              obtain ⟨a1, a2, a3, -⟩ := HOK.out q hql hqk
              refine (wf_iff _).2 ?_
              rcases e : ls[q].1 with _ | _
              · have := (a2 e).1; omega
              · have := a3 e; omega
            have HW := Lib.hid hwl
            clear hrg7 hlt7 hg7 hs7 hLx hSx hwx HRG1 HT HBX hO7 la lb2 hwl hTL
            go_wp2_with (at_mapUpdate; go_must ((refine wpList_taken_put _ rfl _ _ _ rfl W0.heap.size m T (by rfl) HT7.out ls[q].1 ls[q].2 (by rfl) (by rfl) HW.out (by unfold maxLen; omega) ?_; intro w9 hs9 hg9; have HS9 := Lib.hid hs9; have HG9 := Lib.hid hg9; clear hs9 hg9)))
            go_frame
            go_wp2
            have hrg9 := HRG7.out.kept HG9.out (by have := HNS.out; intro e; injection e with e; omega) (by intro e; injection e with e; omega)
            have HRG9 := Lib.hid hrg9
            clear hrg9
            go_roundw
            case rel =>
              refine ⟨_, cnt7, m + 1, _, HRG9.out, by have := HLT7.out; omega, HS9.out, fun st x hst => ?_, fun q' h1 h2 h3 h4 => ?_, HBX7.out.grown HG9.out (Nat.le_of_lt HTL.out) (fun j e => by injection e with e; omega)⟩
              · rw [Bool.or_eq_true, Bool.and_eq_true, beq_iff_eq, beq_iff_eq] at hst
                rcases hst with ⟨rfl, rfl⟩ | hst
                · exact ⟨q, hql, hqk, rfl⟩
                · exact HT1.out st x hst
              · by_cases e : q' = q
                · subst e; simp
                · have e' : ((q' : Int) == (q : Int)) = false := by rw [beq_eq_false_iff_ne]; omega
                  rw [e'] at h4
                  simp only [Bool.not_false, Bool.and_true] at h4
                  simp only [HT2.out q' h1 h2 h3 h4, Bool.or_true]
            case measure =>
              rw [HRG9.out.left_eq, HLE.out]
              exact HLT7.out
          · have qk : ¬ (q : Int) < (k : Int) := by omega
            clear hrg7 hlt7 hg7 hs7 hLx hSx hwx HRG1 HT HBX hO7 la lb2 hTL
            go_wp2
            go_roundw
            case rel =>
              refine ⟨_, cnt7, m, T, HRG7.out, by have := HLT7.out; omega, HT7.out, HT1.out, fun q' h1 h2 h3 h4 => HT2.out q' h1 h2 h3 ?_, HBX7.out⟩
              have e' : ((q' : Int) == (q : Int)) = false := by rw [beq_eq_false_iff_ne]; omega
              rw [e'] at h4
              simpa using h4
            case measure =>
              rw [HRG7.out.left_eq, HLE.out]
              exact HLT7.out
    · have hk1 : ¬ (k : Int) < (regs : Int) := by omega
      obtain rfl : k = regs := by omega
      have HOO := Lib.hid hO
      have HOK := Lib.hid hok
      have HBW := Lib.hid hbw
      clear hO hok hb hbw
      go_wp2
      go_ret2
      exact .inr ⟨HBO.out, k, w2.heap.size, ls, G, lg, HRG.out, rfl, hls, HOO.out, HOK.out, HQ0.out, HQK.out, HBW.out⟩
end Go.Proofs.Ytkkjkbljgaipcaa
/- The walk of ref13.Behind. -/
namespace Go.Proofs.Ytkkjkbljgaipcaa
open Go.RowKit
set_option linter.unusedVariables false
set_option linter.unusedSimpArgs false
set_option maxRecDepth 100000
set_option maxHeartbeats 4000000
noncomputable def behB (code : List Or) (ld : List Int) (r : Int) : Bool := ld.any fun k => liveB code k.toNat r
def BehOut (B : Bool) (w : World) (e : Ending) (w' : World) : Prop := e = .returned (.bool B) ∧ Below w.heap.size w w'
theorem behind_any (b : Bo) (cs : List Value) (w : World) (I regs i r : Nat) (bs : List Nat) (hr : RepB w b cs) (hbo : bodyB b = true) (hregs : b.regs = (regs : Int)) (hi : i < b.code.length) (hrr : r < regs) (hbl : bs.length = b.code.length)
    (hI : Blk w I 48 (bs.map fun m => Value.slice (some ⟨m, 0, none⟩) regs regs).toArray) (hB : ∀ i (h : i < bs.length), Blk w bs[i] 4 (bits regs (liveB b.code i))) :
    Calls Try.prog 22 #[.agg cs.toArray, .slice (some ⟨I, 0, none⟩) b.code.length b.code.length, .int .i64 (i : Int), .int .i64 (r : Int)] w (BehOut (behB b.code (leadsR b.code[i] i) (r : Int)) w) := by
  have hlen := code_le hbo
  have hwf := wf_of hbo
  have hr8 : regs ≤ 8000 := by have := (head_parts (head_of hbo)).2.2.2.2.1; omega
  have HR := Lib.hid hr
  obtain ⟨An, cn, Ap, cp, A, c, rfl, -, -, -, -⟩ := hr.nine
  have B0 : Below w.heap.size w (w.alloc (.cells #[.string b.nm, .bool b.static, .int .i64 b.ty.k, .string b.ty.nm, .slice An b.ty.ns.length cn, .slice Ap b.ty.ps.length cp, .bool b.ty.many, .int .i64 b.regs, .slice A b.code.length c] 28)) := by (repeat (first | with_reducible assumption | with_reducible exact Below.refl _ _ | (refine Below.setCell ?_ (by first | omega | (simp; done) | (simp; omega)) _) | (refine Below.drewN_ ?_ _) | (refine Below.drew ?_) | (refine Below.alloc ?_ (by first | omega | (simp; done) | (simp; omega)) _)))
  have HLD := Lib.hid (leadsR_any b _ i _ (HR.out.keep B0) hi hlen)
  have HLW : Hid (∀ x ∈ leadsR b.code[i] i, 0 ≤ x ∧ x < (b.code.length : Int)) := fun x hx => hwf.leads i hi x ((leadsR_mem _ _ _).1 hx)
  have hll := leadsR_len b.code[i] i
  have HB0 := Lib.hid B0
  have HI := Lib.hid hI
  have HB := Lib.hid hB
  have HRG := Lib.hid hregs
  have HBL := Lib.hid hbl
  have i0 : (0 : Int) ≤ (i : Int) := by omega
  have i1 : (i : Int) < (b.code.length : Int) := by omega
  have r0 : (0 : Int) ≤ (r : Int) := by omega
  have r1 : (r : Int) < (regs : Int) := by omega
  have hwl := hI.lt
  clear hr B0 hI hB hwf hregs hbl
  generalize leadsR b.code[i] i = ld at *
  obtain ⟨E, hE⟩ : ∃ E, behB b.code ld (r : Int) = E := ⟨_, rfl⟩
  rw [hE]
  have HE := Lib.hid hE
  clear hE
  go_enter Try.func22, Try.ntmps22
  go_wp2_with fail
  (refine (HLD.out).mono ?_; rintro e w2 ⟨Al, cl, rfl, hnl, hb2⟩)
  have b2 := HB0.out.trans (hb2.mono HB0.out.size)
  obtain ⟨gl, hg⟩ : ∃ gl, ld ≠ [] → Al = some ⟨gl, 0, none⟩ ∧ Blk w2 gl 3 (ld.map i64).toArray := by
    rcases hnl with h | ⟨gl, h1, h2, h3, h4⟩
    · exact ⟨0, fun h' => absurd h h'⟩
    · exact ⟨gl, fun _ => ⟨h1, h4⟩⟩
  have HGG := Lib.hid hg
  have HI2 := Lib.hid (HI.out.below b2)
  have HB2 : Hid (∀ i (h : i < bs.length), Blk w2 bs[i] 4 (bits regs (liveB b.code i))) := fun i h => (HB.out i h).below b2
  have HBB := Lib.hid b2
  clear hg hnl hb2 b2 HLD HB0 HI HB
  go_wp2
  go_loop [10] (fun v => ∃ m : Nat, m ≤ ld.length ∧ v = .int .i64 (m : Int) ∧ ∀ j (h : j < ld.length), j < m → liveB b.code ld[j].toNat (r : Int) = false) (fun v => ld.length - (intOf v).toNat)
  case atStart => exact ⟨0, Nat.zero_le _, rfl, fun j _ h => absurd h (by omega)⟩
  case round =>
    obtain ⟨m, hm, rfl, hpre⟩ := hrel
    by_cases hml : m < ld.length
    · have hne : ld ≠ [] := fun e => by rw [e] at hml; simp at hml
      obtain ⟨rfl, hgb⟩ := HGG.out hne
      obtain ⟨t, ht⟩ : ∃ t : Nat, ld[m] = (t : Int) := ⟨ld[m].toNat, by have := HLW.out _ (List.getElem_mem hml); omega⟩
      have htl : t < b.code.length := by have := HLW.out _ (List.getElem_mem hml); omega
      have htb : t < bs.length := by rw [HBL.out]; exact htl
      have g0 := hgb.cell m (.int .i64 (t : Int)) (by simp [hml, i64, ht])
      have m0 : (0 : Int) ≤ (m : Int) := by omega
      have m1 : (m : Int) < (ld.length : Int) := by omega
      have t0 : (0 : Int) ≤ (t : Int) := by omega
      have t1 : (t : Int) < (b.code.length : Int) := by omega
      have c1 := HI2.out.cell t (.slice (some ⟨bs[t], 0, none⟩) regs regs) (by simp [htb])
      have c2 := (HB2.out t htb).cell r (.bool (liveB b.code t (r : Int))) (bits_at _ hrr)
      rcases hv : liveB b.code t (r : Int) with _ | _
      · rw [hv] at c2
        have HPR : Hid (∀ j (h : j < ld.length), j < m + 1 → liveB b.code ld[j].toNat (r : Int) = false) := fun j hj hlt => by
          rcases Nat.lt_or_ge j m with h | h
          · exact hpre j hj h
          · obtain rfl : j = m := by omega
            rw [ht, Int.toNat_natCast]
            exact hv
        clear hpre ht hgb hv
        go_wp2
        go_round
        case rel => exact ⟨m + 1, by omega, by go_num, HPR.out⟩
        case measure => (first | (simp [intOf]; done) | (simp [intOf]; omega))
      · rw [hv] at c2
        have hb : behB b.code ld (r : Int) = true := List.any_eq_true.2 ⟨ld[m], List.getElem_mem hml, by rw [ht, Int.toNat_natCast]; exact hv⟩
        obtain rfl : E = true := by rw [← HE.out]; exact hb
        clear hpre ht hgb hv hb HE
        go_wp2
        go_ret
        exact ⟨rfl, HBB.out⟩
    · have hm1 : ¬ (m : Int) < (ld.length : Int) := by omega
      have hb : behB b.code ld (r : Int) = false := by
        rw [behB, List.any_eq_false]
        intro x hx
        obtain ⟨j, hj, rfl⟩ := List.mem_iff_getElem.1 hx
        rw [hpre j hj (by omega)]
        simp
      obtain rfl : E = false := by rw [← HE.out]; exact hb
      clear hpre hb HE
      go_wp2
      go_ret
      exact ⟨rfl, HBB.out⟩
end Go.Proofs.Ytkkjkbljgaipcaa
