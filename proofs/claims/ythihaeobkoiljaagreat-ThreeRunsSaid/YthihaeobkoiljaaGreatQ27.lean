/- Lemmas for the law. -/
import Derived.Test.YthihaeobkoiljaaGreatQ24
import Derived.Test.YthihaeobkoiljaaGreatQ25
import Derived.Test.YthihaeobkoiljaaGreatQ26
set_option linter.unusedVariables false
set_option linter.unusedSimpArgs false
set_option maxRecDepth 100000
set_option maxHeartbeats 40000000
namespace Go.Proofs.YthihaeobkoiljaaGreat
open Go.RowKit
theorem step_any {l : List Un} {w W : World} {bb oo c rv : Nat} (hr : RepS 3 RepU w (some ⟨bb, oo, none⟩) l) (L : Lnk l) (hh : ∀ u (h : u < l.length), l[u].bs.length ≤ 40) (hh2 : ∀ u (h : u < l.length), l[u].gs.length ≤ 40) {C : Option Addr} {dc : Nat} (x : Fm) (KT : List Fm) {O : Option Addr} {od : Nat} {V : Option Addr} {vd : Nat} {VS : List Value} (m : Ms) {n t : Nat} {E : Shw} {base : List Rc}
 (h : Hp w W (rfP w.heap.size rv (.slice (some ⟨bb, oo, none⟩) l.length c) C dc (x :: KT) O od m.out V vd VS m.vs 0 0 (t + 1) false base)) (hF : FrOk l x.f) (hk : KOk l (resW (bod l x.f.u x.f.i).ty) (KT.map Fm.f)) (hm : MsOk l m) (hV : VS.length = l.length) (ho : m.out.length ≤ t) (hK : KT.length + 1 ≤ 3000) (ht : t ≤ 100000000) (hE : run l (n + 1) x.f (KT.map Fm.f) m t = E) :
 Calls Tryz.prog 36 #[.pointer (some ⟨rv, 0, none⟩)] W (StpOut l w rv (.slice (some ⟨bb, oo, none⟩) l.length c) V vd VS base n (t + 1) E) := by
 obtain ⟨⟨gu, gi, gr, gb, q⟩, gR, gB⟩ := x
 replace hF : FrOk l ⟨gu, gi, gr, gb, q⟩ := hF
 replace hk : KOk l (resW (bod l gu gi).ty) (KT.map Fm.f) := hk
 replace hE : run l (n + 1) ⟨gu, gi, gr, gb, q⟩ (KT.map Fm.f) m t = E := hE
 have hpc : q < (bod l gu gi).code.length := hF.pc
 have hs100 := s_le (hF.oo L) (resW_le (hF.bo L).my (hF.bo L).ty).2
 replace hs100 : (cod l gu gi q).s.length ≤ 100 := hs100
 have hu : gu < l.length := hF.hu
 have hi : gi < (unAt l gu).bs.length := hF.hi
 have hgl : gr.length = (bod l gu gi).regs.toNat := hF.hr
 have hoo : OrdOk (bod l gu gi).ty (bod l gu gi).regs (bod l gu gi).code.length (cod l gu gi q) := hF.oo L
 have hrh : (bod l gu gi).regs ≤ 8000 := (hF.bo L).rh
 have hq6 : q < 6000 := by have : (bod l gu gi).code.length ≤ 6000 := (hF.bo L).n2; omega
 have hl4 := L.n4
 obtain ⟨b2, o2, ua, b3, o3, c', Ad, cd, As, cs, An, cn, Ap, cp, hRD, hRS, hTY, hmem⟩ := fr_mem hr hu hi hpc
 have HMEM := Lh hmem
 have HRD := Lh hRD
 have HRS := Lh hRS
 have HTY := Lh hTY
 have HF := Lh hF
 have HR := Lh hr
 have HH := Lh hh
 have HH2 := Lh hh2
 have HL := Lh L
 have HKO := Lh hk
 have HM := Lh hm
 have HE := Lh hE
 have HOO := Lh hoo
 have hord : ord l ⟨gu, gi, gr, gb, q⟩ = cod l gu gi q := rfl
 have HORD := Lh hord
 have HIX : Hid (∀ x : Int, 0 ≤ x ∧ x < (bod l gu gi).regs → ∃ k : Nat, x = (k : Int) ∧ k < gr.length ∧ k < 8000) := fun x hx => ⟨x.toNat, by omega, by omega, by omega⟩
 have hnb40 : (unAt l gu).bs.length ≤ 40 := by rw [unAt_at hu]; exact hh gu hu
 generalize hbl : (unAt l gu).bs.length = nb at *
 generalize hcl : (bod l gu gi).code.length = nc at *
 generalize hco : cod l gu gi q = o at *
 have HNC := Lh hcl
 clear hbl hcl hco hRD hRS hTY hmem hF hr hh hh2 L hk hm hE hoo hord hgl hrh
 obtain ⟨RA, rc, hgR, -⟩ := Row.of_own (show W.ownsRow w.heap.size 21 1 gR gr.length (gr.map i32) from h.ok (rI w.heap.size gR gr) (by simp [rfP, frP]))
 subst hgR
 obtain ⟨BA, bc, hgB, -⟩ := Row.of_own (show W.ownsRow w.heap.size 21 1 gB gb.length (gb.map i32) from h.ok (rI w.heap.size gB gb) (by simp [rfP, frP]))
 subst hgB
 have h : Hp w W (bx rv 85 #[.slice (some ⟨bb, oo, none⟩) l.length c, .slice C (KT.length + 1) dc, .slice V VS.length vd, .int .i64 0, .int .i32 0, .slice O m.out.length od, .int .i64 ((t + 1 : Nat) : Int), .bool false] :: ow w.heap.size 120 5 (.slice C (KT.length + 1) dc) (KT.length + 1) (callsC KT ++ ([.int .i64 (gu : Int), .int .i64 (gi : Int), .slice RA gr.length rc, .slice BA gb.length bc, .int .i64 (q : Int)] : List Value)) :: ow w.heap.size 21 1 (.slice O m.out.length od) m.out.length (m.out.map i32) :: ow w.heap.size 86 1 (.slice V VS.length vd) VS.length VS :: ow w.heap.size 21 1 (.slice RA gr.length rc) gr.length (gr.map i32) :: ow w.heap.size 21 1 (.slice BA gb.length bc) gb.length (gb.map i32) :: (KT.flatMap (frP w.heap.size) ++ (vrP w.heap.size VS m.vs ++ base))) := h
 obtain ⟨cb, rfl⟩ := own_some (h.own 1 rfl) (Nat.succ_pos _)
 have HS := Lh h
 clear h
 have r1 := HS.out.c 0 1
 have k1 : (KT.length : Int) < 3000 := by omega
 have k0 : (0 : Int) ≤ (KT.length : Int) := by omega
 have hwr : IntKind.i64.wrap (KT.length : Int) = (KT.length : Int) := by rw [IntKind.wrap_i64]; omega
 have k2 : (KT.length : Int) < (KT.length : Int) + 1 := by omega
 have hwq : IntKind.i64.wrap ((q : Int) + 1) = (q : Int) + 1 := by rw [IntKind.wrap_i64]; omega
 have hnb : (gu : Int) < (l.length : Int) := by omega
 have hnb0 : (0 : Int) ≤ (gu : Int) := by omega
 have hnb6 : (gu : Int) < 9 := by omega
 have j1 : (gi : Int) < (nb : Int) := by omega
 have j2 : (0 : Int) ≤ (gi : Int) := by omega
 have j3 : (gi : Int) < 100 := by omega
 have j4 : (q : Int) < (nc : Int) := by omega
 have j5 : (0 : Int) ≤ (q : Int) := by omega
 have j6 : (q : Int) < 10000 := by omega
 have HPC := Lh hpc
 have HBT : Hid (m.out.length ≤ t ∧ t ≤ 100000000 ∧ KT.length + 1 ≤ 3000) := ⟨ho, ht, hK⟩
 clear ho ht hK hpc hi
 obtain ⟨w0, rfl⟩ : ∃ x, x = W := ⟨_, rfl⟩
 go_enter Tryz.func36, Tryz.ntmps36
 go_upto_region 0 with (fail)
 replace HS := Lh HS.out.drew
 refine dQ (fun W => At W rv 1 (.slice (some ⟨cb, 0, none⟩) (KT.length + 1) dc)) (HS.out.c 0 1) fun _ => ?_
 generalize w0.drew = w1 at *
 refine tQ4 0 1 2 3 ?_; try simp only [sq]
 refine tQ4 4 5 6 7 ?_; try simp only [sq]
 refine tQ4 8 9 10 11 ?_; try simp only [sq]
 refine fQ ?_ _
 clear r1
 go_upto_region 1 with (fail)
 replace HS := Lh HS.out.drew
 refine dQ (fun W => At W rv 0 (.slice (some ⟨bb, oo, none⟩) l.length c) ∧ At W cb (KT.length * 5) (.int .i64 (gu : Int)) ∧ At W cb (KT.length * 5 + 1) (.int .i64 (gi : Int)) ∧ At W cb (KT.length * 5 + 4) (.int .i64 (q : Int)) ∧ At W bb (oo + gu * 3) (.slice (some ⟨b2, o2, none⟩) nb ua) ∧ At W b2 (o2 + gi * 9 + 8) (.slice (some ⟨b3, o3, none⟩) nc c') ∧ At W b3 (o3 + q * 10) (.int .i64 o.op) ∧ At W b3 (o3 + q * 10 + 1) (.slice Ad o.d.length cd) ∧ At W b3 (o3 + q * 10 + 2) (.slice As o.s.length cs) ∧ At W b3 (o3 + q * 10 + 3) (.int .i64 o.n) ∧ At W b3 (o3 + q * 10 + 4) (.string o.nm) ∧ At W b3 (o3 + q * 10 + 5) (.int .i64 o.ty.k) ∧ At W b3 (o3 + q * 10 + 6) (.string o.ty.nm) ∧ At W b3 (o3 + q * 10 + 7) (.slice An o.ty.ns.length cn) ∧ At W b3 (o3 + q * 10 + 8) (.slice Ap o.ty.ps.length cp) ∧ At W b3 (o3 + q * 10 + 9) (.bool o.ty.many)) (⟨HS.out.c 0 0, (call_cells (HS.out.own 1 rfl)).1, (call_cells (HS.out.own 1 rfl)).2.1, (call_cells (HS.out.own 1 rfl)).2.2.2.2, HMEM.out _ HS.out.mv⟩) fun _ => ?_
 generalize w1.drew = w2 at *
 refine tQ4 0 1 2 3 ?_; try simp only [sq]
 refine tQ4 4 5 6 7 ?_; try simp only [sq]
 refine tQ4 8 9 10 11 ?_; try simp only [sq]
 refine tQ4 12 13 14 15 ?_; try simp only [sq]
 refine tQ4 16 17 18 19 ?_; try simp only [sq]
 refine tQ4 20 21 22 23 ?_; try simp only [sq]
 refine rQ 24 (fun K hK => ?_)
 go_simp
 have HS0 := HS
 replace HS := Lh (HS.out.box 63 #[.int .i64 0, .slice none 0 0, .slice none 0 0, .int .i64 0, .string ⟨#[]⟩, .int .i64 0, .string ⟨#[]⟩, .slice none 0 0, .slice none 0 0, .bool false])
 refine hK.out _ _ (⟨HS.out.c 1 0, (call_cells (HS.out.own 2 rfl)).1, (call_cells (HS.out.own 2 rfl)).2.1, (call_cells (HS.out.own 2 rfl)).2.2.2.2, HMEM.out _ HS.out.mv⟩) (fun _ => ?_)
 clear hK K
 try simp only [sq]
 refine rQ 25 (fun K hK => ?_)
 go_simp
 replace HS := Lh (HS0.out.box 63 #[.int .i64 o.op, .slice Ad o.d.length cd, .slice As o.s.length cs, .int .i64 o.n, .string o.nm, .int .i64 o.ty.k, .string o.ty.nm, .slice An o.ty.ns.length cn, .slice Ap o.ty.ps.length cp, .bool o.ty.many])
 clear HS0
 generalize w2.alloc _ = w3 at *
 generalize w2.heap.size = ob at *
 refine hK.out _ _ (⟨HS.out.c 1 0, (call_cells (HS.out.own 2 rfl)).1, (call_cells (HS.out.own 2 rfl)).2.1, (call_cells (HS.out.own 2 rfl)).2.2.2.2, HMEM.out _ HS.out.mv⟩) (fun _ => ?_)
 clear hK K
 try simp only [sq]
 refine fQ ?_ _
 clear HMEM hnb hnb0 hnb6 j1 j2 j3 j4 j5 j6
 replace HS := Lh HS.out.f2
 have ce := (call_cells HS.out.one).2.2.2.2
 have fz := HS.out.one.frozenAt (KT.length * 5 + 4)
 go_upto_region 4 with (fail)
 clear ce fz
 replace HS := Lh (HS.out.rowput (KT.length * 5 + 4) (.int .i64 ((q : Int) + 1)))
 generalize w3.setCell _ _ = w4 at *
 rw [callsC_set4] at HS
 clear hwq hwr
 replace HS := Lh HS.out.f1.f6.f6.f6.f6.f5.f6
 obtain ⟨sl, hsl⟩ : ∃ x, src ⟨gu, gi, gr, gb, q⟩ o = x := ⟨_, rfl⟩
 have HSL : Hid (sl.length = o.s.length) := by show _ = _; rw [← hsl, src_len]
 have HSI : Hid (∀ i (h : i < o.s.length), ∃ k : Nat, ∃ hk : k < gr.length, o.s[i] = (k : Int) ∧ k < 8000 ∧ (sl.take (i + 1)).map i32 = (sl.take i).map i32 ++ [.int .i32 gr[k]]) := fun i h => by
  obtain ⟨k, hk, hk2, hk8⟩ := HIX.out _ (HOO.out.s _ (List.getElem_mem h))
  refine ⟨k, hk2, hk, hk8, ?_⟩
  have := src_take (f := ⟨gu, gi, gr, gb, q⟩) h hk hk2
  rw [hsl] at this
  exact this
 have HSQ := Lh hsl
 clear hsl
 replace HS := Lh (HS.out.row0 w.heap.size 21 1)
 go_wp2_with fail
 go_loopw [4, 5] (fun sv iv wr => ∃ (i : Nat) (Sa : Option Addr) (sc : Nat), i ≤ o.s.length ∧ iv = .int .i64 i ∧ sv = .slice Sa i sc ∧ Hid (Hp w wr (ow w.heap.size 21 1 (.slice Sa i sc) i ((sl.take i).map i32) :: bx rv 85 #[.slice (some ⟨bb, oo, none⟩) l.length c, .slice (some ⟨cb, 0, none⟩) (KT.length + 1) dc, .slice V VS.length vd, .int .i64 0, .int .i32 0, .slice O m.out.length od, .int .i64 ((t + 1 : Nat) : Int), .bool false] :: ow w.heap.size 120 5 (.slice (some ⟨cb, 0, none⟩) (KT.length + 1) dc) (KT.length + 1) (callsC KT ++ ([.int .i64 (gu : Int), .int .i64 (gi : Int), .slice RA gr.length rc, .slice BA gb.length bc, .int .i64 ((q : Int) + 1)] : List Value)) :: ow w.heap.size 21 1 (.slice O m.out.length od) m.out.length (m.out.map i32) :: ow w.heap.size 86 1 (.slice V VS.length vd) VS.length VS :: ow w.heap.size 21 1 (.slice RA gr.length rc) gr.length (gr.map i32) :: ow w.heap.size 21 1 (.slice BA gb.length bc) gb.length (gb.map i32) :: bx ob 63 #[.int .i64 o.op, .slice Ad o.d.length cd, .slice As o.s.length cs, .int .i64 o.n, .string o.nm, .int .i64 o.ty.k, .string o.ty.nm, .slice An o.ty.ns.length cn, .slice Ap o.ty.ps.length cp, .bool o.ty.many] :: (KT.flatMap (frP w.heap.size) ++ (vrP w.heap.size VS m.vs ++ base))))) (fun _ iv _ => o.s.length - (intOf iv).toNat)
 case atStart => exact ⟨0, none, 0, Nat.zero_le _, rfl, rfl, by show Hp _ _ _; rw [List.take_zero]; exact HS.out⟩
 case round =>
  clear HS; obtain ⟨i, Sa, sc, hik, rfl, rfl, HS⟩ := hrel
  obtain ⟨w5, rfl⟩ : ∃ x, x = wr := ⟨_, rfl⟩
  by_cases hlt : i < o.s.length
  ·obtain ⟨sn, hsn, hsi, hs8, hst⟩ := HSI.out i hlt
   obtain ⟨as_, ao, rfl, hal, hac⟩ := HRS.out.i64 hlt
   rw [hsi] at hac
   have HAC : Hid (∀ Y, Below w.heap.size w Y → Y.cell? ⟨as_, ao + i, none⟩ = some (.int .i64 (sn : Int))) := fun Y hY => (hY.cell (p := ⟨as_, ao + i, none⟩) hal).trans hac
   obtain ⟨rg, rfl⟩ := own_some (HS.out.own 5 rfl) (by omega)
   have HST := Lh hst
   have HRG : Hid (∀ i (h : i < gr.length), (gr.map i32)[i]? = some (.int .i32 gr[i])) := fun i h => by simp [i32, h]
   have g1 : (i : Int) < (o.s.length : Int) := by omega
   have g2 : (0 : Int) ≤ (i : Int) := by omega
   have g3 : (i : Int) < 1000 := by omega
   have g5 : (sn : Int) < (gr.length : Int) := by omega
   have g6 : (0 : Int) ≤ (sn : Int) := by omega
   have g7 : (sn : Int) < 100000 := by omega
   clear hac hst hal hsi
   have q2 := HS.out.c 7 2
   go_upto_region 7 with (fail)
   clear q2
   replace HS := Lh HS.out.drew
   refine dQ (fun W => At W cb (KT.length * 5 + 2) (.slice (some ⟨rg, 0, none⟩) gr.length rc) ∧ At W ob 2 (.slice (some ⟨as_, ao, none⟩) o.s.length cs) ∧ At W as_ (ao + i) (.int .i64 (sn : Int)) ∧ At W rg sn (.int .i32 gr[sn])) (⟨(call_cells (HS.out.own 2 rfl)).2.2.1, HS.out.c 7 2, HAC.out _ HS.out.mv, own_at5 (HS.out.own 5 rfl) sn _ (HRG.out sn hsn)⟩) fun _ => ?_
   generalize w5.drew = w6 at *
   refine tQ4 0 1 2 3 ?_; try simp only [sq]
   refine tQ4 4 5 6 7 ?_; try simp only [sq]
   refine tQ4 8 9 10 11 ?_; try simp only [sq]
   refine rQ 12 (fun K hK => ?_)
   go_simp
   replace HS := Lh (HS.out.box 21 #[.int .i32 gr[sn]])
   generalize w6.alloc _ = w7 at *
   generalize w6.heap.size = y_ at *
   refine hK.out _ _ (⟨(call_cells (HS.out.own 3 rfl)).2.2.1, HS.out.c 8 2, HAC.out _ HS.out.mv, own_at5 (HS.out.own 6 rfl) sn _ (HRG.out sn hsn)⟩) (fun _ => ?_)
   clear hK K
   try simp only [sq]
   refine rQ 13 (fun K hK => ?_)
   replace HS := Lh HS.out.f1
   refine oper_push_own HS.out (Nat.le_refl _) _ _ 42 4 rfl Tryz.underlying42 elt_i32 (by rfl) ⟨y_, 0, none⟩ 1 _ [.int .i32 gr[sn]] (by rfl) (by rfl) (HS.out.blk 1 rfl).news (by simp [Value.oneCell']) (by unfold maxLen; omega) (by omega) ?_
   clear HS; intro Sx scx w8 HS
   rw [← HST.out] at HS
   refine hK.out _ _ (⟨(call_cells (HS.out.own 3 rfl)).2.2.1, HS.out.c 8 2, HAC.out _ HS.out.mv, own_at5 (HS.out.own 6 rfl) sn _ (HRG.out sn hsn)⟩) (fun _ => ?_)
   clear hK K
   try simp only [sq]
   refine tQ 14 ?_; try simp only [sq]
   refine fQ ?_ _
   replace HS := Lh HS.out.f1.drop.f7.f7.f7.f7.f7.f7.f7.f7
   go_wp2_with fail
   go_roundw
   case rel => exact ⟨i + 1, Sx, scx, by omega, by go_num, by go_num, HS⟩
   case measure => simp [intOf] <;> omega
  have g1 : ¬ (i : Int) < (o.s.length : Int) := by omega
  obtain rfl : i = o.s.length := by omega
  have e1 : sl.take o.s.length = sl := List.take_of_length_le (by have := HSL.out; omega)
  rw [e1] at HS
  clear e1 HSI
  have q2 := HS.out.c 7 2
  go_upto_region 9 with (fail)
  clear q2 g1
  have q0 := HS.out.c 7 0
  go_upto_block 2 with (fail)
  clear q0
  replace HS := Lh HS.out.f7.f7.f7.f7.f7.f7.f7.f7
  rename_i K1 hK1
  have hd100 := d_le HOO.out
  have HID : Hid (∀ y ∈ o.d, ∃ k : Nat, y = (k : Int) ∧ k < gr.length ∧ k < 8000) := fun y hy => HIX.out y (HOO.out.d y hy)
  have HFIN : Hid (∀ d a (W : World), FsB cb (KT.length * 5) ob d a → Ny l w bb oo c rv cb dc gu gi gr gb RA BA rc bc KT V vd VS base n t E o (bx ob 63 #[.int .i64 o.op, .slice Ad o.d.length cd, .slice As o.s.length cs, .int .i64 o.n, .string o.nm, .int .i64 o.ty.k, .string o.ty.nm, .slice An o.ty.ns.length cn, .slice Ap o.ty.ps.length cp, .bool o.ty.many]) d W → K1 a W) := Lh (fun d a W hB h => hK1 _ _ (step_fin HID HRD hd100 hB h))
  have hc := op14_cases HOO.out.op
  rcases hc with hc | hc | hc | hc | hc | hc | hc | hc | hc | hc | hc | hc | hc | hc
  ·exact stp_E HFIN HF HR HH HH2 HL HKO HM HE HIX HOO HNC HORD HTY HBT HSQ HSL hV hu hs100 (Lh (.inl hc)) HS ⟨_, _, _, rfl, rfl, rfl⟩
  ·exact stp_E HFIN HF HR HH HH2 HL HKO HM HE HIX HOO HNC HORD HTY HBT HSQ HSL hV hu hs100 (Lh (.inr (.inl hc))) HS ⟨_, _, _, rfl, rfl, rfl⟩
  ·exact stp_G HFIN HF HR HH HH2 HL HKO HM HE HIX HOO HNC HORD HTY HBT HSQ HSL hV hu hs100 (Lh (.inl hc)) HS ⟨_, _, _, rfl, rfl, rfl⟩
  ·exact stp_F HFIN HF HR HH HH2 HL HKO HM HE HIX HOO HNC HORD HTY HBT HSQ HSL hV hu hs100 (Lh (.inl hc)) HS ⟨_, _, _, rfl, rfl, rfl⟩
  ·exact stp_F HFIN HF HR HH HH2 HL HKO HM HE HIX HOO HNC HORD HTY HBT HSQ HSL hV hu hs100 (Lh (.inr hc)) HS ⟨_, _, _, rfl, rfl, rfl⟩
  ·exact stp_G HFIN HF HR HH HH2 HL HKO HM HE HIX HOO HNC HORD HTY HBT HSQ HSL hV hu hs100 (Lh (.inr (.inl hc))) HS ⟨_, _, _, rfl, rfl, rfl⟩
  ·exact stp_H HFIN HF HR HH HH2 HL HKO HM HE HIX HOO HNC HORD HTY HBT HSQ HSL hV hu hs100 (Lh (.inl hc)) HS ⟨_, _, _, rfl, rfl, rfl⟩
  ·exact stp_H HFIN HF HR HH HH2 HL HKO HM HE HIX HOO HNC HORD HTY HBT HSQ HSL hV hu hs100 (Lh (.inr (.inl hc))) HS ⟨_, _, _, rfl, rfl, rfl⟩
  ·exact stp_E HFIN HF HR HH HH2 HL HKO HM HE HIX HOO HNC HORD HTY HBT HSQ HSL hV hu hs100 (Lh (.inr (.inr (.inl hc)))) HS ⟨_, _, _, rfl, rfl, rfl⟩
  ·exact stp_E HFIN HF HR HH HH2 HL HKO HM HE HIX HOO HNC HORD HTY HBT HSQ HSL hV hu hs100 (Lh (.inr (.inr (.inr (.inl hc))))) HS ⟨_, _, _, rfl, rfl, rfl⟩
  ·exact stp_E HFIN HF HR HH HH2 HL HKO HM HE HIX HOO HNC HORD HTY HBT HSQ HSL hV hu hs100 (Lh (.inr (.inr (.inr (.inr (.inl hc)))))) HS ⟨_, _, _, rfl, rfl, rfl⟩
  ·exact stp_H HFIN HF HR HH HH2 HL HKO HM HE HIX HOO HNC HORD HTY HBT HSQ HSL hV hu hs100 (Lh (.inr (.inr hc))) HS ⟨_, _, _, rfl, rfl, rfl⟩
  ·exact stp_E HFIN HF HR HH HH2 HL HKO HM HE HIX HOO HNC HORD HTY HBT HSQ HSL hV hu hs100 (Lh (.inr (.inr (.inr (.inr (.inr hc)))))) HS ⟨_, _, _, rfl, rfl, rfl⟩
  ·exact stp_G HFIN HF HR HH HH2 HL HKO HM HE HIX HOO HNC HORD HTY HBT HSQ HSL hV hu hs100 (Lh (.inr (.inr hc))) HS ⟨_, _, _, rfl, rfl, rfl⟩
def vsU (u : Un) : List (Int × Int) := u.gs.map fun g => (wrap32 g.v, wrap32 (g.v / 4294967296))
def mainP (l : List Un) : Nat × Nat := ((homR l ⟨#[109, 97, 105, 110]⟩).1.toNat, (homR l ⟨#[109, 97, 105, 110]⟩).2.2)
noncomputable def playP (l : List Un) (F : Nat) : Shw := run l F (beg l (mainP l).1 (mainP l).2 []) [] ⟨l.map vsU, []⟩ 0
def T0 : Ty := .mk 4 ⟨#[]⟩ [] [.mk 1 ⟨#[]⟩ [] [] false] false
theorem may_T0 : may T0 = true := by
 unfold may T0
 simp [mayT, bareT, Ty.k, Ty.nm, Ty.ns, Ty.ps, Ty.many]
theorem text_T0 : textB T0 = ⟨#[102, 110, 40, 41, 105, 110, 116]⟩ := by
 rw [textB_yes may_T0]
 rfl
theorem main_at {l : List Un} (L : Lnk l) : ∃ v j, ∃ hv : v < l.length, j < l[v].bs.length ∧ homR l ⟨#[109, 97, 105, 110]⟩ = ((v : Int), 1, j) ∧ (bod l v j).ty = T0 := by
 have h := L.mn
 unfold ckMain at h
 split at h
 ·cases h
 ·rename_i h1
  split at h
  ·cases h
  ·rename_i h2
   rw [not_or] at h1
   obtain ⟨v, hv, hR, ho⟩ := hom_at h1.1
   have hk : (giv l[v] ⟨#[109, 97, 105, 110]⟩).1 = 1 := by
    have := h1.2
    rw [hR] at this
    simpa using this
   rcases opn_kind ho with ⟨j, hj, hG, -⟩ | ⟨j, hj, hG, -⟩
   ·refine ⟨v, j, hv, hj, by rw [hR, hG], ?_⟩
    have h3 : textB (bod l v j).ty = ⟨#[102, 110, 40, 41, 105, 110, 116]⟩ := by
     rw [hR, hG] at h2
     dsimp only at h2
     rw [Int.toNat_natCast] at h2
     exact Classical.not_not.1 h2
    rw [← text_T0] at h3
    exact (textB_inj may_T0 h3.symm).2.symm
   ·rw [hG] at hk; cases hk
theorem main_arg {l : List Un} (L : Lnk l) : (mainP l).1 < l.length ∧ homR l ⟨#[109, 97, 105, 110]⟩ = (((mainP l).1 : Int), 1, (mainP l).2) ∧ ArgOk l (mainP l).1 (mainP l).2 [] ∧ 1 ≤ resW (bod l (mainP l).1 (mainP l).2).ty := by
 obtain ⟨v, j, hv, hj, hR, hT⟩ := main_at L
 have e : mainP l = (v, j) := by unfold mainP; rw [hR]; rfl
 rw [e]
 refine ⟨hv, hR, ⟨hv, by rw [unAt_at hv]; exact hj, fun x hx => by simp at hx, ?_⟩, ?_⟩
 ·rw [hT]; exact ⟨Nat.le_refl _, Nat.zero_le _⟩
 ·rw [hT]; exact (resW_le may_T0 rfl).1
theorem vs_ok (l : List Un) : MsOk l ⟨l.map vsU, []⟩ := by
 have hw : ∀ n, W32 (wrap32 n) := fun n => by unfold W32 wrap32; omega
 have hg : ∀ u, u < l.length → (l.map vsU).getD u [] = vsU (unAt l u) := fun u hu => by
  rw [List.getD_eq_getElem?_getD, List.getElem?_map, List.getElem?_eq_getElem hu, unAt_at hu]; rfl
 refine ⟨by simp, fun u hu => ?_, fun u hu q hq => ?_⟩
 ·dsimp only; rw [hg u hu]; simp [vsU]
 ·dsimp only at hq
  rw [hg u hu] at hq
  obtain ⟨g, -, rfl⟩ := List.mem_map.1 hq
  exact ⟨hw _, hw _⟩
theorem elt_arr : Elt Tryz.prog 89 2 8 := Elt.of (by kernel_rfl) (by decide)
theorem elt_vt : Elt Tryz.prog 86 1 24 := Elt.of (by kernel_rfl) (by decide)
theorem vrP_snoc {B : Nat} {S : Value} {v : List (Int × Int)} : ∀ {VS : List Value} {vs : List (List (Int × Int))}, VS.length = vs.length → vrP B (VS ++ [S]) (vs ++ [v]) = vrP B VS vs ++ [ow B 89 2 S v.length (varC v)]
 | [], [], _ => rfl
 | [], _ :: _, h => by simp at h
 | _ :: _, [], h => by simp at h
 | S' :: VS, v' :: vs, h => by
  simp only [List.cons_append, vrP]
  rw [vrP_snoc (by simpa using h)]
theorem varC_snoc (v : List (Int × Int)) (q : Int × Int) : varC (v ++ [q]) = varC v ++ [.int .i32 q.1, .int .i32 q.2] := by
 unfold varC; rw [List.flatMap_append]; rfl
theorem p3 {x a b : Rc} {F L : List Rc} : (x :: a :: b :: (F ++ L)).Perm (a :: b :: ((F ++ [x]) ++ L)) := by
 have h : (a :: b :: ((F ++ [x]) ++ L)) = (a :: b :: F) ++ x :: L := by simp
 rw [h]
 show (x :: ((a :: b :: F) ++ L)).Perm _
 exact List.perm_middle.symm
theorem sh_front {b : Rc} {P M V : List Rc} : (P ++ (M ++ (V ++ [b]))).Perm (b :: (P ++ (M ++ V))) := by
 have : P ++ (M ++ (V ++ [b])) = (P ++ (M ++ V)) ++ [b] := by simp
 rw [this]
 exact List.perm_append_singleton _ _
def PlayOut (E : Shw) (w : World) (e : Ending) (w' : World) : Prop := ∃ O od L, e = .returned (.agg #[.int .i64 E.e, .int .i32 E.v, .slice O E.out.length od, .int .i64 (E.t : Int)]) ∧ Hid (Hp w w' (ow w.heap.size 21 1 (.slice O E.out.length od) E.out.length (E.out.map i32) :: L))
theorem results_sh {fn : Func} {s : Nat} (h : fn.results = #[.cell s 44]) {w : World} {b : Nat} {a0 a1 a2 a3 : Value} {tmps : Array Value} (k : Blk w b 44 #[a0, a1, a2, a3]) (h4 : tmps.getD s undef = .pointer (some ⟨b, 0, none⟩)) :
 (results fn tmps).run Tryz.prog w = .ok (.agg #[a0, a1, a2, a3]) w := by
 have c0 := k.cell 0 _ rfl
 have c1 := k.cell 1 _ rfl
 have c2 := k.cell 2 _ rfl
 have c3 := k.cell 3 _ rfl
 simp at c0 c1 c2 c3
 simp only [Array.getD_eq_getD_getElem?] at h4
 simp [results, h, go_sem, h4, c0, c1, c2, c3]
theorem play_any {l : List Un} (L : Lnk l) (hh : ∀ u (h : u < l.length), l[u].bs.length ≤ 40) (hh2 : ∀ u (h : u < l.length), l[u].gs.length ≤ 40) {w : World} {A : Option Addr} {c : Nat} (hr : RepS 3 RepU w A l) (F : Nat) (hF : F ≤ 300000) :
 Calls Tryz.prog 13 #[.slice A l.length c, .int .i64 (F : Int)] w (PlayOut (playP l F) w) := by
 have hn1 := L.n1
 have hn4 := L.n4
 obtain ⟨bb, oo, rfl, -⟩ := hr.adr (by omega)
 obtain ⟨E, HE⟩ : ∃ E, Hid (playP l F = E) := ⟨_, rfl⟩
 rw [HE.out]
 have HL := Lh L
 have HH := Lh hh
 have HH2 := Lh hh2
 have HR := Lh hr
 clear hh hh2 hr L
 have HS := Lh ((Hp.init w).box 44 #[.int .i64 0, .int .i32 0, .slice none 0 0, .int .i64 0])
 go_enter Tryz.func13, Tryz.ntmps13
 go_upto_region 1 with (fail)
 generalize w.alloc _ = w0 at *
 generalize hrs : w.heap.size = rs at *
 clear hrs
 go_upto_region 2 with (fail)
 replace HS := Lh (HS.out.box 85 #[.slice (some ⟨bb, oo, none⟩) l.length c, .slice none 0 0, .slice none 0 0, .int .i64 0, .int .i32 0, .slice none 0 0, .int .i64 0, .bool false])
 generalize w0.alloc _ = w1 at *
 generalize w0.heap.size = rv at *
 replace HS := Lh (HS.out.row0 w.heap.size 86 1)
 go_wp2_with fail
 go_loopw [6] (fun iv wr => ∃ (u : Nat) (VS : List Value) (V : Option Addr) (vd : Nat), u ≤ l.length ∧ iv = .int .i64 u ∧ VS.length = u ∧ Hid (Hp w wr (ow w.heap.size 86 1 (.slice V u vd) u VS :: bx rv 85 #[.slice (some ⟨bb, oo, none⟩) l.length c, .slice none 0 0, .slice V u vd, .int .i64 0, .int .i32 0, .slice none 0 0, .int .i64 0, .bool false] :: (vrP w.heap.size VS ((l.map vsU).take u) ++ [bx rs 44 #[.int .i64 0, .int .i32 0, .slice none 0 0, .int .i64 0]])))) (fun iv _ => l.length - (intOf iv).toNat)
 case atStart => exact ⟨0, [], none, 0, Nat.zero_le _, rfl, rfl, HS⟩
 case round =>
  clear HS; obtain ⟨u, VS, V, vd, huk, rfl, hVS, HS⟩ := hrel
  obtain ⟨w2, rfl⟩ : ∃ x, x = wr := ⟨_, rfl⟩
  have HVS := Lh hVS
  clear hVS
  by_cases hlt : u < l.length
  ·obtain ⟨cs, hrep, hc⟩ := HR.out.row hlt
   obtain ⟨UA, ua, UB, ub', UC, uc, rfl, -, rB, -⟩ := hrep
   have RB := Lh rB
   have HC1 : Hid (∀ Y, Below w.heap.size w Y → Y.cell? ⟨bb, oo + u * 3 + 1, none⟩ = some (.slice UB l[u].gs.length ub')) := fun Y hY => hc Y hY 1 _ rfl
   have hg40 := HH2.out u hlt
   have HU : Hid (vsU l[u] = l[u].gs.map fun g => (wrap32 g.v, wrap32 (g.v / 4294967296))) := rfl
   have HTK : Hid ((l.map vsU).take (u + 1) = (l.map vsU).take u ++ [vsU l[u]]) := by show _ = _; rw [List.take_succ_eq_append_getElem (by simpa using hlt), List.getElem_map]
   have hi : (u : Int) < (l.length : Int) := by omega
   have hi1 : (0 : Int) ≤ (u : Int) := by omega
   have hi6 : (u : Int) < 9 := by omega
   clear hc rB
   generalize l[u].gs = gs at *
   generalize hvu : vsU l[u] = vu at *
   clear hvu
   replace HS := Lh (HS.out.row0 w.heap.size 89 2)
   go_wp2_with fail
   go_loopw [7, 8] (fun xv iv wr => ∃ (i : Nat) (XA : Option Addr) (xd : Nat), i ≤ gs.length ∧ iv = .int .i64 i ∧ xv = .slice XA i xd ∧ Hid (Hp w wr (ow w.heap.size 89 2 (.slice XA i xd) i (varC (vu.take i)) :: ow w.heap.size 86 1 (.slice V u vd) u VS :: bx rv 85 #[.slice (some ⟨bb, oo, none⟩) l.length c, .slice none 0 0, .slice V u vd, .int .i64 0, .int .i32 0, .slice none 0 0, .int .i64 0, .bool false] :: (vrP w.heap.size VS ((l.map vsU).take u) ++ [bx rs 44 #[.int .i64 0, .int .i32 0, .slice none 0 0, .int .i64 0]])))) (fun _ iv _ => gs.length - (intOf iv).toNat)
   case atStart => exact ⟨0, none, 0, Nat.zero_le _, rfl, rfl, HS⟩
   case round =>
    clear HS; obtain ⟨i, XA, xd, hik, rfl, rfl, HS⟩ := hrel
    obtain ⟨w3, rfl⟩ : ∃ x, x = wr := ⟨_, rfl⟩
    have c1 := HC1.out _ HS.out.mv
    by_cases hil : i < gs.length
    ·obtain ⟨b2, o2, rfl, -⟩ := RB.out.adr (by omega)
     obtain ⟨cs2, hrg, hd⟩ := RB.out.row hil
     obtain ⟨An, cn, Ap, cp, rfl, -, hv1, hv2⟩ := hrg.eight
     have c7 := hd w3 HS.out.mv 7 _ rfl
     have HTI : Hid (varC (vu.take (i + 1)) = varC (vu.take i) ++ [.int .i32 (wrap32 gs[i].v), .int .i32 (wrap32 (gs[i].v / 4294967296))]) := by
      show _ = _
      have hl : i < vu.length := by rw [HU.out, List.length_map]; exact hil
      have e : vu[i] = (wrap32 gs[i].v, wrap32 (gs[i].v / 4294967296)) := by have h2 := HU.out; subst h2; simp
      rw [List.take_succ_eq_append_getElem hl, varC_snoc, e]
     have HHV := Lh (fun W => halves_any gs[i].v hv1 hv2 W)
     generalize gs[i].v = gv at *
     have j1 : (i : Int) < (gs.length : Int) := by omega
     have j2 : (0 : Int) ≤ (i : Int) := by omega
     have j3 : (i : Int) < 100 := by omega
     clear hd hrg hv1 hv2
     go_wp2_with fail
     refine (HHV.out w3).mono ?_
     rintro e _ ⟨rfl, rfl⟩
     clear HHV
     generalize wrap32 gv = lo at *
     generalize wrap32 (gv / 4294967296) = hi2 at *
     have HB := Lh (HS.out.box 89 #[.int .i32 lo, .int .i32 hi2]).f1
     clear HS
     go_wp2_with (at_builtin; refine wpList_push_own HB.out (Nat.le_refl _) rfl _ _ 86 8 rfl Tryz.underlying86 elt_arr rfl ⟨w3.heap.size, 0, none⟩ 1 _ [.int .i32 lo, .int .i32 hi2] rfl rfl (HB.out.blk 1 rfl).news (by simp [Value.oneCell']) (by unfold maxLen; omega) (by omega) ?_)
     clear HB; intro Xx xdx w4 HS
     go_wp2_with fail
     replace HS := Lh HS.out.f1.drop
     rw [← HTI.out] at HS
     go_roundw
     case rel => exact ⟨i + 1, Xx, xdx, by omega, by go_num, by go_num, HS⟩
     case measure => simp [intOf] <;> omega
    have j1 : ¬ (i : Int) < (gs.length : Int) := by omega
    obtain rfl : i = gs.length := by omega
    have HVL : Hid (vu.length = gs.length) := by show _ = _; rw [HU.out, List.length_map]
    have e1 : vu.take gs.length = vu := List.take_of_length_le (by rw [HVL.out]; exact Nat.le_refl _)
    rw [e1] at HS
    clear e1
    go_upto_region 11 with (fail)
    clear c1
    have r2 := HS.out.c 2 2
    have f2 := (HS.out.blk 2 rfl).free 2
    have HB := Lh (HS.out.box 86 #[.slice XA gs.length xd]).f2
    have r2b := HB.out.c 3 2
    have f2b := (HB.out.blk 3 rfl).free 2
    clear HS
    go_wp2_with (at_builtin; refine wpList_push_own HB.out (Nat.le_refl _) rfl _ _ 83 24 rfl Tryz.underlying83 elt_vt rfl ⟨w3.heap.size, 0, none⟩ 1 _ [.slice XA gs.length xd] rfl rfl (HB.out.blk 1 rfl).news (by simp [Value.oneCell']) (by unfold maxLen; omega) (by omega) ?_)
    clear HB r2 f2 r2b f2b; intro Vx vdx w4 HS
    have f2 := (HS.out.blk 3 rfl).free 2
    have r2 := HS.out.c 3 2
    go_wp2_with fail
    replace HS := Lh HS.out.f3
    replace HS := Lh (HS.out.put1 2 (.slice Vx (u + 1) vdx))
    simp only [sq] at HS
    generalize w4.setCell _ _ = w5 at *
    replace HS := Lh HS.out.f2.drop.f1.f2
    have HS2 : Hid (Hp w w5 (ow w.heap.size 86 1 (.slice Vx (u + 1) vdx) (u + 1) (VS ++ [.slice XA gs.length xd]) :: bx rv 85 #[.slice (some ⟨bb, oo, none⟩) l.length c, .slice none 0 0, .slice Vx (u + 1) vdx, .int .i64 0, .int .i32 0, .slice none 0 0, .int .i64 0, .bool false] :: (vrP w.heap.size (VS ++ [.slice XA gs.length xd]) ((l.map vsU).take (u + 1)) ++ [bx rs 44 #[.int .i64 0, .int .i32 0, .slice none 0 0, .int .i64 0]]))) := by
     show Hp _ _ _
     rw [HTK.out, vrP_snoc (by rw [HVS.out, List.length_take, List.length_map]; omega), HVL.out]
     exact HS.out.perm p3
    clear HS
    clear f2 r2
    go_roundw
    case rel => exact ⟨u + 1, VS ++ [.slice XA gs.length xd], Vx, vdx, by omega, by go_num, by rw [List.length_append, HVS.out]; rfl, HS2⟩
    case measure => simp [intOf] <;> omega
  have hi : ¬ (u : Int) < (l.length : Int) := by omega
  obtain rfl : u = l.length := by omega
  have e1 : (l.map vsU).take l.length = l.map vsU := List.take_of_length_le (by simp)
  rw [e1] at HS
  clear e1
  obtain ⟨hm1, hm2, hm3, hm4⟩ := main_arg HL.out
  have HAR := Lh hm3
  have HRW := Lh hm4
  have HHO := Lh (home_any l ⟨#[109, 97, 105, 110]⟩ (some ⟨bb, oo, none⟩) c w2 (RepS.keep (R := RepU) RepU.keep HR.out HS.out.mv) (by omega))
  rw [hm2] at HHO
  have HE2 : Hid (run l F (beg l (mainP l).1 (mainP l).2 []) [] ⟨l.map vsU, []⟩ 0 = E) := HE.out
  generalize (mainP l).1 = mu at *
  generalize (mainP l).2 = mi at *
  clear hm1 hm2 hm3 hm4
  go_wp2_with fail
  refine (HHO.out).mono ?_
  rintro e w3 ⟨rfl, hb⟩
  replace HS := Lh (HS.out.below hb)
  clear hb HHO
  dsimp only
  replace HS := Lh ((HS.out.row0 w.heap.size 21 1).row0 w.heap.size 120 5)
  replace HS := Lh HS.out.f2.f2.f2.f3
  have HS2 : Hid (Hp w w3 (bx rv 85 #[.slice (some ⟨bb, oo, none⟩) l.length c, .slice none ([] : List Fm).length 0, .slice V l.length vd, .int .i64 0, .int .i32 0, .slice none 0 0, .int .i64 0, .bool false] :: ow w.heap.size 120 5 (.slice none ([] : List Fm).length 0) ([] : List Fm).length (callsC []) :: (ow w.heap.size 21 1 (.slice none 0 0) 0 [] :: ow w.heap.size 86 1 (.slice V l.length vd) l.length VS :: (vrP w.heap.size VS (l.map vsU) ++ [bx rs 44 #[.int .i64 0, .int .i32 0, .slice none 0 0, .int .i64 0]])))) := HS
  clear HS
  have HBG := Lh (begin_any l HL.out mu mi [] (some ⟨bb, oo, none⟩) c rv [] HR.out HAR.out (by decide) (fun h => HH.out _ h) (RowAt.nil (Sa := none)) HS2.out (sc := 0))
  clear HS2
  go_wp2_with fail
  refine (HBG.out).mono ?_
  clear HBG; rintro e w4 hO
  obtain ⟨rfl, Cx, dcx, R2, B2, HS⟩ := hO
  replace HS := Lh HS.out.f3.f3.f5.f5.f5.f5
  have HG : Going l w rv (.slice (some ⟨bb, oo, none⟩) l.length c) V vd VS [bx rs 44 #[.int .i64 0, .int .i32 0, .slice none 0 0, .int .i64 0]] F 0 E w4 := by
   refine ⟨Cx, dcx, ⟨beg l mu mi [], R2, B2⟩, [], none, 0, ⟨l.map vsU, []⟩, ?_, HAR.out.beg HL.out, HRW.out, vs_ok l, Nat.le_refl _, by decide, HE2.out⟩
   show Hp _ _ _
   unfold rfP
   rw [HVS.out]
   simp only [List.flatMap_cons, List.flatMap_nil, frP, List.cons_append, List.nil_append]
   exact HS.out
  clear HS
  have HGO := Lh HG
  clear HG
  go_wp2_with fail
  go_loopg [] (F + 1) (fun gk wr => (gk = 0 ∧ Over w rv (.slice (some ⟨bb, oo, none⟩) l.length c) V vd VS [bx rs 44 #[.int .i64 0, .int .i32 0, .slice none 0 0, .int .i64 0]] E wr) ∨ ∃ n t, gk = n + 1 ∧ n + t = F ∧ Going l w rv (.slice (some ⟨bb, oo, none⟩) l.length c) V vd VS [bx rs 44 #[.int .i64 0, .int .i32 0, .slice none 0 0, .int .i64 0]] n t E wr)
  case atStart => exact .inr ⟨F, 0, rfl, rfl, HGO.out⟩
  case round =>
   rcases hrel with ⟨rfl, hO⟩ | ⟨n, t, rfl, hnt, hG⟩
   ·obtain ⟨C, dc, K, O, od, vs, HS⟩ := hO
    obtain ⟨w5, rfl⟩ : ∃ x, x = wr := ⟨_, rfl⟩
    unfold rfP at HS
    have r7 := HS.out.c 0 7
    go_upto_region 19 with (fail)
    clear r7
    have hb0 : Hid (Hp w w5 (bx rs 44 #[.int .i64 0, .int .i32 0, .slice none 0 0, .int .i64 0] :: _)) := Lh (HS.out.perm (sh_front (P := [_, _, _, _]) (M := List.flatMap (frP w.heap.size) (K)) (V := vrP w.heap.size VS (vs))))
    have f0 := hb0.out.one.free 0
    have f1 := hb0.out.one.free 1
    have f2 := hb0.out.one.free 2
    have f3 := hb0.out.one.free 3
    have g0 := hb0.out.one.cell 0 _ rfl
    have g1 := hb0.out.one.cell 1 _ rfl
    have g2 := hb0.out.one.cell 2 _ rfl
    have g3 := hb0.out.one.cell 3 _ rfl
    have r3 := HS.out.c 0 3
    have r4 := HS.out.c 0 4
    have r5 := HS.out.c 0 5
    have r6 := HS.out.c 0 6
    go_wp2_with fail
    have h4 := (((hb0.out.put1 0 (.int .i64 E.e)).put1 1 (.int .i32 E.v)).put1 2 (.slice O E.out.length od)).put1 3 (.int .i64 (E.t : Int))
    simp only [sq] at h4
    refine bodyPost_ret (v := .agg _) (results_sh (fn := Tryz.f13) rfl h4.one rfl) rfl ?_
    exact ⟨O, od, _, rfl, Lh h4.drop.f2⟩
   obtain ⟨C, dc, x, K, O, od, m, HS, hF1, hF2, hF3, hF4, hF5, hF6⟩ := hG
   obtain ⟨w5, rfl⟩ : ∃ x, x = wr := ⟨_, rfl⟩
   have r7 := (show Blk _ rv 85 _ from HS.out.one).cell 7 _ rfl
   have r6 := (show Blk _ rv 85 _ from HS.out.one).cell 6 _ rfl
   have ht0 : t ≤ 300000 := by omega
   cases n with
   | zero =>
    obtain rfl : t = F := by omega
    have hge : (t : Int) ≤ (t : Int) := Int.le_refl _
    go_upto_region 16 with (fail)
    clear r6 r7
    have hEE : E = ⟨0, 0, m.out, t⟩ := hF6.symm
    have HS1 : Hid (Hp w _ (bx rv 85 _ :: _)) := HS
    go_wp2_with fail
    refine (end_any 0 HS1.out).mono ?_
    clear HS HS1; rintro e w6 ⟨rfl, hS⟩
    have HS : Hid (Hp w w6 (rfP w.heap.size rv (.slice (some ⟨bb, oo, none⟩) l.length c) C dc (x :: K) O od E.out V vd VS m.vs E.e E.v E.t true [bx rs 44 #[.int .i64 0, .int .i32 0, .slice none 0 0, .int .i64 0]])) := by rw [hEE]; exact hS
    clear hS hEE
    unfold rfP at HS
    go_upto_region 19 with (fail)
    have hb0 : Hid (Hp w w6 (bx rs 44 #[.int .i64 0, .int .i32 0, .slice none 0 0, .int .i64 0] :: _)) := Lh (HS.out.perm (sh_front (P := [_, _, _, _]) (M := List.flatMap (frP w.heap.size) (x :: K)) (V := vrP w.heap.size VS (m.vs))))
    have f0 := hb0.out.one.free 0
    have f1 := hb0.out.one.free 1
    have f2 := hb0.out.one.free 2
    have f3 := hb0.out.one.free 3
    have g0 := hb0.out.one.cell 0 _ rfl
    have g1 := hb0.out.one.cell 1 _ rfl
    have g2 := hb0.out.one.cell 2 _ rfl
    have g3 := hb0.out.one.cell 3 _ rfl
    have r3 := HS.out.c 0 3
    have r4 := HS.out.c 0 4
    have r5 := HS.out.c 0 5
    have r6 := HS.out.c 0 6
    go_wp2_with fail
    have h4 := (((hb0.out.put1 0 (.int .i64 E.e)).put1 1 (.int .i32 E.v)).put1 2 (.slice O E.out.length od)).put1 3 (.int .i64 (E.t : Int))
    simp only [sq] at h4
    refine bodyPost_ret (v := .agg _) (results_sh (fn := Tryz.f13) rfl h4.one rfl) rfl ?_
    exact ⟨O, od, _, rfl, Lh h4.drop.f2⟩
   | succ n =>
    have hge : ¬ (F : Int) ≤ (t : Int) := by omega
    have htw : IntKind.i64.wrap ((t : Int) + 1) = (t : Int) + 1 := by rw [IntKind.wrap_i64]; omega
    have f6 := (show Blk _ rv 85 _ from HS.out.one).free 6
    go_upto_region 18 with (fail)
    clear r6 r7 f6 htw hge
    replace HS := Lh (HS.out.put1 6 (.int .i64 ((t : Int) + 1)))
    have HS2 : Hid (Hp w (w5.setCell ⟨rv, 6, none⟩ (.int .i64 ((t : Int) + 1))) (rfP w.heap.size rv (.slice (some ⟨bb, oo, none⟩) l.length c) C dc (x :: K) O od m.out V vd VS m.vs 0 0 (t + 1) false [bx rs 44 #[.int .i64 0, .int .i32 0, .slice none 0 0, .int .i64 0]])) := HS
    clear HS
    have HST := Lh (step_any HR.out HL.out HH.out HH2.out x K m HS2.out hF1 hF2 hF3 HVS.out hF4 hF5 (by omega) hF6)
    clear HS2
    go_wp2_with fail
    refine (HST.out).mono ?_
    clear HST; rintro e w6 ⟨rfl, hO⟩
    have HOO := Lh hO
    clear hO
    go_wp2_with fail
    rcases HOO.out with hO | hG
    ·go_roundg 0
     case measure => omega
     case rel => exact .inl ⟨rfl, hO⟩
    go_roundg (n + 1)
    case measure => omega
    case rel => exact .inr ⟨n, t + 1, rfl, by omega, hG⟩
theorem lkM_app {α : Type} (a b : List (ByteArray × α)) (s : ByteArray) : lkM (a ++ b) s = (lkM b s).or (lkM a s) := by
 suffices h : ∀ c : List (ByteArray × α), lkM (a ++ c.reverse) s = (lkM c.reverse s).or (lkM a s) by
  have := h b.reverse
  rwa [List.reverse_reverse] at this
 intro c
 induction c with
 | nil => simp [lkM_nil]
 | cons p c ih =>
  rw [List.reverse_cons, ← List.append_assoc, lkM_snoc, lkM_snoc, ih]
  split <;> rfl
theorem lkM_no {α β : Type} (os : List β) (nm : β → ByteArray) (f : ByteArray → α) (s : ByteArray) (h : ∀ o ∈ os, nm o ≠ s) : lkM (os.map fun o => (nm o, f (nm o))) s = none := by
 refine lkM_none.2 fun hm => ?_
 rw [List.map_map] at hm
 obtain ⟨o, ho, e⟩ := List.mem_map.1 hm
 exact h o ho e
theorem lkM_yes {α β : Type} (os : List β) (nm : β → ByteArray) (f : ByteArray → α) (s : ByteArray) (h : ∃ o ∈ os, nm o = s) : lkM (os.map fun o => (nm o, f (nm o))) s = some (f s) := by
 suffices hh : ∀ c : List β, (∃ o ∈ c.reverse, nm o = s) → lkM (c.reverse.map fun o => (nm o, f (nm o))) s = some (f s) by
  have := hh os.reverse (by rwa [List.reverse_reverse])
  rwa [List.reverse_reverse] at this
 intro c
 induction c with
 | nil => rintro ⟨o, ho, -⟩; simp at ho
 | cons p c ih =>
  intro h
  rw [List.reverse_cons, List.map_append, List.map_cons, List.map_nil, lkM_snoc]
  by_cases e : nm p = s
  ·rw [if_pos e, e]
  ·rw [if_neg e]
   obtain ⟨o, ho, hs⟩ := h
   rw [List.reverse_cons] at ho
   rcases List.mem_append.1 ho with ho | ho
   ·exact ih ⟨o, ho, hs⟩
   ·simp at ho
    subst ho
    exact absurd hs e
theorem vrW_self : ∀ {gs : List Gl} {vr : List Vr}, All2 VrOk gs vr → vrW vr (gs.map fun g => (wrap32 g.v, wrap32 (g.v / 4294967296))) = vr
 | _, _, .nil => rfl
 | _, _, .cons h t => by
  unfold vrW
  rw [List.map_cons, List.zipWith_cons_cons]
  have := vrW_self t
  unfold vrW at this
  rw [this]
  obtain ⟨h1, h2, -⟩ := h
  rw [← h1, ← h2]
theorem vs_flat (l : List Un) : (l.map vsU).flatten = (allG l l.length).map fun g => (wrap32 g.v, wrap32 (g.v / 4294967296)) := by
 unfold allG
 rw [List.take_length]
 induction l with
 | nil => rfl
 | cons u l ih => rw [List.map_cons, List.flatten_cons, ih, List.flatMap_cons, List.map_append]; rfl
theorem px_of {l : List Un} (L : Lnk l) {w W : World} {X : Nat} (h : Linked l w X W) (F : Nat) : ∃ x : Px, x.X = X ∧ x.F = F ∧ x.start = (nmb l (mainP l) : Int) ∧ PxOk l w x ∧
 Hid (Hp w W (bx X 55 #[.int .i64 0, .int .i32 0, .slice none 0 0, .int .i64 0, .slice x.A1 (allB l l.length).length x.d1, .slice x.A2 (allB l l.length).length x.d2, .slice x.A3 (allG l l.length).length x.d3, .slice x.A4 l.length x.d4, .int .i64 0, .int .i64 0, .int .i64 x.start] :: prC l w.heap.size x (l.map vsU) [])) := by
 obtain ⟨A1, A2, A3, A4, d1, d2, d3, d4, cb, ms, ms', vr, HS, ok, mr⟩ := h
 refine ⟨⟨X, A1, A2, A3, A4, d1, d2, d3, d4, cb, ms', vr, (nmb l (mainP l) : Int), F⟩, rfl, rfl, rfl, ⟨ok.bs, ok.gs.len.symm, fun j h h' => (ok.gs.get h' h).2.2, mr.1.trans ok.ln, ?_⟩, ?_⟩
 ·intro u m hm s hs
  dsimp only at hm
  have hlt' : u < ms'.length := (List.getElem?_eq_some_iff.1 hm).1
  have hlt : u < ms.length := by rw [← mr.1]; exact hlt'
  have hu : u < l.length := by rw [← ok.ln]; exact hlt
  have hmr := mr.2 u ms[u] (List.getElem?_eq_getElem hlt)
  rw [hm] at hmr
  injection hmr with hmr
  have hc : cntO l l.length 0 u = l[u].os.length := by unfold cntO; rw [if_pos hu, unAt_at hu]
  have hT : All2 (TvOk w) (ents l[u] (allB l u).length (allG l u).length) ms[u].2 := by
   have := ok.nm u ms[u] (List.getElem?_eq_getElem hlt)
   rwa [unAt_at hu] at this
  have hA0 : addO (hsU l (ms.map (·.2)) l.length) (unAt l u) (cntO l l.length 0 u) = l[u].os.map fun o => (o.nm, ((lkM (hsU l (ms.map (·.2)) l.length) o.nm).getD zHv).x) := by
   unfold addO
   rw [hc, unAt_at hu, List.take_length]
  have hA1 := lkM_no l[u].os (·.nm) (fun t => ((lkM (hsU l (ms.map (·.2)) l.length) t).getD zHv).x) s
  have hA2 := lkM_yes l[u].os (·.nm) (fun t => ((lkM (hsU l (ms.map (·.2)) l.length) t).getD zHv).x) s
  rw [← hA0] at hA1 hA2
  have hL : lkM m.2 s = (lkM (addO (hsU l (ms.map (·.2)) l.length) (unAt l u) (cntO l l.length 0 u)) s).or (lkM ms[u].2 s) := by
   rw [hmr, lkM_app]
  rw [unAt_at hu] at hs hA1 hA2 hL
  rw [unAt_at hu, hL]
  have hno : ∀ {k : Int} {i : Nat}, giv l[u] s = (k, i) → k ≠ 3 → ∀ o ∈ l[u].os, o.nm ≠ s := fun hR hk o ho e => by
   obtain ⟨j, hj, rfl⟩ := List.getElem_of_mem ho
   have := giv_o (L.un u hu) hj
   rw [e, hR] at this
   injection this with h1 h2
   exact hk h1
  rcases giv_cases l[u] s with ⟨i, hi, hR, hi2⟩ | ⟨i, hi, hR, hi2⟩ | ⟨i, hi, hR, hi2⟩ | hR
  ·rw [hA1 (hno hR (by decide))]
   rcases things_ty hT (L.un u hu) s with ⟨-, -, h0⟩ | ⟨x, k1, k2, k3, k4, k5, k6⟩
   ·rw [hR] at h0; cases h0
   ·refine ⟨x, by rw [k1]; rfl, ?_⟩
    have e : fnd l u s = (u, i) := by unfold fnd; rw [unAt_at hu, hR]; simp
    rw [k6, tyF_b hi hR, e, if_pos rfl]
    unfold numN nmb
    rw [hR]
    rfl
  ·rw [hA1 (hno hR (by decide))]
   rcases things_ty hT (L.un u hu) s with ⟨-, -, h0⟩ | ⟨x, k1, k2, k3, k4, k5, k6⟩
   ·rw [hR] at h0; cases h0
   ·refine ⟨x, by rw [k1]; rfl, ?_⟩
    have e : fnd l u s = (u, i) := by unfold fnd; rw [unAt_at hu, hR]; simp
    rw [k6, tyF_g hi hR, e, if_neg (fun h => by cases h)]
    unfold numN
    rw [hR]
    rfl
  ·rw [hA2 ⟨l[u].os[i], List.getElem_mem hi, hi2⟩]
   obtain ⟨v, hv, hH, ho, hk, -⟩ := out_at L hu hi hi2
   rcases home_thing L.un ok s with ⟨h0, -⟩ | ⟨v', hv', x, k1, k2, -, -, -, -, k6, -⟩
   ·rw [h0] at hH
    injection hH with h1 h2
    omega
   ·have hvv : v' = v := by
     rw [k2] at hH
     injection hH with h1 h2
     omega
    subst hvv
    refine ⟨x, by rw [k1]; rfl, ?_⟩
    have e : fnd l u s = (v', (giv l[v'] s).2) := by unfold fnd; rw [unAt_at hu, hR, hH]; simp
    rw [k6, tyF_o hi hR, e]
    dsimp only
    rw [← hk]
    unfold numN nmb
    rcases opn_kind ho with ⟨j, hj, hG, -⟩ | ⟨j, hj, hG, -⟩
    ·rw [hG]; rfl
    ·rw [hG]; rfl
  ·have : (tyF l[u] s).2.2 = false := by unfold tyF; rw [hR]; rfl
   rw [this] at hs
   cases hs
 ·show Hp _ _ _
  have h2 := HS.out
  unfold lkP lnk at h2
  unfold prC
  dsimp only
  rw [vs_flat, vrW_self ok.gs]
  exact h2
def WdAt (w : World) (A : Option Addr) (l : List Int) : Prop := ∀ j (h : j < l.length), ∃ b o, A = some ⟨b, o, none⟩ ∧ w.cell? ⟨b, o + j, none⟩ = some (.int .i32 l[j])
theorem WdAt.nil {w : World} {A : Option Addr} : WdAt w A [] := fun j h => by simp at h
theorem WdAt.own {w : World} {B c : Nat} {A : Option Addr} {s : List Int} (h : w.ownsRow B 21 1 (.slice A s.length c) s.length (s.map i32)) : WdAt w A s := fun j hj => by
 obtain ⟨g, rfl, -⟩ := own_at h (k := j) (by simpa using hj)
 exact ⟨g, 0, rfl, by rw [Nat.zero_add]; exact own_cell h j _ (by simp [i32, hj])⟩
theorem WdAt.keep {w W : World} {A : Option Addr} {l : List Int} (h : WdAt w A l) (hb : Below w.heap.size w W) : WdAt W A l := fun j hj => by
 obtain ⟨b, o, e, hc⟩ := h j hj
 exact ⟨b, o, e, (hb.cell (p := ⟨b, o + j, none⟩) (World.block_lt_of_cell? w _ hc)).trans hc⟩
theorem words_eq (A A' : Option Addr) (c c' : Nat) (l : List Int) (w : World) (hr : WdAt w A l) (hr' : WdAt w A' l) (hn : l.length ≤ 300000) :
 Calls Tryz.prog 32 #[.slice A l.length c, .slice A' l.length c'] w fun e w' => e = .returned (.bool true) ∧ ∃ n, w' = w.drewN n := by
 go_enter Tryz.func32, Tryz.ntmps32
 go_wp2
 go_loopw [5] (fun i wr => ∃ k : Nat, k ≤ l.length ∧ i = .int .i64 k ∧ ∃ n, wr = w.drewN n) (fun i _ => l.length - (intOf i).toNat)
 case atStart => exact ⟨0, Nat.zero_le _, rfl, 0, rfl⟩
 case round =>
  obtain ⟨k, hk, rfl, nd, rfl⟩ := hrel
  by_cases hlt : k < l.length
  ·obtain ⟨b, o, rfl, c0⟩ := hr k hlt
   obtain ⟨b', o', rfl, c0'⟩ := hr' k hlt
   have hi : (k : Int) < (l.length : Int) := by omega
   have hi0 : (0 : Int) ≤ (k : Int) := by omega
   have hk6 : (k : Int) < 1000000 := by omega
   generalize l[k] = x at *
   have t : ((x : Int) != (x : Int)) = false := by simp
   go_wp2_with fail
   go_quiet (fail)
   go_wp2
   go_roundw
   case rel => exact ⟨k + 1, by omega, by go_num, _, rfl⟩
   case measure => simp [intOf] <;> omega
  ·have hi : ¬ (k : Int) < (l.length : Int) := by omega
   go_wp2
   go_ret
   exact ⟨rfl, nd, rfl⟩
theorem shown_eq (A A' : Option Addr) (c c' : Nat) (e v t : Int) (l : List Int) (w : World) (hr : WdAt w A l) (hr' : WdAt w A' l) (hn : l.length ≤ 300000) :
 Calls Tryz.prog 12 #[.agg #[.int .i64 e, .int .i32 v, .slice A l.length c, .int .i64 t], .agg #[.int .i64 e, .int .i32 v, .slice A' l.length c', .int .i64 t]] w fun e' w' => e' = .returned (.bool true) ∧ Below w.heap.size w w' := by
 have HS := Lh (((Hp.init w).box 44 #[.int .i64 e, .int .i32 v, .slice A l.length c, .int .i64 t]).box 44 #[.int .i64 e, .int .i32 v, .slice A' l.length c', .int .i64 t])
 have HR := Lh hr
 have HR' := Lh hr'
 clear hr hr'
 go_enter Tryz.func12, Tryz.ntmps12
 go_upto_region 1 with (fail)
 have hz : (w.alloc (.cells #[.int .i64 e, .int .i32 v, .slice A l.length c, .int .i64 t] 44)).heap.size = w.heap.size + 1 := by simp
 try rw [hz] at HS
 clear hz
 generalize (w.alloc _).alloc _ = w1 at *
 have HW := Lh (words_eq A A' c c' l w1 (HR.out.keep HS.out.mv) (HR'.out.keep HS.out.mv) hn)
 have p0 := HS.out.c 0 0
 have p1 := HS.out.c 0 1
 have p2 := HS.out.c 0 2
 have p3 := HS.out.c 0 3
 have q0 := HS.out.c 1 0
 have q1 := HS.out.c 1 1
 have q2 := HS.out.c 1 2
 have q3 := HS.out.c 1 3
 go_wp2_with fail
 refine (HW.out).mono ?_
 rintro e' w2 ⟨rfl, n, hn2⟩
 have hb : Below w1.heap.size w1 w2 := by rw [hn2]; exact Below.drewN_ (Below.refl _ _) _
 clear hn2
 replace HS := Lh (HS.out.below hb)
 clear hb p0 p1 p2 p3 q0 q1 q2 q3
 go_wp2_with fail
 go_ret
 exact ⟨rfl, HS.out.mv⟩
def Light (l : List Un) : Prop := l.length ≤ 8 ∧ ∀ u (h : u < l.length), l[u].bs.length ≤ 40 ∧ l[u].gs.length ≤ 40 ∧ l[u].os.length ≤ 40
def HvOut (l : List Un) (w : World) (e : Ending) (w' : World) : Prop := ∃ b, e = .returned (.bool b) ∧ w' = w ∧ (b = false → Light l)
theorem heavy_any (l : List Un) (A : Option Addr) (c : Nat) (w : World) (hr : RepS 3 RepU w A l) (hl : l.length ≤ maxLen) : Calls Tryz.prog 4 #[.slice A l.length c] w (HvOut l w) := by
 unfold maxLen at hl
 go_enter Tryz.func4, Tryz.ntmps4
 go_wp2_with fail
 go_loopw [3] (fun i wr => ∃ k : Nat, k ≤ l.length ∧ i = .int .i64 k ∧ wr = w ∧ Hid (∀ u (h : u < l.length), u < k → l[u].bs.length ≤ 40 ∧ l[u].gs.length ≤ 40 ∧ l[u].os.length ≤ 40)) (fun i _ => l.length - (intOf i).toNat)
 case atStart => exact ⟨0, Nat.zero_le _, rfl, rfl, Lh fun u h h0 => by omega⟩
 case round =>
  obtain ⟨k, hk, rfl, rfl, HK⟩ := hrel
  by_cases hlt : k < l.length
  ·obtain ⟨bb, oo, rfl, -⟩ := hr.adr (by omega)
   obtain ⟨cs, hrep, hc⟩ := hr.row hlt
   obtain ⟨UA, ua, UB, ub', UC, uc, rfl, rA, -, -, lA, -, -⟩ := hrep
   have c0 := hc wr (Below.refl _ _) 0 _ rfl
   have c1 := hc wr (Below.refl _ _) 1 _ rfl
   have c2 := hc wr (Below.refl _ _) 2 _ rfl
   rw [Nat.add_zero] at c0
   clear hc
   unfold maxLen at lA
   have hi : (k : Int) < (l.length : Int) := by omega
   have hi0 : (0 : Int) ≤ (k : Int) := by omega
   have hk6 : (k : Int) < 9223372036854775807 := by omega
   generalize hu : l[k] = u at *
   have HU := Lh hu
   clear hu
   by_cases h1 : 40 < u.bs.length
   ·have g1 : decide ((40 : Int) < (u.bs.length : Int)) = true := by simp; omega
    have g1' : (40 : Int) < (u.bs.length : Int) := by omega
    go_wp2
    go_ret
    exact ⟨true, rfl, rfl, fun h => by cases h⟩
   have g1 : decide ((40 : Int) < (u.bs.length : Int)) = false := by simp; omega
   by_cases h2 : 40 < u.gs.length
   ·have g2 : decide ((40 : Int) < (u.gs.length : Int)) = true := by simp; omega
    go_wp2
    go_ret
    exact ⟨true, rfl, rfl, fun h => by cases h⟩
   have g2 : decide ((40 : Int) < (u.gs.length : Int)) = false := by simp; omega
   by_cases h3 : 40 < u.os.length
   ·have g3 : decide ((40 : Int) < (u.os.length : Int)) = true := by simp; omega
    go_wp2
    go_ret
    exact ⟨true, rfl, rfl, fun h => by cases h⟩
   have g3 : decide ((40 : Int) < (u.os.length : Int)) = false := by simp; omega
   have HLE : Hid (u.bs.length ≤ 40 ∧ u.gs.length ≤ 40 ∧ u.os.length ≤ 40) := ⟨by omega, by omega, by omega⟩
   go_upto_region 6 with (fail)
   clear g1 g2 g3 h1 h2 h3
   go_wp2_with fail
   go_loopw [4] (fun i wr2 => ∃ j : Nat, j ≤ u.bs.length ∧ i = .int .i64 j ∧ wr2 = wr) (fun i _ => u.bs.length - (intOf i).toNat)
   case atStart => exact ⟨0, Nat.zero_le _, rfl, rfl⟩
   case round =>
    obtain ⟨j, hj, rfl, rfl⟩ := hrel
    rename_i wz
    by_cases hjl : j < u.bs.length
    ·obtain ⟨b2, o2, rfl, -⟩ := rA.adr (by omega)
     obtain ⟨cs2, hrb, hd⟩ := rA.row hjl
     obtain ⟨An, cn, Ap, cp, A', c', rfl, -, -, -, -⟩ := hrb.nine
     have d7 := hd _ (Below.refl _ _) 7 _ rfl
     have d8 := hd _ (Below.refl _ _) 8 _ rfl
     clear hd hrb
     have ji : (j : Int) < (u.bs.length : Int) := by omega
     have ji0 : (0 : Int) ≤ (j : Int) := by omega
     have hl40 := HLE.out.1
     have jk6 : (j : Int) < 100 := by omega
     generalize u.bs[j] = b at *
     rcases Bool.eq_false_or_eq_true (decide (200 < b.regs)) with g1 | g1
     ·go_wp2
      go_ret
      exact ⟨true, rfl, rfl, fun h => by cases h⟩
     rcases Bool.eq_false_or_eq_true (decide ((200 : Int) < (b.code.length : Int))) with g2 | g2
     ·go_wp2
      go_ret
      exact ⟨true, rfl, rfl, fun h => by cases h⟩
     go_wp2
     go_roundw
     case rel => exact ⟨j + 1, by omega, by go_num, by first | rfl | trivial⟩
     case measure => simp [intOf] <;> omega
    ·have ji : ¬ (j : Int) < (u.bs.length : Int) := by omega
     go_wp2
     go_roundw
     case rel =>
      refine ⟨k + 1, by omega, by go_num, by first | rfl | trivial, Lh fun v h hv => ?_⟩
      rcases Nat.lt_or_ge v k with h1 | h1
      ·exact HK.out v h h1
      ·have e : v = k := by omega
       subst e
       rw [HU.out]
       exact HLE.out
     case measure => simp [intOf] <;> omega
  ·have hi : ¬ (k : Int) < (l.length : Int) := by omega
   rcases Bool.eq_false_or_eq_true (decide ((8 : Int) < (l.length : Int))) with g1 | g1
   ·go_wp2
    go_ret
    exact ⟨true, rfl, rfl, fun h => by cases h⟩
   ·have h8 : l.length ≤ 8 := by simp at g1; omega
    go_wp2
    go_ret
    exact ⟨false, rfl, rfl, fun _ => ⟨h8, fun u h => HK.out u h (by omega)⟩⟩
end Go.Proofs.YthihaeobkoiljaaGreat
