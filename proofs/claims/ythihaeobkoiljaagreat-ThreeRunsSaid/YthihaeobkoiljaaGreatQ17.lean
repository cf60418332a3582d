/- Lemmas for the law. -/
import Derived.Test.YthihaeobkoiljaaGreatQ16
import Derived.Deep.CutBlock
import Derived.Recover
set_option linter.unusedVariables false
set_option linter.unusedSimpArgs false
set_option maxRecDepth 100000
set_option maxHeartbeats 40000000
namespace Go.Proofs.YthihaeobkoiljaaGreat
open Go.RowKit
theorem callsC_set4 (K : List Fm) (a0 a1 a2 a3 a4 v : Value) : (callsC K ++ [a0, a1, a2, a3, a4]).set (K.length * 5 + 4) v = callsC K ++ [a0, a1, a2, a3, v] := by
 rw [List.set_append_right _ _ (by rw [callsC_len]; omega), callsC_len, show K.length * 5 + 4 - K.length * 5 = 4 by omega]
 rfl
theorem go_on {l : List Un} {w : World} {rv : Nat} {LV : Value} {V : Option Addr} {vd : Nat} {VS : List Value} {base : List Rc} {n t : Nat} {E : Shw} {f : Fr} {KT : List Fm} {m m' : Ms} {r : List Int} {pc : Nat} (ha : act l f m = .go r pc m') (hE : run l (n + 1) f (KT.map Fm.f) m t = E)
 (hF : FrOk l { f with r := r, pc := pc }) (hk : KOk l (resW (bod l f.u f.i).ty) (KT.map Fm.f)) (hm : MsOk l m') (ho : m'.out.length ≤ t + 1) (hK : KT.length + 1 ≤ 3000) {C : Option Addr} {dc : Nat} {gR gB : Value} {O : Option Addr} {od : Nat} :
 ∀ W', Hp w W' (rfP w.heap.size rv LV C dc (⟨{ f with r := r, pc := pc }, gR, gB⟩ :: KT) O od m'.out V vd VS m'.vs 0 0 (t + 1) false base) → Going l w rv LV V vd VS base n (t + 1) E W' := fun W' h => by
 rw [run_go ha] at hE
 exact ⟨C, dc, _, KT, O, od, m', Lh h, hF, hk, hm, ho, hK, hE⟩
theorem src_take {f : Fr} {o : Or} {i k : Nat} (hi : i < o.s.length) (hk : o.s[i] = (k : Int)) (hr : k < f.r.length) : ((src f o).take (i + 1)).map i32 = ((src f o).take i).map i32 ++ [.int .i32 f.r[k]] := by
 have hl : i < (src f o).length := by rw [src_len]; exact hi
 have e : (src f o)[i] = f.r[k] := by
  have := src_at (f := f) hi
  rw [hk, Int.toNat_natCast] at this
  simpa [List.getD_eq_getElem?_getD, hl, hr] using this
 rw [List.take_succ_eq_append_getElem hl, List.map_append, e]
 rfl
theorem op14_cases {n : Int} (h : 1 ≤ n ∧ n ≤ 14) : n = 1 ∨ n = 2 ∨ n = 3 ∨ n = 4 ∨ n = 5 ∨ n = 6 ∨ n = 7 ∨ n = 8 ∨ n = 9 ∨ n = 10 ∨ n = 11 ∨ n = 12 ∨ n = 13 ∨ n = 14 := by omega
theorem setR_one {r D : List Int} {v : Int} {dn : Nat} (h : D.length = 1) (h0 : ∀ (h : 0 < D.length), D[0] = (dn : Int)) : setR r D [v] = r.set dn v := by
 match D, h with
 | [x], _ =>
  have : x = (dn : Int) := h0 (by simp)
  subst this
  simp [setR]
theorem own_cap5 {w : World} {B g : Nat} {e : TypeId} {s n c : Nat} {xs : List Value} (h : w.ownsRow B e s (.slice (some ⟨g, 0, none⟩) n c) n xs) : n ≤ c := by
 rcases h.2 with ⟨hv, -⟩ | ⟨g', cap, cur, hv, -, -, hle, -⟩
 ·cases hv
 ·injection hv with h1 h2 h3
  omega
theorem s_back {a b c d e : Rc} {F G L : List Rc} : (a :: b :: c :: d :: e :: (F ++ (G ++ L))).Perm (b :: c :: d :: e :: (F ++ (G ++ (a :: L)))) := by
 have h : (b :: c :: d :: e :: (F ++ (G ++ (a :: L)))) = ((b :: c :: d :: e :: F) ++ G) ++ a :: L := by simp
 have h2 : (a :: b :: c :: d :: e :: (F ++ (G ++ L))) = a :: (((b :: c :: d :: e :: F) ++ G) ++ L) := by simp
 rw [h, h2]
 exact List.perm_middle.symm
theorem StpOut.sub {l : List Un} {w : World} {rv : Nat} {LV : Value} {V : Option Addr} {vd : Nat} {VS : List Value} {base base' : List Rc} {n t : Nat} {E : Shw} {e : Ending} {W : World} (h : StpOut l w rv LV V vd VS base' n t E e W) (hs : base.Sublist base') : StpOut l w rv LV V vd VS base n t E e W := by
 obtain ⟨h0, h⟩ := h
 refine ⟨h0, ?_⟩
 rcases h with ⟨C, dc, K, O, od, vs, HS⟩ | ⟨C, dc, x, K, O, od, m, HS, h1⟩
 ·refine .inl ⟨C, dc, K, O, od, vs, Lh (HS.out.sub ?_)⟩
  unfold rfP
  exact .cons_cons _ (.cons_cons _ (.cons_cons _ (.cons_cons _ (List.Sublist.append_left (List.Sublist.append_left hs _) _))))
 ·refine .inr ⟨C, dc, x, K, O, od, m, Lh (HS.out.sub ?_), h1⟩
  unfold rfP
  exact .cons_cons _ (.cons_cons _ (.cons_cons _ (.cons_cons _ (List.Sublist.append_left (List.Sublist.append_left hs _) _))))
theorem varC_at {v : List (Int × Int)} : ∀ {i : Nat}, i < v.length → (varC v)[i * 2]? = some (.int .i32 (v.getD i (0, 0)).1) ∧ (varC v)[i * 2 + 1]? = some (.int .i32 (v.getD i (0, 0)).2) := by
 induction v with
 | nil => intro i h; simp at h
 | cons q v ih =>
  intro i h
  cases i with
  | zero => exact ⟨rfl, rfl⟩
  | succ i =>
   have := ih (i := i) (by simpa using h)
   unfold varC at *
   simp only [List.flatMap_cons, List.getD_cons_succ]
   rw [show (i + 1) * 2 = i * 2 + 2 by omega, show i * 2 + 2 + 1 = i * 2 + 1 + 2 by omega]
   exact this
theorem varC_set {v : List (Int × Int)} {x : Int} : ∀ {i : Nat}, i < v.length → (varC v).set (i * 2) (.int .i32 x) = varC (v.set i (x, (v.getD i (0, 0)).2)) ∧ (varC v).set (i * 2 + 1) (.int .i32 x) = varC (v.set i ((v.getD i (0, 0)).1, x)) := by
 induction v with
 | nil => intro i h; simp at h
 | cons q v ih =>
  intro i h
  cases i with
  | zero => exact ⟨rfl, rfl⟩
  | succ i =>
   have := ih (i := i) (by simpa using h)
   unfold varC at *
   simp only [List.flatMap_cons, List.getD_cons_succ, List.set_cons_succ]
   rw [show (i + 1) * 2 = i * 2 + 2 by omega, show i * 2 + 2 + 1 = i * 2 + 1 + 2 by omega, ← this.1, ← this.2]
   exact ⟨rfl, rfl⟩
theorem vr_pull {B : Nat} : ∀ {VS : List Value} {vs : List (List (Int × Int))} {u : Nat}, VS.length = vs.length → ∀ (hu : u < VS.length), ∃ R, ∀ v' : List (Int × Int), (vrP B VS (vs.set u v')).Perm (ow B 89 2 VS[u] v'.length (varC v') :: R)
 | [], _, _, _, h => by simp at h
 | S :: VS, [], _, h, _ => by simp at h
 | S :: VS, v :: vs, 0, h, _ => ⟨vrP B VS vs, fun v' => by simp [vrP]⟩
 | S :: VS, v :: vs, u + 1, h, hu => by
  obtain ⟨R, hR⟩ := vr_pull (B := B) (VS := VS) (vs := vs) (u := u) (by simpa using h) (by simpa using hu)
  refine ⟨ow B 89 2 S v.length (varC v) :: R, fun v' => ?_⟩
  simp only [List.set_cons_succ, List.getElem_cons_succ]
  unfold vrP
  exact ((hR v').cons _).trans (.swap _ _ _)
theorem set_self {vs : List (List (Int × Int))} {u : Nat} (hu : u < vs.length) : vs.set u (vs.getD u []) = vs := by
 rw [List.getD_eq_getElem?_getD, List.getElem?_eq_getElem hu, Option.getD_some, List.set_getElem_self]
theorem vr_mem {B : Nat} {VS : List Value} {vs : List (List (Int × Int))} {u : Nat} (h : VS.length = vs.length) (hu : u < VS.length) : ow B 89 2 VS[u] (vs.getD u []).length (varC (vs.getD u [])) ∈ vrP B VS vs := by
 obtain ⟨R, hR⟩ := vr_pull (B := B) h hu
 have := hR (vs.getD u [])
 rw [set_self (by omega)] at this
 exact (this.mem_iff).2 (List.mem_cons_self ..)
theorem len_two {l : List Int} (h : l.length = 2) : ∃ a b, l = [a, b] := by
 match l, h with
 | [a, b], _ => exact ⟨a, b, rfl⟩
theorem x_front {x a b c d e f g h : Rc} {F G L : List Rc} : (a :: b :: c :: d :: e :: f :: g :: h :: (F ++ ((x :: G) ++ L))).Perm (x :: a :: b :: c :: d :: e :: f :: g :: h :: (F ++ (G ++ L))) := by
 have h1 : (a :: b :: c :: d :: e :: f :: g :: h :: (F ++ ((x :: G) ++ L))) = (a :: b :: c :: d :: e :: f :: g :: h :: F) ++ x :: (G ++ L) := by simp
 have h2 : (x :: a :: b :: c :: d :: e :: f :: g :: h :: (F ++ (G ++ L))) = x :: ((a :: b :: c :: d :: e :: f :: g :: h :: F) ++ (G ++ L)) := by simp
 rw [h1, h2]
 exact List.perm_middle
theorem RowAt.tl {w : World} {L : List Rc} {B c g : Nat} {x : Int} {s : List Int} (hm : rI B (.slice (some ⟨g, 0, none⟩) (x :: s).length c) (x :: s) ∈ L) : RowAt w L (some ⟨g, 1, none⟩) s := fun j hj => by
 refine ⟨g, 1, rfl, fun Y hY => ?_⟩
 have h2 : Y.ownsRow B 21 1 (.slice (some ⟨g, 0, none⟩) (x :: s).length c) (x :: s).length ((x :: s).map i32) := hY.ok _ hm
 rw [Nat.add_comm]
 exact own_cell h2 (j + 1) _ (by simp [i32, hj])
theorem fr_ty {l : List Un} {w : World} {bb oo : Nat} (hr : RepS 3 RepU w (some ⟨bb, oo, none⟩) l) {u i : Nat} (hu : u < l.length) (hi : i < (unAt l u).bs.length) :
 ∃ b2 o2 ua An cn Ap cp, Rep w (bod l u i).ty [.int .i64 (bod l u i).ty.k, .string (bod l u i).ty.nm, .slice An (bod l u i).ty.ns.length cn, .slice Ap (bod l u i).ty.ps.length cp, .bool (bod l u i).ty.many] ∧ ∀ W, Below w.heap.size w W → (W.cell? ⟨bb, oo + u * 3, none⟩ = some (.slice (some ⟨b2, o2, none⟩) (unAt l u).bs.length ua) ∧ W.cell? ⟨b2, o2 + i * 9 + 2, none⟩ = some (.int .i64 (bod l u i).ty.k) ∧ W.cell? ⟨b2, o2 + i * 9 + 3, none⟩ = some (.string (bod l u i).ty.nm) ∧ W.cell? ⟨b2, o2 + i * 9 + 4, none⟩ = some (.slice An (bod l u i).ty.ns.length cn) ∧ W.cell? ⟨b2, o2 + i * 9 + 5, none⟩ = some (.slice Ap (bod l u i).ty.ps.length cp) ∧ W.cell? ⟨b2, o2 + i * 9 + 6, none⟩ = some (.bool (bod l u i).ty.many)) := by
 have hi' : i < l[u].bs.length := by rwa [unAt_at hu] at hi
 rw [unAt_at hu]
 generalize hB : bod l u i = b at *
 have hB2 : l[u].bs[i] = b := by rw [← hB]; exact (bod_at hu hi').symm
 obtain ⟨cs0, hrep, hc⟩ := hr.row hu
 obtain ⟨UA, ua, UB, ub', UC, uc, rfl, rA, -⟩ := hrep
 obtain ⟨b2, o2, rfl, -⟩ := rA.adr (by omega)
 obtain ⟨cs2, hrb, hd⟩ := rA.row hi'
 rw [hB2] at hrb
 obtain ⟨An, cn, Ap, cp, A', c', rfl, hTy, -⟩ := hrb.nine
 refine ⟨b2, o2, ua, An, cn, Ap, cp, hTy, fun W hW => ⟨?_, hd W hW 2 _ rfl, hd W hW 3 _ rfl, hd W hW 4 _ rfl, hd W hW 5 _ rfl, hd W hW 6 _ rfl⟩⟩
 have := hc W hW 0 _ rfl
 rwa [Nat.add_zero] at this
theorem s_le {T : Ty} {regs : Int} {len : Nat} {o : Or} (h : OrdOk T regs len o) (hT : resW T ≤ 12) : o.s.length ≤ 100 := by
 rcases op14_cases h.op with e | e | e | e | e | e | e | e | e | e | e | e | e | e
 ·have := h.o1 e; omega
 ·have := h.o2 e; omega
 ·have := h.o3 e; omega
 ·have := h.o4 e; omega
 ·have := h.o5 e; omega
 ·have := h.o6 e; omega
 ·obtain ⟨-, h2, -, h4⟩ := h.o7 e; have := spare_ln h2; have := parW_le h4; omega
 ·obtain ⟨-, h1, h2, h4⟩ := h.o8 e; have := spare_ln h2; have := parW_le h4; omega
 ·have := h.o9 e; omega
 ·have := h.o10 e; omega
 ·have := h.o11 e; omega
 ·have := h.o12 e; omega
 ·have := h.o13 e; omega
 ·have := h.o14 e; omega
theorem resW_12 {T : Ty} (h : may T = true) : resW T ≤ 12 := by
 unfold resW lastT
 rw [List.getD_eq_getElem?_getD]
 rcases e : T.ps[T.ps.length - 1]? with _ | p
 ·decide
 ·exact (may_size h p (List.mem_of_getElem? e)).2
theorem d_le {T : Ty} {regs : Int} {len : Nat} {o : Or} (h : OrdOk T regs len o) : o.d.length ≤ 100 := by
 rcases op14_cases h.op with e | e | e | e | e | e | e | e | e | e | e | e | e | e
 ·have := h.o1 e; omega
 ·have := h.o2 e; omega
 ·have := h.o3 e; omega
 ·have := h.o4 e; omega
 ·have := h.o5 e; omega
 ·have := h.o6 e; omega
 ·obtain ⟨h1, -, -, h4⟩ := h.o7 e; have := resW_12 h4; omega
 ·obtain ⟨h1, -, -, h4⟩ := h.o8 e; have := resW_12 h4; omega
 ·have := h.o9 e; omega
 ·have := h.o10 e; omega
 ·have := h.o11 e; omega
 ·have := h.o12 e; omega
 ·have := h.o13 e; omega
 ·have := h.o14 e; omega
theorem late345 {l : List Value} (h : l.length = 345) : ∃ f : Nat → Value, l = [f 0, f 1, f 2, f 3, f 4, f 5, f 6, f 7, f 8, f 9, f 10, f 11, f 12, f 13, f 14, f 15, f 16, f 17, f 18, f 19, f 20, f 21, f 22, f 23, f 24, f 25, f 26, f 27, f 28, f 29, f 30, f 31, f 32, f 33, f 34, f 35, f 36, f 37, f 38, f 39, f 40, f 41, f 42, f 43, f 44, f 45, f 46, f 47, f 48, f 49, f 50, f 51, f 52, f 53, f 54, f 55, f 56, f 57, f 58, f 59, f 60, f 61, f 62, f 63, f 64, f 65, f 66, f 67, f 68, f 69, f 70, f 71, f 72, f 73, f 74, f 75, f 76, f 77, f 78, f 79, f 80, f 81, f 82, f 83, f 84, f 85, f 86, f 87, f 88, f 89, f 90, f 91, f 92, f 93, f 94, f 95, f 96, f 97, f 98, f 99, f 100, f 101, f 102, f 103, f 104, f 105, f 106, f 107, f 108, f 109, f 110, f 111, f 112, f 113, f 114, f 115, f 116, f 117, f 118, f 119, f 120, f 121, f 122, f 123, f 124, f 125, f 126, f 127, f 128, f 129, f 130, f 131, f 132, f 133, f 134, f 135, f 136, f 137, f 138, f 139, f 140, f 141, f 142, f 143, f 144, f 145, f 146, f 147, f 148, f 149, f 150, f 151, f 152, f 153, f 154, f 155, f 156, f 157, f 158, f 159, f 160, f 161, f 162, f 163, f 164, f 165, f 166, f 167, f 168, f 169, f 170, f 171, f 172, f 173, f 174, f 175, f 176, f 177, f 178, f 179, f 180, f 181, f 182, f 183, f 184, f 185, f 186, f 187, f 188, f 189, f 190, f 191, f 192, f 193, f 194, f 195, f 196, f 197, f 198, f 199, f 200, f 201, f 202, f 203, f 204, f 205, f 206, f 207, f 208, f 209, f 210, f 211, f 212, f 213, f 214, f 215, f 216, f 217, f 218, f 219, f 220, f 221, f 222, f 223, f 224, f 225, f 226, f 227, f 228, f 229, f 230, f 231, f 232, f 233, f 234, f 235, f 236, f 237, f 238, f 239, f 240, f 241, f 242, f 243, f 244, f 245, f 246, f 247, f 248, f 249, f 250, f 251, f 252, f 253, f 254, f 255, f 256, f 257, f 258, f 259, f 260, f 261, f 262, f 263, f 264, f 265, f 266, f 267, f 268, f 269, f 270, f 271, f 272, f 273, f 274, f 275, f 276, f 277, f 278, f 279, f 280, f 281, f 282, f 283, f 284, f 285, f 286, f 287, f 288, f 289, f 290, f 291, f 292, f 293, f 294, f 295, f 296, f 297, f 298, f 299, f 300, f 301, f 302, f 303, f 304, f 305, f 306, f 307, f 308, f 309, f 310, f 311, f 312, f 313, f 314, f 315, f 316, f 317, f 318, f 319, f 320, f 321, f 322, f 323, f 324, f 325, f 326, f 327, f 328, f 329, f 330, f 331, f 332, f 333, f 334, f 335, f 336, f 337, f 338, f 339, f 340, f 341, f 342, f 343, f 344] := by
 have h2 : l = (List.range l.length).map fun k => l.getD k undef := by
  apply List.ext_getElem
  ·simp
  ·intro i h1 h2
   simp [List.getD_eq_getElem?_getD, h1]
 rw [h] at h2
 exact ⟨fun k => l.getD k undef, h2⟩
def rSub : List Nat → Code → Code
 | [], c => c
 | 0 :: p, .seq a _ => rSub p a
 | _ :: p, .seq _ b => rSub p b
 | _, c => c
noncomputable def rSw : Code := rSub [1, 1, 1, 1, 1, 1, 0, 1] (Tryz.f36.body.getD .skip)
noncomputable def rRs : Code := rSub [1, 1, 1, 1, 1, 1, 1] (Tryz.f36.body.getD .skip)
def FsS (rv cb off ob : Nat) (sv : Value) (op : Int) (a : Act) : Prop := ∃ (x1 x5 : Value) (y : List Value), y.length = 345 ∧ y[76]? = some (.int .i64 op) ∧ a = ⟨List.toArray (.pointer (some ⟨rv, 0, none⟩) :: x1 :: .pointer (some ⟨cb, off, none⟩) :: .pointer (some ⟨ob, 0, none⟩) :: sv :: x5 :: .int .i32 0 :: y), []⟩
def FsB (cb off ob : Nat) (d : Value) (a : Act) : Prop := ∃ (x0 x1 x4 x5 : Value) (y : List Value), y.length = 345 ∧ a = ⟨List.toArray (x0 :: x1 :: .pointer (some ⟨cb, off, none⟩) :: .pointer (some ⟨ob, 0, none⟩) :: x4 :: x5 :: d :: y), []⟩
def Ny (l : List Un) (w : World) (bb oo c rv cb dc gu gi : Nat) (gr gb : List Int) (RA BA : Option Addr) (rc bc : Nat) (KT : List Fm) (V : Option Addr) (vd : Nat) (VS : List Value) (base : List Rc) (n t : Nat) (E : Shw) (o : Or) (oB : Rc) (d : Value) (W : World) : Prop := ∃ (v : Int) (r2 : List Int) (pc2 : Nat) (m2 : Ms) (O : Option Addr) (od : Nat), d = .int .i32 v ∧ r2 = (if o.d.length = 1 then setR gr o.d [v] else gr) ∧
 Hid (∀ (gR : Value) (O : Option Addr) (od : Nat) (W' : World), Hp w W' (rfP w.heap.size rv (.slice (some ⟨bb, oo, none⟩) l.length c) (some ⟨cb, 0, none⟩) dc (⟨⟨gu, gi, r2, gb, pc2⟩, gR, .slice BA gb.length bc⟩ :: KT) O od m2.out V vd VS m2.vs 0 0 (t + 1) false base) → Going l w rv (.slice (some ⟨bb, oo, none⟩) l.length c) V vd VS base n (t + 1) E W') ∧
 Hid (Hp w W (bx rv 85 #[.slice (some ⟨bb, oo, none⟩) l.length c, .slice (some ⟨cb, 0, none⟩) (KT.length + 1) dc, .slice V VS.length vd, .int .i64 0, .int .i32 0, .slice O m2.out.length od, .int .i64 ((t + 1 : Nat) : Int), .bool false] :: ow w.heap.size 120 5 (.slice (some ⟨cb, 0, none⟩) (KT.length + 1) dc) (KT.length + 1) (callsC KT ++ ([.int .i64 (gu : Int), .int .i64 (gi : Int), .slice RA gr.length rc, .slice BA gb.length bc, .int .i64 (pc2 : Int)] : List Value)) :: ow w.heap.size 21 1 (.slice O m2.out.length od) m2.out.length (m2.out.map i32) :: ow w.heap.size 86 1 (.slice V VS.length vd) VS.length VS :: ow w.heap.size 21 1 (.slice RA gr.length rc) gr.length (gr.map i32) :: ow w.heap.size 21 1 (.slice BA gb.length bc) gb.length (gb.map i32) :: oB :: (KT.flatMap (frP w.heap.size) ++ (vrP w.heap.size VS m2.vs ++ base))))
def OrdS (ok : Int → Prop) : Prop := ∀ {l : List Un} {w W : World} {bb oo c rv cb dc gu gi q : Nat} {gr gb : List Int} {RA BA : Option Addr} {rc bc : Nat} {KT : List Fm} {V : Option Addr} {vd : Nat} {VS : List Value} {base : List Rc} {n t : Nat} {E : Shw} {o : Or} {Ad As An Ap : Option Addr} {cd cs cn cp ob : Nat} {m : Ms} {O : Option Addr} {od nc : Nat} {sl : List Int} {Sa : Option Addr} {sc : Nat} {K1 : Act → World → Prop} {a : Act} (HFIN : Hid (∀ d a (W : World), FsB cb (KT.length * 5) ob d a → Ny l w bb oo c rv cb dc gu gi gr gb RA BA rc bc KT V vd VS base n t E o (bx ob 63 #[.int .i64 o.op, .slice Ad o.d.length cd, .slice As o.s.length cs, .int .i64 o.n, .string o.nm, .int .i64 o.ty.k, .string o.ty.nm, .slice An o.ty.ns.length cn, .slice Ap o.ty.ps.length cp, .bool o.ty.many]) d W → K1 a W))
 (HF : Hid (FrOk l ⟨gu, gi, gr, gb, q⟩)) (HR : Hid (RepS 3 RepU w (some ⟨bb, oo, none⟩) l)) (HH : Hid (∀ u (h : u < l.length), l[u].bs.length ≤ 40)) (HH2 : Hid (∀ u (h : u < l.length), l[u].gs.length ≤ 40)) (HL : Hid (Lnk l)) (HKO : Hid (KOk l (resW (bod l gu gi).ty) (KT.map Fm.f))) (HM : Hid (MsOk l m)) (HE : Hid (run l (n + 1) ⟨gu, gi, gr, gb, q⟩ (KT.map Fm.f) m t = E)) (HIX : Hid (∀ x : Int, 0 ≤ x ∧ x < (bod l gu gi).regs → ∃ k : Nat, x = (k : Int) ∧ k < gr.length ∧ k < 8000)) (HOO : Hid (OrdOk (bod l gu gi).ty (bod l gu gi).regs nc o)) (HNC : Hid ((bod l gu gi).code.length = nc)) (HORD : Hid (ord l ⟨gu, gi, gr, gb, q⟩ = o)) (HTY : Hid (Rep w o.ty [.int .i64 o.ty.k, .string o.ty.nm, .slice An o.ty.ns.length cn, .slice Ap o.ty.ps.length cp, .bool o.ty.many])) (HBT : Hid (m.out.length ≤ t ∧ t ≤ 100000000 ∧ KT.length + 1 ≤ 3000)) (HSQ : Hid (src ⟨gu, gi, gr, gb, q⟩ o = sl)) (HSL : Hid (sl.length = o.s.length)) (hV : VS.length = l.length) (hu : gu < l.length) (hs100 : o.s.length ≤ 100) (HOP0 : Hid (ok o.op))
 (HS : Hid (Hp w W (ow w.heap.size 21 1 (.slice Sa o.s.length sc) o.s.length (sl.map i32) :: bx rv 85 #[.slice (some ⟨bb, oo, none⟩) l.length c, .slice (some ⟨cb, 0, none⟩) (KT.length + 1) dc, .slice V VS.length vd, .int .i64 0, .int .i32 0, .slice O m.out.length od, .int .i64 ((t + 1 : Nat) : Int), .bool false] :: ow w.heap.size 120 5 (.slice (some ⟨cb, 0, none⟩) (KT.length + 1) dc) (KT.length + 1) (callsC KT ++ ([.int .i64 (gu : Int), .int .i64 (gi : Int), .slice RA gr.length rc, .slice BA gb.length bc, .int .i64 ((q : Int) + 1)] : List Value)) :: ow w.heap.size 21 1 (.slice O m.out.length od) m.out.length (m.out.map i32) :: ow w.heap.size 86 1 (.slice V VS.length vd) VS.length VS :: ow w.heap.size 21 1 (.slice RA gr.length rc) gr.length (gr.map i32) :: ow w.heap.size 21 1 (.slice BA gb.length bc) gb.length (gb.map i32) :: bx ob 63 #[.int .i64 o.op, .slice Ad o.d.length cd, .slice As o.s.length cs, .int .i64 o.n, .string o.nm, .int .i64 o.ty.k, .string o.ty.nm, .slice An o.ty.ns.length cn, .slice Ap o.ty.ps.length cp, .bool o.ty.many] :: (KT.flatMap (frP w.heap.size) ++ (vrP w.heap.size VS m.vs ++ base))))) (hS : FsS rv cb (KT.length * 5) ob (.slice Sa o.s.length sc) o.op a), rSw.wp Tryz.prog (Exit.then K1 (bodyPost Tryz.prog Tryz.f36 (StpOut l w rv (.slice (some ⟨bb, oo, none⟩) l.length c) V vd VS base n (t + 1) E))) a W
theorem step_fin {l : List Un} {w W : World} {bb oo c rv cb dc gu gi : Nat} {gr gb : List Int} {RA BA : Option Addr} {rc bc : Nat} {KT : List Fm} {V : Option Addr} {vd : Nat} {VS : List Value} {base : List Rc} {n t : Nat} {E : Shw} {o : Or} {Ad As An Ap : Option Addr} {cd cs cn cp ob : Nat} {a : Act} {d : Value} (HIX : Hid (∀ y ∈ o.d, ∃ k : Nat, y = (k : Int) ∧ k < gr.length ∧ k < 8000)) (HRD : Hid (Row w Ad (o.d.map i64))) (hd12 : o.d.length ≤ 100) (hB : FsB cb (KT.length * 5) ob d a) (h : Ny l w bb oo c rv cb dc gu gi gr gb RA BA rc bc KT V vd VS base n t E o (bx ob 63 #[.int .i64 o.op, .slice Ad o.d.length cd, .slice As o.s.length cs, .int .i64 o.n, .string o.nm, .int .i64 o.ty.k, .string o.ty.nm, .slice An o.ty.ns.length cn, .slice Ap o.ty.ps.length cp, .bool o.ty.many]) d W) : rRs.wp Tryz.prog (bodyPost Tryz.prog Tryz.f36 (StpOut l w rv (.slice (some ⟨bb, oo, none⟩) l.length c) V vd VS base n (t + 1) E)) a W := by
 obtain ⟨x0, x1, x4, x5, y, hy, rfl⟩ := hB
 obtain ⟨f, rfl⟩ := late345 hy
 clear hy
 obtain ⟨v, r2, pc2, m2, O, od, rfl, hr2, HGO, HS⟩ := h
 obtain ⟨w0, rfl⟩ : ∃ y, y = W := ⟨_, rfl⟩
 have HR2 := Lh hr2
 clear hr2
 unfold rRs
 conv => arg 2; whnf
 by_cases hd : o.d.length = 1
 ·have HD1 := Lh hd
  clear hd
  have hdl : 0 < o.d.length := by have := HD1.out; omega
  obtain ⟨dn, hdn, hdr, hd8⟩ := HIX.out _ (List.getElem_mem hdl)
  obtain ⟨ad, ao, rfl, hal, hac⟩ := HRD.out.i64 hdl
  rw [hdn, Nat.add_zero] at hac
  have HAD : Hid (∀ Y, Below w.heap.size w Y → Y.cell? ⟨ad, ao, none⟩ = some (.int .i64 (dn : Int))) := fun Y hY => (hY.cell (p := ⟨ad, ao, none⟩) hal).trans hac
  have HSR : Hid ((gr.map i32).set dn (.int .i32 v) = (setR gr o.d [v]).map i32) := by show _ = _; rw [setR_one HD1.out (fun _ => hdn), List.map_set]; rfl
  obtain ⟨rg, rfl⟩ := own_some (HS.out.own 4 rfl) (by omega)
  have g5 : (dn : Int) < (gr.length : Int) := by omega
  have g6 : (0 : Int) ≤ (dn : Int) := by omega
  have g7 : (dn : Int) < 100000 := by omega
  clear hac hal hdn hdl
  have HP1 : Hid (∀ Y, Blk Y ob 63 #[.int .i64 o.op, .slice (some ⟨ad, ao, none⟩) o.d.length cd, .slice As o.s.length cs, .int .i64 o.n, .string o.nm, .int .i64 o.ty.k, .string o.ty.nm, .slice An o.ty.ns.length cn, .slice Ap o.ty.ps.length cp, .bool o.ty.many] → Y.cell? ⟨ob, 1, none⟩ = some (.slice (some ⟨ad, ao, none⟩) 1 cd)) := fun Y h => by have h2 : Y.cell? ⟨ob, 1, none⟩ = some (.slice (some ⟨ad, ao, none⟩) o.d.length cd) := h.cell 1 _ rfl; rw [HD1.out] at h2; exact h2
  have p1 := HP1.out _ (HS.out.blk 6 rfl)
  go_upto_region 58 with (fail)
  clear p1
  replace HS := Lh HS.out.drew
  refine dQ (fun W => At W cb (KT.length * 5 + 2) (.slice (some ⟨rg, 0, none⟩) gr.length rc) ∧ At W ob 1 (.slice (some ⟨ad, ao, none⟩) 1 cd) ∧ At W ad ao (.int .i64 (dn : Int))) (⟨(call_cells (HS.out.own 1 rfl)).2.2.1, HP1.out _ (HS.out.blk 6 rfl), HAD.out _ HS.out.mv⟩) fun _ => ?_
  generalize w0.drew = w1 at *
  refine tQ4 0 1 2 3 ?_; try simp only [sq]
  refine tQ4 4 5 6 7 ?_; try simp only [sq]
  refine tQ2 8 9 ?_; try simp only [sq]
  refine rQ 10 (fun K hK => ?_)
  replace HS := Lh HS.out.f4
  have fz := HS.out.one.frozenAt dn
  have ce := HS.out.one.cellAt dn (by omega)
  rw [List.getElem?_map, List.getElem?_eq_getElem hdr] at ce
  simp only [Option.map_some, i32] at ce
  go_simp
  clear fz ce
  replace HS := Lh (HS.out.rowput dn (.int .i32 v))
  generalize w1.setCell _ _ = w2 at *
  rw [HSR.out] at HS
  refine hK.out _ _ (⟨(call_cells (HS.out.own 2 rfl)).2.2.1, HP1.out _ (HS.out.blk 6 rfl), HAD.out _ HS.out.mv⟩) (fun _ => ?_)
  clear hK K
  try simp only [sq]
  refine fQ ?_ _
  replace HS := Lh HS.out.f6.drop.f5.f1.f5.f5.f5.f5
  go_wp2_with fail
  refine bodyPost_end (v := .tuple #[]) (results_none_ rfl _ _ _) rfl ?_
  refine ⟨rfl, .inr (HGO.out (.slice (some ⟨rg, 0, none⟩) gr.length rc) O od _ ?_)⟩
  unfold rfP
  rw [HR2.out]
  rw [if_pos HD1.out]
  simp only [List.flatMap_cons, frP, rI, setR_len, List.cons_append, List.nil_append]
  exact HS.out
 have p1 := HS.out.c 6 1
 have hd0 : ((o.d.length : Int) == 1) = false := by simp; omega
 have HD0 := Lh hd
 clear hd
 skip
 replace HS := Lh HS.out.f6.drop.f5.f5.f5.f5.f5.f5
 go_wp2_with fail
 refine bodyPost_end (v := .tuple #[]) (results_none_ rfl _ _ _) rfl ?_
 refine ⟨rfl, .inr (HGO.out (.slice RA gr.length rc) O od _ ?_)⟩
 unfold rfP
 rw [HR2.out]
 rw [if_neg HD0.out]
 simp only [List.flatMap_cons, frP, rI, List.cons_append, List.nil_append]
 exact HS.out
theorem deep_any {w W : World} {L : List Rc} {X xb : Nat} {a0 a1 a2 a3 a4 a5 a6 a7 a8 a10 : Value} {d : Nat} (u : FrameMode) (h : Hp w W (bx X 55 #[a0, a1, a2, a3, a4, a5, a6, a7, a8, .int .i64 ((d : Int) + 1), a10] :: bx xb 50 #[.pointer (some ⟨X, 0, none⟩)] :: L)) (hd : d ≤ 4000) :
 CallsD Tryz.prog 77 #[.pointer (some ⟨xb, 0, none⟩)] u W fun e u' W' => u' = u ∧ (e = .returned (.tuple #[]) ∧ Hp w W' (bx X 55 #[a0, a1, a2, a3, a4, a5, a6, a7, a8, .int .i64 (d : Int), a10] :: bx xb 50 #[.pointer (some ⟨X, 0, none⟩)] :: L)) := by
 have x0 := h.c 1 0
 have f9 := h.one.free 9
 have g9 := h.one.cell 9 _ rfl
 have hw : IntKind.i64.wrap (d : Int) = (d : Int) := by rw [IntKind.wrap_i64]; omega
 have h2 := h.put1 9 (.int .i64 (d : Int))
 simp only [sq] at h2
 have HS := Lh h2
 clear h h2
 go_enter_d Tryz.func77, Tryz.ntmps77
 go_wp2
 refine bodyPost_end (v := .tuple #[]) (results_none_ rfl _ _ _) rfl ?_
 exact ⟨rfl, HS.out⟩
def gotL (r : List Int) (s : List Int) : List Int := s.map fun i => r.getD i.toNat 0
theorem got_take {r s : List Int} {i k : Nat} (hi : i < s.length) (hk : s[i] = (k : Int)) (hr : k < r.length) : ((gotL r s).map i32).take (i + 1) = ((gotL r s).map i32).take i ++ [.int .i32 r[k]] := by
 have hl : i < ((gotL r s).map i32).length := by unfold gotL; rw [List.length_map, List.length_map]; exact hi
 have e : ((gotL r s).map i32)[i] = .int .i32 r[k] := by
  simp [gotL, hk, List.getD_eq_getElem?_getD, hr, i32]
 rw [List.take_succ_eq_append_getElem hl, e]
theorem get_any (s gr : List Int) {w W : World} {L : List Rc} {rb : Nat} {As RA : Option Addr} {cs rc : Nat} (hs : Row w As (s.map i64)) (hix : ∀ x ∈ s, ∃ k : Nat, x = (k : Int) ∧ k < gr.length ∧ k < 8000) (hn : s.length ≤ 100)
 (h : Hp w W (bx rb 42 #[.slice RA gr.length rc] :: ow w.heap.size 21 1 (.slice RA gr.length rc) gr.length (gr.map i32) :: L)) :
 Calls Tryz.prog 78 #[.slice As s.length cs, .pointer (some ⟨rb, 0, none⟩)] W fun e W' => ∃ Sa sc, e = .returned (.slice Sa s.length sc) ∧ Hid (Hp w W' (ow w.heap.size 21 1 (.slice Sa s.length sc) s.length ((gotL gr s).map i32) :: bx rb 42 #[.slice RA gr.length rc] :: ow w.heap.size 21 1 (.slice RA gr.length rc) gr.length (gr.map i32) :: L)) := by
 have HRS := Lh hs
 have HIX := Lh hix
 have HS := Lh (h.row0 w.heap.size 21 1)
 have HGL : Hid ((gotL gr s).length = s.length) := by show _ = _; unfold gotL; rw [List.length_map]
 clear hs hix h
 go_enter Tryz.func78, Tryz.ntmps78
 obtain ⟨w0, rfl⟩ : ∃ x, x = W := ⟨_, rfl⟩
 go_wp2_with fail
 go_loopw [3, 8] (fun sv iv wr => ∃ (i : Nat) (Sa : Option Addr) (sc : Nat), i ≤ s.length ∧ iv = .int .i64 i ∧ sv = .slice Sa i sc ∧ Hid (Hp w wr (ow w.heap.size 21 1 (.slice Sa i sc) i (((gotL gr s).map i32).take i) :: bx rb 42 #[.slice RA gr.length rc] :: ow w.heap.size 21 1 (.slice RA gr.length rc) gr.length (gr.map i32) :: L))) (fun _ iv _ => s.length - (intOf iv).toNat)
 case atStart => exact ⟨0, none, 0, Nat.zero_le _, rfl, rfl, by show Hp _ _ _; rw [List.take_zero]; exact HS.out⟩
 case round =>
  clear HS; obtain ⟨i, Sa, sc, hik, rfl, rfl, HS⟩ := hrel
  obtain ⟨w1, rfl⟩ : ∃ x, x = wr := ⟨_, rfl⟩
  by_cases hlt : i < s.length
  ·obtain ⟨sn, hsi, hsn, hs8⟩ := HIX.out _ (List.getElem_mem hlt)
   obtain ⟨as_, ao, rfl, hal, hac⟩ := HRS.out.i64 hlt
   rw [hsi] at hac
   have c0 := (HS.out.mv.cell (p := ⟨as_, ao + i, none⟩) hal).trans hac
   obtain ⟨rg, rfl⟩ := own_some (HS.out.own 2 rfl) (by omega)
   have HST := Lh (got_take hlt hsi hsn)
   have c1 := HS.out.c 1 0
   have c2 := own_at5 (HS.out.own 2 rfl) sn (.int .i32 gr[sn]) (by simp [i32, hsn])
   have g1 : (i : Int) < (s.length : Int) := by omega
   have g2 : (0 : Int) ≤ (i : Int) := by omega
   have g3 : (i : Int) < 1000 := by omega
   have g5 : (sn : Int) < (gr.length : Int) := by omega
   have g6 : (0 : Int) ≤ (sn : Int) := by omega
   have g7 : (sn : Int) < 100000 := by omega
   clear hac hal hsi
   generalize gr[sn] = gv at *
   have HB := Lh (HS.out.box 21 #[.int .i32 gv]).f1
   clear HS
   go_wp2_with (at_builtin; refine wpList_push_own HB.out (Nat.le_refl _) rfl _ _ 42 4 rfl Tryz.underlying42 elt_i32 rfl ⟨w1.heap.size, 0, none⟩ 1 _ [.int .i32 gv] rfl rfl (HB.out.blk 1 rfl).news (by simp [Value.oneCell']) (by unfold maxLen; omega) (by omega) ?_)
   clear HB c0 c1 c2; intro Sx scx w2 HS
   replace HS := Lh HS.out.f1.drop
   rw [← HST.out] at HS
   go_wp2_with fail
   go_roundw
   case rel => exact ⟨i + 1, Sx, scx, by omega, by go_num, by go_num, HS⟩
   case measure => simp [intOf] <;> omega
  have g1 : ¬ (i : Int) < (s.length : Int) := by omega
  obtain rfl : i = s.length := by omega
  have e1 : ((gotL gr s).map i32).take s.length = (gotL gr s).map i32 := List.take_of_length_le (by rw [List.length_map, HGL.out]; exact Nat.le_refl _)
  rw [e1] at HS
  clear e1
  go_wp2_with fail
  go_ret
  exact ⟨Sa, sc, rfl, HS⟩
end Go.Proofs.YthihaeobkoiljaaGreat
