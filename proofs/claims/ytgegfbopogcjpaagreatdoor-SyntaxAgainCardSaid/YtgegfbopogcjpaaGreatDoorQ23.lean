/- What is read may be printed, 1: nodes made; what tokens and words cost. No program is in sight; What is read may be printed, 2: expressions. No program is in sight. -/
import Derived.Test.YtgegfbopogcjpaaGreatDoorQ08
namespace Go.Proofs.YtgegfbopogcjpaaGreatDoor
set_option linter.unusedVariables false
set_option linter.unusedSimpArgs false
set_option maxRecDepth 100000
theorem isNL_of {k : Int} {len : Nat} : ∀ (l : List Nd) (i : Nat), (∀ j m, l[j]? = some m → kidB (wantC k (i + j) len) m.k = true ∧ isN m (decide ((wantC k (i + j) len).2 < 0)) = true) → isNL k i len l = true
 | [], i, _ => rfl
 | n :: l, i, h => by
  rw [isNL, Bool.and_eq_true, Bool.and_eq_true]
  refine ⟨h 0 n rfl, isNL_of l (i + 1) fun j m hj => ?_⟩
  have := h (j + 1) m (by simpa using hj)
  rwa [show i + (j + 1) = i + 1 + j by omega] at this
theorem isN_of {k : Int} {t : ByteArray} {num : Int} {kids : List Nd} {s : Shp} {f : Bool} (hs : shp k = some s) (h1 : s.least ≤ kids.length) (h2 : s.most < 0 ∨ (kids.length : Int) ≤ s.most) (h3 : if s.text = true then nameOf t = true else t = ⟨#[]⟩) (h4 : numB k num s.num f = true)
 (h5 : k = 32 → (sgn num).isSome = true) (h6 : k = 15 → ∃ m ms, kids = m :: ms ∧ (baseN false m).k = 23) (h7 : k = 20 → ∃ m ms, kids = m :: ms ∧ m.k = 25 ∧ (baseN true m).k = 23)
 (h8 : ∀ j m, kids[j]? = some m → kidB (wantC k j kids.length) m.k = true ∧ isN m (decide ((wantC k j kids.length).2 < 0)) = true) : isN (.mk k t num kids) f = true := by
 rw [isN_eq]
 show (match shp k with | none => false | some s => _) = true
 rw [hs]
 simp only [Bool.and_eq_true]
 refine ⟨⟨⟨⟨⟨⟨⟨⟨?_, ?_⟩, ?_⟩, ?_⟩, h4⟩, ?_⟩, ?_⟩, ?_⟩, isNL_of _ _ fun j m hj => by rw [Nat.zero_add]; exact h8 j m hj⟩
 ·exact decide_eq_true h1
 ·rw [Bool.or_eq_true, decide_eq_true_eq, decide_eq_true_eq]; exact h2
 ·rcases hx : s.text with _ | _
  ·rw [hx, if_neg (by simp)] at h3; subst h3; rfl
  ·rw [hx, if_pos rfl] at h3
   have := (name_false h3).1
   have : decide ((Nd.mk k t num kids).t.size ≠ 0) = true := by rw [decide_eq_true_eq]; show t.size ≠ 0; omega
   rw [this]; rfl
 ·rcases hx : s.text with _ | _
  ·rfl
  ·rw [hx, if_pos rfl] at h3; exact h3
 ·by_cases hk : k = 32
  ·have := h5 hk; simp [Nd.k, Nd.num, this]
  ·simp [Nd.k, hk]
 ·by_cases hk : k = 15
  ·obtain ⟨m, ms, e, h⟩ := h6 hk
   subst e
   show (!(k == 15) || ((baseN false m).k == 23)) = true
   rw [h]
   cases (k == 15) <;> rfl
  ·simp [Nd.k, hk]
 ·by_cases hk : k = 20
  ·obtain ⟨m, ms, e, h, h'⟩ := h7 hk
   subst e
   show (!(k == 20) || (m.k == 25 && (baseN true m).k == 23)) = true
   rw [h, h']
   cases (k == 20) <;> rfl
  ·simp [Nd.k, hk]
theorem kidB_of {c k : Int} (h : cls k = c) : kidB (c, 0) k = true := by rw [kidB_c]; simpa using h
theorem kidP_of {p : Int} (hp : cls p = 5) (h0 : 0 < p) : kidB (5, p) p = true := by rw [kidB_p p hp h0]; simp
def cost (ws : List ByteArray) : Nat := (ws.map fun w => w.size + 1).sum
@[simp] theorem cost_nil : cost [] = 0 := rfl
@[simp] theorem cost_cons (w : ByteArray) (ws : List ByteArray) : cost (w :: ws) = w.size + 1 + cost ws := by simp [cost]
@[simp] theorem cost_app (a b : List ByteArray) : cost (a ++ b) = cost a + cost b := by simp [cost]
theorem cost_join : ∀ (ws : List ByteArray), (joinW ws).length ≤ cost ws
 | [] => Nat.zero_le _
 | [w] => by rw [joinW, size_list]; simp
 | w :: v :: ws => by
  have := cost_join (v :: ws)
  show (w.data.toList ++ 32 :: joinW (v :: ws)).length ≤ _
  rw [List.length_append, List.length_cons, size_list, cost_cons]
  omega
theorem cost_at (l b : Int) (ws : List ByteArray) : cost (atW l b ws) ≤ cost ws + 4 := by
 unfold atW
 split
 ·simp only [cost_cons, cost_app, cost_nil]; have : (⟨#[40]⟩ : ByteArray).size = 1 := rfl; have : (⟨#[41]⟩ : ByteArray).size = 1 := rfl; omega
 ·omega
theorem cost_mono {l l' b : Int} (h : l ≤ l') (ws : List ByteArray) : cost (atW l b ws) ≤ cost (atW l' b ws) := by
 unfold atW
 split
 ·rw [if_pos (by omega)]; exact Nat.le_refl _
 ·split
  ·simp only [cost_cons, cost_app]; omega
  ·exact Nat.le_refl _
def tcost (t : Tok) : Nat := t.s.size + (tail3 t.k).length + 1
def Pc (L : List Tok) (i : Nat) : Nat := ((L.take i).map tcost).sum
section
variable {L : List Tok}
theorem Pc.step {i : Nat} {t : Tok} (h : L[i]? = some t) : Pc L (i + 1) = Pc L i + tcost t := by
 obtain ⟨hi, e⟩ := List.getElem?_eq_some_iff.1 h
 unfold Pc
 rw [List.take_succ_eq_append_getElem hi, e]
 simp
theorem Pc.is {s : ByteArray} {i : Nat} (h : tIs L s i = true) : Pc L (i + 1) = Pc L i + (s.size + 1) := by
 unfold tIs at h
 rcases hL : L[i]? with _ | t
 ·rw [hL] at h; cases h
 ·rw [hL] at h
  simp only [Bool.and_eq_true, Bool.or_eq_true, beq_iff_eq, decide_eq_true_eq] at h
  rw [Pc.step hL]
  unfold tcost tail3
  rw [if_neg (by rcases h.1 with e | e <;> rw [e] <;> decide), h.2]
  simp
theorem Pc.nm {i : Nat} (h : tNm L i = true) : Pc L (i + 1) = Pc L i + ((tTx L i).size + 1) ∧ nameOf (tTx L i) = true := by
 unfold tNm at h
 unfold tTx
 rcases hL : L[i]? with _ | t
 ·rw [hL] at h; cases h
 ·rw [hL] at h
  simp only [Bool.and_eq_true, beq_iff_eq] at h ⊢
  rw [Pc.step hL]
  unfold tcost tail3
  rw [if_neg (by rw [h.1]; decide)]
  exact ⟨by simp, h.2⟩
theorem need_ok {s : ByteArray} {i j : Nat} {x : Unit} (h : needM L s i = .ok x j) : j = i + 1 ∧ Pc L j = Pc L i + (s.size + 1) := by
 unfold needM at h
 split at h
 ·rename_i hc; injection h with _ h; subst h; exact ⟨rfl, Pc.is hc⟩
 ·cases h
theorem name_ok {i j : Nat} {x : ByteArray} (h : nameM L i = .ok x j) : nameOf x = true ∧ Pc L j = Pc L i + (x.size + 1) := by
 unfold nameM at h
 split at h
 ·rename_i hc
  injection h with h1 h2
  subst h1 h2
  exact ⟨(Pc.nm hc).2, (Pc.nm hc).1⟩
 ·cases h
def Gd (L : List Tok) (c : Int) (r : Nat → Res Nd) : Prop := ∀ i j n, r i = .ok n j → cls n.k = c ∧ isN n false = true ∧ Pc L i + cost (shw n) ≤ Pc L j
def GdA (L : List Tok) (l : Int) (r : Nat → Res Nd) : Prop := ∀ i j n, r i = .ok n j → cls n.k = 4 ∧ isN n false = true ∧ Pc L i + cost (atW l (bindN n) (shw n)) ≤ Pc L j
theorem cost_commas : ∀ (ws : List (List ByteArray)) (w : List ByteArray), ws ≠ [] → cost (commas (ws ++ [w])) = cost (commas ws) + 2 + cost w
 | [], w, h => absurd rfl h
 | [v], w, _ => by
  show cost (v ++ ⟨#[44]⟩ :: w) = cost v + 2 + cost w
  have : (⟨#[44]⟩ : ByteArray).size = 1 := rfl
  simp only [cost_app, cost_cons]; omega
 | v :: u :: ws, w, _ => by
  have := cost_commas (u :: ws) w (by simp)
  show cost (v ++ ⟨#[44]⟩ :: commas (u :: (ws ++ [w]))) = cost (v ++ ⟨#[44]⟩ :: commas (u :: ws)) + 2 + cost w
  simp only [cost_app, cost_cons]
  have e : (u :: ws) ++ [w] = u :: (ws ++ [w]) := rfl
  rw [e] at this
  omega
theorem items_good {P : Nd → Prop} {one : Nat → Res Nd} {many : Bool} (h1 : ∀ i j n, one i = .ok n j → P n ∧ Pc L i + cost (shw n) ≤ Pc L j) : ∀ (g : Nat) (l : List Nd) (i j : Nat) (ks : List Nd) (d : Bool) (Q : Nat), itemsM L one many g l i = .ok (ks, d) j → (∀ x ∈ l, P x) →
 Q + cost (commas (l.map shw)) + (if l = [] then 0 else 2) ≤ Pc L i → (∀ x ∈ ks, P x) ∧ (d = true → many = true) ∧ Q + cost (commas (ks.map shw ++ if d = true then [[⟨#[46, 46, 46]⟩]] else [])) + 2 ≤ Pc L j
 | 0, _, _, _, _, _, _, h, _, _ => by cases h
 | g + 1, l, i, j, ks, d, Q, h, hl, hq => by
  have s1 : (⟨#[41]⟩ : ByteArray).size = 1 := rfl
  have s2 : (⟨#[44]⟩ : ByteArray).size = 1 := rfl
  have s3 : (⟨#[46, 46, 46]⟩ : ByteArray).size = 3 := rfl
  rw [itemsM] at h
  split at h
  ·rename_i hc
   injection h with e1 e2
   injection e1 with e1 e3
   subst e1 e2 e3
   have := Pc.is hc.2
   rw [hc.1] at hq
   simp only [List.map_nil, commas, cost_nil, if_true, Bool.false_eq_true, if_false, List.nil_append] at hq ⊢
   exact ⟨by simp, by simp, by omega⟩
  ·split at h
   ·rename_i hc
    obtain ⟨u, k, e, e2⟩ := bind_okE h
    obtain ⟨-, p⟩ := need_ok e
    injection e2 with e1 e3
    injection e1 with e1 e4
    subst e1 e3 e4
    have p2 := Pc.is hc.2
    refine ⟨hl, fun _ => hc.1, ?_⟩
    rw [if_pos rfl]
    by_cases hn : l = []
    ·subst hn
     simp only [List.map_nil, List.nil_append, commas, cost_cons, cost_nil, if_true] at hq ⊢
     omega
    ·rw [if_neg hn] at hq
     rw [cost_commas _ _ (by simpa using hn)]
     simp only [cost_cons, cost_nil]
     omega
   ·obtain ⟨x, k, e, e2⟩ := bind_okE h
    obtain ⟨c1, c3⟩ := h1 _ _ _ e
    have hx : ∀ y ∈ l ++ [x], P y := fun y hy => by
     rcases List.mem_append.1 hy with hy | hy
     ·exact hl y hy
     ·simp at hy; subst hy; exact c1
    have hcm : Q + cost (commas ((l ++ [x]).map shw)) ≤ Pc L k := by
     rw [List.map_append, List.map_cons, List.map_nil]
     by_cases hn : l = []
     ·subst hn
      simp only [List.map_nil, List.nil_append, commas, cost_nil, if_true] at hq ⊢
      omega
     ·rw [if_neg hn] at hq
      rw [cost_commas _ _ (by simpa using hn)]
      omega
    split at e2
    ·rename_i hc
     have p := Pc.is hc
     exact items_good h1 g (l ++ [x]) (k + 1) j ks d Q e2 hx (by rw [if_neg (by simp)]; omega)
    ·obtain ⟨u, m, e3, e4⟩ := bind_okE e2
     obtain ⟨-, p⟩ := need_ok e3
     injection e4 with e1 e5
     injection e1 with e1 e6
     subst e1 e5 e6
     exact ⟨hx, by simp, by simp only [Bool.false_eq_true, if_false, List.append_nil]; omega⟩
theorem list_goodP {P : Nd → Prop} {one : Nat → Res Nd} {many : Bool} (h1 : ∀ i j n, one i = .ok n j → P n ∧ Pc L i + cost (shw n) ≤ Pc L j) {i j : Nat} {ks : List Nd} {d : Bool} (h : listM L one many i = .ok (ks, d) j) : (∀ x ∈ ks, P x) ∧ (d = true → many = true) ∧ Pc L i + cost (rowW (ks.map shw) d) ≤ Pc L j := by
 obtain ⟨u, k, e, e2⟩ := bind_okE h
 obtain ⟨-, p⟩ := need_ok e
 have s1 : (⟨#[40]⟩ : ByteArray).size = 1 := rfl
 have s2 : (⟨#[41]⟩ : ByteArray).size = 1 := rfl
 obtain ⟨a, b, q⟩ := items_good h1 _ [] k j ks d (Pc L k) e2 (by simp) (by simp [commas])
 refine ⟨a, b, ?_⟩
 unfold rowW
 simp only [cost_cons, cost_app, cost_nil]
 omega
theorem list_good {c : Int} {one : Nat → Res Nd} {many : Bool} (h1 : Gd L c one) {i j : Nat} {ks : List Nd} {d : Bool} (h : listM L one many i = .ok (ks, d) j) : (∀ x ∈ ks, cls x.k = c ∧ isN x false = true) ∧ (d = true → many = true) ∧ Pc L i + cost (rowW (ks.map shw) d) ≤ Pc L j :=
 list_goodP (P := fun x => cls x.k = c ∧ isN x false = true) (fun i j n e => ⟨⟨(h1 i j n e).1, (h1 i j n e).2.1⟩, (h1 i j n e).2.2⟩) h
theorem getElem?_mem {α : Type} {l : List α} {j : Nat} {x : α} (h : l[j]? = some x) : x ∈ l := List.mem_of_getElem? h
theorem typ_good : ∀ F, Gd L 2 (typM L F)
 | 0, i, j, n, h => by cases h
 | F + 1, i, j, n, h => by
  rw [typM] at h
  split at h
  ·rename_i hc
   injection h with e1 e2
   subst e1 e2
   have := Pc.is hc
   exact ⟨rfl, isN_of (s := ⟨false, 0, 0, 0⟩) rfl (Nat.le_refl _) (.inr (by simp)) rfl rfl (fun e => by cases e) (fun e => by cases e) (fun e => by cases e) (fun j m e => by simp at e), Nat.le_of_eq this.symm⟩
  ·split at h
   ·rename_i hc
    injection h with e1 e2
    subst e1 e2
    have := Pc.is hc
    exact ⟨rfl, isN_of (s := ⟨false, 0, 0, 0⟩) rfl (Nat.le_refl _) (.inr (by simp)) rfl rfl (fun e => by cases e) (fun e => by cases e) (fun e => by cases e) (fun j m e => by simp at e), Nat.le_of_eq this.symm⟩
   ·split at h
    ·rename_i hc
     obtain ⟨⟨ks, d⟩, k, e, h⟩ := bind_okE h
     obtain ⟨r, m, e2, h⟩ := bind_okE h
     injection h with e3 e4
     subst e3 e4
     obtain ⟨a1, a2, a3⟩ := list_good (typ_good F) e
     obtain ⟨b1, b2, b3⟩ := typ_good F _ _ _ e2
     have p := Pc.is hc
     have hw : shw (.mk 12 ⟨#[]⟩ (flagN d) (ks ++ [r])) = ⟨#[102, 110]⟩ :: (rowW (ks.map shw) d ++ shw r) := by
      rw [shw_eq]
      show ⟨#[102, 110]⟩ :: (rowW ((ks ++ [r]).map shw).dropLast (flagN d == 1) ++ nthW ((ks ++ [r]).map shw) (((ks ++ [r]).map shw).length - 1)) = _
      have e5 : (flagN d == 1) = d := by cases d <;> rfl
      rw [e5]
      simp [nthW]
     refine ⟨rfl, isN_of (s := ⟨false, 1, 1, -1⟩) rfl (by simp) (.inl (by decide)) rfl (by cases d <;> rfl) (fun e => by cases e) (fun e => by cases e) (fun e => by cases e) (fun j m e => ?_), ?_⟩
     ·have hm := getElem?_mem e
      have hx : cls m.k = 2 ∧ isN m false = true := by
       rcases List.mem_append.1 hm with hm | hm
       ·exact a1 m hm
       ·simp at hm; subst hm; exact ⟨b1, b2⟩
      exact ⟨kidB_of hx.1, hx.2⟩
     ·rw [hw]
      simp only [cost_cons, cost_app]
      have s1 : (⟨#[102, 110]⟩ : ByteArray).size = 2 := rfl
      omega
    ·obtain ⟨t, k, e, h⟩ := bind_okE h
     injection h with e1 e2
     subst e1 e2
     obtain ⟨a, b⟩ := name_ok e
     exact ⟨rfl, isN_of (s := ⟨true, 0, 0, 0⟩) rfl (Nat.le_refl _) (.inr (by simp)) a rfl (fun e => by cases e) (fun e => by cases e) (fun e => by cases e) (fun j m e => by simp at e), Nat.le_of_eq b.symm⟩
theorem one_good {k : Int} {t : ByteArray} {a : Nd} (hk : k = 3 ∨ k = 5 ∨ k = 8) (ht : nameOf t = true) (h1 : cls a.k = 2) (h2 : isN a false = true) : isN (.mk k t 0 [a]) false = true := by
 have hs : shp k = some ⟨true, 0, 1, 1⟩ := by rcases hk with rfl | rfl | rfl <;> rfl
 have hw : wantC k 0 1 = (2, 0) := by rcases hk with rfl | rfl | rfl <;> rfl
 refine isN_of (s := ⟨true, 0, 1, 1⟩) hs (Nat.le_refl _) (.inr (by simp)) ht (by rcases hk with rfl | rfl | rfl <;> rfl) (fun e => by omega) (fun e => by omega) (fun e => by omega) fun j m e => ?_
 rcases j with _ | j
 ·simp at e
  subst e
  rw [show [a].length = 1 from rfl, hw]
  exact ⟨kidB_of h1, h2⟩
 ·simp at e
theorem param_good (F : Nat) : ∀ i j n, paramM L F i = .ok n j → n.k = 8 ∧ isN n false = true ∧ Pc L i + cost (shw n) ≤ Pc L j := fun i j n h => by
 obtain ⟨a, k, e, h⟩ := bind_okE h
 obtain ⟨t, m, e2, h⟩ := bind_okE h
 injection h with e3 e4
 subst e3 e4
 obtain ⟨a1, a2, a3⟩ := typ_good F _ _ _ e
 obtain ⟨b1, b2⟩ := name_ok e2
 refine ⟨rfl, one_good (.inr (.inr rfl)) b1 a1 a2, ?_⟩
 show Pc L i + cost (shw (.mk 8 t 0 [a])) ≤ _
 rw [show shw (.mk 8 t 0 [a]) = shw a ++ [t] from shw_eq _]
 simp only [cost_app, cost_cons, cost_nil]
 omega
end
end Go.Proofs.YtgegfbopogcjpaaGreatDoor
namespace Go.Proofs.YtgegfbopogcjpaaGreatDoor
set_option linter.unusedVariables false
set_option linter.unusedSimpArgs false
set_option maxRecDepth 100000
theorem digs_len {s : ByteArray} (h1 : 1 ≤ s.size) (h2 : allDigits s = true) : (Lib.decDigits (decL s.data.toList)).length ≤ s.size := by
 have h := decF_lt s.data.toList h2
 rw [Lib.decDigits_length]
 have hs := size_list s
 rw [← decL_eq, hs] at h
 obtain ⟨m, hm⟩ : ∃ m, s.size = m + 1 := ⟨s.size - 1, by omega⟩
 rw [hm] at h ⊢
 exact nDig_le m _ h
theorem bind_ge {n : Nd} (h1 : cls n.k = 4) (h2 : isN n false = true) : 0 ≤ bindN n := by
 unfold bindN bindK
 split
 ·omega
 ·split
  ·rename_i hk
   have v := isN_view h2 (show shp n.k = some ⟨false, 12, 2, 2⟩ by rw [hk]; rfl)
   exact (sgn_facts (v.op hk)).1
  ·omega
theorem at_bind {l : Int} {n : Nd} (h : l ≤ bindN n) : atW l (bindN n) (shw n) = shw n := if_neg (by omega)
theorem at4 {n : Nd} (h : bindN n = 4) : atW 4 (bindN n) (shw n) = shw n := at_bind (by omega)
theorem at3 {n : Nd} (h : bindN n = 3) : atW 3 (bindN n) (shw n) = shw n := at_bind (by omega)
theorem uno_good {k : Int} {t : ByteArray} {a : Nd} {text : Bool} (hs : shp k = some ⟨text, 0, 1, 1⟩) (hk : 21 ≤ k) (hw : wantC k 0 1 = (4, 0)) (hkk : k = 24 ∨ k = 28 ∨ k = 29 ∨ k = 30 ∨ k = 31 ∨ k = 34) (ht : if text = true then nameOf t = true else t = ⟨#[]⟩) (h1 : cls a.k = 4) (h2 : isN a false = true) : isN (.mk k t 0 [a]) false = true := by
 refine isN_of hs (Nat.le_refl _) (.inr (by simp)) ht (by rcases hkk with rfl | rfl | rfl | rfl | rfl | rfl <;> rfl) (fun e => by omega) (fun e => by omega) (fun e => by omega) fun j m e => ?_
 rcases j with _ | j
 ·simp at e
  subst e
  rw [show [a].length = 1 from rfl, hw]
  exact ⟨kidB_of h1, h2⟩
 ·simp at e
theorem op_good {op : Int} {a b : Nd} (ho : (sgn op).isSome = true) (h1 : cls a.k = 4) (h2 : isN a false = true) (h3 : cls b.k = 4) (h4 : isN b false = true) : isN (.mk 32 ⟨#[]⟩ op [a, b]) false = true := by
 refine isN_of (s := ⟨false, 12, 2, 2⟩) rfl (Nat.le_refl _) (.inr (by simp)) rfl (by rcases sgn_all ho with rfl | rfl | rfl | rfl | rfl | rfl | rfl | rfl | rfl | rfl <;> rfl) (fun _ => ho) (fun e => by cases e) (fun e => by cases e) fun j m e => ?_
 rcases j with _ | _ | j
 ·simp at e; subst e; exact ⟨kidB_of h1, h2⟩
 ·simp at e; subst e; exact ⟨kidB_of h3, h4⟩
 ·simp at e
theorem opsig {s : ByteArray} {l : Int} (h : (l = 2 ∧ s ∈ S2) ∨ (l = 1 ∧ s ∈ S1) ∨ (l = 0 ∧ s ∈ S0)) : (sgn (opOf s)).isSome = true ∧ sgnB (opOf s) = l ∧ sgnT (opOf s) = s := by
 rcases h with ⟨rfl, h⟩ | ⟨rfl, h⟩ | ⟨rfl, h⟩
 ·simp only [S2, List.mem_cons, List.not_mem_nil, or_false] at h
  rcases h with rfl | rfl | rfl | rfl <;> decide
 ·simp only [S1, List.mem_cons, List.not_mem_nil, or_false] at h
  rcases h with rfl | rfl | rfl | rfl <;> decide
 ·simp only [S0, List.mem_cons, List.not_mem_nil, or_false] at h
  rcases h with rfl | rfl <;> decide
section
variable {L : List Tok}
theorem tIn_ok {sg : List ByteArray} {i : Nat} (h : tIn L sg i = true) : ∃ s, s ∈ sg ∧ tIs L s i = true ∧ tTx L i = s := by
 unfold tIn at h
 obtain ⟨s, hs, h⟩ := List.any_eq_true.1 h
 refine ⟨s, hs, h, ?_⟩
 unfold tIs at h
 unfold tTx
 rcases hL : L[i]? with _ | t
 ·rw [hL] at h; cases h
 ·rw [hL] at h
  simp only [Bool.and_eq_true, decide_eq_true_eq] at h
  exact h.2
theorem chain_good {l : Int} {part : Nat → Res Nd} {sg : List ByteArray} (hl : (l = 2 ∧ sg = S2) ∨ (l = 1 ∧ sg = S1)) (hp : GdA L (l + 1) part) : ∀ (g : Nat) (x : Nd) (i j : Nat) (n : Nd) (Q : Nat), chainM L part sg g x i = .ok n j → cls x.k = 4 → isN x false = true → Q + cost (atW l (bindN x) (shw x)) ≤ Pc L i → cls n.k = 4 ∧ isN n false = true ∧ Q + cost (atW l (bindN n) (shw n)) ≤ Pc L j
 | 0, _, _, _, _, _, h, _, _, _ => by cases h
 | g + 1, x, i, j, n, Q, h, h1, h2, h3 => by
  rw [chainM] at h
  split at h
  ·rename_i hc
   obtain ⟨s, hs, ht, hx⟩ := tIn_ok hc
   obtain ⟨y, k, e, h⟩ := bind_okE h
   obtain ⟨y1, y2, y3⟩ := hp _ _ _ e
   have hsig := opsig (s := s) (l := l) (by rcases hl with ⟨rfl, rfl⟩ | ⟨rfl, rfl⟩; exact .inl ⟨rfl, hs⟩; exact .inr (.inl ⟨rfl, hs⟩))
   rw [hx] at h
   obtain ⟨o1, o2, o3⟩ := hsig
   have p := Pc.is ht
   have hb : bindN (.mk 32 ⟨#[]⟩ (opOf s) [x, y]) = l := o2
   have hw : shw (.mk 32 ⟨#[]⟩ (opOf s) [x, y]) = atW l (bindN x) (shw x) ++ [s] ++ atW (l + 1) (bindN y) (shw y) := by
    rw [shw_eq]
    show atW (max (sgnB (opOf s)) 1) (bindN x) (shw x) ++ [sgnT (opOf s)] ++ atW (sgnB (opOf s) + 1) (bindN y) (shw y) = _
    rw [o2, o3, show max l 1 = l by omega]
   refine chain_good hl hp g _ k j n Q h rfl (op_good o1 h1 h2 y1 y2) ?_
   rw [at_bind (by omega), hw]
   simp only [cost_app, cost_cons, cost_nil]
   omega
  ·injection h with e1 e2
   subst e1 e2
   exact ⟨h1, h2, h3⟩
theorem product_good {u : Nat → Res Nd} (hu : GdA L 3 u) : GdA L 2 (productM L u) := fun i j n h => by
 obtain ⟨x, k, e, h⟩ := bind_okE h
 obtain ⟨a, b, c⟩ := hu _ _ _ e
 exact chain_good (.inl ⟨rfl, rfl⟩) hu _ x k j n (Pc L i) h a b (Nat.le_trans (Nat.add_le_add_left (cost_mono (by omega) _) _) c)
theorem sum_good {u : Nat → Res Nd} (hu : GdA L 3 u) : GdA L 1 (sumM L u) := fun i j n h => by
 obtain ⟨x, k, e, h⟩ := bind_okE h
 obtain ⟨a, b, c⟩ := product_good hu _ _ _ e
 exact chain_good (.inr ⟨rfl, rfl⟩) (product_good hu) _ x k j n (Pc L i) h a b (Nat.le_trans (Nat.add_le_add_left (cost_mono (by omega) _) _) c)
theorem expr_good {u : Nat → Res Nd} (hu : GdA L 3 u) : Gd L 4 (exprM L u) := fun i j n h => by
 obtain ⟨x, k, e, h⟩ := bind_okE h
 obtain ⟨a, b, c⟩ := sum_good hu _ _ _ e
 split at h
 ·rename_i hc
  obtain ⟨s, hs, ht, hx⟩ := tIn_ok hc
  obtain ⟨y, m, e2, h⟩ := bind_okE h
  obtain ⟨y1, y2, y3⟩ := sum_good hu _ _ _ e2
  obtain ⟨o1, o2, o3⟩ := opsig (s := s) (l := 0) (.inr (.inr ⟨rfl, hs⟩))
  rw [hx] at h
  injection h with e3 e4
  subst e3 e4
  have p := Pc.is ht
  refine ⟨rfl, op_good o1 a b y1 y2, ?_⟩
  have hw : shw (.mk 32 ⟨#[]⟩ (opOf s) [x, y]) = atW 1 (bindN x) (shw x) ++ [s] ++ atW 1 (bindN y) (shw y) := by
   rw [shw_eq]
   show atW (max (sgnB (opOf s)) 1) (bindN x) (shw x) ++ [sgnT (opOf s)] ++ atW (sgnB (opOf s) + 1) (bindN y) (shw y) = _
   rw [o2, o3]
   rfl
  rw [hw]
  simp only [cost_app, cost_cons, cost_nil]
  omega
 ·injection h with e3 e4
  subst e3 e4
  refine ⟨a, b, ?_⟩
  have : cost (shw x) ≤ cost (atW 1 (bindN x) (shw x)) := by
   have := cost_mono (l := 0) (l' := 1) (b := bindN x) (by omega) (shw x)
   rwa [at_bind (bind_ge a b)] at this
  omega
theorem round_good {u : Nat → Res Nd} (hu : GdA L 3 u) {i j : Nat} {n : Nd} (h : roundM L u i = .ok n j) : cls n.k = 4 ∧ isN n false = true ∧ Pc L i + cost (shw n) + 4 ≤ Pc L j := by
 obtain ⟨v, k, e, h⟩ := bind_okE h
 obtain ⟨x, m, e2, h⟩ := bind_okE h
 obtain ⟨w, o, e3, h⟩ := bind_okE h
 injection h with e4 e5
 subst e4 e5
 obtain ⟨a, b, c⟩ := expr_good hu _ _ _ e2
 have p1 := (need_ok e).2
 have p2 := (need_ok e3).2
 have s1 : (⟨#[40]⟩ : ByteArray).size = 1 := rfl
 have s2 : (⟨#[41]⟩ : ByteArray).size = 1 := rfl
 exact ⟨a, b, by omega⟩
theorem made_good {u : Nat → Res Nd} (hu : GdA L 3 u) : ∀ (g : Nat) (l : List Nd) (i j : Nat) (ks : List Nd) (Q : Nat), madeM L u g l i = .ok ks j → (∀ x ∈ l, cls x.k = 4 ∧ isN x false = true) →
 Q + cost (commas (l.map shw)) + (if l = [] then 0 else 2) ≤ Pc L i → (∀ x ∈ ks, cls x.k = 4 ∧ isN x false = true) ∧ Q + cost (commas (ks.map shw)) + 2 ≤ Pc L j
 | 0, _, _, _, _, _, h, _, _ => by cases h
 | g + 1, l, i, j, ks, Q, h, hl, hq => by
  have s1 : (⟨#[125]⟩ : ByteArray).size = 1 := rfl
  have s2 : (⟨#[44]⟩ : ByteArray).size = 1 := rfl
  rw [madeM] at h
  split at h
  ·rename_i hc
   injection h with e1 e2
   subst e1 e2
   have := Pc.is hc.2
   rw [hc.1] at hq
   simp only [List.map_nil, commas, cost_nil, if_true] at hq ⊢
   exact ⟨by simp, by omega⟩
  ·obtain ⟨x, k, e, e2⟩ := bind_okE h
   obtain ⟨c1, c2, c3⟩ := expr_good hu _ _ _ e
   have hx : ∀ y ∈ l ++ [x], cls y.k = 4 ∧ isN y false = true := fun y hy => by
    rcases List.mem_append.1 hy with hy | hy
    ·exact hl y hy
    ·simp at hy; subst hy; exact ⟨c1, c2⟩
   have hcm : Q + cost (commas ((l ++ [x]).map shw)) ≤ Pc L k := by
    rw [List.map_append, List.map_cons, List.map_nil]
    by_cases hn : l = []
    ·subst hn
     simp only [List.map_nil, List.nil_append, commas, cost_nil, if_true] at hq ⊢
     omega
    ·rw [if_neg hn] at hq
     rw [cost_commas _ _ (by simpa using hn)]
     omega
   split at e2
   ·rename_i hc
    have p := Pc.is hc
    exact made_good hu g (l ++ [x]) (k + 1) j ks Q e2 hx (by rw [if_neg (by simp)]; omega)
   ·obtain ⟨v, m, e3, e4⟩ := bind_okE e2
    have p := (need_ok e3).2
    injection e4 with e1 e5
    subst e1 e5
    exact ⟨hx, by omega⟩
theorem num_good (hL : ∀ t ∈ L, TokOk t.k t.s) {i j : Nat} {n : Nd} (h : numM L i = .ok n j) : (n.k = 21 ∨ n.k = 22) ∧ n.t = ⟨#[]⟩ ∧ n.kids = [] ∧ 0 ≤ n.num ∧ n.num ≤ 9223372036854775807 ∧ (n.k = 21 → n.num ≤ 2147483647) ∧ Pc L i + cost (numT n.k n.num) ≤ Pc L j := by
 unfold numM at h
 rcases hx : L[i]? with _ | t
 ·rw [hx] at h; cases h
 ·rw [hx] at h
  have ho := hL t (List.mem_of_getElem? hx)
  have key : (t.k = 2 ∨ t.k = 3) → 1 ≤ t.s.size ∧ allDigits t.s = true ∧ ¬ numMost (t.k == 3) < decL t.s.data.toList := fun hk => by
   rcases ho with ho | ho | ho
   ·omega
   ·exact ⟨ho.2.1, ho.2.2.1, ho.2.2.2.2⟩
   ·omega
  have hstep := Pc.step hx
  simp only at h
  split at h
  ·rename_i hk
   injection h with e1 e2
   subst e1 e2
   obtain ⟨k1, k2, k3⟩ := key (.inl hk)
   have hm : decL t.s.data.toList ≤ 2147483647 := by rw [hk] at k3; unfold numMost at k3; simpa using k3
   refine ⟨.inl rfl, rfl, rfl, ?_, ?_, fun _ => ?_, ?_⟩
   ·show 0 ≤ valT t.s; unfold valT; omega
   ·show valT t.s ≤ _; unfold valT; omega
   ·show valT t.s ≤ _; unfold valT; omega
   ·show Pc L i + cost (numT 21 (valT t.s)) ≤ _
    have : numT 21 (valT t.s) = [⟨(Lib.decDigits (decL t.s.data.toList) ++ []).toArray⟩] := by
     unfold numT valT digsN
     rw [if_neg (by omega)]
     rfl
    rw [this, List.append_nil, hstep, cost_cons, cost_nil]
    unfold tcost
    have h2 := digs_len k1 k2
    have h3 : (⟨(Lib.decDigits (decL t.s.data.toList)).toArray⟩ : ByteArray).size = (Lib.decDigits (decL t.s.data.toList)).length := by simp [ByteArray.size]
    omega
  ·split at h
   ·rename_i hk
    injection h with e1 e2
    subst e1 e2
    obtain ⟨k1, k2, k3⟩ := key (.inr hk)
    have hm : decL t.s.data.toList ≤ 9223372036854775807 := by rw [hk] at k3; unfold numMost at k3; simpa using k3
    refine ⟨.inr rfl, rfl, rfl, ?_, ?_, (fun e => by cases e), ?_⟩
    ·show 0 ≤ valT t.s; unfold valT; omega
    ·show valT t.s ≤ _; unfold valT; omega
    ·show Pc L i + cost (numT 22 (valT t.s)) ≤ _
     have : numT 22 (valT t.s) = [⟨(Lib.decDigits (decL t.s.data.toList) ++ [76]).toArray⟩] := by
      unfold numT valT digsN
      rw [if_neg (by omega)]
      rfl
     rw [this, hstep, cost_cons, cost_nil]
     unfold tcost tail3
     rw [if_pos hk]
     have h2 := digs_len k1 k2
     have h3 : (⟨(Lib.decDigits (decL t.s.data.toList) ++ [76]).toArray⟩ : ByteArray).size = (Lib.decDigits (decL t.s.data.toList)).length + 1 := by simp [ByteArray.size]
     simp only [List.length_singleton]
     omega
   ·cases h
theorem leaf_good {k : Int} {t : ByteArray} {text : Bool} (hs : shp k = some ⟨text, 0, 0, 0⟩) (hk : k = 23 ∨ k = 26 ∨ k = 33) (ht : if text = true then nameOf t = true else t = ⟨#[]⟩) : isN (.mk k t 0 []) false = true :=
 isN_of hs (Nat.le_refl _) (.inr (by simp)) ht (by rcases hk with rfl | rfl | rfl <;> rfl) (fun e => by omega) (fun e => by omega) (fun e => by omega) (fun j m e => by simp at e)
theorem first_good (hL : ∀ t ∈ L, TokOk t.k t.s) {u : Nat → Res Nd} (hu : GdA L 3 u) : GdA L 4 (firstM L u) := fun i j n h => by
 unfold firstM at h
 have conv : ∀ (s : ByteArray) (k : Int), tIs L s i = true → (k = 30 ∧ s = ⟨#[105, 110, 116]⟩ ∨ k = 31 ∧ s = ⟨#[108, 111, 110, 103]⟩ ∨ k = 34 ∧ s = ⟨#[101, 120, 116, 114, 97]⟩) → (roundM L u (i + 1)).bind (fun x j => .ok (oneM k x) j) = .ok n j → cls n.k = 4 ∧ isN n false = true ∧ Pc L i + cost (atW 4 (bindN n) (shw n)) ≤ Pc L j := fun s k hc hk h => by
  obtain ⟨x, m, e, h⟩ := bind_okE h
  injection h with e1 e2
  subst e1 e2
  obtain ⟨a, b, c⟩ := round_good hu e
  have p := Pc.is hc
  have s1 : (⟨#[40]⟩ : ByteArray).size = 1 := rfl
  have s2 : (⟨#[41]⟩ : ByteArray).size = 1 := rfl
  unfold oneM
  rcases hk with ⟨rfl, rfl⟩ | ⟨rfl, rfl⟩ | ⟨rfl, rfl⟩
  ·refine ⟨rfl, uno_good rfl (by decide) rfl (by simp) rfl a b, ?_⟩
   rw [at4 (n := .mk 30 ⟨#[]⟩ 0 [x]) rfl, show shw (.mk 30 ⟨#[]⟩ 0 [x]) = [⟨#[105, 110, 116]⟩, ⟨#[40]⟩] ++ shw x ++ [⟨#[41]⟩] from shw_eq _]
   simp only [cost_app, cost_cons, cost_nil]
   omega
  ·refine ⟨rfl, uno_good rfl (by decide) rfl (by simp) rfl a b, ?_⟩
   rw [at4 (n := .mk 31 ⟨#[]⟩ 0 [x]) rfl, show shw (.mk 31 ⟨#[]⟩ 0 [x]) = [⟨#[108, 111, 110, 103]⟩, ⟨#[40]⟩] ++ shw x ++ [⟨#[41]⟩] from shw_eq _]
   simp only [cost_app, cost_cons, cost_nil]
   omega
  ·refine ⟨rfl, uno_good rfl (by decide) rfl (by simp) rfl a b, ?_⟩
   rw [at4 (n := .mk 34 ⟨#[]⟩ 0 [x]) rfl, show shw (.mk 34 ⟨#[]⟩ 0 [x]) = [⟨#[101, 120, 116, 114, 97]⟩, ⟨#[40]⟩] ++ shw x ++ [⟨#[41]⟩] from shw_eq _]
   simp only [cost_app, cost_cons, cost_nil]
   omega
 split at h
 ·obtain ⟨a, b, c⟩ := round_good hu h
  exact ⟨a, b, by have := cost_at 4 (bindN n) (shw n); omega⟩
 split at h
 ·rename_i hc
  obtain ⟨t, m, e, h⟩ := bind_okE h
  injection h with e1 e2
  subst e1 e2
  obtain ⟨a, b⟩ := name_ok e
  have p := Pc.is hc
  refine ⟨rfl, leaf_good rfl (by simp) a, ?_⟩
  rw [at4 (n := .mk 26 t 0 []) rfl, show shw (.mk 26 t 0 []) = [⟨#[38]⟩, t] from shw_eq _]
  simp only [cost_cons, cost_nil]
  omega
 split at h
 ·rename_i hc; exact conv _ 30 hc (by simp) h
 split at h
 ·rename_i hc; exact conv _ 31 hc (by simp) h
 split at h
 ·rename_i hc
  injection h with e1 e2
  subst e1 e2
  have p := Pc.is hc
  unfold leafM
  refine ⟨rfl, leaf_good rfl (by simp) rfl, ?_⟩
  rw [at4 (n := .mk 33 ⟨#[]⟩ 0 []) rfl, show shw (.mk 33 ⟨#[]⟩ 0 []) = [⟨#[99, 111, 117, 110, 116]⟩] from shw_eq _]
  simp only [cost_cons, cost_nil]
  omega
 split at h
 ·rename_i hc; exact conv _ 34 hc (by simp) h
 split at h
 ·rename_i hc
  obtain ⟨p, ht⟩ := Pc.nm hc
  split at h
  ·rename_i hc2
   obtain ⟨ks, m, e, h⟩ := bind_okE h
   injection h with e1 e2
   subst e1 e2
   have p2 : Pc L (i + 2) = _ := Pc.is hc2
   obtain ⟨a, b⟩ := made_good hu _ [] (i + 2) m ks (Pc L (i + 2)) e (by simp) (by simp [commas])
   have s1 : (⟨#[123]⟩ : ByteArray).size = 1 := rfl
   have s2 : (⟨#[125]⟩ : ByteArray).size = 1 := rfl
   refine ⟨rfl, isN_of (s := ⟨true, 0, 0, -1⟩) rfl (Nat.zero_le _) (.inl (by decide)) ht rfl (fun e => by cases e) (fun e => by cases e) (fun e => by cases e) (fun j x e => ⟨kidB_of (a x (getElem?_mem e)).1, (a x (getElem?_mem e)).2⟩), ?_⟩
   rw [at4 (n := .mk 27 (tTx L i) 0 ks) rfl, show shw (.mk 27 (tTx L i) 0 ks) = [tTx L i, ⟨#[123]⟩] ++ commas (ks.map shw) ++ [⟨#[125]⟩] from shw_eq _]
   simp only [cost_app, cost_cons, cost_nil]
   omega
  ·injection h with e1 e2
   subst e1 e2
   refine ⟨rfl, leaf_good rfl (by simp) ht, ?_⟩
   rw [at4 (n := .mk 23 (tTx L i) 0 []) rfl, show shw (.mk 23 (tTx L i) 0 []) = [tTx L i] from shw_eq _]
   simp only [cost_cons, cost_nil]
   omega
 ·obtain ⟨hk, ht, hkd, h0, h1, h2, h3⟩ := num_good hL h
  obtain ⟨k, t, num, kids⟩ := n
  have ht : t = ⟨#[]⟩ := ht
  have hkd : kids = [] := hkd
  subst ht hkd
  simp only [Nd.k, Nd.num] at hk h0 h1 h2 h3
  have hw : shw (.mk k ⟨#[]⟩ num []) = numT k num := by rw [shw_eq]; rcases hk with rfl | rfl <;> rfl
  refine ⟨by rcases hk with rfl | rfl <;> rfl, isN_of (s := ⟨false, -1, 0, 0⟩) (by rcases hk with rfl | rfl <;> rfl) (Nat.le_refl _) (.inr (by simp)) rfl ?_ (fun e => by omega) (fun e => by omega) (fun e => by omega) (fun j x e => by simp at e), ?_⟩
  ·unfold numB
   simp only [Bool.false_eq_true, false_and, if_false, Bool.and_eq_true, Bool.or_eq_true, decide_eq_true_eq, Bool.not_eq_true', beq_eq_false_iff_ne]
   refine ⟨⟨⟨h0, h1⟩, .inl (by decide)⟩, ?_⟩
   by_cases hk1 : k = 21
   ·exact .inr (h2 hk1)
   ·exact .inl hk1
  ·have hb : bindN (.mk k ⟨#[]⟩ num []) = 4 := by rcases hk with rfl | rfl <;> rfl
   rw [at_bind (by omega), hw]
   exact h3
theorem call_good {u : Nat → Res Nd} (hu : GdA L 3 u) {x n : Nd} {i j Q : Nat} (h : callM L u x i = .ok n j) (h1 : cls x.k = 4) (h2 : isN x false = true) (h3 : Q + cost (atW 4 (bindN x) (shw x)) ≤ Pc L i) : n.k = 25 ∧ isN n false = true ∧ Q + cost (atW 4 (bindN n) (shw n)) ≤ Pc L j ∧ ∃ ks, n.kids = x :: ks := by
 obtain ⟨⟨ks, d⟩, m, e, h⟩ := bind_okE h
 injection h with e1 e2
 subst e1 e2
 obtain ⟨a, b, c⟩ := list_good (expr_good hu) e
 have hd : d = false := by cases d; rfl; exact absurd (b rfl) (by simp)
 subst hd
 refine ⟨rfl, isN_of (s := ⟨false, 0, 1, -1⟩) rfl (by simp) (.inl (by decide)) rfl rfl (fun e => by cases e) (fun e => by cases e) (fun e => by cases e) (fun j y e => ?_), ?_, ks, rfl⟩
 ·have hm := getElem?_mem e
  have hx : cls y.k = 4 ∧ isN y false = true := by
   rcases List.mem_cons.1 hm with rfl | hm
   ·exact ⟨h1, h2⟩
   ·exact a y hm
  exact ⟨kidB_of hx.1, hx.2⟩
 ·show Q + cost (atW 4 (bindN (.mk 25 ⟨#[]⟩ 0 (x :: ks))) (shw (.mk 25 ⟨#[]⟩ 0 (x :: ks)))) ≤ _
  rw [at4 (n := .mk 25 ⟨#[]⟩ 0 (x :: ks)) rfl, show shw (.mk 25 ⟨#[]⟩ 0 (x :: ks)) = atW 4 (bindN x) (shw x) ++ rowW (ks.map shw) false from shw_eq _, cost_app]
  omega
theorem dot_good {x : Nd} {t : ByteArray} {i j Q : Nat} (hc : tIs L ⟨#[46]⟩ i = true) (e : nameM L (i + 1) = .ok t j) (h1 : cls x.k = 4) (h2 : isN x false = true) (h3 : Q + cost (atW 4 (bindN x) (shw x)) ≤ Pc L i) : isN (.mk 24 t 0 [x]) false = true ∧ Q + cost (atW 4 (bindN (.mk 24 t 0 [x])) (shw (.mk 24 t 0 [x]))) ≤ Pc L j := by
 obtain ⟨a, b⟩ := name_ok e
 have p := Pc.is hc
 have s1 : (⟨#[46]⟩ : ByteArray).size = 1 := rfl
 refine ⟨uno_good rfl (by decide) rfl (by simp) a h1 h2, ?_⟩
 rw [at4 (n := .mk 24 t 0 [x]) rfl, show shw (.mk 24 t 0 [x]) = atW 4 (bindN x) (shw x) ++ [⟨#[46]⟩, t] from shw_eq _]
 simp only [cost_app, cost_cons, cost_nil]
 omega
theorem post_good {u : Nat → Res Nd} (hu : GdA L 3 u) : ∀ (g : Nat) (x : Nd) (i j : Nat) (n : Nd) (Q : Nat), postM L u g x i = .ok n j → cls x.k = 4 → isN x false = true → Q + cost (atW 4 (bindN x) (shw x)) ≤ Pc L i → cls n.k = 4 ∧ isN n false = true ∧ Q + cost (atW 4 (bindN n) (shw n)) ≤ Pc L j
 | 0, _, _, _, _, _, h, _, _, _ => by cases h
 | g + 1, x, i, j, n, Q, h, h1, h2, h3 => by
  rw [postM] at h
  split at h
  ·rename_i hc
   obtain ⟨t, m, e, h⟩ := bind_okE h
   obtain ⟨a, b⟩ := dot_good hc e h1 h2 h3
   exact post_good hu g _ m j n Q h rfl a b
  ·split at h
   ·obtain ⟨y, m, e, h⟩ := bind_okE h
    obtain ⟨a, b, c, -⟩ := call_good hu e h1 h2 h3
    exact post_good hu g y m j n Q h (by rw [a]; rfl) b c
   ·injection h with e1 e2
    subst e1 e2
    exact ⟨h1, h2, h3⟩
theorem unary_good (hL : ∀ t ∈ L, TokOk t.k t.s) : ∀ F, GdA L 3 (unaryM L F)
 | 0, i, j, n, h => by cases h
 | F + 1, i, j, n, h => by
  have IH := unary_good hL F
  rw [unaryM] at h
  split at h
  ·rename_i hc
   obtain ⟨x, m, e, h⟩ := bind_okE h
   injection h with e1 e2
   subst e1 e2
   obtain ⟨a, b, c⟩ := IH _ _ _ e
   have p := Pc.is hc
   unfold oneM
   refine ⟨rfl, uno_good rfl (by decide) rfl (by simp) rfl a b, ?_⟩
   rw [at3 (n := .mk 28 ⟨#[]⟩ 0 [x]) rfl, show shw (.mk 28 ⟨#[]⟩ 0 [x]) = ⟨#[45]⟩ :: atW 3 (bindN x) (shw x) from shw_eq _, cost_cons]
   omega
  ·split at h
   ·rename_i hc
    obtain ⟨x, m, e, h⟩ := bind_okE h
    injection h with e1 e2
    subst e1 e2
    obtain ⟨a, b, c⟩ := IH _ _ _ e
    have p := Pc.is hc
    unfold oneM
    refine ⟨rfl, uno_good rfl (by decide) rfl (by simp) rfl a b, ?_⟩
    rw [at3 (n := .mk 29 ⟨#[]⟩ 0 [x]) rfl, show shw (.mk 29 ⟨#[]⟩ 0 [x]) = ⟨#[33]⟩ :: atW 3 (bindN x) (shw x) from shw_eq _, cost_cons]
    omega
   ·obtain ⟨x, m, e, h⟩ := bind_okE h
    obtain ⟨a, b, c⟩ := first_good hL IH _ _ _ e
    obtain ⟨a2, b2, c2⟩ := post_good IH _ x m j n (Pc L i) h a b c
    exact ⟨a2, b2, Nat.le_trans (Nat.add_le_add_left (cost_mono (by omega) _) _) c2⟩
end
end Go.Proofs.YtgegfbopogcjpaaGreatDoor
