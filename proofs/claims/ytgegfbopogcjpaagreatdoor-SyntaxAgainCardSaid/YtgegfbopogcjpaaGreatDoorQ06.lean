/- What is printed is read back, 2: what a node has; rows in parentheses; types, parameters. No program is in sight; What is printed is read back, 3: expressions. No program is in sight; What is printed is read back, 4: every expression. No program is in sight. -/
import Derived.Test.YtgegfbopogcjpaaGreatDoorQ05
namespace Go.Proofs.YtgegfbopogcjpaaGreatDoor
set_option linter.unusedVariables false
set_option linter.unusedSimpArgs false
set_option maxRecDepth 100000
structure View (n : Nd) (s : Shp) (f : Bool) : Prop where
 least : s.least ≤ n.kids.length
 most : s.most < 0 ∨ (n.kids.length : Int) ≤ s.most
 txt : s.text = true → nameOf n.t = true
 notxt : s.text = false → n.t = ⟨#[]⟩
 num : numB n.k n.num s.num f = true
 op : n.k = 32 → (sgn n.num).isSome = true
 set : n.k = 15 → ∃ m ms, n.kids = m :: ms ∧ (baseN false m).k = 23
 do_ : n.k = 20 → ∃ m ms, n.kids = m :: ms ∧ m.k = 25 ∧ (baseN true m).k = 23
 kid : ∀ j m, n.kids[j]? = some m → kidB (wantC n.k j n.kids.length) m.k = true ∧ isN m (decide ((wantC n.k j n.kids.length).2 < 0)) = true
theorem isNL_at {k : Int} {len : Nat} : ∀ (l : List Nd) (i : Nat), isNL k i len l = true → ∀ j m, l[j]? = some m → kidB (wantC k (i + j) len) m.k = true ∧ isN m (decide ((wantC k (i + j) len).2 < 0)) = true
 | [], i, _, j, m, h => by simp at h
 | n :: l, i, h, j, m, hj => by
  rw [isNL, Bool.and_eq_true, Bool.and_eq_true] at h
  rcases j with _ | j
  ·simp at hj; subst hj; exact h.1
  ·have := isNL_at l (i + 1) h.2 j m (by simpa using hj)
   rw [show i + 1 + j = i + (j + 1) by omega] at this
   exact this
theorem isN_view {n : Nd} {f : Bool} {s : Shp} (h : isN n f = true) (hs : shp n.k = some s) : View n s f := by
 rw [isN_eq, hs] at h
 simp only [Bool.and_eq_true] at h
 obtain ⟨⟨⟨⟨⟨⟨⟨⟨h1, h2⟩, h3⟩, h4⟩, h5⟩, h6⟩, h7⟩, h8⟩, h9⟩ := h
 refine ⟨by simpa using h1, by simpa using h2, fun e => ?_, fun e => ?_, h5, fun e => ?_, fun e => ?_, fun e => ?_, fun j m hj => ?_⟩
 ·simpa [e] using h4
 ·rw [e] at h3
  have h0 : n.t.size = 0 := by simpa using h3
  generalize n.t = t at h0 ⊢
  obtain ⟨⟨l⟩⟩ := t
  have : l = [] := List.eq_nil_of_length_eq_zero h0
  subst this
  rfl
 ·simpa [e] using h6
 ·rw [e] at h7
  rcases hk : n.kids with _ | ⟨m, ms⟩
  ·rw [hk] at h7; cases h7
  ·rw [hk, show (!((15 : Int) == 15)) = false from rfl, Bool.false_or] at h7; exact ⟨m, ms, rfl, beq_iff_eq.1 h7⟩
 ·rw [e] at h8
  rcases hk : n.kids with _ | ⟨m, ms⟩
  ·rw [hk] at h8; cases h8
  ·rw [hk, show (!((20 : Int) == 20)) = false from rfl, Bool.false_or, Bool.and_eq_true] at h8; exact ⟨m, ms, rfl, beq_iff_eq.1 h8.1, beq_iff_eq.1 h8.2⟩
 ·have := isNL_at n.kids 0 h9 j m hj
  rwa [Nat.zero_add] at this
theorem kid_cls {c k : Int} (h : kidB (c, 0) k = true) : cls k = c := by rw [kidB_c] at h; simpa using h
theorem kid_part {p k : Int} (hp : cls p = 5) (h0 : 0 < p) (h : kidB (5, p) k = true) : k = p := by rw [kidB_p k hp h0] at h; simpa using h
theorem num0 {k num : Int} (hk : k ≠ 21) (h : numB k num 0 false = true) : num = 0 := by rw [numB_zero hk] at h; simpa using h
theorem ne_ite {c : Prop} [Decidable c] {a b : List ByteArray} (h1 : a ≠ []) (h2 : b ≠ []) : (if c then a else b) ≠ [] := by split <;> assumption
theorem shwK_pos {k : Int} (hk : k ≠ 1) (t : ByteArray) (num : Int) (ws : List (List ByteArray)) (bs : List Int) : shwK k t num ws bs ≠ [] := by
 unfold shwK
 dsimp only
 rw [if_neg hk]
 repeat' refine ne_ite ?_ ?_
 all_goals simp [numT, rowW]
theorem shw_pos {n : Nd} (hk : n.k ≠ 1) : 1 ≤ (shw n).length := by
 rw [shw_eq]
 exact List.length_pos_iff.2 (shwK_pos hk _ _ _ _)
theorem commas_cons (w v : List ByteArray) (ws : List (List ByteArray)) : commas (w :: v :: ws) = w ++ (⟨#[44]⟩ :: commas (v :: ws)) := rfl
theorem commas_len : ∀ (ws : List (List ByteArray)), (∀ w ∈ ws, 1 ≤ w.length) → ws.length ≤ (commas ws).length
 | [], _ => by simp
 | [w], h => by have := h w (by simp); simpa [commas] using this
 | w :: v :: ws, h => by
  have h1 := h w (by simp)
  have h2 := commas_len (v :: ws) (fun x hx => h x (by simp [hx]))
  rw [commas_cons]
  simp only [List.length_append, List.length_cons] at h2 ⊢
  omega
section
variable {L : List Tok}
def Lead (L : List Tok) (i : Nat) : Prop := tIs L ⟨#[41]⟩ i = false ∧ tIs L ⟨#[46, 46, 46]⟩ i = false ∧ tIs L ⟨#[125]⟩ i = false
theorem tIs_two {s s' : ByteArray} {i : Nat} (h : tIs L s i = true) (hne : s ≠ s') : tIs L s' i = false := by
 unfold tIs at h ⊢
 rcases hL : L[i]? with _ | t
 ·rfl
 ·rw [hL] at h
  simp only [Bool.and_eq_true, decide_eq_true_eq] at h
  simp only [h.2]
  simp [hne]
theorem tNm_is {s : ByteArray} {i : Nat} (h : tNm L i = true) (hs : nameOf s = false) : tIs L s i = false := by
 unfold tNm at h
 unfold tIs
 rcases hL : L[i]? with _ | t
 ·rfl
 ·rw [hL] at h
  simp only [Bool.and_eq_true] at h ⊢
  have : t.s ≠ s := fun e => by rw [e, hs] at h; cases h.2
  simp [this]
theorem lead_is {s : ByteArray} {i : Nat} (h : tIs L s i = true) (h1 : s ≠ ⟨#[41]⟩) (h2 : s ≠ ⟨#[46, 46, 46]⟩) (h3 : s ≠ ⟨#[125]⟩) : Lead L i := ⟨tIs_two h h1, tIs_two h h2, tIs_two h h3⟩
theorem lead_nm {i : Nat} (h : tNm L i = true) : Lead L i := ⟨tNm_is h (by decide), tNm_is h (by decide), tNm_is h (by decide)⟩
theorem bind_okE {α β : Type} {r : Res α} {f : α → Nat → Res β} {y : β} {k : Nat} (h : r.bind f = .ok y k) : ∃ x j, r = .ok x j ∧ f x j = .ok y k := by
 cases r with
 | ok x j => exact ⟨x, j, rfl, h⟩
 | bad j => cases h
 | dry => cases h
theorem name_lead {i j : Nat} {x : ByteArray} (h : nameM L i = .ok x j) : Lead L i := by
 unfold nameM at h
 split at h
 ·rename_i hc; exact lead_nm hc
 ·cases h
theorem typ_lead {F i j : Nat} {x : Nd} (h : typM L F i = .ok x j) : Lead L i := by
 rcases F with _ | F
 ·cases h
 rw [typM] at h
 split at h
 ·rename_i hc; exact lead_is hc (by decide) (by decide) (by decide)
 ·split at h
  ·rename_i hc; exact lead_is hc (by decide) (by decide) (by decide)
  ·split at h
   ·rename_i hc; exact lead_is hc (by decide) (by decide) (by decide)
   ·obtain ⟨y, k, e, -⟩ := bind_okE h
    exact name_lead e
theorem Hs.cons1 {w : ByteArray} {ws : List ByteArray} {i : Nat} (h : Hs L i (w :: ws)) : Hs L (i + 1) ws := h.2
theorem items_back {one : Nat → Res Nd} {many dots : Bool} (hmd : dots = true → many = true) (hl : ∀ i x j, one i = .ok x j → Lead L i) :
 ∀ (ks : List Nd) (l : List Nd) (i g : Nat), (∀ k ∈ ks, ∀ i w ws, Hs L i (shw k ++ w :: ws) → w = ⟨#[44]⟩ ∨ w = ⟨#[41]⟩ → one i = .ok k (i + (shw k).length)) →
  Hs L i (commas (ks.map shw ++ if dots = true then [[⟨#[46, 46, 46]⟩]] else []) ++ [⟨#[41]⟩]) → (ks = [] → dots = false → l = []) → ks.length < g →
  itemsM L one many g l i = .ok (l ++ ks, dots) (i + (commas (ks.map shw ++ if dots = true then [[⟨#[46, 46, 46]⟩]] else [])).length + 1)
 | [], l, i, g, hone, h, h0, hg => by
  obtain ⟨g, rfl⟩ : ∃ m, g = m + 1 := ⟨g - 1, by omega⟩
  rw [itemsM]
  rcases dots with _ | _
  ·have h : Hs L i [⟨#[41]⟩] := h
   rw [if_pos ⟨h0 rfl rfl, by rw [h.is]; decide⟩, h0 rfl rfl]
   rfl
  ·have h : Hs L i [⟨#[46, 46, 46]⟩, ⟨#[41]⟩] := h
   rw [if_neg (fun hc => by have := hc.2; rw [h.is] at this; revert this; decide), if_pos ⟨hmd rfl, by rw [h.is]; decide⟩, h.cons1.need (by decide), List.append_nil]
   rfl
 | k :: ks, l, i, g, hone, h, h0, hg => by
  obtain ⟨g, rfl⟩ : ∃ m, g = m + 1 := ⟨g - 1, by omega⟩
  rw [itemsM]
  by_cases hr : ks = [] ∧ dots = false
  ·obtain ⟨rfl, rfl⟩ := hr
   have h : Hs L i (shw k ++ [⟨#[41]⟩]) := h
   have ho := hone k (by simp) i _ _ h (.inr rfl)
   obtain ⟨l1, l2, -⟩ := hl _ _ _ ho
   have hn := (Hs.app.1 h).2
   rw [if_neg (fun hc => by rw [l1] at hc; cases hc.2), if_neg (fun hc => by rw [l2] at hc; cases hc.2), ho, Res.bind_ok, if_neg (by rw [hn.is]; decide), hn.need (by decide)]
   rfl
  ·obtain ⟨v, vs, hv⟩ : ∃ v vs, ks.map shw ++ (if dots = true then [[⟨#[46, 46, 46]⟩]] else []) = v :: vs := by
    rcases ks with _ | ⟨k', ks⟩
    ·rcases dots with _ | _
     ·exact absurd ⟨rfl, rfl⟩ hr
     ·exact ⟨_, _, rfl⟩
    ·exact ⟨_, _, rfl⟩
   have hc : commas ((k :: ks).map shw ++ if dots = true then [[⟨#[46, 46, 46]⟩]] else []) = shw k ++ (⟨#[44]⟩ :: commas (ks.map shw ++ if dots = true then [[⟨#[46, 46, 46]⟩]] else [])) := by
    rw [List.map_cons, List.cons_append, hv, commas_cons]
   rw [hc, List.append_assoc, List.cons_append] at h
   have ho := hone k (by simp) i _ _ h (.inl rfl)
   obtain ⟨l1, l2, -⟩ := hl _ _ _ ho
   have hn := (Hs.app.1 h).2
   rw [if_neg (fun hc => by rw [l1] at hc; cases hc.2), if_neg (fun hc => by rw [l2] at hc; cases hc.2), ho, Res.bind_ok, if_pos (by rw [hn.is]; decide),
    items_back hmd hl ks (l ++ [k]) _ g (fun m hm => hone m (by simp [hm])) hn.cons1 (fun e1 e2 => absurd ⟨e1, e2⟩ hr) (by simp at hg; omega), hc]
   simp only [List.append_assoc, List.cons_append, List.nil_append, List.length_append, List.length_cons]
   congr 1
   omega
theorem list_back {one : Nat → Res Nd} {many dots : Bool} (hmd : dots = true → many = true) (hl : ∀ i x j, one i = .ok x j → Lead L i) (ks : List Nd) (hk1 : ∀ k ∈ ks, k.k ≠ 1) {i : Nat}
 (hone : ∀ k ∈ ks, ∀ i w ws, Hs L i (shw k ++ w :: ws) → w = ⟨#[44]⟩ ∨ w = ⟨#[41]⟩ → one i = .ok k (i + (shw k).length)) (h : Hs L i (rowW (ks.map shw) dots)) :
 listM L one many i = .ok (ks, dots) (i + (rowW (ks.map shw) dots).length) := by
 unfold rowW at h ⊢
 have hlen : ks.length < L.length + 1 := by
  have h1 := commas_len (ks.map shw ++ if dots = true then [[⟨#[46, 46, 46]⟩]] else []) (fun w hw => by
   rcases List.mem_append.1 hw with hw | hw
   ·obtain ⟨k, hk, rfl⟩ := List.mem_map.1 hw
    exact shw_pos (hk1 k hk)
   ·rcases dots with _ | _
    ·cases hw
    ·simp at hw; subst hw; simp)
  have h2 := h.le (by simp)
  simp only [List.length_append, List.length_map, List.length_cons, List.length_nil] at h1 h2
  omega
 unfold listM
 rw [h.need (by decide), Res.bind_ok, items_back hmd hl ks [] (i + 1) (L.length + 1) hone h.cons1 (fun _ _ => rfl) hlen]
 simp only [List.nil_append, List.length_cons, List.length_append, List.length_nil]
 congr 1
 omega
theorem dropLast_getLast? {α : Type} (l : List α) (h : 1 ≤ l.length) : ∃ m, l = l.dropLast ++ [m] ∧ l[l.length - 1]? = some m := by
 rcases List.eq_nil_or_concat l with rfl | ⟨r, m, rfl⟩
 ·simp at h
 ·exact ⟨m, by simp, by simp⟩
theorem typ_back : ∀ (N : Nat) (n : Nd), many n ≤ N → cls n.k = 2 → isN n false = true → ∀ F i, Hs L i (shw n) → (shw n).length ≤ F → typM L F i = .ok n (i + (shw n).length)
 | 0, n, hm, _, _, _, _, _, _ => by have := many_pos n; omega
 | N + 1, .mk k t num kids, hm, hc, hn, F, i, h, hF => by
  have hk : k = 9 ∨ k = 10 ∨ k = 11 ∨ k = 12 := by
   have hc : cls k = 2 := hc
   unfold cls at hc
   repeat' split at hc
   all_goals omega
  obtain ⟨F, rfl⟩ : ∃ m, F = m + 1 := ⟨F - 1, by have := shw_pos (n := .mk k t num kids) (by show k ≠ 1; omega); omega⟩
  rcases hk with rfl | rfl | rfl | rfl
  ·have v := isN_view hn (show shp 9 = some ⟨false, 0, 0, 0⟩ from rfl)
   obtain rfl : kids = [] := List.eq_nil_of_length_eq_zero (by have := v.most; simp [Nd.kids] at this; simp [this])
   obtain rfl : t = ⟨#[]⟩ := v.notxt rfl
   obtain rfl : num = 0 := num0 (show (9 : Int) ≠ 21 by decide) v.num
   have h : Hs L i [⟨#[105, 110, 116]⟩] := h
   rw [typM, if_pos (by rw [h.is]; decide)]
   rfl
  ·have v := isN_view hn (show shp 10 = some ⟨false, 0, 0, 0⟩ from rfl)
   obtain rfl : kids = [] := List.eq_nil_of_length_eq_zero (by have := v.most; simp [Nd.kids] at this; simp [this])
   obtain rfl : t = ⟨#[]⟩ := v.notxt rfl
   obtain rfl : num = 0 := num0 (show (10 : Int) ≠ 21 by decide) v.num
   have h : Hs L i [⟨#[108, 111, 110, 103]⟩] := h
   rw [typM, if_neg (by rw [h.is]; decide), if_pos (by rw [h.is]; decide)]
   rfl
  ·have v := isN_view hn (show shp 11 = some ⟨true, 0, 0, 0⟩ from rfl)
   obtain rfl : kids = [] := List.eq_nil_of_length_eq_zero (by have := v.most; simp [Nd.kids] at this; simp [this])
   obtain rfl : num = 0 := num0 (show (11 : Int) ≠ 21 by decide) v.num
   have ht : nameOf t = true := v.txt rfl
   have h : Hs L i [t] := h
   obtain ⟨h1, h2, h3⟩ := h.name ht
   rw [typM, h3 _ (by decide), h3 _ (by decide), h3 _ (by decide), h2]
   rfl
  ·have v := isN_view hn (show shp 12 = some ⟨false, 1, 1, -1⟩ from rfl)
   obtain rfl : t = ⟨#[]⟩ := v.notxt rfl
   have hnum : num = 0 ∨ num = 1 := by
    have := v.num
    rw [show (Nd.mk 12 ⟨#[]⟩ num kids).k = 12 from rfl, numB_upto (by decide) (by decide) (by decide)] at this
    simp only [Bool.and_eq_true, decide_eq_true_eq] at this
    have h1 : 0 ≤ num := this.1
    have h2 : num ≤ 1 := this.2
    omega
   obtain ⟨m, hkl, hm?⟩ := dropLast_getLast? kids v.least
   have hkid : ∀ x ∈ kids, cls x.k = 2 ∧ isN x false = true := fun x hx => by
    obtain ⟨j, hj, e⟩ := List.getElem_of_mem hx
    obtain ⟨a, b⟩ := v.kid j x (by show kids[j]? = _; rw [List.getElem?_eq_getElem hj, e])
    exact ⟨kid_cls a, b⟩
   have hd : ∀ x ∈ kids.dropLast, x ∈ kids := fun x hx => by
    have := List.mem_append_left [m] hx
    rwa [← hkl] at this
   have hmm : m ∈ kids := List.mem_of_getElem? hm?
   have hws : shw (.mk 12 ⟨#[]⟩ num kids) = ⟨#[102, 110]⟩ :: (rowW (kids.dropLast.map shw) (num == 1) ++ shw m) := by
    rw [shw_eq]
    show ⟨#[102, 110]⟩ :: (rowW (kids.map shw).dropLast (num == 1) ++ nthW (kids.map shw) ((kids.map shw).length - 1)) = _
    rw [← List.map_dropLast]
    unfold nthW
    rw [List.length_map, List.getElem?_map, hm?]
    rfl
   rw [hws] at h hF ⊢
   obtain ⟨ha, hb⟩ := Hs.app.1 h.cons1
   have IH : ∀ x ∈ kids, ∀ F i, Hs L i (shw x) → (shw x).length ≤ F → typM L F i = .ok x (i + (shw x).length) := fun x hx => typ_back N x (by have := many_kid (n := .mk 12 ⟨#[]⟩ num kids) hx; omega) (hkid x hx).1 (hkid x hx).2
   simp only [List.length_cons, List.length_append] at hF
   have hsub : ∀ x ∈ kids.dropLast, (shw x).length ≤ (rowW (kids.dropLast.map shw) (num == 1)).length := fun x hx => by
    have : ∀ (l : List Nd) (r : List (List ByteArray)), x ∈ l → (shw x).length ≤ (commas (l.map shw ++ r)).length := fun l r => by
     induction l with
     | nil => intro h; cases h
     | cons y l ih =>
      intro h
      rcases hl : l.map shw ++ r with _ | ⟨v, vs⟩
      ·rw [List.map_cons, List.cons_append, hl]
       rcases List.mem_cons.1 h with rfl | h
       ·simp [commas]
       ·simp at hl; rw [hl.1] at h; cases h
      ·rw [List.map_cons, List.cons_append, hl, commas_cons, List.length_append, List.length_cons]
       rcases List.mem_cons.1 h with rfl | h
       ·omega
       ·have := ih h; rw [hl] at this; omega
    have := this kids.dropLast (if (num == 1) = true then [[⟨#[46, 46, 46]⟩]] else []) hx
    unfold rowW
    simp only [List.length_cons, List.length_append]
    omega
   rw [typM, if_neg (by rw [h.is]; decide), if_neg (by rw [h.is]; decide), if_pos (by rw [h.is]; decide),
    list_back (dots := num == 1) (fun _ => rfl) (fun i x j e => typ_lead e) kids.dropLast (fun x hx e => by have := (hkid x (hd x hx)).1; rw [e] at this; revert this; decide) (fun x hx i w ws hh _ => IH x (hd x hx) F i (Hs.app.1 hh).1 (by have := hsub x hx; omega)) ha,
    Res.bind_ok, IH m hmm F _ hb (by omega), Res.bind_ok]
   have e1 : flagN (num == 1) = num := by rcases hnum with rfl | rfl <;> rfl
   simp only [e1, ← hkl, List.length_cons, List.length_append]
   congr 1
   omega
end
end Go.Proofs.YtgegfbopogcjpaaGreatDoor
namespace Go.Proofs.YtgegfbopogcjpaaGreatDoor
set_option linter.unusedVariables false
set_option linter.unusedSimpArgs false
set_option maxRecDepth 100000
def S2 : List ByteArray := [⟨#[42]⟩, ⟨#[47]⟩, ⟨#[37]⟩, ⟨#[38]⟩]
def S1 : List ByteArray := [⟨#[43]⟩, ⟨#[45]⟩, ⟨#[124]⟩, ⟨#[94]⟩]
def S0 : List ByteArray := [⟨#[61, 61]⟩, ⟨#[60]⟩]
structure Stp_ (L : List Tok) (l : Int) (j : Nat) : Prop where
 dot : tIs L ⟨#[46]⟩ j = false
 par : tIs L ⟨#[40]⟩ j = false
 cur : tIs L ⟨#[123]⟩ j = false
 s2 : l ≤ 2 → tIn L S2 j = false
 s1 : l ≤ 1 → tIn L S1 j = false
 s0 : l ≤ 0 → tIn L S0 j = false
def stopW (l : Int) (w : ByteArray) : Bool := !tIsW ⟨#[46]⟩ w && !tIsW ⟨#[40]⟩ w && !tIsW ⟨#[123]⟩ w && (decide (2 < l) || !(S2.any fun s => tIsW s w)) && (decide (1 < l) || !(S1.any fun s => tIsW s w)) && (decide (0 < l) || !(S0.any fun s => tIsW s w))
section
variable {L : List Tok}
theorem Hs.in_ {w : ByteArray} {ws : List ByteArray} {i : Nat} (h : Hs L i (w :: ws)) (l : List ByteArray) : tIn L l i = l.any fun s => tIsW s w := by
 unfold tIn
 congr 1
 funext s
 exact h.is s
theorem Hs.stop {w : ByteArray} {ws : List ByteArray} {i : Nat} {l : Int} (h : Hs L i (w :: ws)) (hw : stopW l w = true) : Stp_ L l i := by
 simp only [stopW, Bool.and_eq_true, Bool.not_eq_true', Bool.or_eq_true, decide_eq_true_eq] at hw
 obtain ⟨⟨⟨⟨⟨h1, h2⟩, h3⟩, h4⟩, h5⟩, h6⟩ := hw
 exact ⟨by rw [h.is, h1], by rw [h.is, h2], by rw [h.is, h3], fun e => by rw [h.in_]; rcases h4 with h4 | h4; omega; exact h4, fun e => by rw [h.in_]; rcases h5 with h5 | h5; omega; exact h5, fun e => by rw [h.in_]; rcases h6 with h6 | h6; omega; exact h6⟩
theorem Stp_.more {l l' : Int} {j : Nat} (h : Stp_ L l j) (hl : l ≤ l') : Stp_ L l' j := ⟨h.dot, h.par, h.cur, fun e => h.s2 (by omega), fun e => h.s1 (by omega), fun e => h.s0 (by omega)⟩
theorem first_bad {u : Nat → Res Nd} {s : ByteArray} {i : Nat} (h : tIs L s i = true) (hn : nameOf s = false) (h1 : s ≠ ⟨#[40]⟩) (h2 : s ≠ ⟨#[38]⟩) (h3 : s ≠ ⟨#[105, 110, 116]⟩) (h4 : s ≠ ⟨#[108, 111, 110, 103]⟩) (h5 : s ≠ ⟨#[99, 111, 117, 110, 116]⟩) (h6 : s ≠ ⟨#[101, 120, 116, 114, 97]⟩) : firstM L u i = .bad i := by
 have hnm : tNm L i = false := by
  rcases hx : tNm L i with _ | _
  ·rfl
  ·rw [tNm_is hx hn] at h; cases h
 unfold firstM
 simp only [tIs_two h h1, tIs_two h h2, tIs_two h h3, tIs_two h h4, tIs_two h h5, tIs_two h h6, hnm, Bool.false_eq_true, if_false]
 unfold tIs at h
 unfold numM
 rcases hL : L[i]? with _ | t
 ·rfl
 ·rw [hL] at h
  simp only [Bool.and_eq_true, Bool.or_eq_true, beq_iff_eq] at h ⊢
  rw [if_neg (by rcases h.1 with e | e <;> rw [e] <;> decide), if_neg (by rcases h.1 with e | e <;> rw [e] <;> decide)]
theorem unary_bad {F : Nat} {s : ByteArray} {i : Nat} (h : tIs L s i = true) (hn : nameOf s = false) (h1 : s ≠ ⟨#[40]⟩) (h2 : s ≠ ⟨#[38]⟩) (h3 : s ≠ ⟨#[105, 110, 116]⟩) (h4 : s ≠ ⟨#[108, 111, 110, 103]⟩) (h5 : s ≠ ⟨#[99, 111, 117, 110, 116]⟩) (h6 : s ≠ ⟨#[101, 120, 116, 114, 97]⟩) (h7 : s ≠ ⟨#[45]⟩) (h8 : s ≠ ⟨#[33]⟩) : ∀ x j, unaryM L F i ≠ .ok x j := by
 rcases F with _ | F
 ·intro x j e; cases e
 ·intro x j e
  rw [unaryM, tIs_two h h7, tIs_two h h8, first_bad h hn h1 h2 h3 h4 h5 h6] at e
  cases e
theorem expr_unary {u : Nat → Res Nd} {i : Nat} (h : ∀ x j, u i ≠ .ok x j) : ∀ x j, exprM L u i ≠ .ok x j := by
 intro x j e
 obtain ⟨a, k, e1, -⟩ := bind_okE e
 obtain ⟨b, k2, e2, -⟩ := bind_okE e1
 obtain ⟨c, k3, e3, -⟩ := bind_okE e2
 exact h _ _ e3
theorem expr_lead {F i j : Nat} {x : Nd} (h : exprM L (unaryM L F) i = .ok x j) : Lead L i := by
 have key : ∀ s : ByteArray, nameOf s = false → s ≠ ⟨#[40]⟩ → s ≠ ⟨#[38]⟩ → s ≠ ⟨#[105, 110, 116]⟩ → s ≠ ⟨#[108, 111, 110, 103]⟩ → s ≠ ⟨#[99, 111, 117, 110, 116]⟩ → s ≠ ⟨#[101, 120, 116, 114, 97]⟩ → s ≠ ⟨#[45]⟩ → s ≠ ⟨#[33]⟩ → tIs L s i = false := fun s a b c d e f g p q => by
  rcases ht : tIs L s i with _ | _
  ·rfl
  ·exact absurd h (expr_unary (unary_bad ht a b c d e f g p q) _ _)
 exact ⟨key _ (by decide) (by decide) (by decide) (by decide) (by decide) (by decide) (by decide) (by decide) (by decide), key _ (by decide) (by decide) (by decide) (by decide) (by decide) (by decide) (by decide) (by decide) (by decide), key _ (by decide) (by decide) (by decide) (by decide) (by decide) (by decide) (by decide) (by decide) (by decide)⟩
def C4 (L : List Tok) (n : Nd) : Prop := bindN n = 4 → ∀ F i, Hs L i (shw n) → (shw n).length ≤ F + 1 → tIs L ⟨#[123]⟩ (i + (shw n).length) = false → ∃ c, c < (shw n).length ∧ ∀ g, (firstM L (unaryM L F) i).bind (fun x j => postM L (unaryM L F) (g + c) x j) = postM L (unaryM L F) g n (i + (shw n).length)
def C2 (L : List Tok) (n : Nd) : Prop := bindN n = 2 → ∀ F i, Hs L i (shw n) → (shw n).length ≤ F → Stp_ L 3 (i + (shw n).length) → ∃ c, c < (shw n).length ∧ ∀ g, (unaryM L F i).bind (fun x j => chainM L (unaryM L F) S2 (g + c) x j) = chainM L (unaryM L F) S2 g n (i + (shw n).length)
def C1 (L : List Tok) (n : Nd) : Prop := bindN n = 1 → ∀ F i, Hs L i (shw n) → (shw n).length ≤ F → Stp_ L 2 (i + (shw n).length) → ∃ c, c < (shw n).length ∧ ∀ g, (productM L (unaryM L F) i).bind (fun x j => chainM L (productM L (unaryM L F)) S1 (g + c) x j) = chainM L (productM L (unaryM L F)) S1 g n (i + (shw n).length)
structure RdE (L : List Tok) (n : Nd) : Prop where
 c4 : C4 L n
 c2 : C2 L n
 c1 : C1 L n
 u3 : ∀ F i, Hs L i (atW 3 (bindN n) (shw n)) → (atW 3 (bindN n) (shw n)).length ≤ F → Stp_ L 3 (i + (atW 3 (bindN n) (shw n)).length) → unaryM L F i = .ok n (i + (atW 3 (bindN n) (shw n)).length)
 p2 : ∀ F i, Hs L i (atW 2 (bindN n) (shw n)) → (atW 2 (bindN n) (shw n)).length ≤ F → Stp_ L 2 (i + (atW 2 (bindN n) (shw n)).length) → productM L (unaryM L F) i = .ok n (i + (atW 2 (bindN n) (shw n)).length)
 s1 : ∀ F i, Hs L i (atW 1 (bindN n) (shw n)) → (atW 1 (bindN n) (shw n)).length ≤ F → Stp_ L 1 (i + (atW 1 (bindN n) (shw n)).length) → sumM L (unaryM L F) i = .ok n (i + (atW 1 (bindN n) (shw n)).length)
 e0 : ∀ F i, Hs L i (shw n) → (shw n).length ≤ F → Stp_ L 0 (i + (shw n).length) → exprM L (unaryM L F) i = .ok n (i + (shw n).length)
theorem chain_end {part : Nat → Res Nd} {sg : List ByteArray} {x : Nd} {j : Nat} (h : tIn L sg j = false) (g : Nat) : chainM L part sg (g + 1) x j = .ok x j := by
 rw [chainM, if_neg (by rw [h]; simp)]
theorem post_end {u : Nat → Res Nd} {x : Nd} {j : Nat} (h1 : tIs L ⟨#[46]⟩ j = false) (h2 : tIs L ⟨#[40]⟩ j = false) (g : Nat) : postM L u (g + 1) x j = .ok x j := by
 rw [postM, if_neg (by rw [h1]; simp), if_neg (by rw [h2]; simp)]
theorem lift2 {u : Nat → Res Nd} {n : Nd} {i j : Nat} (h : u i = .ok n j) (hs : tIn L S2 j = false) : productM L u i = .ok n j := by
 unfold productM
 rw [h, Res.bind_ok]
 exact chain_end hs _
theorem lift1 {u : Nat → Res Nd} {n : Nd} {i j : Nat} (h : productM L u i = .ok n j) (hs : tIn L S1 j = false) : sumM L u i = .ok n j := by
 unfold sumM
 rw [h, Res.bind_ok]
 exact chain_end hs _
theorem lift0 {u : Nat → Res Nd} {n : Nd} {i j : Nat} (h : sumM L u i = .ok n j) (hs : tIn L S0 j = false) : exprM L u i = .ok n j := by
 unfold exprM
 rw [h, Res.bind_ok]
 exact if_neg (by rw [show tIn L [⟨#[61, 61]⟩, ⟨#[60]⟩] j = false from hs]; simp)
theorem round_back {n : Nd} {u : Nat → Res Nd} {i : Nat} {ws vs : List ByteArray} (h : Hs L i (⟨#[40]⟩ :: (ws ++ ⟨#[41]⟩ :: vs))) (he : ∀ i, Hs L i ws → Stp_ L 0 (i + ws.length) → exprM L u i = .ok n (i + ws.length)) : roundM L u i = .ok n (i + (ws.length + 2)) := by
 obtain ⟨h1, h2⟩ := Hs.app.1 h.cons1
 unfold roundM
 rw [h.need (by decide), Res.bind_ok, he _ h1 (h2.stop (by decide)), Res.bind_ok, h2.need (by decide), Res.bind_ok]
 congr 1
 omega
theorem rdE_of {n : Nd} (hb : 0 ≤ bindN n) (c4 : C4 L n) (c2 : C2 L n) (c1 : C1 L n)
 (o3 : 3 ≤ bindN n → ∀ F i, Hs L i (shw n) → (shw n).length ≤ F → Stp_ L 3 (i + (shw n).length) → unaryM L F i = .ok n (i + (shw n).length))
 (o2 : bindN n = 2 → ∀ F i, Hs L i (shw n) → (shw n).length ≤ F → Stp_ L 2 (i + (shw n).length) → productM L (unaryM L F) i = .ok n (i + (shw n).length))
 (o1 : bindN n = 1 → ∀ F i, Hs L i (shw n) → (shw n).length ≤ F → Stp_ L 1 (i + (shw n).length) → sumM L (unaryM L F) i = .ok n (i + (shw n).length))
 (o0 : bindN n = 0 → ∀ F i, Hs L i (shw n) → (shw n).length ≤ F → Stp_ L 0 (i + (shw n).length) → exprM L (unaryM L F) i = .ok n (i + (shw n).length)) : RdE L n := by
 have a2 : 2 ≤ bindN n → ∀ F i, Hs L i (shw n) → (shw n).length ≤ F → Stp_ L 2 (i + (shw n).length) → productM L (unaryM L F) i = .ok n (i + (shw n).length) := fun hb F i h hF hs => by
  by_cases h2 : bindN n = 2
  ·exact o2 h2 F i h hF hs
  ·exact lift2 (o3 (by omega) F i h hF (hs.more (by decide))) (hs.s2 (by decide))
 have a1 : 1 ≤ bindN n → ∀ F i, Hs L i (shw n) → (shw n).length ≤ F → Stp_ L 1 (i + (shw n).length) → sumM L (unaryM L F) i = .ok n (i + (shw n).length) := fun hb F i h hF hs => by
  by_cases h1 : bindN n = 1
  ·exact o1 h1 F i h hF hs
  ·exact lift1 (a2 (by omega) F i h hF (hs.more (by decide))) (hs.s1 (by decide))
 have a0 : ∀ F i, Hs L i (shw n) → (shw n).length ≤ F → Stp_ L 0 (i + (shw n).length) → exprM L (unaryM L F) i = .ok n (i + (shw n).length) := fun F i h hF hs => by
  by_cases h0 : bindN n = 0
  ·exact o0 h0 F i h hF hs
  ·exact lift0 (a1 (by omega) F i h hF (hs.more (by decide))) (hs.s0 (by decide))
 have par : ∀ F i, Hs L i (⟨#[40]⟩ :: (shw n ++ [⟨#[41]⟩])) → (⟨#[40]⟩ :: (shw n ++ [⟨#[41]⟩])).length ≤ F → Stp_ L 3 (i + (⟨#[40]⟩ :: (shw n ++ [⟨#[41]⟩])).length) → unaryM L F i = .ok n (i + (⟨#[40]⟩ :: (shw n ++ [⟨#[41]⟩])).length) := fun F i h hF hs => by
  obtain ⟨F, rfl⟩ : ∃ m, F = m + 1 := ⟨F - 1, by simp at hF; omega⟩
  have hr := round_back (n := n) (u := unaryM L F) h (fun i h' hs' => a0 F i h' (by simp at hF; omega) hs')
  have hlen : (⟨#[40]⟩ :: (shw n ++ [⟨#[41]⟩])).length = (shw n).length + 2 := by simp
  rw [hlen] at hs ⊢
  rw [unaryM, if_neg (by rw [h.is]; decide), if_neg (by rw [h.is]; decide)]
  have hf : firstM L (unaryM L F) i = .ok n (i + ((shw n).length + 2)) := by
   unfold firstM
   rw [if_pos (by rw [h.is]; decide)]
   exact hr
  rw [hf, Res.bind_ok]
  exact post_end hs.dot hs.par _
 refine ⟨c4, c2, c1, fun F i => ?_, fun F i => ?_, fun F i => ?_, a0⟩
 ·by_cases h : bindN n < 3
  ·rw [show atW 3 (bindN n) (shw n) = ⟨#[40]⟩ :: (shw n ++ [⟨#[41]⟩]) from if_pos h]
   exact par F i
  ·rw [show atW 3 (bindN n) (shw n) = shw n from if_neg h]
   exact o3 (by omega) F i
 ·by_cases h : bindN n < 2
  ·rw [show atW 2 (bindN n) (shw n) = ⟨#[40]⟩ :: (shw n ++ [⟨#[41]⟩]) from if_pos h]
   exact fun a b c => lift2 (par F i a b (c.more (by decide))) (c.s2 (by decide))
  ·rw [show atW 2 (bindN n) (shw n) = shw n from if_neg h]
   exact a2 (by omega) F i
 ·by_cases h : bindN n < 1
  ·rw [show atW 1 (bindN n) (shw n) = ⟨#[40]⟩ :: (shw n ++ [⟨#[41]⟩]) from if_pos h]
   exact fun a b c => lift1 (lift2 (par F i a b (c.more (by decide))) (c.s2 (by decide))) (c.s1 (by decide))
  ·rw [show atW 1 (bindN n) (shw n) = shw n from if_neg h]
   exact a1 (by omega) F i
theorem opnd {m : Nd} (hm : RdE L m) (hb : bindN m ≤ 4) {F i : Nat} (h : Hs L i (atW 4 (bindN m) (shw m))) (hF : (atW 4 (bindN m) (shw m)).length ≤ F + 1) (hc : tIs L ⟨#[123]⟩ (i + (atW 4 (bindN m) (shw m)).length) = false) :
 ∃ c, c < (atW 4 (bindN m) (shw m)).length ∧ ∀ g, (firstM L (unaryM L F) i).bind (fun x j => postM L (unaryM L F) (g + c) x j) = postM L (unaryM L F) g m (i + (atW 4 (bindN m) (shw m)).length) := by
 by_cases h4 : bindN m < 4
 ·rw [show atW 4 (bindN m) (shw m) = ⟨#[40]⟩ :: (shw m ++ [⟨#[41]⟩]) from if_pos h4] at *
  have hr := round_back (n := m) (u := unaryM L F) h (fun i h' hs' => hm.e0 F i h' (by simp at hF; omega) hs')
  refine ⟨0, by simp, fun g => ?_⟩
  unfold firstM
  rw [if_pos (by rw [h.is]; decide), hr, Res.bind_ok]
  simp
 ·rw [show atW 4 (bindN m) (shw m) = shw m from if_neg h4] at *
  exact hm.c4 (by omega) F i h hF hc
theorem sgn_all {op : Int} (h : (sgn op).isSome = true) : op = 12 ∨ op = 10 ∨ op = 1 ∨ op = 2 ∨ op = 8 ∨ op = 9 ∨ op = 3 ∨ op = 5 ∨ op = 6 ∨ op = 7 := by
 unfold sgn at h
 repeat' split at h
 all_goals first | omega | cases h
def sgOf (b : Int) : List ByteArray := if b = 2 then S2 else if b = 1 then S1 else S0
theorem sgn_facts {op : Int} (h : (sgn op).isSome = true) : 0 ≤ sgnB op ∧ sgnB op ≤ 2 ∧ opOf (sgnT op) = op ∧ (tkW (sgnT op)).2 = sgnT op ∧ ((sgOf (sgnB op)).any fun s => tIsW s (sgnT op)) = true ∧ stopW (sgnB op + 1) (sgnT op) = true := by
 rcases sgn_all h with rfl | rfl | rfl | rfl | rfl | rfl | rfl | rfl | rfl | rfl <;> decide
theorem chain_op {part : Nat → Res Nd} {sg : List ByteArray} {a b : Nd} {op : Int} {ws : List ByteArray} {j k g : Nat} (h : Hs L j (sgnT op :: ws)) (hs : (sg.any fun s => tIsW s (sgnT op)) = true) (ho : opOf (sgnT op) = op) (ht : (tkW (sgnT op)).2 = sgnT op) (hb : part (j + 1) = .ok b k) :
 chainM L part sg (g + 1) a j = chainM L part sg g (.mk 32 ⟨#[]⟩ op [a, b]) k := by
 rw [chainM, if_pos (by rw [h.in_, hs]), hb, Res.bind_ok, h.tx, ht, ho]
end
end Go.Proofs.YtgegfbopogcjpaaGreatDoor
namespace Go.Proofs.YtgegfbopogcjpaaGreatDoor
set_option linter.unusedVariables false
set_option linter.unusedSimpArgs false
set_option maxRecDepth 100000
theorem commas_sub {x : Nd} : ∀ (l : List Nd) (r : List (List ByteArray)), x ∈ l → (shw x).length ≤ (commas (l.map shw ++ r)).length
 | [], r, h => by cases h
 | y :: l, r, h => by
  rcases hl : l.map shw ++ r with _ | ⟨v, vs⟩
  ·rw [List.map_cons, List.cons_append, hl]
   rcases List.mem_cons.1 h with rfl | h
   ·simp [commas]
   ·simp at hl; rw [hl.1] at h; cases h
  ·rw [List.map_cons, List.cons_append, hl, commas_cons, List.length_append, List.length_cons]
   rcases List.mem_cons.1 h with rfl | h
   ·omega
   ·have := commas_sub l r h; rw [hl] at this; omega
theorem bind_le (n : Nd) : bindN n ≤ 4 := by
 unfold bindN bindK
 split
 ·omega
 ·split
  ·unfold sgnB
   rcases h : sgn n.num with _ | x
   ·simp only; omega
   ·have hs : (sgn n.num).isSome = true := by rw [h]; rfl
    have := (sgn_facts hs).2.1
    unfold sgnB at this
    rw [h] at this
    simp only at this ⊢
    omega
  ·omega
section
variable {L : List Tok}
theorem base_c4 {n : Nd} (hk : n.k ≠ 1) (hf : ∀ F i, Hs L i (shw n) → (shw n).length ≤ F + 1 → tIs L ⟨#[123]⟩ (i + (shw n).length) = false → firstM L (unaryM L F) i = .ok n (i + (shw n).length)) : C4 L n := fun _ F i h hF hc =>
 ⟨0, shw_pos hk, fun g => by rw [hf F i h hF hc, Res.bind_ok, Nat.add_zero]⟩
theorem rdE_c4 {n : Nd} (hb : bindN n = 4) (h : C4 L n) : RdE L n := by
 refine rdE_of (by omega) h (fun e => by omega) (fun e => by omega) (fun _ F i hs hF hst => ?_) (fun e => by omega) (fun e => by omega) (fun e => by omega)
 rcases hl : (shw n).length with _ | l
 ·obtain ⟨c, hc, -⟩ := h hb F i hs (by omega) hst.cur
  omega
 rw [← hl]
 obtain ⟨F, rfl⟩ : ∃ m, F = m + 1 := ⟨F - 1, by omega⟩
 obtain ⟨c, hc, e⟩ := h hb F i hs hF hst.cur
 have hle := hs.le (fun e0 => by rw [e0] at hl; cases hl)
 have key : ∀ s : ByteArray, nameOf s = false → s ≠ ⟨#[40]⟩ → s ≠ ⟨#[38]⟩ → s ≠ ⟨#[105, 110, 116]⟩ → s ≠ ⟨#[108, 111, 110, 103]⟩ → s ≠ ⟨#[99, 111, 117, 110, 116]⟩ → s ≠ ⟨#[101, 120, 116, 114, 97]⟩ → tIs L s i = false := fun s a1 a2 a3 a4 a5 a6 a7 => by
  rcases ht : tIs L s i with _ | _
  ·rfl
  ·have h1 := e 1
   rw [first_bad ht a1 a2 a3 a4 a5 a6 a7, post_end hst.dot hst.par 0] at h1
   cases h1
 rw [unaryM, if_neg (by rw [key _ (by decide) (by decide) (by decide) (by decide) (by decide) (by decide) (by decide)]; simp), if_neg (by rw [key _ (by decide) (by decide) (by decide) (by decide) (by decide) (by decide) (by decide)]; simp)]
 have h1 := e (L.length - c + 1)
 rw [show L.length - c + 1 + c = L.length + 1 by omega, post_end hst.dot hst.par _] at h1
 exact h1
theorem made_back {u : Nat → Res Nd} (hl : ∀ i x j, exprM L u i = .ok x j → Lead L i) :
 ∀ (ks : List Nd) (l : List Nd) (i g : Nat), (∀ k ∈ ks, ∀ i w ws, Hs L i (shw k ++ w :: ws) → w = ⟨#[44]⟩ ∨ w = ⟨#[125]⟩ → exprM L u i = .ok k (i + (shw k).length)) →
  Hs L i (commas (ks.map shw) ++ [⟨#[125]⟩]) → (ks = [] → l = []) → ks.length < g → madeM L u g l i = .ok (l ++ ks) (i + (commas (ks.map shw)).length + 1)
 | [], l, i, g, hone, h, h0, hg => by
  obtain ⟨g, rfl⟩ : ∃ m, g = m + 1 := ⟨g - 1, by omega⟩
  have h : Hs L i [⟨#[125]⟩] := h
  rw [madeM, if_pos ⟨h0 rfl, by rw [h.is]; decide⟩, h0 rfl]
  rfl
 | k :: ks, l, i, g, hone, h, h0, hg => by
  obtain ⟨g, rfl⟩ : ∃ m, g = m + 1 := ⟨g - 1, by omega⟩
  rw [madeM]
  rcases ks with _ | ⟨k2, ks⟩
  ·have h : Hs L i (shw k ++ [⟨#[125]⟩]) := h
   have ho := hone k (by simp) i _ _ h (.inr rfl)
   have hn := (Hs.app.1 h).2
   rw [if_neg (fun hc => by rw [(hl _ _ _ ho).2.2] at hc; cases hc.2), ho, Res.bind_ok, if_neg (by rw [hn.is]; decide), hn.need (by decide)]
   rfl
  ·have hc : commas ((k :: k2 :: ks).map shw) = shw k ++ (⟨#[44]⟩ :: commas ((k2 :: ks).map shw)) := rfl
   rw [hc, List.append_assoc, List.cons_append] at h
   have ho := hone k (by simp) i _ _ h (.inl rfl)
   have hn := (Hs.app.1 h).2
   rw [if_neg (fun hc => by rw [(hl _ _ _ ho).2.2] at hc; cases hc.2), ho, Res.bind_ok, if_pos (by rw [hn.is]; decide),
    made_back hl (k2 :: ks) (l ++ [k]) _ g (fun m hm => hone m (List.mem_cons_of_mem _ hm)) hn.cons1 (fun e => by cases e) (by simp at hg ⊢; omega), hc]
   simp only [List.append_assoc, List.cons_append, List.nil_append, List.length_append, List.length_cons]
   congr 1
   omega
theorem numW_no {w s : ByteArray} {k : Int} {t : ByteArray} (h : tkW w = (k, t)) (hk : k = 2 ∨ k = 3) : tIsW s w = false := by
 unfold tIsW
 rw [h]
 rcases hk with rfl | rfl <;> rfl
theorem kid_one {n m : Nd} {s : Shp} (v : View n s false) (hk : n.kids = [m]) (hw : wantC n.k 0 1 = (4, 0)) : cls m.k = 4 ∧ isN m false = true := by
 obtain ⟨a, b⟩ := v.kid 0 m (by rw [hk]; rfl)
 rw [hk] at a b
 simp only [List.length_singleton, hw] at a b
 exact ⟨kid_cls a, b⟩
theorem one_of {l : List Nd} (h1 : 1 ≤ l.length) (h2 : (l.length : Int) ≤ 1) : ∃ m, l = [m] := by
 rcases l with _ | ⟨m, _ | ⟨x, l⟩⟩
 ·simp at h1
 ·exact ⟨m, rfl⟩
 ·simp at h2; omega
theorem rdE_all : ∀ (N : Nat) (n : Nd), many n ≤ N → cls n.k = 4 → isN n false = true → RdE L n
 | 0, n, hm, _, _ => by have := many_pos n; omega
 | N + 1, .mk k t num kids, hm, hc, hn => by
  have hk : k = 21 ∨ k = 22 ∨ k = 23 ∨ k = 24 ∨ k = 25 ∨ k = 26 ∨ k = 27 ∨ k = 28 ∨ k = 29 ∨ k = 30 ∨ k = 31 ∨ k = 32 ∨ k = 33 ∨ k = 34 := by
   have hc : cls k = 4 := hc
   unfold cls at hc
   repeat' split at hc
   all_goals omega
  have IH : ∀ x ∈ kids, cls x.k = 4 → isN x false = true → RdE L x := fun x hx a b => rdE_all N x (by have := many_kid (n := .mk k t num kids) hx; omega) a b
  rcases hk with rfl | rfl | rfl | rfl | rfl | rfl | rfl | rfl | rfl | rfl | rfl | rfl | rfl | rfl
  ·-- 21
   have v := isN_view hn (show shp 21 = some ⟨false, -1, 0, 0⟩ from rfl)
   obtain rfl : kids = [] := List.eq_nil_of_length_eq_zero (by have := v.most; simp [Nd.kids] at this; simp [this])
   obtain rfl : t = ⟨#[]⟩ := v.notxt rfl
   have hnum := v.num
   simp only [numB, Bool.and_eq_true, Bool.or_eq_true, decide_eq_true_eq, Bool.false_eq_true, false_and, if_false, Nd.k, Nd.num] at hnum
   obtain ⟨⟨⟨n0, n1⟩, -⟩, n2⟩ := hnum
   have n2 : num ≤ 2147483647 := by simpa using n2
   refine rdE_c4 rfl (base_c4 (by show (21 : Int) ≠ 1; decide) fun F i h hF hc => ?_)
   have hw : shw (.mk 21 ⟨#[]⟩ num []) = [⟨(digsN num.natAbs ++ []).toArray⟩] := by
    rw [shw_eq]
    show numT 21 num = _
    unfold numT
    rw [if_neg (by omega)]
    rfl
   rw [hw] at h ⊢
   obtain ⟨w1, -, w3⟩ := num_word (.inl rfl) n0 n1 (fun _ => n2) (w := ⟨(digsN num.natAbs ++ []).toArray⟩) rfl
   obtain ⟨tk, ht, e⟩ := h.1
   have w1 : tkW ⟨(digsN num.natAbs ++ []).toArray⟩ = (2, ⟨(digsN num.natAbs).toArray⟩) := w1
   rw [w1] at e
   injection e with e1 e2
   unfold firstM
   simp only [h.is, numW_no w1 (.inl rfl), h.nm, w1, Bool.false_eq_true, if_false]
   rw [if_neg (by simp)]
   unfold numM
   rw [ht]
   simp only [e1, e2, w3, if_true]
   rfl
  ·-- 22
   have v := isN_view hn (show shp 22 = some ⟨false, -1, 0, 0⟩ from rfl)
   obtain rfl : kids = [] := List.eq_nil_of_length_eq_zero (by have := v.most; simp [Nd.kids] at this; simp [this])
   obtain rfl : t = ⟨#[]⟩ := v.notxt rfl
   have hnum := v.num
   simp only [numB, Bool.and_eq_true, Bool.or_eq_true, decide_eq_true_eq, Bool.false_eq_true, false_and, if_false, Nd.k, Nd.num] at hnum
   obtain ⟨⟨⟨n0, n1⟩, -⟩, -⟩ := hnum
   refine rdE_c4 rfl (base_c4 (by show (22 : Int) ≠ 1; decide) fun F i h hF hc => ?_)
   have hw : shw (.mk 22 ⟨#[]⟩ num []) = [⟨(digsN num.natAbs ++ [76]).toArray⟩] := by
    rw [shw_eq]
    show numT 22 num = _
    unfold numT
    rw [if_neg (by omega)]
    rfl
   rw [hw] at h ⊢
   obtain ⟨w1, -, w3⟩ := num_word (.inr rfl) n0 n1 (fun e => by cases e) (w := ⟨(digsN num.natAbs ++ [76]).toArray⟩) rfl
   obtain ⟨tk, ht, e⟩ := h.1
   have w1 : tkW ⟨(digsN num.natAbs ++ [76]).toArray⟩ = (3, ⟨(digsN num.natAbs).toArray⟩) := w1
   rw [w1] at e
   injection e with e1 e2
   unfold firstM
   simp only [h.is, numW_no w1 (.inr rfl), h.nm, w1, Bool.false_eq_true, if_false]
   rw [if_neg (by simp)]
   unfold numM
   rw [ht]
   simp only [e1, e2, w3, if_true]
   rfl
  ·-- 23
   have v := isN_view hn (show shp 23 = some ⟨true, 0, 0, 0⟩ from rfl)
   obtain rfl : kids = [] := List.eq_nil_of_length_eq_zero (by have := v.most; simp [Nd.kids] at this; simp [this])
   obtain rfl : num = 0 := num0 (show (23 : Int) ≠ 21 by decide) v.num
   have ht : nameOf t = true := v.txt rfl
   refine rdE_c4 rfl (base_c4 (by show (23 : Int) ≠ 1; decide) fun F i h hF hc => ?_)
   have h : Hs L i [t] := h
   have hc : tIs L ⟨#[123]⟩ (i + 1) = false := hc
   obtain ⟨h1, h2, h3⟩ := h.name ht
   unfold firstM
   simp only [h3 ⟨#[40]⟩ (by decide), h3 ⟨#[38]⟩ (by decide), h3 ⟨#[105, 110, 116]⟩ (by decide), h3 ⟨#[108, 111, 110, 103]⟩ (by decide), h3 ⟨#[99, 111, 117, 110, 116]⟩ (by decide), h3 ⟨#[101, 120, 116, 114, 97]⟩ (by decide), h1, hc, Bool.false_eq_true, if_false, if_true, h.tx, tkW_name ht]
   rfl
  ·-- 24
   have v := isN_view hn (show shp 24 = some ⟨true, 0, 1, 1⟩ from rfl)
   obtain ⟨m, rfl⟩ := one_of v.least (by have := v.most; simpa using this)
   obtain rfl : num = 0 := num0 (show (24 : Int) ≠ 21 by decide) v.num
   have ht : nameOf t = true := v.txt rfl
   have hmE := IH m (by simp) (kid_one v rfl rfl).1 (kid_one v rfl rfl).2
   refine rdE_c4 rfl fun _ F i h hF hc => ?_
   have hw : shw (.mk 24 t 0 [m]) = atW 4 (bindN m) (shw m) ++ [⟨#[46]⟩, t] := shw_eq _
   rw [hw] at h hF hc ⊢
   obtain ⟨ha, hb⟩ := Hs.app.1 h
   simp only [List.length_append, List.length_cons, List.length_nil] at hF hc ⊢
   obtain ⟨c, hc1, e⟩ := opnd hmE (bind_le m) (F := F) ha (by omega) (by rw [hb.is]; decide)
   refine ⟨c + 1, by omega, fun g => ?_⟩
   rw [show g + (c + 1) = g + 1 + c by omega, e (g + 1), postM, if_pos (by rw [hb.is]; decide), (hb.cons1.name ht).2.1, Res.bind_ok]
   rfl
  ·-- 25
   have v := isN_view hn (show shp 25 = some ⟨false, 0, 1, -1⟩ from rfl)
   obtain rfl : t = ⟨#[]⟩ := v.notxt rfl
   obtain rfl : num = 0 := num0 (show (25 : Int) ≠ 21 by decide) v.num
   rcases kids with _ | ⟨m, ks⟩
   ·have := v.least; simp [Nd.kids] at this
   have hkid : ∀ x ∈ m :: ks, cls x.k = 4 ∧ isN x false = true := fun x hx => by
    obtain ⟨j, hj, e⟩ := List.getElem_of_mem hx
    obtain ⟨a, b⟩ := v.kid j x (by show (m :: ks)[j]? = _; rw [List.getElem?_eq_getElem hj, e])
    exact ⟨kid_cls a, b⟩
   have hmE := IH m (by simp) (hkid m (by simp)).1 (hkid m (by simp)).2
   refine rdE_c4 rfl fun _ F i h hF hc => ?_
   have hw : shw (.mk 25 ⟨#[]⟩ 0 (m :: ks)) = atW 4 (bindN m) (shw m) ++ rowW (ks.map shw) false := shw_eq _
   rw [hw] at h hF hc ⊢
   obtain ⟨ha, hb⟩ := Hs.app.1 h
   have hb' : Hs L (i + (atW 4 (bindN m) (shw m)).length) (⟨#[40]⟩ :: (commas (ks.map shw ++ []) ++ [⟨#[41]⟩])) := hb
   simp only [List.length_append] at hF hc ⊢
   have hsub : ∀ x ∈ ks, (shw x).length + 2 ≤ (rowW (ks.map shw) false).length := fun x hx => by
    have := commas_sub ks [] hx
    show _ ≤ (⟨#[40]⟩ :: (commas (ks.map shw ++ []) ++ [⟨#[41]⟩])).length
    simp only [List.length_cons, List.length_append, List.length_nil]
    omega
   have hr2 : 2 ≤ (rowW (ks.map shw) false).length := by
    show _ ≤ (⟨#[40]⟩ :: (commas (ks.map shw ++ []) ++ [⟨#[41]⟩])).length
    simp
   obtain ⟨c, hc1, e⟩ := opnd hmE (bind_le m) (F := F) ha (by omega) (by rw [hb'.is]; decide)
   refine ⟨c + 1, by omega, fun g => ?_⟩
   have hlist := list_back (L := L) (one := exprM L (unaryM L F)) (many := false) (dots := false) (fun h => by cases h) (fun i x j e => expr_lead e) ks (fun x hx e => by have := (hkid x (by simp [hx])).1; rw [e] at this; revert this; decide)
    (fun x hx i w ws hh hww => (IH x (by simp [hx]) (hkid x (by simp [hx])).1 (hkid x (by simp [hx])).2).e0 F i (Hs.app.1 hh).1 (by have := hsub x hx; omega) ((Hs.app.1 hh).2.stop (by rcases hww with rfl | rfl <;> decide))) hb
   rw [show g + (c + 1) = g + 1 + c by omega, e (g + 1), postM, if_neg (by rw [hb'.is]; decide), if_pos (by rw [hb'.is]; decide)]
   unfold callM
   rw [hlist, Res.bind_ok, Res.bind_ok, Nat.add_assoc]
  ·-- 26
   have v := isN_view hn (show shp 26 = some ⟨true, 0, 0, 0⟩ from rfl)
   obtain rfl : kids = [] := List.eq_nil_of_length_eq_zero (by have := v.most; simp [Nd.kids] at this; simp [this])
   obtain rfl : num = 0 := num0 (show (26 : Int) ≠ 21 by decide) v.num
   have ht : nameOf t = true := v.txt rfl
   refine rdE_c4 rfl (base_c4 (by show (26 : Int) ≠ 1; decide) fun F i h hF hc => ?_)
   have h : Hs L i [⟨#[38]⟩, t] := h
   unfold firstM
   rw [if_neg (by rw [h.is]; decide), if_pos (by rw [h.is]; decide), (h.cons1.name ht).2.1, Res.bind_ok]
   rfl
  ·-- 27
   have v := isN_view hn (show shp 27 = some ⟨true, 0, 0, -1⟩ from rfl)
   obtain rfl : num = 0 := num0 (show (27 : Int) ≠ 21 by decide) v.num
   have ht : nameOf t = true := v.txt rfl
   have hkid : ∀ x ∈ kids, cls x.k = 4 ∧ isN x false = true := fun x hx => by
    obtain ⟨j, hj, e⟩ := List.getElem_of_mem hx
    obtain ⟨a, b⟩ := v.kid j x (by show kids[j]? = _; rw [List.getElem?_eq_getElem hj, e])
    exact ⟨kid_cls a, b⟩
   refine rdE_c4 rfl (base_c4 (by show (27 : Int) ≠ 1; decide) fun F i h hF hc => ?_)
   have hw : shw (.mk 27 t 0 kids) = t :: ⟨#[123]⟩ :: (commas (kids.map shw) ++ [⟨#[125]⟩]) := shw_eq _
   rw [hw] at h hF ⊢
   obtain ⟨h1, h2, h3⟩ := h.name ht
   simp only [List.length_cons, List.length_append, List.length_nil] at hF
   have hlen : kids.length < L.length + 1 := by
    have a1 := commas_len (kids.map shw) (fun w hw => by
     obtain ⟨x, hx, rfl⟩ := List.mem_map.1 hw
     exact shw_pos (fun e => by have := (hkid x hx).1; rw [e] at this; revert this; decide))
    have a2 := h.le (by simp)
    simp only [List.length_cons, List.length_append, List.length_nil, List.length_map] at a1 a2
    omega
   have hmb := made_back (L := L) (u := unaryM L F) (fun i x j e => expr_lead e) kids [] (i + 2) (L.length + 1) (fun x hx i w ws hh hww => (IH x hx (hkid x hx).1 (hkid x hx).2).e0 F i (Hs.app.1 hh).1 (by have := commas_sub kids [] hx; rw [List.append_nil] at this; omega) ((Hs.app.1 hh).2.stop (by rcases hww with rfl | rfl <;> decide))) h.cons1.cons1 (fun _ => rfl) hlen
   unfold firstM
   simp only [h3 ⟨#[40]⟩ (by decide), h3 ⟨#[38]⟩ (by decide), h3 ⟨#[105, 110, 116]⟩ (by decide), h3 ⟨#[108, 111, 110, 103]⟩ (by decide), h3 ⟨#[99, 111, 117, 110, 116]⟩ (by decide), h3 ⟨#[101, 120, 116, 114, 97]⟩ (by decide), h1, Bool.false_eq_true, if_false, if_true, h.tx, tkW_name ht]
   rw [if_pos (by rw [h.cons1.is]; decide), hmb, Res.bind_ok]
   simp only [List.nil_append, List.length_cons, List.length_append, List.length_nil]
   congr 1
   omega
  ·-- 28
   have v := isN_view hn (show shp 28 = some ⟨false, 0, 1, 1⟩ from rfl)
   obtain ⟨m, rfl⟩ := one_of v.least (by have := v.most; simpa using this)
   obtain rfl : num = 0 := num0 (show (28 : Int) ≠ 21 by decide) v.num
   obtain rfl : t = ⟨#[]⟩ := v.notxt rfl
   have hmE := IH m (by simp) (kid_one v rfl rfl).1 (kid_one v rfl rfl).2
   have hb : bindN (.mk 28 ⟨#[]⟩ 0 [m]) = 3 := rfl
   have hw : shw (.mk 28 ⟨#[]⟩ 0 [m]) = ⟨#[45]⟩ :: atW 3 (bindN m) (shw m) := shw_eq _
   refine rdE_of (by omega) (fun e => by omega) (fun e => by omega) (fun e => by omega) (fun _ F i hs hF hst => ?_) (fun e => by omega) (fun e => by omega) (fun e => by omega)
   rw [hw] at hs hF hst ⊢
   rw [List.length_cons] at hF hst ⊢
   obtain ⟨F, rfl⟩ : ∃ m, F = m + 1 := ⟨F - 1, by omega⟩
   rw [unaryM, if_pos (by rw [hs.is]; decide), hmE.u3 F (i + 1) hs.cons1 (by omega) (by rw [show i + 1 + (atW 3 (bindN m) (shw m)).length = i + ((atW 3 (bindN m) (shw m)).length + 1) by omega]; exact hst), Res.bind_ok]
   congr 1
   omega
  ·-- 29
   have v := isN_view hn (show shp 29 = some ⟨false, 0, 1, 1⟩ from rfl)
   obtain ⟨m, rfl⟩ := one_of v.least (by have := v.most; simpa using this)
   obtain rfl : num = 0 := num0 (show (29 : Int) ≠ 21 by decide) v.num
   obtain rfl : t = ⟨#[]⟩ := v.notxt rfl
   have hmE := IH m (by simp) (kid_one v rfl rfl).1 (kid_one v rfl rfl).2
   have hb : bindN (.mk 29 ⟨#[]⟩ 0 [m]) = 3 := rfl
   have hw : shw (.mk 29 ⟨#[]⟩ 0 [m]) = ⟨#[33]⟩ :: atW 3 (bindN m) (shw m) := shw_eq _
   refine rdE_of (by omega) (fun e => by omega) (fun e => by omega) (fun e => by omega) (fun _ F i hs hF hst => ?_) (fun e => by omega) (fun e => by omega) (fun e => by omega)
   rw [hw] at hs hF hst ⊢
   rw [List.length_cons] at hF hst ⊢
   obtain ⟨F, rfl⟩ : ∃ m, F = m + 1 := ⟨F - 1, by omega⟩
   rw [unaryM, if_neg (by rw [hs.is]; decide), if_pos (by rw [hs.is]; decide), hmE.u3 F (i + 1) hs.cons1 (by omega) (by rw [show i + 1 + (atW 3 (bindN m) (shw m)).length = i + ((atW 3 (bindN m) (shw m)).length + 1) by omega]; exact hst), Res.bind_ok]
   congr 1
   omega
  ·-- 30
   have v := isN_view hn (show shp 30 = some ⟨false, 0, 1, 1⟩ from rfl)
   obtain ⟨m, rfl⟩ := one_of v.least (by have := v.most; simpa using this)
   obtain rfl : num = 0 := num0 (show (30 : Int) ≠ 21 by decide) v.num
   obtain rfl : t = ⟨#[]⟩ := v.notxt rfl
   have hmE := IH m (by simp) (kid_one v rfl rfl).1 (kid_one v rfl rfl).2
   refine rdE_c4 rfl (base_c4 (by show (30 : Int) ≠ 1; decide) fun F i h hF hc => ?_)
   have hw : shw (.mk 30 ⟨#[]⟩ 0 [m]) = ⟨#[105, 110, 116]⟩ :: ⟨#[40]⟩ :: (shw m ++ [⟨#[41]⟩]) := shw_eq _
   rw [hw] at h hF ⊢
   simp only [List.length_cons, List.length_append, List.length_nil] at hF ⊢
   unfold firstM
   rw [if_neg (by rw [h.is]; decide), if_neg (by rw [h.is]; decide), if_pos (by rw [h.is]; decide), round_back (n := m) h.cons1 (fun i a b => hmE.e0 F i a (by omega) b), Res.bind_ok]
   unfold oneM
   congr 1
   omega
  ·-- 31
   have v := isN_view hn (show shp 31 = some ⟨false, 0, 1, 1⟩ from rfl)
   obtain ⟨m, rfl⟩ := one_of v.least (by have := v.most; simpa using this)
   obtain rfl : num = 0 := num0 (show (31 : Int) ≠ 21 by decide) v.num
   obtain rfl : t = ⟨#[]⟩ := v.notxt rfl
   have hmE := IH m (by simp) (kid_one v rfl rfl).1 (kid_one v rfl rfl).2
   refine rdE_c4 rfl (base_c4 (by show (31 : Int) ≠ 1; decide) fun F i h hF hc => ?_)
   have hw : shw (.mk 31 ⟨#[]⟩ 0 [m]) = ⟨#[108, 111, 110, 103]⟩ :: ⟨#[40]⟩ :: (shw m ++ [⟨#[41]⟩]) := shw_eq _
   rw [hw] at h hF ⊢
   simp only [List.length_cons, List.length_append, List.length_nil] at hF ⊢
   unfold firstM
   rw [if_neg (by rw [h.is]; decide), if_neg (by rw [h.is]; decide), if_neg (by rw [h.is]; decide), if_pos (by rw [h.is]; decide), round_back (n := m) h.cons1 (fun i a b => hmE.e0 F i a (by omega) b), Res.bind_ok]
   unfold oneM
   congr 1
   omega
  ·-- 32
   have v := isN_view hn (show shp 32 = some ⟨false, 12, 2, 2⟩ from rfl)
   obtain rfl : t = ⟨#[]⟩ := v.notxt rfl
   obtain ⟨a, b, rfl⟩ : ∃ a b, kids = [a, b] := by
    have h1 := v.least
    have h2 := v.most
    rcases kids with _ | ⟨a, _ | ⟨b, _ | ⟨x, l⟩⟩⟩
    ·simp [Nd.kids] at h1
    ·simp [Nd.kids] at h1
    ·exact ⟨a, b, rfl⟩
    ·simp [Nd.kids] at h2; omega
   have hs := v.op rfl
   have hs : (sgn num).isSome = true := hs
   obtain ⟨f1, f2, f3, f4, f5, f6⟩ := sgn_facts hs
   obtain ⟨ka, kb⟩ := v.kid 0 a rfl
   obtain ⟨la, lb⟩ := v.kid 1 b rfl
   have ha := IH a (by simp) (kid_cls ka) kb
   have hb := IH b (by simp) (kid_cls la) lb
   have hbn : bindN (.mk 32 ⟨#[]⟩ num [a, b]) = sgnB num := rfl
   have hw : shw (.mk 32 ⟨#[]⟩ num [a, b]) = atW (max (sgnB num) 1) (bindN a) (shw a) ++ (sgnT num :: atW (sgnB num + 1) (bindN b) (shw b)) := by
    rw [shw_eq]
    show atW (max (sgnB num) 1) (bindN a) (shw a) ++ [sgnT num] ++ atW (sgnB num + 1) (bindN b) (shw b) = _
    simp
   have hba := bind_le a
   have cc2 : C2 L (.mk 32 ⟨#[]⟩ num [a, b]) := fun e F i h hF hst => by
    have e : sgnB num = 2 := e
    rw [hw, e] at h hF hst ⊢
    rw [e] at f5 f6
    have f5 : (S2.any fun s => tIsW s (sgnT num)) = true := f5
    have h : Hs L i (atW 2 (bindN a) (shw a) ++ (sgnT num :: atW 3 (bindN b) (shw b))) := h
    have hF : (atW 2 (bindN a) (shw a) ++ (sgnT num :: atW 3 (bindN b) (shw b))).length ≤ F := hF
    have hst : Stp_ L 3 (i + (atW 2 (bindN a) (shw a) ++ (sgnT num :: atW 3 (bindN b) (shw b))).length) := hst
    show ∃ c, c < (atW 2 (bindN a) (shw a) ++ (sgnT num :: atW 3 (bindN b) (shw b))).length ∧ ∀ g, _ = chainM L (unaryM L F) S2 g _ (i + (atW 2 (bindN a) (shw a) ++ (sgnT num :: atW 3 (bindN b) (shw b))).length)
    obtain ⟨h1, h2⟩ := Hs.app.1 h
    simp only [List.length_append, List.length_cons] at hF hst ⊢
    have hrb := hb.u3 F _ h2.cons1 (by omega) (by rw [show i + (atW 2 (bindN a) (shw a)).length + 1 + (atW 3 (bindN b) (shw b)).length = i + ((atW 2 (bindN a) (shw a)).length + ((atW 3 (bindN b) (shw b)).length + 1)) by omega]; exact hst)
    have hstop := h2.stop f6
    have step : ∀ g, chainM L (unaryM L F) S2 (g + 1) a (i + (atW 2 (bindN a) (shw a)).length) = chainM L (unaryM L F) S2 g (.mk 32 ⟨#[]⟩ num [a, b]) (i + ((atW 2 (bindN a) (shw a)).length + ((atW 3 (bindN b) (shw b)).length + 1))) := fun g => by
     rw [chain_op h2 f5 f3 f4 hrb]
     congr 1
     omega
    have la1 : 1 ≤ (atW 2 (bindN a) (shw a)).length := by
     have := shw_pos (n := a) (fun e => by have := kid_cls ka; rw [e] at this; revert this; decide)
     unfold atW
     split
     ·simp
     ·exact this
    have key : ∃ c, c < (atW 2 (bindN a) (shw a)).length ∧ ∀ g, (unaryM L F i).bind (fun x j => chainM L (unaryM L F) S2 (g + c) x j) = chainM L (unaryM L F) S2 g a (i + (atW 2 (bindN a) (shw a)).length) := by
     clear step hrb
     by_cases h2a : bindN a = 2
     ·have ea : atW 2 (bindN a) (shw a) = shw a := if_neg (by omega)
      rw [ea] at h1 hF hstop ⊢
      exact ha.c2 h2a F i h1 (by omega) hstop
     ·have ea : atW 2 (bindN a) (shw a) = atW 3 (bindN a) (shw a) := by
       unfold atW
       by_cases h3 : bindN a < 2
       ·rw [if_pos h3, if_pos (by omega)]
       ·rw [if_neg h3, if_neg (by omega)]
      rw [ea] at h1 hF hstop la1 ⊢
      exact ⟨0, by omega, fun g => by rw [ha.u3 F i h1 (by omega) hstop, Res.bind_ok, Nat.add_zero]⟩
    obtain ⟨c, hc, e2⟩ := key
    exact ⟨c + 1, by omega, fun g => by rw [show g + (c + 1) = g + 1 + c by omega, e2, step]⟩
   have cc1 : C1 L (.mk 32 ⟨#[]⟩ num [a, b]) := fun e F i h hF hst => by
    have e : sgnB num = 1 := e
    rw [hw, e] at h hF hst ⊢
    rw [e] at f5 f6
    have f5 : (S1.any fun s => tIsW s (sgnT num)) = true := f5
    have h : Hs L i (atW 1 (bindN a) (shw a) ++ (sgnT num :: atW 2 (bindN b) (shw b))) := h
    have hF : (atW 1 (bindN a) (shw a) ++ (sgnT num :: atW 2 (bindN b) (shw b))).length ≤ F := hF
    have hst : Stp_ L 2 (i + (atW 1 (bindN a) (shw a) ++ (sgnT num :: atW 2 (bindN b) (shw b))).length) := hst
    show ∃ c, c < (atW 1 (bindN a) (shw a) ++ (sgnT num :: atW 2 (bindN b) (shw b))).length ∧ ∀ g, _ = chainM L (productM L (unaryM L F)) S1 g _ (i + (atW 1 (bindN a) (shw a) ++ (sgnT num :: atW 2 (bindN b) (shw b))).length)
    obtain ⟨h1, h2⟩ := Hs.app.1 h
    simp only [List.length_append, List.length_cons] at hF hst ⊢
    have hrb := hb.p2 F _ h2.cons1 (by omega) (by rw [show i + (atW 1 (bindN a) (shw a)).length + 1 + (atW 2 (bindN b) (shw b)).length = i + ((atW 1 (bindN a) (shw a)).length + ((atW 2 (bindN b) (shw b)).length + 1)) by omega]; exact hst)
    have hstop := h2.stop f6
    have step : ∀ g, chainM L (productM L (unaryM L F)) S1 (g + 1) a (i + (atW 1 (bindN a) (shw a)).length) = chainM L (productM L (unaryM L F)) S1 g (.mk 32 ⟨#[]⟩ num [a, b]) (i + ((atW 1 (bindN a) (shw a)).length + ((atW 2 (bindN b) (shw b)).length + 1))) := fun g => by
     rw [chain_op h2 f5 f3 f4 hrb]
     congr 1
     omega
    have la1 : 1 ≤ (atW 1 (bindN a) (shw a)).length := by
     have := shw_pos (n := a) (fun e => by have := kid_cls ka; rw [e] at this; revert this; decide)
     unfold atW
     split
     ·simp
     ·exact this
    have key : ∃ c, c < (atW 1 (bindN a) (shw a)).length ∧ ∀ g, (productM L (unaryM L F) i).bind (fun x j => chainM L (productM L (unaryM L F)) S1 (g + c) x j) = chainM L (productM L (unaryM L F)) S1 g a (i + (atW 1 (bindN a) (shw a)).length) := by
     clear step hrb
     by_cases h2a : bindN a = 1
     ·have ea : atW 1 (bindN a) (shw a) = shw a := if_neg (by omega)
      rw [ea] at h1 hF hstop ⊢
      exact ha.c1 h2a F i h1 (by omega) hstop
     ·have ea : atW 1 (bindN a) (shw a) = atW 2 (bindN a) (shw a) := by
       unfold atW
       by_cases h3 : bindN a < 1
       ·rw [if_pos h3, if_pos (by omega)]
       ·rw [if_neg h3, if_neg (by omega)]
      rw [ea] at h1 hF hstop la1 ⊢
      exact ⟨0, by omega, fun g => by rw [ha.p2 F i h1 (by omega) hstop, Res.bind_ok, Nat.add_zero]⟩
    obtain ⟨c, hc, e2⟩ := key
    exact ⟨c + 1, by omega, fun g => by rw [show g + (c + 1) = g + 1 + c by omega, e2, step]⟩
   refine rdE_of (by omega) (fun e => by omega) cc2 cc1 (fun e => by omega) (fun e F i h hF hst => ?_) (fun e F i h hF hst => ?_) (fun e F i h hF hst => ?_)
   ·obtain ⟨c, hc, e2⟩ := cc2 e F i h hF (hst.more (by decide))
    have hle := h.le (by rw [hw]; simp)
    have h1 := e2 (L.length - c + 1)
    rw [show L.length - c + 1 + c = L.length + 1 by omega, chain_end (hst.s2 (by decide))] at h1
    exact h1
   ·obtain ⟨c, hc, e2⟩ := cc1 e F i h hF (hst.more (by decide))
    have hle := h.le (by rw [hw]; simp)
    have h1 := e2 (L.length - c + 1)
    rw [show L.length - c + 1 + c = L.length + 1 by omega, chain_end (hst.s1 (by decide))] at h1
    exact h1
   ·have e : sgnB num = 0 := e
    rw [hw, e] at h hF hst ⊢
    rw [e] at f5 f6
    have h : Hs L i (atW 1 (bindN a) (shw a) ++ (sgnT num :: atW 1 (bindN b) (shw b))) := h
    have hF : (atW 1 (bindN a) (shw a) ++ (sgnT num :: atW 1 (bindN b) (shw b))).length ≤ F := hF
    have hst : Stp_ L 0 (i + (atW 1 (bindN a) (shw a) ++ (sgnT num :: atW 1 (bindN b) (shw b))).length) := hst
    show _ = Res.ok _ (i + (atW 1 (bindN a) (shw a) ++ (sgnT num :: atW 1 (bindN b) (shw b))).length)
    obtain ⟨h1, h2⟩ := Hs.app.1 h
    simp only [List.length_append, List.length_cons] at hF hst ⊢
    have hrb := hb.s1 F _ h2.cons1 (by omega) (by rw [show i + (atW 1 (bindN a) (shw a)).length + 1 + (atW 1 (bindN b) (shw b)).length = i + ((atW 1 (bindN a) (shw a)).length + ((atW 1 (bindN b) (shw b)).length + 1)) by omega]; exact hst.more (by decide))
    have hra := ha.s1 F i h1 (by omega) (h2.stop f6)
    unfold exprM
    rw [hra, Res.bind_ok, if_pos (by rw [h2.in_]; exact f5), hrb, Res.bind_ok, h2.tx, f4, f3]
    congr 1
    omega
  ·-- 33
   have v := isN_view hn (show shp 33 = some ⟨false, 0, 0, 0⟩ from rfl)
   obtain rfl : kids = [] := List.eq_nil_of_length_eq_zero (by have := v.most; simp [Nd.kids] at this; simp [this])
   obtain rfl : num = 0 := num0 (show (33 : Int) ≠ 21 by decide) v.num
   obtain rfl : t = ⟨#[]⟩ := v.notxt rfl
   refine rdE_c4 rfl (base_c4 (by show (33 : Int) ≠ 1; decide) fun F i h hF hc => ?_)
   have h : Hs L i [⟨#[99, 111, 117, 110, 116]⟩] := h
   unfold firstM
   rw [if_neg (by rw [h.is]; decide), if_neg (by rw [h.is]; decide), if_neg (by rw [h.is]; decide), if_neg (by rw [h.is]; decide), if_pos (by rw [h.is]; decide)]
   rfl
  ·-- 34
   have v := isN_view hn (show shp 34 = some ⟨false, 0, 1, 1⟩ from rfl)
   obtain ⟨m, rfl⟩ := one_of v.least (by have := v.most; simpa using this)
   obtain rfl : num = 0 := num0 (show (34 : Int) ≠ 21 by decide) v.num
   obtain rfl : t = ⟨#[]⟩ := v.notxt rfl
   have hmE := IH m (by simp) (kid_one v rfl rfl).1 (kid_one v rfl rfl).2
   refine rdE_c4 rfl (base_c4 (by show (34 : Int) ≠ 1; decide) fun F i h hF hc => ?_)
   have hw : shw (.mk 34 ⟨#[]⟩ 0 [m]) = ⟨#[101, 120, 116, 114, 97]⟩ :: ⟨#[40]⟩ :: (shw m ++ [⟨#[41]⟩]) := shw_eq _
   rw [hw] at h hF ⊢
   simp only [List.length_cons, List.length_append, List.length_nil] at hF ⊢
   unfold firstM
   rw [if_neg (by rw [h.is]; decide), if_neg (by rw [h.is]; decide), if_neg (by rw [h.is]; decide), if_neg (by rw [h.is]; decide), if_neg (by rw [h.is]; decide), if_pos (by rw [h.is]; decide), round_back (n := m) h.cons1 (fun i a b => hmE.e0 F i a (by omega) b), Res.bind_ok]
   unfold oneM
   congr 1
   omega
end
end Go.Proofs.YtgegfbopogcjpaaGreatDoor
