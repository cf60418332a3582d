/- What is printed is read back, 5: statements, blocks. No program is in sight; The printed words are short. No program is in sight; What is printed is read back, 6: every printed word is a token's text. No program is in sight. -/
import Derived.Test.YtgegfbopogcjpaaGreatDoorQ02
import Derived.Test.YtgegfbopogcjpaaGreatDoorQ06
namespace Go.Proofs.YtgegfbopogcjpaaGreatDoor
set_option linter.unusedVariables false
set_option linter.unusedSimpArgs false
set_option maxRecDepth 100000
section
variable {L : List Tok}
theorem typ_first {F i j : Nat} {x : Nd} (h : typM L F i = .ok x j) {s : ByteArray} (hn : nameOf s = false) (h1 : s ≠ ⟨#[105, 110, 116]⟩) (h2 : s ≠ ⟨#[108, 111, 110, 103]⟩) (h3 : s ≠ ⟨#[102, 110]⟩) : tIs L s i = false := by
 rcases ht : tIs L s i with _ | _
 ·rfl
 rcases F with _ | F
 ·cases h
 have hnm : tNm L i = false := by
  rcases hx : tNm L i with _ | _
  ·rfl
  ·rw [tNm_is hx hn] at ht; cases ht
 rw [typM, tIs_two ht h1, tIs_two ht h2, tIs_two ht h3] at h
 unfold nameM at h
 rw [hnm] at h
 cases h
theorem typ_cases {F i j : Nat} {x : Nd} (h : typM L F i = .ok x j) : tIn L [⟨#[105, 110, 116]⟩, ⟨#[108, 111, 110, 103]⟩, ⟨#[102, 110]⟩] i = true ∨ (tNm L i = true ∧ j = i + 1) := by
 rcases F with _ | F
 ·cases h
 rw [typM] at h
 unfold tIn
 split at h
 ·rename_i hc; left; simp [hc]
 ·split at h
  ·rename_i hc; left; simp [hc]
  ·split at h
   ·rename_i hc; left; simp [hc]
   ·right
    obtain ⟨y, k, e, e2⟩ := bind_okE h
    unfold nameM at e
    split at e
    ·rename_i hc; injection e with _ e; injection e2 with _ e2; exact ⟨hc, by omega⟩
    ·cases e
theorem stat_bad {F i : Nat} {s : ByteArray} (ht : tIs L s i = true) (hn : nameOf s = false) (h1 : s ≠ ⟨#[105, 102]⟩) (h2 : s ≠ ⟨#[119, 104, 105, 108, 101]⟩) (h3 : s ≠ ⟨#[114, 101, 116, 117, 114, 110]⟩) (h4 : s ≠ ⟨#[112, 117, 116]⟩) (h5 : s ≠ ⟨#[105, 110, 116]⟩) (h6 : s ≠ ⟨#[108, 111, 110, 103]⟩) (h7 : s ≠ ⟨#[102, 110]⟩) (x : Nd) (j : Nat) : statM L F i ≠ .ok x j := by
 intro h
 rcases F with _ | F
 ·cases h
 have hnm : tNm L i = false := by
  rcases hx : tNm L i with _ | _
  ·rfl
  ·rw [tNm_is hx hn] at ht; cases ht
 have hin : tIn L [⟨#[105, 110, 116]⟩, ⟨#[108, 111, 110, 103]⟩, ⟨#[102, 110]⟩] i = false := by simp [tIn, tIs_two ht h5, tIs_two ht h6, tIs_two ht h7]
 rw [statM, tIs_two ht h1, tIs_two ht h2, tIs_two ht h3, tIs_two ht h4, hin, hnm] at h
 unfold nameM at h
 simp [hnm] at h
theorem two_of {l : List Nd} (h1 : 2 ≤ l.length) (h2 : (2 : Int) < 0 ∨ (l.length : Int) ≤ 2) : ∃ a b, l = [a, b] := by
 rcases l with _ | ⟨a, _ | ⟨b, _ | ⟨x, l⟩⟩⟩
 ·simp at h1
 ·simp at h1
 ·exact ⟨a, b, rfl⟩
 ·simp at h2; omega
theorem flat_cons (k : Nd) (ks : List Nd) : ((k :: ks).map shw).flatten = shw k ++ (ks.map shw).flatten := rfl
theorem blk_back {F : Nat} : ∀ (ks : List Nd) (l : List Nd) (i g : Nat), (∀ k ∈ ks, ∀ i, Hs L i (shw k) → tIs L ⟨#[101, 108, 115, 101]⟩ (i + (shw k).length) = false → statM L F i = .ok k (i + (shw k).length)) →
 Hs L i ((ks.map shw).flatten ++ [⟨#[125]⟩]) → ks.length < g → blkM L (statM L F) g l i = .ok (.mk 13 ⟨#[]⟩ 0 (l ++ ks)) (i + (ks.map shw).flatten.length + 1)
 | [], l, i, g, hone, h, hg => by
  obtain ⟨g, rfl⟩ : ∃ m, g = m + 1 := ⟨g - 1, by omega⟩
  have h : Hs L i [⟨#[125]⟩] := h
  rw [blkM, if_pos (by rw [h.is]; decide), List.append_nil]
  rfl
 | k :: ks, l, i, g, hone, h, hg => by
  obtain ⟨g, rfl⟩ : ∃ m, g = m + 1 := ⟨g - 1, by omega⟩
  rw [flat_cons, List.append_assoc] at h
  obtain ⟨h1, h2⟩ := Hs.app.1 h
  have hr := blk_back ks (l ++ [k]) _ g (fun m hm => hone m (by simp [hm])) h2 (by simp at hg; omega)
  have hel : tIs L ⟨#[101, 108, 115, 101]⟩ (i + (shw k).length) = false := by
   rcases ht : tIs L ⟨#[101, 108, 115, 101]⟩ (i + (shw k).length) with _ | _
   ·rfl
   ·obtain ⟨g, rfl⟩ : ∃ m, g = m + 1 := ⟨g - 1, by simp at hg; omega⟩
    rw [blkM, tIs_two ht (by decide), if_neg (by simp)] at hr
    obtain ⟨y, k2, e, -⟩ := bind_okE hr
    exact absurd e (stat_bad ht (by decide) (by decide) (by decide) (by decide) (by decide) (by decide) (by decide) (by decide) _ _)
  have ho := hone k (by simp) i h1 hel
  have hne : tIs L ⟨#[125]⟩ i = false := by
   rcases ht : tIs L ⟨#[125]⟩ i with _ | _
   ·rfl
   ·exact absurd ho (stat_bad ht (by decide) (by decide) (by decide) (by decide) (by decide) (by decide) (by decide) (by decide) _ _)
  rw [blkM, hne, if_neg (by simp), ho, Res.bind_ok, hr, flat_cons]
  simp only [List.append_assoc, List.cons_append, List.nil_append, List.length_append]
  congr 1
  omega
theorem flat_len_ge : ∀ (ks : List Nd), (∀ k ∈ ks, k.k ≠ 1) → ks.length ≤ (ks.map shw).flatten.length
 | [], _ => by simp
 | k :: ks, h => by
  have h1 := shw_pos (n := k) (h k (by simp))
  have h2 := flat_len_ge ks (fun x hx => h x (by simp [hx]))
  rw [flat_cons, List.length_append, List.length_cons]
  omega
theorem flat_sub {x : Nd} : ∀ (l : List Nd), x ∈ l → (shw x).length ≤ (l.map shw).flatten.length
 | [], h => by cases h
 | y :: l, h => by
  rw [flat_cons, List.length_append]
  rcases List.mem_cons.1 h with rfl | h
  ·omega
  ·have := flat_sub l h; omega
theorem block_view {b : Nd} (hk : b.k = 13) (hn : isN b false = true) : ∃ ks, b = .mk 13 ⟨#[]⟩ 0 ks ∧ (∀ x ∈ ks, cls x.k = 3 ∧ isN x false = true) ∧ shw b = ⟨#[123]⟩ :: ((ks.map shw).flatten ++ [⟨#[125]⟩]) := by
 obtain ⟨k, t, num, kids⟩ := b
 have hk : k = 13 := hk
 subst hk
 have v := isN_view hn (show shp 13 = some ⟨false, 0, 0, -1⟩ from rfl)
 obtain rfl : num = 0 := num0 (show (13 : Int) ≠ 21 by decide) v.num
 obtain rfl : t = ⟨#[]⟩ := v.notxt rfl
 refine ⟨kids, rfl, fun x hx => ?_, shw_eq _⟩
 obtain ⟨j, hj, e⟩ := List.getElem_of_mem hx
 obtain ⟨a, b⟩ := v.kid j x (by show kids[j]? = _; rw [List.getElem?_eq_getElem hj, e])
 exact ⟨kid_cls a, b⟩
theorem block_back {F : Nat} {b : Nd} (hk : b.k = 13) (hn : isN b false = true) (hst : ∀ x ∈ b.kids, ∀ i, cls x.k = 3 → isN x false = true → Hs L i (shw x) → (shw x).length + 2 ≤ (shw b).length → tIs L ⟨#[101, 108, 115, 101]⟩ (i + (shw x).length) = false → statM L F i = .ok x (i + (shw x).length)) {i : Nat} (h : Hs L i (shw b)) :
 blockM L (statM L F) i = .ok b (i + (shw b).length) := by
 obtain ⟨ks, rfl, hks, hw⟩ := block_view hk hn
 rw [hw] at h hst ⊢
 have hlen : ks.length < L.length + 1 := by
  have a1 := flat_len_ge ks (fun x hx e => by have := (hks x hx).1; rw [e] at this; revert this; decide)
  have a2 := h.le (by simp)
  simp only [List.length_cons, List.length_append, List.length_nil] at a2
  omega
 unfold blockM
 rw [h.need (by decide), Res.bind_ok, blk_back ks [] (i + 1) (L.length + 1) (fun k hk i hh he => hst k hk i (hks k hk).1 (hks k hk).2 hh (by have := flat_sub ks hk; simp only [List.length_cons, List.length_append, List.length_nil]; omega) he) h.cons1 hlen]
 simp only [List.nil_append, List.length_cons, List.length_append, List.length_nil]
 congr 1
 omega
theorem spine_back : ∀ (N : Nat) (n : Nd), many n ≤ N → cls n.k = 4 → isN n false = true → ∀ calls, (baseN calls n).k = 23 → bindN n = 4 ∧ ∀ F i, Hs L i (shw n) → (shw n).length ≤ F + 1 → tNm L (i + (shw n).length) = false →
 tNm L i = true ∧ (∀ s, nameOf s = false → tIs L s i = false) ∧ tNm L (i + 1) = false ∧ ∃ c cd, c < (shw n).length ∧ (calls = false → cd = false) ∧ ∀ g, (nameM L i).bind (fun s j => simpleM L F (g + c) false (.mk 23 s 0 []) j) = simpleM L F g cd n (i + (shw n).length)
 | 0, n, hm, _, _, _, _ => by have := many_pos n; omega
 | N + 1, .mk k t num kids, hm, hc, hn, calls, hb => by
  have IH : ∀ x ∈ kids, cls x.k = 4 → isN x false = true → ∀ calls, (baseN calls x).k = 23 → _ := fun x hx a b => spine_back N x (by have := many_kid (n := .mk k t num kids) hx; omega) a b
  by_cases h23 : k = 23
  ·subst h23
   have v := isN_view hn (show shp 23 = some ⟨true, 0, 0, 0⟩ from rfl)
   obtain rfl : kids = [] := List.eq_nil_of_length_eq_zero (by have := v.most; simp [Nd.kids] at this; simp [this])
   obtain rfl : num = 0 := num0 (show (23 : Int) ≠ 21 by decide) v.num
   have ht : nameOf t = true := v.txt rfl
   refine ⟨rfl, fun F i h hF hx => ?_⟩
   have h : Hs L i [t] := h
   obtain ⟨h1, h2, h3⟩ := h.name ht
   exact ⟨h1, h3, hx, 0, false, shw_pos (n := .mk 23 t 0 []) (by show (23 : Int) ≠ 1; decide), fun _ => rfl, fun g => by rw [h2]; rfl⟩
  rcases kids with _ | ⟨m, ms⟩
  ·exact absurd hb h23
  have hh : headK calls k = true ∧ (baseN calls m).k = 23 := by
   rw [baseN] at hb
   split at hb
   ·rename_i hx; exact ⟨hx, hb⟩
   ·exact absurd hb h23
  obtain ⟨hh, hbm⟩ := hh
  have hk : k = 24 ∨ (calls = true ∧ k = 25) := by
   simp only [headK, Bool.or_eq_true, beq_iff_eq, Bool.and_eq_true] at hh
   exact hh
  rcases hk with rfl | ⟨rfl, rfl⟩
  ·have v := isN_view hn (show shp 24 = some ⟨true, 0, 1, 1⟩ from rfl)
   obtain ⟨m', e⟩ := one_of v.least (by have := v.most; simpa using this)
   have e : m :: ms = [m'] := e
   injection e with e1 e2
   subst e1 e2
   obtain rfl : num = 0 := num0 (show (24 : Int) ≠ 21 by decide) v.num
   have ht : nameOf t = true := v.txt rfl
   obtain ⟨mb, ih⟩ := IH m (by simp) (kid_one v rfl rfl).1 (kid_one v rfl rfl).2 calls hbm
   refine ⟨rfl, fun F i h hF hx => ?_⟩
   have hw : shw (.mk 24 t 0 [m]) = shw m ++ [⟨#[46]⟩, t] := by
    rw [shw_eq]
    show atW 4 (bindN m) (shw m) ++ [⟨#[46]⟩, t] = _
    rw [show atW 4 (bindN m) (shw m) = shw m from if_neg (by omega)]
   rw [hw] at h hF hx ⊢
   obtain ⟨ha, hb2⟩ := Hs.app.1 h
   simp only [List.length_append, List.length_cons, List.length_nil] at hF hx ⊢
   obtain ⟨p1, p2, p3, c, cd, q1, q2, q3⟩ := ih F i ha (by omega) (by rw [hb2.nm]; decide)
   refine ⟨p1, p2, p3, c + 1, cd, by omega, q2, fun g => ?_⟩
   rw [show g + (c + 1) = g + 1 + c by omega, q3 (g + 1), simpleM, if_pos (by rw [hb2.is]; decide), (hb2.cons1.name ht).2.1, Res.bind_ok]
   rfl
  ·have v := isN_view hn (show shp 25 = some ⟨false, 0, 1, -1⟩ from rfl)
   obtain rfl : t = ⟨#[]⟩ := v.notxt rfl
   obtain rfl : num = 0 := num0 (show (25 : Int) ≠ 21 by decide) v.num
   have hkid : ∀ x ∈ m :: ms, cls x.k = 4 ∧ isN x false = true := fun x hx => by
    obtain ⟨j, hj, e⟩ := List.getElem_of_mem hx
    obtain ⟨a, b⟩ := v.kid j x (by show (m :: ms)[j]? = _; rw [List.getElem?_eq_getElem hj, e])
    exact ⟨kid_cls a, b⟩
   obtain ⟨mb, ih⟩ := IH m (by simp) (hkid m (by simp)).1 (hkid m (by simp)).2 true hbm
   refine ⟨rfl, fun F i h hF hx => ?_⟩
   have hw : shw (.mk 25 ⟨#[]⟩ 0 (m :: ms)) = shw m ++ rowW (ms.map shw) false := by
    rw [shw_eq]
    show atW 4 (bindN m) (shw m) ++ rowW (ms.map shw) false = _
    rw [show atW 4 (bindN m) (shw m) = shw m from if_neg (by omega)]
   rw [hw] at h hF hx ⊢
   obtain ⟨ha, hb2⟩ := Hs.app.1 h
   have hb' : Hs L (i + (shw m).length) (⟨#[40]⟩ :: (commas (ms.map shw ++ []) ++ [⟨#[41]⟩])) := hb2
   simp only [List.length_append] at hF hx ⊢
   have hm1 := shw_pos (n := m) (fun e => by have := (hkid m (by simp)).1; rw [e] at this; revert this; decide)
   have hsub : ∀ x ∈ ms, (shw x).length + 2 ≤ (rowW (ms.map shw) false).length := fun x hx => by
    have := commas_sub ms [] hx
    show _ ≤ (⟨#[40]⟩ :: (commas (ms.map shw ++ []) ++ [⟨#[41]⟩])).length
    simp only [List.length_cons, List.length_append, List.length_nil]
    omega
   have hr2 : 2 ≤ (rowW (ms.map shw) false).length := by
    show _ ≤ (⟨#[40]⟩ :: (commas (ms.map shw ++ []) ++ [⟨#[41]⟩])).length
    simp
   obtain ⟨p1, p2, p3, c, cd, q1, q2, q3⟩ := ih F i ha (by omega) (by rw [hb'.nm]; decide)
   refine ⟨p1, p2, p3, c + 1, true, by omega, (fun e => by cases e), fun g => ?_⟩
   have hlist := list_back (L := L) (one := exprM L (unaryM L F)) (many := false) (dots := false) (fun h => by cases h) (fun i x j e => expr_lead e) ms (fun x hx e => by have := (hkid x (by simp [hx])).1; rw [e] at this; revert this; decide)
    (fun x hx i w ws hh hww => (rdE_all _ x (Nat.le_refl _) (hkid x (by simp [hx])).1 (hkid x (by simp [hx])).2).e0 F i (Hs.app.1 hh).1 (by have := hsub x hx; omega) ((Hs.app.1 hh).2.stop (by rcases hww with rfl | rfl <;> decide))) hb2
   rw [show g + (c + 1) = g + 1 + c by omega, q3 (g + 1), simpleM, if_neg (by rw [hb'.is]; decide), if_pos (by rw [hb'.is]; decide)]
   unfold callM
   rw [hlist, Res.bind_ok, Res.bind_ok, Nat.add_assoc]
theorem closed_back {n : Nd} {i : Nat} {ws : List ByteArray} (h : Hs L i (⟨#[59]⟩ :: ws)) : closedM L n i = .ok n (i + 1) := by
 unfold closedM
 rw [h.need (by decide)]
 rfl
theorem stat_back : ∀ (N : Nat) (n : Nd), many n ≤ N → cls n.k = 3 → isN n false = true → ∀ F i, Hs L i (shw n) → (shw n).length ≤ F → tIs L ⟨#[101, 108, 115, 101]⟩ (i + (shw n).length) = false → statM L F i = .ok n (i + (shw n).length)
 | 0, n, hm, _, _, _, _, _, _, _ => by have := many_pos n; omega
 | N + 1, .mk k t num kids, hm, hc, hn, F, i, h, hF, hel => by
  have hk : k = 14 ∨ k = 15 ∨ k = 16 ∨ k = 17 ∨ k = 18 ∨ k = 19 ∨ k = 20 := by
   have hc : cls k = 3 := hc
   unfold cls at hc
   repeat' split at hc
   all_goals omega
  obtain ⟨F, rfl⟩ : ∃ m, F = m + 1 := ⟨F - 1, by have := shw_pos (n := .mk k t num kids) (by show k ≠ 1; omega); omega⟩
  have IHB : ∀ b ∈ kids, b.k = 13 → isN b false = true → (shw b).length ≤ F → ∀ i, Hs L i (shw b) → blockM L (statM L F) i = .ok b (i + (shw b).length) := fun b hb hk hn hF i h =>
   block_back hk hn (fun x hx i c1 c2 hh hl he => stat_back N x (by have := many_kid (n := .mk k t num kids) hb; have := many_kid hx; omega) c1 c2 F i hh (by omega) he) h
  have two : ∀ a b : Nd, kids = [a, b] → a ∈ kids ∧ b ∈ kids := fun a b e => by rw [e]; simp
  rcases hk with rfl | rfl | rfl | rfl | rfl | rfl | rfl
  ·-- a variable
   have v := isN_view hn (show shp 14 = some ⟨true, 0, 2, 2⟩ from rfl)
   obtain rfl : num = 0 := num0 (show (14 : Int) ≠ 21 by decide) v.num
   have ht : nameOf t = true := v.txt rfl
   obtain ⟨a, b, rfl⟩ := two_of v.least v.most
   obtain ⟨ka, kb⟩ := v.kid 0 a rfl
   obtain ⟨la, lb⟩ := v.kid 1 b rfl
   have hw : shw (.mk 14 t 0 [a, b]) = shw a ++ (t :: ⟨#[61]⟩ :: (shw b ++ [⟨#[59]⟩])) := by
    rw [shw_eq]
    show shw a ++ [t, ⟨#[61]⟩] ++ shw b ++ [⟨#[59]⟩] = _
    simp
   rw [hw] at h hF ⊢
   obtain ⟨h1, h2⟩ := Hs.app.1 h
   obtain ⟨h3, h4⟩ := Hs.app.1 h2.cons1.cons1
   simp only [List.length_append, List.length_cons, List.length_nil] at hF ⊢
   have e1 := typ_back _ a (Nat.le_refl _) (kid_cls ka) kb F i h1 (by omega)
   have e2 := (rdE_all (L := L) _ b (Nat.le_refl _) (kid_cls la) lb).e0 F _ h3 (by omega) (h4.stop (by decide))
   have hcond : tIn L [⟨#[105, 110, 116]⟩, ⟨#[108, 111, 110, 103]⟩, ⟨#[102, 110]⟩] i = true ∨ (tNm L i = true ∧ tNm L (i + 1) = true) := by
    rcases typ_cases e1 with h | ⟨h, hj⟩
    ·exact .inl h
    ·exact .inr ⟨h, by rw [← hj]; exact (h2.name ht).1⟩
   rw [statM, if_neg (by rw [typ_first e1 (by decide) (by decide) (by decide) (by decide)]; simp), if_neg (by rw [typ_first e1 (by decide) (by decide) (by decide) (by decide)]; simp), if_neg (by rw [typ_first e1 (by decide) (by decide) (by decide) (by decide)]; simp), if_neg (by rw [typ_first e1 (by decide) (by decide) (by decide) (by decide)]; simp), if_pos hcond,
    e1, Res.bind_ok, (h2.name ht).2.1, Res.bind_ok, h2.cons1.need (by decide), Res.bind_ok]
   unfold exprF
   rw [e2, Res.bind_ok, closed_back h4]
   congr 1
   omega
  ·-- a place set
   have v := isN_view hn (show shp 15 = some ⟨false, 0, 2, 2⟩ from rfl)
   obtain rfl : num = 0 := num0 (show (15 : Int) ≠ 21 by decide) v.num
   obtain rfl : t = ⟨#[]⟩ := v.notxt rfl
   obtain ⟨a, b, rfl⟩ := two_of v.least v.most
   obtain ⟨m, ms, e, hbase⟩ := v.set rfl
   have e : [a, b] = m :: ms := e
   injection e with e1 e2
   subst e1
   obtain ⟨ka, kb⟩ := v.kid 0 a rfl
   obtain ⟨la, lb⟩ := v.kid 1 b rfl
   have hw : shw (.mk 15 ⟨#[]⟩ 0 [a, b]) = shw a ++ (⟨#[61]⟩ :: (shw b ++ [⟨#[59]⟩])) := by
    rw [shw_eq]
    show shw a ++ [⟨#[61]⟩] ++ shw b ++ [⟨#[59]⟩] = _
    simp
   rw [hw] at h hF ⊢
   obtain ⟨h1, h2⟩ := Hs.app.1 h
   obtain ⟨h3, h4⟩ := Hs.app.1 h2.cons1
   simp only [List.length_append, List.length_cons, List.length_nil] at hF ⊢
   obtain ⟨-, sp⟩ := spine_back (L := L) _ a (Nat.le_refl _) (kid_cls ka) kb false hbase
   obtain ⟨p1, p2, p3, c, cd, q1, q2, q3⟩ := sp F i h1 (by omega) (by rw [h2.nm]; decide)
   obtain rfl := q2 rfl
   have e2 := (rdE_all (L := L) _ b (Nat.le_refl _) (kid_cls la) lb).e0 F _ h3 (by omega) (h4.stop (by decide))
   have hle := h1.le (fun e0 => by rw [e0] at q1; simp at q1)
   have q4 := q3 (L.length - c + 1)
   rw [show L.length - c + 1 + c = L.length + 1 by omega] at q4
   rw [statM, if_neg (by rw [p2 _ (by decide)]; simp), if_neg (by rw [p2 _ (by decide)]; simp), if_neg (by rw [p2 _ (by decide)]; simp), if_neg (by rw [p2 _ (by decide)]; simp), if_neg (by simp [tIn, p2 ⟨#[105, 110, 116]⟩ (by decide), p2 ⟨#[108, 111, 110, 103]⟩ (by decide), p2 ⟨#[102, 110]⟩ (by decide), p3]), q4, simpleM, if_neg (by rw [h2.is]; decide), if_neg (by rw [h2.is]; decide), if_pos ⟨rfl, by rw [h2.is]; decide⟩]
   unfold exprF
   rw [e2, Res.bind_ok, closed_back h4]
   congr 1
   omega
  ·-- if
   have v := isN_view hn (show shp 16 = some ⟨false, 0, 2, 3⟩ from rfl)
   obtain rfl : num = 0 := num0 (show (16 : Int) ≠ 21 by decide) v.num
   obtain rfl : t = ⟨#[]⟩ := v.notxt rfl
   have v2 : 2 ≤ kids.length := v.least
   have v3 : (kids.length : Int) ≤ 3 := by
    rcases v.most with h | h
    ·exact absurd (show (3 : Int) < 0 from h) (by decide)
    ·exact h
   rcases kids with _ | ⟨a, _ | ⟨b, _ | ⟨c, _ | ⟨x, l⟩⟩⟩⟩
   ·simp at v2
   ·simp at v2
   ·obtain ⟨ka, kb⟩ := v.kid 0 a rfl
    obtain ⟨la, lb⟩ := v.kid 1 b rfl
    have hw : shw (.mk 16 ⟨#[]⟩ 0 [a, b]) = ⟨#[105, 102]⟩ :: ((⟨#[40]⟩ :: (shw a ++ [⟨#[41]⟩])) ++ shw b) := by
     rw [shw_eq]
     show [⟨#[105, 102]⟩, ⟨#[40]⟩] ++ shw a ++ [⟨#[41]⟩] ++ shw b ++ [] = _
     simp
    rw [hw] at h hF hel ⊢
    obtain ⟨h1, h2⟩ := Hs.app.1 h.cons1
    have hlp : (⟨#[40]⟩ :: (shw a ++ [⟨#[41]⟩])).length = (shw a).length + 2 := by simp
    rw [hlp] at h2
    simp only [List.length_append, List.length_cons, List.length_nil] at hF hel ⊢
    have hra := (rdE_all (L := L) _ a (Nat.le_refl _) (kid_cls ka) kb)
    rw [statM, if_pos (by rw [h.is]; decide), round_back (n := a) h1 (fun i p q => hra.e0 F i p (by omega) q), Res.bind_ok, IHB b (by simp) (kid_part (by decide) (by decide) la) lb (by omega) _ h2, Res.bind_ok,
     if_neg (by rw [show i + 1 + ((shw a).length + 2) + (shw b).length = i + ((shw a).length + (0 + 1) + 1 + (shw b).length + 1) by omega, hel]; simp)]
    congr 1
    omega
   ·obtain ⟨ka, kb⟩ := v.kid 0 a rfl
    obtain ⟨la, lb⟩ := v.kid 1 b rfl
    obtain ⟨ma, mb⟩ := v.kid 2 c rfl
    have hw : shw (.mk 16 ⟨#[]⟩ 0 [a, b, c]) = ⟨#[105, 102]⟩ :: ((⟨#[40]⟩ :: (shw a ++ [⟨#[41]⟩])) ++ (shw b ++ (⟨#[101, 108, 115, 101]⟩ :: shw c))) := by
     rw [shw_eq]
     show [⟨#[105, 102]⟩, ⟨#[40]⟩] ++ shw a ++ [⟨#[41]⟩] ++ shw b ++ (⟨#[101, 108, 115, 101]⟩ :: shw c) = _
     simp
    rw [hw] at h hF ⊢
    obtain ⟨h1, h2⟩ := Hs.app.1 h.cons1
    have hlp : (⟨#[40]⟩ :: (shw a ++ [⟨#[41]⟩])).length = (shw a).length + 2 := by simp
    rw [hlp] at h2
    obtain ⟨h3, h4⟩ := Hs.app.1 h2
    simp only [List.length_append, List.length_cons, List.length_nil] at hF ⊢
    have hra := (rdE_all (L := L) _ a (Nat.le_refl _) (kid_cls ka) kb)
    rw [statM, if_pos (by rw [h.is]; decide), round_back (n := a) h1 (fun i p q => hra.e0 F i p (by omega) q), Res.bind_ok, IHB b (by simp) (kid_part (by decide) (by decide) la) lb (by omega) _ h3, Res.bind_ok,
     if_pos (by rw [h4.is]; decide), IHB c (by simp) (kid_part (by decide) (by decide) ma) mb (by omega) _ h4.cons1, Res.bind_ok]
    congr 1
    omega
   ·simp at v3; omega
  ·-- while
   have v := isN_view hn (show shp 17 = some ⟨false, 0, 2, 2⟩ from rfl)
   obtain rfl : num = 0 := num0 (show (17 : Int) ≠ 21 by decide) v.num
   obtain rfl : t = ⟨#[]⟩ := v.notxt rfl
   obtain ⟨a, b, rfl⟩ := two_of v.least v.most
   obtain ⟨ka, kb⟩ := v.kid 0 a rfl
   obtain ⟨la, lb⟩ := v.kid 1 b rfl
   have hw : shw (.mk 17 ⟨#[]⟩ 0 [a, b]) = ⟨#[119, 104, 105, 108, 101]⟩ :: ((⟨#[40]⟩ :: (shw a ++ [⟨#[41]⟩])) ++ shw b) := by
    rw [shw_eq]
    show [⟨#[119, 104, 105, 108, 101]⟩, ⟨#[40]⟩] ++ shw a ++ [⟨#[41]⟩] ++ shw b ++ [] = _
    simp
   rw [hw] at h hF hel ⊢
   obtain ⟨h1, h2⟩ := Hs.app.1 h.cons1
   have hlp : (⟨#[40]⟩ :: (shw a ++ [⟨#[41]⟩])).length = (shw a).length + 2 := by simp
   rw [hlp] at h2
   simp only [List.length_append, List.length_cons, List.length_nil] at hF hel ⊢
   have hra := (rdE_all (L := L) _ a (Nat.le_refl _) (kid_cls ka) kb)
   rw [statM, if_neg (by rw [h.is]; decide), if_pos (by rw [h.is]; decide), round_back (n := a) h1 (fun i p q => hra.e0 F i p (by omega) q), Res.bind_ok, IHB b (by simp) (kid_part (by decide) (by decide) la) lb (by omega) _ h2, Res.bind_ok]
   congr 1
   omega
  ·-- return
   have v := isN_view hn (show shp 18 = some ⟨false, 0, 1, 1⟩ from rfl)
   obtain rfl : num = 0 := num0 (show (18 : Int) ≠ 21 by decide) v.num
   obtain rfl : t = ⟨#[]⟩ := v.notxt rfl
   obtain ⟨a, rfl⟩ := one_of v.least (by have := v.most; simpa using this)
   have hra := rdE_all (L := L) _ a (Nat.le_refl _) (kid_one v rfl rfl).1 (kid_one v rfl rfl).2
   have hw : shw (.mk 18 ⟨#[]⟩ 0 [a]) = ⟨#[114, 101, 116, 117, 114, 110]⟩ :: (shw a ++ [⟨#[59]⟩]) := shw_eq _
   rw [hw] at h hF ⊢
   obtain ⟨h1, h2⟩ := Hs.app.1 h.cons1
   simp only [List.length_append, List.length_cons, List.length_nil] at hF ⊢
   rw [statM, if_neg (by rw [h.is]; decide), if_neg (by rw [h.is]; decide), if_pos (by rw [h.is]; decide)]
   unfold exprF
   rw [hra.e0 F _ h1 (by omega) (h2.stop (by decide)), Res.bind_ok, closed_back h2]
   unfold oneM
   congr 1
   omega
  ·-- put
   have v := isN_view hn (show shp 19 = some ⟨false, 0, 1, 1⟩ from rfl)
   obtain rfl : num = 0 := num0 (show (19 : Int) ≠ 21 by decide) v.num
   obtain rfl : t = ⟨#[]⟩ := v.notxt rfl
   obtain ⟨a, rfl⟩ := one_of v.least (by have := v.most; simpa using this)
   have hra := rdE_all (L := L) _ a (Nat.le_refl _) (kid_one v rfl rfl).1 (kid_one v rfl rfl).2
   have hw : shw (.mk 19 ⟨#[]⟩ 0 [a]) = ⟨#[112, 117, 116]⟩ :: (⟨#[40]⟩ :: (shw a ++ ⟨#[41]⟩ :: [⟨#[59]⟩])) := by
    rw [shw_eq]
    show [⟨#[112, 117, 116]⟩, ⟨#[40]⟩] ++ shw a ++ [⟨#[41]⟩, ⟨#[59]⟩] = _
    simp
   rw [hw] at h hF ⊢
   have h2 : Hs L (i + 1 + ((shw a).length + 2)) [⟨#[59]⟩] := by
    have := (Hs.app.1 h.cons1.cons1).2.cons1
    rwa [show i + 1 + ((shw a).length + 2) = i + 1 + 1 + (shw a).length + 1 by omega]
   simp only [List.length_append, List.length_cons, List.length_nil] at hF ⊢
   rw [statM, if_neg (by rw [h.is]; decide), if_neg (by rw [h.is]; decide), if_neg (by rw [h.is]; decide), if_pos (by rw [h.is]; decide), round_back (n := a) h.cons1 (fun i p q => hra.e0 F i p (by omega) q), Res.bind_ok, closed_back h2]
   unfold oneM
   congr 1
   omega
  ·-- a call alone
   have v := isN_view hn (show shp 20 = some ⟨false, 0, 1, 1⟩ from rfl)
   obtain rfl : num = 0 := num0 (show (20 : Int) ≠ 21 by decide) v.num
   obtain rfl : t = ⟨#[]⟩ := v.notxt rfl
   obtain ⟨a, rfl⟩ := one_of v.least (by have := v.most; simpa using this)
   obtain ⟨m, ms, e, hk25, hbase⟩ := v.do_ rfl
   have e : [a] = m :: ms := e
   injection e with e1 e2
   subst e1
   have hw : shw (.mk 20 ⟨#[]⟩ 0 [a]) = shw a ++ [⟨#[59]⟩] := shw_eq _
   rw [hw] at h hF ⊢
   obtain ⟨h1, h2⟩ := Hs.app.1 h
   simp only [List.length_append, List.length_cons, List.length_nil] at hF ⊢
   obtain ⟨-, sp⟩ := spine_back (L := L) _ a (Nat.le_refl _) (kid_one v rfl rfl).1 (kid_one v rfl rfl).2 true hbase
   obtain ⟨p1, p2, p3, c, cd, q1, q2, q3⟩ := sp F i h1 (by omega) (by rw [h2.nm]; decide)
   have hle := h1.le (fun e0 => by rw [e0] at q1; simp at q1)
   have q4 := q3 (L.length - c + 1)
   rw [show L.length - c + 1 + c = L.length + 1 by omega] at q4
   rw [statM, if_neg (by rw [p2 _ (by decide)]; simp), if_neg (by rw [p2 _ (by decide)]; simp), if_neg (by rw [p2 _ (by decide)]; simp), if_neg (by rw [p2 _ (by decide)]; simp), if_neg (by simp [tIn, p2 ⟨#[105, 110, 116]⟩ (by decide), p2 ⟨#[108, 111, 110, 103]⟩ (by decide), p2 ⟨#[102, 110]⟩ (by decide), p3]), q4, simpleM, if_neg (by rw [h2.is]; decide), if_neg (by rw [h2.is]; decide), if_neg (fun e => by have := e.2; rw [h2.is] at this; revert this; decide), if_pos hk25, closed_back h2]
   rfl
end
end Go.Proofs.YtgegfbopogcjpaaGreatDoor
namespace Go.Proofs.YtgegfbopogcjpaaGreatDoor
set_option linter.unusedVariables false
set_option linter.unusedSimpArgs false
def Short (l : List ByteArray) : Prop := ∀ x ∈ l, x.size ≤ 20
theorem Short.nil : Short [] := fun x h => by cases h
theorem Short.cons {a : ByteArray} {l : List ByteArray} (h : a.size ≤ 20) (hl : Short l) : Short (a :: l) := fun x hx => by
 rcases List.mem_cons.1 hx with rfl | hx
 ·exact h
 ·exact hl x hx
theorem Short.app {l r : List ByteArray} (hl : Short l) (hr : Short r) : Short (l ++ r) := fun x hx => by
 rcases List.mem_append.1 hx with h | h
 ·exact hl x h
 ·exact hr x h
theorem Short.flat {ws : List (List ByteArray)} (h : ∀ l ∈ ws, Short l) : Short ws.flatten := fun x hx => by
 obtain ⟨l, hl, hxl⟩ := List.mem_flatten.1 hx
 exact h l hl x hxl
theorem Short.nth {ws : List (List ByteArray)} (h : ∀ l ∈ ws, Short l) (i : Nat) : Short (nthW ws i) := by
 unfold nthW
 rcases hi : ws[i]? with _ | l
 ·exact Short.nil
 ·exact h l (List.mem_of_getElem? hi)
theorem Short.comma : ∀ {ws : List (List ByteArray)}, (∀ l ∈ ws, Short l) → Short (commas ws)
 | [], _ => Short.nil
 | [l], h => by rw [commas]; exact h l (by simp)
 | l :: m :: ws, h => by
  rw [commas]
  exact (h l (by simp)).app (.cons (by decide) (Short.comma fun x hx => h x (List.mem_cons_of_mem _ hx)))
theorem Short.row {ws : List (List ByteArray)} (h : ∀ l ∈ ws, Short l) (d : Bool) : Short (rowW ws d) := by
 unfold rowW
 refine .cons (by decide) (.app (Short.comma ?_) (.cons (by decide) .nil))
 intro l hl
 rcases List.mem_append.1 hl with h' | h'
 ·exact h l h'
 ·cases d
  ·simp at h'
  ·simp at h'; subst h'; exact .cons (by decide) .nil
theorem Short.at {least b : Int} {l : List ByteArray} (h : Short l) : Short (atW least b l) := by
 unfold atW
 split
 ·exact .cons (by decide) (h.app (.cons (by decide) .nil))
 ·exact h
theorem Short.ite {c : Prop} [Decidable c] {a b : List ByteArray} (h1 : c → Short a) (h2 : ¬ c → Short b) : Short (if c then a else b) := by
 split
 ·exact h1 ‹_›
 ·exact h2 ‹_›
theorem Short.stat (num : Int) : Short (statW num) := by
 unfold statW
 exact .ite (fun _ => .cons (by decide) .nil) (fun _ => .nil)
theorem sgnT_short (op : Int) : (sgnT op).size ≤ 20 := by
 unfold sgnT
 rcases hs : sgn op with _ | x
 ·decide
 ·unfold sgn at hs
  repeat' split at hs
  all_goals simp at hs
  all_goals (subst hs; decide)
theorem nDig_le : ∀ (m u : Nat), u < 10 ^ (m + 1) → Lib.nDigits u ≤ m + 1
 | 0, u, h => by rw [Lib.nDigits_small (by simpa using h)]; omega
 | m + 1, u, h => by
  by_cases hs : u < 10
  ·rw [Lib.nDigits_small hs]; omega
  ·rw [Lib.nDigits_big hs]
   have := nDig_le m (u / 10) (by rw [Nat.pow_succ] at h; omega)
   omega
theorem Short.num {k num : Int} (h : num.natAbs ≤ 9223372036854775807) : Short (numT k num) := by
 unfold numT
 refine .app (.ite (fun _ => .cons (by decide) .nil) (fun _ => .nil)) (.cons ?_ .nil)
 have h1 : (Lib.decDigits num.natAbs).length ≤ 19 := by
  rw [Lib.decDigits_length]
  exact nDig_le 18 _ (by omega)
 show (digsN num.natAbs ++ if k = 22 then [76] else []).toArray.size ≤ 20
 unfold digsN
 simp only [List.size_toArray, List.length_append]
 split <;> simp <;> omega
theorem isNL_mem {k : Int} {len : Nat} : ∀ (l : List Nd) (i : Nat), isNL k i len l = true → ∀ m ∈ l, ∃ f, isN m f = true
 | [], i, h, m, hm => by cases hm
 | n :: l, i, h, m, hm => by
  rw [isNL] at h
  simp only [Bool.and_eq_true] at h
  rcases List.mem_cons.1 hm with rfl | hm
  ·exact ⟨_, h.1.2⟩
  ·exact isNL_mem l (i + 1) h.2 m hm
theorem isN_parts {n : Nd} {f : Bool} (h : isN n f = true) : ∃ s, shp n.k = some s ∧ (s.text = true → nameOf n.t = true) ∧ numB n.k n.num s.num f = true ∧ isNL n.k 0 n.kids.length n.kids = true := by
 cases n with
 | mk k t num kids =>
  unfold isN at h
  simp only [Nd.k, Nd.t, Nd.num, Nd.kids]
  rcases hs : shp k with _ | s
  ·rw [hs] at h; cases h
  ·rw [hs] at h
   simp only [Bool.and_eq_true] at h
   exact ⟨s, rfl, fun ht => by have := h.1.1.1.1.1.2; rw [ht] at this; simpa using this, h.1.1.1.1.2, h.2⟩
theorem numB_abs {k num nm : Int} {f : Bool} (h : numB k num nm f = true) : num.natAbs ≤ 9223372036854775807 := by
 unfold numB at h
 simp only [Bool.and_eq_true, decide_eq_true_eq] at h
 obtain ⟨⟨⟨h1, h2⟩, -⟩, -⟩ := h
 split at h1 <;> split at h2 <;> omega
theorem shw_short : ∀ (N : Nat) (n : Nd), many n ≤ N → ∀ f, isN n f = true → Short (shw n)
 | 0, n, h => absurd h (by have := many_pos n; omega)
 | N + 1, n, h => by
  intro f hn
  obtain ⟨s, hs, ht, hnum, hl⟩ := isN_parts hn
  have IH : ∀ l ∈ n.kids.map shw, Short l := by
   intro l hl'
   obtain ⟨m, hm, rfl⟩ := List.mem_map.1 hl'
   obtain ⟨f', hf'⟩ := isNL_mem _ _ hl m hm
   exact shw_short N m (by have := many_kid hm; omega) f' hf'
  have IHd : ∀ l ∈ (n.kids.map shw).dropLast, Short l := fun l hl' => IH l ((List.dropLast_sublist _).subset hl')
  have IHdd : ∀ l ∈ (n.kids.map shw).dropLast.dropLast, Short l := fun l hl' => IHd l ((List.dropLast_sublist _).subset hl')
  have IHt : ∀ l ∈ (n.kids.map shw).tail, Short l := fun l hl' => IH l (List.mem_of_mem_tail hl')
  have htx : s.text = true → n.t.size ≤ 20 := fun h => by have := (name_false (ht h)).2.1; omega
  have hna := numB_abs hnum
  rw [shw_eq]
  generalize n.kids.map shw = ws at *
  generalize n.kids.map bindN = bs at *
  unfold shwK
  dsimp only
  have hk : ∀ c : Bool, ((shp n.k).map (·.text)) = some c → c = true → n.t.size ≤ 20 := fun c h1 h2 => by
   rw [hs] at h1
   exact htx (by simp at h1; rw [h1]; exact h2)
  refine .ite (fun h => .flat IH) fun h1 => ?_
  refine .ite (fun h => .app (.app (.cons (by decide) (.cons (hk true (by rw [h]; rfl) rfl) (.cons (by decide) .nil))) (.flat IH)) (.cons (by decide) .nil)) fun h2 => ?_
  refine .ite (fun h => .app (.nth IH _) (.cons (hk true (by rw [h]; rfl) rfl) (.cons (by decide) .nil))) fun h3 => ?_
  refine .ite (fun h => .app (.nth IH _) (.cons (hk true (by rw [h]; rfl) rfl) .nil)) fun h8 => ?_
  refine .ite (fun h => .cons (by decide) (.app (.nth IH _) (.cons (hk true (by rw [h]; rfl) rfl) (.cons (by decide) .nil)))) fun h5 => ?_
  refine .ite (fun h => .cons (by decide) (.app (.app (.app (.nth IH _) (.cons (hk true (by rw [h]; rfl) rfl) .nil)) (.row IHd _)) (.cons (by decide) .nil))) fun h4 => ?_
  refine .ite (fun h => .app (.app (.app (.app (.stat _) (.nth IH _)) (.cons (hk true (by rw [h]; rfl) rfl) (.cons (by decide) .nil))) (.nth IH _)) (.cons (by decide) .nil)) fun h6 => ?_
  refine .ite (fun h => .app (.app (.app (.app (.stat _) (.nth IH _)) (.cons (hk true (by rw [h]; rfl) rfl) .nil)) (.row IHdd _)) (.nth IH _)) fun h7 => ?_
  refine .ite (fun h => .cons (by decide) .nil) fun h9 => ?_
  refine .ite (fun h => .cons (by decide) .nil) fun h10 => ?_
  refine .ite (fun h => .cons (hk true (by rcases h with h | h <;> rw [h] <;> rfl) rfl) .nil) fun h11 => ?_
  refine .ite (fun h => .cons (by decide) (.app (.row IHd _) (.nth IH _))) fun h12 => ?_
  refine .ite (fun h => .cons (by decide) (.app (.flat IH) (.cons (by decide) .nil))) fun h13 => ?_
  refine .ite (fun h => .app (.app (.app (.nth IH _) (.cons (hk true (by rw [h]; rfl) rfl) (.cons (by decide) .nil))) (.nth IH _)) (.cons (by decide) .nil)) fun h14 => ?_
  refine .ite (fun h => .app (.app (.app (.nth IH _) (.cons (by decide) .nil)) (.nth IH _)) (.cons (by decide) .nil)) fun h15 => ?_
  refine .ite (fun h => .app (.app (.app (.app (.cons (by split <;> decide) (.cons (by decide) .nil)) (.nth IH _)) (.cons (by decide) .nil)) (.nth IH _)) (.ite (fun _ => .cons (by decide) (.nth IH _)) (fun _ => .nil))) fun h16 => ?_
  refine .ite (fun h => .cons (by decide) (.app (.nth IH _) (.cons (by decide) .nil))) fun h18 => ?_
  refine .ite (fun h => .app (.app (.cons (by decide) (.cons (by decide) .nil)) (.nth IH _)) (.cons (by decide) (.cons (by decide) .nil))) fun h19 => ?_
  refine .ite (fun h => .app (.nth IH _) (.cons (by decide) .nil)) fun h20 => ?_
  refine .ite (fun h => .num hna) fun h21 => ?_
  refine .ite (fun h => .app (.at (.nth IH _)) (.cons (by decide) (.cons (hk true (by rw [h]; rfl) rfl) .nil))) fun h24 => ?_
  refine .ite (fun h => .app (.at (.nth IH _)) (.row IHt _)) fun h25 => ?_
  refine .ite (fun h => .cons (by decide) (.cons (hk true (by rw [h]; rfl) rfl) .nil)) fun h26 => ?_
  refine .ite (fun h => .app (.app (.cons (hk true (by rw [h]; rfl) rfl) (.cons (by decide) .nil)) (.comma IH)) (.cons (by decide) .nil)) fun h27 => ?_
  refine .ite (fun h => .cons (by decide) (.at (.nth IH _))) fun h28 => ?_
  refine .ite (fun h => .cons (by decide) (.at (.nth IH _))) fun h29 => ?_
  refine .ite (fun h => .app (.app (.cons (by decide) (.cons (by decide) .nil)) (.nth IH _)) (.cons (by decide) .nil)) fun h30 => ?_
  refine .ite (fun h => .app (.app (.cons (by decide) (.cons (by decide) .nil)) (.nth IH _)) (.cons (by decide) .nil)) fun h31 => ?_
  refine .ite (fun h => .app (.app (.cons (by decide) (.cons (by decide) .nil)) (.nth IH _)) (.cons (by decide) .nil)) fun h34 => ?_
  refine .ite (fun h => .cons (by decide) .nil) fun h33 => ?_
  exact .app (.app (.at (.nth IH _)) (.cons (sgnT_short _) .nil)) (.at (.nth IH _))
theorem join_short : ∀ (l : List ByteArray), Short l → (joinW l).length ≤ 21 * l.length
 | [], _ => by simp [joinW]
 | [a], h => by
  have := h a (by simp)
  rw [joinW]
  simp only [Array.length_toList, ByteArray.size_data, List.length_cons, List.length_nil]
  omega
 | a :: b :: l, h => by
  have h1 := h a (by simp)
  have h2 := join_short (b :: l) (fun x hx => h x (List.mem_cons_of_mem _ hx))
  rw [joinW]
  simp only [List.length_append, List.length_cons, Array.length_toList, ByteArray.size_data] at h2 ⊢
  omega
end Go.Proofs.YtgegfbopogcjpaaGreatDoor
namespace Go.Proofs.YtgegfbopogcjpaaGreatDoor
set_option linter.unusedVariables false
set_option linter.unusedSimpArgs false
set_option maxRecDepth 100000
def okW (w : ByteArray) : Bool := (letterI (byteI w 0) && decide (1 ≤ w.size) && decide (w.size ≤ 16) && (List.range w.size).all fun i => chrI (byteI w i)) || (!letterI (byteI w 0) && !digitI (byteI w 0) && (decide (w = ⟨#[46, 46, 46]⟩) || decide (w = ⟨#[61, 61]⟩) || oneSigns.any fun b => decide (w = ⟨#[b]⟩)))
theorem wl {w : ByteArray} (h : okW w = true) : WOk w := by
 simp only [okW, Bool.or_eq_true, Bool.and_eq_true, decide_eq_true_eq, List.all_eq_true, List.mem_range, Bool.not_eq_true'] at h
 rcases h with ⟨⟨⟨h1, h2⟩, h3⟩, h4⟩ | ⟨⟨h1, h2⟩, h3⟩
 ·exact wok_word h2 h3 h1 h4
 ·refine wok_sign h1 h2 ?_
  rcases h3 with (h3 | h3) | h3
  ·exact .inl h3
  ·exact .inr (.inl h3)
  ·obtain ⟨b, hb, e⟩ := List.any_eq_true.1 h3
   refine .inr (.inr ⟨b, by simpa using e, ?_⟩)
   unfold signI
   exact List.any_eq_true.2 ⟨b, hb, by simp⟩
def Good (l : List ByteArray) : Prop := ∀ x ∈ l, WOk x
theorem Good.nil : Good [] := fun x h => by cases h
theorem Good.cons {a : ByteArray} {l : List ByteArray} (h : WOk a) (hl : Good l) : Good (a :: l) := fun x hx => by
 rcases List.mem_cons.1 hx with rfl | hx
 ·exact h
 ·exact hl x hx
theorem Good.app {l r : List ByteArray} (hl : Good l) (hr : Good r) : Good (l ++ r) := fun x hx => by
 rcases List.mem_append.1 hx with h | h
 ·exact hl x h
 ·exact hr x h
theorem Good.flat {ws : List (List ByteArray)} (h : ∀ l ∈ ws, Good l) : Good ws.flatten := fun x hx => by
 obtain ⟨l, hl, hxl⟩ := List.mem_flatten.1 hx
 exact h l hl x hxl
theorem Good.nth {ws : List (List ByteArray)} (h : ∀ l ∈ ws, Good l) (i : Nat) : Good (nthW ws i) := by
 unfold nthW
 rcases hi : ws[i]? with _ | l
 ·exact Good.nil
 ·exact h l (List.mem_of_getElem? hi)
theorem Good.comma : ∀ {ws : List (List ByteArray)}, (∀ l ∈ ws, Good l) → Good (commas ws)
 | [], _ => Good.nil
 | [l], h => by rw [commas]; exact h l (by simp)
 | l :: m :: ws, h => by
  rw [commas]
  exact (h l (by simp)).app (.cons (wl (by decide)) (Good.comma fun x hx => h x (List.mem_cons_of_mem _ hx)))
theorem Good.row {ws : List (List ByteArray)} (h : ∀ l ∈ ws, Good l) (d : Bool) : Good (rowW ws d) := by
 unfold rowW
 refine .cons (wl (by decide)) (.app (Good.comma ?_) (.cons (wl (by decide)) .nil))
 intro l hl
 rcases List.mem_append.1 hl with h' | h'
 ·exact h l h'
 ·cases d
  ·simp at h'
  ·simp at h'; subst h'; exact .cons (wl (by decide)) .nil
theorem Good.at {least b : Int} {l : List ByteArray} (h : Good l) : Good (atW least b l) := by
 unfold atW
 split
 ·exact .cons (wl (by decide)) (h.app (.cons (wl (by decide)) .nil))
 ·exact h
theorem Good.ite {c : Prop} [Decidable c] {a b : List ByteArray} (h1 : c → Good a) (h2 : ¬ c → Good b) : Good (if c then a else b) := by
 split
 ·exact h1 ‹_›
 ·exact h2 ‹_›
theorem Good.stat (num : Int) : Good (statW num) := by
 unfold statW
 exact .ite (fun _ => .cons (wl (by decide)) .nil) (fun _ => .nil)
theorem sgnT_good {op : Int} (h : (sgn op).isSome = true) : WOk (sgnT op) := by
 rcases sgn_all h with rfl | rfl | rfl | rfl | rfl | rfl | rfl | rfl | rfl | rfl <;> exact wl (by decide)
theorem Good.num {k num nm : Int} {f : Bool} (hk : k = 21 ∨ k = 22) (h : numB k num nm f = true) : Good (numT k num) := by
 unfold numT
 have hm : num.natAbs ≤ 9223372036854775807 ∧ (k = 21 → num.natAbs ≤ 2147483647) := by
  simp only [numB, Bool.and_eq_true, Bool.or_eq_true, decide_eq_true_eq, Bool.not_eq_true', beq_eq_false_iff_ne] at h
  obtain ⟨⟨⟨h1, h2⟩, -⟩, h4⟩ := h
  refine ⟨by split at h1 <;> split at h2 <;> omega, fun e => ?_⟩
  rcases h4 with h4 | h4
  ·exact absurd e h4
  ·split at h1 <;> split at h4 <;> omega
 refine .app (.ite (fun _ => .cons (wl (by decide)) .nil) (fun _ => .nil)) (.cons ?_ .nil)
 exact (num_word (k := k) (num := (num.natAbs : Int)) hk (by omega) (by omega) (fun e => by have := hm.2 e; omega) (w := ⟨(digsN num.natAbs ++ if k = 22 then [76] else []).toArray⟩) (by rw [Int.natAbs_natCast])).2.1
theorem shw_good : ∀ (N : Nat) (n : Nd), many n ≤ N → ∀ f, isN n f = true → Good (shw n)
 | 0, n, h => absurd h (by have := many_pos n; omega)
 | N + 1, n, h => by
  intro f hn
  obtain ⟨s, hs, ht, hnum, hl⟩ := isN_parts hn
  have IH : ∀ l ∈ n.kids.map shw, Good l := by
   intro l hl'
   obtain ⟨m, hm, rfl⟩ := List.mem_map.1 hl'
   obtain ⟨f', hf'⟩ := isNL_mem _ _ hl m hm
   exact shw_good N m (by have := many_kid hm; omega) f' hf'
  have IHd : ∀ l ∈ (n.kids.map shw).dropLast, Good l := fun l hl' => IH l ((List.dropLast_sublist _).subset hl')
  have IHdd : ∀ l ∈ (n.kids.map shw).dropLast.dropLast, Good l := fun l hl' => IHd l ((List.dropLast_sublist _).subset hl')
  have IHt : ∀ l ∈ (n.kids.map shw).tail, Good l := fun l hl' => IH l (List.mem_of_mem_tail hl')
  have htx : s.text = true → WOk n.t := fun h => wok_name (ht h)
  have hop := (isN_view hn hs).op
  rw [shw_eq]
  generalize n.kids.map shw = ws at *
  generalize n.kids.map bindN = bs at *
  unfold shwK
  dsimp only
  have hk : ∀ c : Bool, ((shp n.k).map (·.text)) = some c → c = true → WOk n.t := fun c h1 h2 => by
   rw [hs] at h1
   exact htx (by simp at h1; rw [h1]; exact h2)
  refine .ite (fun h => .flat IH) fun h1 => ?_
  refine .ite (fun h => .app (.app (.cons (wl (by decide)) (.cons (hk true (by rw [h]; rfl) rfl) (.cons (wl (by decide)) .nil))) (.flat IH)) (.cons (wl (by decide)) .nil)) fun h2 => ?_
  refine .ite (fun h => .app (.nth IH _) (.cons (hk true (by rw [h]; rfl) rfl) (.cons (wl (by decide)) .nil))) fun h3 => ?_
  refine .ite (fun h => .app (.nth IH _) (.cons (hk true (by rw [h]; rfl) rfl) .nil)) fun h8 => ?_
  refine .ite (fun h => .cons (wl (by decide)) (.app (.nth IH _) (.cons (hk true (by rw [h]; rfl) rfl) (.cons (wl (by decide)) .nil)))) fun h5 => ?_
  refine .ite (fun h => .cons (wl (by decide)) (.app (.app (.app (.nth IH _) (.cons (hk true (by rw [h]; rfl) rfl) .nil)) (.row IHd _)) (.cons (wl (by decide)) .nil))) fun h4 => ?_
  refine .ite (fun h => .app (.app (.app (.app (.stat _) (.nth IH _)) (.cons (hk true (by rw [h]; rfl) rfl) (.cons (wl (by decide)) .nil))) (.nth IH _)) (.cons (wl (by decide)) .nil)) fun h6 => ?_
  refine .ite (fun h => .app (.app (.app (.app (.stat _) (.nth IH _)) (.cons (hk true (by rw [h]; rfl) rfl) .nil)) (.row IHdd _)) (.nth IH _)) fun h7 => ?_
  refine .ite (fun h => .cons (wl (by decide)) .nil) fun h9 => ?_
  refine .ite (fun h => .cons (wl (by decide)) .nil) fun h10 => ?_
  refine .ite (fun h => .cons (hk true (by rcases h with h | h <;> rw [h] <;> rfl) rfl) .nil) fun h11 => ?_
  refine .ite (fun h => .cons (wl (by decide)) (.app (.row IHd _) (.nth IH _))) fun h12 => ?_
  refine .ite (fun h => .cons (wl (by decide)) (.app (.flat IH) (.cons (wl (by decide)) .nil))) fun h13 => ?_
  refine .ite (fun h => .app (.app (.app (.nth IH _) (.cons (hk true (by rw [h]; rfl) rfl) (.cons (wl (by decide)) .nil))) (.nth IH _)) (.cons (wl (by decide)) .nil)) fun h14 => ?_
  refine .ite (fun h => .app (.app (.app (.nth IH _) (.cons (wl (by decide)) .nil)) (.nth IH _)) (.cons (wl (by decide)) .nil)) fun h15 => ?_
  refine .ite (fun h => .app (.app (.app (.app (.cons (by split <;> exact wl (by decide)) (.cons (wl (by decide)) .nil)) (.nth IH _)) (.cons (wl (by decide)) .nil)) (.nth IH _)) (.ite (fun _ => .cons (wl (by decide)) (.nth IH _)) (fun _ => .nil))) fun h16 => ?_
  refine .ite (fun h => .cons (wl (by decide)) (.app (.nth IH _) (.cons (wl (by decide)) .nil))) fun h18 => ?_
  refine .ite (fun h => .app (.app (.cons (wl (by decide)) (.cons (wl (by decide)) .nil)) (.nth IH _)) (.cons (wl (by decide)) (.cons (wl (by decide)) .nil))) fun h19 => ?_
  refine .ite (fun h => .app (.nth IH _) (.cons (wl (by decide)) .nil)) fun h20 => ?_
  refine .ite (fun h => .num h hnum) fun h21 => ?_
  refine .ite (fun h => .app (.at (.nth IH _)) (.cons (wl (by decide)) (.cons (hk true (by rw [h]; rfl) rfl) .nil))) fun h24 => ?_
  refine .ite (fun h => .app (.at (.nth IH _)) (.row IHt _)) fun h25 => ?_
  refine .ite (fun h => .cons (wl (by decide)) (.cons (hk true (by rw [h]; rfl) rfl) .nil)) fun h26 => ?_
  refine .ite (fun h => .app (.app (.cons (hk true (by rw [h]; rfl) rfl) (.cons (wl (by decide)) .nil)) (.comma IH)) (.cons (wl (by decide)) .nil)) fun h27 => ?_
  refine .ite (fun h => .cons (wl (by decide)) (.at (.nth IH _))) fun h28 => ?_
  refine .ite (fun h => .cons (wl (by decide)) (.at (.nth IH _))) fun h29 => ?_
  refine .ite (fun h => .app (.app (.cons (wl (by decide)) (.cons (wl (by decide)) .nil)) (.nth IH _)) (.cons (wl (by decide)) .nil)) fun h30 => ?_
  refine .ite (fun h => .app (.app (.cons (wl (by decide)) (.cons (wl (by decide)) .nil)) (.nth IH _)) (.cons (wl (by decide)) .nil)) fun h31 => ?_
  refine .ite (fun h => .app (.app (.cons (wl (by decide)) (.cons (wl (by decide)) .nil)) (.nth IH _)) (.cons (wl (by decide)) .nil)) fun h34 => ?_
  refine .ite (fun h => .cons (wl (by decide)) .nil) fun h33 => ?_
  exact .app (.app (.at (.nth IH _)) (.cons (sgnT_good (hop (Classical.byContradiction fun h32 => by unfold shp at hs; (repeat rw [if_neg (by omega)] at hs); cases hs))) .nil)) (.at (.nth IH _))
end Go.Proofs.YtgegfbopogcjpaaGreatDoor
