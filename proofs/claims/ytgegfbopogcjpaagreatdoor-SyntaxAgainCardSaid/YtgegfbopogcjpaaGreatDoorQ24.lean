/- What is read may be printed, 3: statements, declarations, texts. No program is in sight. -/
import Derived.Test.YtgegfbopogcjpaaGreatDoorQ23
namespace Go.Proofs.YtgegfbopogcjpaaGreatDoor
set_option linter.unusedVariables false
set_option linter.unusedSimpArgs false
set_option maxRecDepth 100000
section
variable {L : List Tok}
theorem closed_good {x n : Nd} {i j : Nat} (h : closedM L x i = .ok n j) : n = x ∧ Pc L j = Pc L i + 2 := by
 obtain ⟨u, k, e, h⟩ := bind_okE h
 injection h with e1 e2
 subst e1 e2
 exact ⟨rfl, (need_ok e).2⟩
theorem blk_good {st : Nat → Res Nd} (hs : Gd L 3 st) : ∀ (g : Nat) (l : List Nd) (i j : Nat) (n : Nd) (Q : Nat), blkM L st g l i = .ok n j → (∀ x ∈ l, cls x.k = 3 ∧ isN x false = true) → Q + cost (l.map shw).flatten ≤ Pc L i →
 ∃ ks, n = .mk 13 ⟨#[]⟩ 0 ks ∧ (∀ x ∈ ks, cls x.k = 3 ∧ isN x false = true) ∧ Q + cost (ks.map shw).flatten + 2 ≤ Pc L j
 | 0, _, _, _, _, _, h, _, _ => by cases h
 | g + 1, l, i, j, n, Q, h, hl, hq => by
  rw [blkM] at h
  split at h
  ·rename_i hc
   injection h with e1 e2
   subst e1 e2
   have p := Pc.is hc
   have s1 : (⟨#[125]⟩ : ByteArray).size = 1 := rfl
   exact ⟨l, rfl, hl, by omega⟩
  ·obtain ⟨x, k, e, h⟩ := bind_okE h
   obtain ⟨a, b, c⟩ := hs _ _ _ e
   refine blk_good hs g (l ++ [x]) k j n Q h (fun y hy => ?_) ?_
   ·rcases List.mem_append.1 hy with hy | hy
    ·exact hl y hy
    ·simp at hy; subst hy; exact ⟨a, b⟩
   ·simp only [List.map_append, List.map_cons, List.map_nil, List.flatten_append, List.flatten_cons, List.flatten_nil, List.append_nil, cost_app]
    omega
theorem block_good {st : Nat → Res Nd} (hs : Gd L 3 st) {i j : Nat} {n : Nd} (h : blockM L st i = .ok n j) : n.k = 13 ∧ isN n false = true ∧ Pc L i + cost (shw n) ≤ Pc L j := by
 obtain ⟨u, k, e, h⟩ := bind_okE h
 have p := (need_ok e).2
 have s1 : (⟨#[123]⟩ : ByteArray).size = 1 := rfl
 have s2 : (⟨#[125]⟩ : ByteArray).size = 1 := rfl
 obtain ⟨ks, rfl, a, b⟩ := blk_good hs _ [] k j n (Pc L k) h (by simp) (by simp)
 refine ⟨rfl, isN_of (s := ⟨false, 0, 0, -1⟩) rfl (Nat.zero_le _) (.inl (by decide)) rfl rfl (fun e => by cases e) (fun e => by cases e) (fun e => by cases e) (fun j y e => ⟨kidB_of (a y (getElem?_mem e)).1, (a y (getElem?_mem e)).2⟩), ?_⟩
 rw [show shw (.mk 13 ⟨#[]⟩ 0 ks) = ⟨#[123]⟩ :: ((ks.map shw).flatten ++ [⟨#[125]⟩]) from shw_eq _]
 simp only [cost_app, cost_cons, cost_nil]
 omega
theorem simple_good {F : Nat} (hu : GdA L 3 (unaryM L F)) : ∀ (g : Nat) (called : Bool) (x : Nd) (i j : Nat) (n : Nd) (Q : Nat), simpleM L F g called x i = .ok n j → cls x.k = 4 → isN x false = true → bindN x = 4 → (baseN true x).k = 23 → (called = false → (baseN false x).k = 23) → Q + cost (shw x) ≤ Pc L i →
 cls n.k = 3 ∧ isN n false = true ∧ Q + cost (shw n) ≤ Pc L j
 | 0, _, _, _, _, _, _, h, _, _, _, _, _, _ => by cases h
 | g + 1, called, x, i, j, n, Q, h, h1, h2, hb, p1, p2, h3 => by
  have h4 : Q + cost (atW 4 (bindN x) (shw x)) ≤ Pc L i := by rw [at4 hb]; exact h3
  have s1 : (⟨#[59]⟩ : ByteArray).size = 1 := rfl
  rw [simpleM] at h
  split at h
  ·rename_i hc
   obtain ⟨t, m, e, h⟩ := bind_okE h
   obtain ⟨a, b⟩ := dot_good hc e h1 h2 h4
   rw [at4 (n := .mk 24 t 0 [x]) rfl] at b
   exact simple_good hu g called _ m j n Q h rfl a rfl (by show (if headK true 24 = true then baseN true x else _).k = 23; rw [if_pos (by decide)]; exact p1) (fun e => by show (if headK false 24 = true then baseN false x else _).k = 23; rw [if_pos (by decide)]; exact p2 e) b
  ·split at h
   ·obtain ⟨y, m, e, h⟩ := bind_okE h
    obtain ⟨a, b, c, ks, d⟩ := call_good hu e h1 h2 h4
    obtain ⟨yk, yt, yn, yl⟩ := y
    have a : yk = 25 := a
    have d : yl = x :: ks := d
    subst a d
    rw [at4 (n := .mk 25 yt yn (x :: ks)) rfl] at c
    exact simple_good hu g true _ m j n Q h rfl b rfl (by show (if headK true 25 = true then baseN true x else _).k = 23; rw [if_pos (by decide)]; exact p1) (fun e => by cases e) c
   ·split at h
    ·rename_i hc
     obtain ⟨y, m, e, h⟩ := bind_okE h
     obtain ⟨a, b, c⟩ := expr_good hu _ _ _ e
     obtain ⟨rfl, q⟩ := closed_good h
     have p := Pc.is hc.2
     have s2 : (⟨#[61]⟩ : ByteArray).size = 1 := rfl
     refine ⟨rfl, isN_of (s := ⟨false, 0, 2, 2⟩) rfl (Nat.le_refl _) (.inr (by simp)) rfl rfl (fun e => by cases e) (fun _ => ⟨x, [y], rfl, p2 hc.1⟩) (fun e => by cases e) (fun j z e => ?_), ?_⟩
     ·rcases j with _ | _ | j
      ·simp at e; subst e; exact ⟨kidB_of h1, h2⟩
      ·simp at e; subst e; exact ⟨kidB_of a, b⟩
      ·simp at e
     ·rw [show shw (.mk 15 ⟨#[]⟩ 0 [x, y]) = shw x ++ [⟨#[61]⟩] ++ shw y ++ [⟨#[59]⟩] from shw_eq _]
      simp only [cost_app, cost_cons, cost_nil]
      omega
    ·split at h
     ·rename_i hc
      obtain ⟨rfl, q⟩ := closed_good h
      unfold oneM
      refine ⟨rfl, isN_of (s := ⟨false, 0, 1, 1⟩) rfl (Nat.le_refl _) (.inr (by simp)) rfl rfl (fun e => by cases e) (fun e => by cases e) (fun _ => ⟨x, [], rfl, hc, p1⟩) (fun j z e => ?_), ?_⟩
      ·rcases j with _ | j
       ·simp at e; subst e; exact ⟨kidB_of h1, h2⟩
       ·simp at e
      ·rw [show shw (.mk 20 ⟨#[]⟩ 0 [x]) = shw x ++ [⟨#[59]⟩] from shw_eq _]
       simp only [cost_app, cost_cons, cost_nil]
       omega
     ·cases h
theorem stat_good (hL : ∀ t ∈ L, TokOk t.k t.s) : ∀ F, Gd L 3 (statM L F)
 | 0, i, j, n, h => by cases h
 | F + 1, i, j, n, h => by
  have hu := unary_good hL F
  have hst := stat_good hL F
  have s1 : (⟨#[59]⟩ : ByteArray).size = 1 := rfl
  have s2 : (⟨#[61]⟩ : ByteArray).size = 1 := rfl
  have s3 : (⟨#[40]⟩ : ByteArray).size = 1 := rfl
  have s4 : (⟨#[41]⟩ : ByteArray).size = 1 := rfl
  have uno : ∀ (k : Int) (x : Nd), (k = 18 ∨ k = 19) → cls x.k = 4 → isN x false = true → isN (.mk k ⟨#[]⟩ 0 [x]) false = true := fun k x hk a b =>
   isN_of (s := ⟨false, 0, 1, 1⟩) (by rcases hk with rfl | rfl <;> rfl) (Nat.le_refl _) (.inr (by simp)) rfl (by rcases hk with rfl | rfl <;> rfl) (fun e => by omega) (fun e => by omega) (fun e => by omega) (fun j z e => by
    rcases j with _ | j
    ·simp at e; subst e
     have hw : wantC k 0 1 = (4, 0) := by rcases hk with rfl | rfl <;> rfl
     rw [show [x].length = 1 from rfl, hw]
     exact ⟨kidB_of a, b⟩
    ·simp at e)
  rw [statM] at h
  split at h
  ·-- if
   rename_i hc
   obtain ⟨c, k1, e, h⟩ := bind_okE h
   obtain ⟨b, k2, e2, h⟩ := bind_okE h
   obtain ⟨c1, c2, c3⟩ := round_good hu e
   obtain ⟨b1, b2, b3⟩ := block_good hst e2
   have p := Pc.is hc
   split at h
   ·rename_i hc2
    obtain ⟨d, k3, e3, h⟩ := bind_okE h
    obtain ⟨d1, d2, d3⟩ := block_good hst e3
    have p2 := Pc.is hc2
    injection h with e4 e5
    subst e4 e5
    refine ⟨rfl, isN_of (s := ⟨false, 0, 2, 3⟩) rfl (by simp) (.inr (by simp)) rfl rfl (fun e => by cases e) (fun e => by cases e) (fun e => by cases e) (fun j z e => ?_), ?_⟩
    ·rcases j with _ | _ | _ | j
     ·simp at e; subst e; exact ⟨kidB_of c1, c2⟩
     ·simp at e; subst e; exact ⟨by rw [b1]; rfl, b2⟩
     ·simp at e; subst e; exact ⟨by rw [d1]; rfl, d2⟩
     ·simp at e
    ·rw [show shw (.mk 16 ⟨#[]⟩ 0 [c, b, d]) = [⟨#[105, 102]⟩, ⟨#[40]⟩] ++ shw c ++ [⟨#[41]⟩] ++ shw b ++ (⟨#[101, 108, 115, 101]⟩ :: shw d) from shw_eq _]
     simp only [cost_app, cost_cons, cost_nil]
     omega
   ·injection h with e4 e5
    subst e4 e5
    refine ⟨rfl, isN_of (s := ⟨false, 0, 2, 3⟩) rfl (by simp) (.inr (by simp)) rfl rfl (fun e => by cases e) (fun e => by cases e) (fun e => by cases e) (fun j z e => ?_), ?_⟩
    ·rcases j with _ | _ | j
     ·simp at e; subst e; exact ⟨kidB_of c1, c2⟩
     ·simp at e; subst e; exact ⟨by rw [b1]; rfl, b2⟩
     ·simp at e
    ·rw [show shw (.mk 16 ⟨#[]⟩ 0 [c, b]) = [⟨#[105, 102]⟩, ⟨#[40]⟩] ++ shw c ++ [⟨#[41]⟩] ++ shw b ++ [] from shw_eq _]
     simp only [cost_app, cost_cons, cost_nil]
     omega
  split at h
  ·-- while
   rename_i hc
   obtain ⟨c, k1, e, h⟩ := bind_okE h
   obtain ⟨b, k2, e2, h⟩ := bind_okE h
   obtain ⟨c1, c2, c3⟩ := round_good hu e
   obtain ⟨b1, b2, b3⟩ := block_good hst e2
   have p := Pc.is hc
   injection h with e4 e5
   subst e4 e5
   refine ⟨rfl, isN_of (s := ⟨false, 0, 2, 2⟩) rfl (by simp) (.inr (by simp)) rfl rfl (fun e => by cases e) (fun e => by cases e) (fun e => by cases e) (fun j z e => ?_), ?_⟩
   ·rcases j with _ | _ | j
    ·simp at e; subst e; exact ⟨kidB_of c1, c2⟩
    ·simp at e; subst e; exact ⟨by rw [b1]; rfl, b2⟩
    ·simp at e
   ·rw [show shw (.mk 17 ⟨#[]⟩ 0 [c, b]) = [⟨#[119, 104, 105, 108, 101]⟩, ⟨#[40]⟩] ++ shw c ++ [⟨#[41]⟩] ++ shw b ++ [] from shw_eq _]
    simp only [cost_app, cost_cons, cost_nil]
    omega
  split at h
  ·-- return
   rename_i hc
   obtain ⟨x, k1, e, h⟩ := bind_okE h
   obtain ⟨a, b, c⟩ := expr_good hu _ _ _ e
   obtain ⟨rfl, q⟩ := closed_good h
   have p := Pc.is hc
   unfold oneM
   refine ⟨rfl, uno 18 x (.inl rfl) a b, ?_⟩
   rw [show shw (.mk 18 ⟨#[]⟩ 0 [x]) = ⟨#[114, 101, 116, 117, 114, 110]⟩ :: (shw x ++ [⟨#[59]⟩]) from shw_eq _]
   simp only [cost_app, cost_cons, cost_nil]
   omega
  split at h
  ·-- put
   rename_i hc
   obtain ⟨x, k1, e, h⟩ := bind_okE h
   obtain ⟨a, b, c⟩ := round_good hu e
   obtain ⟨rfl, q⟩ := closed_good h
   have p := Pc.is hc
   unfold oneM
   refine ⟨rfl, uno 19 x (.inr rfl) a b, ?_⟩
   rw [show shw (.mk 19 ⟨#[]⟩ 0 [x]) = [⟨#[112, 117, 116]⟩, ⟨#[40]⟩] ++ shw x ++ [⟨#[41]⟩, ⟨#[59]⟩] from shw_eq _]
   simp only [cost_app, cost_cons, cost_nil]
   omega
  split at h
  ·-- a variable
   obtain ⟨t, k1, e, h⟩ := bind_okE h
   obtain ⟨s, k2, e2, h⟩ := bind_okE h
   obtain ⟨u, k3, e3, h⟩ := bind_okE h
   obtain ⟨x, k4, e4, h⟩ := bind_okE h
   obtain ⟨t1, t2, t3⟩ := typ_good F _ _ _ e
   obtain ⟨n1, n2⟩ := name_ok e2
   have q := (need_ok e3).2
   obtain ⟨x1, x2, x3⟩ := expr_good hu _ _ _ e4
   obtain ⟨rfl, q2⟩ := closed_good h
   refine ⟨rfl, isN_of (s := ⟨true, 0, 2, 2⟩) rfl (by simp) (.inr (by simp)) n1 rfl (fun e => by cases e) (fun e => by cases e) (fun e => by cases e) (fun j z e => ?_), ?_⟩
   ·rcases j with _ | _ | j
    ·simp at e; subst e; exact ⟨kidB_of t1, t2⟩
    ·simp at e; subst e; exact ⟨kidB_of x1, x2⟩
    ·simp at e
   ·rw [show shw (.mk 14 s 0 [t, x]) = shw t ++ [s, ⟨#[61]⟩] ++ shw x ++ [⟨#[59]⟩] from shw_eq _]
    simp only [cost_app, cost_cons, cost_nil]
    omega
  ·-- what begins with a name
   obtain ⟨s, k1, e, h⟩ := bind_okE h
   obtain ⟨n1, n2⟩ := name_ok e
   exact simple_good hu _ false (.mk 23 s 0 []) k1 j n (Pc L i) h rfl (leaf_good rfl (by simp) n1) rfl rfl (fun _ => rfl) (by
    rw [show shw (.mk 23 s 0 []) = [s] from shw_eq _]
    simp only [cost_cons, cost_nil]
    omega)
theorem fields_good {F : Nat} : ∀ (g : Nat) (l : List Nd) (i j : Nat) (ks : List Nd) (Q : Nat), fieldsM L F g l i = .ok ks j → (∀ x ∈ l, x.k = 3 ∧ isN x false = true) → Q + cost (l.map shw).flatten ≤ Pc L i → ks ≠ [] ∧ (∀ x ∈ ks, x.k = 3 ∧ isN x false = true) ∧ Q + cost (ks.map shw).flatten + 2 ≤ Pc L j
 | 0, _, _, _, _, _, h, _, _ => by cases h
 | g + 1, l, i, j, ks, Q, h, hl, hq => by
  have s1 : (⟨#[125]⟩ : ByteArray).size = 1 := rfl
  have s2 : (⟨#[59]⟩ : ByteArray).size = 1 := rfl
  rw [fieldsM] at h
  split at h
  ·rename_i hc
   injection h with e1 e2
   subst e1 e2
   have p := Pc.is hc.2
   exact ⟨hc.1, hl, by omega⟩
  ·obtain ⟨t, k1, e, h⟩ := bind_okE h
   obtain ⟨s, k2, e2, h⟩ := bind_okE h
   obtain ⟨u, k3, e3, h⟩ := bind_okE h
   obtain ⟨t1, t2, t3⟩ := typ_good F _ _ _ e
   obtain ⟨n1, n2⟩ := name_ok e2
   have q := (need_ok e3).2
   refine fields_good g (l ++ [.mk 3 s 0 [t]]) k3 j ks Q h (fun y hy => ?_) ?_
   ·rcases List.mem_append.1 hy with hy | hy
    ·exact hl y hy
    ·simp at hy; subst hy; exact ⟨rfl, one_good (.inl rfl) n1 t1 t2⟩
   ·simp only [List.map_append, List.map_cons, List.map_nil, List.flatten_append, List.flatten_cons, List.flatten_nil, List.append_nil, cost_app]
    rw [show shw (.mk 3 s 0 [t]) = shw t ++ [s, ⟨#[59]⟩] from shw_eq _]
    simp only [cost_app, cost_cons, cost_nil]
    omega
theorem nth_app {α : Type} (l : List α) (a b : α) : (l ++ [a, b])[l.length]? = some a ∧ (l ++ [a, b])[l.length + 1]? = some b := by simp
theorem decl_good (hL : ∀ t ∈ L, TokOk t.k t.s) (F : Nat) : Gd L 1 (declM L F) := fun i j n h => by
 have s1 : (⟨#[59]⟩ : ByteArray).size = 1 := rfl
 have s2 : (⟨#[61]⟩ : ByteArray).size = 1 := rfl
 have s3 : (⟨#[123]⟩ : ByteArray).size = 1 := rfl
 have s4 : (⟨#[125]⟩ : ByteArray).size = 1 := rfl
 have s5 : (⟨#[45]⟩ : ByteArray).size = 1 := rfl
 unfold declM at h
 split at h
 ·-- struct
  rename_i hc
  obtain ⟨s, k1, e, h⟩ := bind_okE h
  obtain ⟨u, k2, e2, h⟩ := bind_okE h
  obtain ⟨l, k3, e3, h⟩ := bind_okE h
  injection h with e4 e5
  subst e4 e5
  have p := Pc.is hc
  obtain ⟨n1, n2⟩ := name_ok e
  have q := (need_ok e2).2
  obtain ⟨a, b, c⟩ := fields_good _ [] k2 k3 l (Pc L k2) e3 (by simp) (by simp)
  refine ⟨rfl, isN_of (s := ⟨true, 0, 1, -1⟩) rfl (List.length_pos_iff.2 a) (.inl (by decide)) n1 rfl (fun e => by cases e) (fun e => by cases e) (fun e => by cases e) (fun j z e => ⟨?_, (b z (getElem?_mem e)).2⟩), ?_⟩
  ·rw [(b z (getElem?_mem e)).1]; rfl
  ·rw [show shw (.mk 2 s 0 l) = [⟨#[115, 116, 114, 117, 99, 116]⟩, s, ⟨#[123]⟩] ++ (l.map shw).flatten ++ [⟨#[125]⟩] from shw_eq _]
   simp only [cost_app, cost_cons, cost_nil]
   omega
 split at h
 ·-- extern
  rename_i hc
  obtain ⟨t, k1, e, h⟩ := bind_okE h
  obtain ⟨s, k2, e2, h⟩ := bind_okE h
  have p := Pc.is hc
  obtain ⟨t1, t2, t3⟩ := typ_good F _ _ _ e
  obtain ⟨n1, n2⟩ := name_ok e2
  split at h
  ·obtain ⟨⟨ks, d⟩, k3, e3, h⟩ := bind_okE h
   dsimp only at h
   obtain ⟨rfl, q⟩ := closed_good h
   obtain ⟨a, -, c⟩ := list_goodP (P := fun x => x.k = 8 ∧ isN x false = true) (fun i j n h => ⟨⟨(param_good F i j n h).1, (param_good F i j n h).2.1⟩, (param_good F i j n h).2.2⟩) e3
   refine ⟨rfl, isN_of (s := ⟨true, 1, 1, -1⟩) rfl (by simp) (.inl (by decide)) n1 (by cases d <;> rfl) (fun e => by cases e) (fun e => by cases e) (fun e => by cases e) (fun j z e => ?_), ?_⟩
   ·show kidB (if j + 1 = (ks ++ [t]).length then ((2 : Int), (0 : Int)) else (5, 8)) z.k = true ∧ isN z (decide ((if j + 1 = (ks ++ [t]).length then ((2 : Int), (0 : Int)) else (5, 8)).2 < 0)) = true
    by_cases hj : j + 1 = (ks ++ [t]).length
    ·have hj' : j = ks.length := by simpa using hj
     subst hj'
     rw [if_pos hj]
     simp at e
     subst e
     exact ⟨kidB_of t1, t2⟩
    ·rw [if_neg hj]
     have hlt := (List.getElem?_eq_some_iff.1 e).1
     rw [List.length_append, List.length_singleton] at hj hlt
     rw [List.getElem?_append_left (by omega)] at e
     obtain ⟨z1, z2⟩ := a z (getElem?_mem e)
     exact ⟨by rw [z1]; rfl, z2⟩
   ·have hw : shw (.mk 4 s (flagN d) (ks ++ [t])) = ⟨#[101, 120, 116, 101, 114, 110]⟩ :: (shw t ++ [s] ++ rowW (ks.map shw) d ++ [⟨#[59]⟩]) := by
     rw [shw_eq]
     show ⟨#[101, 120, 116, 101, 114, 110]⟩ :: (nthW ((ks ++ [t]).map shw) (((ks ++ [t]).map shw).length - 1) ++ [s] ++ rowW ((ks ++ [t]).map shw).dropLast (flagN d == 1) ++ [⟨#[59]⟩]) = _
     have e5 : (flagN d == 1) = d := by cases d <;> rfl
     rw [e5]
     simp [nthW]
    rw [hw]
    simp only [cost_app, cost_cons, cost_nil]
    omega
  ·obtain ⟨rfl, q⟩ := closed_good h
   refine ⟨rfl, one_good (.inr (.inl rfl)) n1 t1 t2, ?_⟩
   rw [show shw (.mk 5 s 0 [t]) = ⟨#[101, 120, 116, 101, 114, 110]⟩ :: (shw t ++ [s, ⟨#[59]⟩]) from shw_eq _]
   simp only [cost_app, cost_cons, cost_nil]
   omega
 ·-- the others
  dsimp only at h
  obtain ⟨t, k1, e, h⟩ := bind_okE h
  obtain ⟨s, k2, e2, h⟩ := bind_okE h
  obtain ⟨t1, t2, t3⟩ := typ_good F _ _ _ e
  obtain ⟨n1, n2⟩ := name_ok e2
  have hst : Pc L i + cost (statW (flagN (tIs L ⟨#[115, 116, 97, 116, 105, 99]⟩ i))) ≤ Pc L (if tIs L ⟨#[115, 116, 97, 116, 105, 99]⟩ i = true then i + 1 else i) ∧ ∀ d : Int, statW (flagN (tIs L ⟨#[115, 116, 97, 116, 105, 99]⟩ i) + 2 * d) = statW (flagN (tIs L ⟨#[115, 116, 97, 116, 105, 99]⟩ i)) := by
   rcases hb : tIs L ⟨#[115, 116, 97, 116, 105, 99]⟩ i with _ | _
   ·exact ⟨by simp [flagN, statW], fun d => by unfold statW flagN; simp⟩
   ·have p := Pc.is hb
    refine ⟨?_, fun d => by unfold statW flagN; simp⟩
    rw [if_pos rfl, p]
    exact Nat.le_of_eq rfl
  obtain ⟨p, hsw⟩ := hst
  generalize hfl : tIs L ⟨#[115, 116, 97, 116, 105, 99]⟩ i = st at *
  split at h
  ·-- a function
   obtain ⟨⟨ks, d⟩, k3, e3, h⟩ := bind_okE h
   obtain ⟨b, k4, e4, h⟩ := bind_okE h
   dsimp only at h
   injection h with e5 e6
   subst e5 e6
   obtain ⟨a, -, c⟩ := list_goodP (P := fun x => x.k = 8 ∧ isN x false = true) (fun i j n h => ⟨⟨(param_good F i j n h).1, (param_good F i j n h).2.1⟩, (param_good F i j n h).2.2⟩) e3
   obtain ⟨b1, b2, b3⟩ := block_good (stat_good hL F) e4
   refine ⟨rfl, isN_of (s := ⟨true, 3, 2, -1⟩) rfl (by simp) (.inl (by decide)) n1 (by cases d <;> cases st <;> rfl) (fun e => by cases e) (fun e => by cases e) (fun e => by cases e) (fun j z e => ?_), ?_⟩
   ·show kidB (if j + 1 = (ks ++ [t, b]).length then ((5 : Int), (13 : Int)) else if j + 2 = (ks ++ [t, b]).length then (2, 0) else (5, 8)) z.k = true ∧ isN z (decide ((if j + 1 = (ks ++ [t, b]).length then ((5 : Int), (13 : Int)) else if j + 2 = (ks ++ [t, b]).length then (2, 0) else (5, 8)).2 < 0)) = true
    have hlt := (List.getElem?_eq_some_iff.1 e).1
    have hlen : (ks ++ [t, b]).length = ks.length + 2 := by simp
    rw [hlen] at hlt ⊢
    by_cases hj : j = ks.length + 1
    ·subst hj
     rw [(nth_app ks t b).2] at e
     injection e with e
     subst e
     rw [if_pos (by omega)]
     exact ⟨by rw [b1]; rfl, b2⟩
    ·by_cases hj2 : j = ks.length
     ·subst hj2
      rw [(nth_app ks t b).1] at e
      injection e with e
      subst e
      rw [if_neg (by omega), if_pos (by omega)]
      exact ⟨kidB_of t1, t2⟩
     ·rw [if_neg (by omega), if_neg (by omega)]
      rw [List.getElem?_append_left (by omega)] at e
      obtain ⟨z1, z2⟩ := a z (getElem?_mem e)
      exact ⟨by rw [z1]; rfl, z2⟩
   ·have hw : shw (.mk 7 s (flagN st + 2 * flagN d) (ks ++ [t, b])) = statW (flagN st) ++ shw t ++ [s] ++ rowW (ks.map shw) d ++ shw b := by
     rw [shw_eq]
     show statW (flagN st + 2 * flagN d) ++ nthW ((ks ++ [t, b]).map shw) (((ks ++ [t, b]).map shw).length - 2) ++ [s] ++ rowW ((ks ++ [t, b]).map shw).dropLast.dropLast (decide (2 ≤ flagN st + 2 * flagN d)) ++ nthW ((ks ++ [t, b]).map shw) (((ks ++ [t, b]).map shw).length - 1) = _
     have e5 : decide (2 ≤ flagN st + 2 * flagN d) = d := by cases d <;> cases st <;> rfl
     have e6 : (ks ++ [t, b]).dropLast.dropLast = ks := by
      rw [show ks ++ [t, b] = (ks ++ [t]) ++ [b] by simp, List.dropLast_concat, List.dropLast_concat]
     have e7 : nthW ((ks ++ [t, b]).map shw) (((ks ++ [t, b]).map shw).length - 2) = shw t := by
      unfold nthW
      rw [List.length_map, List.getElem?_map, show (ks ++ [t, b]).length - 2 = ks.length by simp, (nth_app ks t b).1]
      rfl
     have e8 : nthW ((ks ++ [t, b]).map shw) (((ks ++ [t, b]).map shw).length - 1) = shw b := by
      unfold nthW
      rw [List.length_map, List.getElem?_map, show (ks ++ [t, b]).length - 1 = ks.length + 1 by simp, (nth_app ks t b).2]
      rfl
     rw [e5, hsw, e7, e8, ← List.map_dropLast, ← List.map_dropLast, e6]
    rw [hw]
    simp only [cost_app, cost_cons, cost_nil]
    omega
  ·-- a global
   obtain ⟨u, k3, e3, h⟩ := bind_okE h
   have q := (need_ok e3).2
   obtain ⟨x, k4, e4, h⟩ := bind_okE h
   obtain ⟨rfl, q2⟩ := closed_good h
   obtain ⟨hk, ht, hkd, h0, h1, h2, h3⟩ := num_good hL e4
   obtain ⟨xk, xt, xn, xl⟩ := x
   have ht : xt = ⟨#[]⟩ := ht
   have hkd : xl = [] := hkd
   subst ht hkd
   simp only [Nd.k, Nd.num] at hk h0 h1 h2 h3
   have key : ∀ m : Int, (m = xn ∨ (m = -xn ∧ tIs L ⟨#[45]⟩ k3 = true)) → Pc L k3 + cost (numT xk m) ≤ Pc L k4 → isN (.mk xk ⟨#[]⟩ m []) true = true ∧ shw (.mk xk ⟨#[]⟩ m []) = numT xk m := fun m hm hcst => by
    refine ⟨isN_of (s := ⟨false, -1, 0, 0⟩) (by rcases hk with rfl | rfl <;> rfl) (Nat.le_refl _) (.inr (by simp)) rfl ?_ (fun e => by omega) (fun e => by omega) (fun e => by omega) (fun j x e => by simp at e), by rw [shw_eq]; rcases hk with rfl | rfl <;> rfl⟩
    unfold numB
    simp only [true_and, Bool.and_eq_true, Bool.or_eq_true, decide_eq_true_eq, Bool.not_eq_true', beq_eq_false_iff_ne]
    have hm' : (if m < 0 then -m else m) = xn := by split <;> omega
    rw [hm']
    refine ⟨⟨⟨h0, h1⟩, .inl (by decide)⟩, ?_⟩
    by_cases hk1 : xk = 21
    ·exact .inr (h2 hk1)
    ·exact .inl hk1
   have fin : ∀ m : Int, isN (.mk xk ⟨#[]⟩ m []) true = true ∧ shw (.mk xk ⟨#[]⟩ m []) = numT xk m → Pc L k3 + cost (numT xk m) ≤ Pc L k4 → cls (Nd.mk 6 s (flagN st) [t, .mk xk ⟨#[]⟩ m []]).k = 1 ∧ isN (.mk 6 s (flagN st) [t, .mk xk ⟨#[]⟩ m []]) false = true ∧ Pc L i + cost (shw (.mk 6 s (flagN st) [t, .mk xk ⟨#[]⟩ m []])) ≤ Pc L j := fun m ⟨hx, hxw⟩ hcst => by
    refine ⟨rfl, isN_of (s := ⟨true, 1, 2, 2⟩) rfl (by simp) (.inr (by simp)) n1 (by cases st <;> rfl) (fun e => by cases e) (fun e => by cases e) (fun e => by cases e) (fun j z e => ?_), ?_⟩
    ·rcases j with _ | _ | j
     ·simp at e; subst e; exact ⟨kidB_of t1, t2⟩
     ·simp at e; subst e
      refine ⟨?_, hx⟩
      rcases hk with rfl | rfl <;> rfl
     ·simp at e
    ·have hw : shw (.mk 6 s (flagN st) [t, .mk xk ⟨#[]⟩ m []]) = statW (flagN st) ++ shw t ++ [s, ⟨#[61]⟩] ++ numT xk m ++ [⟨#[59]⟩] := by
      rw [shw_eq]
      show statW (flagN st) ++ shw t ++ [s, ⟨#[61]⟩] ++ shw (.mk xk ⟨#[]⟩ m []) ++ [⟨#[59]⟩] = _
      rw [hxw]
     rw [hw]
     simp only [cost_app, cost_cons, cost_nil]
     omega
   rcases hb : tIs L ⟨#[45]⟩ k3 with _ | _
   ·rw [hb] at h3
    simp only [Bool.false_eq_true, if_false] at h3 ⊢
    exact fin xn (key xn (.inl rfl) h3) h3
   ·rw [hb] at h3
    simp only [if_true] at h3 ⊢
    have p3 := Pc.is hb
    have hc2 : Pc L k3 + cost (numT xk (-xn)) ≤ Pc L k4 := by
     have : cost (numT xk (-xn)) ≤ 2 + cost (numT xk xn) := by
      unfold numT
      rw [Int.natAbs_neg]
      simp only [cost_app]
      split <;> split <;> simp only [cost_cons, cost_nil] <;> omega
     omega
    exact fin (-xn) (key (-xn) (.inr ⟨rfl, hb⟩) hc2) hc2
theorem unit_good (hL : ∀ t ∈ L, TokOk t.k t.s) (F : Nat) : ∀ (g : Nat) (l : List Nd) (i j : Nat) (n : Nd), unitM L F g l i = .ok n j → (∀ x ∈ l, cls x.k = 1 ∧ isN x false = true) → cost (l.map shw).flatten ≤ Pc L i → n.k = 1 ∧ isN n false = true ∧ cost (shw n) ≤ Pc L j
 | 0, _, _, _, _, h, _, _ => by cases h
 | g + 1, l, i, j, n, h, hl, hq => by
  rw [unitM] at h
  split at h
  ·obtain ⟨x, k, e, h⟩ := bind_okE h
   obtain ⟨a, b, c⟩ := decl_good hL F _ _ _ e
   refine unit_good hL F g (l ++ [x]) k j n h (fun y hy => ?_) ?_
   ·rcases List.mem_append.1 hy with hy | hy
    ·exact hl y hy
    ·simp at hy; subst hy; exact ⟨a, b⟩
   ·simp only [List.map_append, List.map_cons, List.map_nil, List.flatten_append, List.flatten_cons, List.flatten_nil, List.append_nil, cost_app]
    omega
  ·injection h with e1 e2
   subst e1 e2
   refine ⟨rfl, isN_of (s := ⟨false, 0, 0, -1⟩) rfl (Nat.zero_le _) (.inl (by decide)) rfl rfl (fun e => by cases e) (fun e => by cases e) (fun e => by cases e) (fun j z e => ⟨kidB_of (hl z (getElem?_mem e)).1, (hl z (getElem?_mem e)).2⟩), ?_⟩
   rw [show shw (.mk 1 ⟨#[]⟩ 0 l) = (l.map shw).flatten from shw_eq _]
   exact hq
end
theorem Pc_all (L : List Tok) (i : Nat) : Pc L i ≤ (rendL L).length := by
 unfold Pc
 have : ∀ (l : List Tok), (l.map tcost).sum = (rendL l).length := fun l => by
  induction l with
  | nil => rfl
  | cons t l ih =>
   rw [List.map_cons, List.sum_cons, ih]
   show _ = (rendT t.k t.s ++ rendL l).length
   unfold tcost rendT
   simp only [List.length_append, size_list, List.length_singleton]
 rw [← this L]
 conv => rhs; rw [← List.take_append_drop i L]
 rw [List.map_append, List.sum_append]
 omega
theorem print_parse {s : ByteArray} (h : (parseOf s).e = 0) : printE (parseOf s).n = 0 ∨ (printE (parseOf s).n = 1 ∧ 1333 < s.size) := by
 unfold parseOf at h ⊢
 unfold paOf at h ⊢
 by_cases he : (lexOf s).e = 0
 ·rw [if_neg (fun hn => hn he)] at h ⊢
  have hL := lexOf_ok s he
  rcases hu : unitR (lexOf s).l with ⟨n, j⟩ | k | _
  ·rw [hu] at h
   simp only at h ⊢
   by_cases hf : fitsN n = true
   ·simp only [hf, if_true] at h ⊢
    have hq := unit_good hL _ _ [] 0 j n hu (by simp) (by simp)
    obtain ⟨q1, q2, q3⟩ := hq
    unfold printE
    rw [if_neg (by rw [hf]; simp), if_neg (fun hn => hn ⟨q1, q2⟩)]
    by_cases hs : 1333 < s.size
    ·by_cases hl : 4000 < (joinW (shw n)).length
     ·rw [if_pos hl]; exact .inr ⟨rfl, hs⟩
     ·rw [if_neg hl]; exact .inl rfl
    ·have := cost_join (shw n)
     have := Pc_all (lexOf s).l j
     have := rend_len (by omega) he
     rw [if_neg (by omega)]
     exact .inl rfl
   ·simp only [hf] at h
    cases h
  ·rw [hu] at h; cases h
  ·exact absurd hu (unit_wet _)
 ·rw [if_pos he] at h
  exact absurd h he
end Go.Proofs.YtgegfbopogcjpaaGreatDoor
