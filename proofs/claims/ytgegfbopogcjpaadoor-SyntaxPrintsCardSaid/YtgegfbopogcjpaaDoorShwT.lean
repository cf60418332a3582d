/- A node's text out of its kids' texts, kind by kind. No program is in sight. -/
import Derived.Test.YtgegfbopogcjpaaDoorShwC
namespace Go.Proofs.YtgegfbopogcjpaaDoor
set_option linter.unusedVariables false
set_option linter.unusedSimpArgs false
theorem joinW_one (a : ByteArray) : joinW [a] = a.data.toList := rfl
theorem txt_3 {n : Nd} {x : Nd} (hk : n.k = 3) (hn : n.kids = [x]) (hx : shw x ≠ []) : sB (shw x) ++ (⟨#[32]⟩ : ByteArray) ++ n.t ++ (⟨#[32, 59]⟩ : ByteArray) = sB (shw n) := by
  apply Go.WideShapes.bytes_inj
  rw [sB_data, shw_eq n, hk, hn]
  simp [shwK, nthW, joinW_cons, joinW_app, joinW_one, sB_data, hx]
theorem txt_8 {n : Nd} {x : Nd} (hk : n.k = 8) (hn : n.kids = [x]) (hx : shw x ≠ []) : sB (shw x) ++ (⟨#[32]⟩ : ByteArray) ++ n.t = sB (shw n) := by
  apply Go.WideShapes.bytes_inj
  rw [sB_data, shw_eq n, hk, hn]
  simp [shwK, nthW, joinW_cons, joinW_app, joinW_one, sB_data, hx]
theorem txt_5 {n : Nd} {x : Nd} (hk : n.k = 5) (hn : n.kids = [x]) (hx : shw x ≠ []) : (⟨#[101, 120, 116, 101, 114, 110, 32]⟩ : ByteArray) ++ sB (shw x) ++ (⟨#[32]⟩ : ByteArray) ++ n.t ++ (⟨#[32, 59]⟩ : ByteArray) = sB (shw n) := by
  apply Go.WideShapes.bytes_inj
  rw [sB_data, shw_eq n, hk, hn]
  simp [shwK, nthW, joinW_cons, joinW_app, joinW_one, sB_data, hx]
theorem txt_14 {n : Nd} {x : Nd} {y : Nd} (hk : n.k = 14) (hn : n.kids = [x, y]) (hx : shw x ≠ []) (hy : shw y ≠ []) : sB (shw x) ++ (⟨#[32]⟩ : ByteArray) ++ n.t ++ (⟨#[32, 61, 32]⟩ : ByteArray) ++ sB (shw y) ++ (⟨#[32, 59]⟩ : ByteArray) = sB (shw n) := by
  apply Go.WideShapes.bytes_inj
  rw [sB_data, shw_eq n, hk, hn]
  simp [shwK, nthW, joinW_cons, joinW_app, joinW_one, sB_data, hx, hy]
theorem txt_15 {n : Nd} {x : Nd} {y : Nd} (hk : n.k = 15) (hn : n.kids = [x, y]) (hx : shw x ≠ []) (hy : shw y ≠ []) : sB (shw x) ++ (⟨#[32, 61, 32]⟩ : ByteArray) ++ sB (shw y) ++ (⟨#[32, 59]⟩ : ByteArray) = sB (shw n) := by
  apply Go.WideShapes.bytes_inj
  rw [sB_data, shw_eq n, hk, hn]
  simp [shwK, nthW, joinW_cons, joinW_app, joinW_one, sB_data, hx, hy]
theorem txt_18 {n : Nd} {x : Nd} (hk : n.k = 18) (hn : n.kids = [x]) (hx : shw x ≠ []) : (⟨#[114, 101, 116, 117, 114, 110, 32]⟩ : ByteArray) ++ sB (shw x) ++ (⟨#[32, 59]⟩ : ByteArray) = sB (shw n) := by
  apply Go.WideShapes.bytes_inj
  rw [sB_data, shw_eq n, hk, hn]
  simp [shwK, nthW, joinW_cons, joinW_app, joinW_one, sB_data, hx]
theorem txt_19 {n : Nd} {x : Nd} (hk : n.k = 19) (hn : n.kids = [x]) (hx : shw x ≠ []) : (⟨#[112, 117, 116, 32, 40, 32]⟩ : ByteArray) ++ sB (shw x) ++ (⟨#[32, 41, 32, 59]⟩ : ByteArray) = sB (shw n) := by
  apply Go.WideShapes.bytes_inj
  rw [sB_data, shw_eq n, hk, hn]
  simp [shwK, nthW, joinW_cons, joinW_app, joinW_one, sB_data, hx]
theorem txt_20 {n : Nd} {x : Nd} (hk : n.k = 20) (hn : n.kids = [x]) (hx : shw x ≠ []) : sB (shw x) ++ (⟨#[32, 59]⟩ : ByteArray) = sB (shw n) := by
  apply Go.WideShapes.bytes_inj
  rw [sB_data, shw_eq n, hk, hn]
  simp [shwK, nthW, joinW_cons, joinW_app, joinW_one, sB_data, hx]
theorem txt_30 {n : Nd} {x : Nd} (hk : n.k = 30) (hn : n.kids = [x]) (hx : shw x ≠ []) : (⟨#[105, 110, 116, 32, 40, 32]⟩ : ByteArray) ++ sB (shw x) ++ (⟨#[32, 41]⟩ : ByteArray) = sB (shw n) := by
  apply Go.WideShapes.bytes_inj
  rw [sB_data, shw_eq n, hk, hn]
  simp [shwK, nthW, joinW_cons, joinW_app, joinW_one, sB_data, hx]
theorem txt_31 {n : Nd} {x : Nd} (hk : n.k = 31) (hn : n.kids = [x]) (hx : shw x ≠ []) : (⟨#[108, 111, 110, 103, 32, 40, 32]⟩ : ByteArray) ++ sB (shw x) ++ (⟨#[32, 41]⟩ : ByteArray) = sB (shw n) := by
  apply Go.WideShapes.bytes_inj
  rw [sB_data, shw_eq n, hk, hn]
  simp [shwK, nthW, joinW_cons, joinW_app, joinW_one, sB_data, hx]
theorem txt_34 {n : Nd} {x : Nd} (hk : n.k = 34) (hn : n.kids = [x]) (hx : shw x ≠ []) : (⟨#[101, 120, 116, 114, 97, 32, 40, 32]⟩ : ByteArray) ++ sB (shw x) ++ (⟨#[32, 41]⟩ : ByteArray) = sB (shw n) := by
  apply Go.WideShapes.bytes_inj
  rw [sB_data, shw_eq n, hk, hn]
  simp [shwK, nthW, joinW_cons, joinW_app, joinW_one, sB_data, hx]
theorem txt_9 {n : Nd} (hk : n.k = 9) (hn : n.kids = [])  : (⟨#[105, 110, 116]⟩ : ByteArray) = sB (shw n) := by
  apply Go.WideShapes.bytes_inj
  rw [sB_data, shw_eq n, hk, hn]
  simp [shwK, nthW, joinW_cons, joinW_app, joinW_one, sB_data]
theorem txt_10 {n : Nd} (hk : n.k = 10) (hn : n.kids = [])  : (⟨#[108, 111, 110, 103]⟩ : ByteArray) = sB (shw n) := by
  apply Go.WideShapes.bytes_inj
  rw [sB_data, shw_eq n, hk, hn]
  simp [shwK, nthW, joinW_cons, joinW_app, joinW_one, sB_data]
theorem txt_33 {n : Nd} (hk : n.k = 33) (hn : n.kids = [])  : (⟨#[99, 111, 117, 110, 116]⟩ : ByteArray) = sB (shw n) := by
  apply Go.WideShapes.bytes_inj
  rw [sB_data, shw_eq n, hk, hn]
  simp [shwK, nthW, joinW_cons, joinW_app, joinW_one, sB_data]
theorem txt_26 {n : Nd} (hk : n.k = 26) (hn : n.kids = [])  : (⟨#[38, 32]⟩ : ByteArray) ++ n.t = sB (shw n) := by
  apply Go.WideShapes.bytes_inj
  rw [sB_data, shw_eq n, hk, hn]
  simp [shwK, nthW, joinW_cons, joinW_app, joinW_one, sB_data]
theorem txt_11 {n : Nd} (hk : n.k = 11 ∨ n.k = 23) : n.t = sB (shw n) := by
  apply Go.WideShapes.bytes_inj
  rw [sB_data, shw_eq n]
  rcases hk with hk | hk <;> rw [hk] <;> simp [shwK, joinW_one]
theorem flat_ne {l : List Nd} (h : ∀ m ∈ l, shw m ≠ []) (h0 : l ≠ []) : (l.map shw).flatten ≠ [] := by
  cases l with
  | nil => exact absurd rfl h0
  | cons m l =>
    have := h m (by simp)
    simp [this]
theorem all_ne {l : List Nd} (h : ∀ m ∈ l, shw m ≠ []) : ∀ x ∈ l.map shw, x ≠ [] := fun x hx => by obtain ⟨m, hm, rfl⟩ := List.mem_map.1 hx; exact h m hm
def jB (sep : List UInt8) (l : List Nd) : ByteArray := ⟨(jn sep ((l.map shw).map sB)).toArray⟩
theorem jB_blank {l : List Nd} (h : ∀ m ∈ l, shw m ≠ []) : (jB [32] l).data.toList = joinW (l.map shw).flatten := by
  rw [← jn_blank _ (all_ne h)]
  simp [jB]
theorem jB_comma {l : List Nd} (h : ∀ m ∈ l, shw m ≠ []) : (jB [32, 44, 32] l).data.toList = joinW (commas (l.map shw)) := by
  rw [← jn_comma _ (all_ne h)]
  simp [jB]
theorem txt_1 {n : Nd} (hk : n.k = 1) (h : ∀ m ∈ n.kids, shw m ≠ []) : jB [32] n.kids = sB (shw n) := by
  apply Go.WideShapes.bytes_inj
  rw [jB_blank h, sB_data, shw_eq n, hk]
  simp [shwK]
theorem txt_2 {n : Nd} (hk : n.k = 2) (h : ∀ m ∈ n.kids, shw m ≠ []) (h0 : n.kids ≠ []) : (⟨#[115, 116, 114, 117, 99, 116, 32]⟩ : ByteArray) ++ n.t ++ (⟨#[32, 123, 32]⟩ : ByteArray) ++ jB [32] n.kids ++ (⟨#[32, 125]⟩ : ByteArray) = sB (shw n) := by
  apply Go.WideShapes.bytes_inj
  have hf := flat_ne h h0
  rw [sB_data, shw_eq n, hk]
  simp only [shwK, Int.reduceEq, if_true, if_false]
  generalize hF : (n.kids.map shw).flatten = F at hf
  have hj := jB_blank h
  rw [hF] at hj
  simp [joinW_cons, joinW_app, joinW_one, hj, hf]
theorem txt_13 {n : Nd} (hk : n.k = 13) (h : ∀ m ∈ n.kids, shw m ≠ []) (h0 : n.kids ≠ []) : (⟨#[123, 32]⟩ : ByteArray) ++ jB [32] n.kids ++ (⟨#[32, 125]⟩ : ByteArray) = sB (shw n) := by
  apply Go.WideShapes.bytes_inj
  have hf := flat_ne h h0
  rw [sB_data, shw_eq n, hk]
  simp only [shwK, Int.reduceEq, if_true, if_false, or_self]
  generalize hF : (n.kids.map shw).flatten = F at hf
  have hj := jB_blank h
  rw [hF] at hj
  simp [joinW_cons, joinW_app, joinW_one, hj, hf]
theorem txt_13_no {n : Nd} (hk : n.k = 13) (h0 : n.kids = []) : (⟨#[123, 32, 125]⟩ : ByteArray) = sB (shw n) := by
  apply Go.WideShapes.bytes_inj
  rw [sB_data, shw_eq n, hk, h0]
  simp [shwK, joinW_cons, joinW_one]
theorem txt_27_no {n : Nd} (hk : n.k = 27) (h0 : n.kids = []) : n.t ++ (⟨#[32, 123, 32, 125]⟩ : ByteArray) = sB (shw n) := by
  apply Go.WideShapes.bytes_inj
  rw [sB_data, shw_eq n, hk, h0]
  simp [shwK, commas, joinW_cons, joinW_one]
theorem txt_27 {n : Nd} (hk : n.k = 27) (h : ∀ m ∈ n.kids, shw m ≠ []) (h0 : n.kids ≠ []) : n.t ++ (⟨#[32, 123, 32]⟩ : ByteArray) ++ jB [32, 44, 32] n.kids ++ (⟨#[32, 125]⟩ : ByteArray) = sB (shw n) := by
  apply Go.WideShapes.bytes_inj
  have hf := commas_ne (all_ne h) (by simpa using h0)
  rw [sB_data, shw_eq n, hk]
  simp only [shwK, Int.reduceEq, if_true, if_false, or_self]
  have hj := jB_comma h
  generalize hF : commas (n.kids.map shw) = F at hf hj ⊢
  simp [joinW_cons, joinW_app, joinW_one, hj, hf]
def statB (num : Int) : ByteArray := if num % 2 = 1 then (⟨#[115, 116, 97, 116, 105, 99, 32]⟩ : ByteArray) else ⟨#[]⟩
theorem joinW_stat (num : Int) {r : List ByteArray} (hr : r ≠ []) : joinW (statW num ++ r) = (statB num).data.toList ++ joinW r := by
  unfold statW statB
  split
  · rw [List.cons_append, List.nil_append, joinW_cons _ hr]; simp
  · simp
theorem txt_6 {n x y : Nd} (hk : n.k = 6) (hn : n.kids = [x, y]) (hx : shw x ≠ []) (hy : shw y ≠ []) : statB n.num ++ sB (shw x) ++ (⟨#[32]⟩ : ByteArray) ++ n.t ++ (⟨#[32, 61, 32]⟩ : ByteArray) ++ sB (shw y) ++ (⟨#[32, 59]⟩ : ByteArray) = sB (shw n) := by
  apply Go.WideShapes.bytes_inj
  rw [sB_data, shw_eq n, hk, hn]
  simp [shwK, nthW, joinW_stat, joinW_cons, joinW_app, joinW_one, sB_data, hx, hy]
theorem txt_7 {n x y : Nd} {l : List Nd} (hk : n.k = 7) (hn : n.kids = l ++ [x, y]) (hx : shw x ≠ []) (hy : shw y ≠ []) : statB n.num ++ sB (shw x) ++ (⟨#[32]⟩ : ByteArray) ++ n.t ++ (⟨#[32]⟩ : ByteArray) ++ sB (rowW (l.map shw) (decide (2 ≤ n.num))) ++ (⟨#[32]⟩ : ByteArray) ++ sB (shw y) = sB (shw n) := by
  apply Go.WideShapes.bytes_inj
  have e4 : (l.map shw ++ [shw x, shw y]).dropLast.dropLast = l.map shw := by
    rw [show l.map shw ++ [shw x, shw y] = l.map shw ++ [shw x] ++ [shw y] by simp, List.dropLast_concat, List.dropLast_concat]
  rw [sB_data, shw_eq n, hk, hn]
  simp only [shwK, Int.reduceEq, if_true, if_false, or_self, List.map_append, List.map_cons, List.map_nil, e4]
  have hr := rowW_ne (l.map shw) (decide (2 ≤ n.num))
  generalize rowW (l.map shw) (decide (2 ≤ n.num)) = R at hr ⊢
  simp [nthW, joinW_stat, joinW_cons, joinW_app, joinW_one, sB_data, hx, hy, hr]
theorem txt_4 {n x : Nd} {l : List Nd} (hk : n.k = 4) (hn : n.kids = l ++ [x]) (hx : shw x ≠ []) : (⟨#[101, 120, 116, 101, 114, 110, 32]⟩ : ByteArray) ++ sB (shw x) ++ (⟨#[32]⟩ : ByteArray) ++ n.t ++ (⟨#[32]⟩ : ByteArray) ++ sB (rowW (l.map shw) (n.num == 1)) ++ (⟨#[32, 59]⟩ : ByteArray) = sB (shw n) := by
  apply Go.WideShapes.bytes_inj
  rw [sB_data, shw_eq n, hk, hn]
  simp only [shwK, Int.reduceEq, if_true, if_false, or_self, List.map_append, List.map_cons, List.map_nil, List.dropLast_concat]
  have hr := rowW_ne (l.map shw) (n.num == 1)
  generalize rowW (l.map shw) (n.num == 1) = R at hr ⊢
  simp [nthW, joinW_cons, joinW_app, joinW_one, sB_data, hx, hr]
theorem txt_12 {n x : Nd} {l : List Nd} (hk : n.k = 12) (hn : n.kids = l ++ [x]) (hx : shw x ≠ []) : (⟨#[102, 110, 32]⟩ : ByteArray) ++ sB (rowW (l.map shw) (n.num == 1)) ++ (⟨#[32]⟩ : ByteArray) ++ sB (shw x) = sB (shw n) := by
  apply Go.WideShapes.bytes_inj
  rw [sB_data, shw_eq n, hk, hn]
  simp only [shwK, Int.reduceEq, if_true, if_false, or_self, List.map_append, List.map_cons, List.map_nil, List.dropLast_concat]
  have hr := rowW_ne (l.map shw) (n.num == 1)
  generalize rowW (l.map shw) (n.num == 1) = R at hr ⊢
  simp [nthW, joinW_cons, joinW_app, joinW_one, sB_data, hx, hr]
theorem txt_24 {n x : Nd} (hk : n.k = 24) (hn : n.kids = [x]) (hx : shw x ≠ []) : sB (atW 4 (bindN x) (shw x)) ++ (⟨#[32, 46, 32]⟩ : ByteArray) ++ n.t = sB (shw n) := by
  apply Go.WideShapes.bytes_inj
  have ha := atW_ne (least := 4) (b := bindN x) hx
  rw [sB_data, shw_eq n, hk, hn]
  simp [shwK, nthW, joinW_cons, joinW_app, joinW_one, sB_data, ha]
theorem txt_25 {n x : Nd} {l : List Nd} (hk : n.k = 25) (hn : n.kids = x :: l) (hx : shw x ≠ []) : sB (atW 4 (bindN x) (shw x)) ++ (⟨#[32]⟩ : ByteArray) ++ sB (rowW (l.map shw) false) = sB (shw n) := by
  apply Go.WideShapes.bytes_inj
  have ha := atW_ne (least := 4) (b := bindN x) hx
  have hr := rowW_ne (l.map shw) false
  rw [sB_data, shw_eq n, hk, hn]
  simp [shwK, nthW, joinW_cons, joinW_app, joinW_one, sB_data, ha, hr]
theorem txt_28 {n x : Nd} (hk : n.k = 28) (hn : n.kids = [x]) (hx : shw x ≠ []) : (⟨#[45, 32]⟩ : ByteArray) ++ sB (atW 3 (bindN x) (shw x)) = sB (shw n) := by
  apply Go.WideShapes.bytes_inj
  have ha := atW_ne (least := 3) (b := bindN x) hx
  rw [sB_data, shw_eq n, hk, hn]
  simp [shwK, nthW, joinW_cons, joinW_app, joinW_one, sB_data, ha]
theorem txt_29 {n x : Nd} (hk : n.k = 29) (hn : n.kids = [x]) (hx : shw x ≠ []) : (⟨#[33, 32]⟩ : ByteArray) ++ sB (atW 3 (bindN x) (shw x)) = sB (shw n) := by
  apply Go.WideShapes.bytes_inj
  have ha := atW_ne (least := 3) (b := bindN x) hx
  rw [sB_data, shw_eq n, hk, hn]
  simp [shwK, nthW, joinW_cons, joinW_app, joinW_one, sB_data, ha]
theorem txt_32 {n x y : Nd} (hk : n.k = 32) (hn : n.kids = [x, y]) (hx : shw x ≠ []) (hy : shw y ≠ []) : sB (atW (max (sgnB n.num) 1) (bindN x) (shw x)) ++ (⟨#[32]⟩ : ByteArray) ++ sgnT n.num ++ (⟨#[32]⟩ : ByteArray) ++ sB (atW (sgnB n.num + 1) (bindN y) (shw y)) = sB (shw n) := by
  apply Go.WideShapes.bytes_inj
  have ha := atW_ne (least := max (sgnB n.num) 1) (b := bindN x) hx
  have hb := atW_ne (least := sgnB n.num + 1) (b := bindN y) hy
  rw [sB_data, shw_eq n, hk, hn]
  simp [shwK, nthW, joinW_cons, joinW_app, joinW_one, sB_data, ha, hb]
theorem txt_num {n : Nd} (hk : n.k = 21 ∨ n.k = 22) : (if n.num < 0 then (⟨#[45, 32]⟩ : ByteArray) else ⟨#[]⟩) ++ (⟨(digsN n.num.natAbs).toArray⟩ : ByteArray) ++ (if n.k = 22 then (⟨#[76]⟩ : ByteArray) else ⟨#[]⟩) = sB (shw n) := by
  apply Go.WideShapes.bytes_inj
  rw [sB_data, shw_eq n]
  rcases hk with hk | hk <;> rw [hk] <;> simp only [shwK, Int.reduceEq, if_true, if_false, or_self, or_true, true_or, numT] <;> split <;> simp [joinW_cons, joinW_one]
theorem txt_if2 {n x y : Nd} (hk : n.k = 16 ∨ n.k = 17) (hn : n.kids = [x, y]) (hx : shw x ≠ []) (hy : shw y ≠ []) : (if n.k = 17 then (⟨#[119, 104, 105, 108, 101, 32, 40, 32]⟩ : ByteArray) else (⟨#[105, 102, 32, 40, 32]⟩ : ByteArray)) ++ sB (shw x) ++ (⟨#[32, 41, 32]⟩ : ByteArray) ++ sB (shw y) = sB (shw n) := by
  apply Go.WideShapes.bytes_inj
  rw [sB_data, shw_eq n]
  rcases hk with hk | hk <;> rw [hk, hn] <;> simp [shwK, nthW, joinW_cons, joinW_app, joinW_one, sB_data, hx, hy]
theorem txt_if3 {n x y z : Nd} (hk : n.k = 16) (hn : n.kids = [x, y, z]) (hx : shw x ≠ []) (hy : shw y ≠ []) (hz : shw z ≠ []) : (⟨#[105, 102, 32, 40, 32]⟩ : ByteArray) ++ sB (shw x) ++ (⟨#[32, 41, 32]⟩ : ByteArray) ++ sB (shw y) ++ ((⟨#[32, 101, 108, 115, 101, 32]⟩ : ByteArray) ++ sB (shw z)) = sB (shw n) := by
  apply Go.WideShapes.bytes_inj
  rw [sB_data, shw_eq n, hk, hn]
  simp [shwK, nthW, joinW_cons, joinW_app, joinW_one, sB_data, hx, hy, hz]
end Go.Proofs.YtgegfbopogcjpaaDoor
