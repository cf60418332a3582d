/- Digits (ref2.Digits), long ones (ref6.Long), texts joined (ref6.joined). -/
import Derived.Test.YtgegfbopogcjpaaDoorShwA
import Derived.Test.YtgegfbopogcjpaaDoorOpenN
import Derived.WalkLawsBesides
import Derived.Lib.Hide
import Derived.IntWalk
import Derived.Laws.IdiomStrings
namespace Go.Proofs.YtgegfbopogcjpaaDoor
open Go.RowKit
set_option linter.unusedVariables false
set_option linter.unusedSimpArgs false
set_option maxRecDepth 100000
set_option maxHeartbeats 1000000
def dB (n : Nat) : ByteArray := ⟨(digsN n).toArray⟩
theorem dB_data (n : Nat) : (dB n).data.toList = digsN n := by simp [dB]
theorem dB_size {n : Nat} (h : n ≤ 9223372036854775807) : (dB n).size ≤ 19 := by
  have e : (dB n).size = (digsN n).length := by rw [← dB_data]; simp
  rw [e]
  have := nDig_le 18 n (by omega)
  unfold digsN
  rw [Lib.decDigits_length]
  exact this
/-- the last digit -/
def dch (n : Nat) : ByteArray := ⟨#[UInt8.ofNat (48 + n % 10)]⟩
theorem dch_size (n : Nat) : (dch n).size = 1 := rfl
theorem dB_one {n : Nat} (h : n < 10) : dB n = dch n := by
  apply Go.WideShapes.bytes_inj
  rw [dB_data]
  unfold digsN dch
  rw [Lib.decDigits, dif_pos h, Nat.mod_eq_of_lt h]
theorem dB_more {n : Nat} (h : ¬ n < 10) : dB n = dB (n / 10) ++ dch n := by
  apply Go.WideShapes.bytes_inj
  simp only [ByteArray.data_append, Array.toList_append]
  rw [dB_data, dB_data]
  unfold digsN dch
  rw [Lib.decDigits, dif_neg h]
theorem dig_conv (w : World) (n : Nat) : (convert 49 9 (.slice (some ⟨w.heap.size, 0, none⟩) 1 1)).run Tryd.prog (w.alloc (.cells #[.int .u8 (48 + (n : Int) % 10)] 5)) = .ok (.string (dch n)) (w.alloc (.cells #[.int .u8 (48 + (n : Int) % 10)] 5)) := by
  refine run_convert_bytes_back _ _ _ 5 ⟨w.heap.size, 0, none⟩ 1 [UInt8.ofNat (48 + n % 10)] (by kernel_rfl) (by kernel_rfl) (by kernel_rfl) ?_
  intro j hj
  have hj0 : j = 0 := by simpa using hj
  subst hj0
  have e : ((UInt8.ofNat (48 + n % 10)).toNat : Int) = 48 + (n : Int) % 10 := by
    rw [UInt8.toNat_ofNat']
    omega
  simp only [List.getElem_cons_zero, e]
  have := (Blk.new_ w 5 #[.int .u8 (48 + (n : Int) % 10)]).cell 0 _ rfl
  first | (simp [Addr.add]; done) | simpa [Addr.add] using this
def DgOut (n : Nat) (w : World) (e : Ending) (w' : World) : Prop := e = .returned (.string (dB n)) ∧ Below w.heap.size w w'
theorem dig_all : ∀ (N n : Nat), n ≤ N → ∀ w : World, n ≤ 9223372036854775807 → Calls Tryd.prog 51 #[.int .i64 (n : Int)] w (DgOut n w) := by
  intro N
  induction N with
  | zero =>
    intro n hn w hb
    have h : n < 10 := by omega
    have d1 : decide ((n : Int) < 10) = true := by rw [decide_eq_true_eq]; omega
    have d0 : decide ((n : Int) < 0) = false := by rw [decide_eq_false_iff_not]; omega
    have d2 : (n : Int) < 10 := by omega
    have HV := Lib.hid (dB_one h)
    have kc := dig_conv w n
    clear h hn
    go_enter Tryd.func51, Tryd.ntmps51
    go_wp2_with fail
    go_ret
    exact ⟨by rw [HV.out]; rfl, by (repeat (first | with_reducible assumption | with_reducible exact Below.refl _ _ | (refine Below.setCell ?_ (by first | omega | (simp; done) | (simp; omega)) _) | (refine Below.drewN_ ?_ _) | (refine Below.drew ?_) | (refine Below.alloc ?_ (by first | omega | (simp; done) | (simp; omega)) _)))⟩
  | succ N ih =>
    intro n hn w hb
    by_cases h : n < 10
    · have d1 : decide ((n : Int) < 10) = true := by rw [decide_eq_true_eq]; omega
      have d0 : decide ((n : Int) < 0) = false := by rw [decide_eq_false_iff_not]; omega
      have d2 : (n : Int) < 10 := by omega
      have HV := Lib.hid (dB_one h)
      have kc := dig_conv w n
      clear h hn ih
      go_enter Tryd.func51, Tryd.ntmps51
      go_wp2_with fail
      go_ret
      exact ⟨by rw [HV.out]; rfl, by (repeat (first | with_reducible assumption | with_reducible exact Below.refl _ _ | (refine Below.setCell ?_ (by first | omega | (simp; done) | (simp; omega)) _) | (refine Below.drewN_ ?_ _) | (refine Below.drew ?_) | (refine Below.alloc ?_ (by first | omega | (simp; done) | (simp; omega)) _)))⟩
    · have d1 : decide ((n : Int) < 10) = false := by rw [decide_eq_false_iff_not]; omega
      have d0 : decide ((n : Int) < 0) = false := by rw [decide_eq_false_iff_not]; omega
      have d2 : ¬ (n : Int) < 10 := by omega
      have hz : (dB (n / 10)).size ≤ 19 := dB_size (by omega)
      have IH := Lib.hid (fun w => ih (n / 10) (by omega) w (by omega))
      have HV := Lib.hid (dB_more h)
      have kc := dig_conv w n
      clear h hn ih
      go_enter Tryd.func51, Tryd.ntmps51
      go_wp2_with fail
      refine (IH.out _).mono ?_
      rintro e w1 ⟨rfl, hb1⟩
      have B1 : Hid (Below w.heap.size w w1) := Below.trans ((Below.refl _ _).alloc (Nat.le_refl _) _) (hb1.mono (by simp))
      have hd := dch_size n
      generalize dch n = D at *
      generalize dB (n / 10) = E at *
      clear hb1
      go_wp2_with fail
      go_ret
      exact ⟨by rw [HV.out]; rfl, B1.out⟩
theorem dig_any (n : Nat) (w : World) (h : n ≤ 9223372036854775807) : Calls Tryd.prog 51 #[.int .i64 (n : Int)] w (DgOut n w) := dig_all n n (Nat.le_refl _) w h
/-- the last j digits -/
def fd : Nat → Nat → List UInt8
  | 0, _ => []
  | j + 1, m => fd j (m / 10) ++ [UInt8.ofNat (48 + m % 10)]
theorem fd_zero : ∀ j, fd j 0 = List.replicate j 48
  | 0 => rfl
  | j + 1 => by rw [fd, Nat.zero_div, fd_zero j, List.replicate_succ']; rfl
theorem digs_big {m : Nat} (h : ¬ m < 10) : digsN m = digsN (m / 10) ++ [UInt8.ofNat (48 + m % 10)] := by
  unfold digsN
  conv => lhs; rw [Lib.decDigits, dif_neg h]
theorem digs_small {m : Nat} (h : m < 10) : digsN m = [UInt8.ofNat (48 + m)] := by
  unfold digsN
  rw [Lib.decDigits, dif_pos h]
theorem digs_fd : ∀ (j n : Nat), 10 ^ j ≤ n → digsN n = digsN (n / 10 ^ j) ++ fd j n ∨ n / 10 ^ j = 0
  | 0, n, h => .inl (by simp [fd])
  | j + 1, n, h => by
    have hp : 10 ^ (j + 1) = 10 ^ j * 10 := Nat.pow_succ ..
    have h1 : 10 ≤ n := by have : 0 < 10 ^ j := Nat.pow_pos (by decide); omega
    rcases digs_fd j (n / 10) (by omega) with h2 | h2
    · left
      rw [digs_big (by omega), h2, fd, Nat.div_div_eq_div_mul, hp, Nat.mul_comm 10]
      simp
    · right
      rw [Nat.div_div_eq_div_mul, Nat.mul_comm 10] at h2
      rw [hp]; exact h2
theorem fd_pad : ∀ (j m : Nat), 0 < j → m < 10 ^ j → ∃ k, k + (digsN m).length = j ∧ fd j m = List.replicate k 48 ++ digsN m
  | 0, m, h, _ => absurd h (by omega)
  | j + 1, m, _, hm => by
    have hp : 10 ^ (j + 1) = 10 ^ j * 10 := Nat.pow_succ ..
    by_cases h : m < 10
    · refine ⟨j, by rw [digs_small h]; rfl, ?_⟩
      rw [fd, Nat.div_eq_of_lt h, fd_zero, digs_small h, Nat.mod_eq_of_lt h]
    · have hj : 0 < j := by
        rcases j with _ | j
        · simp at hm; omega
        · omega
      obtain ⟨k, h1, h2⟩ := fd_pad j (m / 10) hj (by omega)
      refine ⟨k, by rw [digs_big h]; simp; omega, ?_⟩
      rw [fd, h2, digs_big h]
      simp
theorem fd_mod : ∀ (j m : Nat), fd j (m % 10 ^ j) = fd j m
  | 0, m => rfl
  | j + 1, m => by
    have hp : 10 ^ (j + 1) = 10 * 10 ^ j := by rw [Nat.pow_succ, Nat.mul_comm]
    rw [fd, fd, ← fd_mod j (m / 10), hp, Nat.mod_mul_right_div_self, Nat.mod_mul_right_mod]
theorem digs_million {n : Nat} (h : 1000000 ≤ n) : ∃ k, k + (digsN (n % 1000000)).length = 6 ∧ digsN n = digsN (n / 1000000) ++ (List.replicate k 48 ++ digsN (n % 1000000)) := by
  obtain ⟨k, h1, h2⟩ := fd_pad 6 (n % 1000000) (by decide) (by omega)
  refine ⟨k, h1, ?_⟩
  rw [← h2, show (1000000 : Nat) = 10 ^ 6 from rfl, fd_mod]
  rcases digs_fd 6 n h with h3 | h3
  · exact h3
  · omega
def LgRel (m K : Nat) (w : World) (s : Value) (wr : World) : Prop :=
  ∃ (k : Nat) (S : ByteArray), s = .string S ∧ S.data.toList = List.replicate k 48 ++ digsN m ∧ S.size = k + (digsN m).length ∧ k ≤ K ∧ Hid (wr = w)
theorem long_all : ∀ (N n : Nat), n ≤ N → ∀ w : World, n ≤ 9223372036854775807 → Calls Tryd.prog 37 #[.int .i64 (n : Int)] w (DgOut n w) := by
  intro N
  induction N with
  | zero =>
    intro n hn w hb
    have d1 : decide ((n : Int) < 1000000) = true := by rw [decide_eq_true_eq]; omega
    have d2 : (n : Int) < 1000000 := by omega
    have DG := Lib.hid (dig_any n w hb)
    go_enter Tryd.func37, Tryd.ntmps37
    go_wp2_with fail
    refine DG.out.mono ?_
    rintro e w1 ⟨rfl, hb1⟩
    have B1 := Lib.hid hb1
    clear hb1
    go_wp2_with fail
    go_ret
    exact ⟨rfl, B1.out⟩
  | succ N ih =>
    intro n hn w hb
    by_cases h : n < 1000000
    · have d1 : decide ((n : Int) < 1000000) = true := by rw [decide_eq_true_eq]; omega
      have d2 : (n : Int) < 1000000 := by omega
      have DG := Lib.hid (dig_any n w hb)
      go_enter Tryd.func37, Tryd.ntmps37
      go_wp2_with fail
      refine DG.out.mono ?_
      rintro e w1 ⟨rfl, hb1⟩
      have B1 := Lib.hid hb1
      clear hb1
      go_wp2_with fail
      go_ret
      exact ⟨rfl, B1.out⟩
    · have d1 : decide ((n : Int) < 1000000) = false := by rw [decide_eq_false_iff_not]; omega
      have d2 : ¬ (n : Int) < 1000000 := by omega
      have hz : (dB (n / 1000000)).size ≤ 19 := dB_size (by omega)
      have IH := Lib.hid (fun w => ih (n / 1000000) (by omega) w (by omega))
      have DG := Lib.hid (fun w => dig_any (n % 1000000) w (by omega))
      obtain ⟨K, hK, hV⟩ := digs_million (n := n) (by omega)
      have HV := Lib.hid hV
      have hds : (dB (n % 1000000)).size = (digsN (n % 1000000)).length := by rw [← dB_data]; simp
      have hdd := dB_data (n % 1000000)
      have hdh := dB_data (n / 1000000)
      have HDD := Lib.hid hdd
      have HDH := Lib.hid hdh
      have hq : (n : Int) / 1000000 = ((n / 1000000 : Nat) : Int) := by omega
      have hr : (n : Int) % 1000000 = ((n % 1000000 : Nat) : Int) := by omega
      have HQ := Lib.hid hq
      have HR := Lib.hid hr
      clear h hn ih hV hdd hdh hq hr
      go_enter Tryd.func37, Tryd.ntmps37
      go_wp2_with fail
      first
        | rw [HQ.out]
        | skip
      refine (IH.out _).mono ?_
      rintro e w1 ⟨rfl, hb1⟩
      have B1 := Lib.hid hb1
      clear hb1
      generalize n / 1000000 = hi at *
      go_wp2_with fail
      first
        | rw [HR.out]
        | skip
      refine (DG.out _).mono ?_
      rintro e w2 ⟨rfl, hb2⟩
      have B2 : Hid (Below w.heap.size w w2) := below_trans B1.out (Nat.le_refl _) hb2
      clear hb2
      generalize n % 1000000 = lo at *
      generalize dB lo = L at *
      generalize dB hi = G at *
      go_wp2_with fail
      go_loopw [4] (fun s wr => LgRel lo K w2 s wr) (fun s _ => match s with | .string S => 6 - S.size | _ => 0)
      case atStart => exact ⟨0, L, rfl, by rw [HDD.out]; rfl, by rw [hds]; omega, Nat.zero_le _, rfl⟩
      case round =>
        obtain ⟨k, S, rfl, hS, hSz, hk, hwr⟩ := hrel
        have hwr' := hwr.out
        subst hwr'
        have HS := Lib.hid hS
        clear hS
        have HSZ := Lib.hid hSz
        have HKK := Lib.hid hk
        have HK6 := Lib.hid hK
        clear hSz hk hK hds
        by_cases hlt : S.size < 6
        · have e1 : decide ((S.size : Int) < 6) = true := by rw [decide_eq_true_eq]; omega
          have e2 : (S.size : Int) < 6 := by omega
          go_wp2
          go_roundw
          case rel => exact ⟨k + 1, _, rfl, by simp [HS.out, List.replicate_succ], by rw [ByteArray.size_append]; show 1 + S.size = _; have := HSZ.out; omega, by have := HSZ.out; have := HK6.out; omega, rfl⟩
          case measure => show 6 - (_ ++ S).size < 6 - S.size; rw [ByteArray.size_append]; show 6 - (1 + S.size) < 6 - S.size; omega
        · have e1 : decide ((S.size : Int) < 6) = false := by rw [decide_eq_false_iff_not]; omega
          have e2 : ¬ (S.size : Int) < 6 := by omega
          have HE : Hid (k = K) := by show _ = _; have := HSZ.out; have := HK6.out; have := HKK.out; omega
          have hSl : S.size ≤ 20 := by have := HSZ.out; have := HK6.out; have := HKK.out; omega
          clear d1 d2
          go_wp2
          go_ret
          refine ⟨?_, B2.out⟩
          show Ending.returned (.string (G ++ S)) = _
          congr 2
          apply Go.WideShapes.bytes_inj
          rw [dB_data, HV.out]
          simp [HS.out, HDH.out, HE.out]
theorem long_any (n : Nat) (w : World) (h : n ≤ 9223372036854775807) : Calls Tryd.prog 37 #[.int .i64 (n : Int)] w (DgOut n w) := long_all n n (Nat.le_refl _) w h
/-- from A on lie these texts -/
def StrL (w : World) (ts : List ByteArray) (A : Option Addr) : Prop := ∀ i (h : i < ts.length), ∃ b o, A = some ⟨b, o, none⟩ ∧ b < w.heap.size ∧ w.cell? ⟨b, o + i, none⟩ = some (.string ts[i])
def JnRel (ts : List ByteArray) (sep : ByteArray) (w : World) (s i : Value) (wr : World) : Prop :=
  ∃ (k : Nat) (S : ByteArray), i = .int .i64 k ∧ s = .string S ∧ k ≤ ts.length ∧ Hid (S.data.toList = jn sep.data.toList (ts.take k) ∧ wr = w)
theorem jn_step (sep : List UInt8) {ts : List ByteArray} {k : Nat} (h : k < ts.length) : jn sep (ts.take (k + 1)) = if k = 0 then ts[k].data.toList else jn sep (ts.take k) ++ (sep ++ ts[k].data.toList) := by
  rw [List.take_succ_eq_append_getElem h]
  by_cases h0 : k = 0
  · subst h0
    rw [if_pos rfl]
    rfl
  · rw [if_neg h0, jn_snoc _ _ (by intro e; have := congrArg List.length e; rw [List.length_take, List.length_nil] at this; omega)]
theorem joined_any (ts : List ByteArray) (sep : ByteArray) (A : Option Addr) (c : Nat) (w : World) (h : StrL w ts A) (hs : sep.size ≤ 3) (hl : (jn sep.data.toList ts).length ≤ 200000) (hn : ts.length ≤ 100000) :
    Calls Tryd.prog 34 #[.slice A ts.length c, .string sep] w fun e w' => e = .returned (.string ⟨(jn sep.data.toList ts).toArray⟩) ∧ w' = w := by
  have H := Lib.hid h
  have HL := Lib.hid hl
  obtain ⟨V, HV⟩ : ∃ V : ByteArray, Hid (V = ⟨(jn sep.data.toList ts).toArray⟩) := ⟨_, rfl⟩
  rw [← HV.out]
  clear h hl
  go_enter Tryd.func34, Tryd.ntmps34
  go_wp2_with fail
  go_loopw [5, 6] (fun s i wr => JnRel ts sep w s i wr) (fun _ i _ => ts.length - (intOf i).toNat)
  case atStart => exact ⟨0, _, rfl, rfl, Nat.zero_le _, Lib.hid ⟨rfl, rfl⟩⟩
  case round =>
    obtain ⟨k, S, rfl, rfl, hk, HX⟩ := hrel
    have hw := HX.out.2
    subst hw
    have hS1 := jn_take_le sep.data.toList ts k
    have hSs : S.size = (jn sep.data.toList (ts.take k)).length := by rw [← HX.out.1]; simp
    have hLL := HL.out
    have hS2 : S.size ≤ 200000 := by omega
    by_cases hlt : k < ts.length
    · have hi : (k : Int) < (ts.length : Int) := by omega
      have d1 : decide ((k : Int) < (ts.length : Int)) = true := by simpa using hi
      obtain ⟨b, o, rfl, hb, q⟩ := H.out k hlt
      have ht := jn_at_le sep.data.toList ts k hlt
      have ht2 : ts[k].size ≤ 200000 := by omega
      have HST := Lib.hid (jn_step sep.data.toList hlt)
      clear hS1 hSs hLL ht
      generalize ts[k] = x at *
      by_cases h0 : k = 0
      · subst h0
        have HS0 : Hid (S = ⟨#[]⟩) := Go.WideShapes.bytes_inj (by rw [HX.out.1]; rfl)
        rw [if_pos rfl] at HST
        rw [Nat.add_zero] at q
        go_wp2
        go_roundw
        case rel => exact ⟨1, _, rfl, rfl, by omega, Lib.hid ⟨by rw [HST.out, HS0.out]; simp, rfl⟩⟩
        case measure => (first | (simp [intOf]; done) | (simp [intOf]; omega))
      · have hp : (0 : Int) < (k : Int) := by omega
        have d2 : decide ((0 : Int) < (k : Int)) = true := by rw [decide_eq_true_eq]; omega
        rw [if_neg h0] at HST
        have H0 := Lib.hid h0
        clear h0
        go_wp2
        go_roundw
        case rel => exact ⟨k + 1, _, by go_num, rfl, by omega, Lib.hid ⟨by rw [HST.out]; simp [HX.out.1], rfl⟩⟩
        case measure => (first | (simp [intOf]; done) | (simp [intOf]; omega))
    · have hi : ¬ (k : Int) < (ts.length : Int) := by omega
      have d1 : decide ((k : Int) < (ts.length : Int)) = false := by simpa using hi
      have HE : Hid (S = V) := by
        show _ = _
        rw [HV.out]
        apply Go.WideShapes.bytes_inj
        rw [HX.out.1, List.take_of_length_le (by omega)]
      clear hS1 hSs hLL
      go_wp2
      go_ret
      exact ⟨by rw [← HE.out]; rfl, rfl⟩
end Go.Proofs.YtgegfbopogcjpaaDoor
