/- The law SyntaxAgain. -/
import Derived.Test.YtgegfbopogcjpaaGreatDoorQ22
import Derived.Test.YtgegfbopogcjpaaGreatDoorQ25
import Derived.Test.YtgegfbopogcjpaaGreatDoorQ26
namespace Go.Proofs.YtgegfbopogcjpaaGreatDoor
open Go.RowKit
set_option linter.unusedVariables false
set_option linter.unusedSimpArgs false
set_option maxRecDepth 100000
set_option maxHeartbeats 1000000
theorem syntaxAgain_any (s : ByteArray) (w : World) (hE : Env w) (hX : ER w) : Calls Tryz.prog 5 #[.string s] w fun e w' => e = .returned (.bool true) ∧ Below w.heap.size w w' := by
 have P1 := Lib.hid (fun W (h1 : ML W) (h2 : ER W) => parse_any decl_all ⟨#[105, 110, 116, 32, 103, 61, 49, 59]⟩ W h1 h2)
 have P2 := Lib.hid (fun W (h1 : ML W) (h2 : ER W) => parse_any decl_all s W h1 h2)
 have P3 := Lib.hid (fun t W (h1 : ML W) (h2 : ER W) => parse_any decl_all t W h1 h2)
 have PP := Lib.hid (fun n h => parse_print (n := n) h)
 have Q := Lib.hid (fun (m : Nd) cs W (h : RepN W m cs) (h2 : Env W) => print_any m cs W h h2)
 unfold PaOut PaO at P1 P2 P3
 unfold PrintOut at Q
 rw [known_parse] at P1
 simp only at P1
 have HK : Hid (printT kn = ⟨#[105, 110, 116, 32, 103, 32, 61, 32, 49, 32, 59]⟩) := known_print
 generalize kn = K at *
 have HP := Lib.hid (fun h => print_parse (s := s) h)
 generalize parseOf s = P at *
 obtain ⟨n, E0, p⟩ := P
 simp only at P2 HP
 have B : Hid (Below w.heap.size w w) := Below.refl _ _
 have E := Lib.hid hE
 have X := Lib.hid hX
 clear hE hX
 go_enter Tryz.func5, Tryz.ntmps5
 go_wp2_with fail
 refine (P1.out _ E.out.ml X.out).mono ?_
 rintro e w1 ⟨A1, c1, rfl, hr, hb⟩
 replace B := Lib.hid (below_trans B.out (Nat.le_refl _) hb)
 replace E := Lib.hid (E.out.keep hb)
 replace X := Lib.hid (X.out.keep hb)
 clear hb
 have R1 := Lib.hid hr
 clear hr P1
 go_upto_region 2 with (fail)
 have K1 := Lib.hid ((Blk.new_ w1 24 #[.int .i64 K.k, .string K.t, .int .i64 K.num, .slice A1 K.kids.length c1]).alloc (.cells #[.int .i64 0, .int .i64 ((0 : Nat) : Int)] 27))
 have K2 : Hid (Blk ((w1.alloc (.cells #[.int .i64 K.k, .string K.t, .int .i64 K.num, .slice A1 K.kids.length c1] 24)).alloc (.cells #[.int .i64 0, .int .i64 ((0 : Nat) : Int)] 27)) (w1.heap.size + 1) 27 #[.int .i64 0, .int .i64 ((0 : Nat) : Int)]) := by
  have := Blk.new_ (w1.alloc (.cells #[.int .i64 K.k, .string K.t, .int .i64 K.num, .slice A1 K.kids.length c1] 24)) 27 #[.int .i64 0, .int .i64 ((0 : Nat) : Int)]
  rwa [World.size_alloc] at this
 have hb : Below w1.heap.size w1 ((w1.alloc (.cells #[.int .i64 K.k, .string K.t, .int .i64 K.num, .slice A1 K.kids.length c1] 24)).alloc (.cells #[.int .i64 0, .int .i64 ((0 : Nat) : Int)] 27)) := ((Below.refl _ _).alloc (Nat.le_refl _) _).alloc (by simp) _
 replace B := Lib.hid (below_trans B.out (Nat.le_refl _) hb)
 replace E := Lib.hid (E.out.keep hb)
 replace X := Lib.hid (X.out.keep hb)
 replace R1 := Lib.hid (RepN.keep hb _ _ R1.out)
 clear hb
 generalize (w1.alloc (.cells #[.int .i64 K.k, .string K.t, .int .i64 K.num, .slice A1 K.kids.length c1] 24)).alloc (.cells #[.int .i64 0, .int .i64 ((0 : Nat) : Int)] 27) = w2 at *
 have a0 := K1.out.cell 0 _ rfl
 have a1 := K1.out.cell 1 _ rfl
 have a2 := K1.out.cell 2 _ rfl
 have a3 := K1.out.cell 3 _ rfl
 go_wp2_with fail
 refine (Q.out K _ _ R1.out E.out).mono ?_
 rintro e w3 ⟨rfl, hb⟩
 rw [HK.out]
 replace B := Lib.hid (below_trans B.out (Nat.le_refl _) hb)
 replace E := Lib.hid (E.out.keep hb)
 replace X := Lib.hid (X.out.keep hb)
 clear hb
 clear a0 a1 a2 a3
 clear R1 K1 K2
 go_wp2_with fail
 refine (P2.out _ E.out.ml X.out).mono ?_
 rintro e w4 ⟨A2, c2, rfl, hr, hb⟩
 replace B := Lib.hid (below_trans B.out (Nat.le_refl _) hb)
 replace E := Lib.hid (E.out.keep hb)
 replace X := Lib.hid (X.out.keep hb)
 clear hb
 have R2 := Lib.hid hr
 clear hr P2
 go_upto_region 6 with (fail)
 have K3 := Lib.hid ((Blk.new_ w4 24 #[.int .i64 n.k, .string n.t, .int .i64 n.num, .slice A2 n.kids.length c2]).alloc (.cells #[.int .i64 E0, .int .i64 (p : Int)] 27))
 have K4 : Hid (Blk ((w4.alloc (.cells #[.int .i64 n.k, .string n.t, .int .i64 n.num, .slice A2 n.kids.length c2] 24)).alloc (.cells #[.int .i64 E0, .int .i64 (p : Int)] 27)) (w4.heap.size + 1) 27 #[.int .i64 E0, .int .i64 (p : Int)]) := by
  have := Blk.new_ (w4.alloc (.cells #[.int .i64 n.k, .string n.t, .int .i64 n.num, .slice A2 n.kids.length c2] 24)) 27 #[.int .i64 E0, .int .i64 (p : Int)]
  rwa [World.size_alloc] at this
 have hb : Below w4.heap.size w4 ((w4.alloc (.cells #[.int .i64 n.k, .string n.t, .int .i64 n.num, .slice A2 n.kids.length c2] 24)).alloc (.cells #[.int .i64 E0, .int .i64 (p : Int)] 27)) := ((Below.refl _ _).alloc (Nat.le_refl _) _).alloc (by simp) _
 replace B := Lib.hid (below_trans B.out (Nat.le_refl _) hb)
 replace E := Lib.hid (E.out.keep hb)
 replace X := Lib.hid (X.out.keep hb)
 replace R2 := Lib.hid (RepN.keep hb _ _ R2.out)
 clear hb
 generalize (w4.alloc (.cells #[.int .i64 n.k, .string n.t, .int .i64 n.num, .slice A2 n.kids.length c2] 24)).alloc (.cells #[.int .i64 E0, .int .i64 (p : Int)] 27) = w5 at *
 have a0 := K3.out.cell 0 _ rfl
 have a1 := K3.out.cell 1 _ rfl
 have a2 := K3.out.cell 2 _ rfl
 have a3 := K3.out.cell 3 _ rfl
 have b0 := K4.out.cell 0 _ rfl
 have b1 := K4.out.cell 1 _ rfl
 by_cases h0 : E0 = 0
 rotate_left
 ·have hd : (E0 == 0) = false := by simpa using h0
  go_wp2_with fail
  go_ret
  exact ⟨rfl, B.out⟩
 subst h0
 go_wp2_with fail
 refine (Q.out n _ _ R2.out E.out).mono ?_
 rintro e w6 ⟨rfl, hb⟩
 replace B := Lib.hid (below_trans B.out (Nat.le_refl _) hb)
 replace E := Lib.hid (E.out.keep hb)
 replace X := Lib.hid (X.out.keep hb)
 replace R2 := Lib.hid (RepN.keep hb _ _ R2.out)
 clear hb
 clear a0 a1 a2 a3 b0 b1
 rcases HP.out (by trivial) with h0 | ⟨h1, hs⟩
 rotate_left
 ·rw [h1]
  have hl1 : decide ((1333 : Int) < (s.size : Int)) = true := by rw [decide_eq_true_eq]; omega
  have hl2 : decide (1333 < s.size) = true := by rw [decide_eq_true_eq]; exact hs
  go_wp2_with fail
  go_ret
  exact ⟨rfl, B.out⟩
 have P4 := Lib.hid (P3.out (printT n))
 rw [PP.out n h0] at P4
 simp only at P4
 rw [h0]
 have Z := Lib.hid h0
 generalize hpt : printT n = PT at *
 have HT := Lib.hid hpt
 clear hpt h0
 go_wp2_with fail
 refine (P4.out _ E.out.ml X.out).mono ?_
 rintro e w7 ⟨A3, c3, rfl, hr, hb⟩
 replace B := Lib.hid (below_trans B.out (Nat.le_refl _) hb)
 replace E := Lib.hid (E.out.keep hb)
 replace X := Lib.hid (X.out.keep hb)
 clear hb
 have R3 := Lib.hid hr
 clear hr
 go_upto_region 12 with (fail)
 have K5 := Lib.hid ((Blk.new_ w7 24 #[.int .i64 n.k, .string n.t, .int .i64 n.num, .slice A3 n.kids.length c3]).alloc (.cells #[.int .i64 0, .int .i64 ((0 : Nat) : Int)] 27))
 have K6 : Hid (Blk ((w7.alloc (.cells #[.int .i64 n.k, .string n.t, .int .i64 n.num, .slice A3 n.kids.length c3] 24)).alloc (.cells #[.int .i64 0, .int .i64 ((0 : Nat) : Int)] 27)) (w7.heap.size + 1) 27 #[.int .i64 0, .int .i64 ((0 : Nat) : Int)]) := by
  have := Blk.new_ (w7.alloc (.cells #[.int .i64 n.k, .string n.t, .int .i64 n.num, .slice A3 n.kids.length c3] 24)) 27 #[.int .i64 0, .int .i64 ((0 : Nat) : Int)]
  rwa [World.size_alloc] at this
 have hb : Below w7.heap.size w7 ((w7.alloc (.cells #[.int .i64 n.k, .string n.t, .int .i64 n.num, .slice A3 n.kids.length c3] 24)).alloc (.cells #[.int .i64 0, .int .i64 ((0 : Nat) : Int)] 27)) := ((Below.refl _ _).alloc (Nat.le_refl _) _).alloc (by simp) _
 replace B := Lib.hid (below_trans B.out (Nat.le_refl _) hb)
 replace E := Lib.hid (E.out.keep hb)
 replace X := Lib.hid (X.out.keep hb)
 replace R3 := Lib.hid (RepN.keep hb _ _ R3.out)
 clear hb
 generalize (w7.alloc (.cells #[.int .i64 n.k, .string n.t, .int .i64 n.num, .slice A3 n.kids.length c3] 24)).alloc (.cells #[.int .i64 0, .int .i64 ((0 : Nat) : Int)] 27) = w8 at *
 have a0 := K5.out.cell 0 _ rfl
 have a1 := K5.out.cell 1 _ rfl
 have a2 := K5.out.cell 2 _ rfl
 have a3 := K5.out.cell 3 _ rfl
 go_wp2_with fail
 refine (Q.out n _ _ R3.out E.out).mono ?_
 rintro e w9 ⟨rfl, hb⟩
 rw [HT.out, Z.out]
 replace B := Lib.hid (below_trans B.out (Nat.le_refl _) hb)
 replace K6 := Lib.hid (K6.out.below hb)
 clear hb
 clear a0 a1 a2 a3
 have b0 := K6.out.cell 0 _ rfl
 have b1 := K6.out.cell 1 _ rfl
 go_wp2_with fail
 go_ret
 exact ⟨rfl, B.out⟩
end Go.Proofs.YtgegfbopogcjpaaGreatDoor
