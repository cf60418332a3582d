/- What a node may be, and the words that show it. No program is in sight. -/
import Derived.Test.YtgegfbopogcjpaaDoorSynA
import Derived.Lib.ItoaNum
namespace Go.Proofs.YtgegfbopogcjpaaDoor
set_option linter.unusedVariables false
set_option linter.unusedSimpArgs false
/-- what a kind's node has: a text, the greatest number (below 0: any), how many kids at least and at most (below 0: any) -/
structure Shp where
  text : Bool
  num : Int
  least : Nat
  most : Int
def shp (k : Int) : Option Shp :=
  if k = 1 ∨ k = 13 then some ⟨false, 0, 0, -1⟩
  else if k = 2 then some ⟨true, 0, 1, -1⟩
  else if k = 3 ∨ k = 5 ∨ k = 8 ∨ k = 24 then some ⟨true, 0, 1, 1⟩
  else if k = 4 then some ⟨true, 1, 1, -1⟩
  else if k = 6 then some ⟨true, 1, 2, 2⟩
  else if k = 7 then some ⟨true, 3, 2, -1⟩
  else if k = 9 ∨ k = 10 ∨ k = 33 then some ⟨false, 0, 0, 0⟩
  else if k = 11 ∨ k = 23 ∨ k = 26 then some ⟨true, 0, 0, 0⟩
  else if k = 12 then some ⟨false, 1, 1, -1⟩
  else if k = 14 then some ⟨true, 0, 2, 2⟩
  else if k = 15 ∨ k = 17 then some ⟨false, 0, 2, 2⟩
  else if k = 16 then some ⟨false, 0, 2, 3⟩
  else if k = 18 ∨ k = 19 ∨ k = 20 ∨ k = 28 ∨ k = 29 ∨ k = 30 ∨ k = 31 ∨ k = 34 then some ⟨false, 0, 1, 1⟩
  else if k = 21 ∨ k = 22 then some ⟨false, -1, 0, 0⟩
  else if k = 25 then some ⟨false, 0, 1, -1⟩
  else if k = 27 then some ⟨true, 0, 0, -1⟩
  else if k = 32 then some ⟨false, 12, 2, 2⟩
  else none
/-- classes: 1 declarations, 2 types, 3 statements, 4 expressions, 5 parts of others -/
def cls (k : Int) : Int :=
  if k = 2 ∨ 4 ≤ k ∧ k ≤ 7 then 1
  else if 9 ≤ k ∧ k ≤ 12 then 2
  else if 14 ≤ k ∧ k ≤ 20 then 3
  else if 21 ≤ k ∧ k ≤ 34 then 4
  else 5
/-- an operation's sign, and how closely it binds -/
def sgn (op : Int) : Option (ByteArray × Int) :=
  if op = 12 then some (⟨#[61, 61]⟩, 0)
  else if op = 10 then some (⟨#[60]⟩, 0)
  else if op = 1 then some (⟨#[43]⟩, 1)
  else if op = 2 then some (⟨#[45]⟩, 1)
  else if op = 8 then some (⟨#[124]⟩, 1)
  else if op = 9 then some (⟨#[94]⟩, 1)
  else if op = 3 then some (⟨#[42]⟩, 2)
  else if op = 5 then some (⟨#[47]⟩, 2)
  else if op = 6 then some (⟨#[37]⟩, 2)
  else if op = 7 then some (⟨#[38]⟩, 2)
  else none
def sgnB (op : Int) : Int := match sgn op with
  | some x => x.2
  | none => -1
def sgnT (op : Int) : ByteArray := match sgn op with
  | some x => x.1
  | none => ⟨#[]⟩
def bindK (k num : Int) : Int := if k = 28 ∨ k = 29 then 3 else if k = 32 then sgnB num else 4
def bindN (n : Nd) : Int := bindK n.k n.num
def headK (d : Bool) (k : Int) : Bool := k == 24 || (d && k == 25)
/-- of dots (and calls) what stands first -/
def baseN (calls : Bool) : Nd → Nd
  | .mk k t num [] => .mk k t num []
  | .mk k t num (m :: ms) => if headK calls k = true then baseN calls m else .mk k t num (m :: ms)
/-- is the number one that a kind's node may have? -/
def numB (k num nm : Int) (free : Bool) : Bool :=
  let m := if free = true ∧ num < 0 then -num else num
  decide (0 ≤ m) && decide (m ≤ 9223372036854775807) && (decide (nm < 0) || decide (m ≤ nm)) && (!(k == 21) || decide (m ≤ 2147483647))
/-- what the kid i of len is to be: its class; 0 or the kind of a part; -1: a number -/
def wantC (k : Int) (i len : Nat) : Int × Int :=
  if k = 1 then (1, 0)
  else if k = 2 then (5, 3)
  else if k = 3 ∨ k = 5 ∨ k = 8 ∨ k = 12 then (2, 0)
  else if k = 4 then (if i + 1 = len then (2, 0) else (5, 8))
  else if k = 6 then (if i = 0 then (2, 0) else (4, -1))
  else if k = 7 then (if i + 1 = len then (5, 13) else if i + 2 = len then (2, 0) else (5, 8))
  else if k = 13 then (3, 0)
  else if k = 14 then (if i = 0 then (2, 0) else (4, 0))
  else if k = 16 ∨ k = 17 then (if 0 < i then (5, 13) else (4, 0))
  else (4, 0)
def kidB (w : Int × Int) (k : Int) : Bool := (cls k == w.1) && (decide (w.2 ≤ 0) || k == w.2) && (decide (0 ≤ w.2) || (k == 21 || k == 22))
mutual
def isN : Nd → Bool → Bool
  | .mk k t num kids, free => match shp k with
    | none => false
    | some s => decide (s.least ≤ kids.length) && (decide (s.most < 0) || decide ((kids.length : Int) ≤ s.most)) && (s.text == decide (t.size ≠ 0)) && (!s.text || nameOf t) && numB k num s.num free &&
      (!(k == 32) || (sgn num).isSome) && (!(k == 15) || (match kids with | [] => false | m :: _ => (baseN false m).k == 23)) && (!(k == 20) || (match kids with | [] => false | m :: _ => m.k == 25 && (baseN true m).k == 23)) && isNL k 0 kids.length kids
def isNL (k : Int) (i len : Nat) : List Nd → Bool
  | [] => true
  | n :: ns => kidB (wantC k i len) n.k && isN n (decide ((wantC k i len).2 < 0)) && isNL k (i + 1) len ns
end
/-- digits of a number from 0 on -/
def digsN (n : Nat) : List UInt8 := Lib.decDigits n
def numT (k num : Int) : List ByteArray :=
  (if num < 0 then [⟨#[45]⟩] else []) ++ [⟨(digsN num.natAbs ++ if k = 22 then [76] else []).toArray⟩]
def commas : List (List ByteArray) → List ByteArray
  | [] => []
  | [w] => w
  | w :: v :: ws => w ++ (⟨#[44]⟩ :: commas (v :: ws))
def rowW (ws : List (List ByteArray)) (dots : Bool) : List ByteArray :=
  ⟨#[40]⟩ :: (commas (ws ++ if dots = true then [[⟨#[46, 46, 46]⟩]] else []) ++ [⟨#[41]⟩])
def atW (least b : Int) (w : List ByteArray) : List ByteArray := if b < least then ⟨#[40]⟩ :: (w ++ [⟨#[41]⟩]) else w
def statW (num : Int) : List ByteArray := if num % 2 = 1 then [⟨#[115, 116, 97, 116, 105, 99]⟩] else []
def nthW (ws : List (List ByteArray)) (i : Nat) : List ByteArray := (ws[i]?).getD []
/-- the words of a node, out of its kids' words and how closely they bind -/
def shwK (k : Int) (t : ByteArray) (num : Int) (ws : List (List ByteArray)) (bs : List Int) : List ByteArray :=
  let w0 := nthW ws 0
  let w1 := nthW ws 1
  let wl := nthW ws (ws.length - 1)
  if k = 1 then ws.flatten
  else if k = 2 then [⟨#[115, 116, 114, 117, 99, 116]⟩, t, ⟨#[123]⟩] ++ ws.flatten ++ [⟨#[125]⟩]
  else if k = 3 then w0 ++ [t, ⟨#[59]⟩]
  else if k = 8 then w0 ++ [t]
  else if k = 5 then ⟨#[101, 120, 116, 101, 114, 110]⟩ :: (w0 ++ [t, ⟨#[59]⟩])
  else if k = 4 then ⟨#[101, 120, 116, 101, 114, 110]⟩ :: (wl ++ [t] ++ rowW ws.dropLast (num == 1) ++ [⟨#[59]⟩])
  else if k = 6 then statW num ++ w0 ++ [t, ⟨#[61]⟩] ++ w1 ++ [⟨#[59]⟩]
  else if k = 7 then statW num ++ nthW ws (ws.length - 2) ++ [t] ++ rowW ws.dropLast.dropLast (decide (2 ≤ num)) ++ wl
  else if k = 9 then [⟨#[105, 110, 116]⟩]
  else if k = 10 then [⟨#[108, 111, 110, 103]⟩]
  else if k = 11 ∨ k = 23 then [t]
  else if k = 12 then ⟨#[102, 110]⟩ :: (rowW ws.dropLast (num == 1) ++ wl)
  else if k = 13 then ⟨#[123]⟩ :: (ws.flatten ++ [⟨#[125]⟩])
  else if k = 14 then w0 ++ [t, ⟨#[61]⟩] ++ w1 ++ [⟨#[59]⟩]
  else if k = 15 then w0 ++ [⟨#[61]⟩] ++ w1 ++ [⟨#[59]⟩]
  else if k = 16 ∨ k = 17 then [if k = 17 then ⟨#[119, 104, 105, 108, 101]⟩ else ⟨#[105, 102]⟩, ⟨#[40]⟩] ++ w0 ++ [⟨#[41]⟩] ++ w1 ++ (if ws.length = 3 then ⟨#[101, 108, 115, 101]⟩ :: nthW ws 2 else [])
  else if k = 18 then ⟨#[114, 101, 116, 117, 114, 110]⟩ :: (w0 ++ [⟨#[59]⟩])
  else if k = 19 then [⟨#[112, 117, 116]⟩, ⟨#[40]⟩] ++ w0 ++ [⟨#[41]⟩, ⟨#[59]⟩]
  else if k = 20 then w0 ++ [⟨#[59]⟩]
  else if k = 21 ∨ k = 22 then numT k num
  else if k = 24 then atW 4 ((bs[0]?).getD 0) w0 ++ [⟨#[46]⟩, t]
  else if k = 25 then atW 4 ((bs[0]?).getD 0) w0 ++ rowW ws.tail false
  else if k = 26 then [⟨#[38]⟩, t]
  else if k = 27 then [t, ⟨#[123]⟩] ++ commas ws ++ [⟨#[125]⟩]
  else if k = 28 then ⟨#[45]⟩ :: atW 3 ((bs[0]?).getD 0) w0
  else if k = 29 then ⟨#[33]⟩ :: atW 3 ((bs[0]?).getD 0) w0
  else if k = 30 then [⟨#[105, 110, 116]⟩, ⟨#[40]⟩] ++ w0 ++ [⟨#[41]⟩]
  else if k = 31 then [⟨#[108, 111, 110, 103]⟩, ⟨#[40]⟩] ++ w0 ++ [⟨#[41]⟩]
  else if k = 34 then [⟨#[101, 120, 116, 114, 97]⟩, ⟨#[40]⟩] ++ w0 ++ [⟨#[41]⟩]
  else if k = 33 then [⟨#[99, 111, 117, 110, 116]⟩]
  else atW (max (sgnB num) 1) ((bs[0]?).getD 0) w0 ++ [sgnT num] ++ atW (sgnB num + 1) ((bs[1]?).getD 0) w1
mutual
def shw : Nd → List ByteArray
  | .mk k t num kids => shwK k t num (shwL kids) (kids.map bindN)
def shwL : List Nd → List (List ByteArray)
  | [] => []
  | n :: ns => shw n :: shwL ns
end
theorem shwL_map (l : List Nd) : shwL l = l.map shw := by
  induction l with
  | nil => rfl
  | cons n l ih => rw [shwL, ih]; rfl
theorem shw_eq (n : Nd) : shw n = shwK n.k n.t n.num (n.kids.map shw) (n.kids.map bindN) := by
  cases n
  rw [shw, shwL_map]
  rfl
mutual
/-- how many nodes; how deep -/
def many : Nd → Nat
  | .mk _ _ _ kids => manyL kids + 1
def manyL : List Nd → Nat
  | [] => 0
  | n :: ns => many n + manyL ns
end
mutual
def deep : Nd → Nat
  | .mk _ _ _ kids => deepL kids + 1
def deepL : List Nd → Nat
  | [] => 0
  | n :: ns => max (deep n) (deepL ns)
end
def fitsN (n : Nd) : Bool := decide (many n ≤ 700) && decide (deep n ≤ 16)
def joinW : List ByteArray → List UInt8
  | [] => []
  | [w] => w.data.toList
  | w :: v :: ws => w.data.toList ++ 32 :: joinW (v :: ws)
/-- what Print answers -/
def printT (n : Nd) : ByteArray := if fitsN n = true ∧ n.k = 1 ∧ isN n false = true ∧ (joinW (shw n)).length ≤ 4000 then ⟨(joinW (shw n)).toArray⟩ else ⟨#[]⟩
def printE (n : Nd) : Int := if fitsN n = false then 1 else if ¬ (n.k = 1 ∧ isN n false = true) then 2 else if 4000 < (joinW (shw n)).length then 1 else 0
theorem many_pos (n : Nd) : 1 ≤ many n := by cases n; simp [many]
theorem many_kid {n m : Nd} (h : m ∈ n.kids) : many m < many n := by
  cases n with
  | mk k t num kids =>
    rw [many]
    have : ∀ l : List Nd, m ∈ l → many m ≤ manyL l := fun l => by
      induction l with
      | nil => intro h; cases h
      | cons x l ih =>
        intro h
        rw [manyL]
        rcases List.mem_cons.1 h with rfl | h
        · omega
        · have := ih h; omega
    have := this kids h
    omega
theorem manyL_len (l : List Nd) : l.length ≤ manyL l := by
  induction l with
  | nil => simp
  | cons n l ih => rw [manyL, List.length_cons]; have := many_pos n; omega
end Go.Proofs.YtgegfbopogcjpaaDoor
