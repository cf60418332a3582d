/- Contracts of Go's library at this program, laid off the shelf: strings.Contains. -/
import Derived.Shelf.Strings.Search1
import Derived.Shelf.Strings.Search2
import Derived.Shelf.Strings.Search3
import Derived.Shelf.LaysM
import Derived.Shelf.Strings.Shaped
import Derived.Test.YtkkjkbljgaipcaaProg
import Derived.Deep.RegionHeld
import Derived.Below
namespace Go.Proofs.Ytkkjkbljgaipcaa
open Go.Shelf Go.RowKit Go.Lib
def sh_lays144_ren : Go.Shelf.Ren := ⟨fun | 144 => 64 | 143 => 87 | 219 => 98 | 217 => 101 | 225 => 102 | 224 => 103 | 267 => 104 | 266 => 105 | 314 => 106 | n => n, fun | 9 => 9 | 4 => 4 | 3 => 3 | 5 => 5 | 46 => 101 | 146 => 140 | 51 => 121 | n => n, fun | 1 => 0 | n => n⟩
theorem sh_lays144 : Go.Proofs.Lays.n144 Try.prog sh_lays144_ren := {
  mixed := by kernel_rfl
  f143 := Try.func87.trans (congrArg some (by kernel_rfl))
  f144 := Try.func64.trans (congrArg some (by kernel_rfl))
  f217 := Try.func101.trans (congrArg some (by kernel_rfl))
  f219 := Try.func98.trans (congrArg some (by kernel_rfl))
  f224 := Try.func103.trans (congrArg some (by kernel_rfl))
  f225 := Try.func102.trans (congrArg some (by kernel_rfl))
  f266 := Try.func105.trans (congrArg some (by kernel_rfl))
  f267 := Try.func104.trans (congrArg some (by kernel_rfl))
  f314 := Try.func106.trans (congrArg some (by kernel_rfl))
  t3 := Try.underlying3
  a3 := Try.isAgg3
  z3 := Try.sizeOf3
  v3 := Try.zeroValue3
  t4 := Try.underlying4
  a4 := Try.isAgg4
  z4 := Try.sizeOf4
  v4 := Try.zeroValue4
  t5 := Try.underlying5
  a5 := Try.isAgg5
  z5 := Try.sizeOf5
  v5 := Try.zeroValue5
  t9 := Try.underlying9
  a9 := Try.isAgg9
  z9 := Try.sizeOf9
  v9 := Try.zeroValue9
  t46 := Try.underlying101
  a46 := Try.isAgg101
  z46 := Try.sizeOf101
  v46 := Try.zeroValue101
  t51 := Try.underlying121
  a51 := Try.isAgg121
  z51 := Try.sizeOf121
  v51 := Try.zeroValue121
  t146 := Try.underlying140
  a146 := Try.isAgg140
  z146 := Try.sizeOf140
  v146 := Try.zeroValue140
  g1 := by kernel_rfl }
open Go.RowKit Go.Lib in
theorem sh_strings_Contains (s sub : ByteArray) (m : Int) (w : World) (hs : s.size < 4294967281) (hm : w.cell? ⟨0, 0, none⟩ = some (.int .i64 m)) :
    Calls Try.prog 64 #[.string s, .string sub] w fun e w' => e = .returned (.bool (Lib.contains s.data.toList sub.data.toList)) ∧ w' = w := Any.strings_Contains sh_lays144 s sub m w hs hm
def sh_laysM144_ren : Go.Shelf.Ren := ⟨fun | 144 => 64 | 143 => 87 | 219 => 98 | 217 => 101 | 225 => 102 | 224 => 103 | 267 => 104 | 266 => 105 | 314 => 106 | n => n, fun | 9 => 9 | 4 => 4 | 3 => 3 | 5 => 5 | 46 => 101 | 146 => 140 | 51 => 121 | n => n, fun | 1 => 0 | n => n⟩
theorem sh_laysM144 : Go.Proofs.LaysM.n144 Try.prog sh_laysM144_ren := {
  mixed := by kernel_rfl
  f143 := Try.func87.trans (congrArg some (by kernel_rfl))
  f144 := Try.func64.trans (congrArg some (by kernel_rfl))
  f217 := Try.func101.trans (congrArg some (by kernel_rfl))
  f219 := Try.func98.trans (congrArg some (by kernel_rfl))
  f224 := Try.func103.trans (congrArg some (by kernel_rfl))
  f225 := Try.func102.trans (congrArg some (by kernel_rfl))
  f266 := Try.func105.trans (congrArg some (by kernel_rfl))
  f267 := Try.func104.trans (congrArg some (by kernel_rfl))
  f314 := Try.func106.trans (congrArg some (by kernel_rfl))
  t3 := Try.underlying3
  a3 := Try.isAgg3
  z3 := Try.sizeOf3
  v3 := Try.zeroValue3
  t4 := Try.underlying4
  a4 := Try.isAgg4
  z4 := Try.sizeOf4
  v4 := Try.zeroValue4
  t5 := Try.underlying5
  a5 := Try.isAgg5
  z5 := Try.sizeOf5
  v5 := Try.zeroValue5
  t9 := Try.underlying9
  a9 := Try.isAgg9
  z9 := Try.sizeOf9
  v9 := Try.zeroValue9
  t46 := Try.underlying101
  a46 := Try.isAgg101
  z46 := Try.sizeOf101
  v46 := Try.zeroValue101
  t51 := Try.underlying121
  a51 := Try.isAgg121
  z51 := Try.sizeOf121
  v51 := Try.zeroValue121
  t146 := Try.underlying140
  a146 := Try.isAgg140
  z146 := Try.sizeOf140
  v146 := Try.zeroValue140
  g1 := by kernel_rfl
  i3 := by kernel_rfl
  i4 := by kernel_rfl
  i5 := by kernel_rfl
  i9 := by kernel_rfl
  i46 := by kernel_rfl
  i51 := by kernel_rfl
  i146 := by kernel_rfl
  m1 := by kernel_rfl
  s1_3 := fun w h => Go.Proofs.cell_of_shapedOpen_int (zero := #[.int .i64 0]) (t := 3) h (of_decide_eq_true (by kernel_rfl)) (by kernel_rfl) rfl (by kernel_rfl) (by kernel_rfl) Try.underlying3 }

/-- what strings.Contains asks of the world: internal/bytealg's variable MaxLen holds a number -/
def ML (w : World) : Prop := ∃ m, w.cell? ⟨0, 0, none⟩ = some (.int .i64 m)
theorem ML.at_ {w : World} (h : w.ShapedOpen Try.prog) : ML w := sh_laysM144.s1_3 w h
theorem ML.keep {w w' : World} (h : ML w) (hb : Go.RowKit.Below w.heap.size w w') : ML w' := by
  obtain ⟨m, hm⟩ := h
  exact ⟨m, (hb.cell (p := ⟨0, 0, none⟩) (World.block_lt_of_cell? w _ hm)).trans hm⟩
theorem contains_any (s sub : ByteArray) (w : World) (hs : s.size < 4294967281) (h : ML w) :
    Calls Try.prog 64 #[.string s, .string sub] w fun e w' => e = .returned (.bool (Lib.contains s.data.toList sub.data.toList)) ∧ w' = w := by
  obtain ⟨m, hm⟩ := h
  exact sh_strings_Contains s sub m w hs hm
end Go.Proofs.Ytkkjkbljgaipcaa
