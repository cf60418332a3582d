/- Bytes of a text: which one stands at a place; which are letters, which may stand in a word. -/
import Derived.WalkKit
namespace Go.Proofs.YtgegfbopogcjpaaDoor
def letterI (c : Int) : Bool := (decide (97 ≤ c) && decide (c ≤ 122)) || (decide (65 ≤ c) && decide (c ≤ 90))
def chrI (c : Int) : Bool := letterI c || c == 95 || (decide (48 ≤ c) && decide (c ≤ 57))
def byteI (s : ByteArray) (k : Nat) : Int := if h : k < s.size then ((s[k]'h).toNat : Int) else 0
theorem byteI_at {s : ByteArray} {k : Nat} (h : k < s.size) : byteI s k = ((s[k]'h).toNat : Int) := by simp [byteI, h]
theorem byteI_extract {s : ByteArray} {a b j : Nat} (h : a + j < b) (hb : b ≤ s.size) : byteI (s.extract a b) j = byteI s (a + j) := by
  rw [byteI_at (by simp; omega), byteI_at (by omega), ByteArray.getElem_extract]
end Go.Proofs.YtgegfbopogcjpaaDoor
