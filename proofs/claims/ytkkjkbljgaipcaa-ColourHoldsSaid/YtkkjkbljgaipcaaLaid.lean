/- The program's types are laid out. -/
import Derived.Test.YtkkjkbljgaipcaaRows
import Derived.WalkKit
namespace Go.Proofs.Ytkkjkbljgaipcaa
open Go.RowKit
theorem laid : laidOutB Try.prog = true := by kernel_rfl
end Go.Proofs.Ytkkjkbljgaipcaa
