/- The program's types are laid out. -/
import Derived.Test.YtkjlmllhhfacfaaRows
import Derived.WalkKit
namespace Go.Proofs.Ytkjlmllhhfacfaa
open Go.RowKit
theorem laid : laidOutB Try.prog = true := by kernel_rfl
end Go.Proofs.Ytkjlmllhhfacfaa
