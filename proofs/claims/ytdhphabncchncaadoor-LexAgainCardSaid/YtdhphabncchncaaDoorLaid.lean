/- The program's types are laid out. -/
import Derived.Test.YtdhphabncchncaaDoorRows
import Derived.WalkKit
namespace Go.Proofs.YtdhphabncchncaaDoor
open Go.RowKit
theorem laid : laidOutB Tryd.prog = true := by kernel_rfl
end Go.Proofs.YtdhphabncchncaaDoor
