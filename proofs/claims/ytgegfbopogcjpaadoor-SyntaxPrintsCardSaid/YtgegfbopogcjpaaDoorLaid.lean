/- The program's types are laid out. -/
import Derived.Test.YtgegfbopogcjpaaDoorRows
import Derived.WalkKit
namespace Go.Proofs.YtgegfbopogcjpaaDoor
open Go.RowKit
theorem laid : laidOutB Tryd.prog = true := by kernel_rfl
end Go.Proofs.YtgegfbopogcjpaaDoor
