/- The rows of the element types in the program's table of types. -/
import Derived.Test.YtpmilkemimlmcaaDoorProg
import Derived.Test.YtpmilkemimlmcaaDoorBase
namespace Go.Proofs.YtpmilkemimlmcaaDoor
open Go.RowKit
theorem info8 : (Tryd.prog.info? 5).map (fun i => (i.zero, i.size, i.bytes)) = some (some (.int .u8 0), 1, 1) := by kernel_rfl
theorem info64 : (Tryd.prog.info? 3).map (fun i => (i.zero, i.size, i.bytes)) = some (some (.int .i64 0), 1, 8) := by kernel_rfl
end Go.Proofs.YtpmilkemimlmcaaDoor
