/- The rows of the element types in the program's table of types. -/
import Derived.Test.YtpmilkemimlmcaaProg
import Derived.Test.YtpmilkemimlmcaaBase
namespace Go.Proofs.Ytpmilkemimlmcaa
open Go.RowKit
theorem info8 : (Try.prog.info? 5).map (fun i => (i.zero, i.size, i.bytes)) = some (some (.int .u8 0), 1, 1) := by kernel_rfl
theorem info64 : (Try.prog.info? 3).map (fun i => (i.zero, i.size, i.bytes)) = some (some (.int .i64 0), 1, 8) := by kernel_rfl
end Go.Proofs.Ytpmilkemimlmcaa
