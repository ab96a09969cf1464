/- A part of a long run. -/
import Derived.Test.YtkidfdiohmcjgaaGreatDoorWnBase
namespace Go.Proofs.YtkidfdiohmcjgaaGreatDoor
open Go Go.Sx
set_option maxRecDepth 10000000
theorem nEnd : (runs Tryz.prog sum2 [13] (launch Tryz.prog 3 [.opq 7] (heap0 0 470 zs))).yes 3 = true := by kernel_rfl

theorem nGood : Good Tryz.prog sum2 3 (launch Tryz.prog 3 [.opq 7] (heap0 0 470 zs)) := good_end nEnd
end Go.Proofs.YtkidfdiohmcjgaaGreatDoor
