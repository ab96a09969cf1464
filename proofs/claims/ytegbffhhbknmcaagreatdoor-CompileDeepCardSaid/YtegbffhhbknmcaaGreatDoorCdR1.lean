/- Runs of the law, for some depths and kinds. -/
import Derived.Test.YtegbffhhbknmcaaGreatDoorCdBase
namespace Go.Proofs.YtegbffhhbknmcaaGreatDoor
open Go Go.Sx
set_option maxRecDepth 10000000
theorem r4_0 : run1 [.int .i64 (.ofNat 4), .opq 0] = true := by kernel_rfl
theorem r5_2 : run1 [.int .i64 (.ofNat 5), .opq 2] = true := by kernel_rfl
theorem r6_1 : run1 [.int .i64 (.ofNat 6), .opq 1] = true := by kernel_rfl
theorem r9_3 : run1 [.int .i64 (.ofNat 9), .opq 3] = true := by kernel_rfl
theorem r11_0 : run1 [.int .i64 (.ofNat 11), .opq 0] = true := by kernel_rfl
theorem r12_3 : run1 [.int .i64 (.ofNat 12), .opq 3] = true := by kernel_rfl
theorem r22_3 : run1 [.int .i64 (.ofNat 22), .opq 3] = true := by kernel_rfl
theorem r24_3 : run1 [.int .i64 (.ofNat 24), .opq 3] = true := by kernel_rfl
theorem r27_1 : run1 [.int .i64 (.ofNat 27), .opq 1] = true := by kernel_rfl
end Go.Proofs.YtegbffhhbknmcaaGreatDoor
