/- Runs of the law, for some depths and kinds. -/
import Derived.Test.YtegbffhhbknmcaaGreatDoorCdBase
namespace Go.Proofs.YtegbffhhbknmcaaGreatDoor
open Go Go.Sx
set_option maxRecDepth 10000000
theorem r5_1 : run1 [.int .i64 (.ofNat 5), .opq 1] = true := by kernel_rfl
theorem r8_0 : run1 [.int .i64 (.ofNat 8), .opq 0] = true := by kernel_rfl
theorem r11_1 : run1 [.int .i64 (.ofNat 11), .opq 1] = true := by kernel_rfl
theorem r13_0 : run1 [.int .i64 (.ofNat 13), .opq 0] = true := by kernel_rfl
theorem r20_0 : run1 [.int .i64 (.ofNat 20), .opq 0] = true := by kernel_rfl
theorem r22_1 : run1 [.int .i64 (.ofNat 22), .opq 1] = true := by kernel_rfl
theorem r23_3 : run1 [.int .i64 (.ofNat 23), .opq 3] = true := by kernel_rfl
theorem r24_1 : run1 [.int .i64 (.ofNat 24), .opq 1] = true := by kernel_rfl
theorem r29_1 : run1 [.int .i64 (.ofNat 29), .opq 1] = true := by kernel_rfl
end Go.Proofs.YtegbffhhbknmcaaGreatDoor
