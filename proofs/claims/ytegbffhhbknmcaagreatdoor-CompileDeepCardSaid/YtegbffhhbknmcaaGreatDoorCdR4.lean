/- Runs of the law, for some depths and kinds. -/
import Derived.Test.YtegbffhhbknmcaaGreatDoorCdBase
namespace Go.Proofs.YtegbffhhbknmcaaGreatDoor
open Go Go.Sx
set_option maxRecDepth 10000000
theorem r7_0 : run1 [.int .i64 (.ofNat 7), .opq 0] = true := by kernel_rfl
theorem r17_0 : run1 [.int .i64 (.ofNat 17), .opq 0] = true := by kernel_rfl
theorem r17_1 : run1 [.int .i64 (.ofNat 17), .opq 1] = true := by kernel_rfl
theorem r19_3 : run1 [.int .i64 (.ofNat 19), .opq 3] = true := by kernel_rfl
theorem r22_0 : run1 [.int .i64 (.ofNat 22), .opq 0] = true := by kernel_rfl
theorem r23_1 : run1 [.int .i64 (.ofNat 23), .opq 1] = true := by kernel_rfl
theorem r25_0 : run1 [.int .i64 (.ofNat 25), .opq 0] = true := by kernel_rfl
theorem r29_2 : run1 [.int .i64 (.ofNat 29), .opq 2] = true := by kernel_rfl
theorem r30_0 : run1 [.int .i64 (.ofNat 30), .opq 0] = true := by kernel_rfl
theorem r30_3 : run1 [.int .i64 (.ofNat 30), .opq 3] = true := by kernel_rfl
end Go.Proofs.YtegbffhhbknmcaaGreatDoor
