/- Runs of the law, for some depths and kinds. -/
import Derived.Test.YtegbffhhbknmcaaGreatDoorCdBase
namespace Go.Proofs.YtegbffhhbknmcaaGreatDoor
open Go Go.Sx
set_option maxRecDepth 10000000
theorem r0_0 : run1 [.int .i64 (.ofNat 0), .opq 0] = true := by kernel_rfl
theorem r0_2 : run1 [.int .i64 (.ofNat 0), .opq 2] = true := by kernel_rfl
theorem r3_1 : run1 [.int .i64 (.ofNat 3), .opq 1] = true := by kernel_rfl
theorem r4_2 : run1 [.int .i64 (.ofNat 4), .opq 2] = true := by kernel_rfl
theorem r8_3 : run1 [.int .i64 (.ofNat 8), .opq 3] = true := by kernel_rfl
theorem r13_2 : run1 [.int .i64 (.ofNat 13), .opq 2] = true := by kernel_rfl
theorem r14_1 : run1 [.int .i64 (.ofNat 14), .opq 1] = true := by kernel_rfl
theorem r20_1 : run1 [.int .i64 (.ofNat 20), .opq 1] = true := by kernel_rfl
theorem r23_0 : run1 [.int .i64 (.ofNat 23), .opq 0] = true := by kernel_rfl
theorem r23_2 : run1 [.int .i64 (.ofNat 23), .opq 2] = true := by kernel_rfl
theorem r27_2 : run1 [.int .i64 (.ofNat 27), .opq 2] = true := by kernel_rfl
theorem r28_1 : run1 [.int .i64 (.ofNat 28), .opq 1] = true := by kernel_rfl
end Go.Proofs.YtegbffhhbknmcaaGreatDoor
