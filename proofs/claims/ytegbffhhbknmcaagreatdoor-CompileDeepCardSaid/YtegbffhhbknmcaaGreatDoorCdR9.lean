/- Runs of the law, for some depths and kinds. -/
import Derived.Test.YtegbffhhbknmcaaGreatDoorCdBase
namespace Go.Proofs.YtegbffhhbknmcaaGreatDoor
open Go Go.Sx
set_option maxRecDepth 10000000
theorem r1_1 : run1 [.int .i64 (.ofNat 1), .opq 1] = true := by kernel_rfl
theorem r2_0 : run1 [.int .i64 (.ofNat 2), .opq 0] = true := by kernel_rfl
theorem r3_2 : run1 [.int .i64 (.ofNat 3), .opq 2] = true := by kernel_rfl
theorem r7_2 : run1 [.int .i64 (.ofNat 7), .opq 2] = true := by kernel_rfl
theorem r9_1 : run1 [.int .i64 (.ofNat 9), .opq 1] = true := by kernel_rfl
theorem r14_0 : run1 [.int .i64 (.ofNat 14), .opq 0] = true := by kernel_rfl
theorem r14_2 : run1 [.int .i64 (.ofNat 14), .opq 2] = true := by kernel_rfl
theorem r14_3 : run1 [.int .i64 (.ofNat 14), .opq 3] = true := by kernel_rfl
theorem r15_1 : run1 [.int .i64 (.ofNat 15), .opq 1] = true := by kernel_rfl
theorem r16_3 : run1 [.int .i64 (.ofNat 16), .opq 3] = true := by kernel_rfl
theorem r27_0 : run1 [.int .i64 (.ofNat 27), .opq 0] = true := by kernel_rfl
end Go.Proofs.YtegbffhhbknmcaaGreatDoor
