/- Runs of the law, for some depths and kinds. -/
import Derived.Test.YtegbffhhbknmcaaGreatDoorCdBase
namespace Go.Proofs.YtegbffhhbknmcaaGreatDoor
open Go Go.Sx
set_option maxRecDepth 10000000
theorem r2_3 : run1 [.int .i64 (.ofNat 2), .opq 3] = true := by kernel_rfl
theorem r3_3 : run1 [.int .i64 (.ofNat 3), .opq 3] = true := by kernel_rfl
theorem r5_0 : run1 [.int .i64 (.ofNat 5), .opq 0] = true := by kernel_rfl
theorem r6_2 : run1 [.int .i64 (.ofNat 6), .opq 2] = true := by kernel_rfl
theorem r10_2 : run1 [.int .i64 (.ofNat 10), .opq 2] = true := by kernel_rfl
theorem r15_3 : run1 [.int .i64 (.ofNat 15), .opq 3] = true := by kernel_rfl
theorem r19_0 : run1 [.int .i64 (.ofNat 19), .opq 0] = true := by kernel_rfl
theorem r19_1 : run1 [.int .i64 (.ofNat 19), .opq 1] = true := by kernel_rfl
theorem r20_2 : run1 [.int .i64 (.ofNat 20), .opq 2] = true := by kernel_rfl
theorem r24_0 : run1 [.int .i64 (.ofNat 24), .opq 0] = true := by kernel_rfl
end Go.Proofs.YtegbffhhbknmcaaGreatDoor
