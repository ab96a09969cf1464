/- Runs of the law, for some depths and kinds. -/
import Derived.Test.YtegbffhhbknmcaaGreatDoorCdBase
namespace Go.Proofs.YtegbffhhbknmcaaGreatDoor
open Go Go.Sx
set_option maxRecDepth 10000000
theorem r1_2 : run1 [.int .i64 (.ofNat 1), .opq 2] = true := by kernel_rfl
theorem r2_1 : run1 [.int .i64 (.ofNat 2), .opq 1] = true := by kernel_rfl
theorem r9_0 : run1 [.int .i64 (.ofNat 9), .opq 0] = true := by kernel_rfl
theorem r9_2 : run1 [.int .i64 (.ofNat 9), .opq 2] = true := by kernel_rfl
theorem r10_1 : run1 [.int .i64 (.ofNat 10), .opq 1] = true := by kernel_rfl
theorem r15_2 : run1 [.int .i64 (.ofNat 15), .opq 2] = true := by kernel_rfl
theorem r19_2 : run1 [.int .i64 (.ofNat 19), .opq 2] = true := by kernel_rfl
theorem r21_1 : run1 [.int .i64 (.ofNat 21), .opq 1] = true := by kernel_rfl
theorem r21_2 : run1 [.int .i64 (.ofNat 21), .opq 2] = true := by kernel_rfl
theorem r28_2 : run1 [.int .i64 (.ofNat 28), .opq 2] = true := by kernel_rfl
theorem r29_0 : run1 [.int .i64 (.ofNat 29), .opq 0] = true := by kernel_rfl
end Go.Proofs.YtegbffhhbknmcaaGreatDoor
