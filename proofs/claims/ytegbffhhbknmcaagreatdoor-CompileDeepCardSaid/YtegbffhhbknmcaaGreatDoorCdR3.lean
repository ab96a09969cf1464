/- Runs of the law, for some depths and kinds. -/
import Derived.Test.YtegbffhhbknmcaaGreatDoorCdBase
namespace Go.Proofs.YtegbffhhbknmcaaGreatDoor
open Go Go.Sx
set_option maxRecDepth 10000000
theorem r0_3 : run1 [.int .i64 (.ofNat 0), .opq 3] = true := by kernel_rfl
theorem r4_1 : run1 [.int .i64 (.ofNat 4), .opq 1] = true := by kernel_rfl
theorem r5_3 : run1 [.int .i64 (.ofNat 5), .opq 3] = true := by kernel_rfl
theorem r6_0 : run1 [.int .i64 (.ofNat 6), .opq 0] = true := by kernel_rfl
theorem r12_0 : run1 [.int .i64 (.ofNat 12), .opq 0] = true := by kernel_rfl
theorem r12_2 : run1 [.int .i64 (.ofNat 12), .opq 2] = true := by kernel_rfl
theorem r20_3 : run1 [.int .i64 (.ofNat 20), .opq 3] = true := by kernel_rfl
theorem r21_0 : run1 [.int .i64 (.ofNat 21), .opq 0] = true := by kernel_rfl
theorem r24_2 : run1 [.int .i64 (.ofNat 24), .opq 2] = true := by kernel_rfl
theorem r29_3 : run1 [.int .i64 (.ofNat 29), .opq 3] = true := by kernel_rfl
theorem r30_2 : run1 [.int .i64 (.ofNat 30), .opq 2] = true := by kernel_rfl
end Go.Proofs.YtegbffhhbknmcaaGreatDoor
