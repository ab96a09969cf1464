/- Runs of the law, for some depths and kinds. -/
import Derived.Test.YtegbffhhbknmcaaGreatDoorCdBase
namespace Go.Proofs.YtegbffhhbknmcaaGreatDoor
open Go Go.Sx
set_option maxRecDepth 10000000
theorem r1_0 : run1 [.int .i64 (.ofNat 1), .opq 0] = true := by kernel_rfl
theorem r1_3 : run1 [.int .i64 (.ofNat 1), .opq 3] = true := by kernel_rfl
theorem r6_3 : run1 [.int .i64 (.ofNat 6), .opq 3] = true := by kernel_rfl
theorem r7_3 : run1 [.int .i64 (.ofNat 7), .opq 3] = true := by kernel_rfl
theorem r10_3 : run1 [.int .i64 (.ofNat 10), .opq 3] = true := by kernel_rfl
theorem r13_1 : run1 [.int .i64 (.ofNat 13), .opq 1] = true := by kernel_rfl
theorem r17_2 : run1 [.int .i64 (.ofNat 17), .opq 2] = true := by kernel_rfl
theorem r18_3 : run1 [.int .i64 (.ofNat 18), .opq 3] = true := by kernel_rfl
theorem r25_2 : run1 [.int .i64 (.ofNat 25), .opq 2] = true := by kernel_rfl
theorem r25_3 : run1 [.int .i64 (.ofNat 25), .opq 3] = true := by kernel_rfl
theorem r26_1 : run1 [.int .i64 (.ofNat 26), .opq 1] = true := by kernel_rfl
end Go.Proofs.YtegbffhhbknmcaaGreatDoor
