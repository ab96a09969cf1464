/- Runs of the law, for some depths and kinds. -/
import Derived.Test.YtegbffhhbknmcaaGreatDoorCdBase
namespace Go.Proofs.YtegbffhhbknmcaaGreatDoor
open Go Go.Sx
set_option maxRecDepth 10000000
theorem r0_1 : run1 [.int .i64 (.ofNat 0), .opq 1] = true := by kernel_rfl
theorem r3_0 : run1 [.int .i64 (.ofNat 3), .opq 0] = true := by kernel_rfl
theorem r7_1 : run1 [.int .i64 (.ofNat 7), .opq 1] = true := by kernel_rfl
theorem r10_0 : run1 [.int .i64 (.ofNat 10), .opq 0] = true := by kernel_rfl
theorem r11_2 : run1 [.int .i64 (.ofNat 11), .opq 2] = true := by kernel_rfl
theorem r12_1 : run1 [.int .i64 (.ofNat 12), .opq 1] = true := by kernel_rfl
theorem r13_3 : run1 [.int .i64 (.ofNat 13), .opq 3] = true := by kernel_rfl
theorem r17_3 : run1 [.int .i64 (.ofNat 17), .opq 3] = true := by kernel_rfl
theorem r18_0 : run1 [.int .i64 (.ofNat 18), .opq 0] = true := by kernel_rfl
theorem r27_3 : run1 [.int .i64 (.ofNat 27), .opq 3] = true := by kernel_rfl
theorem r28_0 : run1 [.int .i64 (.ofNat 28), .opq 0] = true := by kernel_rfl
end Go.Proofs.YtegbffhhbknmcaaGreatDoor
