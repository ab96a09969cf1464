/- Runs of the law, for some depths and kinds. -/
import Derived.Test.YtegbffhhbknmcaaGreatDoorCdBase
namespace Go.Proofs.YtegbffhhbknmcaaGreatDoor
open Go Go.Sx
set_option maxRecDepth 10000000
theorem r2_2 : run1 [.int .i64 (.ofNat 2), .opq 2] = true := by kernel_rfl
theorem r4_3 : run1 [.int .i64 (.ofNat 4), .opq 3] = true := by kernel_rfl
theorem r11_3 : run1 [.int .i64 (.ofNat 11), .opq 3] = true := by kernel_rfl
theorem r15_0 : run1 [.int .i64 (.ofNat 15), .opq 0] = true := by kernel_rfl
theorem r18_1 : run1 [.int .i64 (.ofNat 18), .opq 1] = true := by kernel_rfl
theorem r18_2 : run1 [.int .i64 (.ofNat 18), .opq 2] = true := by kernel_rfl
theorem r22_2 : run1 [.int .i64 (.ofNat 22), .opq 2] = true := by kernel_rfl
theorem r26_2 : run1 [.int .i64 (.ofNat 26), .opq 2] = true := by kernel_rfl
theorem r26_3 : run1 [.int .i64 (.ofNat 26), .opq 3] = true := by kernel_rfl
theorem r30_1 : run1 [.int .i64 (.ofNat 30), .opq 1] = true := by kernel_rfl
end Go.Proofs.YtegbffhhbknmcaaGreatDoor
