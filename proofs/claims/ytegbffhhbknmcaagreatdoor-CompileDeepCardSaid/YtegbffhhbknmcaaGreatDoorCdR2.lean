/- Runs of the law, for some depths and kinds. -/
import Derived.Test.YtegbffhhbknmcaaGreatDoorCdBase
namespace Go.Proofs.YtegbffhhbknmcaaGreatDoor
open Go Go.Sx
set_option maxRecDepth 10000000
theorem r8_1 : run1 [.int .i64 (.ofNat 8), .opq 1] = true := by kernel_rfl
theorem r8_2 : run1 [.int .i64 (.ofNat 8), .opq 2] = true := by kernel_rfl
theorem r16_0 : run1 [.int .i64 (.ofNat 16), .opq 0] = true := by kernel_rfl
theorem r16_1 : run1 [.int .i64 (.ofNat 16), .opq 1] = true := by kernel_rfl
theorem r16_2 : run1 [.int .i64 (.ofNat 16), .opq 2] = true := by kernel_rfl
theorem r21_3 : run1 [.int .i64 (.ofNat 21), .opq 3] = true := by kernel_rfl
theorem r25_1 : run1 [.int .i64 (.ofNat 25), .opq 1] = true := by kernel_rfl
theorem r26_0 : run1 [.int .i64 (.ofNat 26), .opq 0] = true := by kernel_rfl
theorem r28_3 : run1 [.int .i64 (.ofNat 28), .opq 3] = true := by kernel_rfl
end Go.Proofs.YtegbffhhbknmcaaGreatDoor
