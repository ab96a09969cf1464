/- The call 'known' answers true. -/
import Derived.Test.YtegbffhhbknmcaaGreatDoorCdBase
namespace Go.Proofs.YtegbffhhbknmcaaGreatDoor
open Go Go.Sx
set_option maxRecDepth 10000000
theorem known_run : (runK Tryz.prog noSum 15 (launch Tryz.prog 4 [] (heap0 0 283 zs))).yes 4 = true := by kernel_rfl
theorem low_run : run1 [.opq 4, .opq 7] = true := by kernel_rfl
theorem high_run : run1 [.opq 5, .opq 7] = true := by kernel_rfl
theorem neg_run : run1 [.opq 6, .opq 4] = true := by kernel_rfl
end Go.Proofs.YtegbffhhbknmcaaGreatDoor
