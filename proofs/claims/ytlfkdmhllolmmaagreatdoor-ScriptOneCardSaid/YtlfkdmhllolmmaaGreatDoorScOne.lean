/- The law at bytes of each kind. -/
import Derived.Test.YtlfkdmhllolmmaaGreatDoorScBase
namespace Go.Proofs.YtlfkdmhllolmmaaGreatDoor
open Go Go.Sx
set_option maxRecDepth 10000000
set_option maxHeartbeats 40000000
theorem s0_0 : run9 0 0 = true := by kernel_rfl
theorem s0_1 : run9 0 1 = true := by kernel_rfl
theorem s0_2 : run9 0 2 = true := by kernel_rfl
theorem s0_3 : run9 0 3 = true := by kernel_rfl
theorem s0_4 : run9 0 4 = true := by kernel_rfl
theorem s0_5 : run9 0 5 = true := by kernel_rfl
theorem s1_0 : run9 1 0 = true := by kernel_rfl
theorem s1_1 : run9 1 1 = true := by kernel_rfl
theorem s1_2 : run9 1 2 = true := by kernel_rfl
theorem s1_3 : run9 1 3 = true := by kernel_rfl
theorem s1_4 : run9 1 4 = true := by kernel_rfl
theorem s1_5 : run9 1 5 = true := by kernel_rfl
theorem s2_0 : run9 2 0 = true := by kernel_rfl
theorem s2_1 : run9 2 1 = true := by kernel_rfl
theorem s2_2 : run9 2 2 = true := by kernel_rfl
theorem s2_3 : run9 2 3 = true := by kernel_rfl
theorem s2_4 : run9 2 4 = true := by kernel_rfl
theorem s2_5 : run9 2 5 = true := by kernel_rfl
theorem s3_0 : run9 3 0 = true := by kernel_rfl
theorem s3_1 : run9 3 1 = true := by kernel_rfl
theorem s3_2 : run9 3 2 = true := by kernel_rfl
theorem s3_3 : run9 3 3 = true := by kernel_rfl
theorem s3_4 : run9 3 4 = true := by kernel_rfl
theorem s3_5 : run9 3 5 = true := by kernel_rfl
theorem s4_0 : run9 4 0 = true := by kernel_rfl
theorem s4_1 : run9 4 1 = true := by kernel_rfl
theorem s4_2 : run9 4 2 = true := by kernel_rfl
theorem s4_3 : run9 4 3 = true := by kernel_rfl
theorem s4_4 : run9 4 4 = true := by kernel_rfl
theorem s4_5 : run9 4 5 = true := by kernel_rfl
theorem every9 (a b r : Nat) (ha : a < 5) (hb : b < 6) (hr : r < 9) : runS a b r = true := by
  refine run9_spec ?_ r hr
  match a, b, ha, hb with
  | 0, 0, _, _ => exact s0_0
  | 0, 1, _, _ => exact s0_1
  | 0, 2, _, _ => exact s0_2
  | 0, 3, _, _ => exact s0_3
  | 0, 4, _, _ => exact s0_4
  | 0, 5, _, _ => exact s0_5
  | 1, 0, _, _ => exact s1_0
  | 1, 1, _, _ => exact s1_1
  | 1, 2, _, _ => exact s1_2
  | 1, 3, _, _ => exact s1_3
  | 1, 4, _, _ => exact s1_4
  | 1, 5, _, _ => exact s1_5
  | 2, 0, _, _ => exact s2_0
  | 2, 1, _, _ => exact s2_1
  | 2, 2, _, _ => exact s2_2
  | 2, 3, _, _ => exact s2_3
  | 2, 4, _, _ => exact s2_4
  | 2, 5, _, _ => exact s2_5
  | 3, 0, _, _ => exact s3_0
  | 3, 1, _, _ => exact s3_1
  | 3, 2, _, _ => exact s3_2
  | 3, 3, _, _ => exact s3_3
  | 3, 4, _, _ => exact s3_4
  | 3, 5, _, _ => exact s3_5
  | 4, 0, _, _ => exact s4_0
  | 4, 1, _, _ => exact s4_1
  | 4, 2, _, _ => exact s4_2
  | 4, 3, _, _ => exact s4_3
  | 4, 4, _, _ => exact s4_4
  | 4, 5, _, _ => exact s4_5
  | a + 5, _, h, _ => exact absurd h (by omega)
  | _, b + 6, _, h => exact absurd h (by omega)
end Go.Proofs.YtlfkdmhllolmmaaGreatDoor
