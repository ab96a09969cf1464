/- A part of a long run. -/
import Derived.Test.YtlfkdmhllolmmaaGreatDoorScD1
namespace Go.Proofs.YtlfkdmhllolmmaaGreatDoor
open Go Go.Sx
set_option maxRecDepth 10000000
theorem wP5 : Part Tryz.prog sum1 [13] (.next ws4) wfr5 wcs5 wl5 (nat_lit 13352) := by
  unfold Part
  exact ⟨by kernel_rfl, by kernel_rfl, by kernel_rfl⟩
end Go.Proofs.YtlfkdmhllolmmaaGreatDoor
namespace Go.Proofs.YtlfkdmhllolmmaaGreatDoor
open Go Go.Sx
set_option maxRecDepth 10000000
theorem wP6 : Part Tryz.prog sum1 [13] (.next ws5) wfr6 wcs6 wl6 (nat_lit 16302) := by
  unfold Part
  exact ⟨by kernel_rfl, by kernel_rfl, by kernel_rfl⟩
end Go.Proofs.YtlfkdmhllolmmaaGreatDoor
namespace Go.Proofs.YtlfkdmhllolmmaaGreatDoor
open Go Go.Sx
set_option maxRecDepth 10000000
theorem wEnd : (runs Tryz.prog sum1 [12, 11, 2, 0] (.next ws6)).yes 7 = true := by kernel_rfl
end Go.Proofs.YtlfkdmhllolmmaaGreatDoor
