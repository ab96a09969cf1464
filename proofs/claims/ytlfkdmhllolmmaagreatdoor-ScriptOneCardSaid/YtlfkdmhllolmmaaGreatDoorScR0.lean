/- A part of a long run. -/
import Derived.Test.YtlfkdmhllolmmaaGreatDoorScD1
namespace Go.Proofs.YtlfkdmhllolmmaaGreatDoor
open Go Go.Sx
set_option maxRecDepth 10000000
theorem wP1 : Part Tryz.prog sum1 [13] (launch Tryz.prog 7 [] (heap0 0 543 zs)) wfr1 wcs1 wl1 (nat_lit 1019) := by
  unfold Part
  exact ⟨by kernel_rfl, by kernel_rfl, by kernel_rfl⟩
end Go.Proofs.YtlfkdmhllolmmaaGreatDoor
namespace Go.Proofs.YtlfkdmhllolmmaaGreatDoor
open Go Go.Sx
set_option maxRecDepth 10000000
theorem wP2 : Part Tryz.prog sum1 [13] (.next ws1) wfr2 wcs2 wl2 (nat_lit 4082) := by
  unfold Part
  exact ⟨by kernel_rfl, by kernel_rfl, by kernel_rfl⟩
end Go.Proofs.YtlfkdmhllolmmaaGreatDoor
namespace Go.Proofs.YtlfkdmhllolmmaaGreatDoor
open Go Go.Sx
set_option maxRecDepth 10000000
theorem wP3 : Part Tryz.prog sum1 [13] (.next ws2) wfr3 wcs3 wl3 (nat_lit 7196) := by
  unfold Part
  exact ⟨by kernel_rfl, by kernel_rfl, by kernel_rfl⟩
end Go.Proofs.YtlfkdmhllolmmaaGreatDoor
namespace Go.Proofs.YtlfkdmhllolmmaaGreatDoor
open Go Go.Sx
set_option maxRecDepth 10000000
theorem wP4 : Part Tryz.prog sum1 [13] (.next ws3) wfr4 wcs4 wl4 (nat_lit 10166) := by
  unfold Part
  exact ⟨by kernel_rfl, by kernel_rfl, by kernel_rfl⟩
end Go.Proofs.YtlfkdmhllolmmaaGreatDoor
