/- A part of a long run. -/
import Derived.Test.YtkidfdiohmcjgaaGreatDoorWnD2
namespace Go.Proofs.YtkidfdiohmcjgaaGreatDoor
open Go Go.Sx
set_option maxRecDepth 10000000
theorem wP1 : Part Tryz.prog sum1 [13] (launch Tryz.prog 10 [] (heap0 0 470 zs)) wfr1 wcs1 wl1 (nat_lit 915) := by
  unfold Part
  exact ⟨by kernel_rfl, by kernel_rfl, by kernel_rfl⟩
end Go.Proofs.YtkidfdiohmcjgaaGreatDoor
namespace Go.Proofs.YtkidfdiohmcjgaaGreatDoor
open Go Go.Sx
set_option maxRecDepth 10000000
theorem wP2 : Part Tryz.prog sum1 [13] (.next ws1) wfr2 wcs2 wl2 (nat_lit 978) := by
  unfold Part
  exact ⟨by kernel_rfl, by kernel_rfl, by kernel_rfl⟩
end Go.Proofs.YtkidfdiohmcjgaaGreatDoor
namespace Go.Proofs.YtkidfdiohmcjgaaGreatDoor
open Go Go.Sx
set_option maxRecDepth 10000000
theorem wP3 : Part Tryz.prog sum1 [13] (.next ws2) wfr3 wcs3 wl3 (nat_lit 3004) := by
  unfold Part
  exact ⟨by kernel_rfl, by kernel_rfl, by kernel_rfl⟩
end Go.Proofs.YtkidfdiohmcjgaaGreatDoor
namespace Go.Proofs.YtkidfdiohmcjgaaGreatDoor
open Go Go.Sx
set_option maxRecDepth 10000000
theorem wP4 : Part Tryz.prog sum1 [13] (.next ws3) wfr4 wcs4 wl4 (nat_lit 6016) := by
  unfold Part
  exact ⟨by kernel_rfl, by kernel_rfl, by kernel_rfl⟩
end Go.Proofs.YtkidfdiohmcjgaaGreatDoor
