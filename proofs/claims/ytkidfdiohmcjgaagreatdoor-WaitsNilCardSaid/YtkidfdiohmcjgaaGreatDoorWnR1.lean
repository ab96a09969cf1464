/- A part of a long run. -/
import Derived.Test.YtkidfdiohmcjgaaGreatDoorWnD2
namespace Go.Proofs.YtkidfdiohmcjgaaGreatDoor
open Go Go.Sx
set_option maxRecDepth 10000000
theorem wP5 : Part Tryz.prog sum1 [13] (.next ws4) wfr5 wcs5 wl5 (nat_lit 8880) := by
  unfold Part
  exact ⟨by kernel_rfl, by kernel_rfl, by kernel_rfl⟩
end Go.Proofs.YtkidfdiohmcjgaaGreatDoor
namespace Go.Proofs.YtkidfdiohmcjgaaGreatDoor
open Go Go.Sx
set_option maxRecDepth 10000000
theorem wP6 : Part Tryz.prog sum1 [13] (.next ws5) wfr6 wcs6 wl6 (nat_lit 11821) := by
  unfold Part
  exact ⟨by kernel_rfl, by kernel_rfl, by kernel_rfl⟩
end Go.Proofs.YtkidfdiohmcjgaaGreatDoor
namespace Go.Proofs.YtkidfdiohmcjgaaGreatDoor
open Go Go.Sx
set_option maxRecDepth 10000000
theorem wP7 : Part Tryz.prog sum1 [12, 7, 6, 4, 1] (.next ws6) wfr7 wcs7 wl7 (nat_lit 13286) := by
  unfold Part
  exact ⟨by kernel_rfl, by kernel_rfl, by kernel_rfl⟩
end Go.Proofs.YtkidfdiohmcjgaaGreatDoor
namespace Go.Proofs.YtkidfdiohmcjgaaGreatDoor
open Go Go.Sx
set_option maxRecDepth 10000000
theorem wP8 : Part Tryz.prog sum1 [1] (unRO Tryz.prog ws7) wfr8 wcs8 wl8 (nat_lit 13287) := by
  unfold Part
  exact ⟨by kernel_rfl, by kernel_rfl, by kernel_rfl⟩
end Go.Proofs.YtkidfdiohmcjgaaGreatDoor
