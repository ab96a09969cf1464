/- A part of a long run. -/
import Derived.Test.YtkidfdiohmcjgaaGreatDoorWnD2
namespace Go.Proofs.YtkidfdiohmcjgaaGreatDoor
open Go Go.Sx
set_option maxRecDepth 10000000
theorem wPa : PartLe Tryz.prog sum1 [7, 3, 1] (unNO 0 ws8) wfr9 wcs9 wl9 (nat_lit 13344) := by
  unfold PartLe
  exact ⟨by kernel_rfl, by kernel_rfl, by kernel_rfl⟩
theorem wPb : PartLe Tryz.prog sum1 [7, 1, 0] (unNO 1 ws8) wfr9 wcs9 wl9 (nat_lit 13344) := by
  unfold PartLe
  exact ⟨by kernel_rfl, by kernel_rfl, by kernel_rfl⟩
end Go.Proofs.YtkidfdiohmcjgaaGreatDoor
namespace Go.Proofs.YtkidfdiohmcjgaaGreatDoor
open Go Go.Sx
set_option maxRecDepth 10000000
theorem wP10 : Part Tryz.prog sum1 [13] (.next ws9) wfr10 wcs10 wl10 (nat_lit 13956) := by
  unfold Part
  exact ⟨by kernel_rfl, by kernel_rfl, by kernel_rfl⟩
end Go.Proofs.YtkidfdiohmcjgaaGreatDoor
namespace Go.Proofs.YtkidfdiohmcjgaaGreatDoor
open Go Go.Sx
set_option maxRecDepth 10000000
theorem wP11 : Part Tryz.prog sum1 [13] (.next ws10) wfr11 wcs11 wl11 (nat_lit 14188) := by
  unfold Part
  exact ⟨by kernel_rfl, by kernel_rfl, by kernel_rfl⟩
end Go.Proofs.YtkidfdiohmcjgaaGreatDoor
namespace Go.Proofs.YtkidfdiohmcjgaaGreatDoor
open Go Go.Sx
set_option maxRecDepth 10000000
theorem wP12 : Part Tryz.prog sum1 [12, 10, 7, 6, 5, 3, 1, 0] (.next ws11) wfr12 wcs12 wl12 (nat_lit 16003) := by
  unfold Part
  exact ⟨by kernel_rfl, by kernel_rfl, by kernel_rfl⟩
end Go.Proofs.YtkidfdiohmcjgaaGreatDoor
namespace Go.Proofs.YtkidfdiohmcjgaaGreatDoor
open Go Go.Sx
set_option maxRecDepth 10000000
theorem wEnd : (runs Tryz.prog sum1 [7, 6, 2, 1, 0] (unRO Tryz.prog ws12)).yes 10 = true := by kernel_rfl
end Go.Proofs.YtkidfdiohmcjgaaGreatDoor
