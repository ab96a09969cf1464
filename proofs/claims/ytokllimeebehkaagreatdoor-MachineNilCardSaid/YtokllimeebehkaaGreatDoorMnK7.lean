/- A part of a long run. -/
import Derived.Test.YtokllimeebehkaaGreatDoorMnK6
namespace Go.Proofs.YtokllimeebehkaaGreatDoor
open Go Go.Sx
set_option maxRecDepth 10000000
theorem kEnd : (runs Tryz.prog sum1 [13] (.next ⟨kfr7, kcs7, heapOf kl7 (nat_lit 15668)⟩)).yes 21 = true := by kernel_rfl
end Go.Proofs.YtokllimeebehkaaGreatDoor
