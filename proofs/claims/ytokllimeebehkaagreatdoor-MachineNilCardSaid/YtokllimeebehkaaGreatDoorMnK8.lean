/- A part of a long run. -/
import Derived.Test.YtokllimeebehkaaGreatDoorMnK7
namespace Go.Proofs.YtokllimeebehkaaGreatDoor
open Go Go.Sx
set_option maxRecDepth 10000000
theorem kGood : Good Tryz.prog sum1 21 (launch Tryz.prog 21 [] (heap0 0 493 zs)) := good_part kP1 (good_part kP2 (good_part kP3 (good_part kP4 (good_part kP5 (good_part kP6 (good_part kP7 (good_end kEnd)))))))
end Go.Proofs.YtokllimeebehkaaGreatDoor
