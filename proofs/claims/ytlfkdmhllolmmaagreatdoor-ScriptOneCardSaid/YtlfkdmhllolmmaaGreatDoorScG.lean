/- A part of a long run. -/
import Derived.Test.YtlfkdmhllolmmaaGreatDoorScR0
import Derived.Test.YtlfkdmhllolmmaaGreatDoorScR1
namespace Go.Proofs.YtlfkdmhllolmmaaGreatDoor
open Go Go.Sx
set_option maxRecDepth 10000000
theorem wGood : Good Tryz.prog sum1 7 (launch Tryz.prog 7 [] (heap0 0 543 zs)) :=
  good_part wP1 (good_part wP2 (good_part wP3 (good_part wP4 (good_part wP5 (good_part wP6 (good_end wEnd))))))
end Go.Proofs.YtlfkdmhllolmmaaGreatDoor
