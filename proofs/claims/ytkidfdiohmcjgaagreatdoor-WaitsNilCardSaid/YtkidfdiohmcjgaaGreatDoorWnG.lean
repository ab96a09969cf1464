/- A part of a long run. -/
import Derived.Test.YtkidfdiohmcjgaaGreatDoorWnR0
import Derived.Test.YtkidfdiohmcjgaaGreatDoorWnR1
import Derived.Test.YtkidfdiohmcjgaaGreatDoorWnR2
namespace Go.Proofs.YtkidfdiohmcjgaaGreatDoor
open Go Go.Sx
set_option maxRecDepth 10000000
theorem wGood : Good Tryz.prog sum1 10 (launch Tryz.prog 10 [] (heap0 0 470 zs)) :=
  good_part wP1 (good_part wP2 (good_part wP3 (good_part wP4 (good_part wP5 (good_part wP6 (good_part wP7 (good_unR (s := ws7) (good_part wP8 ((fun (g : Good Tryz.prog sum1 10 (.next ws9)) => good_unN (s := ws8) (good_partLe wPa g) (good_partLe wPb g)) (good_part wP10 (good_part wP11 (good_part wP12 (good_unR (s := ws12) (good_end wEnd))))))))))))))
end Go.Proofs.YtkidfdiohmcjgaaGreatDoor
