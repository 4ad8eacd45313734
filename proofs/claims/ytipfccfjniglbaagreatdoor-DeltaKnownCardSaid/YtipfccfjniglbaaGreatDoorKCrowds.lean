/- The law DeltaKnown: the two crowds are trees (about 90 s). -/
import Derived.Test.YtipfccfjniglbaaGreatDoorKGood
namespace Go.Proofs.YtipfccfjniglbaaGreatDoor
set_option maxRecDepth 1000000 in
theorem numOk_f : (List.range 4096).all (numOk 102) = true := by decide +kernel
set_option maxRecDepth 1000000 in
theorem numOk_a : (List.range 4096).all (numOk 97) = true := by decide +kernel
theorem good_f : Good (crowdE 102 4096) := crowd_good numOk_f
theorem good_a : Good (crowdE 97 4096) := crowd_good numOk_a
end Go.Proofs.YtipfccfjniglbaaGreatDoor
