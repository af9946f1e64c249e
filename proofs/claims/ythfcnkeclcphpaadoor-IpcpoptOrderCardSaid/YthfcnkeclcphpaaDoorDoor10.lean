/- A start that meets the condition: the heap that the door's own run leaves. -/
import Derived.Test.YthfcnkeclcphpaaDoorOpen10
import Derived.ProofKit
import Derived.LaidMore
import Derived.Stop.Joined
set_option maxRecDepth 100000
namespace Go.Proofs.YthfcnkeclcphpaaDoor
open Go
theorem door_met (os : Os) (args : Array Value) : laidMetH Tryd.prog laidL ((World.doorLaid Tryd.prog 600 os).forCall (fun _ _ => 0) ⟨#[], args, []⟩).memory :=
  laidMetH_of_parts3 (fuel := 8) (laidMet_of_run' 8 (by kernel_rfl) (by kernel_rfl)) (by kernel_rfl) (by kernel_rfl)
end Go.Proofs.YthfcnkeclcphpaaDoor
