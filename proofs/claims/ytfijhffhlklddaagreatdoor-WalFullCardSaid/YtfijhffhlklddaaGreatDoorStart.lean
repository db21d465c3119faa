/-
  A world that meets the rows' lists: the door's run, and the library's pinned table laid by hand.
-/
import Derived.Test.YtfijhffhlklddaaGreatDoorRow
import Derived.OpenShut
import Derived.LaidMore
import Derived.LaidHandle
namespace Go.Proofs.YtfijhffhlklddaaGreatDoor
open Go.RowKit

def firstCells : Array Value := (Pinned.utf8FirstZ.map fun n => Value.int .u8 (n : Nat)).toArray
noncomputable def startWorld (os : Os) : World :=
  { World.doorLaid Tryz.prog 400 os with heap := (World.doorLaid Tryz.prog 400 os).heap.modify 11 fun
      | .cells _ t frozen => .cells firstCells t frozen
      | o => o }
set_option maxRecDepth 100000 in
theorem start_met (os : Os) (args : Array Value) : laidMetH Tryz.prog Rows.walNoneRow.laid ((startWorld os).forCall (fun _ _ => 0) ⟨#[], args, []⟩).memory :=
  laidMetH_of_parts3 (fuel := 8) (laidMet_of_run' 8 (by kernel_rfl) (by kernel_rfl)) (by kernel_rfl) (by kernel_rfl)
end Go.Proofs.YtfijhffhlklddaaGreatDoor
