/- Closed facts of the row: what it calls in place. -/
import Derived.Test.YteialihbechmoaaGreatDoorRows
import Derived.ProofKit
import Derived.JoinedOf

/- Closed facts of the row, each by itself. -/
namespace Go.Proofs.YteialihbechmoaaGreatDoor
open Go
set_option maxRecDepth 100000
theorem j9 : ((Rows.observerNamesRow.inPlace == Tryz.prog.inPlace 3)) = true := by kernel_rfl
end Go.Proofs.YteialihbechmoaaGreatDoor
