/- Closed facts of the row: the variables that it names. -/
import Derived.Test.YteialihbechmoaaGreatDoorRows
import Derived.ProofKit
import Derived.JoinedOf

/- Closed facts of the row, each by itself. -/
namespace Go.Proofs.YteialihbechmoaaGreatDoor
open Go
set_option maxRecDepth 100000
theorem j12 : ((Rows.observerNamesRow.named == Tryz.prog.varsNamed 3)) = true := by kernel_rfl
end Go.Proofs.YteialihbechmoaaGreatDoor
