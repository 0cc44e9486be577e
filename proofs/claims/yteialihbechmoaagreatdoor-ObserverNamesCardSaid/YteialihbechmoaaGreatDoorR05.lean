/- Closed facts of the row: what it calls otherwise than by name. -/
import Derived.Test.YteialihbechmoaaGreatDoorRows
import Derived.ProofKit
import Derived.JoinedOf

/- Closed facts of the row, each by itself. -/
namespace Go.Proofs.YteialihbechmoaaGreatDoor
open Go
set_option maxRecDepth 100000
theorem j10 : ((Rows.observerNamesRow.unfollowed == Tryz.prog.unfollowed 3)) = true := by kernel_rfl
end Go.Proofs.YteialihbechmoaaGreatDoor
