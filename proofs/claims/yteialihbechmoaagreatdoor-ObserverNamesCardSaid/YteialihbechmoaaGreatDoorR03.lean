/- Closed facts of the row: recursion and keys. -/
import Derived.Test.YteialihbechmoaaGreatDoorRows
import Derived.ProofKit
import Derived.JoinedOf

/- Closed facts of the row, each by itself. -/
namespace Go.Proofs.YteialihbechmoaaGreatDoor
open Go
set_option maxRecDepth 100000
theorem j11 : ((Rows.observerNamesRow.recurses == Tryz.prog.recurses 3)) = true := by kernel_rfl
theorem j22 : ((Rows.observerNamesRow.plainKeys == Tryz.prog.plainKeys)) = true := by kernel_rfl
theorem j26 : ((Rows.observerNamesRow.lifted == Tryz.prog.liftsFinal)) = true := by kernel_rfl
end Go.Proofs.YteialihbechmoaaGreatDoor
