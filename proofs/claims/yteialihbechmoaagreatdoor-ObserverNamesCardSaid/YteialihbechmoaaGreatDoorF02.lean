/- The example election, reckoned by the kernel. -/
import Derived.Test.YteialihbechmoaaGreatDoorE09

/- The example, reckoned apart. -/
namespace Go.Sv
open Go.Proofs
set_option maxRecDepth 1000000
theorem exFact : dataB (eB.call 4 [] (isoS gl 5)) exR exN exB = true := by kernel_rfl
end Go.Sv
