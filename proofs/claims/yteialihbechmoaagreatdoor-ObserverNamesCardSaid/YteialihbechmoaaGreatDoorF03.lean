/- The chapter's examples and the law's call, reckoned by the kernel. -/
import Derived.Test.YteialihbechmoaaGreatDoorE09

/- alive, reckoned apart. -/
namespace Go.Sv
open Go.Proofs
set_option maxRecDepth 1000000
theorem aliveFact : retIs (eC.call 6 [] (isoS gl 5)) (.bool true) = true := by kernel_rfl
end Go.Sv

/- The law's call, reckoned apart. -/
namespace Go.Sv
open Go.Proofs
set_option maxRecDepth 1000000
theorem namesFact : retIs (stepCall Tryz.prog Ext.none eD 3 [] (isoS gl 5)) (.bool true) = true := by kernel_rfl
end Go.Sv
