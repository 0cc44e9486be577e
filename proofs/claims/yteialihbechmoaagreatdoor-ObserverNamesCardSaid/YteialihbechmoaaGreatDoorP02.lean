/- The program has the form that the evaluator asks for, second half. -/
import Derived.Test.YteialihbechmoaaGreatDoorE08

/- The program's form, in parts. -/
namespace Go.Sv
open Go.Proofs
set_option maxRecDepth 1000000
theorem pok10 : ((Tryz.prog.funcs.toList.drop 300).take 30).all (funOK Tryz.prog) = true := by kernel_rfl
theorem pok11 : ((Tryz.prog.funcs.toList.drop 330).take 30).all (funOK Tryz.prog) = true := by kernel_rfl
theorem pok12 : ((Tryz.prog.funcs.toList.drop 360).take 30).all (funOK Tryz.prog) = true := by kernel_rfl
theorem pok13 : ((Tryz.prog.funcs.toList.drop 390).take 30).all (funOK Tryz.prog) = true := by kernel_rfl
theorem pok14 : ((Tryz.prog.funcs.toList.drop 420).take 30).all (funOK Tryz.prog) = true := by kernel_rfl
end Go.Sv

/- The program's form, in parts. -/
namespace Go.Sv
open Go.Proofs
set_option maxRecDepth 1000000
theorem pok15 : ((Tryz.prog.funcs.toList.drop 450).take 30).all (funOK Tryz.prog) = true := by kernel_rfl
theorem pok16 : ((Tryz.prog.funcs.toList.drop 480).take 30).all (funOK Tryz.prog) = true := by kernel_rfl
theorem pok17 : ((Tryz.prog.funcs.toList.drop 510).take 30).all (funOK Tryz.prog) = true := by kernel_rfl
theorem pok18 : ((Tryz.prog.funcs.toList.drop 540).take 30).all (funOK Tryz.prog) = true := by kernel_rfl
theorem pok19 : ((Tryz.prog.funcs.toList.drop 570).take 30).all (funOK Tryz.prog) = true := by kernel_rfl
end Go.Sv
