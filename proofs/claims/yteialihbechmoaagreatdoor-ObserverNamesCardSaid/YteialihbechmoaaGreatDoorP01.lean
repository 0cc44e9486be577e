/- The program has the form that the evaluator asks for, first half. -/
import Derived.Test.YteialihbechmoaaGreatDoorE08

/- The program's form, in parts. -/
namespace Go.Sv
open Go.Proofs
set_option maxRecDepth 1000000
theorem pok0 : ((Tryz.prog.funcs.toList.drop 0).take 30).all (funOK Tryz.prog) = true := by kernel_rfl
theorem pok1 : ((Tryz.prog.funcs.toList.drop 30).take 30).all (funOK Tryz.prog) = true := by kernel_rfl
theorem pok2 : ((Tryz.prog.funcs.toList.drop 60).take 30).all (funOK Tryz.prog) = true := by kernel_rfl
theorem pok3 : ((Tryz.prog.funcs.toList.drop 90).take 30).all (funOK Tryz.prog) = true := by kernel_rfl
theorem pok4 : ((Tryz.prog.funcs.toList.drop 120).take 30).all (funOK Tryz.prog) = true := by kernel_rfl
end Go.Sv

/- The program's form, in parts. -/
namespace Go.Sv
open Go.Proofs
set_option maxRecDepth 1000000
theorem pok5 : ((Tryz.prog.funcs.toList.drop 150).take 30).all (funOK Tryz.prog) = true := by kernel_rfl
theorem pok6 : ((Tryz.prog.funcs.toList.drop 180).take 30).all (funOK Tryz.prog) = true := by kernel_rfl
theorem pok7 : ((Tryz.prog.funcs.toList.drop 210).take 30).all (funOK Tryz.prog) = true := by kernel_rfl
theorem pok8 : ((Tryz.prog.funcs.toList.drop 240).take 30).all (funOK Tryz.prog) = true := by kernel_rfl
theorem pok9 : ((Tryz.prog.funcs.toList.drop 270).take 30).all (funOK Tryz.prog) = true := by kernel_rfl
end Go.Sv
