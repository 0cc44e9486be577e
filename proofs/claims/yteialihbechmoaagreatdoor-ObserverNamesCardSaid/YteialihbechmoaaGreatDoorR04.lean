/- Closed facts of the card. -/
import Derived.Test.YteialihbechmoaaGreatDoorCards
import Derived.ProofKit
import Derived.SevenTiedAt

/- Closed facts of the card, each by itself. -/
namespace Go.Proofs.YteialihbechmoaaGreatDoor
open Go
set_option maxRecDepth 100000
theorem jInst : Tryz.f3.isInstance Tryz.pinned.checked.prog Rows.observerNamesRow.origin Rows.observerNamesRow.targs := of_decide_eq_true (by kernel_rfl)
theorem jWrap : Tryz.f3.isWrapper Tryz.pinned.checked.prog Rows.observerNamesRow.wrapper Rows.observerNamesRow.mainSum := by
  unfold Func.isWrapper; first | (rw [if_pos (by decide +kernel)]; kernel_rfl) | (rw [if_neg (by decide +kernel)]; exact ⟨rfl, rfl⟩)
theorem jNamed : Tryz.pinned.checked.prog.funcNamed Rows.observerNamesRow.func = some 3 := by kernel_rfl
theorem jLooks : true = Tryz.pinned.checked.prog.looks [] := by kernel_rfl
theorem noGo0 : ((Tryz.prog.funcs.toList.drop 0).take 100).all (fun fn => !fn.goes) = true := by kernel_rfl
theorem noGo1 : ((Tryz.prog.funcs.toList.drop 100).take 100).all (fun fn => !fn.goes) = true := by kernel_rfl
theorem noGo2 : ((Tryz.prog.funcs.toList.drop 200).take 100).all (fun fn => !fn.goes) = true := by kernel_rfl
theorem noGo3 : ((Tryz.prog.funcs.toList.drop 300).take 100).all (fun fn => !fn.goes) = true := by kernel_rfl
theorem noGo4 : ((Tryz.prog.funcs.toList.drop 400).take 100).all (fun fn => !fn.goes) = true := by kernel_rfl
theorem noGo5 : ((Tryz.prog.funcs.toList.drop 500).take 100).all (fun fn => !fn.goes) = true := by kernel_rfl
theorem noGo6 : (Tryz.prog.funcs.toList.drop 600).all (fun fn => !fn.goes) = true := by kernel_rfl
theorem noGoStep {p : Func → Bool} {l : List Func} (a n : Nat) (h1 : ((l.drop a).take n).all p = true) (h2 : (l.drop (a + n)).all p = true) : (l.drop a).all p = true := by
  have : l.drop a = (l.drop a).take n ++ l.drop (a + n) := by
    rw [← List.drop_drop, List.take_append_drop]
  rw [this, List.all_append, h1, h2]; rfl
theorem noGo : ∀ fn ∈ Tryz.prog.funcs.toList, fn.goes = false := by
  have h5 := noGoStep 500 100 noGo5 noGo6
  have h4 := noGoStep 400 100 noGo4 h5
  have h3 := noGoStep 300 100 noGo3 h4
  have h2 := noGoStep 200 100 noGo2 h3
  have h1 := noGoStep 100 100 noGo1 h2
  have h0 := noGoStep 0 100 noGo0 h1
  intro fn hfn
  have := List.all_eq_true.1 h0 fn hfn
  simpa using this
theorem goes_none {P : Program} (h : ∀ fn ∈ P.funcs.toList, fn.goes = false) (f : FuncId) : P.goes f = false := by
  have h1 : ((P.closure f).any fun g => (P.funcs[g]?).any Func.goes) = false := by
    rw [List.any_eq_false]
    intro g _
    cases hg : P.funcs[g]? with
    | none => simp
    | some fn =>
      have := h fn (by rw [← Array.getElem?_toList] at hg; exact List.mem_of_getElem? hg)
      simp [this]
  have h2 : P.funcs.any Func.goes = false := by
    rw [← Array.any_toList, List.any_eq_false]
    intro fn hfn
    simp [h fn hfn]
  unfold Program.goes
  rw [h1, h2]
  simp
theorem goesBy_none {P : Program} (h : ∀ fn ∈ P.funcs.toList, fn.goes = false) (c : OpenClaim) (hc : c.start = .entering) : false = c.goesBy P := by
  unfold OpenClaim.goesBy Program.goesAt Program.goesFrom
  rw [hc]
  cases P.funcNamed c.func with
  | none => rfl
  | some f => simp [goes_none h]
theorem progEq : Tryz.pinned.checked.prog = Tryz.prog := rfl
theorem jGoes : false = Rows.observerNamesRow.goesBy Tryz.pinned.checked.prog := by
  rw [progEq]
  exact goesBy_none noGo _ rfl
theorem jText : Rows.observerNamesRow.wfByText (OpenSpec.ofChange Rows.observerNamesSpec) = true := by kernel_rfl
theorem jMain : Tryz.pinned.checked.prog.mainIs = some (true, ("27e027874c29c7fa324372b2124b7c13488610ff2ed6b40dbe8c051135cd5774" : String).toList) := by kernel_rfl
end Go.Proofs.YteialihbechmoaaGreatDoor
