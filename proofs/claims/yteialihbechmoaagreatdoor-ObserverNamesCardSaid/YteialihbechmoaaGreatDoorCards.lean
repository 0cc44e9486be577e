/-
  DERIVED. GIVEN WITH THE SEED: THE CARDS: each row of YteialihbechmoaaGreatDoorRows.lean that lists a variable, with what it lists TIED to the program's text (the seventh form; the later family's looks); each row that meets fmt, with fmt's text TOLD by the authors' own Lean function (tested against real Go, not proved from fmt's source: count such statements apart). THE CARD IS WHAT COUNTS. Prove the row's statement (the work); the ties are given (YteialihbechmoaaGreatDoorTie.lean); close each card by the builder's one call (the guide's Derived/Test/ToyasCard.lean, 'card_holds'). Laid BY PROGRAM, IN A SANDBOX (cutbox-door.mjs). By AI agents, Wed Nov 11 2026. No macro, syntax, notation, axiom, sorry.
-/
import Derived.Test.YteialihbechmoaaGreatDoorRows
import GoSem.ClaimSeven
namespace Go.Proofs.YteialihbechmoaaGreatDoor
namespace Rows

/-- THE TIED CARD OF 'suffragelaw45.ObserverNames'. -/
def observerNamesCard : Claim7 := { stood := { row := observerNamesRow, standIns := [], harness := (true, "27e027874c29c7fa324372b2124b7c13488610ff2ed6b40dbe8c051135cd5774"), looks := true }, kinds := [], alts := [], laidByText := true, laidKinds := [.data, .data], laidTests := true, laidLooks := .later }
def ObserverNamesCardSaid : Prop := Claim7.holds Tryz.pinned (.plain (OpenSpec.ofChange observerNamesSpec)) observerNamesCard

/-- THE SECOND FORM's CARD OF 'suffragelaw45.ObserverNames'. -/
def observerNamesUptoCard : Claim7 := { stood := { row := observerNamesUptoRow, standIns := [], harness := (true, "27e027874c29c7fa324372b2124b7c13488610ff2ed6b40dbe8c051135cd5774"), looks := true }, kinds := [], alts := [], laidByText := true, laidKinds := [.data, .data], laidTests := true, laidLooks := .later }
def ObserverNamesUptoCardSaid : Prop := Claim7.holds Tryz.pinned (.plain (OpenSpec.upto observerNamesSpec)) observerNamesUptoCard
end Rows
end Go.Proofs.YteialihbechmoaaGreatDoor
