/-
  DERIVED. GIVEN WITH THE SEED: THE CARDS: each row of YtoifedelfgpnhaaGreatDoorRows.lean that lists a variable, with what it lists TIED to the program's text (the seventh form; the later family's looks); each row that meets fmt, with fmt's text TOLD by the authors' own Lean function (tested against real Go, not proved from fmt's source: count such statements apart). THE CARD IS WHAT COUNTS. Prove the row's statement (the work); the ties are given (YtoifedelfgpnhaaGreatDoorTie.lean); close each card by the builder's one call (the guide's Derived/Test/ToyasCard.lean, 'card_holds'). Laid BY PROGRAM, IN A SANDBOX (cutbox-door.mjs). By AI agents, Wed Nov 11 2026. No macro, syntax, notation, axiom, sorry.
-/
import Derived.Test.YtoifedelfgpnhaaGreatDoorRows
import GoSem.ClaimSeven
namespace Go.Proofs.YtoifedelfgpnhaaGreatDoor
namespace Rows

/-- THE TIED CARD OF 'mainsheetlaw24.LiveNames'. -/
def liveNamesCard : Claim7 := { stood := { row := liveNamesRow, standIns := [], harness := (true, "303eb1bc380f0f34b3cd85a7decf62a62edd5886ace3acc17b0f304f71262e6a"), looks := false }, kinds := [], alts := [], laidByText := true, laidKinds := [.data, .widerDeep], laidTests := true, laidLooks := .later }
def LiveNamesCardSaid : Prop := Claim7.holds Tryz.pinned (.plain (OpenSpec.ofChange liveNamesSpec)) liveNamesCard

/-- THE SECOND FORM's CARD OF 'mainsheetlaw24.LiveNames'. -/
def liveNamesUptoCard : Claim7 := { stood := { row := liveNamesUptoRow, standIns := [], harness := (true, "303eb1bc380f0f34b3cd85a7decf62a62edd5886ace3acc17b0f304f71262e6a"), looks := false }, kinds := [], alts := [], laidByText := true, laidKinds := [.data, .widerDeep], laidTests := true, laidLooks := .later }
def LiveNamesUptoCardSaid : Prop := Claim7.holds Tryz.pinned (.plain (OpenSpec.upto liveNamesSpec)) liveNamesUptoCard
end Rows
end Go.Proofs.YtoifedelfgpnhaaGreatDoor
