/-
  StateNews: the card's closed facts.
-/
import Derived.Test.YtdkkhefjgolffaaGreatDoorCards
import Derived.SevenTiedAt
namespace Go.Proofs.YtdkkhefjgolffaaGreatDoor.facts
open Go
theorem wf1 : Rows.stateNewsRow.wfByText (OpenSpec.ofChange Rows.stateNewsSpec) = true := by kernel_rfl
theorem main1 : Tryz.pinned.checked.prog.mainIs = some (true, ("61fb5b12dc8f0af1adb30342621242e883a2d8376440bbf0aae89587c7d2baca" : String).toList) := by kernel_rfl
theorem goes1 : false = Rows.stateNewsRow.goesBy Tryz.pinned.checked.prog := by kernel_rfl
theorem looks1 : false = Tryz.pinned.checked.prog.looks [] := by kernel_rfl
theorem named1 : Tryz.prog.funcNamed "mainsheet/mainsheetlaw20.StateNews" = some 3 := by kernel_rfl
theorem stand22 : Tryz.prog.wantsStandIn 22 = false := by kernel_rfl
end Go.Proofs.YtdkkhefjgolffaaGreatDoor.facts
