/-
  LiveNames: the card's closed facts.
-/
import Derived.Test.YtoifedelfgpnhaaGreatDoorCards
import Derived.SevenTiedAt
namespace Go.Proofs.YtoifedelfgpnhaaGreatDoor.facts
open Go
theorem wf1 : Rows.liveNamesRow.wfByText (OpenSpec.ofChange Rows.liveNamesSpec) = true := by kernel_rfl
theorem main1 : Tryz.pinned.checked.prog.mainIs = some (true, ("303eb1bc380f0f34b3cd85a7decf62a62edd5886ace3acc17b0f304f71262e6a" : String).toList) := by kernel_rfl
theorem goes1 : false = Rows.liveNamesRow.goesBy Tryz.pinned.checked.prog := by kernel_rfl
theorem looks1 : false = Tryz.pinned.checked.prog.looks [] := by kernel_rfl
theorem named1 : Tryz.prog.funcNamed "mainsheet/mainsheetlaw24.LiveNames" = some 3 := by kernel_rfl
theorem stand22 : Tryz.prog.wantsStandIn 22 = false := by kernel_rfl
theorem stand23 : Tryz.prog.wantsStandIn 23 = false := by kernel_rfl
end Go.Proofs.YtoifedelfgpnhaaGreatDoor.facts
