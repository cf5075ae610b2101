/-
  CallNames: the card's closed facts.
-/
import Derived.Test.YtecfnddaniphdaaGreatDoorCards
import Derived.SevenTiedAt
namespace Go.Proofs.YtecfnddaniphdaaGreatDoor.facts
open Go
theorem wf1 : Rows.callNamesRow.wfByText (OpenSpec.ofChange Rows.callNamesSpec) = true := by kernel_rfl
theorem main1 : Tryz.pinned.checked.prog.mainIs = some (true, ("0d74a8568b4ddc5aabfebd66365f46295100e8ab5e6cda303d2fd58059f2f747" : String).toList) := by kernel_rfl
theorem goes1 : false = Rows.callNamesRow.goesBy Tryz.pinned.checked.prog := by kernel_rfl
theorem looks1 : false = Tryz.pinned.checked.prog.looks [] := by kernel_rfl
theorem named1 : Tryz.prog.funcNamed "mainsheet/mainsheetlaw21.CallNames" = some 3 := by kernel_rfl
theorem stand3 : Tryz.prog.wantsStandIn 3 = false := by kernel_rfl
theorem stand9 : Tryz.prog.wantsStandIn 9 = false := by kernel_rfl
end Go.Proofs.YtecfnddaniphdaaGreatDoor.facts
