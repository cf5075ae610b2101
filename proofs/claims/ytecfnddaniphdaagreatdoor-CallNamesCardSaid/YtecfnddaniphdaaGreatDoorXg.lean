/-
  law21: wakes, by the kernel.
-/
import Derived.Test.YtecfnddaniphdaaGreatDoorXf1
import Derived.Test.YtecfnddaniphdaaGreatDoorXf2
import Derived.Test.YtecfnddaniphdaaGreatDoorX32
import Derived.Below
set_option linter.unusedVariables false
namespace Go.Proofs.YtecfnddaniphdaaGreatDoor.AM
open Go.Proofs Go.RowKit
set_option maxRecDepth 100000
theorem mems2 : MemsOk Tryz.prog (cfm [mem0, mem1, mem2, mem3, mem4, mem5, mem6, mem7, mem8, mem9, mem10, mem11, mem12, mem13]) := ⟨fun m hm => (by
  simp only [cfm, List.mem_cons, List.not_mem_nil, or_false] at hm
  rcases hm with rfl | rfl | rfl | rfl | rfl | rfl | rfl | rfl | rfl | rfl | rfl | rfl | rfl | rfl
  · exact ok0 _
  · exact ok1 _
  · exact ok2 _
  · exact ok3 _
  · exact ok4 _
  · exact ok5 _
  · exact ok6 _
  · exact ok7 _
  · exact ok8 _
  · exact ok9 _
  · exact ok10 _
  · exact ok11 _
  · exact ok12 _
  · exact ok13 _), noMems.gl⟩
theorem wakes_run : okRun (runA (cfm [mem0, mem1, mem2, mem3, mem4, mem5, mem6, mem7, mem8, mem9, mem10, mem11, mem12, mem13]) 4000 (.call 4 [] (oneV 1 tabV))) (.bool true) = true := by kernel_rfl
theorem wakes_calls (w : World) {cs : Array Value} {t : TypeId} (hw : w.heap[1]? = some (.cells cs t (0, 0))) (hc : cs.toList = tabV) : Calls Tryz.prog 4 #[] w fun e w' => e = .returned (.bool true) ∧ Below w.heap.size w w' :=
  callsIn_wide.1 ((run_one (cfOk _) mems2 wakes_run (by kernel_rfl) (by kernel_rfl) rfl (by decide) (by kernel_rfl) (by kernel_rfl) (fun _ => undef) trivial w hw hc).mono fun e w' ⟨h, S⟩ => ⟨h, S.os, S.tape, S.output, S.size, fun k hk => S.blk hk⟩)
end Go.Proofs.YtecfnddaniphdaaGreatDoor.AM
