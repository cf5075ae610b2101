/-
  law24: wakes, by the kernel.
-/
import Derived.Test.YtoifedelfgpnhaaGreatDoorXf
import Derived.Test.YtoifedelfgpnhaaGreatDoorX32
import Derived.Below
set_option linter.unusedVariables false
namespace Go.Proofs.YtoifedelfgpnhaaGreatDoor.AM
open Go.Proofs Go.RowKit
set_option maxRecDepth 100000
theorem wakes_run : okRun (runA (cfm [mem0, mem3, mem2, mem1]) 4000 (.call 4 [] (oneV 1 tabV))) (.bool true) = true := by kernel_rfl
theorem wakes_calls (w : World) {cs : Array Value} {t : TypeId} (hw : w.heap[1]? = some (.cells cs t (0, 0))) (hc : cs.toList = tabV) : Calls Tryz.prog 4 #[] w fun e w' => e = .returned (.bool true) ∧ Below w.heap.size w w' :=
  callsIn_wide.1 ((run_one (cfOk _) mems2 wakes_run (by kernel_rfl) (by kernel_rfl) rfl (by decide) (by kernel_rfl) (by kernel_rfl) (fun _ => undef) trivial w hw hc).mono fun e w' ⟨h, S⟩ => ⟨h, S.os, S.tape, S.output, S.size, fun k hk => S.blk hk⟩)
end Go.Proofs.YtoifedelfgpnhaaGreatDoor.AM
