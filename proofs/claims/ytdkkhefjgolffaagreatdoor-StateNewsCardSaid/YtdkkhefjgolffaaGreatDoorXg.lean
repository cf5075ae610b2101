/-
  law20: wakes, by the kernel.
-/
import Derived.Test.YtdkkhefjgolffaaGreatDoorXf
import Derived.Below
set_option linter.unusedVariables false
namespace Go.Proofs.YtdkkhefjgolffaaGreatDoor.AM
open Go.Proofs Go.RowKit
set_option maxRecDepth 100000
theorem wakes_run : okRun (runA cf1 4000 (.call 10 [] empty0)) (.bool true) = true := by kernel_rfl
theorem wakes_calls (w : World) : Calls Tryz.prog 10 #[] w fun e w' => e = .returned (.bool true) ∧ Below w.heap.size w w' :=
  callsIn_wide.1 ((run_calls (cfOk _) mems1 wakes_run (by kernel_rfl) (by kernel_rfl) (by kernel_rfl) (fun _ => undef) trivial w (fun g hg => by cases hg)).mono fun e w' ⟨h, S⟩ => ⟨h, S.os, S.tape, S.output, S.size, fun k hk => S.blk hk⟩)
end Go.Proofs.YtdkkhefjgolffaaGreatDoor.AM
