/-
  The known calls of state.Check, by the kernel.
-/
import Derived.Test.YtecfnddaniphdaaGreatDoorXf
set_option linter.unusedVariables false
namespace Go.Proofs.YtecfnddaniphdaaGreatDoor.AM
open Go.Proofs
set_option maxRecDepth 100000
theorem run5 : okRun (runA (cfm [mem9, mem10, mem11, mem12, mem13]) 4000 (.call mem5.f mem5.args ⟨heapM mem5.h, 1000, []⟩)) mem5.v = true := by kernel_rfl
theorem ok5 (l : List Mem) : MemOk Tryz.prog (cfm l) mem5 := mem_ok (cf := cfm [mem9, mem10, mem11, mem12, mem13]) (cfOk _) mems1 run5 (by kernel_rfl) (by kernel_rfl) rfl (fun _ h => h)
theorem run6 : okRun (runA (cfm [mem9, mem10, mem11, mem12, mem13]) 4000 (.call mem6.f mem6.args ⟨heapM mem6.h, 1000, []⟩)) mem6.v = true := by kernel_rfl
theorem ok6 (l : List Mem) : MemOk Tryz.prog (cfm l) mem6 := mem_ok (cf := cfm [mem9, mem10, mem11, mem12, mem13]) (cfOk _) mems1 run6 (by kernel_rfl) (by kernel_rfl) rfl (fun _ h => h)
theorem run7 : okRun (runA (cfm [mem9, mem10, mem11, mem12, mem13]) 4000 (.call mem7.f mem7.args ⟨heapM mem7.h, 1000, []⟩)) mem7.v = true := by kernel_rfl
theorem ok7 (l : List Mem) : MemOk Tryz.prog (cfm l) mem7 := mem_ok (cf := cfm [mem9, mem10, mem11, mem12, mem13]) (cfOk _) mems1 run7 (by kernel_rfl) (by kernel_rfl) rfl (fun _ h => h)
theorem run8 : okRun (runA (cfm [mem9, mem10, mem11, mem12, mem13]) 4000 (.call mem8.f mem8.args ⟨heapM mem8.h, 1000, []⟩)) mem8.v = true := by kernel_rfl
theorem ok8 (l : List Mem) : MemOk Tryz.prog (cfm l) mem8 := mem_ok (cf := cfm [mem9, mem10, mem11, mem12, mem13]) (cfOk _) mems1 run8 (by kernel_rfl) (by kernel_rfl) rfl (fun _ h => h)
end Go.Proofs.YtecfnddaniphdaaGreatDoor.AM
