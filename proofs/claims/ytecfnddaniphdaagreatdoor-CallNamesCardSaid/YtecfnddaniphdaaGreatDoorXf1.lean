/-
  The known calls of state.Check, by the kernel.
-/
import Derived.Test.YtecfnddaniphdaaGreatDoorXf
set_option linter.unusedVariables false
namespace Go.Proofs.YtecfnddaniphdaaGreatDoor.AM
open Go.Proofs
set_option maxRecDepth 100000
theorem run0 : okRun (runA (cfm [mem9, mem10, mem11, mem12, mem13]) 4000 (.call mem0.f mem0.args ⟨heapM mem0.h, 1000, []⟩)) mem0.v = true := by kernel_rfl
theorem ok0 (l : List Mem) : MemOk Tryz.prog (cfm l) mem0 := mem_ok (cf := cfm [mem9, mem10, mem11, mem12, mem13]) (cfOk _) mems1 run0 (by kernel_rfl) (by kernel_rfl) rfl (fun _ h => h)
theorem run1 : okRun (runA (cfm [mem9, mem10, mem11, mem12, mem13]) 4000 (.call mem1.f mem1.args ⟨heapM mem1.h, 1000, []⟩)) mem1.v = true := by kernel_rfl
theorem ok1 (l : List Mem) : MemOk Tryz.prog (cfm l) mem1 := mem_ok (cf := cfm [mem9, mem10, mem11, mem12, mem13]) (cfOk _) mems1 run1 (by kernel_rfl) (by kernel_rfl) rfl (fun _ h => h)
theorem run2 : okRun (runA (cfm [mem9, mem10, mem11, mem12, mem13]) 4000 (.call mem2.f mem2.args ⟨heapM mem2.h, 1000, []⟩)) mem2.v = true := by kernel_rfl
theorem ok2 (l : List Mem) : MemOk Tryz.prog (cfm l) mem2 := mem_ok (cf := cfm [mem9, mem10, mem11, mem12, mem13]) (cfOk _) mems1 run2 (by kernel_rfl) (by kernel_rfl) rfl (fun _ h => h)
theorem run3 : okRun (runA (cfm [mem9, mem10, mem11, mem12, mem13]) 4000 (.call mem3.f mem3.args ⟨heapM mem3.h, 1000, []⟩)) mem3.v = true := by kernel_rfl
theorem ok3 (l : List Mem) : MemOk Tryz.prog (cfm l) mem3 := mem_ok (cf := cfm [mem9, mem10, mem11, mem12, mem13]) (cfOk _) mems1 run3 (by kernel_rfl) (by kernel_rfl) rfl (fun _ h => h)
theorem run4 : okRun (runA (cfm [mem9, mem10, mem11, mem12, mem13]) 4000 (.call mem4.f mem4.args ⟨heapM mem4.h, 1000, []⟩)) mem4.v = true := by kernel_rfl
theorem ok4 (l : List Mem) : MemOk Tryz.prog (cfm l) mem4 := mem_ok (cf := cfm [mem9, mem10, mem11, mem12, mem13]) (cfOk _) mems1 run4 (by kernel_rfl) (by kernel_rfl) rfl (fun _ h => h)
end Go.Proofs.YtecfnddaniphdaaGreatDoor.AM
