/-
  The program's known calls, by the kernel.
-/
import Derived.Test.YtecfnddaniphdaaGreatDoorXd
set_option linter.unusedVariables false
namespace Go.Proofs.YtecfnddaniphdaaGreatDoor.AM
open Go.Proofs
set_option maxRecDepth 100000
theorem noMems : MemsOk Tryz.prog (cfm []) := ⟨fun m hm => (by cases hm), fun g hg => (by simp only [cfm, List.mem_singleton] at hg; subst hg; decide)⟩
theorem run9 : okRun (runA (cfm []) 4000 (.call mem9.f mem9.args ⟨heapM mem9.h, 1000, []⟩)) mem9.v = true := by kernel_rfl
theorem ok9 (l : List Mem) : MemOk Tryz.prog (cfm l) mem9 := mem_ok (cf := cfm []) (cfOk []) noMems run9 (by kernel_rfl) (by kernel_rfl) rfl (fun _ h => h)
theorem run10 : okRun (runA (cfm []) 4000 (.call mem10.f mem10.args ⟨heapM mem10.h, 1000, []⟩)) mem10.v = true := by kernel_rfl
theorem ok10 (l : List Mem) : MemOk Tryz.prog (cfm l) mem10 := mem_ok (cf := cfm []) (cfOk []) noMems run10 (by kernel_rfl) (by kernel_rfl) rfl (fun _ h => h)
theorem run11 : okRun (runA (cfm []) 4000 (.call mem11.f mem11.args ⟨heapM mem11.h, 1000, []⟩)) mem11.v = true := by kernel_rfl
theorem ok11 (l : List Mem) : MemOk Tryz.prog (cfm l) mem11 := mem_ok (cf := cfm []) (cfOk []) noMems run11 (by kernel_rfl) (by kernel_rfl) rfl (fun _ h => h)
theorem run12 : okRun (runA (cfm []) 4000 (.call mem12.f mem12.args ⟨heapM mem12.h, 1000, []⟩)) mem12.v = true := by kernel_rfl
theorem ok12 (l : List Mem) : MemOk Tryz.prog (cfm l) mem12 := mem_ok (cf := cfm []) (cfOk []) noMems run12 (by kernel_rfl) (by kernel_rfl) rfl (fun _ h => h)
theorem run13 : okRun (runA (cfm []) 4000 (.call mem13.f mem13.args ⟨heapM mem13.h, 1000, []⟩)) mem13.v = true := by kernel_rfl
theorem ok13 (l : List Mem) : MemOk Tryz.prog (cfm l) mem13 := mem_ok (cf := cfm []) (cfOk []) noMems run13 (by kernel_rfl) (by kernel_rfl) rfl (fun _ h => h)
theorem mems1 : MemsOk Tryz.prog (cfm [mem9, mem10, mem11, mem12, mem13]) := ⟨fun m hm => (by
  simp only [cfm, List.mem_cons, List.not_mem_nil, or_false] at hm
  rcases hm with rfl | rfl | rfl | rfl | rfl
  · exact ok9 _
  · exact ok10 _
  · exact ok11 _
  · exact ok12 _
  · exact ok13 _), noMems.gl⟩
end Go.Proofs.YtecfnddaniphdaaGreatDoor.AM
