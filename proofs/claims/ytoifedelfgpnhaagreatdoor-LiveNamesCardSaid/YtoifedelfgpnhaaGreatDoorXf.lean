/-
  The program's known calls, by the kernel.
-/
import Derived.Test.YtoifedelfgpnhaaGreatDoorXd
set_option linter.unusedVariables false
namespace Go.Proofs.YtoifedelfgpnhaaGreatDoor.AM
open Go.Proofs
set_option maxRecDepth 100000
theorem noMems : MemsOk Tryz.prog (cfm []) := ⟨fun m hm => (by cases hm), fun g hg => (by simp only [cfm, List.mem_singleton] at hg; subst hg; decide)⟩
theorem run1 : okRun (runA (cfm []) 4000 (.call mem1.f mem1.args ⟨heapM mem1.h, 1000, []⟩)) mem1.v = true := by kernel_rfl
theorem run2 : okRun (runA (cfm []) 4000 (.call mem2.f mem2.args ⟨heapM mem2.h, 1000, []⟩)) mem2.v = true := by kernel_rfl
theorem run3 : okRun (runA (cfm []) 4000 (.call mem3.f mem3.args ⟨heapM mem3.h, 1000, []⟩)) mem3.v = true := by kernel_rfl
theorem ok1 (l : List Mem) : MemOk Tryz.prog (cfm l) mem1 := mem_ok (cf := cfm []) (cfOk []) noMems run1 (by kernel_rfl) (by kernel_rfl) rfl (fun _ h => h)
theorem ok2 (l : List Mem) : MemOk Tryz.prog (cfm l) mem2 := mem_ok (cf := cfm []) (cfOk []) noMems run2 (by kernel_rfl) (by kernel_rfl) rfl (fun _ h => h)
theorem ok3 (l : List Mem) : MemOk Tryz.prog (cfm l) mem3 := mem_ok (cf := cfm []) (cfOk []) noMems run3 (by kernel_rfl) (by kernel_rfl) rfl (fun _ h => h)
theorem mems1 : MemsOk Tryz.prog (cfm [mem3, mem2, mem1]) := ⟨fun m hm => (by
  simp only [cfm, List.mem_cons, List.not_mem_nil, or_false] at hm
  rcases hm with rfl | rfl | rfl
  · exact ok3 _
  · exact ok2 _
  · exact ok1 _), noMems.gl⟩
theorem run0 : okRun (runA (cfm [mem3, mem2, mem1]) 4000 (.call mem0.f mem0.args ⟨heapM mem0.h, 1000, []⟩)) mem0.v = true := by kernel_rfl
theorem ok0 (l : List Mem) : MemOk Tryz.prog (cfm l) mem0 := mem_ok (cf := cfm [mem3, mem2, mem1]) (cfOk _) mems1 run0 (by kernel_rfl) (by kernel_rfl) rfl (fun _ h => h)
theorem mems2 : MemsOk Tryz.prog (cfm [mem0, mem3, mem2, mem1]) := ⟨fun m hm => (by
  simp only [cfm, List.mem_cons, List.not_mem_nil, or_false] at hm
  rcases hm with rfl | rfl | rfl | rfl
  · exact ok0 _
  · exact ok3 _
  · exact ok2 _
  · exact ok1 _), noMems.gl⟩
end Go.Proofs.YtoifedelfgpnhaaGreatDoor.AM
