/-
  The program's known calls, by the kernel.
-/
import Derived.Test.YtdkkhefjgolffaaGreatDoorXd
set_option linter.unusedVariables false
namespace Go.Proofs.YtdkkhefjgolffaaGreatDoor.AM
open Go.Proofs
set_option maxRecDepth 100000
theorem check_run : okRun (runA cf 4000 (.call 139 [.agg #[.int .i64 0, .slice none 0 0, .slice none 0 0]] ⟨heapM [], 1000, []⟩)) (.int .i64 0) = true := by kernel_rfl
theorem noMems : MemsOk Tryz.prog cf := ⟨fun m hm => (by cases hm), fun g hg => (by cases hg)⟩
theorem mems1 : MemsOk Tryz.prog cf1 := ⟨fun m hm => (by
  simp only [cf1, List.mem_singleton] at hm
  subst hm
  exact mem_ok (cf := cf) (cfOk []) noMems check_run (by kernel_rfl) (by kernel_rfl) rfl (fun _ h => h)), fun g hg => (by cases hg)⟩
end Go.Proofs.YtdkkhefjgolffaaGreatDoor.AM
