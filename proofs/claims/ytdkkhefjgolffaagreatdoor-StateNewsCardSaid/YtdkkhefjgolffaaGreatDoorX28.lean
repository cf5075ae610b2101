/-
  StateNews: every number of seats, every first number that is out of its range, by the kernel.
-/
import Derived.Test.YtdkkhefjgolffaaGreatDoorX27
set_option linter.unusedVariables false
set_option linter.unusedSimpArgs false
namespace Go.Proofs.YtdkkhefjgolffaaGreatDoor.AM
open Go.Proofs
set_option maxRecDepth 100000
theorem good1 : goodX 1 = true := by kernel_rfl
theorem good2 : goodX 2 = true := by kernel_rfl
theorem good3 : goodX 3 = true := by kernel_rfl
theorem good4 : goodX 4 = true := by kernel_rfl
theorem good5 : goodX 5 = true := by kernel_rfl
theorem good6 : goodX 6 = true := by kernel_rfl
theorem good7 : goodX 7 = true := by kernel_rfl
theorem good8 : goodX 8 = true := by kernel_rfl
theorem none0 : badX 0 1000 false = true := by kernel_rfl
theorem many9 : badX 9 1000 false = true := by kernel_rfl
theorem bads1 : badsX 1 = true := by kernel_rfl
theorem bads2 : badsX 2 = true := by kernel_rfl
theorem bads3 : badsX 3 = true := by kernel_rfl
theorem bads4 : badsX 4 = true := by kernel_rfl
theorem bads5 : badsX 5 = true := by kernel_rfl
theorem bads6 : badsX 6 = true := by kernel_rfl
theorem bads7 : badsX 7 = true := by kernel_rfl
theorem bads8 : badsX 8 = true := by kernel_rfl
theorem bads9 : badsX 9 = true := by kernel_rfl
end Go.Proofs.YtdkkhefjgolffaaGreatDoor.AM
