/-
  States of topologies, for every row of them: at every row of topologies StateNews answers true and leaves its argument as it was; the one package-level variable that its row lists is tied to the program's text by the card; no other condition.
-/
import Derived.Test.YtdkkhefjgolffaaGreatDoorCards
import Derived.Test.YtdkkhefjgolffaaGreatDoorTie
import Derived.Test.YtdkkhefjgolffaaGreatDoorD8
import Derived.Test.YtdkkhefjgolffaaGreatDoorFe
namespace Go.Proofs.YtdkkhefjgolffaaGreatDoor.stateNews
open Go.ChangeShapes Go.WideShapes Go.ChangeAt Go.RowKit Go.Joins
set_option linter.unusedVariables false
set_option linter.unusedSimpArgs false
theorem plain (f : FuncId) (fn : Func) (hf : Tryz.pinned.checked.prog.funcNamed "mainsheet/mainsheetlaw20.StateNews" = some f) (hfn : Tryz.pinned.checked.prog.funcs[f]? = some fn) :
    false = Tryz.pinned.checked.prog.looks [] ∧ ∀ (j : Nat) t, fn.params[j]? = some t → Tryz.pinned.checked.prog.wantsStandIn t = false := by
  obtain rfl : f = 3 := Option.some.inj (facts.named1.symm.trans hf) |>.symm
  obtain rfl : fn = Tryz.f3 := (Option.some.inj (Tryz.func3.symm.trans hfn)).symm
  refine ⟨facts.looks1, fun j t ht => ?_⟩
  rw [Tryz.params3] at ht
  obtain rfl : t = 22 := by simpa using Array.mem_of_getElem? ht
  exact facts.stand22
theorem card : Rows.StateNewsCardSaid :=
  Claim7.holds_tied_plain_at .later [] _ _ _ _ said (fun _ h => by cases h) facts.wf1 (fun _ h => by cases h) stateNews_row_tie rfl ⟨rfl, rfl⟩ facts.main1 rfl plain facts.goes1
end Go.Proofs.YtdkkhefjgolffaaGreatDoor.stateNews
namespace Go.Proofs.YtdkkhefjgolffaaGreatDoor
theorem stateNews_holds : Rows.StateNewsCardSaid := stateNews.card
#print axioms stateNews_holds
end Go.Proofs.YtdkkhefjgolffaaGreatDoor
