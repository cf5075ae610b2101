/-
  The kinds' names, and whose kinds a guest asks: at every kind and every name CallNames answers true; the two package-level variables that its row lists are tied to the program's text by the card; no other condition.
-/
import Derived.Test.YtecfnddaniphdaaGreatDoorCards
import Derived.Test.YtecfnddaniphdaaGreatDoorTie
import Derived.Test.YtecfnddaniphdaaGreatDoorM8
import Derived.Test.YtecfnddaniphdaaGreatDoorFe
namespace Go.Proofs.YtecfnddaniphdaaGreatDoor.callNames
open Go.ChangeShapes Go.WideShapes Go.ChangeAt Go.RowKit Go.Joins
set_option linter.unusedVariables false
set_option linter.unusedSimpArgs false
theorem plain (f : FuncId) (fn : Func) (hf : Tryz.pinned.checked.prog.funcNamed "mainsheet/mainsheetlaw21.CallNames" = some f) (hfn : Tryz.pinned.checked.prog.funcs[f]? = some fn) :
    false = Tryz.pinned.checked.prog.looks [] ∧ ∀ (j : Nat) t, fn.params[j]? = some t → Tryz.pinned.checked.prog.wantsStandIn t = false := by
  obtain rfl : f = 3 := Option.some.inj (facts.named1.symm.trans hf) |>.symm
  obtain rfl : fn = Tryz.f3 := (Option.some.inj (Tryz.func3.symm.trans hfn)).symm
  refine ⟨facts.looks1, fun j t ht => ?_⟩
  rw [Tryz.params3] at ht
  have h := Array.mem_of_getElem? ht
  simp only [List.mem_toArray, List.mem_cons, List.not_mem_nil, or_false] at h
  rcases h with rfl | rfl
  · exact facts.stand3
  · exact facts.stand9
theorem card : Rows.CallNamesCardSaid :=
  Claim7.holds_tied_plain_at .later [] _ _ _ _ said (fun _ h => by cases h) facts.wf1 (fun _ h => by cases h) callNames_row_tie rfl ⟨rfl, rfl⟩ facts.main1 rfl plain facts.goes1
end Go.Proofs.YtecfnddaniphdaaGreatDoor.callNames
namespace Go.Proofs.YtecfnddaniphdaaGreatDoor
theorem callNames_holds : Rows.CallNamesCardSaid := callNames.card
#print axioms callNames_holds
end Go.Proofs.YtecfnddaniphdaaGreatDoor
