/-
  No cell of these rows narrows 'for every input' (looked for: loops, veiled, ifaces, maps, wideKeys, modest, calm, conditions, laid).
  DERIVED. THE GIVEN ROWS OF THIS SEAT. 6 by the template 'for every input the law returns true; each argument reads behind the call as it read before'; 0 by the template 'total and deterministic' (their statements: YtjppkcdonddohaaTotals.lean).
  GIVEN WITH THE SEED: the statements are not yours to turn. If you find one false, say at which input.
  Laid BY PROGRAM, IN A SANDBOX (cutbox-rows.mjs): the forced cells as the released guide's own fill.sh prints them over the translation 44db99ba1ae82eec… (all of the seat's roots in one cut). By AI agents, Wed Nov 11 2026. No macro, syntax, notation, axiom, sorry.
-/
import Derived.Test.YtjppkcdonddohaaChecked
import GoSem.Claim
import GoSem.ClaimJoined
import GoSem.ClaimMapViews
import Derived.JoinedTies
import Derived.KernelRfl
namespace Go.Proofs.Ytjppkcdonddohaa
/- THE CELL 'sum', in the pinned program and in every row, IS THE sha256 OF THE DUMP (.gsa) THAT YtjppkcdonddohaaProg.lean LOADS. Nothing in Lean hashes anything: it is a label: what it is worth is what the hold of that sum in a sandbox is worth. -/
noncomputable def Try.pinned : Pinned := { name := "ytjppkcdonddohaa", sum := "44db99ba1ae82eec11da1804b468401d92d927132e0a8a61bdeb35e9c31d2b4b", checked := Try.checked }
namespace Rows
def none {H : Type} : Left H := { results := [], args := [] }

/-- 'mainsheetlaw17.WaitWakes': WHATEVER THE INPUT: true; the input reads as it did. -/
def waitWakesSpec : ChangeSpec := { name := "waitWakes", fn := fun _ => fun
  | [d1, d2, d3] => { results := [.lit (.bool true)], args := [d1, d2, d3] }
  | _ => none }
def waitWakesRow : OpenClaim := { program := "ytjppkcdonddohaa", sum := "44db99ba1ae82eec11da1804b468401d92d927132e0a8a61bdeb35e9c31d2b4b", func := "mainsheet/mainsheetlaw17.WaitWakes", spec := "waitWakes", unfollowed := true, recurses := true, apart := false }
def WaitWakesSaid : Prop := waitWakesRow.holds Try.pinned (OpenSpec.ofChange waitWakesSpec)

/-- ITS FALSE NEIGHBOUR: 'it returns false'. Refute it at one input. -/
def waitWakesWrong : ChangeSpec := { name := "waitWakes", fn := fun _ => fun
  | [d1, d2, d3] => { results := [.lit (.bool false)], args := [d1, d2, d3] }
  | _ => none }
def WaitWakesWrongFalsely : Prop := waitWakesRow.holds Try.pinned (OpenSpec.ofChange waitWakesWrong)

/-- 'mainsheetlaw17.WaitOnce': WHATEVER THE INPUT: true; the input reads as it did. -/
def waitOnceSpec : ChangeSpec := { name := "waitOnce", fn := fun _ => fun
  | [d1, d2, d3] => { results := [.lit (.bool true)], args := [d1, d2, d3] }
  | _ => none }
def waitOnceRow : OpenClaim := { program := "ytjppkcdonddohaa", sum := "44db99ba1ae82eec11da1804b468401d92d927132e0a8a61bdeb35e9c31d2b4b", func := "mainsheet/mainsheetlaw17.WaitOnce", spec := "waitOnce", unfollowed := true, recurses := true, apart := false }
def WaitOnceSaid : Prop := waitOnceRow.holds Try.pinned (OpenSpec.ofChange waitOnceSpec)

/-- ITS FALSE NEIGHBOUR: 'it returns false'. Refute it at one input. -/
def waitOnceWrong : ChangeSpec := { name := "waitOnce", fn := fun _ => fun
  | [d1, d2, d3] => { results := [.lit (.bool false)], args := [d1, d2, d3] }
  | _ => none }
def WaitOnceWrongFalsely : Prop := waitOnceRow.holds Try.pinned (OpenSpec.ofChange waitOnceWrong)

/-- 'mainsheetlaw17.WaitPolls': WHATEVER THE INPUT: true; the input reads as it did. -/
def waitPollsSpec : ChangeSpec := { name := "waitPolls", fn := fun _ => fun
  | [d1, d2, d3] => { results := [.lit (.bool true)], args := [d1, d2, d3] }
  | _ => none }
def waitPollsRow : OpenClaim := { program := "ytjppkcdonddohaa", sum := "44db99ba1ae82eec11da1804b468401d92d927132e0a8a61bdeb35e9c31d2b4b", func := "mainsheet/mainsheetlaw17.WaitPolls", spec := "waitPolls", unfollowed := true, recurses := true, apart := false }
def WaitPollsSaid : Prop := waitPollsRow.holds Try.pinned (OpenSpec.ofChange waitPollsSpec)

/-- ITS FALSE NEIGHBOUR: 'it returns false'. Refute it at one input. -/
def waitPollsWrong : ChangeSpec := { name := "waitPolls", fn := fun _ => fun
  | [d1, d2, d3] => { results := [.lit (.bool false)], args := [d1, d2, d3] }
  | _ => none }
def WaitPollsWrongFalsely : Prop := waitPollsRow.holds Try.pinned (OpenSpec.ofChange waitPollsWrong)

/-- 'mainsheetlaw17.WaitPauses': WHATEVER THE INPUT: true; the input reads as it did. -/
def waitPausesSpec : ChangeSpec := { name := "waitPauses", fn := fun _ => fun
  | [d1, d2, d3] => { results := [.lit (.bool true)], args := [d1, d2, d3] }
  | _ => none }
def waitPausesRow : OpenClaim := { program := "ytjppkcdonddohaa", sum := "44db99ba1ae82eec11da1804b468401d92d927132e0a8a61bdeb35e9c31d2b4b", func := "mainsheet/mainsheetlaw17.WaitPauses", spec := "waitPauses", unfollowed := true, recurses := true, apart := false }
def WaitPausesSaid : Prop := waitPausesRow.holds Try.pinned (OpenSpec.ofChange waitPausesSpec)

/-- ITS FALSE NEIGHBOUR: 'it returns false'. Refute it at one input. -/
def waitPausesWrong : ChangeSpec := { name := "waitPauses", fn := fun _ => fun
  | [d1, d2, d3] => { results := [.lit (.bool false)], args := [d1, d2, d3] }
  | _ => none }
def WaitPausesWrongFalsely : Prop := waitPausesRow.holds Try.pinned (OpenSpec.ofChange waitPausesWrong)

/-- 'mainsheetlaw17.WaitEnds': WHATEVER THE INPUT: true; the input reads as it did. -/
def waitEndsSpec : ChangeSpec := { name := "waitEnds", fn := fun _ => fun
  | [d1, d2] => { results := [.lit (.bool true)], args := [d1, d2] }
  | _ => none }
def waitEndsRow : OpenClaim := { program := "ytjppkcdonddohaa", sum := "44db99ba1ae82eec11da1804b468401d92d927132e0a8a61bdeb35e9c31d2b4b", func := "mainsheet/mainsheetlaw17.WaitEnds", spec := "waitEnds", unfollowed := true, recurses := true, apart := false }
def WaitEndsSaid : Prop := waitEndsRow.holds Try.pinned (OpenSpec.ofChange waitEndsSpec)

/-- ITS FALSE NEIGHBOUR: 'it returns false'. Refute it at one input. -/
def waitEndsWrong : ChangeSpec := { name := "waitEnds", fn := fun _ => fun
  | [d1, d2] => { results := [.lit (.bool false)], args := [d1, d2] }
  | _ => none }
def WaitEndsWrongFalsely : Prop := waitEndsRow.holds Try.pinned (OpenSpec.ofChange waitEndsWrong)

/-- 'mainsheetlaw17.WaitChanges': WHATEVER THE INPUT: true; the input reads as it did. -/
def waitChangesSpec : ChangeSpec := { name := "waitChanges", fn := fun _ => fun
  | [d] => { results := [.lit (.bool true)], args := [d] }
  | _ => none }
def waitChangesRow : OpenClaim := { program := "ytjppkcdonddohaa", sum := "44db99ba1ae82eec11da1804b468401d92d927132e0a8a61bdeb35e9c31d2b4b", func := "mainsheet/mainsheetlaw17.WaitChanges", spec := "waitChanges", unfollowed := true, recurses := true, apart := false }
def WaitChangesSaid : Prop := waitChangesRow.holds Try.pinned (OpenSpec.ofChange waitChangesSpec)

/-- ITS FALSE NEIGHBOUR: 'it returns false'. Refute it at one input. -/
def waitChangesWrong : ChangeSpec := { name := "waitChanges", fn := fun _ => fun
  | [d] => { results := [.lit (.bool false)], args := [d] }
  | _ => none }
def WaitChangesWrongFalsely : Prop := waitChangesRow.holds Try.pinned (OpenSpec.ofChange waitChangesWrong)

/- THE SECOND FORM. 'bulk': how many values and letters a reading holds, each counted each time it is reached (what is shared counts as often as it is met; a slice's spare places count too). A statement '..UptoSaid' is the law's where the arguments, and the package variables that the reading takes, are together of bulk at most 1048576: NARROWER than '..Said'. Prove '..Said' where nothing that the law and all that it calls make is longer than what came in: it says more and counts as full. Else prove '..UptoSaid'. A law counts once. -/
mutual
def uptoBulk {H : Type} : DataW H → Nat
  | .lit (.string bytes) => bytes.length + 1
  | .lit _ => 1
  | .nil => 1
  | .ptr d => uptoBulk d + 1
  | .slice elems spare => uptoBulkAll elems + uptoBulkAll spare + 1
  | .agg parts => uptoBulkAll parts + 1
  | .iface _ d => uptoBulk d + 1
  | .map entries => uptoBulkEntries entries + 1
  | .held _ => 1
def uptoBulkAll {H : Type} : List (DataW H) → Nat
  | [] => 0
  | d :: r => uptoBulk d + uptoBulkAll r
def uptoBulkEntries {H : Type} : List (Lit × DataW H) → Nat
  | [] => 0
  | x :: r => uptoBulkEntry x + uptoBulkEntries r
def uptoBulkEntry {H : Type} : Lit × DataW H → Nat
  | (.string bytes, d) => bytes.length + uptoBulk d + 1
  | (_, d) => uptoBulk d + 1
 end
def uptoSmall : (H : Type) → List (DataW H) → Bool := fun _ ds => decide (uptoBulkAll ds ≤ 1048576)
def OpenSpec.upto (s : _root_.Go.ChangeSpec) : _root_.Go.OpenSpec := { _root_.Go.OpenSpec.ofChange s with cond := some uptoSmall }

/-- 'mainsheetlaw17.WaitWakes', WHERE WHAT IT READS IS OF BULK AT MOST 1048576: true; the input reads as it did. -/
def waitWakesUptoRow : OpenClaim := { program := "ytjppkcdonddohaa", sum := "44db99ba1ae82eec11da1804b468401d92d927132e0a8a61bdeb35e9c31d2b4b", func := "mainsheet/mainsheetlaw17.WaitWakes", spec := "waitWakes", unfollowed := true, recurses := true, apart := false, narrowed := true }
def WaitWakesUptoSaid : Prop := waitWakesUptoRow.holds Try.pinned (OpenSpec.upto waitWakesSpec)

/-- 'mainsheetlaw17.WaitOnce', WHERE WHAT IT READS IS OF BULK AT MOST 1048576: true; the input reads as it did. -/
def waitOnceUptoRow : OpenClaim := { program := "ytjppkcdonddohaa", sum := "44db99ba1ae82eec11da1804b468401d92d927132e0a8a61bdeb35e9c31d2b4b", func := "mainsheet/mainsheetlaw17.WaitOnce", spec := "waitOnce", unfollowed := true, recurses := true, apart := false, narrowed := true }
def WaitOnceUptoSaid : Prop := waitOnceUptoRow.holds Try.pinned (OpenSpec.upto waitOnceSpec)

/-- 'mainsheetlaw17.WaitPolls', WHERE WHAT IT READS IS OF BULK AT MOST 1048576: true; the input reads as it did. -/
def waitPollsUptoRow : OpenClaim := { program := "ytjppkcdonddohaa", sum := "44db99ba1ae82eec11da1804b468401d92d927132e0a8a61bdeb35e9c31d2b4b", func := "mainsheet/mainsheetlaw17.WaitPolls", spec := "waitPolls", unfollowed := true, recurses := true, apart := false, narrowed := true }
def WaitPollsUptoSaid : Prop := waitPollsUptoRow.holds Try.pinned (OpenSpec.upto waitPollsSpec)

/-- 'mainsheetlaw17.WaitPauses', WHERE WHAT IT READS IS OF BULK AT MOST 1048576: true; the input reads as it did. -/
def waitPausesUptoRow : OpenClaim := { program := "ytjppkcdonddohaa", sum := "44db99ba1ae82eec11da1804b468401d92d927132e0a8a61bdeb35e9c31d2b4b", func := "mainsheet/mainsheetlaw17.WaitPauses", spec := "waitPauses", unfollowed := true, recurses := true, apart := false, narrowed := true }
def WaitPausesUptoSaid : Prop := waitPausesUptoRow.holds Try.pinned (OpenSpec.upto waitPausesSpec)

/-- 'mainsheetlaw17.WaitEnds', WHERE WHAT IT READS IS OF BULK AT MOST 1048576: true; the input reads as it did. -/
def waitEndsUptoRow : OpenClaim := { program := "ytjppkcdonddohaa", sum := "44db99ba1ae82eec11da1804b468401d92d927132e0a8a61bdeb35e9c31d2b4b", func := "mainsheet/mainsheetlaw17.WaitEnds", spec := "waitEnds", unfollowed := true, recurses := true, apart := false, narrowed := true }
def WaitEndsUptoSaid : Prop := waitEndsUptoRow.holds Try.pinned (OpenSpec.upto waitEndsSpec)

/-- 'mainsheetlaw17.WaitChanges', WHERE WHAT IT READS IS OF BULK AT MOST 1048576: true; the input reads as it did. -/
def waitChangesUptoRow : OpenClaim := { program := "ytjppkcdonddohaa", sum := "44db99ba1ae82eec11da1804b468401d92d927132e0a8a61bdeb35e9c31d2b4b", func := "mainsheet/mainsheetlaw17.WaitChanges", spec := "waitChanges", unfollowed := true, recurses := true, apart := false, narrowed := true }
def WaitChangesUptoSaid : Prop := waitChangesUptoRow.holds Try.pinned (OpenSpec.upto waitChangesSpec)

end Rows
end Go.Proofs.Ytjppkcdonddohaa
