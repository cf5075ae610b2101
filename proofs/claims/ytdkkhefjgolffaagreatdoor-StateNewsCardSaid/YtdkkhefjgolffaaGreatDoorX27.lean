/-
  The state seat: StateNews: what is done of one topology, its numbers unknown, by the kernel.
-/
import Derived.Test.YtdkkhefjgolffaaGreatDoorX26
import Derived.Test.YtdkkhefjgolffaaGreatDoorXf
set_option linter.unusedVariables false
namespace Go.Proofs.YtdkkhefjgolffaaGreatDoor.AM
open Go.Proofs
set_option maxRecDepth 100000
/-- of numbers k: those before 'bad' are in their ranges (sockets: even ones; cores: odd ones); number 'bad' is below (hi: above) its range; nothing is known of those behind -/
def tstT (bad : Nat) (hi : Bool) (op : BinOp) (i : Nat) (c : Int) : Option Value := match op with
  | .lss => if c = 0 then cond (Nat.blt i bad) (some (.bool false)) (cond (Nat.beq i bad) (some (.bool (!hi))) none) else none
  | .geq => if c = (if i % 2 = 0 then 4 else 8) then cond (Nat.blt i bad) (some (.bool false)) (cond (Nat.beq i bad && hi) (some (.bool true)) none) else none
  | _ => none
def orcT (bad : Nat) (hi : Bool) (op : BinOp) : Value → Value → Option Value
  | .chan (some i), .int .i64 c => cond (Nat.blt i 1000) (tstT bad hi op i c) none
  | _, _ => none
def syT (bad : Nat) (hi : Bool) (σ : Nat → Value) : Prop := ∃ n : Nat → Int, (∀ i, i < 1000 → σ i = .int .i64 (n i)) ∧ (∀ i, i < bad → 0 ≤ n i ∧ n i < (if i % 2 = 0 then 4 else 8)) ∧ (bad < 1000 → if hi then (if bad % 2 = 0 then 4 else 8) ≤ n bad else n bad < 0)
noncomputable def cfT (bad : Nat) (hi : Bool) : Cfg := ⟨ft, ty, [], cf1.memo, syT bad hi, orcT bad hi⟩
def syms (m : Nat) : List Value := (List.range (2 * m)).map fun i => .chan (some i)
def topoA (m : Nat) : Value := .slice (some ⟨1, 0, none⟩) m UNK
/-- whatever lies in slot t -/
def opq (t : Nat) : Value := .chan (some (2000000 + t))
/-- the seats, the topology's variable -/
noncomputable def memX (m : Nat) : St := ⟨TR.set FU (TR.set FU .nil 1 (some (.cells (syms m) (some 2)))) 2 (some (.cells [topoA m] none)), 1000, []⟩
noncomputable def frX : AF := ⟨TR.set FU (TR.set FU (TR.set FU (TR.set FU (TR.set FU .nil 0 (some (opq 0))) 5 (some (.pointer (some ⟨2, 0, none⟩)))) 10 (some (opq 10))) 11 (some (opq 11))) 12 (some (opq 12)), 54, [], none⟩
noncomputable def codeX : Code := match Tryz.f3.body with
  | some (.seq _ (.seq _ (.seq (.seq _ (.block _ (.loop (.seq _ (.seq _ (.seq (.block _ (.seq _ (.seq _ (.seq _ x)))) _)))))) _))) => x
  | _ => .skip
def isEx (good : Bool) : Ex → Bool
  | .normal => good
  | .exit j => !good && Nat.beq j 1
  | .ret => false
def isOpq (t : Nat) : Option Value → Bool
  | some (.chan (some i)) => Nat.beq i (2000000 + t)
  | _ => false
noncomputable def okX (good : Bool) : Option Out → Bool
  | some (.ex e fr s) => isEx good e && (Nat.beq fr.sz 54 && (fr.marks.isEmpty && (isOpq 0 (fr.T.get 0) && (isOpq 10 (fr.T.get 10) && (isOpq 11 (fr.T.get 11) && (isOpq 12 (fr.T.get 12) && (s.t.all fun b => Nat.ble 1000 b)))))))
  | _ => false
/-- the good ones: of m seats -/
noncomputable def goodX (m : Nat) : Bool := okX true (runA (cfT 1000 false) 4000 (.exec codeX frX (memX m)))
noncomputable def badX (m bad : Nat) (hi : Bool) : Bool := okX false (runA (cfT bad hi) 4000 (.exec codeX frX (memX m)))
noncomputable def badsX (m : Nat) : Bool := (List.range (2 * m)).all fun b => badX m b false && badX m b true
end Go.Proofs.YtdkkhefjgolffaaGreatDoor.AM
