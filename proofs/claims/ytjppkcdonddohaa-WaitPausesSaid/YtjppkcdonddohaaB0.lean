/-
  Walks of the wait layer: turn, and what is built on it.
-/
import Derived.Test.YtjppkcdonddohaaA
set_option linter.unusedVariables false
set_option linter.unusedSimpArgs false
namespace Go.Proofs.Ytjppkcdonddohaa.A
open Go.RowKit

abbrev St.zero : St := ⟨0, 0, 0, 0⟩
instance : DecidableEq St := fun a b => by
  cases a; cases b; simp only [St.mk.injEq]; infer_instance
/-- what turn answers: the stance, whether it is another one, the error -/
def tnS (s s' : St) (r : Int) : St := if okB s = false then St.zero else if r ≠ 0 then St.zero else s'
def tnB (s s' : St) (r : Int) : Bool := if okB s = false then false else if r ≠ 0 then false else (s'.st != s.st || s'.pa != s.pa || s'.po != s.po || s'.un != s.un)
def tnE (s : St) (r : Int) : Int := if okB s = false then 270 else r
abbrev triple (s : St) (b : Bool) (e : Int) : Value := .tuple #[.agg s.cells, .bool b, .int .i64 e]


section
variable {P : Program}
theorem res_ctt {fn : Func} {p u v : Tmp} {ty : TypeId} (h : fn.results = #[.cell p ty, .tmp u, .tmp v]) (tmps : Array Value) (w : World) (g : Nat) (t : TypeId) (cs : Array Value) (fr : Nat × Nat) (d : TypeDesc)
    (hp : tmps.getD p undef = .pointer (some ⟨g, 0, none⟩)) (hg : w.heap[g]? = some (.cells cs t fr))
    (hu : P.underlying ty = some d) (hd : (match d with | .struct _ | .array _ _ => true | _ => false) = true) (hi : (P.info? ty).map (·.size) = some cs.size) :
    (results fn tmps).run P w = .ok (.tuple #[.agg cs, tmps.getD u undef, tmps.getD v undef]) w := by
  have hp' : tmps[p]?.getD undef = .pointer (some ⟨g, 0, none⟩) := by simpa using hp
  simp [results, h, hp', asAddr, run_loadVar_row w g t ty cs fr d hg hu hd hi]
theorem res_ct {fn : Func} {p u : Tmp} {ty : TypeId} (h : fn.results = #[.cell p ty, .tmp u]) (tmps : Array Value) (w : World) (g : Nat) (t : TypeId) (cs : Array Value) (fr : Nat × Nat) (d : TypeDesc)
    (hp : tmps.getD p undef = .pointer (some ⟨g, 0, none⟩)) (hg : w.heap[g]? = some (.cells cs t fr))
    (hu : P.underlying ty = some d) (hd : (match d with | .struct _ | .array _ _ => true | _ => false) = true) (hi : (P.info? ty).map (·.size) = some cs.size) :
    (results fn tmps).run P w = .ok (.tuple #[.agg cs, tmps.getD u undef]) w := by
  have hp' : tmps[p]?.getD undef = .pointer (some ⟨g, 0, none⟩) := by simpa using hp
  simp [results, h, hp', asAddr, run_loadVar_row w g t ty cs fr d hg hu hd hi]
end
theorem set_far {w : World} {g b : Nat} {o : Obj} (h : w.heap[g]? = some o) (hne : g ≠ b) (i : Nat) (u : Value) : (w.setCell ⟨b, i, none⟩ u).heap[g]? = some o := (Below.heap_setCell w _ u g hne).trans h


theorem two_new (w : World) (o o' : Obj) : ((w.alloc o).alloc o').heap[w.heap.size + 1]? = some o' := by
  have := new_at (w.alloc o) o'
  simpa using this
theorem low2 {w w1 : World} {o o' : Obj} (h : Below ((w.alloc o).alloc o').heap.size ((w.alloc o).alloc o') w1) : Below w.heap.size w w1 :=
  (((Below.refl w.heap.size w).alloc (Nat.le_refl _) o).alloc (by simp) o').trans (h.mono (by simp; omega))
theorem low2_0 {w w1 : World} {o o' : Obj} (h : Below ((w.alloc o).alloc o').heap.size ((w.alloc o).alloc o') w1) : w1.heap[w.heap.size]? = some o :=
  (h.block _ (by simp; omega)).trans (alloc_at (new_at w o))
theorem low2_1 {w w1 : World} {o o' : Obj} (h : Below ((w.alloc o).alloc o').heap.size ((w.alloc o).alloc o') w1) : w1.heap[w.heap.size + 1]? = some o' :=
  (h.block _ (by simp)).trans (two_new w o o')
theorem low2_s {w w1 : World} {o o' : Obj} (h : Below ((w.alloc o).alloc o').heap.size ((w.alloc o).alloc o') w1) : w.heap.size + 2 ≤ w1.heap.size := by
  have := h.size; simp at this; omega
theorem triple_eq {a b c d e : Int} {x y : Bool} (h : x = y) : Ending.returned (.tuple #[.agg #[.int .i64 a, .int .i64 b, .int .u32 c, .int .i64 d], .bool x, .int .i64 e]) = .returned (triple ⟨a, b, c, d⟩ y e) := by rw [h]

end Go.Proofs.Ytjppkcdonddohaa.A
