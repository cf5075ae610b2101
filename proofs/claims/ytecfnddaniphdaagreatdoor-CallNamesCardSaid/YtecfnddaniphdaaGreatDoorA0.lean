/-
  Words for the walks of the state laws: a slice that reads as a list; a call of a function value; worlds that keep what was there.
-/
import Derived.Test.YtecfnddaniphdaaGreatDoorProg
import Derived.Below
import Derived.OwnWalk
import Derived.Tactics
import Derived.WalkKit
import Derived.KernelRfl
import Derived.RowKit3
import Derived.Deep.LoopGhost
import Derived.Deep.QuietTactic
import Derived.BigQuiet
import Derived.Deep.RegionHeld3
import Derived.Laws.Rows
import Derived.Lib.Hide
import Derived.Outline
import Derived.WalkSpells
import Derived.WalkLawsBesides
set_option linter.unusedVariables false
set_option linter.unusedSimpArgs false
namespace Go.Proofs.YtecfnddaniphdaaGreatDoor.A
open Go.RowKit

theorem lt_blk {w : World} {g : Nat} {o : Obj} (h : w.heap[g]? = some o) : g < w.heap.size := (Array.getElem?_eq_some_iff.1 h).1
theorem alloc_at {w : World} {b : Nat} {o o' : Obj} (h : w.heap[b]? = some o) : (w.alloc o').heap[b]? = some o := (Below.heap_alloc w o' b (lt_blk h)).trans h
theorem new_at (w : World) (o : Obj) : (w.alloc o).heap[w.heap.size]? = some o := heap_alloc_new w o
theorem low_2 {w w1 w2 : World} (h : Below w.heap.size w w1) (k : Below w1.heap.size w1 w2) : Below w.heap.size w w2 := h.trans (k.mono h.size)
theorem below_al {w W : World} {o : Obj} (h : Below w.heap.size w W) : Below w.heap.size w (W.alloc o) := h.alloc h.size o
theorem ret_int {k : IntKind} {a b : Int} (h : a = b) : Ending.returned (.int k a) = .returned (.int k b) := by rw [h]
theorem ret_bool {a b : Bool} (h : a = b) : Ending.returned (.bool a) = .returned (.bool b) := by rw [h]
/-- a cell that was there is there as it was -/
theorem cell_low {w w1 : World} (h : Below w.heap.size w w1) {p : Addr} {v : Value} (hc : w.cell? p = some v) : w1.cell? p = some v :=
  (h.cell (World.block_lt_of_cell? w p hc)).trans hc

/-- function f has a body: a call of it as a value enters it -/
def Enters (f : FuncId) : Prop := ∀ (args : Array Value) (W : World), (callFunc f args).run Tryz.prog W = .ok (.enter f args) W
theorem enters_of {f : FuncId} {fn : Func} (hf : Tryz.prog.funcs[f]? = some fn) (hname : (fn.name == "runtime.NumGoroutine") = false) (hb : fn.body.isSome = true) : Enters f := by
  intro args w
  have h1 : fn.name ≠ "runtime.NumGoroutine" := by simpa using hname
  obtain ⟨c, hc⟩ := Option.isSome_iff_exists.1 hb
  simp [callFunc, hf, h1, hc]

/-- at A lie the elements of l, ne cells each -/
structure Sl {α : Type} (ne : Nat) (enc : α → List Value) (w : World) (A : Option Addr) (n c : Nat) (l : List α) : Prop where
  len : l.length = n
  cap : n ≤ c
  at_ : ∀ i x, l[i]? = some x → ∃ b off, A = some ⟨b, off, none⟩ ∧ ∀ j v, (enc x)[j]? = some v → w.cell? ⟨b, off + i * ne + j, none⟩ = some v
theorem Sl.low {α : Type} {ne : Nat} {enc : α → List Value} {w w1 : World} {A : Option Addr} {n c : Nat} {l : List α} (h : Sl ne enc w A n c l) (hb : Below w.heap.size w w1) : Sl ne enc w1 A n c l :=
  ⟨h.len, h.cap, fun i x hx => let ⟨b, off, e, k⟩ := h.at_ i x hx; ⟨b, off, e, fun j v hv => cell_low hb (k j v hv)⟩⟩
theorem Sl.nil {α : Type} (ne : Nat) (enc : α → List Value) (w : World) (A : Option Addr) (c : Nat) : Sl ne enc w A 0 c ([] : List α) := ⟨rfl, Nat.zero_le _, fun i x hx => by simp at hx⟩
theorem Sl.get {α : Type} {ne : Nat} {enc : α → List Value} {w : World} {A : Option Addr} {n c : Nat} {l : List α} (h : Sl ne enc w A n c l) (k : Nat) (hk : k < n) :
    ∃ x b off, l[k]? = some x ∧ A = some ⟨b, off, none⟩ ∧ ∀ j v, (enc x)[j]? = some v → w.cell? ⟨b, off + k * ne + j, none⟩ = some v := by
  have hl : k < l.length := by rw [h.len]; exact hk
  obtain ⟨b, off, e, k'⟩ := h.at_ k l[k] (List.getElem?_eq_getElem hl)
  exact ⟨l[k], b, off, List.getElem?_eq_getElem hl, e, k'⟩

/-- the place, from i on, of the first element of which p holds; none: -1 -/
def idxFrom {α : Type} (p : α → Bool) : List α → Nat → Int
  | [], _ => -1
  | x :: l, i => if p x then (i : Int) else idxFrom p l (i + 1)
def idx {α : Type} (p : α → Bool) (l : List α) : Int := idxFrom p l 0
theorem idxFrom_some {α : Type} (p : α → Bool) : ∀ (l : List α) (k i : Nat) (y : α), (∀ j x, j < k → l[j]? = some x → p x = false) → l[k]? = some y → p y = true → idxFrom p l i = ((i + k : Nat) : Int)
  | [], k, i, y, _, h, _ => by simp at h
  | x :: l, 0, i, y, _, h, hy => by
    simp only [List.getElem?_cons_zero, Option.some.injEq] at h
    subst h
    simp [idxFrom, hy]
  | x :: l, k + 1, i, y, hn, h, hy => by
    have h0 : p x = false := hn 0 x (by omega) rfl
    simp only [idxFrom, h0, Bool.false_eq_true, if_false]
    rw [idxFrom_some p l k (i + 1) y (fun j z hj hz => hn (j + 1) z (by omega) (by simpa using hz)) (by simpa using h) hy]
    congr 1; omega
theorem idxFrom_none {α : Type} (p : α → Bool) : ∀ (l : List α) (i : Nat), (∀ (j : Nat) (x : α), l[j]? = some x → p x = false) → idxFrom p l i = -1
  | [], _, _ => rfl
  | x :: l, i, hn => by
    have h0 : p x = false := hn 0 x rfl
    simp only [idxFrom, h0, Bool.false_eq_true, if_false]
    exact idxFrom_none p l (i + 1) (fun j z hz => hn (j + 1) z (by simpa using hz))
theorem idx_some {α : Type} {p : α → Bool} {l : List α} {k : Nat} {y : α} (hn : ∀ j x, j < k → l[j]? = some x → p x = false) (h : l[k]? = some y) (hy : p y = true) : (k : Int) = idx p l := by
  rw [idx, idxFrom_some p l k 0 y hn h hy]; simp
theorem idx_none {α : Type} {p : α → Bool} {l : List α} {n : Nat} (hl : l.length = n) (hn : ∀ j x, j < n → l[j]? = some x → p x = false) : (-1 : Int) = idx p l :=
  (idxFrom_none p l 0 (fun j x hx => hn j x (by have := (List.getElem?_eq_some_iff.1 hx).1; omega) hx)).symm
theorem idx_any {α : Type} (p : α → Bool) : ∀ (l : List α) (i : Nat), 0 ≤ idxFrom p l i ↔ l.any p = true
  | [], _ => by simp [idxFrom]
  | x :: l, i => by
    by_cases h : p x = true
    · simp [idxFrom, h]
    · have h' := Bool.eq_false_iff.mpr h
      have := idx_any p l (i + 1)
      simp only [idxFrom, h', Bool.false_eq_true, if_false, List.any_cons, Bool.false_or]
      exact this

theorem idx_step {α : Type} {p : α → Bool} {l : List α} {k : Nat} {y : α} (hn : ∀ j x, j < k → l[j]? = some x → p x = false) (h : l[k]? = some y) (hy : p y = false) : ∀ j x, j < k + 1 → l[j]? = some x → p x = false := by
  intro j x hj hx
  by_cases e : j = k
  · subst e; rw [h] at hx; cases hx; exact hy
  · exact hn j x (by omega) hx

structure Seat where
  socket : Int
  core : Int
deriving instance DecidableEq for Seat
abbrev Seat.enc (s : Seat) : List Value := [.int .i64 s.socket, .int .i64 s.core]
abbrev Seat.val (s : Seat) : Value := .agg #[.int .i64 s.socket, .int .i64 s.core]

structure Dom where
  id : Int
  weight : Int
  cap : Int
  pool : Int
deriving instance DecidableEq for Dom
abbrev Dom.enc (s : Dom) : List Value := [.int .i64 s.id, .int .i64 s.weight, .int .i64 s.cap, .int .i64 s.pool]
abbrev Dom.val (s : Dom) : Value := .agg #[.int .i64 s.id, .int .i64 s.weight, .int .i64 s.cap, .int .i64 s.pool]

structure Vc where
  id : Int
  dom : Int
  hard : Int
  soft : Int
deriving instance DecidableEq for Vc
abbrev Vc.enc (s : Vc) : List Value := [.int .i64 s.id, .int .i64 s.dom, .int .u32 s.hard, .int .u32 s.soft]
abbrev Vc.val (s : Vc) : Value := .agg #[.int .i64 s.id, .int .i64 s.dom, .int .u32 s.hard, .int .u32 s.soft]

structure Own where
  id : Int
  st : Int
  pa : Int
  po : Int
  un : Int
  hi : Int
  lo : Int
  w : Int
  order : Int
  til : Int
  run : Int
deriving instance DecidableEq for Own
abbrev Own.enc (s : Own) : List Value := [.int .i64 s.id, .int .i64 s.st, .int .i64 s.pa, .int .u32 s.po, .int .i64 s.un, .int .u64 s.hi, .int .u64 s.lo, .int .u64 s.w, .int .u64 s.order, .int .i64 s.til, .int .i64 s.run]
abbrev Own.val (s : Own) : Value := .agg #[.int .i64 s.id, .int .i64 s.st, .int .i64 s.pa, .int .u32 s.po, .int .i64 s.un, .int .u64 s.hi, .int .u64 s.lo, .int .u64 s.w, .int .u64 s.order, .int .i64 s.til, .int .i64 s.run]

structure Bkt where
  cap : Int
  tokens : Int
deriving instance DecidableEq for Bkt
abbrev Bkt.enc (s : Bkt) : List Value := [.int .i64 s.cap, .int .i64 s.tokens]
abbrev Bkt.val (s : Bkt) : Value := .agg #[.int .i64 s.cap, .int .i64 s.tokens]

structure Port where
  num : Int
  vcpu : Int
  peer : Int
  pending : Bool
  masked : Bool
deriving instance DecidableEq for Port
abbrev Port.enc (s : Port) : List Value := [.int .i64 s.num, .int .i64 s.vcpu, .int .i64 s.peer, .bool s.pending, .bool s.masked]
abbrev Port.val (s : Port) : Value := .agg #[.int .i64 s.num, .int .i64 s.vcpu, .int .i64 s.peer, .bool s.pending, .bool s.masked]

structure Timer where
  id : Int
  at_ : Int
deriving instance DecidableEq for Timer
abbrev Timer.enc (s : Timer) : List Value := [.int .i64 s.id, .int .i64 s.at_]
abbrev Timer.val (s : Timer) : Value := .agg #[.int .i64 s.id, .int .i64 s.at_]

structure Alarm where
  vcpu : Int
  port : Int
  every : Int
deriving instance DecidableEq for Alarm
abbrev Alarm.enc (s : Alarm) : List Value := [.int .i64 s.vcpu, .int .i64 s.port, .int .i64 s.every]
abbrev Alarm.val (s : Alarm) : Value := .agg #[.int .i64 s.vcpu, .int .i64 s.port, .int .i64 s.every]

structure Put where
  vcpu : Int
  cpu : Int
deriving instance DecidableEq for Put
abbrev Put.enc (s : Put) : List Value := [.int .i64 s.vcpu, .int .i64 s.cpu]
abbrev Put.val (s : Put) : Value := .agg #[.int .i64 s.vcpu, .int .i64 s.cpu]

structure Runner where
  id : Int
  each : Int
  hi : Int
  lo : Int
  w : Int
deriving instance DecidableEq for Runner
abbrev Runner.enc (s : Runner) : List Value := [.int .i64 s.id, .int .i64 s.each, .int .u64 s.hi, .int .u64 s.lo, .int .u64 s.w]
abbrev Runner.val (s : Runner) : Value := .agg #[.int .i64 s.id, .int .i64 s.each, .int .u64 s.hi, .int .u64 s.lo, .int .u64 s.w]

structure Frac where
  hi : Int
  lo : Int
  w : Int
deriving instance DecidableEq for Frac
abbrev Frac.enc (s : Frac) : List Value := [.int .u64 s.hi, .int .u64 s.lo, .int .u64 s.w]
abbrev Frac.val (s : Frac) : Value := .agg #[.int .u64 s.hi, .int .u64 s.lo, .int .u64 s.w]


end Go.Proofs.YtecfnddaniphdaaGreatDoor.A
