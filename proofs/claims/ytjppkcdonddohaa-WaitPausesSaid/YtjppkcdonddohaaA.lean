/-
  Walks of the wait layer: what each of its functions answers, at every stance.
-/
import Derived.Test.YtjppkcdonddohaaProg
import Derived.Below
import Derived.OwnWalk
import Derived.Tactics
import Derived.WalkKit
import Derived.KernelRfl
import Derived.RowKit3
import Derived.Deep.LoopGhost
import Derived.Deep.QuietTactic
import Derived.BigQuiet
import Derived.Deep.RegionHeld3
import Derived.Laws.Rows
import Derived.Lib.Hide
import Derived.Outline
import Derived.WalkSpells
import Derived.WalkLawsBesides
set_option linter.unusedVariables false
set_option linter.unusedSimpArgs false
namespace Go.Proofs.Ytjppkcdonddohaa.A
open Go.RowKit

/-- a stance -/
structure St where
  st : Int
  pa : Int
  po : Int
  un : Int

def okP (s : St) : Prop := 0 ≤ s.st ∧ s.st ≤ 3 ∧ 0 ≤ s.pa ∧ s.pa ≤ 15 ∧ 0 ≤ s.un ∧ s.un ≤ 1125899906842624 ∧ ((s.po ≠ 0 ∨ s.un ≠ 0) ↔ s.st = 3)
instance (s : St) : Decidable (okP s) := by unfold okP; infer_instance
/-- whether a stance may be -/
def okB (s : St) : Bool := decide (okP s)
def ckR (s : St) : Int := if okB s then 0 else 270
theorem ckR_yes (st pa po un : Int) (h : okP ⟨st, pa, po, un⟩) : 0 = ckR ⟨st, pa, po, un⟩ := by simp [ckR, okB, h]
theorem ckR_no (st pa po un : Int) (h : ¬ okP ⟨st, pa, po, un⟩) : 270 = ckR ⟨st, pa, po, un⟩ := by simp [ckR, okB, h]
theorem ret_int {k : IntKind} {a b : Int} (h : a = b) : Ending.returned (.int k a) = .returned (.int k b) := by rw [h]
theorem ret_bool {a b : Bool} (h : a = b) : Ending.returned (.bool a) = .returned (.bool b) := by rw [h]


theorem bcell {W w1 : World} (hb : Below W.heap.size W w1) : (∀ b o, b < W.heap.size → w1.cell? ⟨b, o, none⟩ = W.cell? ⟨b, o, none⟩) ∧ (∀ b o, b < W.heap.size → w1.frozen? ⟨b, o, none⟩ = W.frozen? ⟨b, o, none⟩) :=
  ⟨fun b o h => hb.cell (p := ⟨b, o, none⟩) h, fun b o h => hb.frozen (p := ⟨b, o, none⟩) h⟩

set_option maxHeartbeats 400000 in
theorem check_ (st pa po un : Int) (w : World) : Calls Try.prog 20 #[.agg #[.int .i64 st, .int .i64 pa, .int .u32 po, .int .i64 un]] w fun e w' => e = .returned (.int .i64 (ckR ⟨st, pa, po, un⟩)) ∧ Below w.heap.size w w' := by
  go_enter Try.func20, Try.ntmps20
  go_wp2
  all_goals
    go_ret
    refine ⟨ret_int ?_, (Below.refl _ _).alloc (Nat.le_refl _) _⟩
    have e1 : (un != 0) = decide (un ≠ 0) := by by_cases h : un = 0 <;> simp [h]
    have e2 : (st == 3) = decide (st = 3) := by by_cases h : st = 3 <;> simp [h]
    simp only [e1, e2] at *
    clear e1 e2
    by_cases hu : un = 0 <;> by_cases h3 : st = 3 <;> first
          | (refine ckR_yes _ _ _ _ ?_; simp only [okP, ne_eq] at *; simp_all; try omega; done)
          | (refine ckR_no _ _ _ _ ?_; simp only [okP, ne_eq] at *; simp_all; try omega; done)
          | (exfalso; simp_all; try omega; done)

/-- it runs -/
def runsB (s : St) : Bool := s.st == 1 && s.pa == 0 && s.po == 0 && s.un == 0
theorem runsB_ck (s : St) (h : ckR s ≠ 0) : runsB s = false := by
  simp only [ckR, okB, ne_eq, ite_eq_left_iff, decide_eq_true_eq] at h
  cases hr : runsB s with
  | false => rfl
  | true =>
    exfalso; apply h
    intro hk; exfalso; apply hk
    simp only [runsB, Bool.and_eq_true, beq_iff_eq] at hr
    simp only [okP]; omega

theorem runs_if {st pa po un : Int} {b : Bool} (h : b = runsB ⟨st, pa, po, un⟩) : Ending.returned (.bool b) = .returned (.bool (runsB ⟨st, pa, po, un⟩)) := by rw [h]

set_option maxHeartbeats 400000 in
theorem runs_ (st pa po un : Int) (w : World) : Calls Try.prog 22 #[.agg #[.int .i64 st, .int .i64 pa, .int .u32 po, .int .i64 un]] w fun e w' => e = .returned (.bool (runsB ⟨st, pa, po, un⟩)) ∧ Below w.heap.size w w' := by
  by_cases hk : ckR ⟨st, pa, po, un⟩ = 0
  · have hb1 : (ckR ⟨st, pa, po, un⟩ == 0) = true := by simp [hk]
    clear hk
    go_enter Try.func22, Try.ntmps22
    go_wp2_with (go_at_call 20; refine (check_ _ _ _ _ _).mono ?_; rintro e w' ⟨rfl, hb⟩; obtain ⟨hc, hf⟩ := bcell hb)
    all_goals
      go_ret
      exact ⟨runs_if (by clear hc hf hb hb1; simp_all [runsB]), ((Below.refl _ _).alloc (Nat.le_refl _) _).trans (hb.mono (by simp))⟩
  · have hb1 : (ckR ⟨st, pa, po, un⟩ == 0) = false := by simp [hk]
    have hr := runsB_ck _ hk
    clear hk
    go_enter Try.func22, Try.ntmps22
    go_wp2_with (go_at_call 20; refine (check_ _ _ _ _ _).mono ?_; rintro e w' ⟨rfl, hb⟩; obtain ⟨hc, hf⟩ := bcell hb)
    all_goals
      go_ret
      exact ⟨runs_if (by simp_all), ((Below.refl _ _).alloc (Nat.le_refl _) _).trans (hb.mono (by simp))⟩

/-- all but one block is as it was. -/
structure But (b : Nat) (w w' : World) : Prop where
  os : w'.os = w.os
  tape : w'.tape = w.tape
  output : w'.output = w.output
  size : w.heap.size ≤ w'.heap.size
  block : ∀ k, k < w.heap.size → k ≠ b → w'.heap[k]? = w.heap[k]?
theorem But.refl (b : Nat) (w : World) : But b w w := ⟨rfl, rfl, rfl, Nat.le_refl _, fun _ _ _ => rfl⟩
theorem But.of_below {b : Nat} {w w' : World} (h : Below w.heap.size w w') : But b w w' := ⟨h.os, h.tape, h.output, h.size, fun k hk _ => h.block k hk⟩
theorem But.below {b B : Nat} {w0 w w' : World} (h0 : Below B w0 w) (h : But b w w') (hb : B ≤ b) (hs : B ≤ w.heap.size) : Below B w0 w' :=
  h0.trans ⟨h.os, h.tape, h.output, h.size, fun k hk => h.block k (by omega) (by omega)⟩
theorem But.trans {b : Nat} {w w1 w2 : World} (h : But b w w1) (k : But b w1 w2) : But b w w2 :=
  ⟨k.os.trans h.os, k.tape.trans h.tape, k.output.trans h.output, Nat.le_trans h.size k.size, fun i hi hne => (k.block i (by have := h.size; omega) hne).trans (h.block i hi hne)⟩
theorem But.alloc {b : Nat} {w w' : World} (h : But b w w') (o : Obj) : But b w (w'.alloc o) :=
  h.trans (.of_below ((Below.refl _ _).alloc (Nat.le_refl _) _))
theorem But.drew {b : Nat} {w w' : World} (h : But b w w') : But b w w'.drew := ⟨h.os, h.tape, h.output, h.size, h.block⟩
theorem But.set {b : Nat} {w w' : World} (h : But b w w') (i : Nat) (u : Value) : But b w (w'.setCell ⟨b, i, none⟩ u) :=
  h.trans ⟨rfl, rfl, rfl, by simp [World.setCell], fun k hk hne => Below.heap_setCell _ _ _ _ hne⟩

abbrev St.cells (s : St) : Array Value := #[.int .i64 s.st, .int .i64 s.pa, .int .u32 s.po, .int .i64 s.un]

theorem blk_set {w : World} {g : Nat} {t : TypeId} {cs : Array Value} (h : w.heap[g]? = some (.cells cs t (0, 0))) (i : Nat) (u : Value) : (w.setCell ⟨g, i, none⟩ u).heap[g]? = some (.cells (cs.setIfInBounds i u) t (0, 0)) := by
  simp [World.setCell, Array.getElem?_modify, h]
theorem cells4 {w : World} {b : Nat} {a0 a1 a2 a3 : Value} (hb : w.heap[b]? = some (.cells #[a0, a1, a2, a3] 24 (0, 0))) :
    w.cell? ⟨b, 0, none⟩ = some a0 ∧ w.cell? ⟨b, 1, none⟩ = some a1 ∧ w.cell? ⟨b, 2, none⟩ = some a2 ∧ w.cell? ⟨b, 3, none⟩ = some a3 ∧
    w.frozen? ⟨b, 0, none⟩ = false ∧ w.frozen? ⟨b, 1, none⟩ = false ∧ w.frozen? ⟨b, 2, none⟩ = false ∧ w.frozen? ⟨b, 3, none⟩ = false := by
  refine ⟨?_, ?_, ?_, ?_, ?_, ?_, ?_, ?_⟩ <;> first | exact (cell_of_row w b _ _ _ (0, 0) hb).trans rfl | simp [World.frozen?, hb]
theorem lt_blk {w : World} {g : Nat} {o : Obj} (h : w.heap[g]? = some o) : g < w.heap.size := (Array.getElem?_eq_some_iff.1 h).1

set_option maxHeartbeats 400000 in
/-- to$1 -/
theorem to1_ (b c : Nat) (n : Int) (s : St) (w : World) (hb : w.heap[b]? = some (.cells s.cells 24 (0, 0))) (hc : w.cell? ⟨c, 0, none⟩ = some (.int .i64 n)) :
    Calls Try.prog 39 #[.pointer (some ⟨b, 0, none⟩), .pointer (some ⟨c, 0, none⟩)] w fun e w' => e = .returned (.tuple #[]) ∧ But b w w' ∧ w'.heap[b]? = some (.cells (St.cells ⟨n, s.pa, 0, 0⟩) 24 (0, 0)) := by
  obtain ⟨st, pa, po, un⟩ := s
  obtain ⟨h0, h1, h2, h3, f0, f1, f2, f3⟩ := cells4 hb
  have HB := Lib.hid hb
  clear hb
  go_enter Try.func39, Try.ntmps39
  go_region
  go_end0
  exact ⟨rfl, (((((But.refl b w).set 0 _).set 1 _).set 2 _).set 3 _).drew, blk_set (blk_set (blk_set (blk_set HB.out 0 _) 1 _) 2 _) 3 _⟩

set_option maxHeartbeats 400000 in
theorem to_ (n : Int) (w : World) : Calls Try.prog 29 #[.int .i64 n] w fun e w' => e = .returned (.func (.func 39) #[] #[.pointer (some ⟨w.heap.size, 0, none⟩)]) ∧ w' = w.alloc (.cells #[.int .i64 n] 3 (0, 0)) := by
  go_enter Try.func29, Try.ntmps29
  go_wp2
  go_ret
  exact ⟨rfl, rfl⟩

/-- what a closure does to a stance behind a pointer -/
def Does (b : Nat) (s' : St) (r : Int) (w : World) (e : Ending) (w' : World) : Prop :=
  e = .returned (.int .i64 r) ∧ But b w w' ∧ w'.heap[b]? = some (.cells s'.cells 24 (0, 0))

theorem alloc_at {w : World} {b : Nat} {o o' : Obj} (h : w.heap[b]? = some o) : (w.alloc o').heap[b]? = some o := (Below.heap_alloc w o' b (lt_blk h)).trans h
theorem new_at (w : World) (o : Obj) : (w.alloc o).heap[w.heap.size]? = some o := heap_alloc_new w o

set_option maxHeartbeats 400000 in
/-- Up$1 -/
theorem up1_ (b : Nat) (s : St) (w : World) (hb : w.heap[b]? = some (.cells s.cells 24 (0, 0))) :
    Calls Try.prog 37 #[.pointer (some ⟨b, 0, none⟩)] w (Does b (if s.st = 0 then ⟨1, s.pa, 0, 0⟩ else s) (if s.st = 0 then 0 else 5) w) := by
  obtain ⟨st, pa, po, un⟩ := s
  obtain ⟨h0, h1, h2, h3, f0, f1, f2, f3⟩ := cells4 hb
  have HB := Lib.hid hb
  clear hb
  by_cases hs : st = 0
  · have hs' : (st != 0) = false := by simp [hs]
    rw [if_pos hs, if_pos hs]
    clear hs
    go_enter Try.func37, Try.ntmps37
    go_wp2_with (first
      | (go_at_call 29; refine (to_ _ _).mono ?_; rintro e w' ⟨rfl, rfl⟩)
      | (go_at_call 39; refine (to1_ b w.heap.size 1 ⟨st, pa, po, un⟩ _ (alloc_at HB.out) (by simp)).mono ?_; rintro e w' ⟨rfl, hbut, HB2⟩))
    go_ret
    exact ⟨rfl, (But.alloc (But.refl b w) _).trans hbut, HB2⟩
  · have hs' : (st != 0) = true := by simp [hs]
    rw [if_neg hs, if_neg hs]
    clear hs
    go_enter Try.func37, Try.ntmps37
    go_wp2
    go_ret
    exact ⟨rfl, But.refl _ _, HB.out⟩

set_option maxHeartbeats 400000 in
theorem down1_ (b : Nat)  (s : St) (w : World) (hb : w.heap[b]? = some (.cells s.cells 24 (0, 0)))  :
    Calls Try.prog 38 #[.pointer (some ⟨b, 0, none⟩)] w (Does b (if s.st = 0 then s else ⟨0, s.pa, 0, 0⟩) (if s.st = 0 then 4 else 0) w) := by
  obtain ⟨st, pa, po, un⟩ := s
  obtain ⟨h0, h1, h2, h3, f0, f1, f2, f3⟩ := cells4 hb
  have HB := Lib.hid hb
  clear hb
  by_cases hs : st = 0
  · have hs' : (st == 0) = true := by simp [hs]
    rw [if_pos hs, if_pos hs]
    clear hs
    go_enter Try.func38, Try.ntmps38
    go_wp2
    go_ret
    exact ⟨rfl, But.refl _ _, HB.out⟩
  · have hs' : (st == 0) = false := by simp [hs]
    rw [if_neg hs, if_neg hs]
    clear hs
    go_enter Try.func38, Try.ntmps38
    go_wp2_with (first
      | (go_at_call 29; refine (to_ _ _).mono ?_; rintro e w' ⟨rfl, rfl⟩)
      | (go_at_call 39; refine (to1_ b w.heap.size 0 ⟨st, pa, po, un⟩ _ (alloc_at HB.out) (by simp)).mono ?_; rintro e w' ⟨rfl, hbut, HB2⟩))
    go_ret
    exact ⟨rfl, (But.alloc (But.refl b w) _).trans hbut, HB2⟩

set_option maxHeartbeats 400000 in
theorem pause1_ (b : Nat)  (s : St) (w : World) (hb : w.heap[b]? = some (.cells s.cells 24 (0, 0))) (hp : 0 ≤ s.pa ∧ s.pa ≤ 15) :
    Calls Try.prog 35 #[.pointer (some ⟨b, 0, none⟩)] w (Does b (if s.pa = 15 then s else ⟨s.st, s.pa + 1, s.po, s.un⟩) (if s.pa = 15 then 6 else 0) w) := by
  obtain ⟨st, pa, po, un⟩ := s
  obtain ⟨h0, h1, h2, h3, f0, f1, f2, f3⟩ := cells4 hb
  have HB := Lib.hid hb
  clear hb
  have hp0 : 0 ≤ pa := hp.1
  have hp1 : pa ≤ 15 := hp.2
  clear hp
  by_cases hs : pa = 15
  · have hs' : (pa == 15) = true := by simp [hs]
    rw [if_pos hs, if_pos hs]
    clear hs
    go_enter Try.func35, Try.ntmps35
    go_wp2
    go_ret
    exact ⟨rfl, But.refl _ _, HB.out⟩
  · have hs' : (pa == 15) = false := by simp [hs]
    rw [if_neg hs, if_neg hs]
    clear hs
    go_enter Try.func35, Try.ntmps35
    go_wp2
    go_ret
    exact ⟨rfl, (But.refl b w).set 1 _, blk_set HB.out 1 _⟩

set_option maxHeartbeats 400000 in
theorem unpause1_ (b : Nat)  (s : St) (w : World) (hb : w.heap[b]? = some (.cells s.cells 24 (0, 0))) (hp : 0 ≤ s.pa ∧ s.pa ≤ 15) :
    Calls Try.prog 36 #[.pointer (some ⟨b, 0, none⟩)] w (Does b (if s.pa = 0 then s else ⟨s.st, s.pa - 1, s.po, s.un⟩) (if s.pa = 0 then 4 else 0) w) := by
  obtain ⟨st, pa, po, un⟩ := s
  obtain ⟨h0, h1, h2, h3, f0, f1, f2, f3⟩ := cells4 hb
  have HB := Lib.hid hb
  clear hb
  have hp0 : 0 ≤ pa := hp.1
  have hp1 : pa ≤ 15 := hp.2
  clear hp
  by_cases hs : pa = 0
  · have hs' : (pa == 0) = true := by simp [hs]
    rw [if_pos hs, if_pos hs]
    clear hs
    go_enter Try.func36, Try.ntmps36
    go_wp2
    go_ret
    exact ⟨rfl, But.refl _ _, HB.out⟩
  · have hs' : (pa == 0) = false := by simp [hs]
    rw [if_neg hs, if_neg hs]
    clear hs
    go_enter Try.func36, Try.ntmps36
    go_wp2
    go_ret
    exact ⟨rfl, (But.refl b w).set 1 _, blk_set HB.out 1 _⟩

theorem cell1 {w : World} {c : Nat} {v : Value} {t : TypeId} (h : w.heap[c]? = some (.cells #[v] t (0, 0))) : w.cell? ⟨c, 0, none⟩ = some v := (cell_of_row w c 0 _ _ (0, 0) h).trans rfl

set_option maxHeartbeats 400000 in
/-- Block$1 -/
theorem block1_ (b c : Nat) (pend : Bool) (s : St) (w : World) (hb : w.heap[b]? = some (.cells s.cells 24 (0, 0))) (hc : w.heap[c]? = some (.cells #[.bool pend] 4 (0, 0))) :
    Calls Try.prog 34 #[.pointer (some ⟨b, 0, none⟩), .pointer (some ⟨c, 0, none⟩)] w
      (Does b (if runsB s = false then s else if pend then s else ⟨2, s.pa, 0, 0⟩) (if runsB s = false then 271 else 0) w) := by
  obtain ⟨st, pa, po, un⟩ := s
  obtain ⟨h0, h1, h2, h3, f0, f1, f2, f3⟩ := cells4 hb
  have hc1 := cell1 hc
  have HB := Lib.hid hb
  have HC := Lib.hid hc
  have lb := lt_blk hb
  have lc := lt_blk hc
  clear hb hc
  by_cases hs : runsB ⟨st, pa, po, un⟩ = false
  · rw [if_pos hs, if_pos hs]
    go_enter Try.func34, Try.ntmps34
    go_wp2_with (go_at_call 22; refine (runs_ _ _ _ _ _).mono ?_; rintro e w' ⟨rfl, hbl⟩)
    go_ret
    exact ⟨rfl, But.of_below hbl, (hbl.block _ lb).trans HB.out⟩
  · rw [if_neg hs, if_neg hs]
    have hs' : runsB ⟨st, pa, po, un⟩ = true := by simpa using hs
    clear hs
    cases pend with
    | true =>
      go_enter Try.func34, Try.ntmps34
      go_wp2_with (go_at_call 22; refine (runs_ _ _ _ _ _).mono ?_; rintro e w' ⟨rfl, hbl⟩; obtain ⟨hcc, hff⟩ := bcell hbl)
      go_ret
      exact ⟨rfl, But.of_below hbl, (hbl.block _ lb).trans HB.out⟩
    | false =>
      go_enter Try.func34, Try.ntmps34
      go_wp2_with (first
        | (go_at_call 22; refine (runs_ _ _ _ _ _).mono ?_; rintro e w' ⟨rfl, hbl⟩; obtain ⟨hcc, hff⟩ := bcell hbl; have HB1 := Lib.hid ((hbl.block _ lb).trans HB.out))
        | (go_at_call 29; refine (to_ _ _).mono ?_; rintro e w2 ⟨rfl, rfl⟩)
        | (go_at_call 39; refine (to1_ b _ 2 ⟨st, pa, po, un⟩ _ (alloc_at HB1.out) (by simp)).mono ?_; rintro e w3 ⟨rfl, hbut, HB2⟩))
      go_ret
      exact ⟨rfl, ((But.of_below hbl).alloc _).trans hbut, HB2⟩

set_option maxHeartbeats 400000 in
/-- Time$1 -/
theorem time1_ (b c : Nat) (now : Int) (s : St) (w : World) (hb : w.heap[b]? = some (.cells s.cells 24 (0, 0))) (hc : w.heap[c]? = some (.cells #[.int .i64 now] 2 (0, 0))) :
    Calls Try.prog 31 #[.pointer (some ⟨b, 0, none⟩), .pointer (some ⟨c, 0, none⟩)] w
      (Does b (if 0 < s.un ∧ s.un ≤ now then ⟨1, s.pa, 0, 0⟩ else s) 0 w) := by
  obtain ⟨st, pa, po, un⟩ := s
  obtain ⟨h0, h1, h2, h3, f0, f1, f2, f3⟩ := cells4 hb
  have hc1 := cell1 hc
  have HB := Lib.hid hb
  have HC := Lib.hid hc
  have lb := lt_blk hb
  have lc := lt_blk hc
  clear hb hc
  by_cases hs : 0 < un
  · have d1 : decide (0 < un) = true := by simp [hs]
    by_cases hn : un ≤ now
    · have d2 : decide (un ≤ now) = true := by simp [hn]
      rw [if_pos ⟨hs, hn⟩]
      go_enter Try.func31, Try.ntmps31
      go_wp2
      go_quiet (fail)
      rename_i nq
      have HB0 : Hid ((w.drewN nq).heap[b]? = some (.cells (St.cells ⟨st, pa, po, un⟩) 24 (0, 0))) := HB.out
      have hbu : Hid (But b w (w.drewN nq)) := (⟨rfl, rfl, rfl, Nat.le_refl _, fun _ _ _ => rfl⟩ : But b w (w.drewN nq))
      go_wp2_with (first
        | (go_at_call 29; refine (to_ _ _).mono ?_; rintro e w2 ⟨rfl, rfl⟩)
        | (go_at_call 39; go_loud (refine (to1_ b w.heap.size 1 ⟨st, pa, po, un⟩ ((w.drewN nq).alloc (.cells #[.int .i64 1] 3 (0, 0))) (alloc_at HB0.out) (cell1 (new_at (w.drewN nq) _))).mono ?_); rintro e w3 ⟨rfl, hbut, HB2⟩))
      go_ret
      exact ⟨rfl, (But.alloc hbu.out _).trans hbut, HB2⟩
    · have d2 : decide (un ≤ now) = false := by simp; omega
      rw [if_neg (fun h => hn h.2)]
      go_enter Try.func31, Try.ntmps31
      go_wp2
      go_quiet (fail)
      rename_i nq
      have hbu : Hid (But b w (w.drewN nq)) := (⟨rfl, rfl, rfl, Nat.le_refl _, fun _ _ _ => rfl⟩ : But b w (w.drewN nq))
      go_wp2
      go_ret
      exact ⟨rfl, hbu.out, HB.out⟩
  · have d1 : decide (0 < un) = false := by simp; omega
    rw [if_neg (fun h => hs h.1)]
    go_enter Try.func31, Try.ntmps31
    go_wp2
    go_quiet (fail)
    rename_i nq
    have hbu : Hid (But b w (w.drewN nq)) := (⟨rfl, rfl, rfl, Nat.le_refl _, fun _ _ _ => rfl⟩ : But b w (w.drewN nq))
    go_wp2
    go_ret
    exact ⟨rfl, hbu.out, HB.out⟩


/-- the port is among some -/
def hasB (po : Int) (n : Int) : Bool := bits BinOp.and IntKind.u32 (po / 2 ^ n.toNat) 1 == 1
def evS (s : St) (port : Int) (masked : Bool) : St :=
  if ¬ (0 ≤ port ∧ port < 32) then s else if (s.st = 3 ∧ (hasB s.po port = true ∨ masked = false)) ∨ (s.st = 2 ∧ masked = false) then ⟨1, s.pa, 0, 0⟩ else s
def evR (port : Int) : Int := if ¬ (0 ≤ port ∧ port < 32) then 2 else 0

set_option maxHeartbeats 800000 in
/-- Event$1 -/
theorem event1_ (b c d : Nat) (port : Int) (masked : Bool) (s : St) (w : World) (hb : w.heap[b]? = some (.cells s.cells 24 (0, 0))) (hc : w.heap[c]? = some (.cells #[.int .i64 port] 3 (0, 0)))
    (hd : w.heap[d]? = some (.cells #[.bool masked] 4 (0, 0))) (hpo : 0 ≤ s.po ∧ s.po < 4294967296) :
    Calls Try.prog 28 #[.pointer (some ⟨b, 0, none⟩), .pointer (some ⟨c, 0, none⟩), .pointer (some ⟨d, 0, none⟩)] w
      (Does b (evS s port masked) (evR port) w) := by
  obtain ⟨st, pa, po, un⟩ := s
  obtain ⟨h0, h1, h2, h3, f0, f1, f2, f3⟩ := cells4 hb
  have hc1 := cell1 hc
  have hd1 := cell1 hd
  have HB := Lib.hid hb
  have HC := Lib.hid hc
  have lb := lt_blk hb
  have lc := lt_blk hc
  clear hb hc hd
  have hpo0 : 0 ≤ po := hpo.1
  have hpo1 : po < 4294967296 := hpo.2
  clear hpo
  by_cases hp : 0 ≤ port ∧ port < 32
  · obtain ⟨hp0, hp1⟩ := hp
    by_cases h3i : st = 3
    · have e3 : (st == 3) = true := by simp [h3i]
      by_cases hh : hasB po port = true
      · have hh' : (bits BinOp.and IntKind.u32 (po / 2 ^ port.toNat) 1 == 1) = true := hh
        have hR : evR port = 0 := by simp [evR, hp0, hp1]
        have hS : evS ⟨st, pa, po, un⟩ port masked = ⟨1, pa, 0, 0⟩ := by simp only [evS]; rw [if_neg (fun h => h ⟨hp0, hp1⟩), if_pos (.inl ⟨h3i, .inl hh⟩)]
        rw [hR, hS]
        clear hR hS h3i
        go_enter Try.func28, Try.ntmps28
        go_wp2
        go_quiet (fail)
        rename_i nq
        have HB0 : Hid ((w.drewN nq).heap[b]? = some (.cells (St.cells ⟨st, pa, po, un⟩) 24 (0, 0))) := HB.out
        have hbu : Hid (But b w (w.drewN nq)) := (⟨rfl, rfl, rfl, Nat.le_refl _, fun _ _ _ => rfl⟩ : But b w (w.drewN nq))
        go_wp2_with (first
          | (go_at_call 29; refine (to_ _ _).mono ?_; rintro e w2 ⟨rfl, rfl⟩)
          | (go_at_call 39; go_loud (refine (to1_ b w.heap.size 1 ⟨st, pa, po, un⟩ ((w.drewN nq).alloc (.cells #[.int .i64 1] 3 (0, 0))) (alloc_at HB0.out) (cell1 (new_at (w.drewN nq) _))).mono ?_); rintro e w3 ⟨rfl, hbut, HB2⟩))
        go_ret
        exact ⟨rfl, (But.alloc hbu.out _).trans hbut, HB2⟩
      · have hh' : (bits BinOp.and IntKind.u32 (po / 2 ^ port.toNat) 1 == 1) = false := Bool.eq_false_iff.mpr hh
        cases masked with
        | true =>
          have hR : evR port = 0 := by simp [evR, hp0, hp1]
          have hS : evS ⟨st, pa, po, un⟩ port true = ⟨st, pa, po, un⟩ := by simp only [evS]; rw [if_neg (fun h => h ⟨hp0, hp1⟩), if_neg (by rintro (⟨_, h | h⟩ | ⟨_, h⟩) <;> first | exact hh h | cases h)]
          rw [hR, hS]
          clear hR hS h3i
          go_enter Try.func28, Try.ntmps28
          go_wp2
          go_quiet (fail)
          rename_i nq
          have HB0 : Hid ((w.drewN nq).heap[b]? = some (.cells (St.cells ⟨st, pa, po, un⟩) 24 (0, 0))) := HB.out
          have hbu : Hid (But b w (w.drewN nq)) := (⟨rfl, rfl, rfl, Nat.le_refl _, fun _ _ _ => rfl⟩ : But b w (w.drewN nq))
          go_wp2
          go_ret
          exact ⟨rfl, hbu.out, HB0.out⟩
        | false =>
          have hR : evR port = 0 := by simp [evR, hp0, hp1]
          have hS : evS ⟨st, pa, po, un⟩ port false = ⟨1, pa, 0, 0⟩ := by simp only [evS]; rw [if_neg (fun h => h ⟨hp0, hp1⟩), if_pos (.inl ⟨h3i, .inr trivial⟩)]
          rw [hR, hS]
          clear hR hS h3i
          go_enter Try.func28, Try.ntmps28
          go_wp2
          go_quiet (fail)
          rename_i nq
          have HB0 : Hid ((w.drewN nq).heap[b]? = some (.cells (St.cells ⟨st, pa, po, un⟩) 24 (0, 0))) := HB.out
          have hbu : Hid (But b w (w.drewN nq)) := (⟨rfl, rfl, rfl, Nat.le_refl _, fun _ _ _ => rfl⟩ : But b w (w.drewN nq))
          go_wp2_with (first
            | (go_at_call 29; refine (to_ _ _).mono ?_; rintro e w2 ⟨rfl, rfl⟩)
            | (go_at_call 39; go_loud (refine (to1_ b w.heap.size 1 ⟨st, pa, po, un⟩ ((w.drewN nq).alloc (.cells #[.int .i64 1] 3 (0, 0))) (alloc_at HB0.out) (cell1 (new_at (w.drewN nq) _))).mono ?_); rintro e w3 ⟨rfl, hbut, HB2⟩))
          go_ret
          exact ⟨rfl, (But.alloc hbu.out _).trans hbut, HB2⟩
    · have e3 : (st == 3) = false := by simp [h3i]
      by_cases h2i : st = 2
      · have e2 : (st == 2) = true := by simp [h2i]
        cases masked with
        | true =>
          have h2j := Lib.hid h2i
          have hR : evR port = 0 := by simp [evR, hp0, hp1]
          have hS : evS ⟨st, pa, po, un⟩ port true = ⟨st, pa, po, un⟩ := by simp only [evS]; rw [if_neg (fun h => h ⟨hp0, hp1⟩), if_neg (by rintro (⟨h, _⟩ | ⟨_, h⟩) <;> first | exact h3i h | cases h)]
          rw [hR, hS]
          clear hR hS h3i h2i
          go_enter Try.func28, Try.ntmps28
          have HB0 := HB
          have hbu := Lib.hid (But.refl b w)
          go_wp2
          go_ret
          exact ⟨rfl, hbu.out, HB0.out⟩
        | false =>
          have hR : evR port = 0 := by simp [evR, hp0, hp1]
          have hS : evS ⟨st, pa, po, un⟩ port false = ⟨1, pa, 0, 0⟩ := by simp only [evS]; rw [if_neg (fun h => h ⟨hp0, hp1⟩), if_pos (.inr ⟨h2i, trivial⟩)]
          rw [hR, hS]
          clear hR hS h3i h2i
          go_enter Try.func28, Try.ntmps28
          have HB0 := HB
          have hbu := Lib.hid (But.refl b w)
          go_wp2_with (first
            | (go_at_call 29; refine (to_ _ _).mono ?_; rintro e w2 ⟨rfl, rfl⟩)
            | (go_at_call 39; go_loud (refine (to1_ b w.heap.size 1 ⟨st, pa, po, un⟩ ((w).alloc (.cells #[.int .i64 1] 3 (0, 0))) (alloc_at HB0.out) (cell1 (new_at (w) _))).mono ?_); rintro e w3 ⟨rfl, hbut, HB2⟩))
          go_ret
          exact ⟨rfl, (But.alloc hbu.out _).trans hbut, HB2⟩
      · have e2 : (st == 2) = false := by simp [h2i]
        have hR : evR port = 0 := by simp [evR, hp0, hp1]
        have hS : evS ⟨st, pa, po, un⟩ port masked = ⟨st, pa, po, un⟩ := by simp only [evS]; rw [if_neg (fun h => h ⟨hp0, hp1⟩), if_neg (by rintro (⟨h, _⟩ | ⟨h, _⟩) <;> first | exact h3i h | exact h2i h)]
        rw [hR, hS]
        clear hR hS h3i h2i
        go_enter Try.func28, Try.ntmps28
        have HB0 := HB
        have hbu := Lib.hid (But.refl b w)
        go_wp2
        go_ret
        exact ⟨rfl, hbu.out, HB0.out⟩
  · have hR : evR port = 2 := by simp only [evR]; rw [if_pos hp]
    have hS : evS ⟨st, pa, po, un⟩ port masked = ⟨st, pa, po, un⟩ := by simp only [evS]; rw [if_pos hp]
    rw [hR, hS]
    clear hR hS
    by_cases hp0 : 0 ≤ port
    · have hp1 : 32 ≤ port := by omega
      clear hp
      go_enter Try.func28, Try.ntmps28
      go_wp2
      go_ret
      exact ⟨rfl, But.refl _ _, HB.out⟩
    · clear hp
      go_enter Try.func28, Try.ntmps28
      go_wp2
      go_ret
      exact ⟨rfl, But.refl _ _, HB.out⟩

def plBad (ports «until» : Int) : Bool := (ports == 0 && «until» == 0) || decide («until» < 0) || decide (1125899906842624 < «until»)
def plNow (ports «until» now pend : Int) : Bool := (bits BinOp.and IntKind.u32 ports pend != 0) || («until» != 0 && decide («until» ≤ now))
def plS (s : St) (ports «until» now pend : Int) : St := if runsB s = false then s else if plBad ports «until» = true then s else if plNow ports «until» now pend = true then s else ⟨3, s.pa, ports, «until»⟩
def plR (s : St) (ports «until» : Int) : Int := if runsB s = false then 271 else if plBad ports «until» = true then 2 else 0

set_option maxHeartbeats 1600000 in
/-- Poll$1 -/
theorem poll1_ (b c d f g : Nat) (ports ti now pend : Int) (s : St) (w : World) (hb : w.heap[b]? = some (.cells s.cells 24 (0, 0))) (hc : w.heap[c]? = some (.cells #[.int .u32 ports] 22 (0, 0)))
    (hd : w.heap[d]? = some (.cells #[.int .i64 ti] 2 (0, 0))) (hf : w.heap[f]? = some (.cells #[.int .u32 pend] 22 (0, 0))) (hg : w.heap[g]? = some (.cells #[.int .i64 now] 2 (0, 0))) :
    Calls Try.prog 32 #[.pointer (some ⟨b, 0, none⟩), .pointer (some ⟨c, 0, none⟩), .pointer (some ⟨d, 0, none⟩), .pointer (some ⟨f, 0, none⟩), .pointer (some ⟨g, 0, none⟩)] w
      (Does b (plS s ports ti now pend) (plR s ports ti) w) := by
  obtain ⟨st, pa, po, un⟩ := s
  obtain ⟨h0, h1, h2, h3, f0, f1, f2, f3⟩ := cells4 hb
  have hc1 := cell1 hc
  have hd1 := cell1 hd
  have hf1 := cell1 hf
  have hg1 := cell1 hg
  have HB := Lib.hid hb
  have lb := lt_blk hb
  have lc := lt_blk hc
  have ld := lt_blk hd
  have nd1 : b ≠ d := by rintro rfl; rw [hb] at hd; simp at hd
  have nd2 : d ≠ b := fun h => nd1 h.symm
  have nc1 : b ≠ c := by rintro rfl; rw [hb] at hc; simp at hc
  have nc2 : c ≠ b := fun h => nc1 h.symm
  have lf := lt_blk hf
  have lg := lt_blk hg
  clear hb hc hd hf hg
  by_cases hr : runsB ⟨st, pa, po, un⟩ = false
  · have hR : plR ⟨st, pa, po, un⟩ ports ti = 271 := by simp only [plR]; rw [if_pos hr]
    have hS : plS ⟨st, pa, po, un⟩ ports ti now pend = ⟨st, pa, po, un⟩ := by simp only [plS]; rw [if_pos hr]
    rw [hR, hS]
    clear hR hS
    go_enter Try.func32, Try.ntmps32
    go_wp2_with (go_at_call 22; refine (runs_ _ _ _ _ _).mono ?_; rintro e w' ⟨rfl, hbl⟩)
    go_ret
    exact ⟨rfl, But.of_below hbl, (hbl.block _ lb).trans HB.out⟩
  · have hr' : runsB ⟨st, pa, po, un⟩ = true := by simpa using hr
    by_cases hneg : ti < 0
    · have q1 : (ti == 0) = false := by simp; omega
      have hbad : plBad ports ti = true := by simp [plBad]; omega
      have hR : plR ⟨st, pa, po, un⟩ ports ti = 2 := by simp only [plR]; rw [if_neg hr, if_pos hbad]
      have hS : plS ⟨st, pa, po, un⟩ ports ti now pend = ⟨st, pa, po, un⟩ := by simp only [plS]; rw [if_neg hr, if_pos hbad]
      rw [hR, hS]
      
      clear hR hS hr hbad
      go_enter Try.func32, Try.ntmps32
      go_wp2_with (go_at_call 22; refine (runs_ _ _ _ _ _).mono ?_; rintro e w' ⟨rfl, hbl⟩; obtain ⟨hcc, hff⟩ := bcell hbl)
      all_goals
        go_ret
        exact ⟨rfl, But.of_below hbl, (hbl.block _ lb).trans HB.out⟩
    · by_cases hbig : 1125899906842624 < ti
      · have q1 : (ti == 0) = false := by simp; omega
        have hbad : plBad ports ti = true := by simp [plBad]; omega
        have hR : plR ⟨st, pa, po, un⟩ ports ti = 2 := by simp only [plR]; rw [if_neg hr, if_pos hbad]
        have hS : plS ⟨st, pa, po, un⟩ ports ti now pend = ⟨st, pa, po, un⟩ := by simp only [plS]; rw [if_neg hr, if_pos hbad]
        rw [hR, hS]
        
        clear hR hS hr hbad
        go_enter Try.func32, Try.ntmps32
        go_wp2_with (go_at_call 22; refine (runs_ _ _ _ _ _).mono ?_; rintro e w' ⟨rfl, hbl⟩; obtain ⟨hcc, hff⟩ := bcell hbl)
        all_goals
          go_ret
          exact ⟨rfl, But.of_below hbl, (hbl.block _ lb).trans HB.out⟩
      · have q2 : 0 ≤ ti := by omega
        have q3 : ti ≤ 1125899906842624 := by omega
        by_cases hz : ti = 0
        · have q1 : (ti == 0) = true := by simp [hz]
          have q4 : (ti != 0) = false := by simp [hz]
          by_cases hp : ports = 0
          · have q5 : (ports == 0) = true := by simp [hp]
            have hbad : plBad ports ti = true := by simp [plBad]; omega
            have hR : plR ⟨st, pa, po, un⟩ ports ti = 2 := by simp only [plR]; rw [if_neg hr, if_pos hbad]
            have hS : plS ⟨st, pa, po, un⟩ ports ti now pend = ⟨st, pa, po, un⟩ := by simp only [plS]; rw [if_neg hr, if_pos hbad]
            rw [hR, hS]
            clear hz hp hneg hbig
            clear hR hS hr hbad
            go_enter Try.func32, Try.ntmps32
            go_wp2_with (go_at_call 22; refine (runs_ _ _ _ _ _).mono ?_; rintro e w' ⟨rfl, hbl⟩; obtain ⟨hcc, hff⟩ := bcell hbl)
            all_goals
              go_ret
              exact ⟨rfl, But.of_below hbl, (hbl.block _ lb).trans HB.out⟩
          · have q5 : (ports == 0) = false := by simp [hp]
            by_cases ha : (bits BinOp.and IntKind.u32 ports pend != 0) = true
            · have hbad : ¬ plBad ports ti = true := by simp [plBad]; omega
              have hnow : plNow ports ti now pend = true := by simp [plNow, ha]
              have hR : plR ⟨st, pa, po, un⟩ ports ti = 0 := by simp only [plR]; rw [if_neg hr, if_neg hbad]
              have hS : plS ⟨st, pa, po, un⟩ ports ti now pend = ⟨st, pa, po, un⟩ := by simp only [plS]; rw [if_neg hr, if_neg hbad, if_pos hnow]
              rw [hR, hS]
              clear hz hp hneg hbig
              clear hR hS hr hbad hnow
              go_enter Try.func32, Try.ntmps32
              go_wp2_with (go_at_call 22; refine (runs_ _ _ _ _ _).mono ?_; rintro e w' ⟨rfl, hbl⟩; obtain ⟨hcc, hff⟩ := bcell hbl)
              all_goals
                go_ret
                exact ⟨rfl, But.of_below hbl, (hbl.block _ lb).trans HB.out⟩
            · have ha' : (bits BinOp.and IntKind.u32 ports pend != 0) = false := Bool.eq_false_iff.mpr ha
              have hbad : ¬ plBad ports ti = true := by simp [plBad]; omega
              have hnow : ¬ plNow ports ti now pend = true := by simp [plNow, ha', q4]
              have hR : plR ⟨st, pa, po, un⟩ ports ti = 0 := by simp only [plR]; rw [if_neg hr, if_neg hbad]
              have hS : plS ⟨st, pa, po, un⟩ ports ti now pend = ⟨3, pa, ports, ti⟩ := by simp only [plS]; rw [if_neg hr, if_neg hbad, if_neg hnow]
              rw [hR, hS]
              clear hz hp hneg hbig ha
              clear hR hS hr hbad hnow
              go_enter Try.func32, Try.ntmps32
              go_wp2_with (go_at_call 22; refine (runs_ _ _ _ _ _).mono ?_; rintro e w' ⟨rfl, hbl⟩; obtain ⟨hcc, hff⟩ := bcell hbl)
              all_goals
                go_region
                go_wp2
                go_ret
                exact ⟨rfl, ((((But.of_below hbl).set 0 _).set 2 _).set 3 _).drew, blk_set (blk_set (blk_set ((hbl.block _ lb).trans HB.out) 0 _) 2 _) 3 _⟩
        · have q1 : (ti == 0) = false := by simp [hz]
          have q4 : (ti != 0) = true := by simp [hz]
          rcases Bool.eq_false_or_eq_true (ports == 0) with q5 | q5
          all_goals
            by_cases ha : (bits BinOp.and IntKind.u32 ports pend != 0) = true
            · have hbad : ¬ plBad ports ti = true := by simp [plBad]; omega
              have hnow : plNow ports ti now pend = true := by simp [plNow, ha]
              have hR : plR ⟨st, pa, po, un⟩ ports ti = 0 := by simp only [plR]; rw [if_neg hr, if_neg hbad]
              have hS : plS ⟨st, pa, po, un⟩ ports ti now pend = ⟨st, pa, po, un⟩ := by simp only [plS]; rw [if_neg hr, if_neg hbad, if_pos hnow]
              rw [hR, hS]
              clear hz hneg hbig
              clear hR hS hr hbad hnow
              go_enter Try.func32, Try.ntmps32
              go_wp2_with (go_at_call 22; refine (runs_ _ _ _ _ _).mono ?_; rintro e w' ⟨rfl, hbl⟩; obtain ⟨hcc, hff⟩ := bcell hbl)
              all_goals
                go_ret
                exact ⟨rfl, But.of_below hbl, (hbl.block _ lb).trans HB.out⟩
            · have ha' : (bits BinOp.and IntKind.u32 ports pend != 0) = false := Bool.eq_false_iff.mpr ha
              by_cases hn : ti ≤ now
              · have hn1 : decide (ti ≤ now) = true := by simp [hn]
                have hbad : ¬ plBad ports ti = true := by simp [plBad]; omega
                have hnow : plNow ports ti now pend = true := by simp [plNow, ha', q4, hn1]
                have hR : plR ⟨st, pa, po, un⟩ ports ti = 0 := by simp only [plR]; rw [if_neg hr, if_neg hbad]
                have hS : plS ⟨st, pa, po, un⟩ ports ti now pend = ⟨st, pa, po, un⟩ := by simp only [plS]; rw [if_neg hr, if_neg hbad, if_pos hnow]
                rw [hR, hS]
                clear hz hneg hbig ha
                clear hR hS hr hbad hnow
                go_enter Try.func32, Try.ntmps32
                go_wp2_with (go_at_call 22; refine (runs_ _ _ _ _ _).mono ?_; rintro e w' ⟨rfl, hbl⟩; obtain ⟨hcc, hff⟩ := bcell hbl)
                all_goals
                  go_ret
                  exact ⟨rfl, But.of_below hbl, (hbl.block _ lb).trans HB.out⟩
              · have hn' : now < ti := by omega
                have hn1 : decide (ti ≤ now) = false := by simp [hn]
                have hbad : ¬ plBad ports ti = true := by simp [plBad]; omega
                have hnow : ¬ plNow ports ti now pend = true := by simp [plNow, ha', q4, hn1]
                have hR : plR ⟨st, pa, po, un⟩ ports ti = 0 := by simp only [plR]; rw [if_neg hr, if_neg hbad]
                have hS : plS ⟨st, pa, po, un⟩ ports ti now pend = ⟨3, pa, ports, ti⟩ := by simp only [plS]; rw [if_neg hr, if_neg hbad, if_neg hnow]
                rw [hR, hS]
                clear hz hneg hbig ha hn
                clear hR hS hr hbad hnow
                go_enter Try.func32, Try.ntmps32
                go_wp2_with (go_at_call 22; refine (runs_ _ _ _ _ _).mono ?_; rintro e w' ⟨rfl, hbl⟩; obtain ⟨hcc, hff⟩ := bcell hbl)
                all_goals
                  go_region
                  go_wp2
                  go_ret
                  exact ⟨rfl, ((((But.of_below hbl).set 0 _).set 2 _).set 3 _).drew, blk_set (blk_set (blk_set ((hbl.block _ lb).trans HB.out) 0 _) 2 _) 3 _⟩

end Go.Proofs.Ytjppkcdonddohaa.A
