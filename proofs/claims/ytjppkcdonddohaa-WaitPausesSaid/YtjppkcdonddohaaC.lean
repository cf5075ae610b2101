/-
  Walks of the wait layer: Up, Down, Pause, Unpause, Block, Poll, Event, Time, Due.
-/
import Derived.Test.YtjppkcdonddohaaB1
import Derived.Test.YtjppkcdonddohaaB2
import Derived.Test.YtjppkcdonddohaaB3
import Derived.Test.YtjppkcdonddohaaB4
import Derived.Test.YtjppkcdonddohaaB5
import Derived.Test.YtjppkcdonddohaaB6
import Derived.Test.YtjppkcdonddohaaB7
import Derived.Test.YtjppkcdonddohaaB8
import Derived.StillTailTactics
set_option linter.unusedVariables false
set_option linter.unusedSimpArgs false
namespace Go.Proofs.Ytjppkcdonddohaa.A
open Go.RowKit

theorem okB_pa {s : St} (h : okB s = true) : 0 ≤ s.pa ∧ s.pa ≤ 15 := by
  obtain ⟨_, _, h1, h2, _⟩ : okP s := of_decide_eq_true h
  exact ⟨h1, h2⟩

def upS (s : St) : St := if s.st = 0 then ⟨1, s.pa, 0, 0⟩ else s
def upR (s : St) : Int := if s.st = 0 then 0 else 5
def dnS (s : St) : St := if s.st = 0 then s else ⟨0, s.pa, 0, 0⟩
def dnR (s : St) : Int := if s.st = 0 then 4 else 0
def paS (s : St) : St := if s.pa = 15 then s else ⟨s.st, s.pa + 1, s.po, s.un⟩
def paR (s : St) : Int := if s.pa = 15 then 6 else 0
def unS (s : St) : St := if s.pa = 0 then s else ⟨s.st, s.pa - 1, s.po, s.un⟩
def unR (s : St) : Int := if s.pa = 0 then 4 else 0
def blS (s : St) (pend : Bool) : St := if runsB s = false then s else if pend then s else ⟨2, s.pa, 0, 0⟩
def blR (s : St) : Int := if runsB s = false then 271 else 0
def tiS (s : St) (now : Int) : St := if 0 < s.un ∧ s.un ≤ now then ⟨1, s.pa, 0, 0⟩ else s
theorem ite_bool_hold {w : World} : Below w.heap.size w w := Below.refl _ _
theorem ev_low {w w1 : World} {c : Nat} {o : Obj} (hc : w.heap[c]? = some o) (h : Below w.heap.size w w1) : w1.heap[c]? = some o := (h.block c (lt_blk hc)).trans hc

set_option maxHeartbeats 1600000 in
theorem up_core (s s2 : St) (b2 : Bool) (r2 : Int) (w : World)
    (hT : ∀ W, Hid (Calls Try.prog 27 #[.agg s.cells, .func (.func 37) #[] #[]] W fun e w' => e = .returned (triple s2 b2 r2) ∧ Below W.heap.size W w')) :
    Calls Try.prog 25 #[.agg s.cells] w fun e w' => e = .returned (.tuple #[.agg s2.cells, .int .i64 r2]) ∧ Below w.heap.size w w' := by
  obtain ⟨st, pa, po, un⟩ := s
  obtain ⟨st2, pa2, po2, un2⟩ := s2
  go_enter Try.func25, Try.ntmps25
  go_wp2_with (go_at_call 27; refine ((hT _).out).mono ?_; rintro e w1 ⟨rfl, hb⟩; have hs1 : w.heap.size + 1 < w1.heap.size := low2_s hb; have H1 := Lib.hid (low2_1 hb); obtain ⟨x0, x1, x2, x3, y0, y1, y2, y3⟩ := cells4 (low2_1 hb); have BB := Lib.hid (low2 hb); clear hb)
  refine bodyPost_ret (res_ct rfl _ _ (w.heap.size + 1) 24 (St.cells ⟨st2, pa2, po2, un2⟩) (0, 0) _ rfl (alloc_at (blk_set (blk_set (blk_set (blk_set H1.out 0 _) 1 _) 2 _) 3 _)) Try.underlying24 rfl (by kernel_rfl)) rfl ?_
  exact ⟨rfl, ((((BB.out.setCell (by simp) _).setCell (by simp) _).setCell (by simp) _).setCell (by simp) _).alloc (by simp; omega) _⟩
theorem up_ (s : St) (w : World) : Calls Try.prog 25 #[.agg s.cells] w fun e w' => e = .returned (.tuple #[.agg (tnS s (upS s) (upR s)).cells, .int .i64 (tnE s (upR s))]) ∧ Below w.heap.size w w' :=
  up_core s _ _ _ w (fun W => Lib.hid (turnUp s (upS s) (upR s) W (fun _ W b _ _ hb => up1_ b s W hb)))

set_option maxHeartbeats 1600000 in
theorem down_core (s s2 : St) (b2 : Bool) (r2 : Int) (w : World)
    (hT : ∀ W, Hid (Calls Try.prog 27 #[.agg s.cells, .func (.func 38) #[] #[]] W fun e w' => e = .returned (triple s2 b2 r2) ∧ Below W.heap.size W w')) :
    Calls Try.prog 26 #[.agg s.cells] w fun e w' => e = .returned (.tuple #[.agg s2.cells, .int .i64 r2]) ∧ Below w.heap.size w w' := by
  obtain ⟨st, pa, po, un⟩ := s
  obtain ⟨st2, pa2, po2, un2⟩ := s2
  go_enter Try.func26, Try.ntmps26
  go_wp2_with (go_at_call 27; refine ((hT _).out).mono ?_; rintro e w1 ⟨rfl, hb⟩; have hs1 : w.heap.size + 1 < w1.heap.size := low2_s hb; have H1 := Lib.hid (low2_1 hb); obtain ⟨x0, x1, x2, x3, y0, y1, y2, y3⟩ := cells4 (low2_1 hb); have BB := Lib.hid (low2 hb); clear hb)
  refine bodyPost_ret (res_ct rfl _ _ (w.heap.size + 1) 24 (St.cells ⟨st2, pa2, po2, un2⟩) (0, 0) _ rfl (alloc_at (blk_set (blk_set (blk_set (blk_set H1.out 0 _) 1 _) 2 _) 3 _)) Try.underlying24 rfl (by kernel_rfl)) rfl ?_
  exact ⟨rfl, ((((BB.out.setCell (by simp) _).setCell (by simp) _).setCell (by simp) _).setCell (by simp) _).alloc (by simp; omega) _⟩
theorem down_ (s : St) (w : World) : Calls Try.prog 26 #[.agg s.cells] w fun e w' => e = .returned (.tuple #[.agg (tnS s (dnS s) (dnR s)).cells, .int .i64 (tnE s (dnR s))]) ∧ Below w.heap.size w w' :=
  down_core s _ _ _ w (fun W => Lib.hid (turnDown s (dnS s) (dnR s) W (fun _ W b _ _ hb => down1_ b s W hb)))

set_option maxHeartbeats 1600000 in
theorem pause_core (s s2 : St) (b2 : Bool) (r2 : Int) (w : World)
    (hT : ∀ W, Hid (Calls Try.prog 27 #[.agg s.cells, .func (.func 35) #[] #[]] W fun e w' => e = .returned (triple s2 b2 r2) ∧ Below W.heap.size W w')) :
    Calls Try.prog 21 #[.agg s.cells] w fun e w' => e = .returned (.tuple #[.agg s2.cells, .int .i64 r2]) ∧ Below w.heap.size w w' := by
  obtain ⟨st, pa, po, un⟩ := s
  obtain ⟨st2, pa2, po2, un2⟩ := s2
  go_enter Try.func21, Try.ntmps21
  go_wp2_with (go_at_call 27; refine ((hT _).out).mono ?_; rintro e w1 ⟨rfl, hb⟩; have hs1 : w.heap.size + 1 < w1.heap.size := low2_s hb; have H1 := Lib.hid (low2_1 hb); obtain ⟨x0, x1, x2, x3, y0, y1, y2, y3⟩ := cells4 (low2_1 hb); have BB := Lib.hid (low2 hb); clear hb)
  refine bodyPost_ret (res_ct rfl _ _ (w.heap.size + 1) 24 (St.cells ⟨st2, pa2, po2, un2⟩) (0, 0) _ rfl (alloc_at (blk_set (blk_set (blk_set (blk_set H1.out 0 _) 1 _) 2 _) 3 _)) Try.underlying24 rfl (by kernel_rfl)) rfl ?_
  exact ⟨rfl, ((((BB.out.setCell (by simp) _).setCell (by simp) _).setCell (by simp) _).setCell (by simp) _).alloc (by simp; omega) _⟩
theorem pause_ (s : St) (w : World) : Calls Try.prog 21 #[.agg s.cells] w fun e w' => e = .returned (.tuple #[.agg (tnS s (paS s) (paR s)).cells, .int .i64 (tnE s (paR s))]) ∧ Below w.heap.size w w' :=
  pause_core s _ _ _ w (fun W => Lib.hid (turnPause s (paS s) (paR s) W (fun hk W b _ _ hb => pause1_ b s W hb (okB_pa hk))))

theorem low3x (w : World) (o0 o1 o2 : Obj) : Below w.heap.size w ((((w).alloc o0).alloc o1).alloc o2) ∧ ((((w).alloc o0).alloc o1).alloc o2).heap.size = w.heap.size + 3 ∧ ((((w).alloc o0).alloc o1).alloc o2).heap[w.heap.size + 2]? = some o2 := by
  refine ⟨?_, by simp; try omega, ?_⟩
  · exact (((Below.refl w.heap.size w).alloc (by simp; try omega) o0).alloc (by simp; try omega) o1).alloc (by simp; try omega) o2
  · have := new_at (((w).alloc o0).alloc o1) o2; simpa using this
theorem low3 {w w1 : World} {o0 o1 o2 : Obj} (h : Below ((((w).alloc o0).alloc o1).alloc o2).heap.size ((((w).alloc o0).alloc o1).alloc o2) w1) : Below w.heap.size w w1 :=
  (low3x w o0 o1 o2).1.trans (h.mono (by have := (low3x w o0 o1 o2).2.1; omega))
theorem low3_r {w w1 : World} {o0 o1 o2 : Obj} (h : Below ((((w).alloc o0).alloc o1).alloc o2).heap.size ((((w).alloc o0).alloc o1).alloc o2) w1) : w1.heap[w.heap.size + 2]? = some o2 :=
  (h.block _ (by have := (low3x w o0 o1 o2).2.1; omega)).trans (low3x w o0 o1 o2).2.2

theorem low4x (w : World) (o0 o1 o2 o3 : Obj) : Below w.heap.size w (((((w).alloc o0).alloc o1).alloc o2).alloc o3) ∧ (((((w).alloc o0).alloc o1).alloc o2).alloc o3).heap.size = w.heap.size + 4 ∧ (((((w).alloc o0).alloc o1).alloc o2).alloc o3).heap[w.heap.size + 3]? = some o3 := by
  refine ⟨?_, by simp; try omega, ?_⟩
  · exact ((((Below.refl w.heap.size w).alloc (by simp; try omega) o0).alloc (by simp; try omega) o1).alloc (by simp; try omega) o2).alloc (by simp; try omega) o3
  · have := new_at ((((w).alloc o0).alloc o1).alloc o2) o3; simpa using this
theorem low4 {w w1 : World} {o0 o1 o2 o3 : Obj} (h : Below (((((w).alloc o0).alloc o1).alloc o2).alloc o3).heap.size (((((w).alloc o0).alloc o1).alloc o2).alloc o3) w1) : Below w.heap.size w w1 :=
  (low4x w o0 o1 o2 o3).1.trans (h.mono (by have := (low4x w o0 o1 o2 o3).2.1; omega))
theorem low4_r {w w1 : World} {o0 o1 o2 o3 : Obj} (h : Below (((((w).alloc o0).alloc o1).alloc o2).alloc o3).heap.size (((((w).alloc o0).alloc o1).alloc o2).alloc o3) w1) : w1.heap[w.heap.size + 3]? = some o3 :=
  (h.block _ (by have := (low4x w o0 o1 o2 o3).2.1; omega)).trans (low4x w o0 o1 o2 o3).2.2

theorem low6x (w : World) (o0 o1 o2 o3 o4 o5 : Obj) : Below w.heap.size w (((((((w).alloc o0).alloc o1).alloc o2).alloc o3).alloc o4).alloc o5) ∧ (((((((w).alloc o0).alloc o1).alloc o2).alloc o3).alloc o4).alloc o5).heap.size = w.heap.size + 6 ∧ (((((((w).alloc o0).alloc o1).alloc o2).alloc o3).alloc o4).alloc o5).heap[w.heap.size + 5]? = some o5 := by
  refine ⟨?_, by simp; try omega, ?_⟩
  · exact ((((((Below.refl w.heap.size w).alloc (by simp; try omega) o0).alloc (by simp; try omega) o1).alloc (by simp; try omega) o2).alloc (by simp; try omega) o3).alloc (by simp; try omega) o4).alloc (by simp; try omega) o5
  · have := new_at ((((((w).alloc o0).alloc o1).alloc o2).alloc o3).alloc o4) o5; simpa using this
theorem low6 {w w1 : World} {o0 o1 o2 o3 o4 o5 : Obj} (h : Below (((((((w).alloc o0).alloc o1).alloc o2).alloc o3).alloc o4).alloc o5).heap.size (((((((w).alloc o0).alloc o1).alloc o2).alloc o3).alloc o4).alloc o5) w1) : Below w.heap.size w w1 :=
  (low6x w o0 o1 o2 o3 o4 o5).1.trans (h.mono (by have := (low6x w o0 o1 o2 o3 o4 o5).2.1; omega))
theorem low6_r {w w1 : World} {o0 o1 o2 o3 o4 o5 : Obj} (h : Below (((((((w).alloc o0).alloc o1).alloc o2).alloc o3).alloc o4).alloc o5).heap.size (((((((w).alloc o0).alloc o1).alloc o2).alloc o3).alloc o4).alloc o5) w1) : w1.heap[w.heap.size + 5]? = some o5 :=
  (h.block _ (by have := (low6x w o0 o1 o2 o3 o4 o5).2.1; omega)).trans (low6x w o0 o1 o2 o3 o4 o5).2.2
theorem nx_1 (w : World) (o0 o1 : Obj) : (((w).alloc o0).alloc o1).heap[w.heap.size + 1]? = some o1 := by
  have := new_at ((w).alloc o0) o1
  simpa using this
theorem nx_2 (w : World) (o0 o1 o2 : Obj) : ((((w).alloc o0).alloc o1).alloc o2).heap[w.heap.size + 2]? = some o2 := by
  have := new_at (((w).alloc o0).alloc o1) o2
  simpa using this
theorem nx_3 (w : World) (o0 o1 o2 o3 : Obj) : (((((w).alloc o0).alloc o1).alloc o2).alloc o3).heap[w.heap.size + 3]? = some o3 := by
  have := new_at ((((w).alloc o0).alloc o1).alloc o2) o3
  simpa using this
theorem nx_4 (w : World) (o0 o1 o2 o3 o4 : Obj) : ((((((w).alloc o0).alloc o1).alloc o2).alloc o3).alloc o4).heap[w.heap.size + 4]? = some o4 := by
  have := new_at (((((w).alloc o0).alloc o1).alloc o2).alloc o3) o4
  simpa using this
theorem nx_5 (w : World) (o0 o1 o2 o3 o4 o5 : Obj) : (((((((w).alloc o0).alloc o1).alloc o2).alloc o3).alloc o4).alloc o5).heap[w.heap.size + 5]? = some o5 := by
  have := new_at ((((((w).alloc o0).alloc o1).alloc o2).alloc o3).alloc o4) o5
  simpa using this
theorem nth3_1 (w : World) (o0 o1 o2 : Obj) : ((((w).alloc o0).alloc o1).alloc o2).heap[w.heap.size + 1]? = some o1 := alloc_at ((nx_1 w o0 o1))
theorem nth4_1 (w : World) (o0 o1 o2 o3 : Obj) : (((((w).alloc o0).alloc o1).alloc o2).alloc o3).heap[w.heap.size + 1]? = some o1 := alloc_at (alloc_at ((nx_1 w o0 o1)))
theorem nth4_2 (w : World) (o0 o1 o2 o3 : Obj) : (((((w).alloc o0).alloc o1).alloc o2).alloc o3).heap[w.heap.size + 2]? = some o2 := alloc_at ((nx_2 w o0 o1 o2))
theorem nth6_1 (w : World) (o0 o1 o2 o3 o4 o5 : Obj) : (((((((w).alloc o0).alloc o1).alloc o2).alloc o3).alloc o4).alloc o5).heap[w.heap.size + 1]? = some o1 := alloc_at (alloc_at (alloc_at (alloc_at ((nx_1 w o0 o1)))))
theorem nth6_2 (w : World) (o0 o1 o2 o3 o4 o5 : Obj) : (((((((w).alloc o0).alloc o1).alloc o2).alloc o3).alloc o4).alloc o5).heap[w.heap.size + 2]? = some o2 := alloc_at (alloc_at (alloc_at ((nx_2 w o0 o1 o2))))
theorem nth6_3 (w : World) (o0 o1 o2 o3 o4 o5 : Obj) : (((((((w).alloc o0).alloc o1).alloc o2).alloc o3).alloc o4).alloc o5).heap[w.heap.size + 3]? = some o3 := alloc_at (alloc_at ((nx_3 w o0 o1 o2 o3)))
theorem nth6_4 (w : World) (o0 o1 o2 o3 o4 o5 : Obj) : (((((((w).alloc o0).alloc o1).alloc o2).alloc o3).alloc o4).alloc o5).heap[w.heap.size + 4]? = some o4 := alloc_at ((nx_4 w o0 o1 o2 o3 o4))

set_option maxHeartbeats 1600000 in
theorem block_core (s s2 : St) (b2 : Bool) (r2 : Int) (pend : Bool) (w : World)
    (hT : ∀ (W : World) (c0 : Nat) (h0 : W.heap[c0]? = some (.cells #[.bool pend] 4 (0, 0))), Hid (Calls Try.prog 27 #[.agg s.cells, .func (.func 34) #[] #[.pointer (some ⟨c0, 0, none⟩)]] W fun e w' => e = .returned (triple s2 b2 r2) ∧ Below W.heap.size W w')) :
    Calls Try.prog 17 #[.agg s.cells, .bool pend] w fun e w' => e = .returned (triple s2 b2 r2) ∧ Below w.heap.size w w' := by
  obtain ⟨st, pa, po, un⟩ := s
  obtain ⟨st2, pa2, po2, un2⟩ := s2
  go_enter Try.func17, Try.ntmps17
  go_wp2_with (go_at_call 27; go_loud (refine ((hT _ (w.heap.size + 1) (nth3_1 w _ _ _ )).out).mono ?_); rintro e w1 ⟨rfl, hb⟩; have BB := Lib.hid (low3 hb); have H1 := Lib.hid (low3_r hb); obtain ⟨x0, x1, x2, x3, y0, y1, y2, y3⟩ := cells4 H1.out; clear hb)
  refine bodyPost_ret (res_ctt rfl _ _ (w.heap.size + 2) 24 (St.cells ⟨st2, pa2, po2, un2⟩) (0, 0) _ rfl (blk_set (blk_set (blk_set (blk_set H1.out 0 _) 1 _) 2 _) 3 _) Try.underlying24 rfl (by kernel_rfl)) rfl ?_
  exact ⟨rfl, (((BB.out.setCell (by simp; omega) _).setCell (by simp; omega) _).setCell (by simp; omega) _).setCell (by simp; omega) _⟩
theorem block_ (s : St) (pend : Bool) (w : World) : Calls Try.prog 17 #[.agg s.cells, .bool pend] w fun e w' => e = .returned (triple (tnS s (blS s pend) (blR s)) (tnB s (blS s pend) (blR s)) (tnE s (blR s))) ∧ Below w.heap.size w w' := by
  apply block_core
  intro W c0 h0
  exact Lib.hid (turnBlock c0 s (blS s pend) (blR s) W (fun _ W2 b hbl _ hb => block1_ b c0 pend s W2 hb (ev_low h0 hbl)))

set_option maxHeartbeats 1600000 in
theorem time_core (s s2 : St) (b2 : Bool) (r2 : Int) (now : Int) (w : World)
    (hT : ∀ (W : World) (c0 : Nat) (h0 : W.heap[c0]? = some (.cells #[.int .i64 now] 2 (0, 0))), Hid (Calls Try.prog 27 #[.agg s.cells, .func (.func 31) #[] #[.pointer (some ⟨c0, 0, none⟩)]] W fun e w' => e = .returned (triple s2 b2 r2) ∧ Below W.heap.size W w')) :
    Calls Try.prog 12 #[.agg s.cells, .int .i64 now] w fun e w' => e = .returned (triple s2 b2 r2) ∧ Below w.heap.size w w' := by
  obtain ⟨st, pa, po, un⟩ := s
  obtain ⟨st2, pa2, po2, un2⟩ := s2
  go_enter Try.func12, Try.ntmps12
  go_wp2_with (go_at_call 27; go_loud (refine ((hT _ (w.heap.size + 1) (nth3_1 w _ _ _ )).out).mono ?_); rintro e w1 ⟨rfl, hb⟩; have BB := Lib.hid (low3 hb); have H1 := Lib.hid (low3_r hb); obtain ⟨x0, x1, x2, x3, y0, y1, y2, y3⟩ := cells4 H1.out; clear hb)
  refine bodyPost_ret (res_ctt rfl _ _ (w.heap.size + 2) 24 (St.cells ⟨st2, pa2, po2, un2⟩) (0, 0) _ rfl (blk_set (blk_set (blk_set (blk_set H1.out 0 _) 1 _) 2 _) 3 _) Try.underlying24 rfl (by kernel_rfl)) rfl ?_
  exact ⟨rfl, (((BB.out.setCell (by simp; omega) _).setCell (by simp; omega) _).setCell (by simp; omega) _).setCell (by simp; omega) _⟩
theorem time_ (s : St) (now : Int) (w : World) : Calls Try.prog 12 #[.agg s.cells, .int .i64 now] w fun e w' => e = .returned (triple (tnS s (tiS s now) (0)) (tnB s (tiS s now) (0)) (tnE s (0))) ∧ Below w.heap.size w w' := by
  apply time_core
  intro W c0 h0
  exact Lib.hid (turnTime c0 s (tiS s now) (0) W (fun _ W2 b hbl _ hb => time1_ b c0 now s W2 hb (ev_low h0 hbl)))

set_option maxHeartbeats 1600000 in
theorem event_core (s s2 : St) (b2 : Bool) (r2 : Int) (port : Int) (masked : Bool) (w : World)
    (hT : ∀ (W : World) (c0 c1 : Nat) (h0 : W.heap[c0]? = some (.cells #[.int .i64 port] 3 (0, 0))) (h1 : W.heap[c1]? = some (.cells #[.bool masked] 4 (0, 0))), Hid (Calls Try.prog 27 #[.agg s.cells, .func (.func 28) #[] #[.pointer (some ⟨c0, 0, none⟩), .pointer (some ⟨c1, 0, none⟩)]] W fun e w' => e = .returned (triple s2 b2 r2) ∧ Below W.heap.size W w')) :
    Calls Try.prog 10 #[.agg s.cells, .int .i64 port, .bool masked] w fun e w' => e = .returned (triple s2 b2 r2) ∧ Below w.heap.size w w' := by
  obtain ⟨st, pa, po, un⟩ := s
  obtain ⟨st2, pa2, po2, un2⟩ := s2
  go_enter Try.func10, Try.ntmps10
  go_wp2_with (go_at_call 27; go_loud (refine ((hT _ (w.heap.size + 1) (w.heap.size + 2) (nth4_1 w _ _ _ _ ) (nth4_2 w _ _ _ _ )).out).mono ?_); rintro e w1 ⟨rfl, hb⟩; have BB := Lib.hid (low4 hb); have H1 := Lib.hid (low4_r hb); obtain ⟨x0, x1, x2, x3, y0, y1, y2, y3⟩ := cells4 H1.out; clear hb)
  refine bodyPost_ret (res_ctt rfl _ _ (w.heap.size + 3) 24 (St.cells ⟨st2, pa2, po2, un2⟩) (0, 0) _ rfl (blk_set (blk_set (blk_set (blk_set H1.out 0 _) 1 _) 2 _) 3 _) Try.underlying24 rfl (by kernel_rfl)) rfl ?_
  exact ⟨rfl, (((BB.out.setCell (by simp; omega) _).setCell (by simp; omega) _).setCell (by simp; omega) _).setCell (by simp; omega) _⟩
theorem event_ (s : St) (port : Int) (masked : Bool) (w : World) (hpo : 0 ≤ s.po ∧ s.po < 4294967296) : Calls Try.prog 10 #[.agg s.cells, .int .i64 port, .bool masked] w fun e w' => e = .returned (triple (tnS s (evS s port masked) (evR port)) (tnB s (evS s port masked) (evR port)) (tnE s (evR port))) ∧ Below w.heap.size w w' := by
  apply event_core
  intro W c0 c1 h0 h1
  exact Lib.hid (turnEvent c0 c1 s (evS s port masked) (evR port) W (fun _ W2 b hbl _ hb => event1_ b c0 c1 port masked s W2 hb (ev_low h0 hbl) (ev_low h1 hbl) hpo))

set_option maxHeartbeats 1600000 in
theorem poll_core (s s2 : St) (b2 : Bool) (r2 : Int) (ports ti now pend : Int) (w : World)
    (hT : ∀ (W : World) (c0 c1 c2 c3 : Nat) (h0 : W.heap[c0]? = some (.cells #[.int .u32 ports] 22 (0, 0))) (h1 : W.heap[c1]? = some (.cells #[.int .i64 ti] 2 (0, 0))) (h2 : W.heap[c2]? = some (.cells #[.int .u32 pend] 22 (0, 0))) (h3 : W.heap[c3]? = some (.cells #[.int .i64 now] 2 (0, 0))), Hid (Calls Try.prog 27 #[.agg s.cells, .func (.func 32) #[] #[.pointer (some ⟨c0, 0, none⟩), .pointer (some ⟨c1, 0, none⟩), .pointer (some ⟨c2, 0, none⟩), .pointer (some ⟨c3, 0, none⟩)]] W fun e w' => e = .returned (triple s2 b2 r2) ∧ Below W.heap.size W w')) :
    Calls Try.prog 15 #[.agg s.cells, .int .u32 ports, .int .i64 ti, .int .i64 now, .int .u32 pend] w fun e w' => e = .returned (triple s2 b2 r2) ∧ Below w.heap.size w w' := by
  obtain ⟨st, pa, po, un⟩ := s
  obtain ⟨st2, pa2, po2, un2⟩ := s2
  go_enter Try.func15, Try.ntmps15
  go_wp2_with (go_at_call 27; go_loud (refine ((hT _ (w.heap.size + 1) (w.heap.size + 2) (w.heap.size + 4) (w.heap.size + 3) (nth6_1 w _ _ _ _ _ _ ) (nth6_2 w _ _ _ _ _ _ ) (nth6_4 w _ _ _ _ _ _ ) (nth6_3 w _ _ _ _ _ _ )).out).mono ?_); rintro e w1 ⟨rfl, hb⟩; have BB := Lib.hid (low6 hb); have H1 := Lib.hid (low6_r hb); obtain ⟨x0, x1, x2, x3, y0, y1, y2, y3⟩ := cells4 H1.out; clear hb)
  refine bodyPost_ret (res_ctt rfl _ _ (w.heap.size + 5) 24 (St.cells ⟨st2, pa2, po2, un2⟩) (0, 0) _ rfl (blk_set (blk_set (blk_set (blk_set H1.out 0 _) 1 _) 2 _) 3 _) Try.underlying24 rfl (by kernel_rfl)) rfl ?_
  exact ⟨rfl, (((BB.out.setCell (by simp; omega) _).setCell (by simp; omega) _).setCell (by simp; omega) _).setCell (by simp; omega) _⟩
theorem poll_ (s : St) (ports ti now pend : Int) (w : World) : Calls Try.prog 15 #[.agg s.cells, .int .u32 ports, .int .i64 ti, .int .i64 now, .int .u32 pend] w fun e w' => e = .returned (triple (tnS s (plS s ports ti now pend) (plR s ports ti)) (tnB s (plS s ports ti now pend) (plR s ports ti)) (tnE s (plR s ports ti))) ∧ Below w.heap.size w w' := by
  apply poll_core
  intro W c0 c1 c2 c3 h0 h1 h2 h3
  exact Lib.hid (turnPoll c0 c1 c2 c3 s (plS s ports ti now pend) (plR s ports ti) W (fun _ W2 b hbl _ hb => poll1_ b c0 c1 c2 c3 ports ti now pend s W2 hb (ev_low h0 hbl) (ev_low h1 hbl) (ev_low h2 hbl) (ev_low h3 hbl)))

set_option maxHeartbeats 1600000 in
theorem unpause_core (s s2 : St) (b2 : Bool) (r2 : Int) (w : World)
    (hT : ∀ W, Hid (Calls Try.prog 27 #[.agg s.cells, .func (.func 36) #[] #[]] W fun e w' => e = .returned (triple s2 b2 r2) ∧ Below W.heap.size W w')) :
    Calls Try.prog 23 #[.agg s.cells] w fun e w' => e = .returned (triple s2 (runsB s2) r2) ∧ Below w.heap.size w w' := by
  obtain ⟨st, pa, po, un⟩ := s
  obtain ⟨st2, pa2, po2, un2⟩ := s2
  go_enter Try.func23, Try.ntmps23
  go_wp2_with (go_at_call 27; refine ((hT _).out).mono ?_; rintro e w1 ⟨rfl, hb⟩; have hs1 : w.heap.size + 1 < w1.heap.size := low2_s hb; have H1 := Lib.hid (low2_1 hb); obtain ⟨x0, x1, x2, x3, y0, y1, y2, y3⟩ := cells4 (low2_1 hb); have BB := Lib.hid (low2 hb); clear hb)
  go_region_with ((go_at_call 22; go_loud (refine (runs_ _ _ _ _ _).mono ?_); rintro e w2 ⟨rfl, hb2⟩; go_loud (have H2 := Lib.hid ((hb2.block (w.heap.size + 1) (by simp; omega)).trans (show (w1.alloc _).heap[w.heap.size + 1]? = _ from alloc_at H1.out))); go_loud (have B2 := Lib.hid (((BB.out.alloc (by omega) _).drew).trans (hb2.mono (by simp; omega)))); have H3 := Lib.hid ((hb2.block w1.heap.size (by simp)).trans (show (w1.alloc _).heap[w1.heap.size]? = _ from new_at w1 _)); obtain ⟨x0, x1, x2, x3, y0, y1, y2, y3⟩ := cells4 H2.out; obtain ⟨v0, v1, v2, v3, _, _, _, _⟩ := cells4 H3.out; clear hb2))
  all_goals
    go_wp2
    refine bodyPost_ret (res_ctt rfl _ _ (w.heap.size + 1) 24 (St.cells ⟨st2, pa2, po2, un2⟩) (0, 0) _ rfl (blk_set (blk_set (blk_set (blk_set H2.out 0 _) 1 _) 2 _) 3 _) Try.underlying24 rfl (by kernel_rfl)) rfl ?_
    exact ⟨rfl, (((B2.out.setCell (by simp) _).setCell (by simp) _).setCell (by simp) _).setCell (by simp) _⟩

set_option maxHeartbeats 1600000 in
theorem due_ (s : St) (w : World) : Calls Try.prog 24 #[.agg s.cells] w fun e w' => e = .returned (.tuple #[.int .i64 (if okB s then s.un else 0), .bool (okB s && s.un != 0)]) ∧ Below w.heap.size w w' := by
  obtain ⟨st, pa, po, un⟩ := s
  cases hk : okB ⟨st, pa, po, un⟩ with
  | false =>
    have hb1 : (ckR ⟨st, pa, po, un⟩ != 0) = true := by simp [ckR, hk]
    go_enter Try.func24, Try.ntmps24
    go_wp2_with (go_at_call 20; refine (check_ _ _ _ _ _).mono ?_; rintro e w' ⟨rfl, hb⟩; obtain ⟨hc, hf⟩ := bcell hb)
    go_ret2
    exact ⟨by simp, ((Below.refl _ _).alloc (Nat.le_refl _) _).trans (hb.mono (by simp))⟩
  | true =>
    have hb1 : (ckR ⟨st, pa, po, un⟩ != 0) = false := by simp [ckR, hk]
    rcases Bool.eq_false_or_eq_true (un == 0) with hu | hu
    · have hu0 : un = 0 := by simpa using hu
      have hu1 : (un != 0) = false := by simp [hu0]
      have hu2 := Lib.hid hu0
      clear hu0
      go_enter Try.func24, Try.ntmps24
      go_wp2_with (go_at_call 20; refine (check_ _ _ _ _ _).mono ?_; rintro e w' ⟨rfl, hb⟩; obtain ⟨hc, hf⟩ := bcell hb)
      go_ret2
      exact ⟨by simp [hu2.out], ((Below.refl _ _).alloc (Nat.le_refl _) _).trans (hb.mono (by simp))⟩
    · have hu1 : (un != 0) = true := by simpa using hu
      go_enter Try.func24, Try.ntmps24
      go_wp2_with (go_at_call 20; refine (check_ _ _ _ _ _).mono ?_; rintro e w' ⟨rfl, hb⟩; obtain ⟨hc, hf⟩ := bcell hb)
      go_ret2
      exact ⟨by simp [hu1], ((Below.refl _ _).alloc (Nat.le_refl _) _).trans (hb.mono (by simp))⟩

end Go.Proofs.Ytjppkcdonddohaa.A
