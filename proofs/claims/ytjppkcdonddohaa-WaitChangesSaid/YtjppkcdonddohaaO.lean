/-
  Walks of the wait layer's statements: WaitChanges.
-/
import Derived.Test.YtjppkcdonddohaaN
set_option linter.unusedVariables false
set_option linter.unusedSimpArgs false
namespace Go.Proofs.Ytjppkcdonddohaa.A
open Go.RowKit
theorem below_al {w W : World} {o : Obj} (h : Below w.heap.size w W) : Below w.heap.size w (W.alloc o) := h.alloc h.size o

set_option maxRecDepth 100000 in
set_option maxHeartbeats 6400000 in
theorem changes_bad (s : St) (w : World)
    (hT : ∀ W, Hid (Calls Try.prog 20 #[.agg s.cells] W fun e w' => e = .returned (.int .i64 270) ∧ Below W.heap.size W w'))
    (hU : ∀ W, Hid (Calls Try.prog 25 #[.agg s.cells] W fun e w' => e = .returned (.tuple #[.agg (St.cells ⟨0, 0, 0, 0⟩), .int .i64 270]) ∧ Below W.heap.size W w'))
    (hD : ∀ W, Hid (Calls Try.prog 26 #[.agg s.cells] W fun e w' => e = .returned (.tuple #[.agg (St.cells ⟨0, 0, 0, 0⟩), .int .i64 270]) ∧ Below W.heap.size W w'))
    (hP : ∀ W, Hid (Calls Try.prog 21 #[.agg s.cells] W fun e w' => e = .returned (.tuple #[.agg (St.cells ⟨0, 0, 0, 0⟩), .int .i64 270]) ∧ Below W.heap.size W w'))
    (hQ : ∀ W, Hid (Calls Try.prog 23 #[.agg s.cells] W fun e w' => e = .returned (triple ⟨0, 0, 0, 0⟩ false 270) ∧ Below W.heap.size W w'))
    (hE : ∀ W, Hid (Calls Try.prog 24 #[.agg s.cells] W fun e w' => e = .returned (.tuple #[.int .i64 0, .bool false]) ∧ Below W.heap.size W w'))
    (hR : ∀ W, Hid (Calls Try.prog 22 #[.agg s.cells] W fun e w' => e = .returned (.bool false) ∧ Below W.heap.size W w'))
    (hG : ∀ W, Hid (Calls Try.prog 13 #[.agg s.cells] W fun e w' => e = .returned (.bool false) ∧ Below W.heap.size W w'))
    :
    Calls Try.prog 8 #[.agg s.cells] w fun e w' => e = .returned (.bool true) ∧ Below w.heap.size w w' := by
  obtain ⟨st, pa, po, un⟩ := s
  have O := Lib.hid (Own.start w)
  go_enter Try.func8, Try.ntmps8
  go_wp2_with fail
  refine (wakes_ _).mono ?_
  rintro e w1 ⟨rfl, hb⟩
  have O1 := Lib.hid ((O.out.alloc w.heap.size _ rfl).call hb)
  clear hb O 
  obtain ⟨s_0, s_1, s_2, s_3, s_f0, s_f1, s_f2, s_f3⟩ := cells4 (O1.out.nth 0 rfl)
  have l_s := lt_blk (O1.out.nth 0 rfl)
  go_wp2_with fail
  refine ((hT _).out).mono ?_
  rintro e w2 ⟨rfl, hb⟩
  have O2 := Lib.hid (O1.out.call hb)
  clear hb O1 s_0 s_1 s_2 s_3 s_f0 s_f1 s_f2 s_f3 l_s
  obtain ⟨s_0, s_1, s_2, s_3, s_f0, s_f1, s_f2, s_f3⟩ := cells4 (O2.out.nth 0 rfl)
  have l_s := lt_blk (O2.out.nth 0 rfl)
  go_wp2_with fail
  refine ((hU _).out).mono ?_
  rintro e w3 ⟨rfl, hb⟩
  have O3 := Lib.hid (O2.out.call hb)
  clear hb O2 s_0 s_1 s_2 s_3 s_f0 s_f1 s_f2 s_f3 l_s
  obtain ⟨s_0, s_1, s_2, s_3, s_f0, s_f1, s_f2, s_f3⟩ := cells4 (O3.out.nth 0 rfl)
  have l_s := lt_blk (O3.out.nth 0 rfl)
  go_wp2_with fail
  refine ((hD _).out).mono ?_
  rintro e w4 ⟨rfl, hb⟩
  have O4 := Lib.hid ((O3.out.alloc w3.heap.size _ rfl).call hb)
  clear hb O3 s_0 s_1 s_2 s_3 s_f0 s_f1 s_f2 s_f3 l_s
  obtain ⟨u_0, u_1, u_2, u_3, u_f0, u_f1, u_f2, u_f3⟩ := cells4 (O4.out.nth 0 rfl)
  have l_u := lt_blk (O4.out.nth 0 rfl)
  obtain ⟨s_0, s_1, s_2, s_3, s_f0, s_f1, s_f2, s_f3⟩ := cells4 (O4.out.nth 1 rfl)
  have l_s := lt_blk (O4.out.nth 1 rfl)
  go_wp2_with fail
  refine ((hP _).out).mono ?_
  rintro e w5 ⟨rfl, hb⟩
  have O5 := Lib.hid ((O4.out.alloc w4.heap.size _ rfl).call hb)
  clear hb O4 u_0 u_1 u_2 u_3 u_f0 u_f1 u_f2 u_f3 l_u s_0 s_1 s_2 s_3 s_f0 s_f1 s_f2 s_f3 l_s
  obtain ⟨d_0, d_1, d_2, d_3, d_f0, d_f1, d_f2, d_f3⟩ := cells4 (O5.out.nth 0 rfl)
  have l_d := lt_blk (O5.out.nth 0 rfl)
  obtain ⟨u_0, u_1, u_2, u_3, u_f0, u_f1, u_f2, u_f3⟩ := cells4 (O5.out.nth 1 rfl)
  have l_u := lt_blk (O5.out.nth 1 rfl)
  obtain ⟨s_0, s_1, s_2, s_3, s_f0, s_f1, s_f2, s_f3⟩ := cells4 (O5.out.nth 2 rfl)
  have l_s := lt_blk (O5.out.nth 2 rfl)
  go_wp2_with fail
  refine ((hQ _).out).mono ?_
  rintro e w6 ⟨rfl, hb⟩
  have O6 := Lib.hid ((O5.out.alloc w5.heap.size _ rfl).call hb)
  clear hb O5 d_0 d_1 d_2 d_3 d_f0 d_f1 d_f2 d_f3 l_d u_0 u_1 u_2 u_3 u_f0 u_f1 u_f2 u_f3 l_u s_0 s_1 s_2 s_3 s_f0 s_f1 s_f2 s_f3 l_s
  obtain ⟨p_0, p_1, p_2, p_3, p_f0, p_f1, p_f2, p_f3⟩ := cells4 (O6.out.nth 0 rfl)
  have l_p := lt_blk (O6.out.nth 0 rfl)
  obtain ⟨d_0, d_1, d_2, d_3, d_f0, d_f1, d_f2, d_f3⟩ := cells4 (O6.out.nth 1 rfl)
  have l_d := lt_blk (O6.out.nth 1 rfl)
  obtain ⟨u_0, u_1, u_2, u_3, u_f0, u_f1, u_f2, u_f3⟩ := cells4 (O6.out.nth 2 rfl)
  have l_u := lt_blk (O6.out.nth 2 rfl)
  obtain ⟨s_0, s_1, s_2, s_3, s_f0, s_f1, s_f2, s_f3⟩ := cells4 (O6.out.nth 3 rfl)
  have l_s := lt_blk (O6.out.nth 3 rfl)
  go_wp2_with fail
  refine ((hE _).out).mono ?_
  rintro e w7 ⟨rfl, hb⟩
  have O7 := Lib.hid ((O6.out.alloc w6.heap.size _ rfl).call hb)
  clear hb O6 p_0 p_1 p_2 p_3 p_f0 p_f1 p_f2 p_f3 l_p d_0 d_1 d_2 d_3 d_f0 d_f1 d_f2 d_f3 l_d u_0 u_1 u_2 u_3 u_f0 u_f1 u_f2 u_f3 l_u s_0 s_1 s_2 s_3 s_f0 s_f1 s_f2 s_f3 l_s
  obtain ⟨q_0, q_1, q_2, q_3, q_f0, q_f1, q_f2, q_f3⟩ := cells4 (O7.out.nth 0 rfl)
  have l_q := lt_blk (O7.out.nth 0 rfl)
  obtain ⟨p_0, p_1, p_2, p_3, p_f0, p_f1, p_f2, p_f3⟩ := cells4 (O7.out.nth 1 rfl)
  have l_p := lt_blk (O7.out.nth 1 rfl)
  obtain ⟨d_0, d_1, d_2, d_3, d_f0, d_f1, d_f2, d_f3⟩ := cells4 (O7.out.nth 2 rfl)
  have l_d := lt_blk (O7.out.nth 2 rfl)
  obtain ⟨u_0, u_1, u_2, u_3, u_f0, u_f1, u_f2, u_f3⟩ := cells4 (O7.out.nth 3 rfl)
  have l_u := lt_blk (O7.out.nth 3 rfl)
  obtain ⟨s_0, s_1, s_2, s_3, s_f0, s_f1, s_f2, s_f3⟩ := cells4 (O7.out.nth 4 rfl)
  have l_s := lt_blk (O7.out.nth 4 rfl)
  go_wp2_with fail
  refine ((hG _).out).mono ?_
  rintro e w8 ⟨rfl, hb⟩
  have O8 := Lib.hid (O7.out.call hb)
  clear hb O7 q_0 q_1 q_2 q_3 q_f0 q_f1 q_f2 q_f3 l_q p_0 p_1 p_2 p_3 p_f0 p_f1 p_f2 p_f3 l_p d_0 d_1 d_2 d_3 d_f0 d_f1 d_f2 d_f3 l_d u_0 u_1 u_2 u_3 u_f0 u_f1 u_f2 u_f3 l_u s_0 s_1 s_2 s_3 s_f0 s_f1 s_f2 s_f3 l_s
  obtain ⟨q_0, q_1, q_2, q_3, q_f0, q_f1, q_f2, q_f3⟩ := cells4 (O8.out.nth 0 rfl)
  have l_q := lt_blk (O8.out.nth 0 rfl)
  obtain ⟨p_0, p_1, p_2, p_3, p_f0, p_f1, p_f2, p_f3⟩ := cells4 (O8.out.nth 1 rfl)
  have l_p := lt_blk (O8.out.nth 1 rfl)
  obtain ⟨d_0, d_1, d_2, d_3, d_f0, d_f1, d_f2, d_f3⟩ := cells4 (O8.out.nth 2 rfl)
  have l_d := lt_blk (O8.out.nth 2 rfl)
  obtain ⟨u_0, u_1, u_2, u_3, u_f0, u_f1, u_f2, u_f3⟩ := cells4 (O8.out.nth 3 rfl)
  have l_u := lt_blk (O8.out.nth 3 rfl)
  obtain ⟨s_0, s_1, s_2, s_3, s_f0, s_f1, s_f2, s_f3⟩ := cells4 (O8.out.nth 4 rfl)
  have l_s := lt_blk (O8.out.nth 4 rfl)
  go_wp2_with fail
  refine ((hR _).out).mono ?_
  rintro e w9 ⟨rfl, hb⟩
  have O9 := Lib.hid ((O8.out.alloc w8.heap.size _ rfl).call hb)
  clear hb O8 q_0 q_1 q_2 q_3 q_f0 q_f1 q_f2 q_f3 l_q p_0 p_1 p_2 p_3 p_f0 p_f1 p_f2 p_f3 l_p d_0 d_1 d_2 d_3 d_f0 d_f1 d_f2 d_f3 l_d u_0 u_1 u_2 u_3 u_f0 u_f1 u_f2 u_f3 l_u s_0 s_1 s_2 s_3 s_f0 s_f1 s_f2 s_f3 l_s
  obtain ⟨n_0, n_1, n_2, n_3, n_f0, n_f1, n_f2, n_f3⟩ := cells4 (O9.out.nth 0 rfl)
  have l_n := lt_blk (O9.out.nth 0 rfl)
  obtain ⟨q_0, q_1, q_2, q_3, q_f0, q_f1, q_f2, q_f3⟩ := cells4 (O9.out.nth 1 rfl)
  have l_q := lt_blk (O9.out.nth 1 rfl)
  obtain ⟨p_0, p_1, p_2, p_3, p_f0, p_f1, p_f2, p_f3⟩ := cells4 (O9.out.nth 2 rfl)
  have l_p := lt_blk (O9.out.nth 2 rfl)
  obtain ⟨d_0, d_1, d_2, d_3, d_f0, d_f1, d_f2, d_f3⟩ := cells4 (O9.out.nth 3 rfl)
  have l_d := lt_blk (O9.out.nth 3 rfl)
  obtain ⟨u_0, u_1, u_2, u_3, u_f0, u_f1, u_f2, u_f3⟩ := cells4 (O9.out.nth 4 rfl)
  have l_u := lt_blk (O9.out.nth 4 rfl)
  obtain ⟨s_0, s_1, s_2, s_3, s_f0, s_f1, s_f2, s_f3⟩ := cells4 (O9.out.nth 5 rfl)
  have l_s := lt_blk (O9.out.nth 5 rfl)
  go_wp2
  go_ret
  exact ⟨rfl, O9.out.below⟩

set_option maxRecDepth 100000 in
set_option maxHeartbeats 12800000 in
theorem changes_d0 (s : St) (r : Bool) (w : World)
    (hT : ∀ W, Hid (Calls Try.prog 20 #[.agg s.cells] W fun e w' => e = .returned (.int .i64 0) ∧ Below W.heap.size W w'))
    (hU : ∀ W, Hid (Calls Try.prog 25 #[.agg s.cells] W fun e w' => e = .returned (.tuple #[.agg (St.cells ⟨1, s.pa, 0, 0⟩), .int .i64 0]) ∧ Below W.heap.size W w'))
    (hD : ∀ W, Hid (Calls Try.prog 26 #[.agg s.cells] W fun e w' => e = .returned (.tuple #[.agg (St.cells ⟨0, 0, 0, 0⟩), .int .i64 4]) ∧ Below W.heap.size W w'))
    (hP : ∀ W, Hid (Calls Try.prog 21 #[.agg s.cells] W fun e w' => e = .returned (.tuple #[.agg (St.cells ⟨s.st, s.pa + 1, s.po, s.un⟩), .int .i64 0]) ∧ Below W.heap.size W w'))
    (hQ : ∀ W, Hid (Calls Try.prog 23 #[.agg s.cells] W fun e w' => e = .returned (triple ⟨0, 0, 0, 0⟩ false 4) ∧ Below W.heap.size W w'))
    (hE : ∀ W, Hid (Calls Try.prog 24 #[.agg s.cells] W fun e w' => e = .returned (.tuple #[.int .i64 s.un, .bool (decide (0 < s.un))]) ∧ Below W.heap.size W w'))
    (hR : ∀ W, Hid (Calls Try.prog 22 #[.agg s.cells] W fun e w' => e = .returned (.bool r) ∧ Below W.heap.size W w'))
    (hG : ∀ W, Hid (Calls Try.prog 13 #[.agg s.cells] W fun e w' => e = .returned (.bool true) ∧ Below W.heap.size W w'))
    (hS : ∀ W, Hid (Calls Try.prog 18 #[.agg s.cells] W fun e w' => e = .returned (.bool r) ∧ Below W.heap.size W w')) (hst : (s.st == 0) = true) (hpa : (s.pa == 0) = true) (h15 : (s.pa == 15) = false) (hl : decide (s.pa < 15) = true) (hp0 : 0 ≤ s.pa) (hp1 : s.pa ≤ 15) :
    Calls Try.prog 8 #[.agg s.cells] w fun e w' => e = .returned (.bool true) ∧ Below w.heap.size w w' := by
  obtain ⟨st, pa, po, un⟩ := s
  have O := Lib.hid (Own.start w)
  go_enter Try.func8, Try.ntmps8
  go_wp2_with fail
  refine (wakes_ _).mono ?_
  rintro e w1 ⟨rfl, hb⟩
  have O1 := Lib.hid ((O.out.alloc w.heap.size _ rfl).call hb)
  clear hb O 
  obtain ⟨s_0, s_1, s_2, s_3, s_f0, s_f1, s_f2, s_f3⟩ := cells4 (O1.out.nth 0 rfl)
  have l_s := lt_blk (O1.out.nth 0 rfl)
  go_wp2_with fail
  refine ((hT _).out).mono ?_
  rintro e w2 ⟨rfl, hb⟩
  have O2 := Lib.hid (O1.out.call hb)
  clear hb O1 s_0 s_1 s_2 s_3 s_f0 s_f1 s_f2 s_f3 l_s
  obtain ⟨s_0, s_1, s_2, s_3, s_f0, s_f1, s_f2, s_f3⟩ := cells4 (O2.out.nth 0 rfl)
  have l_s := lt_blk (O2.out.nth 0 rfl)
  go_wp2_with fail
  refine ((hU _).out).mono ?_
  rintro e w3 ⟨rfl, hb⟩
  have O3 := Lib.hid (O2.out.call hb)
  clear hb O2 s_0 s_1 s_2 s_3 s_f0 s_f1 s_f2 s_f3 l_s
  obtain ⟨s_0, s_1, s_2, s_3, s_f0, s_f1, s_f2, s_f3⟩ := cells4 (O3.out.nth 0 rfl)
  have l_s := lt_blk (O3.out.nth 0 rfl)
  go_wp2_with fail
  refine ((hD _).out).mono ?_
  rintro e w4 ⟨rfl, hb⟩
  have O4 := Lib.hid ((O3.out.alloc w3.heap.size _ rfl).call hb)
  clear hb O3 s_0 s_1 s_2 s_3 s_f0 s_f1 s_f2 s_f3 l_s
  obtain ⟨u_0, u_1, u_2, u_3, u_f0, u_f1, u_f2, u_f3⟩ := cells4 (O4.out.nth 0 rfl)
  have l_u := lt_blk (O4.out.nth 0 rfl)
  obtain ⟨s_0, s_1, s_2, s_3, s_f0, s_f1, s_f2, s_f3⟩ := cells4 (O4.out.nth 1 rfl)
  have l_s := lt_blk (O4.out.nth 1 rfl)
  go_wp2_with fail
  refine ((hP _).out).mono ?_
  rintro e w5 ⟨rfl, hb⟩
  have O5 := Lib.hid ((O4.out.alloc w4.heap.size _ rfl).call hb)
  clear hb O4 u_0 u_1 u_2 u_3 u_f0 u_f1 u_f2 u_f3 l_u s_0 s_1 s_2 s_3 s_f0 s_f1 s_f2 s_f3 l_s
  obtain ⟨d_0, d_1, d_2, d_3, d_f0, d_f1, d_f2, d_f3⟩ := cells4 (O5.out.nth 0 rfl)
  have l_d := lt_blk (O5.out.nth 0 rfl)
  obtain ⟨u_0, u_1, u_2, u_3, u_f0, u_f1, u_f2, u_f3⟩ := cells4 (O5.out.nth 1 rfl)
  have l_u := lt_blk (O5.out.nth 1 rfl)
  obtain ⟨s_0, s_1, s_2, s_3, s_f0, s_f1, s_f2, s_f3⟩ := cells4 (O5.out.nth 2 rfl)
  have l_s := lt_blk (O5.out.nth 2 rfl)
  go_wp2_with fail
  refine ((hQ _).out).mono ?_
  rintro e w6 ⟨rfl, hb⟩
  have O6 := Lib.hid ((O5.out.alloc w5.heap.size _ rfl).call hb)
  clear hb O5 d_0 d_1 d_2 d_3 d_f0 d_f1 d_f2 d_f3 l_d u_0 u_1 u_2 u_3 u_f0 u_f1 u_f2 u_f3 l_u s_0 s_1 s_2 s_3 s_f0 s_f1 s_f2 s_f3 l_s
  obtain ⟨p_0, p_1, p_2, p_3, p_f0, p_f1, p_f2, p_f3⟩ := cells4 (O6.out.nth 0 rfl)
  have l_p := lt_blk (O6.out.nth 0 rfl)
  obtain ⟨d_0, d_1, d_2, d_3, d_f0, d_f1, d_f2, d_f3⟩ := cells4 (O6.out.nth 1 rfl)
  have l_d := lt_blk (O6.out.nth 1 rfl)
  obtain ⟨u_0, u_1, u_2, u_3, u_f0, u_f1, u_f2, u_f3⟩ := cells4 (O6.out.nth 2 rfl)
  have l_u := lt_blk (O6.out.nth 2 rfl)
  obtain ⟨s_0, s_1, s_2, s_3, s_f0, s_f1, s_f2, s_f3⟩ := cells4 (O6.out.nth 3 rfl)
  have l_s := lt_blk (O6.out.nth 3 rfl)
  go_wp2_with fail
  refine ((hE _).out).mono ?_
  rintro e w7 ⟨rfl, hb⟩
  have O7 := Lib.hid ((O6.out.alloc w6.heap.size _ rfl).call hb)
  clear hb O6 p_0 p_1 p_2 p_3 p_f0 p_f1 p_f2 p_f3 l_p d_0 d_1 d_2 d_3 d_f0 d_f1 d_f2 d_f3 l_d u_0 u_1 u_2 u_3 u_f0 u_f1 u_f2 u_f3 l_u s_0 s_1 s_2 s_3 s_f0 s_f1 s_f2 s_f3 l_s
  obtain ⟨q_0, q_1, q_2, q_3, q_f0, q_f1, q_f2, q_f3⟩ := cells4 (O7.out.nth 0 rfl)
  have l_q := lt_blk (O7.out.nth 0 rfl)
  obtain ⟨p_0, p_1, p_2, p_3, p_f0, p_f1, p_f2, p_f3⟩ := cells4 (O7.out.nth 1 rfl)
  have l_p := lt_blk (O7.out.nth 1 rfl)
  obtain ⟨d_0, d_1, d_2, d_3, d_f0, d_f1, d_f2, d_f3⟩ := cells4 (O7.out.nth 2 rfl)
  have l_d := lt_blk (O7.out.nth 2 rfl)
  obtain ⟨u_0, u_1, u_2, u_3, u_f0, u_f1, u_f2, u_f3⟩ := cells4 (O7.out.nth 3 rfl)
  have l_u := lt_blk (O7.out.nth 3 rfl)
  obtain ⟨s_0, s_1, s_2, s_3, s_f0, s_f1, s_f2, s_f3⟩ := cells4 (O7.out.nth 4 rfl)
  have l_s := lt_blk (O7.out.nth 4 rfl)
  go_wp2_with fail
  refine ((hG _).out).mono ?_
  rintro e w8 ⟨rfl, hb⟩
  have O8 := Lib.hid (O7.out.call hb)
  clear hb O7 q_0 q_1 q_2 q_3 q_f0 q_f1 q_f2 q_f3 l_q p_0 p_1 p_2 p_3 p_f0 p_f1 p_f2 p_f3 l_p d_0 d_1 d_2 d_3 d_f0 d_f1 d_f2 d_f3 l_d u_0 u_1 u_2 u_3 u_f0 u_f1 u_f2 u_f3 l_u s_0 s_1 s_2 s_3 s_f0 s_f1 s_f2 s_f3 l_s
  obtain ⟨q_0, q_1, q_2, q_3, q_f0, q_f1, q_f2, q_f3⟩ := cells4 (O8.out.nth 0 rfl)
  have l_q := lt_blk (O8.out.nth 0 rfl)
  obtain ⟨p_0, p_1, p_2, p_3, p_f0, p_f1, p_f2, p_f3⟩ := cells4 (O8.out.nth 1 rfl)
  have l_p := lt_blk (O8.out.nth 1 rfl)
  obtain ⟨d_0, d_1, d_2, d_3, d_f0, d_f1, d_f2, d_f3⟩ := cells4 (O8.out.nth 2 rfl)
  have l_d := lt_blk (O8.out.nth 2 rfl)
  obtain ⟨u_0, u_1, u_2, u_3, u_f0, u_f1, u_f2, u_f3⟩ := cells4 (O8.out.nth 3 rfl)
  have l_u := lt_blk (O8.out.nth 3 rfl)
  obtain ⟨s_0, s_1, s_2, s_3, s_f0, s_f1, s_f2, s_f3⟩ := cells4 (O8.out.nth 4 rfl)
  have l_s := lt_blk (O8.out.nth 4 rfl)
  go_wp2_with fail
  go_region_held3 (fun W => W.cell? ⟨w.heap.size, 0, none⟩ = some (.int .i64 st) ∧ W.cell? ⟨w.heap.size, 1, none⟩ = some (.int .i64 pa) ∧ W.cell? ⟨w.heap.size, 2, none⟩ = some (.int .u32 po) ∧ W.cell? ⟨w.heap.size, 3, none⟩ = some (.int .i64 un)) (first | exact ⟨s_0, s_1, s_2, s_3⟩ | go_keep) (first | (go_at_call 22; refine ((hR _).out).mono ?_; rintro e w9 ⟨rfl, hb⟩; (first | (replace O8 := Lib.hid (O8.out.drew.call hb)) | (replace O8 := Lib.hid (O8.out.call hb))); clear hb; obtain ⟨s_0, s_1, s_2, s_3, _, _, _, _⟩ := cells4 (O8.out.nth 4 rfl)) | (go_at_call 18; refine ((hS _).out).mono ?_; rintro e w9 ⟨rfl, hb⟩; (first | (replace O8 := Lib.hid (O8.out.drew.call hb)) | (replace O8 := Lib.hid (O8.out.call hb))); clear hb; obtain ⟨s_0, s_1, s_2, s_3, _, _, _, _⟩ := cells4 (O8.out.nth 4 rfl)))
  obtain ⟨u_0, u_1, u_2, u_3, _, _, _, _⟩ := cells4 (O8.out.nth 3 rfl)
  have l_u := lt_blk (O8.out.nth 3 rfl)
  obtain ⟨d_0, d_1, d_2, d_3, _, _, _, _⟩ := cells4 (O8.out.nth 2 rfl)
  have l_d := lt_blk (O8.out.nth 2 rfl)
  obtain ⟨p_0, p_1, p_2, p_3, _, _, _, _⟩ := cells4 (O8.out.nth 1 rfl)
  have l_p := lt_blk (O8.out.nth 1 rfl)
  obtain ⟨q_0, q_1, q_2, q_3, _, _, _, _⟩ := cells4 (O8.out.nth 0 rfl)
  have l_q := lt_blk (O8.out.nth 0 rfl)
  have l_s := lt_blk (O8.out.nth 4 rfl)
  go_wp2_with fail
  go_region_held3 (fun W => W.cell? ⟨w.heap.size, 0, none⟩ = some (.int .i64 st) ∧ W.cell? ⟨w.heap.size, 1, none⟩ = some (.int .i64 pa) ∧ W.cell? ⟨w.heap.size, 2, none⟩ = some (.int .u32 po) ∧ W.cell? ⟨w.heap.size, 3, none⟩ = some (.int .i64 un) ∧ W.cell? ⟨w3.heap.size, 0, none⟩ = some (.int .i64 1) ∧ W.cell? ⟨w3.heap.size, 1, none⟩ = some (.int .i64 pa) ∧ W.cell? ⟨w3.heap.size, 2, none⟩ = some (.int .u32 0) ∧ W.cell? ⟨w3.heap.size, 3, none⟩ = some (.int .i64 0) ∧ W.cell? ⟨w4.heap.size, 0, none⟩ = some (.int .i64 0) ∧ W.cell? ⟨w4.heap.size, 1, none⟩ = some (.int .i64 0) ∧ W.cell? ⟨w4.heap.size, 2, none⟩ = some (.int .u32 0) ∧ W.cell? ⟨w4.heap.size, 3, none⟩ = some (.int .i64 0)) (first | exact ⟨s_0, s_1, s_2, s_3, u_0, u_1, u_2, u_3, d_0, d_1, d_2, d_3⟩ | go_keep) (first | (go_at_call 19; refine (ready_ _ _ _ _ _ _).mono ?_; rintro e w10 ⟨rfl, hb⟩; (first | (replace O8 := Lib.hid (O8.out.drew.call hb)) | (replace O8 := Lib.hid (O8.out.call hb))); clear hb; obtain ⟨s_0, s_1, s_2, s_3, _, _, _, _⟩ := cells4 (O8.out.nth 4 rfl); obtain ⟨u_0, u_1, u_2, u_3, _, _, _, _⟩ := cells4 (O8.out.nth 3 rfl); obtain ⟨d_0, d_1, d_2, d_3, _, _, _, _⟩ := cells4 (O8.out.nth 2 rfl)))
  obtain ⟨p_0, p_1, p_2, p_3, _, _, _, _⟩ := cells4 (O8.out.nth 1 rfl)
  obtain ⟨q_0, q_1, q_2, q_3, _, _, _, _⟩ := cells4 (O8.out.nth 0 rfl)
  have l_u := lt_blk (O8.out.nth 3 rfl)
  have l_d := lt_blk (O8.out.nth 2 rfl)
  have l_p := lt_blk (O8.out.nth 1 rfl)
  have l_q := lt_blk (O8.out.nth 0 rfl)
  have l_s := lt_blk (O8.out.nth 4 rfl)
  go_wp2_with fail
  go_region
  all_goals
    go_wp2
    go_ret
    exact ⟨rfl, by repeat (first | exact O8.out.below | apply below_al | apply Below.drew)⟩

set_option maxRecDepth 100000 in
set_option maxHeartbeats 12800000 in
theorem changes_d7 (s : St) (r : Bool) (w : World)
    (hT : ∀ W, Hid (Calls Try.prog 20 #[.agg s.cells] W fun e w' => e = .returned (.int .i64 0) ∧ Below W.heap.size W w'))
    (hU : ∀ W, Hid (Calls Try.prog 25 #[.agg s.cells] W fun e w' => e = .returned (.tuple #[.agg (St.cells ⟨1, s.pa, 0, 0⟩), .int .i64 0]) ∧ Below W.heap.size W w'))
    (hD : ∀ W, Hid (Calls Try.prog 26 #[.agg s.cells] W fun e w' => e = .returned (.tuple #[.agg (St.cells ⟨0, 0, 0, 0⟩), .int .i64 4]) ∧ Below W.heap.size W w'))
    (hP : ∀ W, Hid (Calls Try.prog 21 #[.agg s.cells] W fun e w' => e = .returned (.tuple #[.agg (St.cells ⟨s.st, s.pa + 1, s.po, s.un⟩), .int .i64 0]) ∧ Below W.heap.size W w'))
    (hQ : ∀ W, Hid (Calls Try.prog 23 #[.agg s.cells] W fun e w' => e = .returned (triple ⟨s.st, s.pa - 1, s.po, s.un⟩ (s.st == 1 && s.pa - 1 == 0) 0) ∧ Below W.heap.size W w'))
    (hE : ∀ W, Hid (Calls Try.prog 24 #[.agg s.cells] W fun e w' => e = .returned (.tuple #[.int .i64 s.un, .bool (decide (0 < s.un))]) ∧ Below W.heap.size W w'))
    (hR : ∀ W, Hid (Calls Try.prog 22 #[.agg s.cells] W fun e w' => e = .returned (.bool r) ∧ Below W.heap.size W w'))
    (hG : ∀ W, Hid (Calls Try.prog 13 #[.agg s.cells] W fun e w' => e = .returned (.bool true) ∧ Below W.heap.size W w'))
    (hS : ∀ W, Hid (Calls Try.prog 18 #[.agg s.cells] W fun e w' => e = .returned (.bool r) ∧ Below W.heap.size W w')) (hst : (s.st == 0) = true) (hpa : (s.pa == 0) = false) (h15 : (s.pa == 15) = false) (hl : decide (s.pa < 15) = true) (hp0 : 0 ≤ s.pa) (hp1 : s.pa ≤ 15) :
    Calls Try.prog 8 #[.agg s.cells] w fun e w' => e = .returned (.bool true) ∧ Below w.heap.size w w' := by
  obtain ⟨st, pa, po, un⟩ := s
  have O := Lib.hid (Own.start w)
  go_enter Try.func8, Try.ntmps8
  go_wp2_with fail
  refine (wakes_ _).mono ?_
  rintro e w1 ⟨rfl, hb⟩
  have O1 := Lib.hid ((O.out.alloc w.heap.size _ rfl).call hb)
  clear hb O 
  obtain ⟨s_0, s_1, s_2, s_3, s_f0, s_f1, s_f2, s_f3⟩ := cells4 (O1.out.nth 0 rfl)
  have l_s := lt_blk (O1.out.nth 0 rfl)
  go_wp2_with fail
  refine ((hT _).out).mono ?_
  rintro e w2 ⟨rfl, hb⟩
  have O2 := Lib.hid (O1.out.call hb)
  clear hb O1 s_0 s_1 s_2 s_3 s_f0 s_f1 s_f2 s_f3 l_s
  obtain ⟨s_0, s_1, s_2, s_3, s_f0, s_f1, s_f2, s_f3⟩ := cells4 (O2.out.nth 0 rfl)
  have l_s := lt_blk (O2.out.nth 0 rfl)
  go_wp2_with fail
  refine ((hU _).out).mono ?_
  rintro e w3 ⟨rfl, hb⟩
  have O3 := Lib.hid (O2.out.call hb)
  clear hb O2 s_0 s_1 s_2 s_3 s_f0 s_f1 s_f2 s_f3 l_s
  obtain ⟨s_0, s_1, s_2, s_3, s_f0, s_f1, s_f2, s_f3⟩ := cells4 (O3.out.nth 0 rfl)
  have l_s := lt_blk (O3.out.nth 0 rfl)
  go_wp2_with fail
  refine ((hD _).out).mono ?_
  rintro e w4 ⟨rfl, hb⟩
  have O4 := Lib.hid ((O3.out.alloc w3.heap.size _ rfl).call hb)
  clear hb O3 s_0 s_1 s_2 s_3 s_f0 s_f1 s_f2 s_f3 l_s
  obtain ⟨u_0, u_1, u_2, u_3, u_f0, u_f1, u_f2, u_f3⟩ := cells4 (O4.out.nth 0 rfl)
  have l_u := lt_blk (O4.out.nth 0 rfl)
  obtain ⟨s_0, s_1, s_2, s_3, s_f0, s_f1, s_f2, s_f3⟩ := cells4 (O4.out.nth 1 rfl)
  have l_s := lt_blk (O4.out.nth 1 rfl)
  go_wp2_with fail
  refine ((hP _).out).mono ?_
  rintro e w5 ⟨rfl, hb⟩
  have O5 := Lib.hid ((O4.out.alloc w4.heap.size _ rfl).call hb)
  clear hb O4 u_0 u_1 u_2 u_3 u_f0 u_f1 u_f2 u_f3 l_u s_0 s_1 s_2 s_3 s_f0 s_f1 s_f2 s_f3 l_s
  obtain ⟨d_0, d_1, d_2, d_3, d_f0, d_f1, d_f2, d_f3⟩ := cells4 (O5.out.nth 0 rfl)
  have l_d := lt_blk (O5.out.nth 0 rfl)
  obtain ⟨u_0, u_1, u_2, u_3, u_f0, u_f1, u_f2, u_f3⟩ := cells4 (O5.out.nth 1 rfl)
  have l_u := lt_blk (O5.out.nth 1 rfl)
  obtain ⟨s_0, s_1, s_2, s_3, s_f0, s_f1, s_f2, s_f3⟩ := cells4 (O5.out.nth 2 rfl)
  have l_s := lt_blk (O5.out.nth 2 rfl)
  go_wp2_with fail
  refine ((hQ _).out).mono ?_
  rintro e w6 ⟨rfl, hb⟩
  have O6 := Lib.hid ((O5.out.alloc w5.heap.size _ rfl).call hb)
  clear hb O5 d_0 d_1 d_2 d_3 d_f0 d_f1 d_f2 d_f3 l_d u_0 u_1 u_2 u_3 u_f0 u_f1 u_f2 u_f3 l_u s_0 s_1 s_2 s_3 s_f0 s_f1 s_f2 s_f3 l_s
  obtain ⟨p_0, p_1, p_2, p_3, p_f0, p_f1, p_f2, p_f3⟩ := cells4 (O6.out.nth 0 rfl)
  have l_p := lt_blk (O6.out.nth 0 rfl)
  obtain ⟨d_0, d_1, d_2, d_3, d_f0, d_f1, d_f2, d_f3⟩ := cells4 (O6.out.nth 1 rfl)
  have l_d := lt_blk (O6.out.nth 1 rfl)
  obtain ⟨u_0, u_1, u_2, u_3, u_f0, u_f1, u_f2, u_f3⟩ := cells4 (O6.out.nth 2 rfl)
  have l_u := lt_blk (O6.out.nth 2 rfl)
  obtain ⟨s_0, s_1, s_2, s_3, s_f0, s_f1, s_f2, s_f3⟩ := cells4 (O6.out.nth 3 rfl)
  have l_s := lt_blk (O6.out.nth 3 rfl)
  go_wp2_with fail
  refine ((hE _).out).mono ?_
  rintro e w7 ⟨rfl, hb⟩
  have O7 := Lib.hid ((O6.out.alloc w6.heap.size _ rfl).call hb)
  clear hb O6 p_0 p_1 p_2 p_3 p_f0 p_f1 p_f2 p_f3 l_p d_0 d_1 d_2 d_3 d_f0 d_f1 d_f2 d_f3 l_d u_0 u_1 u_2 u_3 u_f0 u_f1 u_f2 u_f3 l_u s_0 s_1 s_2 s_3 s_f0 s_f1 s_f2 s_f3 l_s
  obtain ⟨q_0, q_1, q_2, q_3, q_f0, q_f1, q_f2, q_f3⟩ := cells4 (O7.out.nth 0 rfl)
  have l_q := lt_blk (O7.out.nth 0 rfl)
  obtain ⟨p_0, p_1, p_2, p_3, p_f0, p_f1, p_f2, p_f3⟩ := cells4 (O7.out.nth 1 rfl)
  have l_p := lt_blk (O7.out.nth 1 rfl)
  obtain ⟨d_0, d_1, d_2, d_3, d_f0, d_f1, d_f2, d_f3⟩ := cells4 (O7.out.nth 2 rfl)
  have l_d := lt_blk (O7.out.nth 2 rfl)
  obtain ⟨u_0, u_1, u_2, u_3, u_f0, u_f1, u_f2, u_f3⟩ := cells4 (O7.out.nth 3 rfl)
  have l_u := lt_blk (O7.out.nth 3 rfl)
  obtain ⟨s_0, s_1, s_2, s_3, s_f0, s_f1, s_f2, s_f3⟩ := cells4 (O7.out.nth 4 rfl)
  have l_s := lt_blk (O7.out.nth 4 rfl)
  go_wp2_with fail
  refine ((hG _).out).mono ?_
  rintro e w8 ⟨rfl, hb⟩
  have O8 := Lib.hid (O7.out.call hb)
  clear hb O7 q_0 q_1 q_2 q_3 q_f0 q_f1 q_f2 q_f3 l_q p_0 p_1 p_2 p_3 p_f0 p_f1 p_f2 p_f3 l_p d_0 d_1 d_2 d_3 d_f0 d_f1 d_f2 d_f3 l_d u_0 u_1 u_2 u_3 u_f0 u_f1 u_f2 u_f3 l_u s_0 s_1 s_2 s_3 s_f0 s_f1 s_f2 s_f3 l_s
  obtain ⟨q_0, q_1, q_2, q_3, q_f0, q_f1, q_f2, q_f3⟩ := cells4 (O8.out.nth 0 rfl)
  have l_q := lt_blk (O8.out.nth 0 rfl)
  obtain ⟨p_0, p_1, p_2, p_3, p_f0, p_f1, p_f2, p_f3⟩ := cells4 (O8.out.nth 1 rfl)
  have l_p := lt_blk (O8.out.nth 1 rfl)
  obtain ⟨d_0, d_1, d_2, d_3, d_f0, d_f1, d_f2, d_f3⟩ := cells4 (O8.out.nth 2 rfl)
  have l_d := lt_blk (O8.out.nth 2 rfl)
  obtain ⟨u_0, u_1, u_2, u_3, u_f0, u_f1, u_f2, u_f3⟩ := cells4 (O8.out.nth 3 rfl)
  have l_u := lt_blk (O8.out.nth 3 rfl)
  obtain ⟨s_0, s_1, s_2, s_3, s_f0, s_f1, s_f2, s_f3⟩ := cells4 (O8.out.nth 4 rfl)
  have l_s := lt_blk (O8.out.nth 4 rfl)
  go_wp2_with fail
  go_region_held3 (fun W => W.cell? ⟨w.heap.size, 0, none⟩ = some (.int .i64 st) ∧ W.cell? ⟨w.heap.size, 1, none⟩ = some (.int .i64 pa) ∧ W.cell? ⟨w.heap.size, 2, none⟩ = some (.int .u32 po) ∧ W.cell? ⟨w.heap.size, 3, none⟩ = some (.int .i64 un)) (first | exact ⟨s_0, s_1, s_2, s_3⟩ | go_keep) (first | (go_at_call 22; refine ((hR _).out).mono ?_; rintro e w9 ⟨rfl, hb⟩; (first | (replace O8 := Lib.hid (O8.out.drew.call hb)) | (replace O8 := Lib.hid (O8.out.call hb))); clear hb; obtain ⟨s_0, s_1, s_2, s_3, _, _, _, _⟩ := cells4 (O8.out.nth 4 rfl)) | (go_at_call 18; refine ((hS _).out).mono ?_; rintro e w9 ⟨rfl, hb⟩; (first | (replace O8 := Lib.hid (O8.out.drew.call hb)) | (replace O8 := Lib.hid (O8.out.call hb))); clear hb; obtain ⟨s_0, s_1, s_2, s_3, _, _, _, _⟩ := cells4 (O8.out.nth 4 rfl)))
  obtain ⟨u_0, u_1, u_2, u_3, _, _, _, _⟩ := cells4 (O8.out.nth 3 rfl)
  have l_u := lt_blk (O8.out.nth 3 rfl)
  obtain ⟨d_0, d_1, d_2, d_3, _, _, _, _⟩ := cells4 (O8.out.nth 2 rfl)
  have l_d := lt_blk (O8.out.nth 2 rfl)
  obtain ⟨p_0, p_1, p_2, p_3, _, _, _, _⟩ := cells4 (O8.out.nth 1 rfl)
  have l_p := lt_blk (O8.out.nth 1 rfl)
  obtain ⟨q_0, q_1, q_2, q_3, _, _, _, _⟩ := cells4 (O8.out.nth 0 rfl)
  have l_q := lt_blk (O8.out.nth 0 rfl)
  have l_s := lt_blk (O8.out.nth 4 rfl)
  go_wp2_with fail
  go_region_held3 (fun W => W.cell? ⟨w.heap.size, 0, none⟩ = some (.int .i64 st) ∧ W.cell? ⟨w.heap.size, 1, none⟩ = some (.int .i64 pa) ∧ W.cell? ⟨w.heap.size, 2, none⟩ = some (.int .u32 po) ∧ W.cell? ⟨w.heap.size, 3, none⟩ = some (.int .i64 un) ∧ W.cell? ⟨w3.heap.size, 0, none⟩ = some (.int .i64 1) ∧ W.cell? ⟨w3.heap.size, 1, none⟩ = some (.int .i64 pa) ∧ W.cell? ⟨w3.heap.size, 2, none⟩ = some (.int .u32 0) ∧ W.cell? ⟨w3.heap.size, 3, none⟩ = some (.int .i64 0) ∧ W.cell? ⟨w4.heap.size, 0, none⟩ = some (.int .i64 0) ∧ W.cell? ⟨w4.heap.size, 1, none⟩ = some (.int .i64 0) ∧ W.cell? ⟨w4.heap.size, 2, none⟩ = some (.int .u32 0) ∧ W.cell? ⟨w4.heap.size, 3, none⟩ = some (.int .i64 0)) (first | exact ⟨s_0, s_1, s_2, s_3, u_0, u_1, u_2, u_3, d_0, d_1, d_2, d_3⟩ | go_keep) (first | (go_at_call 19; refine (ready_ _ _ _ _ _ _).mono ?_; rintro e w10 ⟨rfl, hb⟩; (first | (replace O8 := Lib.hid (O8.out.drew.call hb)) | (replace O8 := Lib.hid (O8.out.call hb))); clear hb; obtain ⟨s_0, s_1, s_2, s_3, _, _, _, _⟩ := cells4 (O8.out.nth 4 rfl); obtain ⟨u_0, u_1, u_2, u_3, _, _, _, _⟩ := cells4 (O8.out.nth 3 rfl); obtain ⟨d_0, d_1, d_2, d_3, _, _, _, _⟩ := cells4 (O8.out.nth 2 rfl)))
  obtain ⟨p_0, p_1, p_2, p_3, _, _, _, _⟩ := cells4 (O8.out.nth 1 rfl)
  obtain ⟨q_0, q_1, q_2, q_3, _, _, _, _⟩ := cells4 (O8.out.nth 0 rfl)
  have l_u := lt_blk (O8.out.nth 3 rfl)
  have l_d := lt_blk (O8.out.nth 2 rfl)
  have l_p := lt_blk (O8.out.nth 1 rfl)
  have l_q := lt_blk (O8.out.nth 0 rfl)
  have l_s := lt_blk (O8.out.nth 4 rfl)
  go_wp2_with fail
  go_region
  all_goals
    go_wp2_with fail
    refine (rruns_ _ _ _ _ _).mono ?_
    rintro e w11 ⟨rfl, hb⟩
    have HB := Lib.hid (low_2 (show Below w.heap.size w _ by repeat (first | exact O8.out.below | apply below_al | apply Below.drew)) hb)
    clear hb
    go_wp2
    go_ret
    exact ⟨rfl, HB.out⟩

set_option maxRecDepth 100000 in
set_option maxHeartbeats 12800000 in
theorem changes_d15 (s : St) (r : Bool) (w : World)
    (hT : ∀ W, Hid (Calls Try.prog 20 #[.agg s.cells] W fun e w' => e = .returned (.int .i64 0) ∧ Below W.heap.size W w'))
    (hU : ∀ W, Hid (Calls Try.prog 25 #[.agg s.cells] W fun e w' => e = .returned (.tuple #[.agg (St.cells ⟨1, s.pa, 0, 0⟩), .int .i64 0]) ∧ Below W.heap.size W w'))
    (hD : ∀ W, Hid (Calls Try.prog 26 #[.agg s.cells] W fun e w' => e = .returned (.tuple #[.agg (St.cells ⟨0, 0, 0, 0⟩), .int .i64 4]) ∧ Below W.heap.size W w'))
    (hP : ∀ W, Hid (Calls Try.prog 21 #[.agg s.cells] W fun e w' => e = .returned (.tuple #[.agg (St.cells ⟨0, 0, 0, 0⟩), .int .i64 6]) ∧ Below W.heap.size W w'))
    (hQ : ∀ W, Hid (Calls Try.prog 23 #[.agg s.cells] W fun e w' => e = .returned (triple ⟨s.st, s.pa - 1, s.po, s.un⟩ (s.st == 1 && s.pa - 1 == 0) 0) ∧ Below W.heap.size W w'))
    (hE : ∀ W, Hid (Calls Try.prog 24 #[.agg s.cells] W fun e w' => e = .returned (.tuple #[.int .i64 s.un, .bool (decide (0 < s.un))]) ∧ Below W.heap.size W w'))
    (hR : ∀ W, Hid (Calls Try.prog 22 #[.agg s.cells] W fun e w' => e = .returned (.bool r) ∧ Below W.heap.size W w'))
    (hG : ∀ W, Hid (Calls Try.prog 13 #[.agg s.cells] W fun e w' => e = .returned (.bool true) ∧ Below W.heap.size W w'))
    (hS : ∀ W, Hid (Calls Try.prog 18 #[.agg s.cells] W fun e w' => e = .returned (.bool r) ∧ Below W.heap.size W w')) (hst : (s.st == 0) = true) (hpa : (s.pa == 0) = false) (h15 : (s.pa == 15) = true) (hl : decide (s.pa < 15) = false) (hp0 : 0 ≤ s.pa) (hp1 : s.pa ≤ 15) :
    Calls Try.prog 8 #[.agg s.cells] w fun e w' => e = .returned (.bool true) ∧ Below w.heap.size w w' := by
  obtain ⟨st, pa, po, un⟩ := s
  have O := Lib.hid (Own.start w)
  go_enter Try.func8, Try.ntmps8
  go_wp2_with fail
  refine (wakes_ _).mono ?_
  rintro e w1 ⟨rfl, hb⟩
  have O1 := Lib.hid ((O.out.alloc w.heap.size _ rfl).call hb)
  clear hb O 
  obtain ⟨s_0, s_1, s_2, s_3, s_f0, s_f1, s_f2, s_f3⟩ := cells4 (O1.out.nth 0 rfl)
  have l_s := lt_blk (O1.out.nth 0 rfl)
  go_wp2_with fail
  refine ((hT _).out).mono ?_
  rintro e w2 ⟨rfl, hb⟩
  have O2 := Lib.hid (O1.out.call hb)
  clear hb O1 s_0 s_1 s_2 s_3 s_f0 s_f1 s_f2 s_f3 l_s
  obtain ⟨s_0, s_1, s_2, s_3, s_f0, s_f1, s_f2, s_f3⟩ := cells4 (O2.out.nth 0 rfl)
  have l_s := lt_blk (O2.out.nth 0 rfl)
  go_wp2_with fail
  refine ((hU _).out).mono ?_
  rintro e w3 ⟨rfl, hb⟩
  have O3 := Lib.hid (O2.out.call hb)
  clear hb O2 s_0 s_1 s_2 s_3 s_f0 s_f1 s_f2 s_f3 l_s
  obtain ⟨s_0, s_1, s_2, s_3, s_f0, s_f1, s_f2, s_f3⟩ := cells4 (O3.out.nth 0 rfl)
  have l_s := lt_blk (O3.out.nth 0 rfl)
  go_wp2_with fail
  refine ((hD _).out).mono ?_
  rintro e w4 ⟨rfl, hb⟩
  have O4 := Lib.hid ((O3.out.alloc w3.heap.size _ rfl).call hb)
  clear hb O3 s_0 s_1 s_2 s_3 s_f0 s_f1 s_f2 s_f3 l_s
  obtain ⟨u_0, u_1, u_2, u_3, u_f0, u_f1, u_f2, u_f3⟩ := cells4 (O4.out.nth 0 rfl)
  have l_u := lt_blk (O4.out.nth 0 rfl)
  obtain ⟨s_0, s_1, s_2, s_3, s_f0, s_f1, s_f2, s_f3⟩ := cells4 (O4.out.nth 1 rfl)
  have l_s := lt_blk (O4.out.nth 1 rfl)
  go_wp2_with fail
  refine ((hP _).out).mono ?_
  rintro e w5 ⟨rfl, hb⟩
  have O5 := Lib.hid ((O4.out.alloc w4.heap.size _ rfl).call hb)
  clear hb O4 u_0 u_1 u_2 u_3 u_f0 u_f1 u_f2 u_f3 l_u s_0 s_1 s_2 s_3 s_f0 s_f1 s_f2 s_f3 l_s
  obtain ⟨d_0, d_1, d_2, d_3, d_f0, d_f1, d_f2, d_f3⟩ := cells4 (O5.out.nth 0 rfl)
  have l_d := lt_blk (O5.out.nth 0 rfl)
  obtain ⟨u_0, u_1, u_2, u_3, u_f0, u_f1, u_f2, u_f3⟩ := cells4 (O5.out.nth 1 rfl)
  have l_u := lt_blk (O5.out.nth 1 rfl)
  obtain ⟨s_0, s_1, s_2, s_3, s_f0, s_f1, s_f2, s_f3⟩ := cells4 (O5.out.nth 2 rfl)
  have l_s := lt_blk (O5.out.nth 2 rfl)
  go_wp2_with fail
  refine ((hQ _).out).mono ?_
  rintro e w6 ⟨rfl, hb⟩
  have O6 := Lib.hid ((O5.out.alloc w5.heap.size _ rfl).call hb)
  clear hb O5 d_0 d_1 d_2 d_3 d_f0 d_f1 d_f2 d_f3 l_d u_0 u_1 u_2 u_3 u_f0 u_f1 u_f2 u_f3 l_u s_0 s_1 s_2 s_3 s_f0 s_f1 s_f2 s_f3 l_s
  obtain ⟨p_0, p_1, p_2, p_3, p_f0, p_f1, p_f2, p_f3⟩ := cells4 (O6.out.nth 0 rfl)
  have l_p := lt_blk (O6.out.nth 0 rfl)
  obtain ⟨d_0, d_1, d_2, d_3, d_f0, d_f1, d_f2, d_f3⟩ := cells4 (O6.out.nth 1 rfl)
  have l_d := lt_blk (O6.out.nth 1 rfl)
  obtain ⟨u_0, u_1, u_2, u_3, u_f0, u_f1, u_f2, u_f3⟩ := cells4 (O6.out.nth 2 rfl)
  have l_u := lt_blk (O6.out.nth 2 rfl)
  obtain ⟨s_0, s_1, s_2, s_3, s_f0, s_f1, s_f2, s_f3⟩ := cells4 (O6.out.nth 3 rfl)
  have l_s := lt_blk (O6.out.nth 3 rfl)
  go_wp2_with fail
  refine ((hE _).out).mono ?_
  rintro e w7 ⟨rfl, hb⟩
  have O7 := Lib.hid ((O6.out.alloc w6.heap.size _ rfl).call hb)
  clear hb O6 p_0 p_1 p_2 p_3 p_f0 p_f1 p_f2 p_f3 l_p d_0 d_1 d_2 d_3 d_f0 d_f1 d_f2 d_f3 l_d u_0 u_1 u_2 u_3 u_f0 u_f1 u_f2 u_f3 l_u s_0 s_1 s_2 s_3 s_f0 s_f1 s_f2 s_f3 l_s
  obtain ⟨q_0, q_1, q_2, q_3, q_f0, q_f1, q_f2, q_f3⟩ := cells4 (O7.out.nth 0 rfl)
  have l_q := lt_blk (O7.out.nth 0 rfl)
  obtain ⟨p_0, p_1, p_2, p_3, p_f0, p_f1, p_f2, p_f3⟩ := cells4 (O7.out.nth 1 rfl)
  have l_p := lt_blk (O7.out.nth 1 rfl)
  obtain ⟨d_0, d_1, d_2, d_3, d_f0, d_f1, d_f2, d_f3⟩ := cells4 (O7.out.nth 2 rfl)
  have l_d := lt_blk (O7.out.nth 2 rfl)
  obtain ⟨u_0, u_1, u_2, u_3, u_f0, u_f1, u_f2, u_f3⟩ := cells4 (O7.out.nth 3 rfl)
  have l_u := lt_blk (O7.out.nth 3 rfl)
  obtain ⟨s_0, s_1, s_2, s_3, s_f0, s_f1, s_f2, s_f3⟩ := cells4 (O7.out.nth 4 rfl)
  have l_s := lt_blk (O7.out.nth 4 rfl)
  go_wp2_with fail
  refine ((hG _).out).mono ?_
  rintro e w8 ⟨rfl, hb⟩
  have O8 := Lib.hid (O7.out.call hb)
  clear hb O7 q_0 q_1 q_2 q_3 q_f0 q_f1 q_f2 q_f3 l_q p_0 p_1 p_2 p_3 p_f0 p_f1 p_f2 p_f3 l_p d_0 d_1 d_2 d_3 d_f0 d_f1 d_f2 d_f3 l_d u_0 u_1 u_2 u_3 u_f0 u_f1 u_f2 u_f3 l_u s_0 s_1 s_2 s_3 s_f0 s_f1 s_f2 s_f3 l_s
  obtain ⟨q_0, q_1, q_2, q_3, q_f0, q_f1, q_f2, q_f3⟩ := cells4 (O8.out.nth 0 rfl)
  have l_q := lt_blk (O8.out.nth 0 rfl)
  obtain ⟨p_0, p_1, p_2, p_3, p_f0, p_f1, p_f2, p_f3⟩ := cells4 (O8.out.nth 1 rfl)
  have l_p := lt_blk (O8.out.nth 1 rfl)
  obtain ⟨d_0, d_1, d_2, d_3, d_f0, d_f1, d_f2, d_f3⟩ := cells4 (O8.out.nth 2 rfl)
  have l_d := lt_blk (O8.out.nth 2 rfl)
  obtain ⟨u_0, u_1, u_2, u_3, u_f0, u_f1, u_f2, u_f3⟩ := cells4 (O8.out.nth 3 rfl)
  have l_u := lt_blk (O8.out.nth 3 rfl)
  obtain ⟨s_0, s_1, s_2, s_3, s_f0, s_f1, s_f2, s_f3⟩ := cells4 (O8.out.nth 4 rfl)
  have l_s := lt_blk (O8.out.nth 4 rfl)
  go_wp2_with fail
  go_region_held3 (fun W => W.cell? ⟨w.heap.size, 0, none⟩ = some (.int .i64 st) ∧ W.cell? ⟨w.heap.size, 1, none⟩ = some (.int .i64 pa) ∧ W.cell? ⟨w.heap.size, 2, none⟩ = some (.int .u32 po) ∧ W.cell? ⟨w.heap.size, 3, none⟩ = some (.int .i64 un)) (first | exact ⟨s_0, s_1, s_2, s_3⟩ | go_keep) (first | (go_at_call 22; refine ((hR _).out).mono ?_; rintro e w9 ⟨rfl, hb⟩; (first | (replace O8 := Lib.hid (O8.out.drew.call hb)) | (replace O8 := Lib.hid (O8.out.call hb))); clear hb; obtain ⟨s_0, s_1, s_2, s_3, _, _, _, _⟩ := cells4 (O8.out.nth 4 rfl)) | (go_at_call 18; refine ((hS _).out).mono ?_; rintro e w9 ⟨rfl, hb⟩; (first | (replace O8 := Lib.hid (O8.out.drew.call hb)) | (replace O8 := Lib.hid (O8.out.call hb))); clear hb; obtain ⟨s_0, s_1, s_2, s_3, _, _, _, _⟩ := cells4 (O8.out.nth 4 rfl)))
  obtain ⟨u_0, u_1, u_2, u_3, _, _, _, _⟩ := cells4 (O8.out.nth 3 rfl)
  have l_u := lt_blk (O8.out.nth 3 rfl)
  obtain ⟨d_0, d_1, d_2, d_3, _, _, _, _⟩ := cells4 (O8.out.nth 2 rfl)
  have l_d := lt_blk (O8.out.nth 2 rfl)
  obtain ⟨p_0, p_1, p_2, p_3, _, _, _, _⟩ := cells4 (O8.out.nth 1 rfl)
  have l_p := lt_blk (O8.out.nth 1 rfl)
  obtain ⟨q_0, q_1, q_2, q_3, _, _, _, _⟩ := cells4 (O8.out.nth 0 rfl)
  have l_q := lt_blk (O8.out.nth 0 rfl)
  have l_s := lt_blk (O8.out.nth 4 rfl)
  go_wp2_with fail
  go_region_held3 (fun W => W.cell? ⟨w.heap.size, 0, none⟩ = some (.int .i64 st) ∧ W.cell? ⟨w.heap.size, 1, none⟩ = some (.int .i64 pa) ∧ W.cell? ⟨w.heap.size, 2, none⟩ = some (.int .u32 po) ∧ W.cell? ⟨w.heap.size, 3, none⟩ = some (.int .i64 un) ∧ W.cell? ⟨w3.heap.size, 0, none⟩ = some (.int .i64 1) ∧ W.cell? ⟨w3.heap.size, 1, none⟩ = some (.int .i64 pa) ∧ W.cell? ⟨w3.heap.size, 2, none⟩ = some (.int .u32 0) ∧ W.cell? ⟨w3.heap.size, 3, none⟩ = some (.int .i64 0) ∧ W.cell? ⟨w4.heap.size, 0, none⟩ = some (.int .i64 0) ∧ W.cell? ⟨w4.heap.size, 1, none⟩ = some (.int .i64 0) ∧ W.cell? ⟨w4.heap.size, 2, none⟩ = some (.int .u32 0) ∧ W.cell? ⟨w4.heap.size, 3, none⟩ = some (.int .i64 0)) (first | exact ⟨s_0, s_1, s_2, s_3, u_0, u_1, u_2, u_3, d_0, d_1, d_2, d_3⟩ | go_keep) (first | (go_at_call 19; refine (ready_ _ _ _ _ _ _).mono ?_; rintro e w10 ⟨rfl, hb⟩; (first | (replace O8 := Lib.hid (O8.out.drew.call hb)) | (replace O8 := Lib.hid (O8.out.call hb))); clear hb; obtain ⟨s_0, s_1, s_2, s_3, _, _, _, _⟩ := cells4 (O8.out.nth 4 rfl); obtain ⟨u_0, u_1, u_2, u_3, _, _, _, _⟩ := cells4 (O8.out.nth 3 rfl); obtain ⟨d_0, d_1, d_2, d_3, _, _, _, _⟩ := cells4 (O8.out.nth 2 rfl)))
  obtain ⟨p_0, p_1, p_2, p_3, _, _, _, _⟩ := cells4 (O8.out.nth 1 rfl)
  obtain ⟨q_0, q_1, q_2, q_3, _, _, _, _⟩ := cells4 (O8.out.nth 0 rfl)
  have l_u := lt_blk (O8.out.nth 3 rfl)
  have l_d := lt_blk (O8.out.nth 2 rfl)
  have l_p := lt_blk (O8.out.nth 1 rfl)
  have l_q := lt_blk (O8.out.nth 0 rfl)
  have l_s := lt_blk (O8.out.nth 4 rfl)
  go_wp2_with fail
  go_region
  all_goals
    go_wp2_with fail
    refine (rruns_ _ _ _ _ _).mono ?_
    rintro e w11 ⟨rfl, hb⟩
    have HB := Lib.hid (low_2 (show Below w.heap.size w _ by repeat (first | exact O8.out.below | apply below_al | apply Below.drew)) hb)
    clear hb
    go_wp2
    go_ret
    exact ⟨rfl, HB.out⟩

set_option maxRecDepth 100000 in
set_option maxHeartbeats 12800000 in
theorem changes_n0 (s : St) (r : Bool) (w : World)
    (hT : ∀ W, Hid (Calls Try.prog 20 #[.agg s.cells] W fun e w' => e = .returned (.int .i64 0) ∧ Below W.heap.size W w'))
    (hU : ∀ W, Hid (Calls Try.prog 25 #[.agg s.cells] W fun e w' => e = .returned (.tuple #[.agg (St.cells ⟨0, 0, 0, 0⟩), .int .i64 5]) ∧ Below W.heap.size W w'))
    (hD : ∀ W, Hid (Calls Try.prog 26 #[.agg s.cells] W fun e w' => e = .returned (.tuple #[.agg (St.cells ⟨0, s.pa, 0, 0⟩), .int .i64 0]) ∧ Below W.heap.size W w'))
    (hP : ∀ W, Hid (Calls Try.prog 21 #[.agg s.cells] W fun e w' => e = .returned (.tuple #[.agg (St.cells ⟨s.st, s.pa + 1, s.po, s.un⟩), .int .i64 0]) ∧ Below W.heap.size W w'))
    (hQ : ∀ W, Hid (Calls Try.prog 23 #[.agg s.cells] W fun e w' => e = .returned (triple ⟨0, 0, 0, 0⟩ false 4) ∧ Below W.heap.size W w'))
    (hE : ∀ W, Hid (Calls Try.prog 24 #[.agg s.cells] W fun e w' => e = .returned (.tuple #[.int .i64 s.un, .bool (decide (0 < s.un))]) ∧ Below W.heap.size W w'))
    (hR : ∀ W, Hid (Calls Try.prog 22 #[.agg s.cells] W fun e w' => e = .returned (.bool r) ∧ Below W.heap.size W w'))
    (hG : ∀ W, Hid (Calls Try.prog 13 #[.agg s.cells] W fun e w' => e = .returned (.bool true) ∧ Below W.heap.size W w'))
    (hS : ∀ W, Hid (Calls Try.prog 18 #[.agg s.cells] W fun e w' => e = .returned (.bool r) ∧ Below W.heap.size W w')) (hst : (s.st == 0) = false) (hpa : (s.pa == 0) = true) (h15 : (s.pa == 15) = false) (hl : decide (s.pa < 15) = true) (hp0 : 0 ≤ s.pa) (hp1 : s.pa ≤ 15) :
    Calls Try.prog 8 #[.agg s.cells] w fun e w' => e = .returned (.bool true) ∧ Below w.heap.size w w' := by
  obtain ⟨st, pa, po, un⟩ := s
  have O := Lib.hid (Own.start w)
  go_enter Try.func8, Try.ntmps8
  go_wp2_with fail
  refine (wakes_ _).mono ?_
  rintro e w1 ⟨rfl, hb⟩
  have O1 := Lib.hid ((O.out.alloc w.heap.size _ rfl).call hb)
  clear hb O 
  obtain ⟨s_0, s_1, s_2, s_3, s_f0, s_f1, s_f2, s_f3⟩ := cells4 (O1.out.nth 0 rfl)
  have l_s := lt_blk (O1.out.nth 0 rfl)
  go_wp2_with fail
  refine ((hT _).out).mono ?_
  rintro e w2 ⟨rfl, hb⟩
  have O2 := Lib.hid (O1.out.call hb)
  clear hb O1 s_0 s_1 s_2 s_3 s_f0 s_f1 s_f2 s_f3 l_s
  obtain ⟨s_0, s_1, s_2, s_3, s_f0, s_f1, s_f2, s_f3⟩ := cells4 (O2.out.nth 0 rfl)
  have l_s := lt_blk (O2.out.nth 0 rfl)
  go_wp2_with fail
  refine ((hU _).out).mono ?_
  rintro e w3 ⟨rfl, hb⟩
  have O3 := Lib.hid (O2.out.call hb)
  clear hb O2 s_0 s_1 s_2 s_3 s_f0 s_f1 s_f2 s_f3 l_s
  obtain ⟨s_0, s_1, s_2, s_3, s_f0, s_f1, s_f2, s_f3⟩ := cells4 (O3.out.nth 0 rfl)
  have l_s := lt_blk (O3.out.nth 0 rfl)
  go_wp2_with fail
  refine ((hD _).out).mono ?_
  rintro e w4 ⟨rfl, hb⟩
  have O4 := Lib.hid ((O3.out.alloc w3.heap.size _ rfl).call hb)
  clear hb O3 s_0 s_1 s_2 s_3 s_f0 s_f1 s_f2 s_f3 l_s
  obtain ⟨u_0, u_1, u_2, u_3, u_f0, u_f1, u_f2, u_f3⟩ := cells4 (O4.out.nth 0 rfl)
  have l_u := lt_blk (O4.out.nth 0 rfl)
  obtain ⟨s_0, s_1, s_2, s_3, s_f0, s_f1, s_f2, s_f3⟩ := cells4 (O4.out.nth 1 rfl)
  have l_s := lt_blk (O4.out.nth 1 rfl)
  go_wp2_with fail
  refine ((hP _).out).mono ?_
  rintro e w5 ⟨rfl, hb⟩
  have O5 := Lib.hid ((O4.out.alloc w4.heap.size _ rfl).call hb)
  clear hb O4 u_0 u_1 u_2 u_3 u_f0 u_f1 u_f2 u_f3 l_u s_0 s_1 s_2 s_3 s_f0 s_f1 s_f2 s_f3 l_s
  obtain ⟨d_0, d_1, d_2, d_3, d_f0, d_f1, d_f2, d_f3⟩ := cells4 (O5.out.nth 0 rfl)
  have l_d := lt_blk (O5.out.nth 0 rfl)
  obtain ⟨u_0, u_1, u_2, u_3, u_f0, u_f1, u_f2, u_f3⟩ := cells4 (O5.out.nth 1 rfl)
  have l_u := lt_blk (O5.out.nth 1 rfl)
  obtain ⟨s_0, s_1, s_2, s_3, s_f0, s_f1, s_f2, s_f3⟩ := cells4 (O5.out.nth 2 rfl)
  have l_s := lt_blk (O5.out.nth 2 rfl)
  go_wp2_with fail
  refine ((hQ _).out).mono ?_
  rintro e w6 ⟨rfl, hb⟩
  have O6 := Lib.hid ((O5.out.alloc w5.heap.size _ rfl).call hb)
  clear hb O5 d_0 d_1 d_2 d_3 d_f0 d_f1 d_f2 d_f3 l_d u_0 u_1 u_2 u_3 u_f0 u_f1 u_f2 u_f3 l_u s_0 s_1 s_2 s_3 s_f0 s_f1 s_f2 s_f3 l_s
  obtain ⟨p_0, p_1, p_2, p_3, p_f0, p_f1, p_f2, p_f3⟩ := cells4 (O6.out.nth 0 rfl)
  have l_p := lt_blk (O6.out.nth 0 rfl)
  obtain ⟨d_0, d_1, d_2, d_3, d_f0, d_f1, d_f2, d_f3⟩ := cells4 (O6.out.nth 1 rfl)
  have l_d := lt_blk (O6.out.nth 1 rfl)
  obtain ⟨u_0, u_1, u_2, u_3, u_f0, u_f1, u_f2, u_f3⟩ := cells4 (O6.out.nth 2 rfl)
  have l_u := lt_blk (O6.out.nth 2 rfl)
  obtain ⟨s_0, s_1, s_2, s_3, s_f0, s_f1, s_f2, s_f3⟩ := cells4 (O6.out.nth 3 rfl)
  have l_s := lt_blk (O6.out.nth 3 rfl)
  go_wp2_with fail
  refine ((hE _).out).mono ?_
  rintro e w7 ⟨rfl, hb⟩
  have O7 := Lib.hid ((O6.out.alloc w6.heap.size _ rfl).call hb)
  clear hb O6 p_0 p_1 p_2 p_3 p_f0 p_f1 p_f2 p_f3 l_p d_0 d_1 d_2 d_3 d_f0 d_f1 d_f2 d_f3 l_d u_0 u_1 u_2 u_3 u_f0 u_f1 u_f2 u_f3 l_u s_0 s_1 s_2 s_3 s_f0 s_f1 s_f2 s_f3 l_s
  obtain ⟨q_0, q_1, q_2, q_3, q_f0, q_f1, q_f2, q_f3⟩ := cells4 (O7.out.nth 0 rfl)
  have l_q := lt_blk (O7.out.nth 0 rfl)
  obtain ⟨p_0, p_1, p_2, p_3, p_f0, p_f1, p_f2, p_f3⟩ := cells4 (O7.out.nth 1 rfl)
  have l_p := lt_blk (O7.out.nth 1 rfl)
  obtain ⟨d_0, d_1, d_2, d_3, d_f0, d_f1, d_f2, d_f3⟩ := cells4 (O7.out.nth 2 rfl)
  have l_d := lt_blk (O7.out.nth 2 rfl)
  obtain ⟨u_0, u_1, u_2, u_3, u_f0, u_f1, u_f2, u_f3⟩ := cells4 (O7.out.nth 3 rfl)
  have l_u := lt_blk (O7.out.nth 3 rfl)
  obtain ⟨s_0, s_1, s_2, s_3, s_f0, s_f1, s_f2, s_f3⟩ := cells4 (O7.out.nth 4 rfl)
  have l_s := lt_blk (O7.out.nth 4 rfl)
  go_wp2_with fail
  refine ((hG _).out).mono ?_
  rintro e w8 ⟨rfl, hb⟩
  have O8 := Lib.hid (O7.out.call hb)
  clear hb O7 q_0 q_1 q_2 q_3 q_f0 q_f1 q_f2 q_f3 l_q p_0 p_1 p_2 p_3 p_f0 p_f1 p_f2 p_f3 l_p d_0 d_1 d_2 d_3 d_f0 d_f1 d_f2 d_f3 l_d u_0 u_1 u_2 u_3 u_f0 u_f1 u_f2 u_f3 l_u s_0 s_1 s_2 s_3 s_f0 s_f1 s_f2 s_f3 l_s
  obtain ⟨q_0, q_1, q_2, q_3, q_f0, q_f1, q_f2, q_f3⟩ := cells4 (O8.out.nth 0 rfl)
  have l_q := lt_blk (O8.out.nth 0 rfl)
  obtain ⟨p_0, p_1, p_2, p_3, p_f0, p_f1, p_f2, p_f3⟩ := cells4 (O8.out.nth 1 rfl)
  have l_p := lt_blk (O8.out.nth 1 rfl)
  obtain ⟨d_0, d_1, d_2, d_3, d_f0, d_f1, d_f2, d_f3⟩ := cells4 (O8.out.nth 2 rfl)
  have l_d := lt_blk (O8.out.nth 2 rfl)
  obtain ⟨u_0, u_1, u_2, u_3, u_f0, u_f1, u_f2, u_f3⟩ := cells4 (O8.out.nth 3 rfl)
  have l_u := lt_blk (O8.out.nth 3 rfl)
  obtain ⟨s_0, s_1, s_2, s_3, s_f0, s_f1, s_f2, s_f3⟩ := cells4 (O8.out.nth 4 rfl)
  have l_s := lt_blk (O8.out.nth 4 rfl)
  go_wp2_with fail
  go_region_held3 (fun W => W.cell? ⟨w.heap.size, 0, none⟩ = some (.int .i64 st) ∧ W.cell? ⟨w.heap.size, 1, none⟩ = some (.int .i64 pa) ∧ W.cell? ⟨w.heap.size, 2, none⟩ = some (.int .u32 po) ∧ W.cell? ⟨w.heap.size, 3, none⟩ = some (.int .i64 un)) (first | exact ⟨s_0, s_1, s_2, s_3⟩ | go_keep) (first | (go_at_call 22; refine ((hR _).out).mono ?_; rintro e w9 ⟨rfl, hb⟩; (first | (replace O8 := Lib.hid (O8.out.drew.call hb)) | (replace O8 := Lib.hid (O8.out.call hb))); clear hb; obtain ⟨s_0, s_1, s_2, s_3, _, _, _, _⟩ := cells4 (O8.out.nth 4 rfl)) | (go_at_call 18; refine ((hS _).out).mono ?_; rintro e w9 ⟨rfl, hb⟩; (first | (replace O8 := Lib.hid (O8.out.drew.call hb)) | (replace O8 := Lib.hid (O8.out.call hb))); clear hb; obtain ⟨s_0, s_1, s_2, s_3, _, _, _, _⟩ := cells4 (O8.out.nth 4 rfl)))
  obtain ⟨u_0, u_1, u_2, u_3, _, _, _, _⟩ := cells4 (O8.out.nth 3 rfl)
  have l_u := lt_blk (O8.out.nth 3 rfl)
  obtain ⟨d_0, d_1, d_2, d_3, _, _, _, _⟩ := cells4 (O8.out.nth 2 rfl)
  have l_d := lt_blk (O8.out.nth 2 rfl)
  obtain ⟨p_0, p_1, p_2, p_3, _, _, _, _⟩ := cells4 (O8.out.nth 1 rfl)
  have l_p := lt_blk (O8.out.nth 1 rfl)
  obtain ⟨q_0, q_1, q_2, q_3, _, _, _, _⟩ := cells4 (O8.out.nth 0 rfl)
  have l_q := lt_blk (O8.out.nth 0 rfl)
  have l_s := lt_blk (O8.out.nth 4 rfl)
  go_wp2_with fail
  go_region_held3 (fun W => W.cell? ⟨w.heap.size, 0, none⟩ = some (.int .i64 st) ∧ W.cell? ⟨w.heap.size, 1, none⟩ = some (.int .i64 pa) ∧ W.cell? ⟨w.heap.size, 2, none⟩ = some (.int .u32 po) ∧ W.cell? ⟨w.heap.size, 3, none⟩ = some (.int .i64 un) ∧ W.cell? ⟨w3.heap.size, 0, none⟩ = some (.int .i64 0) ∧ W.cell? ⟨w3.heap.size, 1, none⟩ = some (.int .i64 0) ∧ W.cell? ⟨w3.heap.size, 2, none⟩ = some (.int .u32 0) ∧ W.cell? ⟨w3.heap.size, 3, none⟩ = some (.int .i64 0) ∧ W.cell? ⟨w4.heap.size, 0, none⟩ = some (.int .i64 0) ∧ W.cell? ⟨w4.heap.size, 1, none⟩ = some (.int .i64 pa) ∧ W.cell? ⟨w4.heap.size, 2, none⟩ = some (.int .u32 0) ∧ W.cell? ⟨w4.heap.size, 3, none⟩ = some (.int .i64 0)) (first | exact ⟨s_0, s_1, s_2, s_3, u_0, u_1, u_2, u_3, d_0, d_1, d_2, d_3⟩ | go_keep) (first | (go_at_call 19; refine (ready_ _ _ _ _ _ _).mono ?_; rintro e w10 ⟨rfl, hb⟩; (first | (replace O8 := Lib.hid (O8.out.drew.call hb)) | (replace O8 := Lib.hid (O8.out.call hb))); clear hb; obtain ⟨s_0, s_1, s_2, s_3, _, _, _, _⟩ := cells4 (O8.out.nth 4 rfl); obtain ⟨u_0, u_1, u_2, u_3, _, _, _, _⟩ := cells4 (O8.out.nth 3 rfl); obtain ⟨d_0, d_1, d_2, d_3, _, _, _, _⟩ := cells4 (O8.out.nth 2 rfl)))
  obtain ⟨p_0, p_1, p_2, p_3, _, _, _, _⟩ := cells4 (O8.out.nth 1 rfl)
  obtain ⟨q_0, q_1, q_2, q_3, _, _, _, _⟩ := cells4 (O8.out.nth 0 rfl)
  have l_u := lt_blk (O8.out.nth 3 rfl)
  have l_d := lt_blk (O8.out.nth 2 rfl)
  have l_p := lt_blk (O8.out.nth 1 rfl)
  have l_q := lt_blk (O8.out.nth 0 rfl)
  have l_s := lt_blk (O8.out.nth 4 rfl)
  go_wp2_with fail
  go_region
  all_goals
    go_wp2
    go_ret
    exact ⟨rfl, by repeat (first | exact O8.out.below | apply below_al | apply Below.drew)⟩

set_option maxRecDepth 100000 in
set_option maxHeartbeats 12800000 in
theorem changes_n7 (s : St) (r : Bool) (w : World)
    (hT : ∀ W, Hid (Calls Try.prog 20 #[.agg s.cells] W fun e w' => e = .returned (.int .i64 0) ∧ Below W.heap.size W w'))
    (hU : ∀ W, Hid (Calls Try.prog 25 #[.agg s.cells] W fun e w' => e = .returned (.tuple #[.agg (St.cells ⟨0, 0, 0, 0⟩), .int .i64 5]) ∧ Below W.heap.size W w'))
    (hD : ∀ W, Hid (Calls Try.prog 26 #[.agg s.cells] W fun e w' => e = .returned (.tuple #[.agg (St.cells ⟨0, s.pa, 0, 0⟩), .int .i64 0]) ∧ Below W.heap.size W w'))
    (hP : ∀ W, Hid (Calls Try.prog 21 #[.agg s.cells] W fun e w' => e = .returned (.tuple #[.agg (St.cells ⟨s.st, s.pa + 1, s.po, s.un⟩), .int .i64 0]) ∧ Below W.heap.size W w'))
    (hQ : ∀ W, Hid (Calls Try.prog 23 #[.agg s.cells] W fun e w' => e = .returned (triple ⟨s.st, s.pa - 1, s.po, s.un⟩ (s.st == 1 && s.pa - 1 == 0) 0) ∧ Below W.heap.size W w'))
    (hE : ∀ W, Hid (Calls Try.prog 24 #[.agg s.cells] W fun e w' => e = .returned (.tuple #[.int .i64 s.un, .bool (decide (0 < s.un))]) ∧ Below W.heap.size W w'))
    (hR : ∀ W, Hid (Calls Try.prog 22 #[.agg s.cells] W fun e w' => e = .returned (.bool r) ∧ Below W.heap.size W w'))
    (hG : ∀ W, Hid (Calls Try.prog 13 #[.agg s.cells] W fun e w' => e = .returned (.bool true) ∧ Below W.heap.size W w'))
    (hS : ∀ W, Hid (Calls Try.prog 18 #[.agg s.cells] W fun e w' => e = .returned (.bool r) ∧ Below W.heap.size W w')) (hst : (s.st == 0) = false) (hpa : (s.pa == 0) = false) (h15 : (s.pa == 15) = false) (hl : decide (s.pa < 15) = true) (hp0 : 0 ≤ s.pa) (hp1 : s.pa ≤ 15) :
    Calls Try.prog 8 #[.agg s.cells] w fun e w' => e = .returned (.bool true) ∧ Below w.heap.size w w' := by
  obtain ⟨st, pa, po, un⟩ := s
  have O := Lib.hid (Own.start w)
  go_enter Try.func8, Try.ntmps8
  go_wp2_with fail
  refine (wakes_ _).mono ?_
  rintro e w1 ⟨rfl, hb⟩
  have O1 := Lib.hid ((O.out.alloc w.heap.size _ rfl).call hb)
  clear hb O 
  obtain ⟨s_0, s_1, s_2, s_3, s_f0, s_f1, s_f2, s_f3⟩ := cells4 (O1.out.nth 0 rfl)
  have l_s := lt_blk (O1.out.nth 0 rfl)
  go_wp2_with fail
  refine ((hT _).out).mono ?_
  rintro e w2 ⟨rfl, hb⟩
  have O2 := Lib.hid (O1.out.call hb)
  clear hb O1 s_0 s_1 s_2 s_3 s_f0 s_f1 s_f2 s_f3 l_s
  obtain ⟨s_0, s_1, s_2, s_3, s_f0, s_f1, s_f2, s_f3⟩ := cells4 (O2.out.nth 0 rfl)
  have l_s := lt_blk (O2.out.nth 0 rfl)
  go_wp2_with fail
  refine ((hU _).out).mono ?_
  rintro e w3 ⟨rfl, hb⟩
  have O3 := Lib.hid (O2.out.call hb)
  clear hb O2 s_0 s_1 s_2 s_3 s_f0 s_f1 s_f2 s_f3 l_s
  obtain ⟨s_0, s_1, s_2, s_3, s_f0, s_f1, s_f2, s_f3⟩ := cells4 (O3.out.nth 0 rfl)
  have l_s := lt_blk (O3.out.nth 0 rfl)
  go_wp2_with fail
  refine ((hD _).out).mono ?_
  rintro e w4 ⟨rfl, hb⟩
  have O4 := Lib.hid ((O3.out.alloc w3.heap.size _ rfl).call hb)
  clear hb O3 s_0 s_1 s_2 s_3 s_f0 s_f1 s_f2 s_f3 l_s
  obtain ⟨u_0, u_1, u_2, u_3, u_f0, u_f1, u_f2, u_f3⟩ := cells4 (O4.out.nth 0 rfl)
  have l_u := lt_blk (O4.out.nth 0 rfl)
  obtain ⟨s_0, s_1, s_2, s_3, s_f0, s_f1, s_f2, s_f3⟩ := cells4 (O4.out.nth 1 rfl)
  have l_s := lt_blk (O4.out.nth 1 rfl)
  go_wp2_with fail
  refine ((hP _).out).mono ?_
  rintro e w5 ⟨rfl, hb⟩
  have O5 := Lib.hid ((O4.out.alloc w4.heap.size _ rfl).call hb)
  clear hb O4 u_0 u_1 u_2 u_3 u_f0 u_f1 u_f2 u_f3 l_u s_0 s_1 s_2 s_3 s_f0 s_f1 s_f2 s_f3 l_s
  obtain ⟨d_0, d_1, d_2, d_3, d_f0, d_f1, d_f2, d_f3⟩ := cells4 (O5.out.nth 0 rfl)
  have l_d := lt_blk (O5.out.nth 0 rfl)
  obtain ⟨u_0, u_1, u_2, u_3, u_f0, u_f1, u_f2, u_f3⟩ := cells4 (O5.out.nth 1 rfl)
  have l_u := lt_blk (O5.out.nth 1 rfl)
  obtain ⟨s_0, s_1, s_2, s_3, s_f0, s_f1, s_f2, s_f3⟩ := cells4 (O5.out.nth 2 rfl)
  have l_s := lt_blk (O5.out.nth 2 rfl)
  go_wp2_with fail
  refine ((hQ _).out).mono ?_
  rintro e w6 ⟨rfl, hb⟩
  have O6 := Lib.hid ((O5.out.alloc w5.heap.size _ rfl).call hb)
  clear hb O5 d_0 d_1 d_2 d_3 d_f0 d_f1 d_f2 d_f3 l_d u_0 u_1 u_2 u_3 u_f0 u_f1 u_f2 u_f3 l_u s_0 s_1 s_2 s_3 s_f0 s_f1 s_f2 s_f3 l_s
  obtain ⟨p_0, p_1, p_2, p_3, p_f0, p_f1, p_f2, p_f3⟩ := cells4 (O6.out.nth 0 rfl)
  have l_p := lt_blk (O6.out.nth 0 rfl)
  obtain ⟨d_0, d_1, d_2, d_3, d_f0, d_f1, d_f2, d_f3⟩ := cells4 (O6.out.nth 1 rfl)
  have l_d := lt_blk (O6.out.nth 1 rfl)
  obtain ⟨u_0, u_1, u_2, u_3, u_f0, u_f1, u_f2, u_f3⟩ := cells4 (O6.out.nth 2 rfl)
  have l_u := lt_blk (O6.out.nth 2 rfl)
  obtain ⟨s_0, s_1, s_2, s_3, s_f0, s_f1, s_f2, s_f3⟩ := cells4 (O6.out.nth 3 rfl)
  have l_s := lt_blk (O6.out.nth 3 rfl)
  go_wp2_with fail
  refine ((hE _).out).mono ?_
  rintro e w7 ⟨rfl, hb⟩
  have O7 := Lib.hid ((O6.out.alloc w6.heap.size _ rfl).call hb)
  clear hb O6 p_0 p_1 p_2 p_3 p_f0 p_f1 p_f2 p_f3 l_p d_0 d_1 d_2 d_3 d_f0 d_f1 d_f2 d_f3 l_d u_0 u_1 u_2 u_3 u_f0 u_f1 u_f2 u_f3 l_u s_0 s_1 s_2 s_3 s_f0 s_f1 s_f2 s_f3 l_s
  obtain ⟨q_0, q_1, q_2, q_3, q_f0, q_f1, q_f2, q_f3⟩ := cells4 (O7.out.nth 0 rfl)
  have l_q := lt_blk (O7.out.nth 0 rfl)
  obtain ⟨p_0, p_1, p_2, p_3, p_f0, p_f1, p_f2, p_f3⟩ := cells4 (O7.out.nth 1 rfl)
  have l_p := lt_blk (O7.out.nth 1 rfl)
  obtain ⟨d_0, d_1, d_2, d_3, d_f0, d_f1, d_f2, d_f3⟩ := cells4 (O7.out.nth 2 rfl)
  have l_d := lt_blk (O7.out.nth 2 rfl)
  obtain ⟨u_0, u_1, u_2, u_3, u_f0, u_f1, u_f2, u_f3⟩ := cells4 (O7.out.nth 3 rfl)
  have l_u := lt_blk (O7.out.nth 3 rfl)
  obtain ⟨s_0, s_1, s_2, s_3, s_f0, s_f1, s_f2, s_f3⟩ := cells4 (O7.out.nth 4 rfl)
  have l_s := lt_blk (O7.out.nth 4 rfl)
  go_wp2_with fail
  refine ((hG _).out).mono ?_
  rintro e w8 ⟨rfl, hb⟩
  have O8 := Lib.hid (O7.out.call hb)
  clear hb O7 q_0 q_1 q_2 q_3 q_f0 q_f1 q_f2 q_f3 l_q p_0 p_1 p_2 p_3 p_f0 p_f1 p_f2 p_f3 l_p d_0 d_1 d_2 d_3 d_f0 d_f1 d_f2 d_f3 l_d u_0 u_1 u_2 u_3 u_f0 u_f1 u_f2 u_f3 l_u s_0 s_1 s_2 s_3 s_f0 s_f1 s_f2 s_f3 l_s
  obtain ⟨q_0, q_1, q_2, q_3, q_f0, q_f1, q_f2, q_f3⟩ := cells4 (O8.out.nth 0 rfl)
  have l_q := lt_blk (O8.out.nth 0 rfl)
  obtain ⟨p_0, p_1, p_2, p_3, p_f0, p_f1, p_f2, p_f3⟩ := cells4 (O8.out.nth 1 rfl)
  have l_p := lt_blk (O8.out.nth 1 rfl)
  obtain ⟨d_0, d_1, d_2, d_3, d_f0, d_f1, d_f2, d_f3⟩ := cells4 (O8.out.nth 2 rfl)
  have l_d := lt_blk (O8.out.nth 2 rfl)
  obtain ⟨u_0, u_1, u_2, u_3, u_f0, u_f1, u_f2, u_f3⟩ := cells4 (O8.out.nth 3 rfl)
  have l_u := lt_blk (O8.out.nth 3 rfl)
  obtain ⟨s_0, s_1, s_2, s_3, s_f0, s_f1, s_f2, s_f3⟩ := cells4 (O8.out.nth 4 rfl)
  have l_s := lt_blk (O8.out.nth 4 rfl)
  go_wp2_with fail
  go_region_held3 (fun W => W.cell? ⟨w.heap.size, 0, none⟩ = some (.int .i64 st) ∧ W.cell? ⟨w.heap.size, 1, none⟩ = some (.int .i64 pa) ∧ W.cell? ⟨w.heap.size, 2, none⟩ = some (.int .u32 po) ∧ W.cell? ⟨w.heap.size, 3, none⟩ = some (.int .i64 un)) (first | exact ⟨s_0, s_1, s_2, s_3⟩ | go_keep) (first | (go_at_call 22; refine ((hR _).out).mono ?_; rintro e w9 ⟨rfl, hb⟩; (first | (replace O8 := Lib.hid (O8.out.drew.call hb)) | (replace O8 := Lib.hid (O8.out.call hb))); clear hb; obtain ⟨s_0, s_1, s_2, s_3, _, _, _, _⟩ := cells4 (O8.out.nth 4 rfl)) | (go_at_call 18; refine ((hS _).out).mono ?_; rintro e w9 ⟨rfl, hb⟩; (first | (replace O8 := Lib.hid (O8.out.drew.call hb)) | (replace O8 := Lib.hid (O8.out.call hb))); clear hb; obtain ⟨s_0, s_1, s_2, s_3, _, _, _, _⟩ := cells4 (O8.out.nth 4 rfl)))
  obtain ⟨u_0, u_1, u_2, u_3, _, _, _, _⟩ := cells4 (O8.out.nth 3 rfl)
  have l_u := lt_blk (O8.out.nth 3 rfl)
  obtain ⟨d_0, d_1, d_2, d_3, _, _, _, _⟩ := cells4 (O8.out.nth 2 rfl)
  have l_d := lt_blk (O8.out.nth 2 rfl)
  obtain ⟨p_0, p_1, p_2, p_3, _, _, _, _⟩ := cells4 (O8.out.nth 1 rfl)
  have l_p := lt_blk (O8.out.nth 1 rfl)
  obtain ⟨q_0, q_1, q_2, q_3, _, _, _, _⟩ := cells4 (O8.out.nth 0 rfl)
  have l_q := lt_blk (O8.out.nth 0 rfl)
  have l_s := lt_blk (O8.out.nth 4 rfl)
  go_wp2_with fail
  go_region_held3 (fun W => W.cell? ⟨w.heap.size, 0, none⟩ = some (.int .i64 st) ∧ W.cell? ⟨w.heap.size, 1, none⟩ = some (.int .i64 pa) ∧ W.cell? ⟨w.heap.size, 2, none⟩ = some (.int .u32 po) ∧ W.cell? ⟨w.heap.size, 3, none⟩ = some (.int .i64 un) ∧ W.cell? ⟨w3.heap.size, 0, none⟩ = some (.int .i64 0) ∧ W.cell? ⟨w3.heap.size, 1, none⟩ = some (.int .i64 0) ∧ W.cell? ⟨w3.heap.size, 2, none⟩ = some (.int .u32 0) ∧ W.cell? ⟨w3.heap.size, 3, none⟩ = some (.int .i64 0) ∧ W.cell? ⟨w4.heap.size, 0, none⟩ = some (.int .i64 0) ∧ W.cell? ⟨w4.heap.size, 1, none⟩ = some (.int .i64 pa) ∧ W.cell? ⟨w4.heap.size, 2, none⟩ = some (.int .u32 0) ∧ W.cell? ⟨w4.heap.size, 3, none⟩ = some (.int .i64 0)) (first | exact ⟨s_0, s_1, s_2, s_3, u_0, u_1, u_2, u_3, d_0, d_1, d_2, d_3⟩ | go_keep) (first | (go_at_call 19; refine (ready_ _ _ _ _ _ _).mono ?_; rintro e w10 ⟨rfl, hb⟩; (first | (replace O8 := Lib.hid (O8.out.drew.call hb)) | (replace O8 := Lib.hid (O8.out.call hb))); clear hb; obtain ⟨s_0, s_1, s_2, s_3, _, _, _, _⟩ := cells4 (O8.out.nth 4 rfl); obtain ⟨u_0, u_1, u_2, u_3, _, _, _, _⟩ := cells4 (O8.out.nth 3 rfl); obtain ⟨d_0, d_1, d_2, d_3, _, _, _, _⟩ := cells4 (O8.out.nth 2 rfl)))
  obtain ⟨p_0, p_1, p_2, p_3, _, _, _, _⟩ := cells4 (O8.out.nth 1 rfl)
  obtain ⟨q_0, q_1, q_2, q_3, _, _, _, _⟩ := cells4 (O8.out.nth 0 rfl)
  have l_u := lt_blk (O8.out.nth 3 rfl)
  have l_d := lt_blk (O8.out.nth 2 rfl)
  have l_p := lt_blk (O8.out.nth 1 rfl)
  have l_q := lt_blk (O8.out.nth 0 rfl)
  have l_s := lt_blk (O8.out.nth 4 rfl)
  go_wp2_with fail
  go_region
  all_goals
    go_wp2_with fail
    refine (rruns_ _ _ _ _ _).mono ?_
    rintro e w11 ⟨rfl, hb⟩
    have HB := Lib.hid (low_2 (show Below w.heap.size w _ by repeat (first | exact O8.out.below | apply below_al | apply Below.drew)) hb)
    clear hb
    go_wp2
    go_ret
    exact ⟨rfl, HB.out⟩

set_option maxRecDepth 100000 in
set_option maxHeartbeats 12800000 in
theorem changes_n15 (s : St) (r : Bool) (w : World)
    (hT : ∀ W, Hid (Calls Try.prog 20 #[.agg s.cells] W fun e w' => e = .returned (.int .i64 0) ∧ Below W.heap.size W w'))
    (hU : ∀ W, Hid (Calls Try.prog 25 #[.agg s.cells] W fun e w' => e = .returned (.tuple #[.agg (St.cells ⟨0, 0, 0, 0⟩), .int .i64 5]) ∧ Below W.heap.size W w'))
    (hD : ∀ W, Hid (Calls Try.prog 26 #[.agg s.cells] W fun e w' => e = .returned (.tuple #[.agg (St.cells ⟨0, s.pa, 0, 0⟩), .int .i64 0]) ∧ Below W.heap.size W w'))
    (hP : ∀ W, Hid (Calls Try.prog 21 #[.agg s.cells] W fun e w' => e = .returned (.tuple #[.agg (St.cells ⟨0, 0, 0, 0⟩), .int .i64 6]) ∧ Below W.heap.size W w'))
    (hQ : ∀ W, Hid (Calls Try.prog 23 #[.agg s.cells] W fun e w' => e = .returned (triple ⟨s.st, s.pa - 1, s.po, s.un⟩ (s.st == 1 && s.pa - 1 == 0) 0) ∧ Below W.heap.size W w'))
    (hE : ∀ W, Hid (Calls Try.prog 24 #[.agg s.cells] W fun e w' => e = .returned (.tuple #[.int .i64 s.un, .bool (decide (0 < s.un))]) ∧ Below W.heap.size W w'))
    (hR : ∀ W, Hid (Calls Try.prog 22 #[.agg s.cells] W fun e w' => e = .returned (.bool r) ∧ Below W.heap.size W w'))
    (hG : ∀ W, Hid (Calls Try.prog 13 #[.agg s.cells] W fun e w' => e = .returned (.bool true) ∧ Below W.heap.size W w'))
    (hS : ∀ W, Hid (Calls Try.prog 18 #[.agg s.cells] W fun e w' => e = .returned (.bool r) ∧ Below W.heap.size W w')) (hst : (s.st == 0) = false) (hpa : (s.pa == 0) = false) (h15 : (s.pa == 15) = true) (hl : decide (s.pa < 15) = false) (hp0 : 0 ≤ s.pa) (hp1 : s.pa ≤ 15) :
    Calls Try.prog 8 #[.agg s.cells] w fun e w' => e = .returned (.bool true) ∧ Below w.heap.size w w' := by
  obtain ⟨st, pa, po, un⟩ := s
  have O := Lib.hid (Own.start w)
  go_enter Try.func8, Try.ntmps8
  go_wp2_with fail
  refine (wakes_ _).mono ?_
  rintro e w1 ⟨rfl, hb⟩
  have O1 := Lib.hid ((O.out.alloc w.heap.size _ rfl).call hb)
  clear hb O 
  obtain ⟨s_0, s_1, s_2, s_3, s_f0, s_f1, s_f2, s_f3⟩ := cells4 (O1.out.nth 0 rfl)
  have l_s := lt_blk (O1.out.nth 0 rfl)
  go_wp2_with fail
  refine ((hT _).out).mono ?_
  rintro e w2 ⟨rfl, hb⟩
  have O2 := Lib.hid (O1.out.call hb)
  clear hb O1 s_0 s_1 s_2 s_3 s_f0 s_f1 s_f2 s_f3 l_s
  obtain ⟨s_0, s_1, s_2, s_3, s_f0, s_f1, s_f2, s_f3⟩ := cells4 (O2.out.nth 0 rfl)
  have l_s := lt_blk (O2.out.nth 0 rfl)
  go_wp2_with fail
  refine ((hU _).out).mono ?_
  rintro e w3 ⟨rfl, hb⟩
  have O3 := Lib.hid (O2.out.call hb)
  clear hb O2 s_0 s_1 s_2 s_3 s_f0 s_f1 s_f2 s_f3 l_s
  obtain ⟨s_0, s_1, s_2, s_3, s_f0, s_f1, s_f2, s_f3⟩ := cells4 (O3.out.nth 0 rfl)
  have l_s := lt_blk (O3.out.nth 0 rfl)
  go_wp2_with fail
  refine ((hD _).out).mono ?_
  rintro e w4 ⟨rfl, hb⟩
  have O4 := Lib.hid ((O3.out.alloc w3.heap.size _ rfl).call hb)
  clear hb O3 s_0 s_1 s_2 s_3 s_f0 s_f1 s_f2 s_f3 l_s
  obtain ⟨u_0, u_1, u_2, u_3, u_f0, u_f1, u_f2, u_f3⟩ := cells4 (O4.out.nth 0 rfl)
  have l_u := lt_blk (O4.out.nth 0 rfl)
  obtain ⟨s_0, s_1, s_2, s_3, s_f0, s_f1, s_f2, s_f3⟩ := cells4 (O4.out.nth 1 rfl)
  have l_s := lt_blk (O4.out.nth 1 rfl)
  go_wp2_with fail
  refine ((hP _).out).mono ?_
  rintro e w5 ⟨rfl, hb⟩
  have O5 := Lib.hid ((O4.out.alloc w4.heap.size _ rfl).call hb)
  clear hb O4 u_0 u_1 u_2 u_3 u_f0 u_f1 u_f2 u_f3 l_u s_0 s_1 s_2 s_3 s_f0 s_f1 s_f2 s_f3 l_s
  obtain ⟨d_0, d_1, d_2, d_3, d_f0, d_f1, d_f2, d_f3⟩ := cells4 (O5.out.nth 0 rfl)
  have l_d := lt_blk (O5.out.nth 0 rfl)
  obtain ⟨u_0, u_1, u_2, u_3, u_f0, u_f1, u_f2, u_f3⟩ := cells4 (O5.out.nth 1 rfl)
  have l_u := lt_blk (O5.out.nth 1 rfl)
  obtain ⟨s_0, s_1, s_2, s_3, s_f0, s_f1, s_f2, s_f3⟩ := cells4 (O5.out.nth 2 rfl)
  have l_s := lt_blk (O5.out.nth 2 rfl)
  go_wp2_with fail
  refine ((hQ _).out).mono ?_
  rintro e w6 ⟨rfl, hb⟩
  have O6 := Lib.hid ((O5.out.alloc w5.heap.size _ rfl).call hb)
  clear hb O5 d_0 d_1 d_2 d_3 d_f0 d_f1 d_f2 d_f3 l_d u_0 u_1 u_2 u_3 u_f0 u_f1 u_f2 u_f3 l_u s_0 s_1 s_2 s_3 s_f0 s_f1 s_f2 s_f3 l_s
  obtain ⟨p_0, p_1, p_2, p_3, p_f0, p_f1, p_f2, p_f3⟩ := cells4 (O6.out.nth 0 rfl)
  have l_p := lt_blk (O6.out.nth 0 rfl)
  obtain ⟨d_0, d_1, d_2, d_3, d_f0, d_f1, d_f2, d_f3⟩ := cells4 (O6.out.nth 1 rfl)
  have l_d := lt_blk (O6.out.nth 1 rfl)
  obtain ⟨u_0, u_1, u_2, u_3, u_f0, u_f1, u_f2, u_f3⟩ := cells4 (O6.out.nth 2 rfl)
  have l_u := lt_blk (O6.out.nth 2 rfl)
  obtain ⟨s_0, s_1, s_2, s_3, s_f0, s_f1, s_f2, s_f3⟩ := cells4 (O6.out.nth 3 rfl)
  have l_s := lt_blk (O6.out.nth 3 rfl)
  go_wp2_with fail
  refine ((hE _).out).mono ?_
  rintro e w7 ⟨rfl, hb⟩
  have O7 := Lib.hid ((O6.out.alloc w6.heap.size _ rfl).call hb)
  clear hb O6 p_0 p_1 p_2 p_3 p_f0 p_f1 p_f2 p_f3 l_p d_0 d_1 d_2 d_3 d_f0 d_f1 d_f2 d_f3 l_d u_0 u_1 u_2 u_3 u_f0 u_f1 u_f2 u_f3 l_u s_0 s_1 s_2 s_3 s_f0 s_f1 s_f2 s_f3 l_s
  obtain ⟨q_0, q_1, q_2, q_3, q_f0, q_f1, q_f2, q_f3⟩ := cells4 (O7.out.nth 0 rfl)
  have l_q := lt_blk (O7.out.nth 0 rfl)
  obtain ⟨p_0, p_1, p_2, p_3, p_f0, p_f1, p_f2, p_f3⟩ := cells4 (O7.out.nth 1 rfl)
  have l_p := lt_blk (O7.out.nth 1 rfl)
  obtain ⟨d_0, d_1, d_2, d_3, d_f0, d_f1, d_f2, d_f3⟩ := cells4 (O7.out.nth 2 rfl)
  have l_d := lt_blk (O7.out.nth 2 rfl)
  obtain ⟨u_0, u_1, u_2, u_3, u_f0, u_f1, u_f2, u_f3⟩ := cells4 (O7.out.nth 3 rfl)
  have l_u := lt_blk (O7.out.nth 3 rfl)
  obtain ⟨s_0, s_1, s_2, s_3, s_f0, s_f1, s_f2, s_f3⟩ := cells4 (O7.out.nth 4 rfl)
  have l_s := lt_blk (O7.out.nth 4 rfl)
  go_wp2_with fail
  refine ((hG _).out).mono ?_
  rintro e w8 ⟨rfl, hb⟩
  have O8 := Lib.hid (O7.out.call hb)
  clear hb O7 q_0 q_1 q_2 q_3 q_f0 q_f1 q_f2 q_f3 l_q p_0 p_1 p_2 p_3 p_f0 p_f1 p_f2 p_f3 l_p d_0 d_1 d_2 d_3 d_f0 d_f1 d_f2 d_f3 l_d u_0 u_1 u_2 u_3 u_f0 u_f1 u_f2 u_f3 l_u s_0 s_1 s_2 s_3 s_f0 s_f1 s_f2 s_f3 l_s
  obtain ⟨q_0, q_1, q_2, q_3, q_f0, q_f1, q_f2, q_f3⟩ := cells4 (O8.out.nth 0 rfl)
  have l_q := lt_blk (O8.out.nth 0 rfl)
  obtain ⟨p_0, p_1, p_2, p_3, p_f0, p_f1, p_f2, p_f3⟩ := cells4 (O8.out.nth 1 rfl)
  have l_p := lt_blk (O8.out.nth 1 rfl)
  obtain ⟨d_0, d_1, d_2, d_3, d_f0, d_f1, d_f2, d_f3⟩ := cells4 (O8.out.nth 2 rfl)
  have l_d := lt_blk (O8.out.nth 2 rfl)
  obtain ⟨u_0, u_1, u_2, u_3, u_f0, u_f1, u_f2, u_f3⟩ := cells4 (O8.out.nth 3 rfl)
  have l_u := lt_blk (O8.out.nth 3 rfl)
  obtain ⟨s_0, s_1, s_2, s_3, s_f0, s_f1, s_f2, s_f3⟩ := cells4 (O8.out.nth 4 rfl)
  have l_s := lt_blk (O8.out.nth 4 rfl)
  go_wp2_with fail
  go_region_held3 (fun W => W.cell? ⟨w.heap.size, 0, none⟩ = some (.int .i64 st) ∧ W.cell? ⟨w.heap.size, 1, none⟩ = some (.int .i64 pa) ∧ W.cell? ⟨w.heap.size, 2, none⟩ = some (.int .u32 po) ∧ W.cell? ⟨w.heap.size, 3, none⟩ = some (.int .i64 un)) (first | exact ⟨s_0, s_1, s_2, s_3⟩ | go_keep) (first | (go_at_call 22; refine ((hR _).out).mono ?_; rintro e w9 ⟨rfl, hb⟩; (first | (replace O8 := Lib.hid (O8.out.drew.call hb)) | (replace O8 := Lib.hid (O8.out.call hb))); clear hb; obtain ⟨s_0, s_1, s_2, s_3, _, _, _, _⟩ := cells4 (O8.out.nth 4 rfl)) | (go_at_call 18; refine ((hS _).out).mono ?_; rintro e w9 ⟨rfl, hb⟩; (first | (replace O8 := Lib.hid (O8.out.drew.call hb)) | (replace O8 := Lib.hid (O8.out.call hb))); clear hb; obtain ⟨s_0, s_1, s_2, s_3, _, _, _, _⟩ := cells4 (O8.out.nth 4 rfl)))
  obtain ⟨u_0, u_1, u_2, u_3, _, _, _, _⟩ := cells4 (O8.out.nth 3 rfl)
  have l_u := lt_blk (O8.out.nth 3 rfl)
  obtain ⟨d_0, d_1, d_2, d_3, _, _, _, _⟩ := cells4 (O8.out.nth 2 rfl)
  have l_d := lt_blk (O8.out.nth 2 rfl)
  obtain ⟨p_0, p_1, p_2, p_3, _, _, _, _⟩ := cells4 (O8.out.nth 1 rfl)
  have l_p := lt_blk (O8.out.nth 1 rfl)
  obtain ⟨q_0, q_1, q_2, q_3, _, _, _, _⟩ := cells4 (O8.out.nth 0 rfl)
  have l_q := lt_blk (O8.out.nth 0 rfl)
  have l_s := lt_blk (O8.out.nth 4 rfl)
  go_wp2_with fail
  go_region_held3 (fun W => W.cell? ⟨w.heap.size, 0, none⟩ = some (.int .i64 st) ∧ W.cell? ⟨w.heap.size, 1, none⟩ = some (.int .i64 pa) ∧ W.cell? ⟨w.heap.size, 2, none⟩ = some (.int .u32 po) ∧ W.cell? ⟨w.heap.size, 3, none⟩ = some (.int .i64 un) ∧ W.cell? ⟨w3.heap.size, 0, none⟩ = some (.int .i64 0) ∧ W.cell? ⟨w3.heap.size, 1, none⟩ = some (.int .i64 0) ∧ W.cell? ⟨w3.heap.size, 2, none⟩ = some (.int .u32 0) ∧ W.cell? ⟨w3.heap.size, 3, none⟩ = some (.int .i64 0) ∧ W.cell? ⟨w4.heap.size, 0, none⟩ = some (.int .i64 0) ∧ W.cell? ⟨w4.heap.size, 1, none⟩ = some (.int .i64 pa) ∧ W.cell? ⟨w4.heap.size, 2, none⟩ = some (.int .u32 0) ∧ W.cell? ⟨w4.heap.size, 3, none⟩ = some (.int .i64 0)) (first | exact ⟨s_0, s_1, s_2, s_3, u_0, u_1, u_2, u_3, d_0, d_1, d_2, d_3⟩ | go_keep) (first | (go_at_call 19; refine (ready_ _ _ _ _ _ _).mono ?_; rintro e w10 ⟨rfl, hb⟩; (first | (replace O8 := Lib.hid (O8.out.drew.call hb)) | (replace O8 := Lib.hid (O8.out.call hb))); clear hb; obtain ⟨s_0, s_1, s_2, s_3, _, _, _, _⟩ := cells4 (O8.out.nth 4 rfl); obtain ⟨u_0, u_1, u_2, u_3, _, _, _, _⟩ := cells4 (O8.out.nth 3 rfl); obtain ⟨d_0, d_1, d_2, d_3, _, _, _, _⟩ := cells4 (O8.out.nth 2 rfl)))
  obtain ⟨p_0, p_1, p_2, p_3, _, _, _, _⟩ := cells4 (O8.out.nth 1 rfl)
  obtain ⟨q_0, q_1, q_2, q_3, _, _, _, _⟩ := cells4 (O8.out.nth 0 rfl)
  have l_u := lt_blk (O8.out.nth 3 rfl)
  have l_d := lt_blk (O8.out.nth 2 rfl)
  have l_p := lt_blk (O8.out.nth 1 rfl)
  have l_q := lt_blk (O8.out.nth 0 rfl)
  have l_s := lt_blk (O8.out.nth 4 rfl)
  go_wp2_with fail
  go_region
  all_goals
    go_wp2_with fail
    refine (rruns_ _ _ _ _ _).mono ?_
    rintro e w11 ⟨rfl, hb⟩
    have HB := Lib.hid (low_2 (show Below w.heap.size w _ by repeat (first | exact O8.out.below | apply below_al | apply Below.drew)) hb)
    clear hb
    go_wp2
    go_ret
    exact ⟨rfl, HB.out⟩

end Go.Proofs.Ytjppkcdonddohaa.A
