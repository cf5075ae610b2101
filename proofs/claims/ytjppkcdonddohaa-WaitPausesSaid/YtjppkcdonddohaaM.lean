/-
  Walks of the wait layer's statements: WaitEnds.
-/
import Derived.Test.YtjppkcdonddohaaJ
set_option linter.unusedVariables false
set_option linter.unusedSimpArgs false
namespace Go.Proofs.Ytjppkcdonddohaa.A
open Go.RowKit
theorem Own.sub {w0 w : World} {L L' : List (Nat × Obj)} (h : Own w0 w L) (hs : ∀ p ∈ L', p ∈ L) : Own w0 w L' := ⟨h.below, fun p hp => h.at_ p (hs p hp)⟩
theorem mx2_int (k k' : IntKind) (x y : Int) : Builtin.max2 (.int k x) (.int k' y) = pure (.int k (if x < y then y else x)) := by simp only [Builtin.max2, gt_iff_lt]
theorem mx_two (ats : Array TypeId) (ty : TypeId) (a b : Value) : Builtin.max_ ats ty #[a, b] = (Builtin.max2 a b >>= fun s => pure s) := by simp only [Builtin.max_, List.foldlM_cons, List.foldlM_nil]
attribute [local go_sem] mx2_int mx_two

set_option maxRecDepth 100000 in
set_option maxHeartbeats 6400000 in
theorem ends_bad (ap ad au an port : Int) (hp0 : -9223372036854775808 ≤ port) (hp1 : port ≤ 9223372036854775807) (w : World)
    (g1 : ∀ W, Hid (Calls Try.prog 17 #[.agg (St.cells ⟨1, 0, 0, 0⟩), .bool false] W fun e w' => e = .returned (triple ⟨2, 0, 0, 0⟩ true 0) ∧ Below W.heap.size W w'))
    (g2 : ∀ q W, 0 ≤ q → q < 32 → Hid (Calls Try.prog 10 #[.agg (St.cells ⟨2, 0, 0, 0⟩), .int .i64 q, .bool false] W fun e w' => e = .returned (triple ⟨1, 0, 0, 0⟩ true 0) ∧ Below W.heap.size W w'))
    (g3 : ∀ W, Hid (Calls Try.prog 22 #[.agg (St.cells ⟨1, 0, 0, 0⟩)] W fun e w' => e = .returned (.bool true) ∧ Below W.heap.size W w'))
    (g4 : ∀ q W, 0 ≤ q → q < 32 → Hid (Calls Try.prog 10 #[.agg (St.cells ⟨2, 0, 0, 0⟩), .int .i64 q, .bool true] W fun e w' => e = .returned (triple ⟨2, 0, 0, 0⟩ false 0) ∧ Below W.heap.size W w'))
    (g5 : ∀ W, Hid (Calls Try.prog 15 #[.agg (St.cells ⟨1, 0, 0, 0⟩), .int .u32 ap, .int .i64 au, .int .i64 an, .int .u32 ad] W fun e w' => e = .returned (triple ⟨0, 0, 0, 0⟩ false 2) ∧ Below W.heap.size W w')) :
    Calls Try.prog 7 #[.agg #[.int .u32 ap, .int .u32 ad, .int .i64 au, .int .i64 an], .int .i64 port] w fun e w' => e = .returned (.bool true) ∧ Below w.heap.size w w' := by
  have O := Lib.hid (Own.start w)
  by_cases hneg : port < 0
  · have hq0 : 0 ≤ (0 : Int) := by omega
    go_enter Try.func7, Try.ntmps7
    go_wp2_with fail
    refine (wakes_ _).mono ?_
    rintro e w1 ⟨rfl, hb⟩
    have O1 := Lib.hid ((O.out.alloc w.heap.size _ rfl).call hb)
    clear hb O 
    obtain ⟨a_0, a_1, a_2, a_3⟩ := cells_ask (O1.out.nth 0 rfl)
    have l_a := lt_blk (O1.out.nth 0 rfl)
    go_wp2_with fail
    refine ((g1 _).out).mono ?_
    rintro e w2 ⟨rfl, hb⟩
    have O2 := Lib.hid ((O1.out.alloc w1.heap.size _ rfl).call hb)
    clear hb O1 a_0 a_1 a_2 a_3 l_a
    obtain ⟨r_0, r_1, r_2, r_3, r_f0, r_f1, r_f2, r_f3⟩ := cells4 (O2.out.nth 0 rfl)
    have l_r := lt_blk (O2.out.nth 0 rfl)
    obtain ⟨a_0, a_1, a_2, a_3⟩ := cells_ask (O2.out.nth 1 rfl)
    have l_a := lt_blk (O2.out.nth 1 rfl)
    go_wp2_with fail
    refine ((g2 _ _ (by omega) (by omega)).out).mono ?_
    rintro e w3 ⟨rfl, hb⟩
    have O3 := Lib.hid ((O2.out.alloc w2.heap.size _ rfl).call hb)
    clear hb O2 r_0 r_1 r_2 r_3 r_f0 r_f1 r_f2 r_f3 l_r a_0 a_1 a_2 a_3 l_a
    obtain ⟨b_0, b_1, b_2, b_3, b_f0, b_f1, b_f2, b_f3⟩ := cells4 (O3.out.nth 0 rfl)
    have l_b := lt_blk (O3.out.nth 0 rfl)
    obtain ⟨r_0, r_1, r_2, r_3, r_f0, r_f1, r_f2, r_f3⟩ := cells4 (O3.out.nth 1 rfl)
    have l_r := lt_blk (O3.out.nth 1 rfl)
    obtain ⟨a_0, a_1, a_2, a_3⟩ := cells_ask (O3.out.nth 2 rfl)
    have l_a := lt_blk (O3.out.nth 2 rfl)
    go_wp2_with fail
    refine ((g3 _).out).mono ?_
    rintro e w4 ⟨rfl, hb⟩
    have O4 := Lib.hid ((O3.out.alloc w3.heap.size _ rfl).call hb)
    clear hb O3 b_0 b_1 b_2 b_3 b_f0 b_f1 b_f2 b_f3 l_b r_0 r_1 r_2 r_3 r_f0 r_f1 r_f2 r_f3 l_r a_0 a_1 a_2 a_3 l_a
    obtain ⟨x_0, x_1, x_2, x_3, x_f0, x_f1, x_f2, x_f3⟩ := cells4 (O4.out.nth 0 rfl)
    have l_x := lt_blk (O4.out.nth 0 rfl)
    obtain ⟨b_0, b_1, b_2, b_3, b_f0, b_f1, b_f2, b_f3⟩ := cells4 (O4.out.nth 1 rfl)
    have l_b := lt_blk (O4.out.nth 1 rfl)
    obtain ⟨r_0, r_1, r_2, r_3, r_f0, r_f1, r_f2, r_f3⟩ := cells4 (O4.out.nth 2 rfl)
    have l_r := lt_blk (O4.out.nth 2 rfl)
    obtain ⟨a_0, a_1, a_2, a_3⟩ := cells_ask (O4.out.nth 3 rfl)
    have l_a := lt_blk (O4.out.nth 3 rfl)
    go_wp2_with fail
    refine ((g4 _ _ (by omega) (by omega)).out).mono ?_
    rintro e w5 ⟨rfl, hb⟩
    have O5 := Lib.hid (O4.out.call hb)
    clear hb O4 x_0 x_1 x_2 x_3 x_f0 x_f1 x_f2 x_f3 l_x b_0 b_1 b_2 b_3 b_f0 b_f1 b_f2 b_f3 l_b r_0 r_1 r_2 r_3 r_f0 r_f1 r_f2 r_f3 l_r a_0 a_1 a_2 a_3 l_a
    obtain ⟨x_0, x_1, x_2, x_3, x_f0, x_f1, x_f2, x_f3⟩ := cells4 (O5.out.nth 0 rfl)
    have l_x := lt_blk (O5.out.nth 0 rfl)
    obtain ⟨b_0, b_1, b_2, b_3, b_f0, b_f1, b_f2, b_f3⟩ := cells4 (O5.out.nth 1 rfl)
    have l_b := lt_blk (O5.out.nth 1 rfl)
    obtain ⟨r_0, r_1, r_2, r_3, r_f0, r_f1, r_f2, r_f3⟩ := cells4 (O5.out.nth 2 rfl)
    have l_r := lt_blk (O5.out.nth 2 rfl)
    obtain ⟨a_0, a_1, a_2, a_3⟩ := cells_ask (O5.out.nth 3 rfl)
    have l_a := lt_blk (O5.out.nth 3 rfl)
    go_wp2_with fail
    refine ((g5 _).out).mono ?_
    rintro e w6 ⟨rfl, hb⟩
    have O6 := Lib.hid ((O5.out.alloc w5.heap.size _ rfl).call hb)
    clear hb O5 x_0 x_1 x_2 x_3 x_f0 x_f1 x_f2 x_f3 l_x b_0 b_1 b_2 b_3 b_f0 b_f1 b_f2 b_f3 l_b r_0 r_1 r_2 r_3 r_f0 r_f1 r_f2 r_f3 l_r a_0 a_1 a_2 a_3 l_a
    obtain ⟨m_0, m_1, m_2, m_3, m_f0, m_f1, m_f2, m_f3⟩ := cells4 (O6.out.nth 0 rfl)
    have l_m := lt_blk (O6.out.nth 0 rfl)
    obtain ⟨x_0, x_1, x_2, x_3, x_f0, x_f1, x_f2, x_f3⟩ := cells4 (O6.out.nth 1 rfl)
    have l_x := lt_blk (O6.out.nth 1 rfl)
    obtain ⟨b_0, b_1, b_2, b_3, b_f0, b_f1, b_f2, b_f3⟩ := cells4 (O6.out.nth 2 rfl)
    have l_b := lt_blk (O6.out.nth 2 rfl)
    obtain ⟨r_0, r_1, r_2, r_3, r_f0, r_f1, r_f2, r_f3⟩ := cells4 (O6.out.nth 3 rfl)
    have l_r := lt_blk (O6.out.nth 3 rfl)
    obtain ⟨a_0, a_1, a_2, a_3⟩ := cells_ask (O6.out.nth 4 rfl)
    have l_a := lt_blk (O6.out.nth 4 rfl)
    go_wp2
    go_ret
    exact ⟨rfl, (O6.out.below.alloc (by exact O6.out.below.size) _)⟩
  · have hq0 : 0 ≤ port % 32 := by omega
    have hq1 : port % 32 < 32 := by omega
    go_enter Try.func7, Try.ntmps7
    go_wp2_with fail
    refine (wakes_ _).mono ?_
    rintro e w1 ⟨rfl, hb⟩
    have O1 := Lib.hid ((O.out.alloc w.heap.size _ rfl).call hb)
    clear hb O 
    obtain ⟨a_0, a_1, a_2, a_3⟩ := cells_ask (O1.out.nth 0 rfl)
    have l_a := lt_blk (O1.out.nth 0 rfl)
    go_wp2_with fail
    refine ((g1 _).out).mono ?_
    rintro e w2 ⟨rfl, hb⟩
    have O2 := Lib.hid ((O1.out.alloc w1.heap.size _ rfl).call hb)
    clear hb O1 a_0 a_1 a_2 a_3 l_a
    obtain ⟨r_0, r_1, r_2, r_3, r_f0, r_f1, r_f2, r_f3⟩ := cells4 (O2.out.nth 0 rfl)
    have l_r := lt_blk (O2.out.nth 0 rfl)
    obtain ⟨a_0, a_1, a_2, a_3⟩ := cells_ask (O2.out.nth 1 rfl)
    have l_a := lt_blk (O2.out.nth 1 rfl)
    go_wp2_with fail
    refine ((g2 _ _ (by omega) (by omega)).out).mono ?_
    rintro e w3 ⟨rfl, hb⟩
    have O3 := Lib.hid ((O2.out.alloc w2.heap.size _ rfl).call hb)
    clear hb O2 r_0 r_1 r_2 r_3 r_f0 r_f1 r_f2 r_f3 l_r a_0 a_1 a_2 a_3 l_a
    obtain ⟨b_0, b_1, b_2, b_3, b_f0, b_f1, b_f2, b_f3⟩ := cells4 (O3.out.nth 0 rfl)
    have l_b := lt_blk (O3.out.nth 0 rfl)
    obtain ⟨r_0, r_1, r_2, r_3, r_f0, r_f1, r_f2, r_f3⟩ := cells4 (O3.out.nth 1 rfl)
    have l_r := lt_blk (O3.out.nth 1 rfl)
    obtain ⟨a_0, a_1, a_2, a_3⟩ := cells_ask (O3.out.nth 2 rfl)
    have l_a := lt_blk (O3.out.nth 2 rfl)
    go_wp2_with fail
    refine ((g3 _).out).mono ?_
    rintro e w4 ⟨rfl, hb⟩
    have O4 := Lib.hid ((O3.out.alloc w3.heap.size _ rfl).call hb)
    clear hb O3 b_0 b_1 b_2 b_3 b_f0 b_f1 b_f2 b_f3 l_b r_0 r_1 r_2 r_3 r_f0 r_f1 r_f2 r_f3 l_r a_0 a_1 a_2 a_3 l_a
    obtain ⟨x_0, x_1, x_2, x_3, x_f0, x_f1, x_f2, x_f3⟩ := cells4 (O4.out.nth 0 rfl)
    have l_x := lt_blk (O4.out.nth 0 rfl)
    obtain ⟨b_0, b_1, b_2, b_3, b_f0, b_f1, b_f2, b_f3⟩ := cells4 (O4.out.nth 1 rfl)
    have l_b := lt_blk (O4.out.nth 1 rfl)
    obtain ⟨r_0, r_1, r_2, r_3, r_f0, r_f1, r_f2, r_f3⟩ := cells4 (O4.out.nth 2 rfl)
    have l_r := lt_blk (O4.out.nth 2 rfl)
    obtain ⟨a_0, a_1, a_2, a_3⟩ := cells_ask (O4.out.nth 3 rfl)
    have l_a := lt_blk (O4.out.nth 3 rfl)
    go_wp2_with fail
    refine ((g4 _ _ (by omega) (by omega)).out).mono ?_
    rintro e w5 ⟨rfl, hb⟩
    have O5 := Lib.hid (O4.out.call hb)
    clear hb O4 x_0 x_1 x_2 x_3 x_f0 x_f1 x_f2 x_f3 l_x b_0 b_1 b_2 b_3 b_f0 b_f1 b_f2 b_f3 l_b r_0 r_1 r_2 r_3 r_f0 r_f1 r_f2 r_f3 l_r a_0 a_1 a_2 a_3 l_a
    obtain ⟨x_0, x_1, x_2, x_3, x_f0, x_f1, x_f2, x_f3⟩ := cells4 (O5.out.nth 0 rfl)
    have l_x := lt_blk (O5.out.nth 0 rfl)
    obtain ⟨b_0, b_1, b_2, b_3, b_f0, b_f1, b_f2, b_f3⟩ := cells4 (O5.out.nth 1 rfl)
    have l_b := lt_blk (O5.out.nth 1 rfl)
    obtain ⟨r_0, r_1, r_2, r_3, r_f0, r_f1, r_f2, r_f3⟩ := cells4 (O5.out.nth 2 rfl)
    have l_r := lt_blk (O5.out.nth 2 rfl)
    obtain ⟨a_0, a_1, a_2, a_3⟩ := cells_ask (O5.out.nth 3 rfl)
    have l_a := lt_blk (O5.out.nth 3 rfl)
    go_wp2_with fail
    refine ((g5 _).out).mono ?_
    rintro e w6 ⟨rfl, hb⟩
    have O6 := Lib.hid ((O5.out.alloc w5.heap.size _ rfl).call hb)
    clear hb O5 x_0 x_1 x_2 x_3 x_f0 x_f1 x_f2 x_f3 l_x b_0 b_1 b_2 b_3 b_f0 b_f1 b_f2 b_f3 l_b r_0 r_1 r_2 r_3 r_f0 r_f1 r_f2 r_f3 l_r a_0 a_1 a_2 a_3 l_a
    obtain ⟨m_0, m_1, m_2, m_3, m_f0, m_f1, m_f2, m_f3⟩ := cells4 (O6.out.nth 0 rfl)
    have l_m := lt_blk (O6.out.nth 0 rfl)
    obtain ⟨x_0, x_1, x_2, x_3, x_f0, x_f1, x_f2, x_f3⟩ := cells4 (O6.out.nth 1 rfl)
    have l_x := lt_blk (O6.out.nth 1 rfl)
    obtain ⟨b_0, b_1, b_2, b_3, b_f0, b_f1, b_f2, b_f3⟩ := cells4 (O6.out.nth 2 rfl)
    have l_b := lt_blk (O6.out.nth 2 rfl)
    obtain ⟨r_0, r_1, r_2, r_3, r_f0, r_f1, r_f2, r_f3⟩ := cells4 (O6.out.nth 3 rfl)
    have l_r := lt_blk (O6.out.nth 3 rfl)
    obtain ⟨a_0, a_1, a_2, a_3⟩ := cells_ask (O6.out.nth 4 rfl)
    have l_a := lt_blk (O6.out.nth 4 rfl)
    go_wp2
    go_ret
    exact ⟨rfl, (O6.out.below.alloc (by exact O6.out.below.size) _)⟩

set_option maxRecDepth 100000 in
set_option maxHeartbeats 6400000 in
theorem ends_now (ap ad au an port : Int) (hp0 : -9223372036854775808 ≤ port) (hp1 : port ≤ 9223372036854775807) (w : World)
    (g1 : ∀ W, Hid (Calls Try.prog 17 #[.agg (St.cells ⟨1, 0, 0, 0⟩), .bool false] W fun e w' => e = .returned (triple ⟨2, 0, 0, 0⟩ true 0) ∧ Below W.heap.size W w'))
    (g2 : ∀ q W, 0 ≤ q → q < 32 → Hid (Calls Try.prog 10 #[.agg (St.cells ⟨2, 0, 0, 0⟩), .int .i64 q, .bool false] W fun e w' => e = .returned (triple ⟨1, 0, 0, 0⟩ true 0) ∧ Below W.heap.size W w'))
    (g3 : ∀ W, Hid (Calls Try.prog 22 #[.agg (St.cells ⟨1, 0, 0, 0⟩)] W fun e w' => e = .returned (.bool true) ∧ Below W.heap.size W w'))
    (g4 : ∀ q W, 0 ≤ q → q < 32 → Hid (Calls Try.prog 10 #[.agg (St.cells ⟨2, 0, 0, 0⟩), .int .i64 q, .bool true] W fun e w' => e = .returned (triple ⟨2, 0, 0, 0⟩ false 0) ∧ Below W.heap.size W w'))
    (g5 : ∀ W, Hid (Calls Try.prog 15 #[.agg (St.cells ⟨1, 0, 0, 0⟩), .int .u32 ap, .int .i64 au, .int .i64 an, .int .u32 ad] W fun e w' => e = .returned (triple ⟨1, 0, 0, 0⟩ false 0) ∧ Below W.heap.size W w')) :
    Calls Try.prog 7 #[.agg #[.int .u32 ap, .int .u32 ad, .int .i64 au, .int .i64 an], .int .i64 port] w fun e w' => e = .returned (.bool true) ∧ Below w.heap.size w w' := by
  have O := Lib.hid (Own.start w)
  by_cases hneg : port < 0
  · have hq0 : 0 ≤ (0 : Int) := by omega
    go_enter Try.func7, Try.ntmps7
    go_wp2_with fail
    refine (wakes_ _).mono ?_
    rintro e w1 ⟨rfl, hb⟩
    have O1 := Lib.hid ((O.out.alloc w.heap.size _ rfl).call hb)
    clear hb O 
    obtain ⟨a_0, a_1, a_2, a_3⟩ := cells_ask (O1.out.nth 0 rfl)
    have l_a := lt_blk (O1.out.nth 0 rfl)
    go_wp2_with fail
    refine ((g1 _).out).mono ?_
    rintro e w2 ⟨rfl, hb⟩
    have O2 := Lib.hid ((O1.out.alloc w1.heap.size _ rfl).call hb)
    clear hb O1 a_0 a_1 a_2 a_3 l_a
    obtain ⟨r_0, r_1, r_2, r_3, r_f0, r_f1, r_f2, r_f3⟩ := cells4 (O2.out.nth 0 rfl)
    have l_r := lt_blk (O2.out.nth 0 rfl)
    obtain ⟨a_0, a_1, a_2, a_3⟩ := cells_ask (O2.out.nth 1 rfl)
    have l_a := lt_blk (O2.out.nth 1 rfl)
    go_wp2_with fail
    refine ((g2 _ _ (by omega) (by omega)).out).mono ?_
    rintro e w3 ⟨rfl, hb⟩
    have O3 := Lib.hid ((O2.out.alloc w2.heap.size _ rfl).call hb)
    clear hb O2 r_0 r_1 r_2 r_3 r_f0 r_f1 r_f2 r_f3 l_r a_0 a_1 a_2 a_3 l_a
    obtain ⟨b_0, b_1, b_2, b_3, b_f0, b_f1, b_f2, b_f3⟩ := cells4 (O3.out.nth 0 rfl)
    have l_b := lt_blk (O3.out.nth 0 rfl)
    obtain ⟨r_0, r_1, r_2, r_3, r_f0, r_f1, r_f2, r_f3⟩ := cells4 (O3.out.nth 1 rfl)
    have l_r := lt_blk (O3.out.nth 1 rfl)
    obtain ⟨a_0, a_1, a_2, a_3⟩ := cells_ask (O3.out.nth 2 rfl)
    have l_a := lt_blk (O3.out.nth 2 rfl)
    go_wp2_with fail
    refine ((g3 _).out).mono ?_
    rintro e w4 ⟨rfl, hb⟩
    have O4 := Lib.hid ((O3.out.alloc w3.heap.size _ rfl).call hb)
    clear hb O3 b_0 b_1 b_2 b_3 b_f0 b_f1 b_f2 b_f3 l_b r_0 r_1 r_2 r_3 r_f0 r_f1 r_f2 r_f3 l_r a_0 a_1 a_2 a_3 l_a
    obtain ⟨x_0, x_1, x_2, x_3, x_f0, x_f1, x_f2, x_f3⟩ := cells4 (O4.out.nth 0 rfl)
    have l_x := lt_blk (O4.out.nth 0 rfl)
    obtain ⟨b_0, b_1, b_2, b_3, b_f0, b_f1, b_f2, b_f3⟩ := cells4 (O4.out.nth 1 rfl)
    have l_b := lt_blk (O4.out.nth 1 rfl)
    obtain ⟨r_0, r_1, r_2, r_3, r_f0, r_f1, r_f2, r_f3⟩ := cells4 (O4.out.nth 2 rfl)
    have l_r := lt_blk (O4.out.nth 2 rfl)
    obtain ⟨a_0, a_1, a_2, a_3⟩ := cells_ask (O4.out.nth 3 rfl)
    have l_a := lt_blk (O4.out.nth 3 rfl)
    go_wp2_with fail
    refine ((g4 _ _ (by omega) (by omega)).out).mono ?_
    rintro e w5 ⟨rfl, hb⟩
    have O5 := Lib.hid (O4.out.call hb)
    clear hb O4 x_0 x_1 x_2 x_3 x_f0 x_f1 x_f2 x_f3 l_x b_0 b_1 b_2 b_3 b_f0 b_f1 b_f2 b_f3 l_b r_0 r_1 r_2 r_3 r_f0 r_f1 r_f2 r_f3 l_r a_0 a_1 a_2 a_3 l_a
    obtain ⟨x_0, x_1, x_2, x_3, x_f0, x_f1, x_f2, x_f3⟩ := cells4 (O5.out.nth 0 rfl)
    have l_x := lt_blk (O5.out.nth 0 rfl)
    obtain ⟨b_0, b_1, b_2, b_3, b_f0, b_f1, b_f2, b_f3⟩ := cells4 (O5.out.nth 1 rfl)
    have l_b := lt_blk (O5.out.nth 1 rfl)
    obtain ⟨r_0, r_1, r_2, r_3, r_f0, r_f1, r_f2, r_f3⟩ := cells4 (O5.out.nth 2 rfl)
    have l_r := lt_blk (O5.out.nth 2 rfl)
    obtain ⟨a_0, a_1, a_2, a_3⟩ := cells_ask (O5.out.nth 3 rfl)
    have l_a := lt_blk (O5.out.nth 3 rfl)
    go_wp2_with fail
    refine ((g5 _).out).mono ?_
    rintro e w6 ⟨rfl, hb⟩
    have O6 := Lib.hid ((O5.out.alloc w5.heap.size _ rfl).call hb)
    clear hb O5 x_0 x_1 x_2 x_3 x_f0 x_f1 x_f2 x_f3 l_x b_0 b_1 b_2 b_3 b_f0 b_f1 b_f2 b_f3 l_b r_0 r_1 r_2 r_3 r_f0 r_f1 r_f2 r_f3 l_r a_0 a_1 a_2 a_3 l_a
    obtain ⟨m_0, m_1, m_2, m_3, m_f0, m_f1, m_f2, m_f3⟩ := cells4 (O6.out.nth 0 rfl)
    have l_m := lt_blk (O6.out.nth 0 rfl)
    obtain ⟨x_0, x_1, x_2, x_3, x_f0, x_f1, x_f2, x_f3⟩ := cells4 (O6.out.nth 1 rfl)
    have l_x := lt_blk (O6.out.nth 1 rfl)
    obtain ⟨b_0, b_1, b_2, b_3, b_f0, b_f1, b_f2, b_f3⟩ := cells4 (O6.out.nth 2 rfl)
    have l_b := lt_blk (O6.out.nth 2 rfl)
    obtain ⟨r_0, r_1, r_2, r_3, r_f0, r_f1, r_f2, r_f3⟩ := cells4 (O6.out.nth 3 rfl)
    have l_r := lt_blk (O6.out.nth 3 rfl)
    obtain ⟨a_0, a_1, a_2, a_3⟩ := cells_ask (O6.out.nth 4 rfl)
    have l_a := lt_blk (O6.out.nth 4 rfl)
    go_wp2
    go_ret
    exact ⟨rfl, (O6.out.below.alloc (by exact O6.out.below.size) _)⟩
  · have hq0 : 0 ≤ port % 32 := by omega
    have hq1 : port % 32 < 32 := by omega
    go_enter Try.func7, Try.ntmps7
    go_wp2_with fail
    refine (wakes_ _).mono ?_
    rintro e w1 ⟨rfl, hb⟩
    have O1 := Lib.hid ((O.out.alloc w.heap.size _ rfl).call hb)
    clear hb O 
    obtain ⟨a_0, a_1, a_2, a_3⟩ := cells_ask (O1.out.nth 0 rfl)
    have l_a := lt_blk (O1.out.nth 0 rfl)
    go_wp2_with fail
    refine ((g1 _).out).mono ?_
    rintro e w2 ⟨rfl, hb⟩
    have O2 := Lib.hid ((O1.out.alloc w1.heap.size _ rfl).call hb)
    clear hb O1 a_0 a_1 a_2 a_3 l_a
    obtain ⟨r_0, r_1, r_2, r_3, r_f0, r_f1, r_f2, r_f3⟩ := cells4 (O2.out.nth 0 rfl)
    have l_r := lt_blk (O2.out.nth 0 rfl)
    obtain ⟨a_0, a_1, a_2, a_3⟩ := cells_ask (O2.out.nth 1 rfl)
    have l_a := lt_blk (O2.out.nth 1 rfl)
    go_wp2_with fail
    refine ((g2 _ _ (by omega) (by omega)).out).mono ?_
    rintro e w3 ⟨rfl, hb⟩
    have O3 := Lib.hid ((O2.out.alloc w2.heap.size _ rfl).call hb)
    clear hb O2 r_0 r_1 r_2 r_3 r_f0 r_f1 r_f2 r_f3 l_r a_0 a_1 a_2 a_3 l_a
    obtain ⟨b_0, b_1, b_2, b_3, b_f0, b_f1, b_f2, b_f3⟩ := cells4 (O3.out.nth 0 rfl)
    have l_b := lt_blk (O3.out.nth 0 rfl)
    obtain ⟨r_0, r_1, r_2, r_3, r_f0, r_f1, r_f2, r_f3⟩ := cells4 (O3.out.nth 1 rfl)
    have l_r := lt_blk (O3.out.nth 1 rfl)
    obtain ⟨a_0, a_1, a_2, a_3⟩ := cells_ask (O3.out.nth 2 rfl)
    have l_a := lt_blk (O3.out.nth 2 rfl)
    go_wp2_with fail
    refine ((g3 _).out).mono ?_
    rintro e w4 ⟨rfl, hb⟩
    have O4 := Lib.hid ((O3.out.alloc w3.heap.size _ rfl).call hb)
    clear hb O3 b_0 b_1 b_2 b_3 b_f0 b_f1 b_f2 b_f3 l_b r_0 r_1 r_2 r_3 r_f0 r_f1 r_f2 r_f3 l_r a_0 a_1 a_2 a_3 l_a
    obtain ⟨x_0, x_1, x_2, x_3, x_f0, x_f1, x_f2, x_f3⟩ := cells4 (O4.out.nth 0 rfl)
    have l_x := lt_blk (O4.out.nth 0 rfl)
    obtain ⟨b_0, b_1, b_2, b_3, b_f0, b_f1, b_f2, b_f3⟩ := cells4 (O4.out.nth 1 rfl)
    have l_b := lt_blk (O4.out.nth 1 rfl)
    obtain ⟨r_0, r_1, r_2, r_3, r_f0, r_f1, r_f2, r_f3⟩ := cells4 (O4.out.nth 2 rfl)
    have l_r := lt_blk (O4.out.nth 2 rfl)
    obtain ⟨a_0, a_1, a_2, a_3⟩ := cells_ask (O4.out.nth 3 rfl)
    have l_a := lt_blk (O4.out.nth 3 rfl)
    go_wp2_with fail
    refine ((g4 _ _ (by omega) (by omega)).out).mono ?_
    rintro e w5 ⟨rfl, hb⟩
    have O5 := Lib.hid (O4.out.call hb)
    clear hb O4 x_0 x_1 x_2 x_3 x_f0 x_f1 x_f2 x_f3 l_x b_0 b_1 b_2 b_3 b_f0 b_f1 b_f2 b_f3 l_b r_0 r_1 r_2 r_3 r_f0 r_f1 r_f2 r_f3 l_r a_0 a_1 a_2 a_3 l_a
    obtain ⟨x_0, x_1, x_2, x_3, x_f0, x_f1, x_f2, x_f3⟩ := cells4 (O5.out.nth 0 rfl)
    have l_x := lt_blk (O5.out.nth 0 rfl)
    obtain ⟨b_0, b_1, b_2, b_3, b_f0, b_f1, b_f2, b_f3⟩ := cells4 (O5.out.nth 1 rfl)
    have l_b := lt_blk (O5.out.nth 1 rfl)
    obtain ⟨r_0, r_1, r_2, r_3, r_f0, r_f1, r_f2, r_f3⟩ := cells4 (O5.out.nth 2 rfl)
    have l_r := lt_blk (O5.out.nth 2 rfl)
    obtain ⟨a_0, a_1, a_2, a_3⟩ := cells_ask (O5.out.nth 3 rfl)
    have l_a := lt_blk (O5.out.nth 3 rfl)
    go_wp2_with fail
    refine ((g5 _).out).mono ?_
    rintro e w6 ⟨rfl, hb⟩
    have O6 := Lib.hid ((O5.out.alloc w5.heap.size _ rfl).call hb)
    clear hb O5 x_0 x_1 x_2 x_3 x_f0 x_f1 x_f2 x_f3 l_x b_0 b_1 b_2 b_3 b_f0 b_f1 b_f2 b_f3 l_b r_0 r_1 r_2 r_3 r_f0 r_f1 r_f2 r_f3 l_r a_0 a_1 a_2 a_3 l_a
    obtain ⟨m_0, m_1, m_2, m_3, m_f0, m_f1, m_f2, m_f3⟩ := cells4 (O6.out.nth 0 rfl)
    have l_m := lt_blk (O6.out.nth 0 rfl)
    obtain ⟨x_0, x_1, x_2, x_3, x_f0, x_f1, x_f2, x_f3⟩ := cells4 (O6.out.nth 1 rfl)
    have l_x := lt_blk (O6.out.nth 1 rfl)
    obtain ⟨b_0, b_1, b_2, b_3, b_f0, b_f1, b_f2, b_f3⟩ := cells4 (O6.out.nth 2 rfl)
    have l_b := lt_blk (O6.out.nth 2 rfl)
    obtain ⟨r_0, r_1, r_2, r_3, r_f0, r_f1, r_f2, r_f3⟩ := cells4 (O6.out.nth 3 rfl)
    have l_r := lt_blk (O6.out.nth 3 rfl)
    obtain ⟨a_0, a_1, a_2, a_3⟩ := cells_ask (O6.out.nth 4 rfl)
    have l_a := lt_blk (O6.out.nth 4 rfl)
    go_wp2
    go_ret
    exact ⟨rfl, (O6.out.below.alloc (by exact O6.out.below.size) _)⟩

set_option maxRecDepth 100000 in
set_option maxHeartbeats 12800000 in
theorem ends_zero (ap ad au an port : Int) (hp0 : -9223372036854775808 ≤ port) (hp1 : port ≤ 9223372036854775807) (hap0 : 0 ≤ ap) (hap1 : ap < 4294967296) (w : World)
    (g1 : ∀ W, Hid (Calls Try.prog 17 #[.agg (St.cells ⟨1, 0, 0, 0⟩), .bool false] W fun e w' => e = .returned (triple ⟨2, 0, 0, 0⟩ true 0) ∧ Below W.heap.size W w'))
    (g2 : ∀ q W, 0 ≤ q → q < 32 → Hid (Calls Try.prog 10 #[.agg (St.cells ⟨2, 0, 0, 0⟩), .int .i64 q, .bool false] W fun e w' => e = .returned (triple ⟨1, 0, 0, 0⟩ true 0) ∧ Below W.heap.size W w'))
    (g3 : ∀ W, Hid (Calls Try.prog 22 #[.agg (St.cells ⟨1, 0, 0, 0⟩)] W fun e w' => e = .returned (.bool true) ∧ Below W.heap.size W w'))
    (g4 : ∀ q W, 0 ≤ q → q < 32 → Hid (Calls Try.prog 10 #[.agg (St.cells ⟨2, 0, 0, 0⟩), .int .i64 q, .bool true] W fun e w' => e = .returned (triple ⟨2, 0, 0, 0⟩ false 0) ∧ Below W.heap.size W w'))
    (g5 : ∀ W, Hid (Calls Try.prog 15 #[.agg (St.cells ⟨1, 0, 0, 0⟩), .int .u32 ap, .int .i64 au, .int .i64 an, .int .u32 ad] W fun e w' => e = .returned (triple ⟨3, 0, ap, au⟩ true 0) ∧ Below W.heap.size W w'))
    (g6 : ∀ W, Hid (Calls Try.prog 22 #[.agg (St.cells ⟨3, 0, ap, au⟩)] W fun e w' => e = .returned (.bool false) ∧ Below W.heap.size W w'))
    (gT : ∀ (k : Nat) W, k < 32 → hasB ap k = true → Hid (Calls Try.prog 10 #[.agg (St.cells ⟨3, 0, ap, au⟩), .int .i64 k, .bool true] W fun e w' => e = .returned (triple ⟨1, 0, 0, 0⟩ true 0) ∧ Below W.heap.size W w'))
    (gF : ∀ (k : Nat) W, k < 32 → hasB ap k = false → Hid (Calls Try.prog 10 #[.agg (St.cells ⟨3, 0, ap, au⟩), .int .i64 k, .bool true] W fun e w' => e = .returned (triple ⟨3, 0, ap, au⟩ false 0) ∧ Below W.heap.size W w'))
    (gN : ∀ (k : Nat) W, k < 32 → Hid (Calls Try.prog 10 #[.agg (St.cells ⟨3, 0, ap, au⟩), .int .i64 k, .bool false] W fun e w' => e = .returned (triple ⟨1, 0, 0, 0⟩ true 0) ∧ Below W.heap.size W w'))
    (hz : (au == 0) = true)
    (g8 : ∀ W, Hid (Calls Try.prog 24 #[.agg (St.cells ⟨3, 0, ap, au⟩)] W fun e w' => e = .returned (.tuple #[.int .i64 au, .bool false]) ∧ Below W.heap.size W w'))
    (gZ : ∀ W, Hid (Calls Try.prog 12 #[.agg (St.cells ⟨3, 0, ap, au⟩), .int .i64 1125899906842624] W fun e w' => e = .returned (triple ⟨3, 0, ap, au⟩ false 0) ∧ Below W.heap.size W w')) :
    Calls Try.prog 7 #[.agg #[.int .u32 ap, .int .u32 ad, .int .i64 au, .int .i64 an], .int .i64 port] w fun e w' => e = .returned (.bool true) ∧ Below w.heap.size w w' := by
  have O := Lib.hid (Own.start w)
  by_cases hneg : port < 0
  · have hq0 : 0 ≤ (0 : Int) := by omega
    go_enter Try.func7, Try.ntmps7
    go_wp2_with fail
    refine (wakes_ _).mono ?_
    rintro e w1 ⟨rfl, hb⟩
    have O1 := Lib.hid ((O.out.alloc w.heap.size _ rfl).call hb)
    clear hb O 
    obtain ⟨a_0, a_1, a_2, a_3⟩ := cells_ask (O1.out.nth 0 rfl)
    have l_a := lt_blk (O1.out.nth 0 rfl)
    go_wp2_with fail
    refine ((g1 _).out).mono ?_
    rintro e w2 ⟨rfl, hb⟩
    have O2 := Lib.hid ((O1.out.alloc w1.heap.size _ rfl).call hb)
    clear hb O1 a_0 a_1 a_2 a_3 l_a
    obtain ⟨r_0, r_1, r_2, r_3, r_f0, r_f1, r_f2, r_f3⟩ := cells4 (O2.out.nth 0 rfl)
    have l_r := lt_blk (O2.out.nth 0 rfl)
    obtain ⟨a_0, a_1, a_2, a_3⟩ := cells_ask (O2.out.nth 1 rfl)
    have l_a := lt_blk (O2.out.nth 1 rfl)
    go_wp2_with fail
    refine ((g2 _ _ (by omega) (by omega)).out).mono ?_
    rintro e w3 ⟨rfl, hb⟩
    have O3 := Lib.hid ((O2.out.alloc w2.heap.size _ rfl).call hb)
    clear hb O2 r_0 r_1 r_2 r_3 r_f0 r_f1 r_f2 r_f3 l_r a_0 a_1 a_2 a_3 l_a
    obtain ⟨b_0, b_1, b_2, b_3, b_f0, b_f1, b_f2, b_f3⟩ := cells4 (O3.out.nth 0 rfl)
    have l_b := lt_blk (O3.out.nth 0 rfl)
    obtain ⟨r_0, r_1, r_2, r_3, r_f0, r_f1, r_f2, r_f3⟩ := cells4 (O3.out.nth 1 rfl)
    have l_r := lt_blk (O3.out.nth 1 rfl)
    obtain ⟨a_0, a_1, a_2, a_3⟩ := cells_ask (O3.out.nth 2 rfl)
    have l_a := lt_blk (O3.out.nth 2 rfl)
    go_wp2_with fail
    refine ((g3 _).out).mono ?_
    rintro e w4 ⟨rfl, hb⟩
    have O4 := Lib.hid ((O3.out.alloc w3.heap.size _ rfl).call hb)
    clear hb O3 b_0 b_1 b_2 b_3 b_f0 b_f1 b_f2 b_f3 l_b r_0 r_1 r_2 r_3 r_f0 r_f1 r_f2 r_f3 l_r a_0 a_1 a_2 a_3 l_a
    obtain ⟨x_0, x_1, x_2, x_3, x_f0, x_f1, x_f2, x_f3⟩ := cells4 (O4.out.nth 0 rfl)
    have l_x := lt_blk (O4.out.nth 0 rfl)
    obtain ⟨b_0, b_1, b_2, b_3, b_f0, b_f1, b_f2, b_f3⟩ := cells4 (O4.out.nth 1 rfl)
    have l_b := lt_blk (O4.out.nth 1 rfl)
    obtain ⟨r_0, r_1, r_2, r_3, r_f0, r_f1, r_f2, r_f3⟩ := cells4 (O4.out.nth 2 rfl)
    have l_r := lt_blk (O4.out.nth 2 rfl)
    obtain ⟨a_0, a_1, a_2, a_3⟩ := cells_ask (O4.out.nth 3 rfl)
    have l_a := lt_blk (O4.out.nth 3 rfl)
    go_wp2_with fail
    refine ((g4 _ _ (by omega) (by omega)).out).mono ?_
    rintro e w5 ⟨rfl, hb⟩
    have O5 := Lib.hid (O4.out.call hb)
    clear hb O4 x_0 x_1 x_2 x_3 x_f0 x_f1 x_f2 x_f3 l_x b_0 b_1 b_2 b_3 b_f0 b_f1 b_f2 b_f3 l_b r_0 r_1 r_2 r_3 r_f0 r_f1 r_f2 r_f3 l_r a_0 a_1 a_2 a_3 l_a
    obtain ⟨x_0, x_1, x_2, x_3, x_f0, x_f1, x_f2, x_f3⟩ := cells4 (O5.out.nth 0 rfl)
    have l_x := lt_blk (O5.out.nth 0 rfl)
    obtain ⟨b_0, b_1, b_2, b_3, b_f0, b_f1, b_f2, b_f3⟩ := cells4 (O5.out.nth 1 rfl)
    have l_b := lt_blk (O5.out.nth 1 rfl)
    obtain ⟨r_0, r_1, r_2, r_3, r_f0, r_f1, r_f2, r_f3⟩ := cells4 (O5.out.nth 2 rfl)
    have l_r := lt_blk (O5.out.nth 2 rfl)
    obtain ⟨a_0, a_1, a_2, a_3⟩ := cells_ask (O5.out.nth 3 rfl)
    have l_a := lt_blk (O5.out.nth 3 rfl)
    go_wp2_with fail
    refine ((g5 _).out).mono ?_
    rintro e w6 ⟨rfl, hb⟩
    have O6 := Lib.hid ((O5.out.alloc w5.heap.size _ rfl).call hb)
    clear hb O5 x_0 x_1 x_2 x_3 x_f0 x_f1 x_f2 x_f3 l_x b_0 b_1 b_2 b_3 b_f0 b_f1 b_f2 b_f3 l_b r_0 r_1 r_2 r_3 r_f0 r_f1 r_f2 r_f3 l_r a_0 a_1 a_2 a_3 l_a
    obtain ⟨m_0, m_1, m_2, m_3, m_f0, m_f1, m_f2, m_f3⟩ := cells4 (O6.out.nth 0 rfl)
    have l_m := lt_blk (O6.out.nth 0 rfl)
    obtain ⟨x_0, x_1, x_2, x_3, x_f0, x_f1, x_f2, x_f3⟩ := cells4 (O6.out.nth 1 rfl)
    have l_x := lt_blk (O6.out.nth 1 rfl)
    obtain ⟨b_0, b_1, b_2, b_3, b_f0, b_f1, b_f2, b_f3⟩ := cells4 (O6.out.nth 2 rfl)
    have l_b := lt_blk (O6.out.nth 2 rfl)
    obtain ⟨r_0, r_1, r_2, r_3, r_f0, r_f1, r_f2, r_f3⟩ := cells4 (O6.out.nth 3 rfl)
    have l_r := lt_blk (O6.out.nth 3 rfl)
    obtain ⟨a_0, a_1, a_2, a_3⟩ := cells_ask (O6.out.nth 4 rfl)
    have l_a := lt_blk (O6.out.nth 4 rfl)
    go_wp2_with fail
    refine ((g6 _).out).mono ?_
    rintro e w7 ⟨rfl, hb⟩
    have O7 := Lib.hid ((O6.out.alloc w6.heap.size _ rfl).call hb)
    clear hb O6 m_0 m_1 m_2 m_3 m_f0 m_f1 m_f2 m_f3 l_m x_0 x_1 x_2 x_3 x_f0 x_f1 x_f2 x_f3 l_x b_0 b_1 b_2 b_3 b_f0 b_f1 b_f2 b_f3 l_b r_0 r_1 r_2 r_3 r_f0 r_f1 r_f2 r_f3 l_r a_0 a_1 a_2 a_3 l_a
    obtain ⟨p_0, p_1, p_2, p_3, p_f0, p_f1, p_f2, p_f3⟩ := cells4 (O7.out.nth 0 rfl)
    have l_p := lt_blk (O7.out.nth 0 rfl)
    obtain ⟨m_0, m_1, m_2, m_3, m_f0, m_f1, m_f2, m_f3⟩ := cells4 (O7.out.nth 1 rfl)
    have l_m := lt_blk (O7.out.nth 1 rfl)
    obtain ⟨x_0, x_1, x_2, x_3, x_f0, x_f1, x_f2, x_f3⟩ := cells4 (O7.out.nth 2 rfl)
    have l_x := lt_blk (O7.out.nth 2 rfl)
    obtain ⟨b_0, b_1, b_2, b_3, b_f0, b_f1, b_f2, b_f3⟩ := cells4 (O7.out.nth 3 rfl)
    have l_b := lt_blk (O7.out.nth 3 rfl)
    obtain ⟨r_0, r_1, r_2, r_3, r_f0, r_f1, r_f2, r_f3⟩ := cells4 (O7.out.nth 4 rfl)
    have l_r := lt_blk (O7.out.nth 4 rfl)
    obtain ⟨a_0, a_1, a_2, a_3⟩ := cells_ask (O7.out.nth 5 rfl)
    have l_a := lt_blk (O7.out.nth 5 rfl)
    clear p_0 p_1 p_2 p_3 p_f0 p_f1 p_f2 p_f3 l_p m_0 m_1 m_2 m_3 m_f0 m_f1 m_f2 m_f3 l_m x_0 x_1 x_2 x_3 x_f0 x_f1 x_f2 x_f3 l_x b_0 b_1 b_2 b_3 b_f0 b_f1 b_f2 b_f3 l_b r_0 r_1 r_2 r_3 r_f0 r_f1 r_f2 r_f3 l_r a_0 a_1 a_2 a_3 l_a
    go_wp2_with fail
    go_loopw [110] (fun i wr => ∃ k : Nat, k ≤ 32 ∧ i = .int .i64 k ∧ Hid (Own w wr [(w6.heap.size, .cells (St.cells ⟨3, 0, ap, au⟩) 24 (0, 0)), (w.heap.size, .cells #[.int .u32 ap, .int .u32 ad, .int .i64 au, .int .i64 an] 26 (0, 0))])) (fun i _ => 32 - (intOf i).toNat)
    case atStart => exact ⟨0, by omega, rfl, Lib.hid (O7.out.sub (by intro q hq; simp only [List.mem_cons] at hq ⊢; rcases hq with rfl | rfl | hq <;> simp_all))⟩
    case round =>
      obtain ⟨k, hk, rfl, O8⟩ := hrel
      obtain ⟨w8, rfl⟩ : ∃ w8 : World, w8 = wr := ⟨_, rfl⟩
      by_cases hlt : k < 32
      · cases hh : hasB ap k with
        | true =>
          have hh2 : (bits BinOp.and IntKind.u32 (ap / 2 ^ k) 1 == 1) = true := by simpa [hasB] using hh
          obtain ⟨p_0, p_1, p_2, p_3, p_f0, p_f1, p_f2, p_f3⟩ := cells4 (O8.out.nth 0 rfl)
          have l_p := lt_blk (O8.out.nth 0 rfl)
          obtain ⟨a_0, a_1, a_2, a_3⟩ := cells_ask (O8.out.nth 1 rfl)
          have l_a := lt_blk (O8.out.nth 1 rfl)
          go_wp2_with fail
          refine ((gT k _ hlt hh).out).mono ?_
          rintro e w9 ⟨rfl, hb⟩
          have O9 := Lib.hid (O8.out.call hb)
          clear hb O8 p_0 p_1 p_2 p_3 p_f0 p_f1 p_f2 p_f3 l_p a_0 a_1 a_2 a_3 l_a
          obtain ⟨p_0, p_1, p_2, p_3, p_f0, p_f1, p_f2, p_f3⟩ := cells4 (O9.out.nth 0 rfl)
          have l_p := lt_blk (O9.out.nth 0 rfl)
          obtain ⟨a_0, a_1, a_2, a_3⟩ := cells_ask (O9.out.nth 1 rfl)
          have l_a := lt_blk (O9.out.nth 1 rfl)
          go_wp2_with fail
          refine ((g3 _).out).mono ?_
          rintro e w10 ⟨rfl, hb⟩
          have O10 := Lib.hid ((O9.out.alloc w9.heap.size _ rfl).call hb)
          clear hb O9 p_0 p_1 p_2 p_3 p_f0 p_f1 p_f2 p_f3 l_p a_0 a_1 a_2 a_3 l_a
          obtain ⟨x_0, x_1, x_2, x_3, x_f0, x_f1, x_f2, x_f3⟩ := cells4 (O10.out.nth 0 rfl)
          have l_x := lt_blk (O10.out.nth 0 rfl)
          obtain ⟨p_0, p_1, p_2, p_3, p_f0, p_f1, p_f2, p_f3⟩ := cells4 (O10.out.nth 1 rfl)
          have l_p := lt_blk (O10.out.nth 1 rfl)
          obtain ⟨a_0, a_1, a_2, a_3⟩ := cells_ask (O10.out.nth 2 rfl)
          have l_a := lt_blk (O10.out.nth 2 rfl)
          go_wp2_with fail
          refine ((gN k _ hlt).out).mono ?_
          rintro e w11 ⟨rfl, hb⟩
          have O11 := Lib.hid (O10.out.call hb)
          clear hb O10 x_0 x_1 x_2 x_3 x_f0 x_f1 x_f2 x_f3 l_x p_0 p_1 p_2 p_3 p_f0 p_f1 p_f2 p_f3 l_p a_0 a_1 a_2 a_3 l_a
          obtain ⟨x_0, x_1, x_2, x_3, x_f0, x_f1, x_f2, x_f3⟩ := cells4 (O11.out.nth 0 rfl)
          have l_x := lt_blk (O11.out.nth 0 rfl)
          obtain ⟨p_0, p_1, p_2, p_3, p_f0, p_f1, p_f2, p_f3⟩ := cells4 (O11.out.nth 1 rfl)
          have l_p := lt_blk (O11.out.nth 1 rfl)
          obtain ⟨a_0, a_1, a_2, a_3⟩ := cells_ask (O11.out.nth 2 rfl)
          have l_a := lt_blk (O11.out.nth 2 rfl)
          go_wp2_with fail
          refine ((g3 _).out).mono ?_
          rintro e w12 ⟨rfl, hb⟩
          have O12 := Lib.hid ((O11.out.alloc w11.heap.size _ rfl).call hb)
          clear hb O11 x_0 x_1 x_2 x_3 x_f0 x_f1 x_f2 x_f3 l_x p_0 p_1 p_2 p_3 p_f0 p_f1 p_f2 p_f3 l_p a_0 a_1 a_2 a_3 l_a
          obtain ⟨y_0, y_1, y_2, y_3, y_f0, y_f1, y_f2, y_f3⟩ := cells4 (O12.out.nth 0 rfl)
          have l_y := lt_blk (O12.out.nth 0 rfl)
          obtain ⟨x_0, x_1, x_2, x_3, x_f0, x_f1, x_f2, x_f3⟩ := cells4 (O12.out.nth 1 rfl)
          have l_x := lt_blk (O12.out.nth 1 rfl)
          obtain ⟨p_0, p_1, p_2, p_3, p_f0, p_f1, p_f2, p_f3⟩ := cells4 (O12.out.nth 2 rfl)
          have l_p := lt_blk (O12.out.nth 2 rfl)
          obtain ⟨a_0, a_1, a_2, a_3⟩ := cells_ask (O12.out.nth 3 rfl)
          have l_a := lt_blk (O12.out.nth 3 rfl)
          go_wp2
          go_roundw
          case rel => exact ⟨k + 1, by omega, by go_num, Lib.hid (O12.out.sub (by intro q hq; simp only [List.mem_cons] at hq ⊢; rcases hq with rfl | rfl | hq <;> simp_all))⟩
          case measure => simp [intOf]; omega
        | false =>
          have hh2 : (bits BinOp.and IntKind.u32 (ap / 2 ^ k) 1 == 1) = false := by simpa [hasB] using hh
          obtain ⟨p_0, p_1, p_2, p_3, p_f0, p_f1, p_f2, p_f3⟩ := cells4 (O8.out.nth 0 rfl)
          have l_p := lt_blk (O8.out.nth 0 rfl)
          obtain ⟨a_0, a_1, a_2, a_3⟩ := cells_ask (O8.out.nth 1 rfl)
          have l_a := lt_blk (O8.out.nth 1 rfl)
          go_wp2_with fail
          refine ((gF k _ hlt hh).out).mono ?_
          rintro e w9 ⟨rfl, hb⟩
          have O9 := Lib.hid (O8.out.call hb)
          clear hb O8 p_0 p_1 p_2 p_3 p_f0 p_f1 p_f2 p_f3 l_p a_0 a_1 a_2 a_3 l_a
          obtain ⟨p_0, p_1, p_2, p_3, p_f0, p_f1, p_f2, p_f3⟩ := cells4 (O9.out.nth 0 rfl)
          have l_p := lt_blk (O9.out.nth 0 rfl)
          obtain ⟨a_0, a_1, a_2, a_3⟩ := cells_ask (O9.out.nth 1 rfl)
          have l_a := lt_blk (O9.out.nth 1 rfl)
          go_wp2_with fail
          refine ((g6 _).out).mono ?_
          rintro e w10 ⟨rfl, hb⟩
          have O10 := Lib.hid ((O9.out.alloc w9.heap.size _ rfl).call hb)
          clear hb O9 p_0 p_1 p_2 p_3 p_f0 p_f1 p_f2 p_f3 l_p a_0 a_1 a_2 a_3 l_a
          obtain ⟨x_0, x_1, x_2, x_3, x_f0, x_f1, x_f2, x_f3⟩ := cells4 (O10.out.nth 0 rfl)
          have l_x := lt_blk (O10.out.nth 0 rfl)
          obtain ⟨p_0, p_1, p_2, p_3, p_f0, p_f1, p_f2, p_f3⟩ := cells4 (O10.out.nth 1 rfl)
          have l_p := lt_blk (O10.out.nth 1 rfl)
          obtain ⟨a_0, a_1, a_2, a_3⟩ := cells_ask (O10.out.nth 2 rfl)
          have l_a := lt_blk (O10.out.nth 2 rfl)
          go_wp2_with fail
          refine ((gN k _ hlt).out).mono ?_
          rintro e w11 ⟨rfl, hb⟩
          have O11 := Lib.hid (O10.out.call hb)
          clear hb O10 x_0 x_1 x_2 x_3 x_f0 x_f1 x_f2 x_f3 l_x p_0 p_1 p_2 p_3 p_f0 p_f1 p_f2 p_f3 l_p a_0 a_1 a_2 a_3 l_a
          obtain ⟨x_0, x_1, x_2, x_3, x_f0, x_f1, x_f2, x_f3⟩ := cells4 (O11.out.nth 0 rfl)
          have l_x := lt_blk (O11.out.nth 0 rfl)
          obtain ⟨p_0, p_1, p_2, p_3, p_f0, p_f1, p_f2, p_f3⟩ := cells4 (O11.out.nth 1 rfl)
          have l_p := lt_blk (O11.out.nth 1 rfl)
          obtain ⟨a_0, a_1, a_2, a_3⟩ := cells_ask (O11.out.nth 2 rfl)
          have l_a := lt_blk (O11.out.nth 2 rfl)
          go_wp2_with fail
          refine ((g3 _).out).mono ?_
          rintro e w12 ⟨rfl, hb⟩
          have O12 := Lib.hid ((O11.out.alloc w11.heap.size _ rfl).call hb)
          clear hb O11 x_0 x_1 x_2 x_3 x_f0 x_f1 x_f2 x_f3 l_x p_0 p_1 p_2 p_3 p_f0 p_f1 p_f2 p_f3 l_p a_0 a_1 a_2 a_3 l_a
          obtain ⟨y_0, y_1, y_2, y_3, y_f0, y_f1, y_f2, y_f3⟩ := cells4 (O12.out.nth 0 rfl)
          have l_y := lt_blk (O12.out.nth 0 rfl)
          obtain ⟨x_0, x_1, x_2, x_3, x_f0, x_f1, x_f2, x_f3⟩ := cells4 (O12.out.nth 1 rfl)
          have l_x := lt_blk (O12.out.nth 1 rfl)
          obtain ⟨p_0, p_1, p_2, p_3, p_f0, p_f1, p_f2, p_f3⟩ := cells4 (O12.out.nth 2 rfl)
          have l_p := lt_blk (O12.out.nth 2 rfl)
          obtain ⟨a_0, a_1, a_2, a_3⟩ := cells_ask (O12.out.nth 3 rfl)
          have l_a := lt_blk (O12.out.nth 3 rfl)
          go_wp2
          go_roundw
          case rel => exact ⟨k + 1, by omega, by go_num, Lib.hid (O12.out.sub (by intro q hq; simp only [List.mem_cons] at hq ⊢; rcases hq with rfl | rfl | hq <;> simp_all))⟩
          case measure => simp [intOf]; omega
      · have : k = 32 := by omega
        subst this
        obtain ⟨p_0, p_1, p_2, p_3, p_f0, p_f1, p_f2, p_f3⟩ := cells4 (O8.out.nth 0 rfl)
        have l_p := lt_blk (O8.out.nth 0 rfl)
        obtain ⟨a_0, a_1, a_2, a_3⟩ := cells_ask (O8.out.nth 1 rfl)
        have l_a := lt_blk (O8.out.nth 1 rfl)
        go_wp2_with fail
        refine ((g8 _).out).mono ?_
        rintro e w9 ⟨rfl, hb⟩
        have O9 := Lib.hid (O8.out.call hb)
        clear hb O8 p_0 p_1 p_2 p_3 p_f0 p_f1 p_f2 p_f3 l_p a_0 a_1 a_2 a_3 l_a
        obtain ⟨p_0, p_1, p_2, p_3, p_f0, p_f1, p_f2, p_f3⟩ := cells4 (O9.out.nth 0 rfl)
        have l_p := lt_blk (O9.out.nth 0 rfl)
        obtain ⟨a_0, a_1, a_2, a_3⟩ := cells_ask (O9.out.nth 1 rfl)
        have l_a := lt_blk (O9.out.nth 1 rfl)
        go_wp2_with fail
        refine ((gZ _).out).mono ?_
        rintro e w10 ⟨rfl, hb⟩
        have O10 := Lib.hid (O9.out.call hb)
        clear hb O9 p_0 p_1 p_2 p_3 p_f0 p_f1 p_f2 p_f3 l_p a_0 a_1 a_2 a_3 l_a
        obtain ⟨p_0, p_1, p_2, p_3, p_f0, p_f1, p_f2, p_f3⟩ := cells4 (O10.out.nth 0 rfl)
        have l_p := lt_blk (O10.out.nth 0 rfl)
        obtain ⟨a_0, a_1, a_2, a_3⟩ := cells_ask (O10.out.nth 1 rfl)
        have l_a := lt_blk (O10.out.nth 1 rfl)
        go_wp2
        go_ret
        exact ⟨rfl, (O10.out.below.alloc (by exact O10.out.below.size) _)⟩
  · have hq0 : 0 ≤ port % 32 := by omega
    have hq1 : port % 32 < 32 := by omega
    go_enter Try.func7, Try.ntmps7
    go_wp2_with fail
    refine (wakes_ _).mono ?_
    rintro e w1 ⟨rfl, hb⟩
    have O1 := Lib.hid ((O.out.alloc w.heap.size _ rfl).call hb)
    clear hb O 
    obtain ⟨a_0, a_1, a_2, a_3⟩ := cells_ask (O1.out.nth 0 rfl)
    have l_a := lt_blk (O1.out.nth 0 rfl)
    go_wp2_with fail
    refine ((g1 _).out).mono ?_
    rintro e w2 ⟨rfl, hb⟩
    have O2 := Lib.hid ((O1.out.alloc w1.heap.size _ rfl).call hb)
    clear hb O1 a_0 a_1 a_2 a_3 l_a
    obtain ⟨r_0, r_1, r_2, r_3, r_f0, r_f1, r_f2, r_f3⟩ := cells4 (O2.out.nth 0 rfl)
    have l_r := lt_blk (O2.out.nth 0 rfl)
    obtain ⟨a_0, a_1, a_2, a_3⟩ := cells_ask (O2.out.nth 1 rfl)
    have l_a := lt_blk (O2.out.nth 1 rfl)
    go_wp2_with fail
    refine ((g2 _ _ (by omega) (by omega)).out).mono ?_
    rintro e w3 ⟨rfl, hb⟩
    have O3 := Lib.hid ((O2.out.alloc w2.heap.size _ rfl).call hb)
    clear hb O2 r_0 r_1 r_2 r_3 r_f0 r_f1 r_f2 r_f3 l_r a_0 a_1 a_2 a_3 l_a
    obtain ⟨b_0, b_1, b_2, b_3, b_f0, b_f1, b_f2, b_f3⟩ := cells4 (O3.out.nth 0 rfl)
    have l_b := lt_blk (O3.out.nth 0 rfl)
    obtain ⟨r_0, r_1, r_2, r_3, r_f0, r_f1, r_f2, r_f3⟩ := cells4 (O3.out.nth 1 rfl)
    have l_r := lt_blk (O3.out.nth 1 rfl)
    obtain ⟨a_0, a_1, a_2, a_3⟩ := cells_ask (O3.out.nth 2 rfl)
    have l_a := lt_blk (O3.out.nth 2 rfl)
    go_wp2_with fail
    refine ((g3 _).out).mono ?_
    rintro e w4 ⟨rfl, hb⟩
    have O4 := Lib.hid ((O3.out.alloc w3.heap.size _ rfl).call hb)
    clear hb O3 b_0 b_1 b_2 b_3 b_f0 b_f1 b_f2 b_f3 l_b r_0 r_1 r_2 r_3 r_f0 r_f1 r_f2 r_f3 l_r a_0 a_1 a_2 a_3 l_a
    obtain ⟨x_0, x_1, x_2, x_3, x_f0, x_f1, x_f2, x_f3⟩ := cells4 (O4.out.nth 0 rfl)
    have l_x := lt_blk (O4.out.nth 0 rfl)
    obtain ⟨b_0, b_1, b_2, b_3, b_f0, b_f1, b_f2, b_f3⟩ := cells4 (O4.out.nth 1 rfl)
    have l_b := lt_blk (O4.out.nth 1 rfl)
    obtain ⟨r_0, r_1, r_2, r_3, r_f0, r_f1, r_f2, r_f3⟩ := cells4 (O4.out.nth 2 rfl)
    have l_r := lt_blk (O4.out.nth 2 rfl)
    obtain ⟨a_0, a_1, a_2, a_3⟩ := cells_ask (O4.out.nth 3 rfl)
    have l_a := lt_blk (O4.out.nth 3 rfl)
    go_wp2_with fail
    refine ((g4 _ _ (by omega) (by omega)).out).mono ?_
    rintro e w5 ⟨rfl, hb⟩
    have O5 := Lib.hid (O4.out.call hb)
    clear hb O4 x_0 x_1 x_2 x_3 x_f0 x_f1 x_f2 x_f3 l_x b_0 b_1 b_2 b_3 b_f0 b_f1 b_f2 b_f3 l_b r_0 r_1 r_2 r_3 r_f0 r_f1 r_f2 r_f3 l_r a_0 a_1 a_2 a_3 l_a
    obtain ⟨x_0, x_1, x_2, x_3, x_f0, x_f1, x_f2, x_f3⟩ := cells4 (O5.out.nth 0 rfl)
    have l_x := lt_blk (O5.out.nth 0 rfl)
    obtain ⟨b_0, b_1, b_2, b_3, b_f0, b_f1, b_f2, b_f3⟩ := cells4 (O5.out.nth 1 rfl)
    have l_b := lt_blk (O5.out.nth 1 rfl)
    obtain ⟨r_0, r_1, r_2, r_3, r_f0, r_f1, r_f2, r_f3⟩ := cells4 (O5.out.nth 2 rfl)
    have l_r := lt_blk (O5.out.nth 2 rfl)
    obtain ⟨a_0, a_1, a_2, a_3⟩ := cells_ask (O5.out.nth 3 rfl)
    have l_a := lt_blk (O5.out.nth 3 rfl)
    go_wp2_with fail
    refine ((g5 _).out).mono ?_
    rintro e w6 ⟨rfl, hb⟩
    have O6 := Lib.hid ((O5.out.alloc w5.heap.size _ rfl).call hb)
    clear hb O5 x_0 x_1 x_2 x_3 x_f0 x_f1 x_f2 x_f3 l_x b_0 b_1 b_2 b_3 b_f0 b_f1 b_f2 b_f3 l_b r_0 r_1 r_2 r_3 r_f0 r_f1 r_f2 r_f3 l_r a_0 a_1 a_2 a_3 l_a
    obtain ⟨m_0, m_1, m_2, m_3, m_f0, m_f1, m_f2, m_f3⟩ := cells4 (O6.out.nth 0 rfl)
    have l_m := lt_blk (O6.out.nth 0 rfl)
    obtain ⟨x_0, x_1, x_2, x_3, x_f0, x_f1, x_f2, x_f3⟩ := cells4 (O6.out.nth 1 rfl)
    have l_x := lt_blk (O6.out.nth 1 rfl)
    obtain ⟨b_0, b_1, b_2, b_3, b_f0, b_f1, b_f2, b_f3⟩ := cells4 (O6.out.nth 2 rfl)
    have l_b := lt_blk (O6.out.nth 2 rfl)
    obtain ⟨r_0, r_1, r_2, r_3, r_f0, r_f1, r_f2, r_f3⟩ := cells4 (O6.out.nth 3 rfl)
    have l_r := lt_blk (O6.out.nth 3 rfl)
    obtain ⟨a_0, a_1, a_2, a_3⟩ := cells_ask (O6.out.nth 4 rfl)
    have l_a := lt_blk (O6.out.nth 4 rfl)
    go_wp2_with fail
    refine ((g6 _).out).mono ?_
    rintro e w7 ⟨rfl, hb⟩
    have O7 := Lib.hid ((O6.out.alloc w6.heap.size _ rfl).call hb)
    clear hb O6 m_0 m_1 m_2 m_3 m_f0 m_f1 m_f2 m_f3 l_m x_0 x_1 x_2 x_3 x_f0 x_f1 x_f2 x_f3 l_x b_0 b_1 b_2 b_3 b_f0 b_f1 b_f2 b_f3 l_b r_0 r_1 r_2 r_3 r_f0 r_f1 r_f2 r_f3 l_r a_0 a_1 a_2 a_3 l_a
    obtain ⟨p_0, p_1, p_2, p_3, p_f0, p_f1, p_f2, p_f3⟩ := cells4 (O7.out.nth 0 rfl)
    have l_p := lt_blk (O7.out.nth 0 rfl)
    obtain ⟨m_0, m_1, m_2, m_3, m_f0, m_f1, m_f2, m_f3⟩ := cells4 (O7.out.nth 1 rfl)
    have l_m := lt_blk (O7.out.nth 1 rfl)
    obtain ⟨x_0, x_1, x_2, x_3, x_f0, x_f1, x_f2, x_f3⟩ := cells4 (O7.out.nth 2 rfl)
    have l_x := lt_blk (O7.out.nth 2 rfl)
    obtain ⟨b_0, b_1, b_2, b_3, b_f0, b_f1, b_f2, b_f3⟩ := cells4 (O7.out.nth 3 rfl)
    have l_b := lt_blk (O7.out.nth 3 rfl)
    obtain ⟨r_0, r_1, r_2, r_3, r_f0, r_f1, r_f2, r_f3⟩ := cells4 (O7.out.nth 4 rfl)
    have l_r := lt_blk (O7.out.nth 4 rfl)
    obtain ⟨a_0, a_1, a_2, a_3⟩ := cells_ask (O7.out.nth 5 rfl)
    have l_a := lt_blk (O7.out.nth 5 rfl)
    clear p_0 p_1 p_2 p_3 p_f0 p_f1 p_f2 p_f3 l_p m_0 m_1 m_2 m_3 m_f0 m_f1 m_f2 m_f3 l_m x_0 x_1 x_2 x_3 x_f0 x_f1 x_f2 x_f3 l_x b_0 b_1 b_2 b_3 b_f0 b_f1 b_f2 b_f3 l_b r_0 r_1 r_2 r_3 r_f0 r_f1 r_f2 r_f3 l_r a_0 a_1 a_2 a_3 l_a
    go_wp2_with fail
    go_loopw [110] (fun i wr => ∃ k : Nat, k ≤ 32 ∧ i = .int .i64 k ∧ Hid (Own w wr [(w6.heap.size, .cells (St.cells ⟨3, 0, ap, au⟩) 24 (0, 0)), (w.heap.size, .cells #[.int .u32 ap, .int .u32 ad, .int .i64 au, .int .i64 an] 26 (0, 0))])) (fun i _ => 32 - (intOf i).toNat)
    case atStart => exact ⟨0, by omega, rfl, Lib.hid (O7.out.sub (by intro q hq; simp only [List.mem_cons] at hq ⊢; rcases hq with rfl | rfl | hq <;> simp_all))⟩
    case round =>
      obtain ⟨k, hk, rfl, O8⟩ := hrel
      obtain ⟨w8, rfl⟩ : ∃ w8 : World, w8 = wr := ⟨_, rfl⟩
      by_cases hlt : k < 32
      · cases hh : hasB ap k with
        | true =>
          have hh2 : (bits BinOp.and IntKind.u32 (ap / 2 ^ k) 1 == 1) = true := by simpa [hasB] using hh
          obtain ⟨p_0, p_1, p_2, p_3, p_f0, p_f1, p_f2, p_f3⟩ := cells4 (O8.out.nth 0 rfl)
          have l_p := lt_blk (O8.out.nth 0 rfl)
          obtain ⟨a_0, a_1, a_2, a_3⟩ := cells_ask (O8.out.nth 1 rfl)
          have l_a := lt_blk (O8.out.nth 1 rfl)
          go_wp2_with fail
          refine ((gT k _ hlt hh).out).mono ?_
          rintro e w9 ⟨rfl, hb⟩
          have O9 := Lib.hid (O8.out.call hb)
          clear hb O8 p_0 p_1 p_2 p_3 p_f0 p_f1 p_f2 p_f3 l_p a_0 a_1 a_2 a_3 l_a
          obtain ⟨p_0, p_1, p_2, p_3, p_f0, p_f1, p_f2, p_f3⟩ := cells4 (O9.out.nth 0 rfl)
          have l_p := lt_blk (O9.out.nth 0 rfl)
          obtain ⟨a_0, a_1, a_2, a_3⟩ := cells_ask (O9.out.nth 1 rfl)
          have l_a := lt_blk (O9.out.nth 1 rfl)
          go_wp2_with fail
          refine ((g3 _).out).mono ?_
          rintro e w10 ⟨rfl, hb⟩
          have O10 := Lib.hid ((O9.out.alloc w9.heap.size _ rfl).call hb)
          clear hb O9 p_0 p_1 p_2 p_3 p_f0 p_f1 p_f2 p_f3 l_p a_0 a_1 a_2 a_3 l_a
          obtain ⟨x_0, x_1, x_2, x_3, x_f0, x_f1, x_f2, x_f3⟩ := cells4 (O10.out.nth 0 rfl)
          have l_x := lt_blk (O10.out.nth 0 rfl)
          obtain ⟨p_0, p_1, p_2, p_3, p_f0, p_f1, p_f2, p_f3⟩ := cells4 (O10.out.nth 1 rfl)
          have l_p := lt_blk (O10.out.nth 1 rfl)
          obtain ⟨a_0, a_1, a_2, a_3⟩ := cells_ask (O10.out.nth 2 rfl)
          have l_a := lt_blk (O10.out.nth 2 rfl)
          go_wp2_with fail
          refine ((gN k _ hlt).out).mono ?_
          rintro e w11 ⟨rfl, hb⟩
          have O11 := Lib.hid (O10.out.call hb)
          clear hb O10 x_0 x_1 x_2 x_3 x_f0 x_f1 x_f2 x_f3 l_x p_0 p_1 p_2 p_3 p_f0 p_f1 p_f2 p_f3 l_p a_0 a_1 a_2 a_3 l_a
          obtain ⟨x_0, x_1, x_2, x_3, x_f0, x_f1, x_f2, x_f3⟩ := cells4 (O11.out.nth 0 rfl)
          have l_x := lt_blk (O11.out.nth 0 rfl)
          obtain ⟨p_0, p_1, p_2, p_3, p_f0, p_f1, p_f2, p_f3⟩ := cells4 (O11.out.nth 1 rfl)
          have l_p := lt_blk (O11.out.nth 1 rfl)
          obtain ⟨a_0, a_1, a_2, a_3⟩ := cells_ask (O11.out.nth 2 rfl)
          have l_a := lt_blk (O11.out.nth 2 rfl)
          go_wp2_with fail
          refine ((g3 _).out).mono ?_
          rintro e w12 ⟨rfl, hb⟩
          have O12 := Lib.hid ((O11.out.alloc w11.heap.size _ rfl).call hb)
          clear hb O11 x_0 x_1 x_2 x_3 x_f0 x_f1 x_f2 x_f3 l_x p_0 p_1 p_2 p_3 p_f0 p_f1 p_f2 p_f3 l_p a_0 a_1 a_2 a_3 l_a
          obtain ⟨y_0, y_1, y_2, y_3, y_f0, y_f1, y_f2, y_f3⟩ := cells4 (O12.out.nth 0 rfl)
          have l_y := lt_blk (O12.out.nth 0 rfl)
          obtain ⟨x_0, x_1, x_2, x_3, x_f0, x_f1, x_f2, x_f3⟩ := cells4 (O12.out.nth 1 rfl)
          have l_x := lt_blk (O12.out.nth 1 rfl)
          obtain ⟨p_0, p_1, p_2, p_3, p_f0, p_f1, p_f2, p_f3⟩ := cells4 (O12.out.nth 2 rfl)
          have l_p := lt_blk (O12.out.nth 2 rfl)
          obtain ⟨a_0, a_1, a_2, a_3⟩ := cells_ask (O12.out.nth 3 rfl)
          have l_a := lt_blk (O12.out.nth 3 rfl)
          go_wp2
          go_roundw
          case rel => exact ⟨k + 1, by omega, by go_num, Lib.hid (O12.out.sub (by intro q hq; simp only [List.mem_cons] at hq ⊢; rcases hq with rfl | rfl | hq <;> simp_all))⟩
          case measure => simp [intOf]; omega
        | false =>
          have hh2 : (bits BinOp.and IntKind.u32 (ap / 2 ^ k) 1 == 1) = false := by simpa [hasB] using hh
          obtain ⟨p_0, p_1, p_2, p_3, p_f0, p_f1, p_f2, p_f3⟩ := cells4 (O8.out.nth 0 rfl)
          have l_p := lt_blk (O8.out.nth 0 rfl)
          obtain ⟨a_0, a_1, a_2, a_3⟩ := cells_ask (O8.out.nth 1 rfl)
          have l_a := lt_blk (O8.out.nth 1 rfl)
          go_wp2_with fail
          refine ((gF k _ hlt hh).out).mono ?_
          rintro e w9 ⟨rfl, hb⟩
          have O9 := Lib.hid (O8.out.call hb)
          clear hb O8 p_0 p_1 p_2 p_3 p_f0 p_f1 p_f2 p_f3 l_p a_0 a_1 a_2 a_3 l_a
          obtain ⟨p_0, p_1, p_2, p_3, p_f0, p_f1, p_f2, p_f3⟩ := cells4 (O9.out.nth 0 rfl)
          have l_p := lt_blk (O9.out.nth 0 rfl)
          obtain ⟨a_0, a_1, a_2, a_3⟩ := cells_ask (O9.out.nth 1 rfl)
          have l_a := lt_blk (O9.out.nth 1 rfl)
          go_wp2_with fail
          refine ((g6 _).out).mono ?_
          rintro e w10 ⟨rfl, hb⟩
          have O10 := Lib.hid ((O9.out.alloc w9.heap.size _ rfl).call hb)
          clear hb O9 p_0 p_1 p_2 p_3 p_f0 p_f1 p_f2 p_f3 l_p a_0 a_1 a_2 a_3 l_a
          obtain ⟨x_0, x_1, x_2, x_3, x_f0, x_f1, x_f2, x_f3⟩ := cells4 (O10.out.nth 0 rfl)
          have l_x := lt_blk (O10.out.nth 0 rfl)
          obtain ⟨p_0, p_1, p_2, p_3, p_f0, p_f1, p_f2, p_f3⟩ := cells4 (O10.out.nth 1 rfl)
          have l_p := lt_blk (O10.out.nth 1 rfl)
          obtain ⟨a_0, a_1, a_2, a_3⟩ := cells_ask (O10.out.nth 2 rfl)
          have l_a := lt_blk (O10.out.nth 2 rfl)
          go_wp2_with fail
          refine ((gN k _ hlt).out).mono ?_
          rintro e w11 ⟨rfl, hb⟩
          have O11 := Lib.hid (O10.out.call hb)
          clear hb O10 x_0 x_1 x_2 x_3 x_f0 x_f1 x_f2 x_f3 l_x p_0 p_1 p_2 p_3 p_f0 p_f1 p_f2 p_f3 l_p a_0 a_1 a_2 a_3 l_a
          obtain ⟨x_0, x_1, x_2, x_3, x_f0, x_f1, x_f2, x_f3⟩ := cells4 (O11.out.nth 0 rfl)
          have l_x := lt_blk (O11.out.nth 0 rfl)
          obtain ⟨p_0, p_1, p_2, p_3, p_f0, p_f1, p_f2, p_f3⟩ := cells4 (O11.out.nth 1 rfl)
          have l_p := lt_blk (O11.out.nth 1 rfl)
          obtain ⟨a_0, a_1, a_2, a_3⟩ := cells_ask (O11.out.nth 2 rfl)
          have l_a := lt_blk (O11.out.nth 2 rfl)
          go_wp2_with fail
          refine ((g3 _).out).mono ?_
          rintro e w12 ⟨rfl, hb⟩
          have O12 := Lib.hid ((O11.out.alloc w11.heap.size _ rfl).call hb)
          clear hb O11 x_0 x_1 x_2 x_3 x_f0 x_f1 x_f2 x_f3 l_x p_0 p_1 p_2 p_3 p_f0 p_f1 p_f2 p_f3 l_p a_0 a_1 a_2 a_3 l_a
          obtain ⟨y_0, y_1, y_2, y_3, y_f0, y_f1, y_f2, y_f3⟩ := cells4 (O12.out.nth 0 rfl)
          have l_y := lt_blk (O12.out.nth 0 rfl)
          obtain ⟨x_0, x_1, x_2, x_3, x_f0, x_f1, x_f2, x_f3⟩ := cells4 (O12.out.nth 1 rfl)
          have l_x := lt_blk (O12.out.nth 1 rfl)
          obtain ⟨p_0, p_1, p_2, p_3, p_f0, p_f1, p_f2, p_f3⟩ := cells4 (O12.out.nth 2 rfl)
          have l_p := lt_blk (O12.out.nth 2 rfl)
          obtain ⟨a_0, a_1, a_2, a_3⟩ := cells_ask (O12.out.nth 3 rfl)
          have l_a := lt_blk (O12.out.nth 3 rfl)
          go_wp2
          go_roundw
          case rel => exact ⟨k + 1, by omega, by go_num, Lib.hid (O12.out.sub (by intro q hq; simp only [List.mem_cons] at hq ⊢; rcases hq with rfl | rfl | hq <;> simp_all))⟩
          case measure => simp [intOf]; omega
      · have : k = 32 := by omega
        subst this
        obtain ⟨p_0, p_1, p_2, p_3, p_f0, p_f1, p_f2, p_f3⟩ := cells4 (O8.out.nth 0 rfl)
        have l_p := lt_blk (O8.out.nth 0 rfl)
        obtain ⟨a_0, a_1, a_2, a_3⟩ := cells_ask (O8.out.nth 1 rfl)
        have l_a := lt_blk (O8.out.nth 1 rfl)
        go_wp2_with fail
        refine ((g8 _).out).mono ?_
        rintro e w9 ⟨rfl, hb⟩
        have O9 := Lib.hid (O8.out.call hb)
        clear hb O8 p_0 p_1 p_2 p_3 p_f0 p_f1 p_f2 p_f3 l_p a_0 a_1 a_2 a_3 l_a
        obtain ⟨p_0, p_1, p_2, p_3, p_f0, p_f1, p_f2, p_f3⟩ := cells4 (O9.out.nth 0 rfl)
        have l_p := lt_blk (O9.out.nth 0 rfl)
        obtain ⟨a_0, a_1, a_2, a_3⟩ := cells_ask (O9.out.nth 1 rfl)
        have l_a := lt_blk (O9.out.nth 1 rfl)
        go_wp2_with fail
        refine ((gZ _).out).mono ?_
        rintro e w10 ⟨rfl, hb⟩
        have O10 := Lib.hid (O9.out.call hb)
        clear hb O9 p_0 p_1 p_2 p_3 p_f0 p_f1 p_f2 p_f3 l_p a_0 a_1 a_2 a_3 l_a
        obtain ⟨p_0, p_1, p_2, p_3, p_f0, p_f1, p_f2, p_f3⟩ := cells4 (O10.out.nth 0 rfl)
        have l_p := lt_blk (O10.out.nth 0 rfl)
        obtain ⟨a_0, a_1, a_2, a_3⟩ := cells_ask (O10.out.nth 1 rfl)
        have l_a := lt_blk (O10.out.nth 1 rfl)
        go_wp2
        go_ret
        exact ⟨rfl, (O10.out.below.alloc (by exact O10.out.below.size) _)⟩

set_option maxRecDepth 100000 in
set_option maxHeartbeats 12800000 in
theorem ends_late (ap ad au an port : Int) (hp0 : -9223372036854775808 ≤ port) (hp1 : port ≤ 9223372036854775807) (hap0 : 0 ≤ ap) (hap1 : ap < 4294967296) (w : World)
    (g1 : ∀ W, Hid (Calls Try.prog 17 #[.agg (St.cells ⟨1, 0, 0, 0⟩), .bool false] W fun e w' => e = .returned (triple ⟨2, 0, 0, 0⟩ true 0) ∧ Below W.heap.size W w'))
    (g2 : ∀ q W, 0 ≤ q → q < 32 → Hid (Calls Try.prog 10 #[.agg (St.cells ⟨2, 0, 0, 0⟩), .int .i64 q, .bool false] W fun e w' => e = .returned (triple ⟨1, 0, 0, 0⟩ true 0) ∧ Below W.heap.size W w'))
    (g3 : ∀ W, Hid (Calls Try.prog 22 #[.agg (St.cells ⟨1, 0, 0, 0⟩)] W fun e w' => e = .returned (.bool true) ∧ Below W.heap.size W w'))
    (g4 : ∀ q W, 0 ≤ q → q < 32 → Hid (Calls Try.prog 10 #[.agg (St.cells ⟨2, 0, 0, 0⟩), .int .i64 q, .bool true] W fun e w' => e = .returned (triple ⟨2, 0, 0, 0⟩ false 0) ∧ Below W.heap.size W w'))
    (g5 : ∀ W, Hid (Calls Try.prog 15 #[.agg (St.cells ⟨1, 0, 0, 0⟩), .int .u32 ap, .int .i64 au, .int .i64 an, .int .u32 ad] W fun e w' => e = .returned (triple ⟨3, 0, ap, au⟩ true 0) ∧ Below W.heap.size W w'))
    (g6 : ∀ W, Hid (Calls Try.prog 22 #[.agg (St.cells ⟨3, 0, ap, au⟩)] W fun e w' => e = .returned (.bool false) ∧ Below W.heap.size W w'))
    (gT : ∀ (k : Nat) W, k < 32 → hasB ap k = true → Hid (Calls Try.prog 10 #[.agg (St.cells ⟨3, 0, ap, au⟩), .int .i64 k, .bool true] W fun e w' => e = .returned (triple ⟨1, 0, 0, 0⟩ true 0) ∧ Below W.heap.size W w'))
    (gF : ∀ (k : Nat) W, k < 32 → hasB ap k = false → Hid (Calls Try.prog 10 #[.agg (St.cells ⟨3, 0, ap, au⟩), .int .i64 k, .bool true] W fun e w' => e = .returned (triple ⟨3, 0, ap, au⟩ false 0) ∧ Below W.heap.size W w'))
    (gN : ∀ (k : Nat) W, k < 32 → Hid (Calls Try.prog 10 #[.agg (St.cells ⟨3, 0, ap, au⟩), .int .i64 k, .bool false] W fun e w' => e = .returned (triple ⟨1, 0, 0, 0⟩ true 0) ∧ Below W.heap.size W w'))
    (hz0 : 0 < au) (hz1 : au ≤ 1125899906842624) (hz2 : an < au)
    (g8 : ∀ W, Hid (Calls Try.prog 24 #[.agg (St.cells ⟨3, 0, ap, au⟩)] W fun e w' => e = .returned (.tuple #[.int .i64 au, .bool true]) ∧ Below W.heap.size W w'))
    (gE : ∀ W, Hid (Calls Try.prog 12 #[.agg (St.cells ⟨3, 0, ap, au⟩), .int .i64 (au - 1)] W fun e w' => e = .returned (triple ⟨3, 0, ap, au⟩ false 0) ∧ Below W.heap.size W w'))
    (gL : ∀ W, Hid (Calls Try.prog 12 #[.agg (St.cells ⟨3, 0, ap, au⟩), .int .i64 au] W fun e w' => e = .returned (triple ⟨1, 0, 0, 0⟩ true 0) ∧ Below W.heap.size W w')) :
    Calls Try.prog 7 #[.agg #[.int .u32 ap, .int .u32 ad, .int .i64 au, .int .i64 an], .int .i64 port] w fun e w' => e = .returned (.bool true) ∧ Below w.heap.size w w' := by
  have O := Lib.hid (Own.start w)
  by_cases hneg : port < 0
  · have hq0 : 0 ≤ (0 : Int) := by omega
    go_enter Try.func7, Try.ntmps7
    go_wp2_with fail
    refine (wakes_ _).mono ?_
    rintro e w1 ⟨rfl, hb⟩
    have O1 := Lib.hid ((O.out.alloc w.heap.size _ rfl).call hb)
    clear hb O 
    obtain ⟨a_0, a_1, a_2, a_3⟩ := cells_ask (O1.out.nth 0 rfl)
    have l_a := lt_blk (O1.out.nth 0 rfl)
    go_wp2_with fail
    refine ((g1 _).out).mono ?_
    rintro e w2 ⟨rfl, hb⟩
    have O2 := Lib.hid ((O1.out.alloc w1.heap.size _ rfl).call hb)
    clear hb O1 a_0 a_1 a_2 a_3 l_a
    obtain ⟨r_0, r_1, r_2, r_3, r_f0, r_f1, r_f2, r_f3⟩ := cells4 (O2.out.nth 0 rfl)
    have l_r := lt_blk (O2.out.nth 0 rfl)
    obtain ⟨a_0, a_1, a_2, a_3⟩ := cells_ask (O2.out.nth 1 rfl)
    have l_a := lt_blk (O2.out.nth 1 rfl)
    go_wp2_with fail
    refine ((g2 _ _ (by omega) (by omega)).out).mono ?_
    rintro e w3 ⟨rfl, hb⟩
    have O3 := Lib.hid ((O2.out.alloc w2.heap.size _ rfl).call hb)
    clear hb O2 r_0 r_1 r_2 r_3 r_f0 r_f1 r_f2 r_f3 l_r a_0 a_1 a_2 a_3 l_a
    obtain ⟨b_0, b_1, b_2, b_3, b_f0, b_f1, b_f2, b_f3⟩ := cells4 (O3.out.nth 0 rfl)
    have l_b := lt_blk (O3.out.nth 0 rfl)
    obtain ⟨r_0, r_1, r_2, r_3, r_f0, r_f1, r_f2, r_f3⟩ := cells4 (O3.out.nth 1 rfl)
    have l_r := lt_blk (O3.out.nth 1 rfl)
    obtain ⟨a_0, a_1, a_2, a_3⟩ := cells_ask (O3.out.nth 2 rfl)
    have l_a := lt_blk (O3.out.nth 2 rfl)
    go_wp2_with fail
    refine ((g3 _).out).mono ?_
    rintro e w4 ⟨rfl, hb⟩
    have O4 := Lib.hid ((O3.out.alloc w3.heap.size _ rfl).call hb)
    clear hb O3 b_0 b_1 b_2 b_3 b_f0 b_f1 b_f2 b_f3 l_b r_0 r_1 r_2 r_3 r_f0 r_f1 r_f2 r_f3 l_r a_0 a_1 a_2 a_3 l_a
    obtain ⟨x_0, x_1, x_2, x_3, x_f0, x_f1, x_f2, x_f3⟩ := cells4 (O4.out.nth 0 rfl)
    have l_x := lt_blk (O4.out.nth 0 rfl)
    obtain ⟨b_0, b_1, b_2, b_3, b_f0, b_f1, b_f2, b_f3⟩ := cells4 (O4.out.nth 1 rfl)
    have l_b := lt_blk (O4.out.nth 1 rfl)
    obtain ⟨r_0, r_1, r_2, r_3, r_f0, r_f1, r_f2, r_f3⟩ := cells4 (O4.out.nth 2 rfl)
    have l_r := lt_blk (O4.out.nth 2 rfl)
    obtain ⟨a_0, a_1, a_2, a_3⟩ := cells_ask (O4.out.nth 3 rfl)
    have l_a := lt_blk (O4.out.nth 3 rfl)
    go_wp2_with fail
    refine ((g4 _ _ (by omega) (by omega)).out).mono ?_
    rintro e w5 ⟨rfl, hb⟩
    have O5 := Lib.hid (O4.out.call hb)
    clear hb O4 x_0 x_1 x_2 x_3 x_f0 x_f1 x_f2 x_f3 l_x b_0 b_1 b_2 b_3 b_f0 b_f1 b_f2 b_f3 l_b r_0 r_1 r_2 r_3 r_f0 r_f1 r_f2 r_f3 l_r a_0 a_1 a_2 a_3 l_a
    obtain ⟨x_0, x_1, x_2, x_3, x_f0, x_f1, x_f2, x_f3⟩ := cells4 (O5.out.nth 0 rfl)
    have l_x := lt_blk (O5.out.nth 0 rfl)
    obtain ⟨b_0, b_1, b_2, b_3, b_f0, b_f1, b_f2, b_f3⟩ := cells4 (O5.out.nth 1 rfl)
    have l_b := lt_blk (O5.out.nth 1 rfl)
    obtain ⟨r_0, r_1, r_2, r_3, r_f0, r_f1, r_f2, r_f3⟩ := cells4 (O5.out.nth 2 rfl)
    have l_r := lt_blk (O5.out.nth 2 rfl)
    obtain ⟨a_0, a_1, a_2, a_3⟩ := cells_ask (O5.out.nth 3 rfl)
    have l_a := lt_blk (O5.out.nth 3 rfl)
    go_wp2_with fail
    refine ((g5 _).out).mono ?_
    rintro e w6 ⟨rfl, hb⟩
    have O6 := Lib.hid ((O5.out.alloc w5.heap.size _ rfl).call hb)
    clear hb O5 x_0 x_1 x_2 x_3 x_f0 x_f1 x_f2 x_f3 l_x b_0 b_1 b_2 b_3 b_f0 b_f1 b_f2 b_f3 l_b r_0 r_1 r_2 r_3 r_f0 r_f1 r_f2 r_f3 l_r a_0 a_1 a_2 a_3 l_a
    obtain ⟨m_0, m_1, m_2, m_3, m_f0, m_f1, m_f2, m_f3⟩ := cells4 (O6.out.nth 0 rfl)
    have l_m := lt_blk (O6.out.nth 0 rfl)
    obtain ⟨x_0, x_1, x_2, x_3, x_f0, x_f1, x_f2, x_f3⟩ := cells4 (O6.out.nth 1 rfl)
    have l_x := lt_blk (O6.out.nth 1 rfl)
    obtain ⟨b_0, b_1, b_2, b_3, b_f0, b_f1, b_f2, b_f3⟩ := cells4 (O6.out.nth 2 rfl)
    have l_b := lt_blk (O6.out.nth 2 rfl)
    obtain ⟨r_0, r_1, r_2, r_3, r_f0, r_f1, r_f2, r_f3⟩ := cells4 (O6.out.nth 3 rfl)
    have l_r := lt_blk (O6.out.nth 3 rfl)
    obtain ⟨a_0, a_1, a_2, a_3⟩ := cells_ask (O6.out.nth 4 rfl)
    have l_a := lt_blk (O6.out.nth 4 rfl)
    go_wp2_with fail
    refine ((g6 _).out).mono ?_
    rintro e w7 ⟨rfl, hb⟩
    have O7 := Lib.hid ((O6.out.alloc w6.heap.size _ rfl).call hb)
    clear hb O6 m_0 m_1 m_2 m_3 m_f0 m_f1 m_f2 m_f3 l_m x_0 x_1 x_2 x_3 x_f0 x_f1 x_f2 x_f3 l_x b_0 b_1 b_2 b_3 b_f0 b_f1 b_f2 b_f3 l_b r_0 r_1 r_2 r_3 r_f0 r_f1 r_f2 r_f3 l_r a_0 a_1 a_2 a_3 l_a
    obtain ⟨p_0, p_1, p_2, p_3, p_f0, p_f1, p_f2, p_f3⟩ := cells4 (O7.out.nth 0 rfl)
    have l_p := lt_blk (O7.out.nth 0 rfl)
    obtain ⟨m_0, m_1, m_2, m_3, m_f0, m_f1, m_f2, m_f3⟩ := cells4 (O7.out.nth 1 rfl)
    have l_m := lt_blk (O7.out.nth 1 rfl)
    obtain ⟨x_0, x_1, x_2, x_3, x_f0, x_f1, x_f2, x_f3⟩ := cells4 (O7.out.nth 2 rfl)
    have l_x := lt_blk (O7.out.nth 2 rfl)
    obtain ⟨b_0, b_1, b_2, b_3, b_f0, b_f1, b_f2, b_f3⟩ := cells4 (O7.out.nth 3 rfl)
    have l_b := lt_blk (O7.out.nth 3 rfl)
    obtain ⟨r_0, r_1, r_2, r_3, r_f0, r_f1, r_f2, r_f3⟩ := cells4 (O7.out.nth 4 rfl)
    have l_r := lt_blk (O7.out.nth 4 rfl)
    obtain ⟨a_0, a_1, a_2, a_3⟩ := cells_ask (O7.out.nth 5 rfl)
    have l_a := lt_blk (O7.out.nth 5 rfl)
    clear p_0 p_1 p_2 p_3 p_f0 p_f1 p_f2 p_f3 l_p m_0 m_1 m_2 m_3 m_f0 m_f1 m_f2 m_f3 l_m x_0 x_1 x_2 x_3 x_f0 x_f1 x_f2 x_f3 l_x b_0 b_1 b_2 b_3 b_f0 b_f1 b_f2 b_f3 l_b r_0 r_1 r_2 r_3 r_f0 r_f1 r_f2 r_f3 l_r a_0 a_1 a_2 a_3 l_a
    go_wp2_with fail
    go_loopw [110] (fun i wr => ∃ k : Nat, k ≤ 32 ∧ i = .int .i64 k ∧ Hid (Own w wr [(w6.heap.size, .cells (St.cells ⟨3, 0, ap, au⟩) 24 (0, 0)), (w.heap.size, .cells #[.int .u32 ap, .int .u32 ad, .int .i64 au, .int .i64 an] 26 (0, 0))])) (fun i _ => 32 - (intOf i).toNat)
    case atStart => exact ⟨0, by omega, rfl, Lib.hid (O7.out.sub (by intro q hq; simp only [List.mem_cons] at hq ⊢; rcases hq with rfl | rfl | hq <;> simp_all))⟩
    case round =>
      obtain ⟨k, hk, rfl, O8⟩ := hrel
      obtain ⟨w8, rfl⟩ : ∃ w8 : World, w8 = wr := ⟨_, rfl⟩
      by_cases hlt : k < 32
      · cases hh : hasB ap k with
        | true =>
          have hh2 : (bits BinOp.and IntKind.u32 (ap / 2 ^ k) 1 == 1) = true := by simpa [hasB] using hh
          obtain ⟨p_0, p_1, p_2, p_3, p_f0, p_f1, p_f2, p_f3⟩ := cells4 (O8.out.nth 0 rfl)
          have l_p := lt_blk (O8.out.nth 0 rfl)
          obtain ⟨a_0, a_1, a_2, a_3⟩ := cells_ask (O8.out.nth 1 rfl)
          have l_a := lt_blk (O8.out.nth 1 rfl)
          go_wp2_with fail
          refine ((gT k _ hlt hh).out).mono ?_
          rintro e w9 ⟨rfl, hb⟩
          have O9 := Lib.hid (O8.out.call hb)
          clear hb O8 p_0 p_1 p_2 p_3 p_f0 p_f1 p_f2 p_f3 l_p a_0 a_1 a_2 a_3 l_a
          obtain ⟨p_0, p_1, p_2, p_3, p_f0, p_f1, p_f2, p_f3⟩ := cells4 (O9.out.nth 0 rfl)
          have l_p := lt_blk (O9.out.nth 0 rfl)
          obtain ⟨a_0, a_1, a_2, a_3⟩ := cells_ask (O9.out.nth 1 rfl)
          have l_a := lt_blk (O9.out.nth 1 rfl)
          go_wp2_with fail
          refine ((g3 _).out).mono ?_
          rintro e w10 ⟨rfl, hb⟩
          have O10 := Lib.hid ((O9.out.alloc w9.heap.size _ rfl).call hb)
          clear hb O9 p_0 p_1 p_2 p_3 p_f0 p_f1 p_f2 p_f3 l_p a_0 a_1 a_2 a_3 l_a
          obtain ⟨x_0, x_1, x_2, x_3, x_f0, x_f1, x_f2, x_f3⟩ := cells4 (O10.out.nth 0 rfl)
          have l_x := lt_blk (O10.out.nth 0 rfl)
          obtain ⟨p_0, p_1, p_2, p_3, p_f0, p_f1, p_f2, p_f3⟩ := cells4 (O10.out.nth 1 rfl)
          have l_p := lt_blk (O10.out.nth 1 rfl)
          obtain ⟨a_0, a_1, a_2, a_3⟩ := cells_ask (O10.out.nth 2 rfl)
          have l_a := lt_blk (O10.out.nth 2 rfl)
          go_wp2_with fail
          refine ((gN k _ hlt).out).mono ?_
          rintro e w11 ⟨rfl, hb⟩
          have O11 := Lib.hid (O10.out.call hb)
          clear hb O10 x_0 x_1 x_2 x_3 x_f0 x_f1 x_f2 x_f3 l_x p_0 p_1 p_2 p_3 p_f0 p_f1 p_f2 p_f3 l_p a_0 a_1 a_2 a_3 l_a
          obtain ⟨x_0, x_1, x_2, x_3, x_f0, x_f1, x_f2, x_f3⟩ := cells4 (O11.out.nth 0 rfl)
          have l_x := lt_blk (O11.out.nth 0 rfl)
          obtain ⟨p_0, p_1, p_2, p_3, p_f0, p_f1, p_f2, p_f3⟩ := cells4 (O11.out.nth 1 rfl)
          have l_p := lt_blk (O11.out.nth 1 rfl)
          obtain ⟨a_0, a_1, a_2, a_3⟩ := cells_ask (O11.out.nth 2 rfl)
          have l_a := lt_blk (O11.out.nth 2 rfl)
          go_wp2_with fail
          refine ((g3 _).out).mono ?_
          rintro e w12 ⟨rfl, hb⟩
          have O12 := Lib.hid ((O11.out.alloc w11.heap.size _ rfl).call hb)
          clear hb O11 x_0 x_1 x_2 x_3 x_f0 x_f1 x_f2 x_f3 l_x p_0 p_1 p_2 p_3 p_f0 p_f1 p_f2 p_f3 l_p a_0 a_1 a_2 a_3 l_a
          obtain ⟨y_0, y_1, y_2, y_3, y_f0, y_f1, y_f2, y_f3⟩ := cells4 (O12.out.nth 0 rfl)
          have l_y := lt_blk (O12.out.nth 0 rfl)
          obtain ⟨x_0, x_1, x_2, x_3, x_f0, x_f1, x_f2, x_f3⟩ := cells4 (O12.out.nth 1 rfl)
          have l_x := lt_blk (O12.out.nth 1 rfl)
          obtain ⟨p_0, p_1, p_2, p_3, p_f0, p_f1, p_f2, p_f3⟩ := cells4 (O12.out.nth 2 rfl)
          have l_p := lt_blk (O12.out.nth 2 rfl)
          obtain ⟨a_0, a_1, a_2, a_3⟩ := cells_ask (O12.out.nth 3 rfl)
          have l_a := lt_blk (O12.out.nth 3 rfl)
          go_wp2
          go_roundw
          case rel => exact ⟨k + 1, by omega, by go_num, Lib.hid (O12.out.sub (by intro q hq; simp only [List.mem_cons] at hq ⊢; rcases hq with rfl | rfl | hq <;> simp_all))⟩
          case measure => simp [intOf]; omega
        | false =>
          have hh2 : (bits BinOp.and IntKind.u32 (ap / 2 ^ k) 1 == 1) = false := by simpa [hasB] using hh
          obtain ⟨p_0, p_1, p_2, p_3, p_f0, p_f1, p_f2, p_f3⟩ := cells4 (O8.out.nth 0 rfl)
          have l_p := lt_blk (O8.out.nth 0 rfl)
          obtain ⟨a_0, a_1, a_2, a_3⟩ := cells_ask (O8.out.nth 1 rfl)
          have l_a := lt_blk (O8.out.nth 1 rfl)
          go_wp2_with fail
          refine ((gF k _ hlt hh).out).mono ?_
          rintro e w9 ⟨rfl, hb⟩
          have O9 := Lib.hid (O8.out.call hb)
          clear hb O8 p_0 p_1 p_2 p_3 p_f0 p_f1 p_f2 p_f3 l_p a_0 a_1 a_2 a_3 l_a
          obtain ⟨p_0, p_1, p_2, p_3, p_f0, p_f1, p_f2, p_f3⟩ := cells4 (O9.out.nth 0 rfl)
          have l_p := lt_blk (O9.out.nth 0 rfl)
          obtain ⟨a_0, a_1, a_2, a_3⟩ := cells_ask (O9.out.nth 1 rfl)
          have l_a := lt_blk (O9.out.nth 1 rfl)
          go_wp2_with fail
          refine ((g6 _).out).mono ?_
          rintro e w10 ⟨rfl, hb⟩
          have O10 := Lib.hid ((O9.out.alloc w9.heap.size _ rfl).call hb)
          clear hb O9 p_0 p_1 p_2 p_3 p_f0 p_f1 p_f2 p_f3 l_p a_0 a_1 a_2 a_3 l_a
          obtain ⟨x_0, x_1, x_2, x_3, x_f0, x_f1, x_f2, x_f3⟩ := cells4 (O10.out.nth 0 rfl)
          have l_x := lt_blk (O10.out.nth 0 rfl)
          obtain ⟨p_0, p_1, p_2, p_3, p_f0, p_f1, p_f2, p_f3⟩ := cells4 (O10.out.nth 1 rfl)
          have l_p := lt_blk (O10.out.nth 1 rfl)
          obtain ⟨a_0, a_1, a_2, a_3⟩ := cells_ask (O10.out.nth 2 rfl)
          have l_a := lt_blk (O10.out.nth 2 rfl)
          go_wp2_with fail
          refine ((gN k _ hlt).out).mono ?_
          rintro e w11 ⟨rfl, hb⟩
          have O11 := Lib.hid (O10.out.call hb)
          clear hb O10 x_0 x_1 x_2 x_3 x_f0 x_f1 x_f2 x_f3 l_x p_0 p_1 p_2 p_3 p_f0 p_f1 p_f2 p_f3 l_p a_0 a_1 a_2 a_3 l_a
          obtain ⟨x_0, x_1, x_2, x_3, x_f0, x_f1, x_f2, x_f3⟩ := cells4 (O11.out.nth 0 rfl)
          have l_x := lt_blk (O11.out.nth 0 rfl)
          obtain ⟨p_0, p_1, p_2, p_3, p_f0, p_f1, p_f2, p_f3⟩ := cells4 (O11.out.nth 1 rfl)
          have l_p := lt_blk (O11.out.nth 1 rfl)
          obtain ⟨a_0, a_1, a_2, a_3⟩ := cells_ask (O11.out.nth 2 rfl)
          have l_a := lt_blk (O11.out.nth 2 rfl)
          go_wp2_with fail
          refine ((g3 _).out).mono ?_
          rintro e w12 ⟨rfl, hb⟩
          have O12 := Lib.hid ((O11.out.alloc w11.heap.size _ rfl).call hb)
          clear hb O11 x_0 x_1 x_2 x_3 x_f0 x_f1 x_f2 x_f3 l_x p_0 p_1 p_2 p_3 p_f0 p_f1 p_f2 p_f3 l_p a_0 a_1 a_2 a_3 l_a
          obtain ⟨y_0, y_1, y_2, y_3, y_f0, y_f1, y_f2, y_f3⟩ := cells4 (O12.out.nth 0 rfl)
          have l_y := lt_blk (O12.out.nth 0 rfl)
          obtain ⟨x_0, x_1, x_2, x_3, x_f0, x_f1, x_f2, x_f3⟩ := cells4 (O12.out.nth 1 rfl)
          have l_x := lt_blk (O12.out.nth 1 rfl)
          obtain ⟨p_0, p_1, p_2, p_3, p_f0, p_f1, p_f2, p_f3⟩ := cells4 (O12.out.nth 2 rfl)
          have l_p := lt_blk (O12.out.nth 2 rfl)
          obtain ⟨a_0, a_1, a_2, a_3⟩ := cells_ask (O12.out.nth 3 rfl)
          have l_a := lt_blk (O12.out.nth 3 rfl)
          go_wp2
          go_roundw
          case rel => exact ⟨k + 1, by omega, by go_num, Lib.hid (O12.out.sub (by intro q hq; simp only [List.mem_cons] at hq ⊢; rcases hq with rfl | rfl | hq <;> simp_all))⟩
          case measure => simp [intOf]; omega
      · have : k = 32 := by omega
        subst this
        obtain ⟨p_0, p_1, p_2, p_3, p_f0, p_f1, p_f2, p_f3⟩ := cells4 (O8.out.nth 0 rfl)
        have l_p := lt_blk (O8.out.nth 0 rfl)
        obtain ⟨a_0, a_1, a_2, a_3⟩ := cells_ask (O8.out.nth 1 rfl)
        have l_a := lt_blk (O8.out.nth 1 rfl)
        go_wp2_with fail
        refine ((g8 _).out).mono ?_
        rintro e w9 ⟨rfl, hb⟩
        have O9 := Lib.hid (O8.out.call hb)
        clear hb O8 p_0 p_1 p_2 p_3 p_f0 p_f1 p_f2 p_f3 l_p a_0 a_1 a_2 a_3 l_a
        obtain ⟨p_0, p_1, p_2, p_3, p_f0, p_f1, p_f2, p_f3⟩ := cells4 (O9.out.nth 0 rfl)
        have l_p := lt_blk (O9.out.nth 0 rfl)
        obtain ⟨a_0, a_1, a_2, a_3⟩ := cells_ask (O9.out.nth 1 rfl)
        have l_a := lt_blk (O9.out.nth 1 rfl)
        go_wp2_with fail
        refine ((gE _).out).mono ?_
        rintro e w10 ⟨rfl, hb⟩
        have O10 := Lib.hid (O9.out.call hb)
        clear hb O9 p_0 p_1 p_2 p_3 p_f0 p_f1 p_f2 p_f3 l_p a_0 a_1 a_2 a_3 l_a
        obtain ⟨p_0, p_1, p_2, p_3, p_f0, p_f1, p_f2, p_f3⟩ := cells4 (O10.out.nth 0 rfl)
        have l_p := lt_blk (O10.out.nth 0 rfl)
        obtain ⟨a_0, a_1, a_2, a_3⟩ := cells_ask (O10.out.nth 1 rfl)
        have l_a := lt_blk (O10.out.nth 1 rfl)
        go_wp2_with fail
        refine ((gL _).out).mono ?_
        rintro e w11 ⟨rfl, hb⟩
        have O11 := Lib.hid ((O10.out.alloc w10.heap.size _ rfl).call hb)
        clear hb O10 p_0 p_1 p_2 p_3 p_f0 p_f1 p_f2 p_f3 l_p a_0 a_1 a_2 a_3 l_a
        obtain ⟨x_0, x_1, x_2, x_3, x_f0, x_f1, x_f2, x_f3⟩ := cells4 (O11.out.nth 0 rfl)
        have l_x := lt_blk (O11.out.nth 0 rfl)
        obtain ⟨p_0, p_1, p_2, p_3, p_f0, p_f1, p_f2, p_f3⟩ := cells4 (O11.out.nth 1 rfl)
        have l_p := lt_blk (O11.out.nth 1 rfl)
        obtain ⟨a_0, a_1, a_2, a_3⟩ := cells_ask (O11.out.nth 2 rfl)
        have l_a := lt_blk (O11.out.nth 2 rfl)
        go_wp2_with fail
        refine ((g3 _).out).mono ?_
        rintro e w12 ⟨rfl, hb⟩
        have O12 := Lib.hid ((O11.out.alloc w11.heap.size _ rfl).call hb)
        clear hb O11 x_0 x_1 x_2 x_3 x_f0 x_f1 x_f2 x_f3 l_x p_0 p_1 p_2 p_3 p_f0 p_f1 p_f2 p_f3 l_p a_0 a_1 a_2 a_3 l_a
        obtain ⟨y_0, y_1, y_2, y_3, y_f0, y_f1, y_f2, y_f3⟩ := cells4 (O12.out.nth 0 rfl)
        have l_y := lt_blk (O12.out.nth 0 rfl)
        obtain ⟨x_0, x_1, x_2, x_3, x_f0, x_f1, x_f2, x_f3⟩ := cells4 (O12.out.nth 1 rfl)
        have l_x := lt_blk (O12.out.nth 1 rfl)
        obtain ⟨p_0, p_1, p_2, p_3, p_f0, p_f1, p_f2, p_f3⟩ := cells4 (O12.out.nth 2 rfl)
        have l_p := lt_blk (O12.out.nth 2 rfl)
        obtain ⟨a_0, a_1, a_2, a_3⟩ := cells_ask (O12.out.nth 3 rfl)
        have l_a := lt_blk (O12.out.nth 3 rfl)
        go_wp2
        go_ret
        exact ⟨rfl, O12.out.below⟩
  · have hq0 : 0 ≤ port % 32 := by omega
    have hq1 : port % 32 < 32 := by omega
    go_enter Try.func7, Try.ntmps7
    go_wp2_with fail
    refine (wakes_ _).mono ?_
    rintro e w1 ⟨rfl, hb⟩
    have O1 := Lib.hid ((O.out.alloc w.heap.size _ rfl).call hb)
    clear hb O 
    obtain ⟨a_0, a_1, a_2, a_3⟩ := cells_ask (O1.out.nth 0 rfl)
    have l_a := lt_blk (O1.out.nth 0 rfl)
    go_wp2_with fail
    refine ((g1 _).out).mono ?_
    rintro e w2 ⟨rfl, hb⟩
    have O2 := Lib.hid ((O1.out.alloc w1.heap.size _ rfl).call hb)
    clear hb O1 a_0 a_1 a_2 a_3 l_a
    obtain ⟨r_0, r_1, r_2, r_3, r_f0, r_f1, r_f2, r_f3⟩ := cells4 (O2.out.nth 0 rfl)
    have l_r := lt_blk (O2.out.nth 0 rfl)
    obtain ⟨a_0, a_1, a_2, a_3⟩ := cells_ask (O2.out.nth 1 rfl)
    have l_a := lt_blk (O2.out.nth 1 rfl)
    go_wp2_with fail
    refine ((g2 _ _ (by omega) (by omega)).out).mono ?_
    rintro e w3 ⟨rfl, hb⟩
    have O3 := Lib.hid ((O2.out.alloc w2.heap.size _ rfl).call hb)
    clear hb O2 r_0 r_1 r_2 r_3 r_f0 r_f1 r_f2 r_f3 l_r a_0 a_1 a_2 a_3 l_a
    obtain ⟨b_0, b_1, b_2, b_3, b_f0, b_f1, b_f2, b_f3⟩ := cells4 (O3.out.nth 0 rfl)
    have l_b := lt_blk (O3.out.nth 0 rfl)
    obtain ⟨r_0, r_1, r_2, r_3, r_f0, r_f1, r_f2, r_f3⟩ := cells4 (O3.out.nth 1 rfl)
    have l_r := lt_blk (O3.out.nth 1 rfl)
    obtain ⟨a_0, a_1, a_2, a_3⟩ := cells_ask (O3.out.nth 2 rfl)
    have l_a := lt_blk (O3.out.nth 2 rfl)
    go_wp2_with fail
    refine ((g3 _).out).mono ?_
    rintro e w4 ⟨rfl, hb⟩
    have O4 := Lib.hid ((O3.out.alloc w3.heap.size _ rfl).call hb)
    clear hb O3 b_0 b_1 b_2 b_3 b_f0 b_f1 b_f2 b_f3 l_b r_0 r_1 r_2 r_3 r_f0 r_f1 r_f2 r_f3 l_r a_0 a_1 a_2 a_3 l_a
    obtain ⟨x_0, x_1, x_2, x_3, x_f0, x_f1, x_f2, x_f3⟩ := cells4 (O4.out.nth 0 rfl)
    have l_x := lt_blk (O4.out.nth 0 rfl)
    obtain ⟨b_0, b_1, b_2, b_3, b_f0, b_f1, b_f2, b_f3⟩ := cells4 (O4.out.nth 1 rfl)
    have l_b := lt_blk (O4.out.nth 1 rfl)
    obtain ⟨r_0, r_1, r_2, r_3, r_f0, r_f1, r_f2, r_f3⟩ := cells4 (O4.out.nth 2 rfl)
    have l_r := lt_blk (O4.out.nth 2 rfl)
    obtain ⟨a_0, a_1, a_2, a_3⟩ := cells_ask (O4.out.nth 3 rfl)
    have l_a := lt_blk (O4.out.nth 3 rfl)
    go_wp2_with fail
    refine ((g4 _ _ (by omega) (by omega)).out).mono ?_
    rintro e w5 ⟨rfl, hb⟩
    have O5 := Lib.hid (O4.out.call hb)
    clear hb O4 x_0 x_1 x_2 x_3 x_f0 x_f1 x_f2 x_f3 l_x b_0 b_1 b_2 b_3 b_f0 b_f1 b_f2 b_f3 l_b r_0 r_1 r_2 r_3 r_f0 r_f1 r_f2 r_f3 l_r a_0 a_1 a_2 a_3 l_a
    obtain ⟨x_0, x_1, x_2, x_3, x_f0, x_f1, x_f2, x_f3⟩ := cells4 (O5.out.nth 0 rfl)
    have l_x := lt_blk (O5.out.nth 0 rfl)
    obtain ⟨b_0, b_1, b_2, b_3, b_f0, b_f1, b_f2, b_f3⟩ := cells4 (O5.out.nth 1 rfl)
    have l_b := lt_blk (O5.out.nth 1 rfl)
    obtain ⟨r_0, r_1, r_2, r_3, r_f0, r_f1, r_f2, r_f3⟩ := cells4 (O5.out.nth 2 rfl)
    have l_r := lt_blk (O5.out.nth 2 rfl)
    obtain ⟨a_0, a_1, a_2, a_3⟩ := cells_ask (O5.out.nth 3 rfl)
    have l_a := lt_blk (O5.out.nth 3 rfl)
    go_wp2_with fail
    refine ((g5 _).out).mono ?_
    rintro e w6 ⟨rfl, hb⟩
    have O6 := Lib.hid ((O5.out.alloc w5.heap.size _ rfl).call hb)
    clear hb O5 x_0 x_1 x_2 x_3 x_f0 x_f1 x_f2 x_f3 l_x b_0 b_1 b_2 b_3 b_f0 b_f1 b_f2 b_f3 l_b r_0 r_1 r_2 r_3 r_f0 r_f1 r_f2 r_f3 l_r a_0 a_1 a_2 a_3 l_a
    obtain ⟨m_0, m_1, m_2, m_3, m_f0, m_f1, m_f2, m_f3⟩ := cells4 (O6.out.nth 0 rfl)
    have l_m := lt_blk (O6.out.nth 0 rfl)
    obtain ⟨x_0, x_1, x_2, x_3, x_f0, x_f1, x_f2, x_f3⟩ := cells4 (O6.out.nth 1 rfl)
    have l_x := lt_blk (O6.out.nth 1 rfl)
    obtain ⟨b_0, b_1, b_2, b_3, b_f0, b_f1, b_f2, b_f3⟩ := cells4 (O6.out.nth 2 rfl)
    have l_b := lt_blk (O6.out.nth 2 rfl)
    obtain ⟨r_0, r_1, r_2, r_3, r_f0, r_f1, r_f2, r_f3⟩ := cells4 (O6.out.nth 3 rfl)
    have l_r := lt_blk (O6.out.nth 3 rfl)
    obtain ⟨a_0, a_1, a_2, a_3⟩ := cells_ask (O6.out.nth 4 rfl)
    have l_a := lt_blk (O6.out.nth 4 rfl)
    go_wp2_with fail
    refine ((g6 _).out).mono ?_
    rintro e w7 ⟨rfl, hb⟩
    have O7 := Lib.hid ((O6.out.alloc w6.heap.size _ rfl).call hb)
    clear hb O6 m_0 m_1 m_2 m_3 m_f0 m_f1 m_f2 m_f3 l_m x_0 x_1 x_2 x_3 x_f0 x_f1 x_f2 x_f3 l_x b_0 b_1 b_2 b_3 b_f0 b_f1 b_f2 b_f3 l_b r_0 r_1 r_2 r_3 r_f0 r_f1 r_f2 r_f3 l_r a_0 a_1 a_2 a_3 l_a
    obtain ⟨p_0, p_1, p_2, p_3, p_f0, p_f1, p_f2, p_f3⟩ := cells4 (O7.out.nth 0 rfl)
    have l_p := lt_blk (O7.out.nth 0 rfl)
    obtain ⟨m_0, m_1, m_2, m_3, m_f0, m_f1, m_f2, m_f3⟩ := cells4 (O7.out.nth 1 rfl)
    have l_m := lt_blk (O7.out.nth 1 rfl)
    obtain ⟨x_0, x_1, x_2, x_3, x_f0, x_f1, x_f2, x_f3⟩ := cells4 (O7.out.nth 2 rfl)
    have l_x := lt_blk (O7.out.nth 2 rfl)
    obtain ⟨b_0, b_1, b_2, b_3, b_f0, b_f1, b_f2, b_f3⟩ := cells4 (O7.out.nth 3 rfl)
    have l_b := lt_blk (O7.out.nth 3 rfl)
    obtain ⟨r_0, r_1, r_2, r_3, r_f0, r_f1, r_f2, r_f3⟩ := cells4 (O7.out.nth 4 rfl)
    have l_r := lt_blk (O7.out.nth 4 rfl)
    obtain ⟨a_0, a_1, a_2, a_3⟩ := cells_ask (O7.out.nth 5 rfl)
    have l_a := lt_blk (O7.out.nth 5 rfl)
    clear p_0 p_1 p_2 p_3 p_f0 p_f1 p_f2 p_f3 l_p m_0 m_1 m_2 m_3 m_f0 m_f1 m_f2 m_f3 l_m x_0 x_1 x_2 x_3 x_f0 x_f1 x_f2 x_f3 l_x b_0 b_1 b_2 b_3 b_f0 b_f1 b_f2 b_f3 l_b r_0 r_1 r_2 r_3 r_f0 r_f1 r_f2 r_f3 l_r a_0 a_1 a_2 a_3 l_a
    go_wp2_with fail
    go_loopw [110] (fun i wr => ∃ k : Nat, k ≤ 32 ∧ i = .int .i64 k ∧ Hid (Own w wr [(w6.heap.size, .cells (St.cells ⟨3, 0, ap, au⟩) 24 (0, 0)), (w.heap.size, .cells #[.int .u32 ap, .int .u32 ad, .int .i64 au, .int .i64 an] 26 (0, 0))])) (fun i _ => 32 - (intOf i).toNat)
    case atStart => exact ⟨0, by omega, rfl, Lib.hid (O7.out.sub (by intro q hq; simp only [List.mem_cons] at hq ⊢; rcases hq with rfl | rfl | hq <;> simp_all))⟩
    case round =>
      obtain ⟨k, hk, rfl, O8⟩ := hrel
      obtain ⟨w8, rfl⟩ : ∃ w8 : World, w8 = wr := ⟨_, rfl⟩
      by_cases hlt : k < 32
      · cases hh : hasB ap k with
        | true =>
          have hh2 : (bits BinOp.and IntKind.u32 (ap / 2 ^ k) 1 == 1) = true := by simpa [hasB] using hh
          obtain ⟨p_0, p_1, p_2, p_3, p_f0, p_f1, p_f2, p_f3⟩ := cells4 (O8.out.nth 0 rfl)
          have l_p := lt_blk (O8.out.nth 0 rfl)
          obtain ⟨a_0, a_1, a_2, a_3⟩ := cells_ask (O8.out.nth 1 rfl)
          have l_a := lt_blk (O8.out.nth 1 rfl)
          go_wp2_with fail
          refine ((gT k _ hlt hh).out).mono ?_
          rintro e w9 ⟨rfl, hb⟩
          have O9 := Lib.hid (O8.out.call hb)
          clear hb O8 p_0 p_1 p_2 p_3 p_f0 p_f1 p_f2 p_f3 l_p a_0 a_1 a_2 a_3 l_a
          obtain ⟨p_0, p_1, p_2, p_3, p_f0, p_f1, p_f2, p_f3⟩ := cells4 (O9.out.nth 0 rfl)
          have l_p := lt_blk (O9.out.nth 0 rfl)
          obtain ⟨a_0, a_1, a_2, a_3⟩ := cells_ask (O9.out.nth 1 rfl)
          have l_a := lt_blk (O9.out.nth 1 rfl)
          go_wp2_with fail
          refine ((g3 _).out).mono ?_
          rintro e w10 ⟨rfl, hb⟩
          have O10 := Lib.hid ((O9.out.alloc w9.heap.size _ rfl).call hb)
          clear hb O9 p_0 p_1 p_2 p_3 p_f0 p_f1 p_f2 p_f3 l_p a_0 a_1 a_2 a_3 l_a
          obtain ⟨x_0, x_1, x_2, x_3, x_f0, x_f1, x_f2, x_f3⟩ := cells4 (O10.out.nth 0 rfl)
          have l_x := lt_blk (O10.out.nth 0 rfl)
          obtain ⟨p_0, p_1, p_2, p_3, p_f0, p_f1, p_f2, p_f3⟩ := cells4 (O10.out.nth 1 rfl)
          have l_p := lt_blk (O10.out.nth 1 rfl)
          obtain ⟨a_0, a_1, a_2, a_3⟩ := cells_ask (O10.out.nth 2 rfl)
          have l_a := lt_blk (O10.out.nth 2 rfl)
          go_wp2_with fail
          refine ((gN k _ hlt).out).mono ?_
          rintro e w11 ⟨rfl, hb⟩
          have O11 := Lib.hid (O10.out.call hb)
          clear hb O10 x_0 x_1 x_2 x_3 x_f0 x_f1 x_f2 x_f3 l_x p_0 p_1 p_2 p_3 p_f0 p_f1 p_f2 p_f3 l_p a_0 a_1 a_2 a_3 l_a
          obtain ⟨x_0, x_1, x_2, x_3, x_f0, x_f1, x_f2, x_f3⟩ := cells4 (O11.out.nth 0 rfl)
          have l_x := lt_blk (O11.out.nth 0 rfl)
          obtain ⟨p_0, p_1, p_2, p_3, p_f0, p_f1, p_f2, p_f3⟩ := cells4 (O11.out.nth 1 rfl)
          have l_p := lt_blk (O11.out.nth 1 rfl)
          obtain ⟨a_0, a_1, a_2, a_3⟩ := cells_ask (O11.out.nth 2 rfl)
          have l_a := lt_blk (O11.out.nth 2 rfl)
          go_wp2_with fail
          refine ((g3 _).out).mono ?_
          rintro e w12 ⟨rfl, hb⟩
          have O12 := Lib.hid ((O11.out.alloc w11.heap.size _ rfl).call hb)
          clear hb O11 x_0 x_1 x_2 x_3 x_f0 x_f1 x_f2 x_f3 l_x p_0 p_1 p_2 p_3 p_f0 p_f1 p_f2 p_f3 l_p a_0 a_1 a_2 a_3 l_a
          obtain ⟨y_0, y_1, y_2, y_3, y_f0, y_f1, y_f2, y_f3⟩ := cells4 (O12.out.nth 0 rfl)
          have l_y := lt_blk (O12.out.nth 0 rfl)
          obtain ⟨x_0, x_1, x_2, x_3, x_f0, x_f1, x_f2, x_f3⟩ := cells4 (O12.out.nth 1 rfl)
          have l_x := lt_blk (O12.out.nth 1 rfl)
          obtain ⟨p_0, p_1, p_2, p_3, p_f0, p_f1, p_f2, p_f3⟩ := cells4 (O12.out.nth 2 rfl)
          have l_p := lt_blk (O12.out.nth 2 rfl)
          obtain ⟨a_0, a_1, a_2, a_3⟩ := cells_ask (O12.out.nth 3 rfl)
          have l_a := lt_blk (O12.out.nth 3 rfl)
          go_wp2
          go_roundw
          case rel => exact ⟨k + 1, by omega, by go_num, Lib.hid (O12.out.sub (by intro q hq; simp only [List.mem_cons] at hq ⊢; rcases hq with rfl | rfl | hq <;> simp_all))⟩
          case measure => simp [intOf]; omega
        | false =>
          have hh2 : (bits BinOp.and IntKind.u32 (ap / 2 ^ k) 1 == 1) = false := by simpa [hasB] using hh
          obtain ⟨p_0, p_1, p_2, p_3, p_f0, p_f1, p_f2, p_f3⟩ := cells4 (O8.out.nth 0 rfl)
          have l_p := lt_blk (O8.out.nth 0 rfl)
          obtain ⟨a_0, a_1, a_2, a_3⟩ := cells_ask (O8.out.nth 1 rfl)
          have l_a := lt_blk (O8.out.nth 1 rfl)
          go_wp2_with fail
          refine ((gF k _ hlt hh).out).mono ?_
          rintro e w9 ⟨rfl, hb⟩
          have O9 := Lib.hid (O8.out.call hb)
          clear hb O8 p_0 p_1 p_2 p_3 p_f0 p_f1 p_f2 p_f3 l_p a_0 a_1 a_2 a_3 l_a
          obtain ⟨p_0, p_1, p_2, p_3, p_f0, p_f1, p_f2, p_f3⟩ := cells4 (O9.out.nth 0 rfl)
          have l_p := lt_blk (O9.out.nth 0 rfl)
          obtain ⟨a_0, a_1, a_2, a_3⟩ := cells_ask (O9.out.nth 1 rfl)
          have l_a := lt_blk (O9.out.nth 1 rfl)
          go_wp2_with fail
          refine ((g6 _).out).mono ?_
          rintro e w10 ⟨rfl, hb⟩
          have O10 := Lib.hid ((O9.out.alloc w9.heap.size _ rfl).call hb)
          clear hb O9 p_0 p_1 p_2 p_3 p_f0 p_f1 p_f2 p_f3 l_p a_0 a_1 a_2 a_3 l_a
          obtain ⟨x_0, x_1, x_2, x_3, x_f0, x_f1, x_f2, x_f3⟩ := cells4 (O10.out.nth 0 rfl)
          have l_x := lt_blk (O10.out.nth 0 rfl)
          obtain ⟨p_0, p_1, p_2, p_3, p_f0, p_f1, p_f2, p_f3⟩ := cells4 (O10.out.nth 1 rfl)
          have l_p := lt_blk (O10.out.nth 1 rfl)
          obtain ⟨a_0, a_1, a_2, a_3⟩ := cells_ask (O10.out.nth 2 rfl)
          have l_a := lt_blk (O10.out.nth 2 rfl)
          go_wp2_with fail
          refine ((gN k _ hlt).out).mono ?_
          rintro e w11 ⟨rfl, hb⟩
          have O11 := Lib.hid (O10.out.call hb)
          clear hb O10 x_0 x_1 x_2 x_3 x_f0 x_f1 x_f2 x_f3 l_x p_0 p_1 p_2 p_3 p_f0 p_f1 p_f2 p_f3 l_p a_0 a_1 a_2 a_3 l_a
          obtain ⟨x_0, x_1, x_2, x_3, x_f0, x_f1, x_f2, x_f3⟩ := cells4 (O11.out.nth 0 rfl)
          have l_x := lt_blk (O11.out.nth 0 rfl)
          obtain ⟨p_0, p_1, p_2, p_3, p_f0, p_f1, p_f2, p_f3⟩ := cells4 (O11.out.nth 1 rfl)
          have l_p := lt_blk (O11.out.nth 1 rfl)
          obtain ⟨a_0, a_1, a_2, a_3⟩ := cells_ask (O11.out.nth 2 rfl)
          have l_a := lt_blk (O11.out.nth 2 rfl)
          go_wp2_with fail
          refine ((g3 _).out).mono ?_
          rintro e w12 ⟨rfl, hb⟩
          have O12 := Lib.hid ((O11.out.alloc w11.heap.size _ rfl).call hb)
          clear hb O11 x_0 x_1 x_2 x_3 x_f0 x_f1 x_f2 x_f3 l_x p_0 p_1 p_2 p_3 p_f0 p_f1 p_f2 p_f3 l_p a_0 a_1 a_2 a_3 l_a
          obtain ⟨y_0, y_1, y_2, y_3, y_f0, y_f1, y_f2, y_f3⟩ := cells4 (O12.out.nth 0 rfl)
          have l_y := lt_blk (O12.out.nth 0 rfl)
          obtain ⟨x_0, x_1, x_2, x_3, x_f0, x_f1, x_f2, x_f3⟩ := cells4 (O12.out.nth 1 rfl)
          have l_x := lt_blk (O12.out.nth 1 rfl)
          obtain ⟨p_0, p_1, p_2, p_3, p_f0, p_f1, p_f2, p_f3⟩ := cells4 (O12.out.nth 2 rfl)
          have l_p := lt_blk (O12.out.nth 2 rfl)
          obtain ⟨a_0, a_1, a_2, a_3⟩ := cells_ask (O12.out.nth 3 rfl)
          have l_a := lt_blk (O12.out.nth 3 rfl)
          go_wp2
          go_roundw
          case rel => exact ⟨k + 1, by omega, by go_num, Lib.hid (O12.out.sub (by intro q hq; simp only [List.mem_cons] at hq ⊢; rcases hq with rfl | rfl | hq <;> simp_all))⟩
          case measure => simp [intOf]; omega
      · have : k = 32 := by omega
        subst this
        obtain ⟨p_0, p_1, p_2, p_3, p_f0, p_f1, p_f2, p_f3⟩ := cells4 (O8.out.nth 0 rfl)
        have l_p := lt_blk (O8.out.nth 0 rfl)
        obtain ⟨a_0, a_1, a_2, a_3⟩ := cells_ask (O8.out.nth 1 rfl)
        have l_a := lt_blk (O8.out.nth 1 rfl)
        go_wp2_with fail
        refine ((g8 _).out).mono ?_
        rintro e w9 ⟨rfl, hb⟩
        have O9 := Lib.hid (O8.out.call hb)
        clear hb O8 p_0 p_1 p_2 p_3 p_f0 p_f1 p_f2 p_f3 l_p a_0 a_1 a_2 a_3 l_a
        obtain ⟨p_0, p_1, p_2, p_3, p_f0, p_f1, p_f2, p_f3⟩ := cells4 (O9.out.nth 0 rfl)
        have l_p := lt_blk (O9.out.nth 0 rfl)
        obtain ⟨a_0, a_1, a_2, a_3⟩ := cells_ask (O9.out.nth 1 rfl)
        have l_a := lt_blk (O9.out.nth 1 rfl)
        go_wp2_with fail
        refine ((gE _).out).mono ?_
        rintro e w10 ⟨rfl, hb⟩
        have O10 := Lib.hid (O9.out.call hb)
        clear hb O9 p_0 p_1 p_2 p_3 p_f0 p_f1 p_f2 p_f3 l_p a_0 a_1 a_2 a_3 l_a
        obtain ⟨p_0, p_1, p_2, p_3, p_f0, p_f1, p_f2, p_f3⟩ := cells4 (O10.out.nth 0 rfl)
        have l_p := lt_blk (O10.out.nth 0 rfl)
        obtain ⟨a_0, a_1, a_2, a_3⟩ := cells_ask (O10.out.nth 1 rfl)
        have l_a := lt_blk (O10.out.nth 1 rfl)
        go_wp2_with fail
        refine ((gL _).out).mono ?_
        rintro e w11 ⟨rfl, hb⟩
        have O11 := Lib.hid ((O10.out.alloc w10.heap.size _ rfl).call hb)
        clear hb O10 p_0 p_1 p_2 p_3 p_f0 p_f1 p_f2 p_f3 l_p a_0 a_1 a_2 a_3 l_a
        obtain ⟨x_0, x_1, x_2, x_3, x_f0, x_f1, x_f2, x_f3⟩ := cells4 (O11.out.nth 0 rfl)
        have l_x := lt_blk (O11.out.nth 0 rfl)
        obtain ⟨p_0, p_1, p_2, p_3, p_f0, p_f1, p_f2, p_f3⟩ := cells4 (O11.out.nth 1 rfl)
        have l_p := lt_blk (O11.out.nth 1 rfl)
        obtain ⟨a_0, a_1, a_2, a_3⟩ := cells_ask (O11.out.nth 2 rfl)
        have l_a := lt_blk (O11.out.nth 2 rfl)
        go_wp2_with fail
        refine ((g3 _).out).mono ?_
        rintro e w12 ⟨rfl, hb⟩
        have O12 := Lib.hid ((O11.out.alloc w11.heap.size _ rfl).call hb)
        clear hb O11 x_0 x_1 x_2 x_3 x_f0 x_f1 x_f2 x_f3 l_x p_0 p_1 p_2 p_3 p_f0 p_f1 p_f2 p_f3 l_p a_0 a_1 a_2 a_3 l_a
        obtain ⟨y_0, y_1, y_2, y_3, y_f0, y_f1, y_f2, y_f3⟩ := cells4 (O12.out.nth 0 rfl)
        have l_y := lt_blk (O12.out.nth 0 rfl)
        obtain ⟨x_0, x_1, x_2, x_3, x_f0, x_f1, x_f2, x_f3⟩ := cells4 (O12.out.nth 1 rfl)
        have l_x := lt_blk (O12.out.nth 1 rfl)
        obtain ⟨p_0, p_1, p_2, p_3, p_f0, p_f1, p_f2, p_f3⟩ := cells4 (O12.out.nth 2 rfl)
        have l_p := lt_blk (O12.out.nth 2 rfl)
        obtain ⟨a_0, a_1, a_2, a_3⟩ := cells_ask (O12.out.nth 3 rfl)
        have l_a := lt_blk (O12.out.nth 3 rfl)
        go_wp2
        go_ret
        exact ⟨rfl, O12.out.below⟩

end Go.Proofs.Ytjppkcdonddohaa.A
