/-
  Walks of the wait layer's statements: WaitPolls.
-/
import Derived.Test.YtjppkcdonddohaaJ
set_option linter.unusedVariables false
set_option linter.unusedSimpArgs false
namespace Go.Proofs.Ytjppkcdonddohaa.A
open Go.RowKit

set_option maxHeartbeats 3000000 in
theorem polls_1 (s X : St) (B : Bool) (E : Int) (ap ad : Int) (au an : Int) (pend : Bool) (w : World)
    (h1 : ∀ W, Hid (Calls Try.prog 15 #[.agg s.cells, .int .u32 ap, .int .i64 au, .int .i64 an, .int .u32 ad] W fun e w' => e = .returned (triple X B E) ∧ Below W.heap.size W w'))
    (h2 : ∀ W, Hid (Calls Try.prog 16 #[.agg s.cells, .int .u32 ap, .int .i64 au, .int .i64 an, .int .u32 ad] W fun e w' => e = .returned (.tuple #[.agg X.cells, .int .i64 E]) ∧ Below W.heap.size W w'))
    (hB : Hid (B = (E == 0 && neB s X)))
    (h3 : ∀ W, Hid (Calls Try.prog 17 #[.agg s.cells, .bool pend] W fun e w' => e = .returned (triple St.zero false 270) ∧ Below W.heap.size W w'))
    (hpo : 0 ≤ s.po) (hok : okB s = false) :
    Calls Try.prog 5 #[.agg s.cells, .agg #[.int .u32 ap, .int .u32 ad, .int .i64 au, .int .i64 an], .bool pend] w fun e w' => e = .returned (.bool true) ∧ Below w.heap.size w w' := by
  obtain ⟨st, pa, po, un⟩ := s
  obtain ⟨X0, X1, X2, X3⟩ := X
  have O := Lib.hid (Own.start w)
  rcases Bool.eq_false_or_eq_true (E == 0) with hE | hE
  · by_cases e0 : X0 = st
    · replace e0 := e0.symm
      subst e0
      by_cases e1 : X1 = pa
      · replace e1 := e1.symm
        subst e1
        by_cases e2 : X2 = po
        · replace e2 := e2.symm
          subst e2
          by_cases e3 : X3 = un
          · replace e3 := e3.symm
            subst e3
            have hBv : B = false := by rw [hB.out, neB_self]; simp
            clear hB
            go_enter Try.func5, Try.ntmps5
            go_wp2_with fail
            refine (wakes_ _).mono ?_
            rintro e w1 ⟨rfl, hb⟩
            have O1 := Lib.hid (((O.out.alloc w.heap.size _ rfl).alloc (w.heap.size + 1) _ (by simp)).call hb)
            clear hb O
            obtain ⟨s0, s1, s2, s3, _, _, _, _⟩ := cells4 (O1.out.nth 1 rfl)
            obtain ⟨a0, a1, a2, a3⟩ := cells_ask (O1.out.nth 0 rfl)
            go_wp2_with fail
            refine (h1 _).out.mono ?_
            rintro e w2 ⟨rfl, hb⟩
            have O2 := Lib.hid (O1.out.call hb)
            clear hb O1 s0 s1 s2 s3 a0 a1 a2 a3
            obtain ⟨s0, s1, s2, s3, _, _, _, _⟩ := cells4 (O2.out.nth 1 rfl)
            obtain ⟨a0, a1, a2, a3⟩ := cells_ask (O2.out.nth 0 rfl)
            have ls := lt_blk (O2.out.nth 1 rfl)
            have la := lt_blk (O2.out.nth 0 rfl)
            go_wp2_with fail
            refine (h2 _).out.mono ?_
            rintro e w3 ⟨rfl, hb⟩
            have O3 := Lib.hid ((O2.out.alloc w2.heap.size _ rfl).call hb)
            clear hb O2 s0 s1 s2 s3 a0 a1 a2 a3 ls la
            obtain ⟨s0, s1, s2, s3, _, _, _, _⟩ := cells4 (O3.out.nth 2 rfl)
            obtain ⟨x0, x1, x2, x3, _, _, _, _⟩ := cells4 (O3.out.nth 0 rfl)
            have ls := lt_blk (O3.out.nth 2 rfl)
            have lx := lt_blk (O3.out.nth 0 rfl)
            go_wp2_with fail
            refine (h3 _).out.mono ?_
            rintro e w4 ⟨rfl, hb⟩
            have O4 := Lib.hid ((O3.out.alloc w3.heap.size _ rfl).call hb)
            clear hb O3 s0 s1 s2 s3 x0 x1 x2 x3 ls lx
            obtain ⟨s0, s1, s2, s3, _, _, _, _⟩ := cells4 (O4.out.nth 3 rfl)
            have ls := lt_blk (O4.out.nth 3 rfl)
            go_wp2_with fail
            refine (right_ _ _ _ _ hpo _).mono ?_
            rintro e w5 ⟨rfl, hb⟩
            have O5 := Lib.hid ((O4.out.alloc w4.heap.size _ rfl).call hb)
            clear hb O4 s0 s1 s2 s3 ls
            obtain ⟨s0, s1, s2, s3, _, _, _, _⟩ := cells4 (O5.out.nth 4 rfl)
            obtain ⟨y0, y1, y2, y3, _, _, _, _⟩ := cells4 (O5.out.nth 0 rfl)
            go_wp2
            go_ret
            exact ⟨rfl, O5.out.below⟩
          · have hBv : B = true := by rw [hB.out]; simp [neB, hE, e3]
            clear hB
            go_enter Try.func5, Try.ntmps5
            go_wp2_with fail
            refine (wakes_ _).mono ?_
            rintro e w1 ⟨rfl, hb⟩
            have O1 := Lib.hid (((O.out.alloc w.heap.size _ rfl).alloc (w.heap.size + 1) _ (by simp)).call hb)
            clear hb O
            obtain ⟨s0, s1, s2, s3, _, _, _, _⟩ := cells4 (O1.out.nth 1 rfl)
            obtain ⟨a0, a1, a2, a3⟩ := cells_ask (O1.out.nth 0 rfl)
            go_wp2_with fail
            refine (h1 _).out.mono ?_
            rintro e w2 ⟨rfl, hb⟩
            have O2 := Lib.hid (O1.out.call hb)
            clear hb O1 s0 s1 s2 s3 a0 a1 a2 a3
            obtain ⟨s0, s1, s2, s3, _, _, _, _⟩ := cells4 (O2.out.nth 1 rfl)
            obtain ⟨a0, a1, a2, a3⟩ := cells_ask (O2.out.nth 0 rfl)
            have ls := lt_blk (O2.out.nth 1 rfl)
            have la := lt_blk (O2.out.nth 0 rfl)
            go_wp2_with fail
            refine (h2 _).out.mono ?_
            rintro e w3 ⟨rfl, hb⟩
            have O3 := Lib.hid ((O2.out.alloc w2.heap.size _ rfl).call hb)
            clear hb O2 s0 s1 s2 s3 a0 a1 a2 a3 ls la
            obtain ⟨s0, s1, s2, s3, _, _, _, _⟩ := cells4 (O3.out.nth 2 rfl)
            obtain ⟨x0, x1, x2, x3, _, _, _, _⟩ := cells4 (O3.out.nth 0 rfl)
            have ls := lt_blk (O3.out.nth 2 rfl)
            have lx := lt_blk (O3.out.nth 0 rfl)
            go_wp2_with fail
            refine (h3 _).out.mono ?_
            rintro e w4 ⟨rfl, hb⟩
            have O4 := Lib.hid ((O3.out.alloc w3.heap.size _ rfl).call hb)
            clear hb O3 s0 s1 s2 s3 x0 x1 x2 x3 ls lx
            obtain ⟨s0, s1, s2, s3, _, _, _, _⟩ := cells4 (O4.out.nth 3 rfl)
            have ls := lt_blk (O4.out.nth 3 rfl)
            go_wp2_with fail
            refine (right_ _ _ _ _ hpo _).mono ?_
            rintro e w5 ⟨rfl, hb⟩
            have O5 := Lib.hid ((O4.out.alloc w4.heap.size _ rfl).call hb)
            clear hb O4 s0 s1 s2 s3 ls
            obtain ⟨s0, s1, s2, s3, _, _, _, _⟩ := cells4 (O5.out.nth 4 rfl)
            obtain ⟨y0, y1, y2, y3, _, _, _, _⟩ := cells4 (O5.out.nth 0 rfl)
            go_wp2
            go_ret
            exact ⟨rfl, O5.out.below⟩
        · have hBv : B = true := by rw [hB.out]; simp [neB, hE, e2]
          clear hB
          go_enter Try.func5, Try.ntmps5
          go_wp2_with fail
          refine (wakes_ _).mono ?_
          rintro e w1 ⟨rfl, hb⟩
          have O1 := Lib.hid (((O.out.alloc w.heap.size _ rfl).alloc (w.heap.size + 1) _ (by simp)).call hb)
          clear hb O
          obtain ⟨s0, s1, s2, s3, _, _, _, _⟩ := cells4 (O1.out.nth 1 rfl)
          obtain ⟨a0, a1, a2, a3⟩ := cells_ask (O1.out.nth 0 rfl)
          go_wp2_with fail
          refine (h1 _).out.mono ?_
          rintro e w2 ⟨rfl, hb⟩
          have O2 := Lib.hid (O1.out.call hb)
          clear hb O1 s0 s1 s2 s3 a0 a1 a2 a3
          obtain ⟨s0, s1, s2, s3, _, _, _, _⟩ := cells4 (O2.out.nth 1 rfl)
          obtain ⟨a0, a1, a2, a3⟩ := cells_ask (O2.out.nth 0 rfl)
          have ls := lt_blk (O2.out.nth 1 rfl)
          have la := lt_blk (O2.out.nth 0 rfl)
          go_wp2_with fail
          refine (h2 _).out.mono ?_
          rintro e w3 ⟨rfl, hb⟩
          have O3 := Lib.hid ((O2.out.alloc w2.heap.size _ rfl).call hb)
          clear hb O2 s0 s1 s2 s3 a0 a1 a2 a3 ls la
          obtain ⟨s0, s1, s2, s3, _, _, _, _⟩ := cells4 (O3.out.nth 2 rfl)
          obtain ⟨x0, x1, x2, x3, _, _, _, _⟩ := cells4 (O3.out.nth 0 rfl)
          have ls := lt_blk (O3.out.nth 2 rfl)
          have lx := lt_blk (O3.out.nth 0 rfl)
          go_wp2_with fail
          refine (h3 _).out.mono ?_
          rintro e w4 ⟨rfl, hb⟩
          have O4 := Lib.hid ((O3.out.alloc w3.heap.size _ rfl).call hb)
          clear hb O3 s0 s1 s2 s3 x0 x1 x2 x3 ls lx
          obtain ⟨s0, s1, s2, s3, _, _, _, _⟩ := cells4 (O4.out.nth 3 rfl)
          have ls := lt_blk (O4.out.nth 3 rfl)
          go_wp2_with fail
          refine (right_ _ _ _ _ hpo _).mono ?_
          rintro e w5 ⟨rfl, hb⟩
          have O5 := Lib.hid ((O4.out.alloc w4.heap.size _ rfl).call hb)
          clear hb O4 s0 s1 s2 s3 ls
          obtain ⟨s0, s1, s2, s3, _, _, _, _⟩ := cells4 (O5.out.nth 4 rfl)
          obtain ⟨y0, y1, y2, y3, _, _, _, _⟩ := cells4 (O5.out.nth 0 rfl)
          go_wp2
          go_ret
          exact ⟨rfl, O5.out.below⟩
      · have hBv : B = true := by rw [hB.out]; simp [neB, hE, e1]
        clear hB
        go_enter Try.func5, Try.ntmps5
        go_wp2_with fail
        refine (wakes_ _).mono ?_
        rintro e w1 ⟨rfl, hb⟩
        have O1 := Lib.hid (((O.out.alloc w.heap.size _ rfl).alloc (w.heap.size + 1) _ (by simp)).call hb)
        clear hb O
        obtain ⟨s0, s1, s2, s3, _, _, _, _⟩ := cells4 (O1.out.nth 1 rfl)
        obtain ⟨a0, a1, a2, a3⟩ := cells_ask (O1.out.nth 0 rfl)
        go_wp2_with fail
        refine (h1 _).out.mono ?_
        rintro e w2 ⟨rfl, hb⟩
        have O2 := Lib.hid (O1.out.call hb)
        clear hb O1 s0 s1 s2 s3 a0 a1 a2 a3
        obtain ⟨s0, s1, s2, s3, _, _, _, _⟩ := cells4 (O2.out.nth 1 rfl)
        obtain ⟨a0, a1, a2, a3⟩ := cells_ask (O2.out.nth 0 rfl)
        have ls := lt_blk (O2.out.nth 1 rfl)
        have la := lt_blk (O2.out.nth 0 rfl)
        go_wp2_with fail
        refine (h2 _).out.mono ?_
        rintro e w3 ⟨rfl, hb⟩
        have O3 := Lib.hid ((O2.out.alloc w2.heap.size _ rfl).call hb)
        clear hb O2 s0 s1 s2 s3 a0 a1 a2 a3 ls la
        obtain ⟨s0, s1, s2, s3, _, _, _, _⟩ := cells4 (O3.out.nth 2 rfl)
        obtain ⟨x0, x1, x2, x3, _, _, _, _⟩ := cells4 (O3.out.nth 0 rfl)
        have ls := lt_blk (O3.out.nth 2 rfl)
        have lx := lt_blk (O3.out.nth 0 rfl)
        go_wp2_with fail
        refine (h3 _).out.mono ?_
        rintro e w4 ⟨rfl, hb⟩
        have O4 := Lib.hid ((O3.out.alloc w3.heap.size _ rfl).call hb)
        clear hb O3 s0 s1 s2 s3 x0 x1 x2 x3 ls lx
        obtain ⟨s0, s1, s2, s3, _, _, _, _⟩ := cells4 (O4.out.nth 3 rfl)
        have ls := lt_blk (O4.out.nth 3 rfl)
        go_wp2_with fail
        refine (right_ _ _ _ _ hpo _).mono ?_
        rintro e w5 ⟨rfl, hb⟩
        have O5 := Lib.hid ((O4.out.alloc w4.heap.size _ rfl).call hb)
        clear hb O4 s0 s1 s2 s3 ls
        obtain ⟨s0, s1, s2, s3, _, _, _, _⟩ := cells4 (O5.out.nth 4 rfl)
        obtain ⟨y0, y1, y2, y3, _, _, _, _⟩ := cells4 (O5.out.nth 0 rfl)
        go_wp2
        go_ret
        exact ⟨rfl, O5.out.below⟩
    · have hBv : B = true := by rw [hB.out]; simp [neB, hE, e0]
      clear hB
      go_enter Try.func5, Try.ntmps5
      go_wp2_with fail
      refine (wakes_ _).mono ?_
      rintro e w1 ⟨rfl, hb⟩
      have O1 := Lib.hid (((O.out.alloc w.heap.size _ rfl).alloc (w.heap.size + 1) _ (by simp)).call hb)
      clear hb O
      obtain ⟨s0, s1, s2, s3, _, _, _, _⟩ := cells4 (O1.out.nth 1 rfl)
      obtain ⟨a0, a1, a2, a3⟩ := cells_ask (O1.out.nth 0 rfl)
      go_wp2_with fail
      refine (h1 _).out.mono ?_
      rintro e w2 ⟨rfl, hb⟩
      have O2 := Lib.hid (O1.out.call hb)
      clear hb O1 s0 s1 s2 s3 a0 a1 a2 a3
      obtain ⟨s0, s1, s2, s3, _, _, _, _⟩ := cells4 (O2.out.nth 1 rfl)
      obtain ⟨a0, a1, a2, a3⟩ := cells_ask (O2.out.nth 0 rfl)
      have ls := lt_blk (O2.out.nth 1 rfl)
      have la := lt_blk (O2.out.nth 0 rfl)
      go_wp2_with fail
      refine (h2 _).out.mono ?_
      rintro e w3 ⟨rfl, hb⟩
      have O3 := Lib.hid ((O2.out.alloc w2.heap.size _ rfl).call hb)
      clear hb O2 s0 s1 s2 s3 a0 a1 a2 a3 ls la
      obtain ⟨s0, s1, s2, s3, _, _, _, _⟩ := cells4 (O3.out.nth 2 rfl)
      obtain ⟨x0, x1, x2, x3, _, _, _, _⟩ := cells4 (O3.out.nth 0 rfl)
      have ls := lt_blk (O3.out.nth 2 rfl)
      have lx := lt_blk (O3.out.nth 0 rfl)
      go_wp2_with fail
      refine (h3 _).out.mono ?_
      rintro e w4 ⟨rfl, hb⟩
      have O4 := Lib.hid ((O3.out.alloc w3.heap.size _ rfl).call hb)
      clear hb O3 s0 s1 s2 s3 x0 x1 x2 x3 ls lx
      obtain ⟨s0, s1, s2, s3, _, _, _, _⟩ := cells4 (O4.out.nth 3 rfl)
      have ls := lt_blk (O4.out.nth 3 rfl)
      go_wp2_with fail
      refine (right_ _ _ _ _ hpo _).mono ?_
      rintro e w5 ⟨rfl, hb⟩
      have O5 := Lib.hid ((O4.out.alloc w4.heap.size _ rfl).call hb)
      clear hb O4 s0 s1 s2 s3 ls
      obtain ⟨s0, s1, s2, s3, _, _, _, _⟩ := cells4 (O5.out.nth 4 rfl)
      obtain ⟨y0, y1, y2, y3, _, _, _, _⟩ := cells4 (O5.out.nth 0 rfl)
      go_wp2
      go_ret
      exact ⟨rfl, O5.out.below⟩
  · have hBv : B = false := by rw [hB.out, hE]; rfl
    clear hB
    go_enter Try.func5, Try.ntmps5
    go_wp2_with fail
    refine (wakes_ _).mono ?_
    rintro e w1 ⟨rfl, hb⟩
    have O1 := Lib.hid (((O.out.alloc w.heap.size _ rfl).alloc (w.heap.size + 1) _ (by simp)).call hb)
    clear hb O
    obtain ⟨s0, s1, s2, s3, _, _, _, _⟩ := cells4 (O1.out.nth 1 rfl)
    obtain ⟨a0, a1, a2, a3⟩ := cells_ask (O1.out.nth 0 rfl)
    go_wp2_with fail
    refine (h1 _).out.mono ?_
    rintro e w2 ⟨rfl, hb⟩
    have O2 := Lib.hid (O1.out.call hb)
    clear hb O1 s0 s1 s2 s3 a0 a1 a2 a3
    obtain ⟨s0, s1, s2, s3, _, _, _, _⟩ := cells4 (O2.out.nth 1 rfl)
    obtain ⟨a0, a1, a2, a3⟩ := cells_ask (O2.out.nth 0 rfl)
    have ls := lt_blk (O2.out.nth 1 rfl)
    have la := lt_blk (O2.out.nth 0 rfl)
    go_wp2_with fail
    refine (h2 _).out.mono ?_
    rintro e w3 ⟨rfl, hb⟩
    have O3 := Lib.hid ((O2.out.alloc w2.heap.size _ rfl).call hb)
    clear hb O2 s0 s1 s2 s3 a0 a1 a2 a3 ls la
    obtain ⟨s0, s1, s2, s3, _, _, _, _⟩ := cells4 (O3.out.nth 2 rfl)
    obtain ⟨x0, x1, x2, x3, _, _, _, _⟩ := cells4 (O3.out.nth 0 rfl)
    have ls := lt_blk (O3.out.nth 2 rfl)
    have lx := lt_blk (O3.out.nth 0 rfl)
    go_wp2_with fail
    refine (h3 _).out.mono ?_
    rintro e w4 ⟨rfl, hb⟩
    have O4 := Lib.hid ((O3.out.alloc w3.heap.size _ rfl).call hb)
    clear hb O3 s0 s1 s2 s3 x0 x1 x2 x3 ls lx
    obtain ⟨s0, s1, s2, s3, _, _, _, _⟩ := cells4 (O4.out.nth 3 rfl)
    have ls := lt_blk (O4.out.nth 3 rfl)
    go_wp2_with fail
    refine (right_ _ _ _ _ hpo _).mono ?_
    rintro e w5 ⟨rfl, hb⟩
    have O5 := Lib.hid ((O4.out.alloc w4.heap.size _ rfl).call hb)
    clear hb O4 s0 s1 s2 s3 ls
    obtain ⟨s0, s1, s2, s3, _, _, _, _⟩ := cells4 (O5.out.nth 4 rfl)
    obtain ⟨y0, y1, y2, y3, _, _, _, _⟩ := cells4 (O5.out.nth 0 rfl)
    go_wp2
    go_ret
    exact ⟨rfl, O5.out.below⟩

set_option maxHeartbeats 3000000 in
theorem polls_2 (s X : St) (B : Bool) (E : Int) (ap ad : Int) (au an : Int) (pend : Bool) (w : World)
    (h1 : ∀ W, Hid (Calls Try.prog 15 #[.agg s.cells, .int .u32 ap, .int .i64 au, .int .i64 an, .int .u32 ad] W fun e w' => e = .returned (triple X B E) ∧ Below W.heap.size W w'))
    (h2 : ∀ W, Hid (Calls Try.prog 16 #[.agg s.cells, .int .u32 ap, .int .i64 au, .int .i64 an, .int .u32 ad] W fun e w' => e = .returned (.tuple #[.agg X.cells, .int .i64 E]) ∧ Below W.heap.size W w'))
    (hB : Hid (B = (E == 0 && neB s X)))
    (h3 : ∀ W, Hid (Calls Try.prog 17 #[.agg s.cells, .bool pend] W fun e w' => e = .returned (triple St.zero false 271) ∧ Below W.heap.size W w'))
    (hpo : 0 ≤ s.po) (hok : okB s = true) (hr : (s.st == 1 && s.pa == 0) = false) :
    Calls Try.prog 5 #[.agg s.cells, .agg #[.int .u32 ap, .int .u32 ad, .int .i64 au, .int .i64 an], .bool pend] w fun e w' => e = .returned (.bool true) ∧ Below w.heap.size w w' := by
  obtain ⟨st, pa, po, un⟩ := s
  obtain ⟨X0, X1, X2, X3⟩ := X
  have O := Lib.hid (Own.start w)
  rcases Bool.eq_false_or_eq_true (E == 0) with hE | hE
  · by_cases e0 : X0 = st
    · replace e0 := e0.symm
      subst e0
      by_cases e1 : X1 = pa
      · replace e1 := e1.symm
        subst e1
        by_cases e2 : X2 = po
        · replace e2 := e2.symm
          subst e2
          by_cases e3 : X3 = un
          · replace e3 := e3.symm
            subst e3
            have hBv : B = false := by rw [hB.out, neB_self]; simp
            clear hB
            go_enter Try.func5, Try.ntmps5
            go_wp2_with fail
            refine (wakes_ _).mono ?_
            rintro e w1 ⟨rfl, hb⟩
            have O1 := Lib.hid (((O.out.alloc w.heap.size _ rfl).alloc (w.heap.size + 1) _ (by simp)).call hb)
            clear hb O
            obtain ⟨s0, s1, s2, s3, _, _, _, _⟩ := cells4 (O1.out.nth 1 rfl)
            obtain ⟨a0, a1, a2, a3⟩ := cells_ask (O1.out.nth 0 rfl)
            go_wp2_with fail
            refine (h1 _).out.mono ?_
            rintro e w2 ⟨rfl, hb⟩
            have O2 := Lib.hid (O1.out.call hb)
            clear hb O1 s0 s1 s2 s3 a0 a1 a2 a3
            obtain ⟨s0, s1, s2, s3, _, _, _, _⟩ := cells4 (O2.out.nth 1 rfl)
            obtain ⟨a0, a1, a2, a3⟩ := cells_ask (O2.out.nth 0 rfl)
            have ls := lt_blk (O2.out.nth 1 rfl)
            have la := lt_blk (O2.out.nth 0 rfl)
            go_wp2_with fail
            refine (h2 _).out.mono ?_
            rintro e w3 ⟨rfl, hb⟩
            have O3 := Lib.hid ((O2.out.alloc w2.heap.size _ rfl).call hb)
            clear hb O2 s0 s1 s2 s3 a0 a1 a2 a3 ls la
            obtain ⟨s0, s1, s2, s3, _, _, _, _⟩ := cells4 (O3.out.nth 2 rfl)
            obtain ⟨x0, x1, x2, x3, _, _, _, _⟩ := cells4 (O3.out.nth 0 rfl)
            have ls := lt_blk (O3.out.nth 2 rfl)
            have lx := lt_blk (O3.out.nth 0 rfl)
            go_wp2_with fail
            refine (h3 _).out.mono ?_
            rintro e w4 ⟨rfl, hb⟩
            have O4 := Lib.hid ((O3.out.alloc w3.heap.size _ rfl).call hb)
            clear hb O3 s0 s1 s2 s3 x0 x1 x2 x3 ls lx
            obtain ⟨s0, s1, s2, s3, _, _, _, _⟩ := cells4 (O4.out.nth 3 rfl)
            have ls := lt_blk (O4.out.nth 3 rfl)
            go_wp2_with fail
            refine (right_ _ _ _ _ hpo _).mono ?_
            rintro e w5 ⟨rfl, hb⟩
            have O5 := Lib.hid ((O4.out.alloc w4.heap.size _ rfl).call hb)
            clear hb O4 s0 s1 s2 s3 ls
            obtain ⟨s0, s1, s2, s3, _, _, _, _⟩ := cells4 (O5.out.nth 4 rfl)
            obtain ⟨y0, y1, y2, y3, _, _, _, _⟩ := cells4 (O5.out.nth 0 rfl)
            go_wp2_with fail
            refine (rruns_ _ _ _ _ _).mono ?_
            rintro e w6 ⟨rfl, hb⟩
            have O6 := Lib.hid (O5.out.call hb)
            clear hb O5 s0 s1 s2 s3 y0 y1 y2 y3
            obtain ⟨s0, s1, s2, s3, _, _, _, _⟩ := cells4 (O6.out.nth 4 rfl)
            obtain ⟨y0, y1, y2, y3, _, _, _, _⟩ := cells4 (O6.out.nth 0 rfl)
            go_wp2
            go_ret
            exact ⟨rfl, O6.out.below⟩
          · have hBv : B = true := by rw [hB.out]; simp [neB, hE, e3]
            clear hB
            go_enter Try.func5, Try.ntmps5
            go_wp2_with fail
            refine (wakes_ _).mono ?_
            rintro e w1 ⟨rfl, hb⟩
            have O1 := Lib.hid (((O.out.alloc w.heap.size _ rfl).alloc (w.heap.size + 1) _ (by simp)).call hb)
            clear hb O
            obtain ⟨s0, s1, s2, s3, _, _, _, _⟩ := cells4 (O1.out.nth 1 rfl)
            obtain ⟨a0, a1, a2, a3⟩ := cells_ask (O1.out.nth 0 rfl)
            go_wp2_with fail
            refine (h1 _).out.mono ?_
            rintro e w2 ⟨rfl, hb⟩
            have O2 := Lib.hid (O1.out.call hb)
            clear hb O1 s0 s1 s2 s3 a0 a1 a2 a3
            obtain ⟨s0, s1, s2, s3, _, _, _, _⟩ := cells4 (O2.out.nth 1 rfl)
            obtain ⟨a0, a1, a2, a3⟩ := cells_ask (O2.out.nth 0 rfl)
            have ls := lt_blk (O2.out.nth 1 rfl)
            have la := lt_blk (O2.out.nth 0 rfl)
            go_wp2_with fail
            refine (h2 _).out.mono ?_
            rintro e w3 ⟨rfl, hb⟩
            have O3 := Lib.hid ((O2.out.alloc w2.heap.size _ rfl).call hb)
            clear hb O2 s0 s1 s2 s3 a0 a1 a2 a3 ls la
            obtain ⟨s0, s1, s2, s3, _, _, _, _⟩ := cells4 (O3.out.nth 2 rfl)
            obtain ⟨x0, x1, x2, x3, _, _, _, _⟩ := cells4 (O3.out.nth 0 rfl)
            have ls := lt_blk (O3.out.nth 2 rfl)
            have lx := lt_blk (O3.out.nth 0 rfl)
            go_wp2_with fail
            refine (h3 _).out.mono ?_
            rintro e w4 ⟨rfl, hb⟩
            have O4 := Lib.hid ((O3.out.alloc w3.heap.size _ rfl).call hb)
            clear hb O3 s0 s1 s2 s3 x0 x1 x2 x3 ls lx
            obtain ⟨s0, s1, s2, s3, _, _, _, _⟩ := cells4 (O4.out.nth 3 rfl)
            have ls := lt_blk (O4.out.nth 3 rfl)
            go_wp2_with fail
            refine (right_ _ _ _ _ hpo _).mono ?_
            rintro e w5 ⟨rfl, hb⟩
            have O5 := Lib.hid ((O4.out.alloc w4.heap.size _ rfl).call hb)
            clear hb O4 s0 s1 s2 s3 ls
            obtain ⟨s0, s1, s2, s3, _, _, _, _⟩ := cells4 (O5.out.nth 4 rfl)
            obtain ⟨y0, y1, y2, y3, _, _, _, _⟩ := cells4 (O5.out.nth 0 rfl)
            go_wp2_with fail
            refine (rruns_ _ _ _ _ _).mono ?_
            rintro e w6 ⟨rfl, hb⟩
            have O6 := Lib.hid (O5.out.call hb)
            clear hb O5 s0 s1 s2 s3 y0 y1 y2 y3
            obtain ⟨s0, s1, s2, s3, _, _, _, _⟩ := cells4 (O6.out.nth 4 rfl)
            obtain ⟨y0, y1, y2, y3, _, _, _, _⟩ := cells4 (O6.out.nth 0 rfl)
            go_wp2
            go_ret
            exact ⟨rfl, O6.out.below⟩
        · have hBv : B = true := by rw [hB.out]; simp [neB, hE, e2]
          clear hB
          go_enter Try.func5, Try.ntmps5
          go_wp2_with fail
          refine (wakes_ _).mono ?_
          rintro e w1 ⟨rfl, hb⟩
          have O1 := Lib.hid (((O.out.alloc w.heap.size _ rfl).alloc (w.heap.size + 1) _ (by simp)).call hb)
          clear hb O
          obtain ⟨s0, s1, s2, s3, _, _, _, _⟩ := cells4 (O1.out.nth 1 rfl)
          obtain ⟨a0, a1, a2, a3⟩ := cells_ask (O1.out.nth 0 rfl)
          go_wp2_with fail
          refine (h1 _).out.mono ?_
          rintro e w2 ⟨rfl, hb⟩
          have O2 := Lib.hid (O1.out.call hb)
          clear hb O1 s0 s1 s2 s3 a0 a1 a2 a3
          obtain ⟨s0, s1, s2, s3, _, _, _, _⟩ := cells4 (O2.out.nth 1 rfl)
          obtain ⟨a0, a1, a2, a3⟩ := cells_ask (O2.out.nth 0 rfl)
          have ls := lt_blk (O2.out.nth 1 rfl)
          have la := lt_blk (O2.out.nth 0 rfl)
          go_wp2_with fail
          refine (h2 _).out.mono ?_
          rintro e w3 ⟨rfl, hb⟩
          have O3 := Lib.hid ((O2.out.alloc w2.heap.size _ rfl).call hb)
          clear hb O2 s0 s1 s2 s3 a0 a1 a2 a3 ls la
          obtain ⟨s0, s1, s2, s3, _, _, _, _⟩ := cells4 (O3.out.nth 2 rfl)
          obtain ⟨x0, x1, x2, x3, _, _, _, _⟩ := cells4 (O3.out.nth 0 rfl)
          have ls := lt_blk (O3.out.nth 2 rfl)
          have lx := lt_blk (O3.out.nth 0 rfl)
          go_wp2_with fail
          refine (h3 _).out.mono ?_
          rintro e w4 ⟨rfl, hb⟩
          have O4 := Lib.hid ((O3.out.alloc w3.heap.size _ rfl).call hb)
          clear hb O3 s0 s1 s2 s3 x0 x1 x2 x3 ls lx
          obtain ⟨s0, s1, s2, s3, _, _, _, _⟩ := cells4 (O4.out.nth 3 rfl)
          have ls := lt_blk (O4.out.nth 3 rfl)
          go_wp2_with fail
          refine (right_ _ _ _ _ hpo _).mono ?_
          rintro e w5 ⟨rfl, hb⟩
          have O5 := Lib.hid ((O4.out.alloc w4.heap.size _ rfl).call hb)
          clear hb O4 s0 s1 s2 s3 ls
          obtain ⟨s0, s1, s2, s3, _, _, _, _⟩ := cells4 (O5.out.nth 4 rfl)
          obtain ⟨y0, y1, y2, y3, _, _, _, _⟩ := cells4 (O5.out.nth 0 rfl)
          go_wp2_with fail
          refine (rruns_ _ _ _ _ _).mono ?_
          rintro e w6 ⟨rfl, hb⟩
          have O6 := Lib.hid (O5.out.call hb)
          clear hb O5 s0 s1 s2 s3 y0 y1 y2 y3
          obtain ⟨s0, s1, s2, s3, _, _, _, _⟩ := cells4 (O6.out.nth 4 rfl)
          obtain ⟨y0, y1, y2, y3, _, _, _, _⟩ := cells4 (O6.out.nth 0 rfl)
          go_wp2
          go_ret
          exact ⟨rfl, O6.out.below⟩
      · have hBv : B = true := by rw [hB.out]; simp [neB, hE, e1]
        clear hB
        go_enter Try.func5, Try.ntmps5
        go_wp2_with fail
        refine (wakes_ _).mono ?_
        rintro e w1 ⟨rfl, hb⟩
        have O1 := Lib.hid (((O.out.alloc w.heap.size _ rfl).alloc (w.heap.size + 1) _ (by simp)).call hb)
        clear hb O
        obtain ⟨s0, s1, s2, s3, _, _, _, _⟩ := cells4 (O1.out.nth 1 rfl)
        obtain ⟨a0, a1, a2, a3⟩ := cells_ask (O1.out.nth 0 rfl)
        go_wp2_with fail
        refine (h1 _).out.mono ?_
        rintro e w2 ⟨rfl, hb⟩
        have O2 := Lib.hid (O1.out.call hb)
        clear hb O1 s0 s1 s2 s3 a0 a1 a2 a3
        obtain ⟨s0, s1, s2, s3, _, _, _, _⟩ := cells4 (O2.out.nth 1 rfl)
        obtain ⟨a0, a1, a2, a3⟩ := cells_ask (O2.out.nth 0 rfl)
        have ls := lt_blk (O2.out.nth 1 rfl)
        have la := lt_blk (O2.out.nth 0 rfl)
        go_wp2_with fail
        refine (h2 _).out.mono ?_
        rintro e w3 ⟨rfl, hb⟩
        have O3 := Lib.hid ((O2.out.alloc w2.heap.size _ rfl).call hb)
        clear hb O2 s0 s1 s2 s3 a0 a1 a2 a3 ls la
        obtain ⟨s0, s1, s2, s3, _, _, _, _⟩ := cells4 (O3.out.nth 2 rfl)
        obtain ⟨x0, x1, x2, x3, _, _, _, _⟩ := cells4 (O3.out.nth 0 rfl)
        have ls := lt_blk (O3.out.nth 2 rfl)
        have lx := lt_blk (O3.out.nth 0 rfl)
        go_wp2_with fail
        refine (h3 _).out.mono ?_
        rintro e w4 ⟨rfl, hb⟩
        have O4 := Lib.hid ((O3.out.alloc w3.heap.size _ rfl).call hb)
        clear hb O3 s0 s1 s2 s3 x0 x1 x2 x3 ls lx
        obtain ⟨s0, s1, s2, s3, _, _, _, _⟩ := cells4 (O4.out.nth 3 rfl)
        have ls := lt_blk (O4.out.nth 3 rfl)
        go_wp2_with fail
        refine (right_ _ _ _ _ hpo _).mono ?_
        rintro e w5 ⟨rfl, hb⟩
        have O5 := Lib.hid ((O4.out.alloc w4.heap.size _ rfl).call hb)
        clear hb O4 s0 s1 s2 s3 ls
        obtain ⟨s0, s1, s2, s3, _, _, _, _⟩ := cells4 (O5.out.nth 4 rfl)
        obtain ⟨y0, y1, y2, y3, _, _, _, _⟩ := cells4 (O5.out.nth 0 rfl)
        go_wp2_with fail
        refine (rruns_ _ _ _ _ _).mono ?_
        rintro e w6 ⟨rfl, hb⟩
        have O6 := Lib.hid (O5.out.call hb)
        clear hb O5 s0 s1 s2 s3 y0 y1 y2 y3
        obtain ⟨s0, s1, s2, s3, _, _, _, _⟩ := cells4 (O6.out.nth 4 rfl)
        obtain ⟨y0, y1, y2, y3, _, _, _, _⟩ := cells4 (O6.out.nth 0 rfl)
        go_wp2
        go_ret
        exact ⟨rfl, O6.out.below⟩
    · have hBv : B = true := by rw [hB.out]; simp [neB, hE, e0]
      clear hB
      go_enter Try.func5, Try.ntmps5
      go_wp2_with fail
      refine (wakes_ _).mono ?_
      rintro e w1 ⟨rfl, hb⟩
      have O1 := Lib.hid (((O.out.alloc w.heap.size _ rfl).alloc (w.heap.size + 1) _ (by simp)).call hb)
      clear hb O
      obtain ⟨s0, s1, s2, s3, _, _, _, _⟩ := cells4 (O1.out.nth 1 rfl)
      obtain ⟨a0, a1, a2, a3⟩ := cells_ask (O1.out.nth 0 rfl)
      go_wp2_with fail
      refine (h1 _).out.mono ?_
      rintro e w2 ⟨rfl, hb⟩
      have O2 := Lib.hid (O1.out.call hb)
      clear hb O1 s0 s1 s2 s3 a0 a1 a2 a3
      obtain ⟨s0, s1, s2, s3, _, _, _, _⟩ := cells4 (O2.out.nth 1 rfl)
      obtain ⟨a0, a1, a2, a3⟩ := cells_ask (O2.out.nth 0 rfl)
      have ls := lt_blk (O2.out.nth 1 rfl)
      have la := lt_blk (O2.out.nth 0 rfl)
      go_wp2_with fail
      refine (h2 _).out.mono ?_
      rintro e w3 ⟨rfl, hb⟩
      have O3 := Lib.hid ((O2.out.alloc w2.heap.size _ rfl).call hb)
      clear hb O2 s0 s1 s2 s3 a0 a1 a2 a3 ls la
      obtain ⟨s0, s1, s2, s3, _, _, _, _⟩ := cells4 (O3.out.nth 2 rfl)
      obtain ⟨x0, x1, x2, x3, _, _, _, _⟩ := cells4 (O3.out.nth 0 rfl)
      have ls := lt_blk (O3.out.nth 2 rfl)
      have lx := lt_blk (O3.out.nth 0 rfl)
      go_wp2_with fail
      refine (h3 _).out.mono ?_
      rintro e w4 ⟨rfl, hb⟩
      have O4 := Lib.hid ((O3.out.alloc w3.heap.size _ rfl).call hb)
      clear hb O3 s0 s1 s2 s3 x0 x1 x2 x3 ls lx
      obtain ⟨s0, s1, s2, s3, _, _, _, _⟩ := cells4 (O4.out.nth 3 rfl)
      have ls := lt_blk (O4.out.nth 3 rfl)
      go_wp2_with fail
      refine (right_ _ _ _ _ hpo _).mono ?_
      rintro e w5 ⟨rfl, hb⟩
      have O5 := Lib.hid ((O4.out.alloc w4.heap.size _ rfl).call hb)
      clear hb O4 s0 s1 s2 s3 ls
      obtain ⟨s0, s1, s2, s3, _, _, _, _⟩ := cells4 (O5.out.nth 4 rfl)
      obtain ⟨y0, y1, y2, y3, _, _, _, _⟩ := cells4 (O5.out.nth 0 rfl)
      go_wp2_with fail
      refine (rruns_ _ _ _ _ _).mono ?_
      rintro e w6 ⟨rfl, hb⟩
      have O6 := Lib.hid (O5.out.call hb)
      clear hb O5 s0 s1 s2 s3 y0 y1 y2 y3
      obtain ⟨s0, s1, s2, s3, _, _, _, _⟩ := cells4 (O6.out.nth 4 rfl)
      obtain ⟨y0, y1, y2, y3, _, _, _, _⟩ := cells4 (O6.out.nth 0 rfl)
      go_wp2
      go_ret
      exact ⟨rfl, O6.out.below⟩
  · have hBv : B = false := by rw [hB.out, hE]; rfl
    clear hB
    go_enter Try.func5, Try.ntmps5
    go_wp2_with fail
    refine (wakes_ _).mono ?_
    rintro e w1 ⟨rfl, hb⟩
    have O1 := Lib.hid (((O.out.alloc w.heap.size _ rfl).alloc (w.heap.size + 1) _ (by simp)).call hb)
    clear hb O
    obtain ⟨s0, s1, s2, s3, _, _, _, _⟩ := cells4 (O1.out.nth 1 rfl)
    obtain ⟨a0, a1, a2, a3⟩ := cells_ask (O1.out.nth 0 rfl)
    go_wp2_with fail
    refine (h1 _).out.mono ?_
    rintro e w2 ⟨rfl, hb⟩
    have O2 := Lib.hid (O1.out.call hb)
    clear hb O1 s0 s1 s2 s3 a0 a1 a2 a3
    obtain ⟨s0, s1, s2, s3, _, _, _, _⟩ := cells4 (O2.out.nth 1 rfl)
    obtain ⟨a0, a1, a2, a3⟩ := cells_ask (O2.out.nth 0 rfl)
    have ls := lt_blk (O2.out.nth 1 rfl)
    have la := lt_blk (O2.out.nth 0 rfl)
    go_wp2_with fail
    refine (h2 _).out.mono ?_
    rintro e w3 ⟨rfl, hb⟩
    have O3 := Lib.hid ((O2.out.alloc w2.heap.size _ rfl).call hb)
    clear hb O2 s0 s1 s2 s3 a0 a1 a2 a3 ls la
    obtain ⟨s0, s1, s2, s3, _, _, _, _⟩ := cells4 (O3.out.nth 2 rfl)
    obtain ⟨x0, x1, x2, x3, _, _, _, _⟩ := cells4 (O3.out.nth 0 rfl)
    have ls := lt_blk (O3.out.nth 2 rfl)
    have lx := lt_blk (O3.out.nth 0 rfl)
    go_wp2_with fail
    refine (h3 _).out.mono ?_
    rintro e w4 ⟨rfl, hb⟩
    have O4 := Lib.hid ((O3.out.alloc w3.heap.size _ rfl).call hb)
    clear hb O3 s0 s1 s2 s3 x0 x1 x2 x3 ls lx
    obtain ⟨s0, s1, s2, s3, _, _, _, _⟩ := cells4 (O4.out.nth 3 rfl)
    have ls := lt_blk (O4.out.nth 3 rfl)
    go_wp2_with fail
    refine (right_ _ _ _ _ hpo _).mono ?_
    rintro e w5 ⟨rfl, hb⟩
    have O5 := Lib.hid ((O4.out.alloc w4.heap.size _ rfl).call hb)
    clear hb O4 s0 s1 s2 s3 ls
    obtain ⟨s0, s1, s2, s3, _, _, _, _⟩ := cells4 (O5.out.nth 4 rfl)
    obtain ⟨y0, y1, y2, y3, _, _, _, _⟩ := cells4 (O5.out.nth 0 rfl)
    go_wp2_with fail
    refine (rruns_ _ _ _ _ _).mono ?_
    rintro e w6 ⟨rfl, hb⟩
    have O6 := Lib.hid (O5.out.call hb)
    clear hb O5 s0 s1 s2 s3 y0 y1 y2 y3
    obtain ⟨s0, s1, s2, s3, _, _, _, _⟩ := cells4 (O6.out.nth 4 rfl)
    obtain ⟨y0, y1, y2, y3, _, _, _, _⟩ := cells4 (O6.out.nth 0 rfl)
    go_wp2
    go_ret
    exact ⟨rfl, O6.out.below⟩

set_option maxHeartbeats 3000000 in
theorem polls_3 (s X : St) (B : Bool) (E : Int) (ap ad : Int) (au an : Int) (w : World)
    (h1 : ∀ W, Hid (Calls Try.prog 15 #[.agg s.cells, .int .u32 ap, .int .i64 au, .int .i64 an, .int .u32 ad] W fun e w' => e = .returned (triple X B E) ∧ Below W.heap.size W w'))
    (h2 : ∀ W, Hid (Calls Try.prog 16 #[.agg s.cells, .int .u32 ap, .int .i64 au, .int .i64 an, .int .u32 ad] W fun e w' => e = .returned (.tuple #[.agg X.cells, .int .i64 E]) ∧ Below W.heap.size W w'))
    (hB : Hid (B = (E == 0 && neB s X)))
    (h3 : ∀ W, Hid (Calls Try.prog 17 #[.agg s.cells, .bool true] W fun e w' => e = .returned (triple s false 0) ∧ Below W.heap.size W w'))
    (hpo : 0 ≤ s.po) (hok : okB s = true) (hr : (s.st == 1 && s.pa == 0) = true) :
    Calls Try.prog 5 #[.agg s.cells, .agg #[.int .u32 ap, .int .u32 ad, .int .i64 au, .int .i64 an], .bool true] w fun e w' => e = .returned (.bool true) ∧ Below w.heap.size w w' := by
  obtain ⟨st, pa, po, un⟩ := s
  obtain ⟨X0, X1, X2, X3⟩ := X
  have O := Lib.hid (Own.start w)
  rcases Bool.eq_false_or_eq_true (E == 0) with hE | hE
  · by_cases e0 : X0 = st
    · replace e0 := e0.symm
      subst e0
      by_cases e1 : X1 = pa
      · replace e1 := e1.symm
        subst e1
        by_cases e2 : X2 = po
        · replace e2 := e2.symm
          subst e2
          by_cases e3 : X3 = un
          · replace e3 := e3.symm
            subst e3
            have hBv : B = false := by rw [hB.out, neB_self]; simp
            clear hB
            go_enter Try.func5, Try.ntmps5
            go_wp2_with fail
            refine (wakes_ _).mono ?_
            rintro e w1 ⟨rfl, hb⟩
            have O1 := Lib.hid (((O.out.alloc w.heap.size _ rfl).alloc (w.heap.size + 1) _ (by simp)).call hb)
            clear hb O
            obtain ⟨s0, s1, s2, s3, _, _, _, _⟩ := cells4 (O1.out.nth 1 rfl)
            obtain ⟨a0, a1, a2, a3⟩ := cells_ask (O1.out.nth 0 rfl)
            go_wp2_with fail
            refine (h1 _).out.mono ?_
            rintro e w2 ⟨rfl, hb⟩
            have O2 := Lib.hid (O1.out.call hb)
            clear hb O1 s0 s1 s2 s3 a0 a1 a2 a3
            obtain ⟨s0, s1, s2, s3, _, _, _, _⟩ := cells4 (O2.out.nth 1 rfl)
            obtain ⟨a0, a1, a2, a3⟩ := cells_ask (O2.out.nth 0 rfl)
            have ls := lt_blk (O2.out.nth 1 rfl)
            have la := lt_blk (O2.out.nth 0 rfl)
            go_wp2_with fail
            refine (h2 _).out.mono ?_
            rintro e w3 ⟨rfl, hb⟩
            have O3 := Lib.hid ((O2.out.alloc w2.heap.size _ rfl).call hb)
            clear hb O2 s0 s1 s2 s3 a0 a1 a2 a3 ls la
            obtain ⟨s0, s1, s2, s3, _, _, _, _⟩ := cells4 (O3.out.nth 2 rfl)
            obtain ⟨x0, x1, x2, x3, _, _, _, _⟩ := cells4 (O3.out.nth 0 rfl)
            have ls := lt_blk (O3.out.nth 2 rfl)
            have lx := lt_blk (O3.out.nth 0 rfl)
            go_wp2_with fail
            refine (h3 _).out.mono ?_
            rintro e w4 ⟨rfl, hb⟩
            have O4 := Lib.hid ((O3.out.alloc w3.heap.size _ rfl).call hb)
            clear hb O3 s0 s1 s2 s3 x0 x1 x2 x3 ls lx
            obtain ⟨s0, s1, s2, s3, _, _, _, _⟩ := cells4 (O4.out.nth 3 rfl)
            have ls := lt_blk (O4.out.nth 3 rfl)
            go_wp2_with fail
            refine (right_ _ _ _ _ hpo _).mono ?_
            rintro e w5 ⟨rfl, hb⟩
            have O5 := Lib.hid ((O4.out.alloc w4.heap.size _ rfl).call hb)
            clear hb O4 s0 s1 s2 s3 ls
            obtain ⟨s0, s1, s2, s3, _, _, _, _⟩ := cells4 (O5.out.nth 4 rfl)
            obtain ⟨y0, y1, y2, y3, _, _, _, _⟩ := cells4 (O5.out.nth 0 rfl)
            go_wp2_with fail
            refine (rruns_ _ _ _ _ _).mono ?_
            rintro e w6 ⟨rfl, hb⟩
            have O6 := Lib.hid (O5.out.call hb)
            clear hb O5 s0 s1 s2 s3 y0 y1 y2 y3
            obtain ⟨s0, s1, s2, s3, _, _, _, _⟩ := cells4 (O6.out.nth 4 rfl)
            obtain ⟨y0, y1, y2, y3, _, _, _, _⟩ := cells4 (O6.out.nth 0 rfl)
            go_wp2
            go_ret
            exact ⟨rfl, O6.out.below⟩
          · have hBv : B = true := by rw [hB.out]; simp [neB, hE, e3]
            clear hB
            go_enter Try.func5, Try.ntmps5
            go_wp2_with fail
            refine (wakes_ _).mono ?_
            rintro e w1 ⟨rfl, hb⟩
            have O1 := Lib.hid (((O.out.alloc w.heap.size _ rfl).alloc (w.heap.size + 1) _ (by simp)).call hb)
            clear hb O
            obtain ⟨s0, s1, s2, s3, _, _, _, _⟩ := cells4 (O1.out.nth 1 rfl)
            obtain ⟨a0, a1, a2, a3⟩ := cells_ask (O1.out.nth 0 rfl)
            go_wp2_with fail
            refine (h1 _).out.mono ?_
            rintro e w2 ⟨rfl, hb⟩
            have O2 := Lib.hid (O1.out.call hb)
            clear hb O1 s0 s1 s2 s3 a0 a1 a2 a3
            obtain ⟨s0, s1, s2, s3, _, _, _, _⟩ := cells4 (O2.out.nth 1 rfl)
            obtain ⟨a0, a1, a2, a3⟩ := cells_ask (O2.out.nth 0 rfl)
            have ls := lt_blk (O2.out.nth 1 rfl)
            have la := lt_blk (O2.out.nth 0 rfl)
            go_wp2_with fail
            refine (h2 _).out.mono ?_
            rintro e w3 ⟨rfl, hb⟩
            have O3 := Lib.hid ((O2.out.alloc w2.heap.size _ rfl).call hb)
            clear hb O2 s0 s1 s2 s3 a0 a1 a2 a3 ls la
            obtain ⟨s0, s1, s2, s3, _, _, _, _⟩ := cells4 (O3.out.nth 2 rfl)
            obtain ⟨x0, x1, x2, x3, _, _, _, _⟩ := cells4 (O3.out.nth 0 rfl)
            have ls := lt_blk (O3.out.nth 2 rfl)
            have lx := lt_blk (O3.out.nth 0 rfl)
            go_wp2_with fail
            refine (h3 _).out.mono ?_
            rintro e w4 ⟨rfl, hb⟩
            have O4 := Lib.hid ((O3.out.alloc w3.heap.size _ rfl).call hb)
            clear hb O3 s0 s1 s2 s3 x0 x1 x2 x3 ls lx
            obtain ⟨s0, s1, s2, s3, _, _, _, _⟩ := cells4 (O4.out.nth 3 rfl)
            have ls := lt_blk (O4.out.nth 3 rfl)
            go_wp2_with fail
            refine (right_ _ _ _ _ hpo _).mono ?_
            rintro e w5 ⟨rfl, hb⟩
            have O5 := Lib.hid ((O4.out.alloc w4.heap.size _ rfl).call hb)
            clear hb O4 s0 s1 s2 s3 ls
            obtain ⟨s0, s1, s2, s3, _, _, _, _⟩ := cells4 (O5.out.nth 4 rfl)
            obtain ⟨y0, y1, y2, y3, _, _, _, _⟩ := cells4 (O5.out.nth 0 rfl)
            go_wp2_with fail
            refine (rruns_ _ _ _ _ _).mono ?_
            rintro e w6 ⟨rfl, hb⟩
            have O6 := Lib.hid (O5.out.call hb)
            clear hb O5 s0 s1 s2 s3 y0 y1 y2 y3
            obtain ⟨s0, s1, s2, s3, _, _, _, _⟩ := cells4 (O6.out.nth 4 rfl)
            obtain ⟨y0, y1, y2, y3, _, _, _, _⟩ := cells4 (O6.out.nth 0 rfl)
            go_wp2
            go_ret
            exact ⟨rfl, O6.out.below⟩
        · have hBv : B = true := by rw [hB.out]; simp [neB, hE, e2]
          clear hB
          go_enter Try.func5, Try.ntmps5
          go_wp2_with fail
          refine (wakes_ _).mono ?_
          rintro e w1 ⟨rfl, hb⟩
          have O1 := Lib.hid (((O.out.alloc w.heap.size _ rfl).alloc (w.heap.size + 1) _ (by simp)).call hb)
          clear hb O
          obtain ⟨s0, s1, s2, s3, _, _, _, _⟩ := cells4 (O1.out.nth 1 rfl)
          obtain ⟨a0, a1, a2, a3⟩ := cells_ask (O1.out.nth 0 rfl)
          go_wp2_with fail
          refine (h1 _).out.mono ?_
          rintro e w2 ⟨rfl, hb⟩
          have O2 := Lib.hid (O1.out.call hb)
          clear hb O1 s0 s1 s2 s3 a0 a1 a2 a3
          obtain ⟨s0, s1, s2, s3, _, _, _, _⟩ := cells4 (O2.out.nth 1 rfl)
          obtain ⟨a0, a1, a2, a3⟩ := cells_ask (O2.out.nth 0 rfl)
          have ls := lt_blk (O2.out.nth 1 rfl)
          have la := lt_blk (O2.out.nth 0 rfl)
          go_wp2_with fail
          refine (h2 _).out.mono ?_
          rintro e w3 ⟨rfl, hb⟩
          have O3 := Lib.hid ((O2.out.alloc w2.heap.size _ rfl).call hb)
          clear hb O2 s0 s1 s2 s3 a0 a1 a2 a3 ls la
          obtain ⟨s0, s1, s2, s3, _, _, _, _⟩ := cells4 (O3.out.nth 2 rfl)
          obtain ⟨x0, x1, x2, x3, _, _, _, _⟩ := cells4 (O3.out.nth 0 rfl)
          have ls := lt_blk (O3.out.nth 2 rfl)
          have lx := lt_blk (O3.out.nth 0 rfl)
          go_wp2_with fail
          refine (h3 _).out.mono ?_
          rintro e w4 ⟨rfl, hb⟩
          have O4 := Lib.hid ((O3.out.alloc w3.heap.size _ rfl).call hb)
          clear hb O3 s0 s1 s2 s3 x0 x1 x2 x3 ls lx
          obtain ⟨s0, s1, s2, s3, _, _, _, _⟩ := cells4 (O4.out.nth 3 rfl)
          have ls := lt_blk (O4.out.nth 3 rfl)
          go_wp2_with fail
          refine (right_ _ _ _ _ hpo _).mono ?_
          rintro e w5 ⟨rfl, hb⟩
          have O5 := Lib.hid ((O4.out.alloc w4.heap.size _ rfl).call hb)
          clear hb O4 s0 s1 s2 s3 ls
          obtain ⟨s0, s1, s2, s3, _, _, _, _⟩ := cells4 (O5.out.nth 4 rfl)
          obtain ⟨y0, y1, y2, y3, _, _, _, _⟩ := cells4 (O5.out.nth 0 rfl)
          go_wp2_with fail
          refine (rruns_ _ _ _ _ _).mono ?_
          rintro e w6 ⟨rfl, hb⟩
          have O6 := Lib.hid (O5.out.call hb)
          clear hb O5 s0 s1 s2 s3 y0 y1 y2 y3
          obtain ⟨s0, s1, s2, s3, _, _, _, _⟩ := cells4 (O6.out.nth 4 rfl)
          obtain ⟨y0, y1, y2, y3, _, _, _, _⟩ := cells4 (O6.out.nth 0 rfl)
          go_wp2
          go_ret
          exact ⟨rfl, O6.out.below⟩
      · have hBv : B = true := by rw [hB.out]; simp [neB, hE, e1]
        clear hB
        go_enter Try.func5, Try.ntmps5
        go_wp2_with fail
        refine (wakes_ _).mono ?_
        rintro e w1 ⟨rfl, hb⟩
        have O1 := Lib.hid (((O.out.alloc w.heap.size _ rfl).alloc (w.heap.size + 1) _ (by simp)).call hb)
        clear hb O
        obtain ⟨s0, s1, s2, s3, _, _, _, _⟩ := cells4 (O1.out.nth 1 rfl)
        obtain ⟨a0, a1, a2, a3⟩ := cells_ask (O1.out.nth 0 rfl)
        go_wp2_with fail
        refine (h1 _).out.mono ?_
        rintro e w2 ⟨rfl, hb⟩
        have O2 := Lib.hid (O1.out.call hb)
        clear hb O1 s0 s1 s2 s3 a0 a1 a2 a3
        obtain ⟨s0, s1, s2, s3, _, _, _, _⟩ := cells4 (O2.out.nth 1 rfl)
        obtain ⟨a0, a1, a2, a3⟩ := cells_ask (O2.out.nth 0 rfl)
        have ls := lt_blk (O2.out.nth 1 rfl)
        have la := lt_blk (O2.out.nth 0 rfl)
        go_wp2_with fail
        refine (h2 _).out.mono ?_
        rintro e w3 ⟨rfl, hb⟩
        have O3 := Lib.hid ((O2.out.alloc w2.heap.size _ rfl).call hb)
        clear hb O2 s0 s1 s2 s3 a0 a1 a2 a3 ls la
        obtain ⟨s0, s1, s2, s3, _, _, _, _⟩ := cells4 (O3.out.nth 2 rfl)
        obtain ⟨x0, x1, x2, x3, _, _, _, _⟩ := cells4 (O3.out.nth 0 rfl)
        have ls := lt_blk (O3.out.nth 2 rfl)
        have lx := lt_blk (O3.out.nth 0 rfl)
        go_wp2_with fail
        refine (h3 _).out.mono ?_
        rintro e w4 ⟨rfl, hb⟩
        have O4 := Lib.hid ((O3.out.alloc w3.heap.size _ rfl).call hb)
        clear hb O3 s0 s1 s2 s3 x0 x1 x2 x3 ls lx
        obtain ⟨s0, s1, s2, s3, _, _, _, _⟩ := cells4 (O4.out.nth 3 rfl)
        have ls := lt_blk (O4.out.nth 3 rfl)
        go_wp2_with fail
        refine (right_ _ _ _ _ hpo _).mono ?_
        rintro e w5 ⟨rfl, hb⟩
        have O5 := Lib.hid ((O4.out.alloc w4.heap.size _ rfl).call hb)
        clear hb O4 s0 s1 s2 s3 ls
        obtain ⟨s0, s1, s2, s3, _, _, _, _⟩ := cells4 (O5.out.nth 4 rfl)
        obtain ⟨y0, y1, y2, y3, _, _, _, _⟩ := cells4 (O5.out.nth 0 rfl)
        go_wp2_with fail
        refine (rruns_ _ _ _ _ _).mono ?_
        rintro e w6 ⟨rfl, hb⟩
        have O6 := Lib.hid (O5.out.call hb)
        clear hb O5 s0 s1 s2 s3 y0 y1 y2 y3
        obtain ⟨s0, s1, s2, s3, _, _, _, _⟩ := cells4 (O6.out.nth 4 rfl)
        obtain ⟨y0, y1, y2, y3, _, _, _, _⟩ := cells4 (O6.out.nth 0 rfl)
        go_wp2
        go_ret
        exact ⟨rfl, O6.out.below⟩
    · have hBv : B = true := by rw [hB.out]; simp [neB, hE, e0]
      clear hB
      go_enter Try.func5, Try.ntmps5
      go_wp2_with fail
      refine (wakes_ _).mono ?_
      rintro e w1 ⟨rfl, hb⟩
      have O1 := Lib.hid (((O.out.alloc w.heap.size _ rfl).alloc (w.heap.size + 1) _ (by simp)).call hb)
      clear hb O
      obtain ⟨s0, s1, s2, s3, _, _, _, _⟩ := cells4 (O1.out.nth 1 rfl)
      obtain ⟨a0, a1, a2, a3⟩ := cells_ask (O1.out.nth 0 rfl)
      go_wp2_with fail
      refine (h1 _).out.mono ?_
      rintro e w2 ⟨rfl, hb⟩
      have O2 := Lib.hid (O1.out.call hb)
      clear hb O1 s0 s1 s2 s3 a0 a1 a2 a3
      obtain ⟨s0, s1, s2, s3, _, _, _, _⟩ := cells4 (O2.out.nth 1 rfl)
      obtain ⟨a0, a1, a2, a3⟩ := cells_ask (O2.out.nth 0 rfl)
      have ls := lt_blk (O2.out.nth 1 rfl)
      have la := lt_blk (O2.out.nth 0 rfl)
      go_wp2_with fail
      refine (h2 _).out.mono ?_
      rintro e w3 ⟨rfl, hb⟩
      have O3 := Lib.hid ((O2.out.alloc w2.heap.size _ rfl).call hb)
      clear hb O2 s0 s1 s2 s3 a0 a1 a2 a3 ls la
      obtain ⟨s0, s1, s2, s3, _, _, _, _⟩ := cells4 (O3.out.nth 2 rfl)
      obtain ⟨x0, x1, x2, x3, _, _, _, _⟩ := cells4 (O3.out.nth 0 rfl)
      have ls := lt_blk (O3.out.nth 2 rfl)
      have lx := lt_blk (O3.out.nth 0 rfl)
      go_wp2_with fail
      refine (h3 _).out.mono ?_
      rintro e w4 ⟨rfl, hb⟩
      have O4 := Lib.hid ((O3.out.alloc w3.heap.size _ rfl).call hb)
      clear hb O3 s0 s1 s2 s3 x0 x1 x2 x3 ls lx
      obtain ⟨s0, s1, s2, s3, _, _, _, _⟩ := cells4 (O4.out.nth 3 rfl)
      have ls := lt_blk (O4.out.nth 3 rfl)
      go_wp2_with fail
      refine (right_ _ _ _ _ hpo _).mono ?_
      rintro e w5 ⟨rfl, hb⟩
      have O5 := Lib.hid ((O4.out.alloc w4.heap.size _ rfl).call hb)
      clear hb O4 s0 s1 s2 s3 ls
      obtain ⟨s0, s1, s2, s3, _, _, _, _⟩ := cells4 (O5.out.nth 4 rfl)
      obtain ⟨y0, y1, y2, y3, _, _, _, _⟩ := cells4 (O5.out.nth 0 rfl)
      go_wp2_with fail
      refine (rruns_ _ _ _ _ _).mono ?_
      rintro e w6 ⟨rfl, hb⟩
      have O6 := Lib.hid (O5.out.call hb)
      clear hb O5 s0 s1 s2 s3 y0 y1 y2 y3
      obtain ⟨s0, s1, s2, s3, _, _, _, _⟩ := cells4 (O6.out.nth 4 rfl)
      obtain ⟨y0, y1, y2, y3, _, _, _, _⟩ := cells4 (O6.out.nth 0 rfl)
      go_wp2
      go_ret
      exact ⟨rfl, O6.out.below⟩
  · have hBv : B = false := by rw [hB.out, hE]; rfl
    clear hB
    go_enter Try.func5, Try.ntmps5
    go_wp2_with fail
    refine (wakes_ _).mono ?_
    rintro e w1 ⟨rfl, hb⟩
    have O1 := Lib.hid (((O.out.alloc w.heap.size _ rfl).alloc (w.heap.size + 1) _ (by simp)).call hb)
    clear hb O
    obtain ⟨s0, s1, s2, s3, _, _, _, _⟩ := cells4 (O1.out.nth 1 rfl)
    obtain ⟨a0, a1, a2, a3⟩ := cells_ask (O1.out.nth 0 rfl)
    go_wp2_with fail
    refine (h1 _).out.mono ?_
    rintro e w2 ⟨rfl, hb⟩
    have O2 := Lib.hid (O1.out.call hb)
    clear hb O1 s0 s1 s2 s3 a0 a1 a2 a3
    obtain ⟨s0, s1, s2, s3, _, _, _, _⟩ := cells4 (O2.out.nth 1 rfl)
    obtain ⟨a0, a1, a2, a3⟩ := cells_ask (O2.out.nth 0 rfl)
    have ls := lt_blk (O2.out.nth 1 rfl)
    have la := lt_blk (O2.out.nth 0 rfl)
    go_wp2_with fail
    refine (h2 _).out.mono ?_
    rintro e w3 ⟨rfl, hb⟩
    have O3 := Lib.hid ((O2.out.alloc w2.heap.size _ rfl).call hb)
    clear hb O2 s0 s1 s2 s3 a0 a1 a2 a3 ls la
    obtain ⟨s0, s1, s2, s3, _, _, _, _⟩ := cells4 (O3.out.nth 2 rfl)
    obtain ⟨x0, x1, x2, x3, _, _, _, _⟩ := cells4 (O3.out.nth 0 rfl)
    have ls := lt_blk (O3.out.nth 2 rfl)
    have lx := lt_blk (O3.out.nth 0 rfl)
    go_wp2_with fail
    refine (h3 _).out.mono ?_
    rintro e w4 ⟨rfl, hb⟩
    have O4 := Lib.hid ((O3.out.alloc w3.heap.size _ rfl).call hb)
    clear hb O3 s0 s1 s2 s3 x0 x1 x2 x3 ls lx
    obtain ⟨s0, s1, s2, s3, _, _, _, _⟩ := cells4 (O4.out.nth 3 rfl)
    have ls := lt_blk (O4.out.nth 3 rfl)
    go_wp2_with fail
    refine (right_ _ _ _ _ hpo _).mono ?_
    rintro e w5 ⟨rfl, hb⟩
    have O5 := Lib.hid ((O4.out.alloc w4.heap.size _ rfl).call hb)
    clear hb O4 s0 s1 s2 s3 ls
    obtain ⟨s0, s1, s2, s3, _, _, _, _⟩ := cells4 (O5.out.nth 4 rfl)
    obtain ⟨y0, y1, y2, y3, _, _, _, _⟩ := cells4 (O5.out.nth 0 rfl)
    go_wp2_with fail
    refine (rruns_ _ _ _ _ _).mono ?_
    rintro e w6 ⟨rfl, hb⟩
    have O6 := Lib.hid (O5.out.call hb)
    clear hb O5 s0 s1 s2 s3 y0 y1 y2 y3
    obtain ⟨s0, s1, s2, s3, _, _, _, _⟩ := cells4 (O6.out.nth 4 rfl)
    obtain ⟨y0, y1, y2, y3, _, _, _, _⟩ := cells4 (O6.out.nth 0 rfl)
    go_wp2
    go_ret
    exact ⟨rfl, O6.out.below⟩

set_option maxHeartbeats 3000000 in
theorem polls_4 (s X : St) (B : Bool) (E : Int) (ap ad : Int) (au an : Int) (w : World)
    (h1 : ∀ W, Hid (Calls Try.prog 15 #[.agg s.cells, .int .u32 ap, .int .i64 au, .int .i64 an, .int .u32 ad] W fun e w' => e = .returned (triple X B E) ∧ Below W.heap.size W w'))
    (h2 : ∀ W, Hid (Calls Try.prog 16 #[.agg s.cells, .int .u32 ap, .int .i64 au, .int .i64 an, .int .u32 ad] W fun e w' => e = .returned (.tuple #[.agg X.cells, .int .i64 E]) ∧ Below W.heap.size W w'))
    (hB : Hid (B = (E == 0 && neB s X)))
    (h3 : ∀ W, Hid (Calls Try.prog 17 #[.agg s.cells, .bool false] W fun e w' => e = .returned (triple ⟨2, s.pa, 0, 0⟩ true 0) ∧ Below W.heap.size W w'))
    (hpo : 0 ≤ s.po) (hok : okB s = true) (hr : (s.st == 1 && s.pa == 0) = true) :
    Calls Try.prog 5 #[.agg s.cells, .agg #[.int .u32 ap, .int .u32 ad, .int .i64 au, .int .i64 an], .bool false] w fun e w' => e = .returned (.bool true) ∧ Below w.heap.size w w' := by
  obtain ⟨st, pa, po, un⟩ := s
  obtain ⟨X0, X1, X2, X3⟩ := X
  have O := Lib.hid (Own.start w)
  rcases Bool.eq_false_or_eq_true (E == 0) with hE | hE
  · by_cases e0 : X0 = st
    · replace e0 := e0.symm
      subst e0
      by_cases e1 : X1 = pa
      · replace e1 := e1.symm
        subst e1
        by_cases e2 : X2 = po
        · replace e2 := e2.symm
          subst e2
          by_cases e3 : X3 = un
          · replace e3 := e3.symm
            subst e3
            have hBv : B = false := by rw [hB.out, neB_self]; simp
            clear hB
            go_enter Try.func5, Try.ntmps5
            go_wp2_with fail
            refine (wakes_ _).mono ?_
            rintro e w1 ⟨rfl, hb⟩
            have O1 := Lib.hid (((O.out.alloc w.heap.size _ rfl).alloc (w.heap.size + 1) _ (by simp)).call hb)
            clear hb O
            obtain ⟨s0, s1, s2, s3, _, _, _, _⟩ := cells4 (O1.out.nth 1 rfl)
            obtain ⟨a0, a1, a2, a3⟩ := cells_ask (O1.out.nth 0 rfl)
            go_wp2_with fail
            refine (h1 _).out.mono ?_
            rintro e w2 ⟨rfl, hb⟩
            have O2 := Lib.hid (O1.out.call hb)
            clear hb O1 s0 s1 s2 s3 a0 a1 a2 a3
            obtain ⟨s0, s1, s2, s3, _, _, _, _⟩ := cells4 (O2.out.nth 1 rfl)
            obtain ⟨a0, a1, a2, a3⟩ := cells_ask (O2.out.nth 0 rfl)
            have ls := lt_blk (O2.out.nth 1 rfl)
            have la := lt_blk (O2.out.nth 0 rfl)
            go_wp2_with fail
            refine (h2 _).out.mono ?_
            rintro e w3 ⟨rfl, hb⟩
            have O3 := Lib.hid ((O2.out.alloc w2.heap.size _ rfl).call hb)
            clear hb O2 s0 s1 s2 s3 a0 a1 a2 a3 ls la
            obtain ⟨s0, s1, s2, s3, _, _, _, _⟩ := cells4 (O3.out.nth 2 rfl)
            obtain ⟨x0, x1, x2, x3, _, _, _, _⟩ := cells4 (O3.out.nth 0 rfl)
            have ls := lt_blk (O3.out.nth 2 rfl)
            have lx := lt_blk (O3.out.nth 0 rfl)
            go_wp2_with fail
            refine (h3 _).out.mono ?_
            rintro e w4 ⟨rfl, hb⟩
            have O4 := Lib.hid ((O3.out.alloc w3.heap.size _ rfl).call hb)
            clear hb O3 s0 s1 s2 s3 x0 x1 x2 x3 ls lx
            obtain ⟨s0, s1, s2, s3, _, _, _, _⟩ := cells4 (O4.out.nth 3 rfl)
            have ls := lt_blk (O4.out.nth 3 rfl)
            go_wp2_with fail
            refine (right_ _ _ _ _ hpo _).mono ?_
            rintro e w5 ⟨rfl, hb⟩
            have O5 := Lib.hid ((O4.out.alloc w4.heap.size _ rfl).call hb)
            clear hb O4 s0 s1 s2 s3 ls
            obtain ⟨s0, s1, s2, s3, _, _, _, _⟩ := cells4 (O5.out.nth 4 rfl)
            obtain ⟨y0, y1, y2, y3, _, _, _, _⟩ := cells4 (O5.out.nth 0 rfl)
            go_wp2_with fail
            refine (rruns_ _ _ _ _ _).mono ?_
            rintro e w6 ⟨rfl, hb⟩
            have O6 := Lib.hid (O5.out.call hb)
            clear hb O5 s0 s1 s2 s3 y0 y1 y2 y3
            obtain ⟨s0, s1, s2, s3, _, _, _, _⟩ := cells4 (O6.out.nth 4 rfl)
            obtain ⟨y0, y1, y2, y3, _, _, _, _⟩ := cells4 (O6.out.nth 0 rfl)
            go_wp2_with fail
            have BB := O6.out.below
            clear h1 h2 h3
            go_region_held3 (fun W => W.cell? ⟨w4.heap.size, 0, none⟩ = some (.int .i64 2) ∧ W.cell? ⟨w4.heap.size, 1, none⟩ = some (.int .i64 pa) ∧ W.cell? ⟨w4.heap.size, 2, none⟩ = some (.int .u32 0) ∧ W.cell? ⟨w4.heap.size, 3, none⟩ = some (.int .i64 0) ∧ W.cell? ⟨w.heap.size, 0, none⟩ = some (.int .i64 st) ∧ W.cell? ⟨w.heap.size, 1, none⟩ = some (.int .i64 pa) ∧ W.cell? ⟨w.heap.size, 2, none⟩ = some (.int .u32 po) ∧ W.cell? ⟨w.heap.size, 3, none⟩ = some (.int .i64 un) ∧ Below w.heap.size w W) (first | exact ⟨y0, y1, y2, y3, s0, s1, s2, s3, BB⟩ | exact ⟨y0, y1, y2, y3, s0, s1, s2, s3, BB.drew⟩ | go_keep) (first | (go_at_call 19; refine (ready_ _ _ _ _ _ _).mono ?_; rintro e w7 ⟨rfl, hb⟩; have O7 := Lib.hid (O6.out.drew.call hb); clear hb; obtain ⟨y0, y1, y2, y3, _, _, _, _⟩ := cells4 (O7.out.nth 0 rfl); obtain ⟨s0, s1, s2, s3, _, _, _, _⟩ := cells4 (O7.out.nth 4 rfl); have BB := O7.out.below))
            all_goals
              go_wp2
              go_ret
              exact ⟨rfl, O7.out.below⟩
          · have hBv : B = true := by rw [hB.out]; simp [neB, hE, e3]
            clear hB
            go_enter Try.func5, Try.ntmps5
            go_wp2_with fail
            refine (wakes_ _).mono ?_
            rintro e w1 ⟨rfl, hb⟩
            have O1 := Lib.hid (((O.out.alloc w.heap.size _ rfl).alloc (w.heap.size + 1) _ (by simp)).call hb)
            clear hb O
            obtain ⟨s0, s1, s2, s3, _, _, _, _⟩ := cells4 (O1.out.nth 1 rfl)
            obtain ⟨a0, a1, a2, a3⟩ := cells_ask (O1.out.nth 0 rfl)
            go_wp2_with fail
            refine (h1 _).out.mono ?_
            rintro e w2 ⟨rfl, hb⟩
            have O2 := Lib.hid (O1.out.call hb)
            clear hb O1 s0 s1 s2 s3 a0 a1 a2 a3
            obtain ⟨s0, s1, s2, s3, _, _, _, _⟩ := cells4 (O2.out.nth 1 rfl)
            obtain ⟨a0, a1, a2, a3⟩ := cells_ask (O2.out.nth 0 rfl)
            have ls := lt_blk (O2.out.nth 1 rfl)
            have la := lt_blk (O2.out.nth 0 rfl)
            go_wp2_with fail
            refine (h2 _).out.mono ?_
            rintro e w3 ⟨rfl, hb⟩
            have O3 := Lib.hid ((O2.out.alloc w2.heap.size _ rfl).call hb)
            clear hb O2 s0 s1 s2 s3 a0 a1 a2 a3 ls la
            obtain ⟨s0, s1, s2, s3, _, _, _, _⟩ := cells4 (O3.out.nth 2 rfl)
            obtain ⟨x0, x1, x2, x3, _, _, _, _⟩ := cells4 (O3.out.nth 0 rfl)
            have ls := lt_blk (O3.out.nth 2 rfl)
            have lx := lt_blk (O3.out.nth 0 rfl)
            go_wp2_with fail
            refine (h3 _).out.mono ?_
            rintro e w4 ⟨rfl, hb⟩
            have O4 := Lib.hid ((O3.out.alloc w3.heap.size _ rfl).call hb)
            clear hb O3 s0 s1 s2 s3 x0 x1 x2 x3 ls lx
            obtain ⟨s0, s1, s2, s3, _, _, _, _⟩ := cells4 (O4.out.nth 3 rfl)
            have ls := lt_blk (O4.out.nth 3 rfl)
            go_wp2_with fail
            refine (right_ _ _ _ _ hpo _).mono ?_
            rintro e w5 ⟨rfl, hb⟩
            have O5 := Lib.hid ((O4.out.alloc w4.heap.size _ rfl).call hb)
            clear hb O4 s0 s1 s2 s3 ls
            obtain ⟨s0, s1, s2, s3, _, _, _, _⟩ := cells4 (O5.out.nth 4 rfl)
            obtain ⟨y0, y1, y2, y3, _, _, _, _⟩ := cells4 (O5.out.nth 0 rfl)
            go_wp2_with fail
            refine (rruns_ _ _ _ _ _).mono ?_
            rintro e w6 ⟨rfl, hb⟩
            have O6 := Lib.hid (O5.out.call hb)
            clear hb O5 s0 s1 s2 s3 y0 y1 y2 y3
            obtain ⟨s0, s1, s2, s3, _, _, _, _⟩ := cells4 (O6.out.nth 4 rfl)
            obtain ⟨y0, y1, y2, y3, _, _, _, _⟩ := cells4 (O6.out.nth 0 rfl)
            go_wp2_with fail
            have BB := O6.out.below
            clear h1 h2 h3
            go_region_held3 (fun W => W.cell? ⟨w4.heap.size, 0, none⟩ = some (.int .i64 2) ∧ W.cell? ⟨w4.heap.size, 1, none⟩ = some (.int .i64 pa) ∧ W.cell? ⟨w4.heap.size, 2, none⟩ = some (.int .u32 0) ∧ W.cell? ⟨w4.heap.size, 3, none⟩ = some (.int .i64 0) ∧ W.cell? ⟨w.heap.size, 0, none⟩ = some (.int .i64 st) ∧ W.cell? ⟨w.heap.size, 1, none⟩ = some (.int .i64 pa) ∧ W.cell? ⟨w.heap.size, 2, none⟩ = some (.int .u32 po) ∧ W.cell? ⟨w.heap.size, 3, none⟩ = some (.int .i64 un) ∧ Below w.heap.size w W) (first | exact ⟨y0, y1, y2, y3, s0, s1, s2, s3, BB⟩ | exact ⟨y0, y1, y2, y3, s0, s1, s2, s3, BB.drew⟩ | go_keep) (first | (go_at_call 19; refine (ready_ _ _ _ _ _ _).mono ?_; rintro e w7 ⟨rfl, hb⟩; have O7 := Lib.hid (O6.out.drew.call hb); clear hb; obtain ⟨y0, y1, y2, y3, _, _, _, _⟩ := cells4 (O7.out.nth 0 rfl); obtain ⟨s0, s1, s2, s3, _, _, _, _⟩ := cells4 (O7.out.nth 4 rfl); have BB := O7.out.below))
            all_goals
              go_wp2
              go_ret
              exact ⟨rfl, O7.out.below⟩
        · have hBv : B = true := by rw [hB.out]; simp [neB, hE, e2]
          clear hB
          go_enter Try.func5, Try.ntmps5
          go_wp2_with fail
          refine (wakes_ _).mono ?_
          rintro e w1 ⟨rfl, hb⟩
          have O1 := Lib.hid (((O.out.alloc w.heap.size _ rfl).alloc (w.heap.size + 1) _ (by simp)).call hb)
          clear hb O
          obtain ⟨s0, s1, s2, s3, _, _, _, _⟩ := cells4 (O1.out.nth 1 rfl)
          obtain ⟨a0, a1, a2, a3⟩ := cells_ask (O1.out.nth 0 rfl)
          go_wp2_with fail
          refine (h1 _).out.mono ?_
          rintro e w2 ⟨rfl, hb⟩
          have O2 := Lib.hid (O1.out.call hb)
          clear hb O1 s0 s1 s2 s3 a0 a1 a2 a3
          obtain ⟨s0, s1, s2, s3, _, _, _, _⟩ := cells4 (O2.out.nth 1 rfl)
          obtain ⟨a0, a1, a2, a3⟩ := cells_ask (O2.out.nth 0 rfl)
          have ls := lt_blk (O2.out.nth 1 rfl)
          have la := lt_blk (O2.out.nth 0 rfl)
          go_wp2_with fail
          refine (h2 _).out.mono ?_
          rintro e w3 ⟨rfl, hb⟩
          have O3 := Lib.hid ((O2.out.alloc w2.heap.size _ rfl).call hb)
          clear hb O2 s0 s1 s2 s3 a0 a1 a2 a3 ls la
          obtain ⟨s0, s1, s2, s3, _, _, _, _⟩ := cells4 (O3.out.nth 2 rfl)
          obtain ⟨x0, x1, x2, x3, _, _, _, _⟩ := cells4 (O3.out.nth 0 rfl)
          have ls := lt_blk (O3.out.nth 2 rfl)
          have lx := lt_blk (O3.out.nth 0 rfl)
          go_wp2_with fail
          refine (h3 _).out.mono ?_
          rintro e w4 ⟨rfl, hb⟩
          have O4 := Lib.hid ((O3.out.alloc w3.heap.size _ rfl).call hb)
          clear hb O3 s0 s1 s2 s3 x0 x1 x2 x3 ls lx
          obtain ⟨s0, s1, s2, s3, _, _, _, _⟩ := cells4 (O4.out.nth 3 rfl)
          have ls := lt_blk (O4.out.nth 3 rfl)
          go_wp2_with fail
          refine (right_ _ _ _ _ hpo _).mono ?_
          rintro e w5 ⟨rfl, hb⟩
          have O5 := Lib.hid ((O4.out.alloc w4.heap.size _ rfl).call hb)
          clear hb O4 s0 s1 s2 s3 ls
          obtain ⟨s0, s1, s2, s3, _, _, _, _⟩ := cells4 (O5.out.nth 4 rfl)
          obtain ⟨y0, y1, y2, y3, _, _, _, _⟩ := cells4 (O5.out.nth 0 rfl)
          go_wp2_with fail
          refine (rruns_ _ _ _ _ _).mono ?_
          rintro e w6 ⟨rfl, hb⟩
          have O6 := Lib.hid (O5.out.call hb)
          clear hb O5 s0 s1 s2 s3 y0 y1 y2 y3
          obtain ⟨s0, s1, s2, s3, _, _, _, _⟩ := cells4 (O6.out.nth 4 rfl)
          obtain ⟨y0, y1, y2, y3, _, _, _, _⟩ := cells4 (O6.out.nth 0 rfl)
          go_wp2_with fail
          have BB := O6.out.below
          clear h1 h2 h3
          go_region_held3 (fun W => W.cell? ⟨w4.heap.size, 0, none⟩ = some (.int .i64 2) ∧ W.cell? ⟨w4.heap.size, 1, none⟩ = some (.int .i64 pa) ∧ W.cell? ⟨w4.heap.size, 2, none⟩ = some (.int .u32 0) ∧ W.cell? ⟨w4.heap.size, 3, none⟩ = some (.int .i64 0) ∧ W.cell? ⟨w.heap.size, 0, none⟩ = some (.int .i64 st) ∧ W.cell? ⟨w.heap.size, 1, none⟩ = some (.int .i64 pa) ∧ W.cell? ⟨w.heap.size, 2, none⟩ = some (.int .u32 po) ∧ W.cell? ⟨w.heap.size, 3, none⟩ = some (.int .i64 un) ∧ Below w.heap.size w W) (first | exact ⟨y0, y1, y2, y3, s0, s1, s2, s3, BB⟩ | exact ⟨y0, y1, y2, y3, s0, s1, s2, s3, BB.drew⟩ | go_keep) (first | (go_at_call 19; refine (ready_ _ _ _ _ _ _).mono ?_; rintro e w7 ⟨rfl, hb⟩; have O7 := Lib.hid (O6.out.drew.call hb); clear hb; obtain ⟨y0, y1, y2, y3, _, _, _, _⟩ := cells4 (O7.out.nth 0 rfl); obtain ⟨s0, s1, s2, s3, _, _, _, _⟩ := cells4 (O7.out.nth 4 rfl); have BB := O7.out.below))
          all_goals
            go_wp2
            go_ret
            exact ⟨rfl, O7.out.below⟩
      · have hBv : B = true := by rw [hB.out]; simp [neB, hE, e1]
        clear hB
        go_enter Try.func5, Try.ntmps5
        go_wp2_with fail
        refine (wakes_ _).mono ?_
        rintro e w1 ⟨rfl, hb⟩
        have O1 := Lib.hid (((O.out.alloc w.heap.size _ rfl).alloc (w.heap.size + 1) _ (by simp)).call hb)
        clear hb O
        obtain ⟨s0, s1, s2, s3, _, _, _, _⟩ := cells4 (O1.out.nth 1 rfl)
        obtain ⟨a0, a1, a2, a3⟩ := cells_ask (O1.out.nth 0 rfl)
        go_wp2_with fail
        refine (h1 _).out.mono ?_
        rintro e w2 ⟨rfl, hb⟩
        have O2 := Lib.hid (O1.out.call hb)
        clear hb O1 s0 s1 s2 s3 a0 a1 a2 a3
        obtain ⟨s0, s1, s2, s3, _, _, _, _⟩ := cells4 (O2.out.nth 1 rfl)
        obtain ⟨a0, a1, a2, a3⟩ := cells_ask (O2.out.nth 0 rfl)
        have ls := lt_blk (O2.out.nth 1 rfl)
        have la := lt_blk (O2.out.nth 0 rfl)
        go_wp2_with fail
        refine (h2 _).out.mono ?_
        rintro e w3 ⟨rfl, hb⟩
        have O3 := Lib.hid ((O2.out.alloc w2.heap.size _ rfl).call hb)
        clear hb O2 s0 s1 s2 s3 a0 a1 a2 a3 ls la
        obtain ⟨s0, s1, s2, s3, _, _, _, _⟩ := cells4 (O3.out.nth 2 rfl)
        obtain ⟨x0, x1, x2, x3, _, _, _, _⟩ := cells4 (O3.out.nth 0 rfl)
        have ls := lt_blk (O3.out.nth 2 rfl)
        have lx := lt_blk (O3.out.nth 0 rfl)
        go_wp2_with fail
        refine (h3 _).out.mono ?_
        rintro e w4 ⟨rfl, hb⟩
        have O4 := Lib.hid ((O3.out.alloc w3.heap.size _ rfl).call hb)
        clear hb O3 s0 s1 s2 s3 x0 x1 x2 x3 ls lx
        obtain ⟨s0, s1, s2, s3, _, _, _, _⟩ := cells4 (O4.out.nth 3 rfl)
        have ls := lt_blk (O4.out.nth 3 rfl)
        go_wp2_with fail
        refine (right_ _ _ _ _ hpo _).mono ?_
        rintro e w5 ⟨rfl, hb⟩
        have O5 := Lib.hid ((O4.out.alloc w4.heap.size _ rfl).call hb)
        clear hb O4 s0 s1 s2 s3 ls
        obtain ⟨s0, s1, s2, s3, _, _, _, _⟩ := cells4 (O5.out.nth 4 rfl)
        obtain ⟨y0, y1, y2, y3, _, _, _, _⟩ := cells4 (O5.out.nth 0 rfl)
        go_wp2_with fail
        refine (rruns_ _ _ _ _ _).mono ?_
        rintro e w6 ⟨rfl, hb⟩
        have O6 := Lib.hid (O5.out.call hb)
        clear hb O5 s0 s1 s2 s3 y0 y1 y2 y3
        obtain ⟨s0, s1, s2, s3, _, _, _, _⟩ := cells4 (O6.out.nth 4 rfl)
        obtain ⟨y0, y1, y2, y3, _, _, _, _⟩ := cells4 (O6.out.nth 0 rfl)
        go_wp2_with fail
        have BB := O6.out.below
        clear h1 h2 h3
        go_region_held3 (fun W => W.cell? ⟨w4.heap.size, 0, none⟩ = some (.int .i64 2) ∧ W.cell? ⟨w4.heap.size, 1, none⟩ = some (.int .i64 pa) ∧ W.cell? ⟨w4.heap.size, 2, none⟩ = some (.int .u32 0) ∧ W.cell? ⟨w4.heap.size, 3, none⟩ = some (.int .i64 0) ∧ W.cell? ⟨w.heap.size, 0, none⟩ = some (.int .i64 st) ∧ W.cell? ⟨w.heap.size, 1, none⟩ = some (.int .i64 pa) ∧ W.cell? ⟨w.heap.size, 2, none⟩ = some (.int .u32 po) ∧ W.cell? ⟨w.heap.size, 3, none⟩ = some (.int .i64 un) ∧ Below w.heap.size w W) (first | exact ⟨y0, y1, y2, y3, s0, s1, s2, s3, BB⟩ | exact ⟨y0, y1, y2, y3, s0, s1, s2, s3, BB.drew⟩ | go_keep) (first | (go_at_call 19; refine (ready_ _ _ _ _ _ _).mono ?_; rintro e w7 ⟨rfl, hb⟩; have O7 := Lib.hid (O6.out.drew.call hb); clear hb; obtain ⟨y0, y1, y2, y3, _, _, _, _⟩ := cells4 (O7.out.nth 0 rfl); obtain ⟨s0, s1, s2, s3, _, _, _, _⟩ := cells4 (O7.out.nth 4 rfl); have BB := O7.out.below))
        all_goals
          go_wp2
          go_ret
          exact ⟨rfl, O7.out.below⟩
    · have hBv : B = true := by rw [hB.out]; simp [neB, hE, e0]
      clear hB
      go_enter Try.func5, Try.ntmps5
      go_wp2_with fail
      refine (wakes_ _).mono ?_
      rintro e w1 ⟨rfl, hb⟩
      have O1 := Lib.hid (((O.out.alloc w.heap.size _ rfl).alloc (w.heap.size + 1) _ (by simp)).call hb)
      clear hb O
      obtain ⟨s0, s1, s2, s3, _, _, _, _⟩ := cells4 (O1.out.nth 1 rfl)
      obtain ⟨a0, a1, a2, a3⟩ := cells_ask (O1.out.nth 0 rfl)
      go_wp2_with fail
      refine (h1 _).out.mono ?_
      rintro e w2 ⟨rfl, hb⟩
      have O2 := Lib.hid (O1.out.call hb)
      clear hb O1 s0 s1 s2 s3 a0 a1 a2 a3
      obtain ⟨s0, s1, s2, s3, _, _, _, _⟩ := cells4 (O2.out.nth 1 rfl)
      obtain ⟨a0, a1, a2, a3⟩ := cells_ask (O2.out.nth 0 rfl)
      have ls := lt_blk (O2.out.nth 1 rfl)
      have la := lt_blk (O2.out.nth 0 rfl)
      go_wp2_with fail
      refine (h2 _).out.mono ?_
      rintro e w3 ⟨rfl, hb⟩
      have O3 := Lib.hid ((O2.out.alloc w2.heap.size _ rfl).call hb)
      clear hb O2 s0 s1 s2 s3 a0 a1 a2 a3 ls la
      obtain ⟨s0, s1, s2, s3, _, _, _, _⟩ := cells4 (O3.out.nth 2 rfl)
      obtain ⟨x0, x1, x2, x3, _, _, _, _⟩ := cells4 (O3.out.nth 0 rfl)
      have ls := lt_blk (O3.out.nth 2 rfl)
      have lx := lt_blk (O3.out.nth 0 rfl)
      go_wp2_with fail
      refine (h3 _).out.mono ?_
      rintro e w4 ⟨rfl, hb⟩
      have O4 := Lib.hid ((O3.out.alloc w3.heap.size _ rfl).call hb)
      clear hb O3 s0 s1 s2 s3 x0 x1 x2 x3 ls lx
      obtain ⟨s0, s1, s2, s3, _, _, _, _⟩ := cells4 (O4.out.nth 3 rfl)
      have ls := lt_blk (O4.out.nth 3 rfl)
      go_wp2_with fail
      refine (right_ _ _ _ _ hpo _).mono ?_
      rintro e w5 ⟨rfl, hb⟩
      have O5 := Lib.hid ((O4.out.alloc w4.heap.size _ rfl).call hb)
      clear hb O4 s0 s1 s2 s3 ls
      obtain ⟨s0, s1, s2, s3, _, _, _, _⟩ := cells4 (O5.out.nth 4 rfl)
      obtain ⟨y0, y1, y2, y3, _, _, _, _⟩ := cells4 (O5.out.nth 0 rfl)
      go_wp2_with fail
      refine (rruns_ _ _ _ _ _).mono ?_
      rintro e w6 ⟨rfl, hb⟩
      have O6 := Lib.hid (O5.out.call hb)
      clear hb O5 s0 s1 s2 s3 y0 y1 y2 y3
      obtain ⟨s0, s1, s2, s3, _, _, _, _⟩ := cells4 (O6.out.nth 4 rfl)
      obtain ⟨y0, y1, y2, y3, _, _, _, _⟩ := cells4 (O6.out.nth 0 rfl)
      go_wp2_with fail
      have BB := O6.out.below
      clear h1 h2 h3
      go_region_held3 (fun W => W.cell? ⟨w4.heap.size, 0, none⟩ = some (.int .i64 2) ∧ W.cell? ⟨w4.heap.size, 1, none⟩ = some (.int .i64 pa) ∧ W.cell? ⟨w4.heap.size, 2, none⟩ = some (.int .u32 0) ∧ W.cell? ⟨w4.heap.size, 3, none⟩ = some (.int .i64 0) ∧ W.cell? ⟨w.heap.size, 0, none⟩ = some (.int .i64 st) ∧ W.cell? ⟨w.heap.size, 1, none⟩ = some (.int .i64 pa) ∧ W.cell? ⟨w.heap.size, 2, none⟩ = some (.int .u32 po) ∧ W.cell? ⟨w.heap.size, 3, none⟩ = some (.int .i64 un) ∧ Below w.heap.size w W) (first | exact ⟨y0, y1, y2, y3, s0, s1, s2, s3, BB⟩ | exact ⟨y0, y1, y2, y3, s0, s1, s2, s3, BB.drew⟩ | go_keep) (first | (go_at_call 19; refine (ready_ _ _ _ _ _ _).mono ?_; rintro e w7 ⟨rfl, hb⟩; have O7 := Lib.hid (O6.out.drew.call hb); clear hb; obtain ⟨y0, y1, y2, y3, _, _, _, _⟩ := cells4 (O7.out.nth 0 rfl); obtain ⟨s0, s1, s2, s3, _, _, _, _⟩ := cells4 (O7.out.nth 4 rfl); have BB := O7.out.below))
      all_goals
        go_wp2
        go_ret
        exact ⟨rfl, O7.out.below⟩
  · have hBv : B = false := by rw [hB.out, hE]; rfl
    clear hB
    go_enter Try.func5, Try.ntmps5
    go_wp2_with fail
    refine (wakes_ _).mono ?_
    rintro e w1 ⟨rfl, hb⟩
    have O1 := Lib.hid (((O.out.alloc w.heap.size _ rfl).alloc (w.heap.size + 1) _ (by simp)).call hb)
    clear hb O
    obtain ⟨s0, s1, s2, s3, _, _, _, _⟩ := cells4 (O1.out.nth 1 rfl)
    obtain ⟨a0, a1, a2, a3⟩ := cells_ask (O1.out.nth 0 rfl)
    go_wp2_with fail
    refine (h1 _).out.mono ?_
    rintro e w2 ⟨rfl, hb⟩
    have O2 := Lib.hid (O1.out.call hb)
    clear hb O1 s0 s1 s2 s3 a0 a1 a2 a3
    obtain ⟨s0, s1, s2, s3, _, _, _, _⟩ := cells4 (O2.out.nth 1 rfl)
    obtain ⟨a0, a1, a2, a3⟩ := cells_ask (O2.out.nth 0 rfl)
    have ls := lt_blk (O2.out.nth 1 rfl)
    have la := lt_blk (O2.out.nth 0 rfl)
    go_wp2_with fail
    refine (h2 _).out.mono ?_
    rintro e w3 ⟨rfl, hb⟩
    have O3 := Lib.hid ((O2.out.alloc w2.heap.size _ rfl).call hb)
    clear hb O2 s0 s1 s2 s3 a0 a1 a2 a3 ls la
    obtain ⟨s0, s1, s2, s3, _, _, _, _⟩ := cells4 (O3.out.nth 2 rfl)
    obtain ⟨x0, x1, x2, x3, _, _, _, _⟩ := cells4 (O3.out.nth 0 rfl)
    have ls := lt_blk (O3.out.nth 2 rfl)
    have lx := lt_blk (O3.out.nth 0 rfl)
    go_wp2_with fail
    refine (h3 _).out.mono ?_
    rintro e w4 ⟨rfl, hb⟩
    have O4 := Lib.hid ((O3.out.alloc w3.heap.size _ rfl).call hb)
    clear hb O3 s0 s1 s2 s3 x0 x1 x2 x3 ls lx
    obtain ⟨s0, s1, s2, s3, _, _, _, _⟩ := cells4 (O4.out.nth 3 rfl)
    have ls := lt_blk (O4.out.nth 3 rfl)
    go_wp2_with fail
    refine (right_ _ _ _ _ hpo _).mono ?_
    rintro e w5 ⟨rfl, hb⟩
    have O5 := Lib.hid ((O4.out.alloc w4.heap.size _ rfl).call hb)
    clear hb O4 s0 s1 s2 s3 ls
    obtain ⟨s0, s1, s2, s3, _, _, _, _⟩ := cells4 (O5.out.nth 4 rfl)
    obtain ⟨y0, y1, y2, y3, _, _, _, _⟩ := cells4 (O5.out.nth 0 rfl)
    go_wp2_with fail
    refine (rruns_ _ _ _ _ _).mono ?_
    rintro e w6 ⟨rfl, hb⟩
    have O6 := Lib.hid (O5.out.call hb)
    clear hb O5 s0 s1 s2 s3 y0 y1 y2 y3
    obtain ⟨s0, s1, s2, s3, _, _, _, _⟩ := cells4 (O6.out.nth 4 rfl)
    obtain ⟨y0, y1, y2, y3, _, _, _, _⟩ := cells4 (O6.out.nth 0 rfl)
    go_wp2_with fail
    have BB := O6.out.below
    clear h1 h2 h3
    go_region_held3 (fun W => W.cell? ⟨w4.heap.size, 0, none⟩ = some (.int .i64 2) ∧ W.cell? ⟨w4.heap.size, 1, none⟩ = some (.int .i64 pa) ∧ W.cell? ⟨w4.heap.size, 2, none⟩ = some (.int .u32 0) ∧ W.cell? ⟨w4.heap.size, 3, none⟩ = some (.int .i64 0) ∧ W.cell? ⟨w.heap.size, 0, none⟩ = some (.int .i64 st) ∧ W.cell? ⟨w.heap.size, 1, none⟩ = some (.int .i64 pa) ∧ W.cell? ⟨w.heap.size, 2, none⟩ = some (.int .u32 po) ∧ W.cell? ⟨w.heap.size, 3, none⟩ = some (.int .i64 un) ∧ Below w.heap.size w W) (first | exact ⟨y0, y1, y2, y3, s0, s1, s2, s3, BB⟩ | exact ⟨y0, y1, y2, y3, s0, s1, s2, s3, BB.drew⟩ | go_keep) (first | (go_at_call 19; refine (ready_ _ _ _ _ _ _).mono ?_; rintro e w7 ⟨rfl, hb⟩; have O7 := Lib.hid (O6.out.drew.call hb); clear hb; obtain ⟨y0, y1, y2, y3, _, _, _, _⟩ := cells4 (O7.out.nth 0 rfl); obtain ⟨s0, s1, s2, s3, _, _, _, _⟩ := cells4 (O7.out.nth 4 rfl); have BB := O7.out.below))
    all_goals
      go_wp2
      go_ret
      exact ⟨rfl, O7.out.below⟩

theorem WaitPolls_walk (s : St) (ap ad : Int) (au an : Int) (pend : Bool) (hpo : 0 ≤ s.po ∧ s.po < 4294967296) (hap : 0 ≤ ap ∧ ap < 4294967296) (had : 0 ≤ ad ∧ ad < 4294967296) (w : World) :
    Calls Try.prog 5 #[.agg s.cells, .agg #[.int .u32 ap, .int .u32 ad, .int .i64 au, .int .i64 an], .bool pend] w fun e w' => e = .returned (.bool true) ∧ Below w.heap.size w w' := by
  have g1 := fun W => Lib.hid (poll_ s ap au an ad W)
  have g2 := fun W => Lib.hid (rpoll_ s ap au an ad hpo.1 hap.1 hap.2 had.1 had.2 W)
  have g3 := Lib.hid (tnB_is s (plS s ap au an ad) (plR s ap au))
  cases hk : okB s with
  | false =>
    refine polls_1 s _ _ _ ap ad au an pend w g1 g2 g3 (fun W => Lib.hid ?_) hpo.1 hk
    have := block_ s pend W
    rw [tnS_bad hk, tnE_bad hk, show tnB s (blS s pend) (blR s) = false from by simp [tnB, hk]] at this
    exact this
  | true =>
    cases hr : runsB s with
    | false =>
      refine polls_2 s _ _ _ ap ad au an pend w g1 g2 g3 (fun W => Lib.hid ?_) hpo.1 hk (by rw [← hr]; exact (runs_eq hk).symm)
      have := block_ s pend W
      have e : blR s = 271 := by simp [blR, hr]
      rw [e, tnS_err (by decide), tnE_ok hk, show tnB s (blS s pend) 271 = false from by simp [tnB]] at this
      exact this
    | true =>
      have e : blR s = 0 := by simp [blR, hr]
      cases pend with
      | true =>
        refine polls_3 s _ _ _ ap ad au an w g1 g2 g3 (fun W => Lib.hid ?_) hpo.1 hk (by rw [← hr]; exact (runs_eq hk).symm)
        have := block_ s true W
        have e2 : blS s true = s := by simp [blS]
        rw [e, e2, tnS_ok hk, tnE_ok hk, tnB_ok hk, neB_self] at this
        exact this
      | false =>
        refine polls_4 s _ _ _ ap ad au an w g1 g2 g3 (fun W => Lib.hid ?_) hpo.1 hk (by rw [← hr]; exact (runs_eq hk).symm)
        have := block_ s false W
        have e2 : blS s false = ⟨2, s.pa, 0, 0⟩ := by simp [blS, hr]
        rw [e, e2, tnS_ok hk, tnE_ok hk, tnB_ok hk, show neB s ⟨2, s.pa, 0, 0⟩ = true from by rw [runs_is hr]; rfl] at this
        exact this

end Go.Proofs.Ytjppkcdonddohaa.A
