/-
  Walks of the wait layer's statements.
-/
import Derived.Test.YtjppkcdonddohaaH
set_option linter.unusedVariables false
set_option linter.unusedSimpArgs false
namespace Go.Proofs.Ytjppkcdonddohaa.A
open Go.RowKit

/-- blocks that the call has made, and what they hold -/
structure Own (w0 w : World) (L : List (Nat × Obj)) : Prop where
  below : Below w0.heap.size w0 w
  at_ : ∀ p ∈ L, w.heap[p.1]? = some p.2
theorem Own.start (w : World) : Own w w [] := ⟨Below.refl _ _, fun p h => by cases h⟩
theorem Own.alloc {w0 w : World} {L : List (Nat × Obj)} (h : Own w0 w L) (n : Nat) (o : Obj) (hn : n = w.heap.size) : Own w0 (w.alloc o) ((n, o) :: L) := by
  subst hn
  refine ⟨h.below.alloc h.below.size o, fun p hp => ?_⟩
  rcases List.mem_cons.1 hp with rfl | hp
  · exact new_at w o
  · exact alloc_at (h.at_ p hp)
theorem Own.call {w0 w w' : World} {L : List (Nat × Obj)} (h : Own w0 w L) (hb : Below w.heap.size w w') : Own w0 w' L :=
  ⟨low_2 h.below hb, fun p hp => (hb.block _ (lt_blk (h.at_ p hp))).trans (h.at_ p hp)⟩
theorem Own.drew {w0 w : World} {L : List (Nat × Obj)} (h : Own w0 w L) : Own w0 w.drew L := ⟨h.below.drew, h.at_⟩
theorem Own.nth {w0 w : World} {L : List (Nat × Obj)} (h : Own w0 w L) (i : Nat) {n : Nat} {o : Obj} (hi : L[i]? = some (n, o)) : w.heap[n]? = some o :=
  h.at_ (n, o) (List.mem_of_getElem? hi)

set_option maxHeartbeats 3200000 in
theorem once_no (s : St) (ap ad : Int) (au an port : Int) (w : World) (r : Int) (hr : (r != 0) = true)
    (h1 : ∀ W, Hid (Calls Try.prog 10 #[.agg s.cells, .int .i64 port, .bool false] W fun e w' => e = .returned (triple St.zero false r) ∧ Below W.heap.size W w')) :
    Calls Try.prog 4 #[.agg s.cells, .agg #[.int .u32 ap, .int .u32 ad, .int .i64 au, .int .i64 an], .int .i64 port] w fun e w' => e = .returned (.bool true) ∧ Below w.heap.size w w' := by
  obtain ⟨st, pa, po, un⟩ := s
  have O := Lib.hid (Own.start w)
  go_enter Try.func4, Try.ntmps4
  go_wp2_with fail
  refine (wakes_ _).mono ?_
  rintro e w1 ⟨rfl, hb⟩
  have O1 := Lib.hid (((O.out.alloc w.heap.size _ rfl).alloc (w.heap.size + 1) _ (by simp)).call hb)
  clear hb O
  obtain ⟨s0, s1, s2, s3, _, _, _, _⟩ := cells4 (O1.out.nth 1 rfl)
  go_wp2_with fail
  refine (h1 _).out.mono ?_
  rintro e w2 ⟨rfl, hb⟩
  have O2 := Lib.hid (O1.out.call hb)
  clear hb O1
  go_wp2
  go_ret
  exact ⟨rfl, O2.out.below.alloc O2.out.below.size _⟩

theorem cells_ask {w : World} {b : Nat} {a0 a1 a2 a3 : Value} (hb : w.heap[b]? = some (.cells #[a0, a1, a2, a3] 26 (0, 0))) :
    w.cell? ⟨b, 0, none⟩ = some a0 ∧ w.cell? ⟨b, 1, none⟩ = some a1 ∧ w.cell? ⟨b, 2, none⟩ = some a2 ∧ w.cell? ⟨b, 3, none⟩ = some a3 := by
  refine ⟨?_, ?_, ?_, ?_⟩ <;> exact (cell_of_row w b _ _ _ (0, 0) hb).trans rfl

set_option maxHeartbeats 6400000 in
theorem once_yes (s X P : St) (ap ad : Int) (au an port : Int) (w : World) (b1 b3 : Bool)
    (h1 : ∀ W, Hid (Calls Try.prog 10 #[.agg s.cells, .int .i64 port, .bool false] W fun e w' => e = .returned (triple X b1 0) ∧ Below W.heap.size W w'))
    (h2 : ∀ W, Hid (Calls Try.prog 10 #[.agg X.cells, .int .i64 port, .bool false] W fun e w' => e = .returned (triple X false 0) ∧ Below W.heap.size W w'))
    (h3 : ∀ W, Hid (Calls Try.prog 12 #[.agg s.cells, .int .i64 an] W fun e w' => e = .returned (triple P b3 0) ∧ Below W.heap.size W w'))
    (h4 : ∀ W, Hid (Calls Try.prog 12 #[.agg P.cells, .int .i64 an] W fun e w' => e = .returned (triple P false 0) ∧ Below W.heap.size W w')) :
    Calls Try.prog 4 #[.agg s.cells, .agg #[.int .u32 ap, .int .u32 ad, .int .i64 au, .int .i64 an], .int .i64 port] w fun e w' => e = .returned (.bool true) ∧ Below w.heap.size w w' := by
  obtain ⟨st, pa, po, un⟩ := s
  obtain ⟨X0, X1, X2, X3⟩ := X
  obtain ⟨P0, P1, P2, P3⟩ := P
  have O := Lib.hid (Own.start w)
  go_enter Try.func4, Try.ntmps4
  go_wp2_with fail
  refine (wakes_ _).mono ?_
  rintro e w1 ⟨rfl, hb⟩
  have O1 := Lib.hid (((O.out.alloc w.heap.size _ rfl).alloc (w.heap.size + 1) _ (by simp)).call hb)
  clear hb O
  obtain ⟨s0, s1, s2, s3, _, _, _, _⟩ := cells4 (O1.out.nth 1 rfl)
  go_wp2_with fail
  refine (h1 _).out.mono ?_
  rintro e w2 ⟨rfl, hb⟩
  have O2 := Lib.hid (O1.out.call hb)
  clear hb O1 s0 s1 s2 s3 h1
  go_wp2_with fail
  refine (h2 _).out.mono ?_
  rintro e w3 ⟨rfl, hb⟩
  have O3 := Lib.hid ((O2.out.alloc w2.heap.size _ rfl).call hb)
  clear hb O2 h2
  obtain ⟨x0, x1, x2, x3, _, _, _, _⟩ := cells4 (O3.out.nth 0 rfl)
  obtain ⟨s0, s1, s2, s3, _, _, _, _⟩ := cells4 (O3.out.nth 2 rfl)
  obtain ⟨a0, a1, a2, a3⟩ := cells_ask (O3.out.nth 1 rfl)
  have l0 := lt_blk (O3.out.nth 0 rfl)
  have l1 := lt_blk (O3.out.nth 1 rfl)
  have l2 := lt_blk (O3.out.nth 2 rfl)
  go_wp2_with fail
  refine (h3 _).out.mono ?_
  rintro e w4 ⟨rfl, hb⟩
  have O4 := Lib.hid ((O3.out.alloc w3.heap.size _ rfl).call hb)
  clear hb O3 h3 x0 x1 x2 x3 s0 s1 s2 s3 a0 a1 a2 a3
  obtain ⟨a0, a1, a2, a3⟩ := cells_ask (O4.out.nth 2 rfl)
  have l4 := lt_blk (O4.out.nth 2 rfl)
  go_wp2_with fail
  refine (h4 _).out.mono ?_
  rintro e w5 ⟨rfl, hb⟩
  have O5 := Lib.hid ((O4.out.alloc w4.heap.size _ rfl).call hb)
  clear hb O4 h4 a0 a1 a2 a3
  obtain ⟨p0, p1, p2, p3, _, _, _, _⟩ := cells4 (O5.out.nth 0 rfl)
  have l5 := lt_blk (O5.out.nth 0 rfl)
  go_wp2
  go_ret
  exact ⟨rfl, O5.out.below.alloc O5.out.below.size _⟩

theorem WaitOnce_walk (s : St) (ap ad : Int) (au an port : Int) (hpo : 0 ≤ s.po ∧ s.po < 4294967296) (_ : 0 ≤ ap ∧ ap < 4294967296) (_ : 0 ≤ ad ∧ ad < 4294967296) (_ : (Lit.int .i64 port).wf = true) (w : World) :
    Calls Try.prog 4 #[.agg s.cells, .agg #[.int .u32 ap, .int .u32 ad, .int .i64 au, .int .i64 an], .int .i64 port] w fun e w' => e = .returned (.bool true) ∧ Below w.heap.size w w' := by
  by_cases h : tnE s (evR port) = 0
  · obtain ⟨hk, hr⟩ := tn_ok h
    have kX := evS_ok hk port false
    have kP := tiS_ok hk an
    refine once_yes s (evS s port false) (tiS s an) ap ad au an port w (tnB s (evS s port false) 0) (tnB s (tiS s an) 0) (fun W => Lib.hid ?_) (fun W => Lib.hid ?_) (fun W => Lib.hid ?_) (fun W => Lib.hid ?_)
    · have := event_ s port false W hpo
      rw [h, hr, tnS_ok hk] at this
      exact this
    · have := event_ (evS s port false) port false W (evS_po hpo port false)
      rw [hr, tnS_ok kX, evS_again, tnB_ok kX, neB_self, tnE_ok kX] at this
      exact this
    · have := time_ s an W
      rw [tnS_ok hk, tnE_ok hk] at this
      exact this
    · have := time_ (tiS s an) an W
      rw [tiS_again, tnS_ok kP, tnB_ok kP, neB_self, tnE_ok kP] at this
      exact this
  · refine once_no s ap ad au an port w _ (bne_iff_ne.mpr h) (fun W => Lib.hid ?_)
    have := event_ s port false W hpo
    rw [(tn_fail h).1, (tn_fail h).2] at this
    exact this

end Go.Proofs.Ytjppkcdonddohaa.A
