/-
  Walks of the wait layer's statements: the layer does something.
-/
import Derived.Test.YtjppkcdonddohaaF
set_option linter.unusedVariables false
set_option linter.unusedSimpArgs false
namespace Go.Proofs.Ytjppkcdonddohaa.A
open Go.RowKit
theorem low_a1 {w w1 w2 : World} {o : Obj} (h : Below w.heap.size w w1) (k : Below (w1.alloc o).heap.size (w1.alloc o) w2) : Below w.heap.size w w2 ∧ w2.heap[w1.heap.size]? = some o ∧ w1.heap.size + 1 ≤ w2.heap.size :=
  ⟨(h.alloc h.size o).trans (k.mono (by simp; have := h.size; omega)), (k.block _ (by simp)).trans (new_at w1 o), by have := k.size; simpa using this⟩
set_option maxHeartbeats 3200000 in
theorem wakes_ (w : World) : Calls Try.prog 9 #[] w fun e w' => e = .returned (.bool true) ∧ Below w.heap.size w w' := by
  have r1 : tnS St.zero (upS St.zero) (upR St.zero) = ⟨1, 0, 0, 0⟩ := rfl
  have r2 : tnE St.zero (upR St.zero) = 0 := by decide +kernel
  have r3 : tnS ⟨1, 0, 0, 0⟩ (blS ⟨1, 0, 0, 0⟩ false) (blR ⟨1, 0, 0, 0⟩) = ⟨2, 0, 0, 0⟩ := rfl
  have r4 : tnE ⟨1, 0, 0, 0⟩ (blR ⟨1, 0, 0, 0⟩) = 0 := by decide +kernel
  have r5 : tnB ⟨1, 0, 0, 0⟩ (blS ⟨1, 0, 0, 0⟩ false) (blR ⟨1, 0, 0, 0⟩) = true := by decide +kernel
  have r6 : tnS ⟨2, 0, 0, 0⟩ (evS ⟨2, 0, 0, 0⟩ 3 false) (evR 3) = ⟨1, 0, 0, 0⟩ := rfl
  have r7 : tnE ⟨2, 0, 0, 0⟩ (evR 3) = 0 := by decide +kernel
  have r8 : tnB ⟨2, 0, 0, 0⟩ (evS ⟨2, 0, 0, 0⟩ 3 false) (evR 3) = true := by decide +kernel
  have r9 : runsB ⟨1, 0, 0, 0⟩ = true := by decide +kernel
  have hu := fun W => Lib.hid (up_ St.zero W)
  have hb := fun W => Lib.hid (block_ ⟨1, 0, 0, 0⟩ false W)
  have he := fun W => Lib.hid (event_ ⟨2, 0, 0, 0⟩ 3 false W (by decide))
  have hr := fun W => Lib.hid (runs_ 1 0 0 0 W)
  rw [r1, r2] at hu
  rw [r3, r4, r5] at hb
  rw [r6, r7, r8] at he
  rw [r9] at hr
  clear r1 r2 r3 r4 r5 r6 r7 r8 r9
  go_enter Try.func9, Try.ntmps9
  go_wp2_with (first
    | (go_at_call 25; refine ((hu _).out).mono ?_; rintro e w1 ⟨rfl, k1⟩)
    | (go_at_call 17; refine ((hb _).out).mono ?_; rintro e w2 ⟨rfl, k2⟩; obtain ⟨b2, c2, s2⟩ := low_a1 k1 k2; have B2 := Lib.hid b2; have C2 := Lib.hid c2; clear b2 c2 k1 k2)
    | (go_at_call 10; refine ((he _).out).mono ?_; rintro e w3 ⟨rfl, k3⟩; obtain ⟨b3, c3, s3⟩ := low_a1 B2.out k3; have B3 := Lib.hid b3; have C3 := Lib.hid c3; have D3 := Lib.hid ((k3.block _ (by simp; omega)).trans (alloc_at C2.out)); have l1 := lt_blk C3.out; have l2 := lt_blk D3.out; clear b3 c3 k3; obtain ⟨x0, x1, x2, x3, _, _, _, _⟩ := cells4 C3.out; obtain ⟨y0, y1, y2, y3, _, _, _, _⟩ := cells4 D3.out)
    | (go_at_call 22; refine ((hr _).out).mono ?_; rintro e w4 ⟨rfl, k4⟩; obtain ⟨b4, c4, s4⟩ := low_a1 B3.out k4; have B4 := Lib.hid b4; obtain ⟨u0, u1, u2, u3, _, _, _, _⟩ := cells4 c4; obtain ⟨v0, v1, v2, v3, _, _, _, _⟩ := cells4 ((k4.block _ (by simp; omega)).trans (alloc_at C3.out)); obtain ⟨z0, z1, z2, z3, _, _, _, _⟩ := cells4 ((k4.block _ (by simp; omega)).trans (alloc_at D3.out)); clear b4 c4 k4))
  go_ret
  exact ⟨rfl, B4.out⟩
end Go.Proofs.Ytjppkcdonddohaa.A
