/-
  StateNews: the law's walk.
-/
import Derived.Test.YtdkkhefjgolffaaGreatDoorD2
import Derived.Test.YtdkkhefjgolffaaGreatDoorXg
import Derived.Deep.LoopGhost
set_option linter.unusedVariables false
set_option linter.unusedSimpArgs false
namespace Go.Proofs.YtdkkhefjgolffaaGreatDoor.A
open Go.RowKit
set_option maxRecDepth 100000 in
set_option maxHeartbeats 3200000 in
theorem news_walk (H : Hid (∀ (w0 : World) (A0 : Option Addr) (n c0 i : Nat) (a : Act) (w : World), Topos w0 A0 n → Inv w0 A0 n c0 i a w → (roundOf AM.codeX).wp Tryz.prog (Round w0 A0 n c0 i) a w))
    (hw : ∀ w, Hid (Calls Tryz.prog 10 #[] w fun e w' => e = .returned (.bool true) ∧ Below w.heap.size w w')) (A0 : Option Addr) (n c0 : Nat) (w : World) (ht : Hid (Topos w A0 n)) :
    Calls Tryz.prog 3 #[.slice A0 n c0] w fun e w' => e = .returned (.bool true) ∧ Below w.heap.size w w' := by
  go_enter Tryz.func3, Tryz.ntmps3
  go_wp2_with fail
  refine ((hw _).out).mono ?_
  rintro e w1 ⟨rfl, hb⟩
  have HB := Lib.hid hb
  clear hb
  go_wp2_with fail
  refine wp_loop_ghost (fun k a' w' => ∃ i, k = n - i ∧ Inv w A0 n c0 i a' w') n ⟨0, rfl, by omega, by omega, rfl, rfl, rfl, rfl, rfl, rfl, HB.out⟩ ?_
  rintro k a w2 ⟨i, rfl, hI⟩
  refine wp_mono (H.out w A0 n c0 i a w2 ht.out hI) ?_
  rintro x a' w' hx
  cases x with
  | normal =>
    obtain ⟨hlt, hI'⟩ := hx
    exact ⟨n - (i + 1), by omega, i + 1, rfl, hI'⟩
  | exit j =>
    obtain ⟨hj, hb, hs, hd⟩ := hx
    cases hj
    obtain ⟨x0, x1, x2, x3, x4, x5, x6, x7, x8, x9, x10, x11, x12, x13, x14, x15, x16, x17, x18, x19, x20, x21, x22, x23, x24, x25, x26, x27, x28, x29, x30, x31, x32, x33, x34, x35, x36, x37, x38, x39, x40, x41, x42, x43, x44, x45, x46, x47, x48, x49, x50, x51, x52, x53, rfl⟩ := act54 hs hd
    have B := Lib.hid hb
    clear hb hI
    go_wp2_with fail
    go_ret
    exact ⟨rfl, B.out⟩
  | goto l => exact absurd hx.1 (by simp)
  | ret => exact absurd hx.1 (by simp)
  | panic ch => exact absurd hx.1 (by simp)
  | outgrown => exact absurd hx.1 (by simp)
theorem stateNews_walk (A0 : Option Addr) (n c0 : Nat) (w : World) (ht : Topos w A0 n) : Calls Tryz.prog 3 #[.slice A0 n c0] w fun e w' => e = .returned (.bool true) ∧ Below w.heap.size w w' :=
  news_walk (Lib.hid fun w0 A0 n c0 i a w ht h => round_any AM.codeX heart w0 A0 n c0 i a w ht h) (fun w => Lib.hid (AM.wakes_calls w)) A0 n c0 w (Lib.hid ht)
end Go.Proofs.YtdkkhefjgolffaaGreatDoor.A
