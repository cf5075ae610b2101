/-
  StateNews: what the argument reads as: a row of topologies, each a row of seats.
-/
import Derived.Test.YtdkkhefjgolffaaGreatDoorD2
import Derived.Deep.SlicePairs
set_option linter.unusedVariables false
set_option linter.unusedSimpArgs false
namespace Go.Proofs.YtdkkhefjgolffaaGreatDoor.A
open Go.RowKit Go.ChangeShapes Go.WideShapes Go.Deep
theorem cells29 : Tryz.prog.cellsOf 29 = 2 := by kernel_rfl
theorem cells26 : Tryz.prog.cellsOf 26 = 1 := by kernel_rfl
theorem cells24 : Tryz.prog.cellsOf 24 = 1 := by kernel_rfl
theorem cells3 : Tryz.prog.cellsOf 3 = 1 := by kernel_rfl
theorem plain_addr {w : World} {a : Addr} {v : Value} (h : w.cell? (a.add 0) = some v) : a = ⟨a.block, a.off, none⟩ := by
  have h0 : a.spot = none := by simpa [Addr.add] using World.cell?_spot h
  obtain ⟨b, o, s⟩ := a
  cases h0
  rfl
theorem add_at {b off i : Nat} : (⟨b, off, none⟩ : Addr).add i = ⟨b, off + i, none⟩ := by
  unfold Addr.add
  split
  · next h => subst h; rfl
  · rfl
/-- a row of seats -/
theorem seats_of {H : Type} {enc : TypeId × Value → H} {W : World} {base : Nat} {held : Bool} {fuel : Nat} {v : Value} {x : DataW H × List MemPlace} (h : DataW.trod enc Tryz.prog W base (fun _ => true) held fuel 24 [v] = some x) :
    ∃ A m c l, v = .slice A m c ∧ Sl 2 Seat.enc W A m c l := by
  rcases open_slice_pairs Tryz.underlying24 Tryz.underlying29 cells29 rfl rfl cells3 cells3 h with ⟨hc, hx⟩ | ⟨a, len, cap, m, k, V0, V1, D0, D1, P0, P1, hc, _, hl, hm, hmm, hx, hall⟩
  · obtain rfl : v = .slice none 0 0 := by simpa using hc
    exact ⟨none, 0, 0, [], rfl, Sl.nil 2 Seat.enc W none 0⟩
  · obtain rfl : v = .slice (some a) len cap := by simpa using hc
    simp only [if_true] at hmm
    have hmm' := hmm.symm
    subst hmm'
    have each : ∀ i, i < len → ∃ s : Seat, W.cell? (a.add (i * 2)) = some (.int .i64 s.socket) ∧ W.cell? (a.add (i * 2 + 1)) = some (.int .i64 s.core) := by
      intro i hi
      obtain ⟨h0, h1, t0, t1⟩ := hall i (by omega)
      obtain ⟨a0, e0, _, _⟩ := DataW.trod_int Tryz.underlying3 t0
      obtain ⟨a1, e1, _, _⟩ := DataW.trod_int Tryz.underlying3 t1
      simp at e0 e1
      exact ⟨⟨a0, a1⟩, by rw [h0, e0], by rw [h1, e1]⟩
    haveI : Inhabited Seat := ⟨⟨0, 0⟩⟩
    obtain ⟨S, hS⟩ := choose_lt each
    refine ⟨some a, len, cap, (List.range len).map S, rfl, by simp, hl, ?_⟩
    intro i s hs
    have hi : i < len := by
      have := (List.getElem?_eq_some_iff.1 hs).1
      simpa using this
    have es : S i = s := by simpa [hi] using hs
    subst es
    have h00 : 0 < len := by omega
    have ea := plain_addr (by simpa using (hS 0 h00).1)
    refine ⟨a.block, a.off, by rw [← ea], ?_⟩
    intro j u hj
    have h1 := hS i hi
    rw [ea] at h1
    rw [add_at, add_at] at h1
    match j, hj with
    | 0, hj => cases hj; exact h1.1
    | 1, hj => cases hj; exact h1.2
/-- a row of topologies -/
theorem topos_of {H : Type} {enc : TypeId × Value → H} {W : World} {base : Nat} {held : Bool} {fuel : Nat} {v : Value} {x : DataW H × List MemPlace} (h : DataW.trod enc Tryz.prog W base (fun _ => true) held fuel 22 [v] = some x) :
    ∃ A n c, v = .slice A n c ∧ n ≤ maxLen ∧ Topos W A n := by
  rcases open_slice1 Tryz.underlying22 cells26 h with ⟨hc, hx⟩ | ⟨a, len, cap, m, k, V, D, Pl, hc, _, hl, hm, hmm, hx, hall⟩
  · obtain rfl : v = .slice none 0 0 := by simpa using hc
    exact ⟨none, 0, 0, rfl, Nat.zero_le _, fun j hj => absurd hj (Nat.not_lt_zero _)⟩
  · obtain rfl : v = .slice (some a) len cap := by simpa using hc
    simp only [if_true] at hmm
    have hmm' := hmm.symm
    subst hmm'
    refine ⟨some a, len, cap, rfl, Nat.le_trans hl hm, fun j hj => ?_⟩
    have ea := plain_addr (hall 0 (by omega)).1
    obtain ⟨h1, t1⟩ := hall j (by omega)
    obtain ⟨xs, n, _, _, _, hxl, hf⟩ := DataW.trod_struct Tryz.underlying26 t1
    have g0 := hf 0 _ rfl
    obtain ⟨y, hy⟩ : ∃ y, xs[0]? = some y := by
      have : 0 < xs.length := by rw [hxl]; decide
      exact ⟨_, List.getElem?_eq_getElem this⟩
    rw [hy] at g0
    simp [cells24] at g0
    obtain ⟨A, m', c, l, e, hs⟩ := seats_of g0
    refine ⟨a.block, a.off, by rw [← ea], A, m', c, l, ?_, hs⟩
    rw [← e, ← h1]
    exact congrArg W.cell? (add_at.symm.trans (congrArg (fun a : Addr => a.add j) ea.symm))
end Go.Proofs.YtdkkhefjgolffaaGreatDoor.A
