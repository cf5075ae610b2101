/-
  StateNews: whatever the numbers of a topology are, one of the runs is its.
-/
import Derived.Test.YtdkkhefjgolffaaGreatDoorX28
import Derived.Test.YtdkkhefjgolffaaGreatDoorX30
set_option linter.unusedVariables false
set_option linter.unusedSimpArgs false
namespace Go.Proofs.YtdkkhefjgolffaaGreatDoor.AM
open Go.Proofs Go.RowKit
def inR (n : Nat → Int) (i : Nat) : Prop := 0 ≤ n i ∧ n i < (if i % 2 = 0 then 4 else 8)
theorem first_bad {p : Nat → Prop} (T : Nat) : (∀ i, i < T → p i) ∨ ∃ k, k < T ∧ ¬ p k ∧ ∀ i, i < k → p i := by
  induction T with
  | zero => exact .inl fun i h => by omega
  | succ T ih =>
    rcases ih with h | ⟨k, h1, h2, h3⟩
    · by_cases hp : p T
      · exact .inl fun i hi => by
          rcases Nat.lt_succ_iff_lt_or_eq.1 hi with h4 | rfl
          · exact h i h4
          · exact hp
      · exact .inr ⟨T, Nat.lt_succ_self T, hp, h⟩
    · exact .inr ⟨k, Nat.lt_succ_of_lt h1, h2, h3⟩
theorem badsX_at {m k : Nat} (h : badsX m = true) (hk : k < 2 * m) (hi : Bool) : badX m k hi = true := by
  unfold badsX at h
  have := List.all_eq_true.1 h k (List.mem_range.2 hk)
  simp only [Bool.and_eq_true] at this
  cases hi
  · exact this.1
  · exact this.2
theorem badsAll {m : Nat} (h0 : 0 < m) (h9 : m ≤ 9) : badsX m = true := by
  match m, h0, h9 with
  | 1, _, _ => exact bads1
  | 2, _, _ => exact bads2
  | 3, _, _ => exact bads3
  | 4, _, _ => exact bads4
  | 5, _, _ => exact bads5
  | 6, _, _ => exact bads6
  | 7, _, _ => exact bads7
  | 8, _, _ => exact bads8
  | 9, _, _ => exact bads9
theorem goodAll {m : Nat} (h9 : m ≤ 9) : ∃ good, okX good (runA (cfT 1000 false) 4000 (.exec codeX frX (memX m))) = true := by
  match m, h9 with
  | 0, _ => exact ⟨false, none0⟩
  | 1, _ => exact ⟨true, good1⟩
  | 2, _ => exact ⟨true, good2⟩
  | 3, _ => exact ⟨true, good3⟩
  | 4, _ => exact ⟨true, good4⟩
  | 5, _ => exact ⟨true, good5⟩
  | 6, _ => exact ⟨true, good6⟩
  | 7, _ => exact ⟨true, good7⟩
  | 8, _ => exact ⟨true, good8⟩
  | 9, _ => exact ⟨false, many9⟩
theorem pick {m : Nat} (hm : m ≤ 9) (n : Nat → Int) (hz : ∀ i, 2 * m ≤ i → n i = 0) : ∃ bad hi good, okX good (runA (cfT bad hi) 4000 (.exec codeX frX (memX m))) = true ∧ (∀ i, i < bad → 0 ≤ n i ∧ n i < (if i % 2 = 0 then 4 else 8)) ∧
    (bad < 1000 → if hi then (if bad % 2 = 0 then 4 else 8) ≤ n bad else n bad < 0) := by
  rcases first_bad (p := inR n) (2 * m) with h | ⟨k, h1, h2, h3⟩
  · obtain ⟨good, hg⟩ := goodAll hm
    refine ⟨1000, false, good, hg, fun i hi => ?_, fun h => by omega⟩
    by_cases hlt : i < 2 * m
    · exact h i hlt
    · rw [hz i (by omega)]
      refine ⟨by omega, ?_⟩
      split <;> omega
  · have hb := badsAll (m := m) (by omega) hm
    by_cases hneg : n k < 0
    · exact ⟨k, false, false, badsX_at hb h1 false, h3, fun _ => hneg⟩
    · refine ⟨k, true, false, badsX_at hb h1 true, h3, fun _ => ?_⟩
      simp only [if_true]
      unfold inR at h2
      by_cases hx : n k < (if k % 2 = 0 then 4 else 8)
      · exact absurd ⟨by omega, hx⟩ h2
      · exact Int.not_lt.1 hx
/-- what is done of a topology, whatever its numbers -/
theorem topoX {m : Nat} (hm : m ≤ 9) {w : World} {a : Act} {r1 r2 c : Nat} {n : Nat → Int} {cs1 : Array Value} {t1 t2 : TypeId} (hne : r1 ≠ r2)
    (h1 : w.heap[r1]? = some (.cells cs1 t1 (0, 0))) (hs1 : cs1.size = c * 2) (hmc : m ≤ c) (hc : cs1.toList.take (2 * m) = (List.range (2 * m)).map fun i => .int .i64 (n i))
    (h2 : w.heap[r2]? = some (.cells #[.slice (some ⟨r1, 0, none⟩) m c] t2 (0, 0)))
    (ha : a.tmps.size = 54) (a5 : a.tmps.getD 5 undef = .pointer (some ⟨r2, 0, none⟩)) (hop : ∀ k ∈ [0, 10, 11, 12], one (a.tmps.getD k undef) = true) (hd : a.defers = []) :
    codeX.wp Tryz.prog (fun x a' w' => (x = .normal ∨ x = .exit 1) ∧ a'.tmps.size = 54 ∧ a'.defers = [] ∧ (∀ k ∈ [0, 10, 11, 12], a'.tmps.getD k undef = a.tmps.getD k undef) ∧ Below w.heap.size w w') a w := by
  have hc' : cs1.toList.take (2 * m) = (List.range (2 * m)).map fun i => .int .i64 ((fun i => if i < 2 * m then n i else 0) i) := by
    rw [hc]
    refine List.map_congr_left fun i hi => ?_
    have := List.mem_range.1 hi
    simp [this]
  obtain ⟨bad, hi, good, k1, k2, k3⟩ := pick hm (fun i => if i < 2 * m then n i else 0) (fun i h => by simp; omega)
  refine wp_mono (blockX k1 (by omega) hne h1 hs1 hmc hc' h2 k2 k3 ha a5 hop hd) ?_
  rintro x a' w' ⟨hx, h⟩
  refine ⟨?_, h⟩
  cases good
  · exact .inr hx
  · exact .inl hx
end Go.Proofs.YtdkkhefjgolffaaGreatDoor.AM
