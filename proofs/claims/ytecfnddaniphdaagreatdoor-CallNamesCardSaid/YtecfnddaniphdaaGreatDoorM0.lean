/-
  law21: names: the table, a kind's name, whether a guest asks it, the names' list.
-/
import Derived.Test.YtecfnddaniphdaaGreatDoorA0
import Derived.Test.YtecfnddaniphdaaGreatDoorXd
import Derived.Test.YtecfnddaniphdaaGreatDoorX25
import Derived.Test.YtecfnddaniphdaaGreatDoorX32
set_option linter.unusedVariables false
set_option linter.unusedSimpArgs false
namespace Go.Proofs.YtecfnddaniphdaaGreatDoor.A
open Go.RowKit
def nl : List ByteArray := [⟨#[99, 114, 101, 97, 116, 101]⟩, ⟨#[100, 101, 115, 116, 114, 111, 121]⟩, ⟨#[97, 100, 100]⟩, ⟨#[100, 114, 111, 112]⟩, ⟨#[117, 112]⟩, ⟨#[100, 111, 119, 110]⟩, ⟨#[112, 97, 117, 115, 101]⟩, ⟨#[117, 110, 112, 97, 117, 115, 101]⟩, ⟨#[98, 108, 111, 99, 107]⟩, ⟨#[112, 111, 108, 108]⟩, ⟨#[121, 105, 101, 108, 100]⟩, ⟨#[111, 112, 101, 110]⟩, ⟨#[108, 105, 110, 107]⟩, ⟨#[99, 108, 111, 115, 101]⟩, ⟨#[115, 101, 110, 100]⟩, ⟨#[109, 97, 115, 107]⟩, ⟨#[99, 108, 101, 97, 114]⟩, ⟨#[98, 105, 110, 100]⟩, ⟨#[115, 116, 97, 114, 116]⟩, ⟨#[115, 116, 111, 112]⟩]
theorem nl_len : nl.length = 20 := rfl
def nmAt (k : Nat) : ByteArray := nl.getD k ⟨#[]⟩
theorem nl_at {k : Nat} (hk : k < 20) : nl[k]? = some (nmAt k) := by
  have : k < nl.length := hk
  rw [nmAt, List.getD_eq_getElem?_getD, List.getElem?_eq_getElem this]
  rfl
/-- the tables lie there -/
structure Tab (w : World) : Prop where
  names : ∃ cs t, w.heap[0]? = some (.cells cs t (0, 0)) ∧ cs.toList = AM.strs nl
  bits : ∃ cs t, w.heap[1]? = some (.cells cs t (0, 0)) ∧ cs.toList = AM.tabV
theorem Tab.low {w w1 : World} (h : Tab w) (hb : Below w.heap.size w w1) : Tab w1 := by
  obtain ⟨⟨cs, t, h1, h2⟩, cs', t', h3, h4⟩ := h
  exact ⟨⟨cs, t, (hb.block _ (lt_blk h1)).trans h1, h2⟩, cs', t', (hb.block _ (lt_blk h3)).trans h3, h4⟩
theorem cell_nl {w : World} {b : Nat} {cs : Array Value} {t : TypeId} (h1 : w.heap[b]? = some (.cells cs t (0, 0))) (h2 : cs.toList = AM.strs nl) (k : Nat) (hk : k < 20) : w.cell? ⟨b, k, none⟩ = some (.string (nmAt k)) := by
  have h3 : cs[k]? = some (.string (nmAt k)) := by
    rw [← Array.getElem?_toList, h2, AM.strs, List.getElem?_map, nl_at hk]; rfl
  simpa [World.cell?, h1] using h3
theorem Tab.cell {w : World} (h : Tab w) (k : Nat) (hk : k < 20) : w.cell? ⟨0, k, none⟩ = some (.string (nmAt k)) := by
  obtain ⟨cs, t, h1, h2⟩ := h.names
  exact cell_nl h1 h2 k hk
set_option maxRecDepth 100000 in
theorem name_lo (k : Int) (hk : k < 1) (w : World) : Calls Tryz.prog 6 #[.int .i64 k] w fun e w' => e = .returned (.string ⟨#[]⟩) ∧ Below w.heap.size w w' := by
  have h1 : decide (k < 1) = true := by simpa using hk
  go_enter Tryz.func6, Tryz.ntmps6
  go_wp2
  go_ret
  exact ⟨rfl, Below.refl _ _⟩
set_option maxRecDepth 100000 in
theorem name_hi (k : Int) (hk : 20 < k) (w : World) : Calls Tryz.prog 6 #[.int .i64 k] w fun e w' => e = .returned (.string ⟨#[]⟩) ∧ Below w.heap.size w w' := by
  have h1 : ¬ k < 1 := by omega
  go_enter Tryz.func6, Tryz.ntmps6
  go_wp2
  go_ret
  exact ⟨rfl, Below.refl _ _⟩
set_option maxRecDepth 100000 in
theorem name_in (m : Nat) (hm : m < 20) (w : World) (ht : Tab w) : Calls Tryz.prog 6 #[.int .i64 ((m : Int) + 1)] w fun e w' => e = .returned (.string (nmAt m)) ∧ Below w.heap.size w w' := by
  have hc := ht.cell m hm
  have h2 : ¬ (m : Int) + 1 < 1 := by omega
  have h3 : ¬ (20 : Int) < (m : Int) + 1 := by omega
  have h4 : ¬ 20 ≤ m := by omega
  generalize nmAt m = s at hc ⊢
  clear ht
  go_enter Tryz.func6, Tryz.ntmps6
  go_wp2
  go_ret
  exact ⟨rfl, Below.refl _ _⟩
set_option maxRecDepth 100000 in
theorem guest_lo (k : Int) (hk : k < 9) (w : World) : Calls Tryz.prog 7 #[.int .i64 k] w fun e w' => e = .returned (.bool false) ∧ Below w.heap.size w w' := by
  have h1 : ¬ 9 ≤ k := by omega
  go_enter Tryz.func7, Tryz.ntmps7
  go_wp2
  go_ret
  exact ⟨rfl, Below.refl _ _⟩
set_option maxRecDepth 100000 in
theorem guest_in (k : Int) (h9 : 9 ≤ k) (h20 : k ≤ 20) (w : World) : Calls Tryz.prog 7 #[.int .i64 k] w fun e w' => e = .returned (.bool true) ∧ Below w.heap.size w w' := by
  go_enter Tryz.func7, Tryz.ntmps7
  go_wp2
  go_ret
  exact ⟨rfl, Below.refl _ _⟩
set_option maxRecDepth 100000 in
theorem guest_hi (k : Int) (hk : 20 < k) (w : World) : Calls Tryz.prog 7 #[.int .i64 k] w fun e w' => e = .returned (.bool false) ∧ Below w.heap.size w w' := by
  have h1 : 9 ≤ k := by omega
  have h2 : ¬ k ≤ 20 := by omega
  go_enter Tryz.func7, Tryz.ntmps7
  go_wp2
  go_ret
  exact ⟨rfl, Below.refl _ _⟩
set_option maxRecDepth 100000 in
theorem ref_names (w : World) : Calls Tryz.prog 5 #[] w fun e w' => (∃ r, e = .returned (.slice (some ⟨r, 0, none⟩) 20 20) ∧ w.heap.size ≤ r ∧ ∀ k, k < 20 → w'.cell? ⟨r, k, none⟩ = some (.string (nmAt k))) ∧ Below w.heap.size w w' := by
  go_enter Tryz.func5, Tryz.ntmps5
  go_wp2
  go_ret
  exact ⟨⟨w.heap.size, rfl, Nat.le_refl _, cell_nl (new_at w _) rfl⟩, below_al (Below.refl _ _)⟩
end Go.Proofs.YtecfnddaniphdaaGreatDoor.A
