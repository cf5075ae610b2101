/-
  law24: names: the table, a kind's name, the place of a name.
-/
import Derived.Test.YtoifedelfgpnhaaGreatDoorA0
import Derived.Test.YtoifedelfgpnhaaGreatDoorXd
import Derived.Test.YtoifedelfgpnhaaGreatDoorX25
import Derived.Test.YtoifedelfgpnhaaGreatDoorX32
set_option linter.unusedVariables false
set_option linter.unusedSimpArgs false
namespace Go.Proofs.YtoifedelfgpnhaaGreatDoor.A
open Go.RowKit
def nl : List ByteArray := [⟨#[]⟩, ⟨#[119, 101, 105, 103, 104, 116]⟩, ⟨#[99, 97, 112]⟩, ⟨#[112, 111, 111, 108]⟩, ⟨#[114, 101, 109, 97, 115, 107]⟩, ⟨#[102, 111, 114, 109]⟩, ⟨#[112, 97, 114, 116]⟩, ⟨#[108, 101, 97, 118, 101]⟩, ⟨#[115, 112, 108, 105, 116]⟩, ⟨#[106, 111, 105, 110]⟩, ⟨#[109, 111, 118, 101]⟩]
def nmAt (k : Nat) : ByteArray := nl.getD k ⟨#[]⟩
/-- a kind's name -/
def nm (k : Int) : ByteArray := if 0 ≤ k then nmAt k.toNat else ⟨#[]⟩
/-- the tables lie there -/
structure Tab (w : World) : Prop where
  names : ∃ cs t, w.heap[0]? = some (.cells cs t (0, 0)) ∧ cs.toList = AM.strs nl
  bits : ∃ cs t, w.heap[1]? = some (.cells cs t (0, 0)) ∧ cs.toList = AM.tabV
theorem Tab.low {w w1 : World} (h : Tab w) (hb : Below w.heap.size w w1) : Tab w1 := by
  obtain ⟨⟨cs, t, h1, h2⟩, cs', t', h3, h4⟩ := h
  exact ⟨⟨cs, t, (hb.block _ (lt_blk h1)).trans h1, h2⟩, cs', t', (hb.block _ (lt_blk h3)).trans h3, h4⟩
theorem Tab.cell {w : World} (h : Tab w) (k : Nat) (hk : k < 11) : w.cell? ⟨0, k, none⟩ = some (.string (nmAt k)) := by
  obtain ⟨cs, t, h1, h2⟩ := h.names
  have h3 : cs[k]? = some (.string (nmAt k)) := by
    rw [← Array.getElem?_toList, h2, AM.strs, List.getElem?_map]
    have h4 : nl[k]? = some (nmAt k) := by
      have : k < nl.length := by simpa [nl] using hk
      rw [nmAt, List.getD_eq_getElem?_getD, List.getElem?_eq_getElem this]
      rfl
    rw [h4]; rfl
  simpa [World.cell?, h1] using h3
theorem nmAt_big {k : Nat} (h : 11 ≤ k) : nmAt k = ⟨#[]⟩ := by
  unfold nmAt
  rw [List.getD_eq_getElem?_getD, List.getElem?_eq_none (by simpa [nl] using h)]
  rfl
theorem nm_nat (k : Nat) : nm (k : Int) = nmAt k := by simp [nm]
set_option maxRecDepth 100000 in
theorem liveName (k : Int) (w : World) (ht : Tab w) : Calls Tryz.prog 5 #[.int .i64 k] w fun e w' => e = .returned (.string (nm k)) ∧ Below w.heap.size w w' := by
  by_cases h0 : k < 0
  · have e : nm k = ⟨#[]⟩ := by unfold nm; rw [if_neg (by omega)]
    rw [e]
    have h1 : decide (k < 0) = true := by simpa using h0
    clear ht
    go_enter Tryz.func5, Tryz.ntmps5
    go_wp2
    go_ret
    exact ⟨rfl, Below.refl _ _⟩
  · obtain ⟨n, rfl⟩ : ∃ n : Nat, k = n := ⟨k.toNat, by omega⟩
    rw [nm_nat]
    by_cases h1 : 11 ≤ n
    · rw [nmAt_big h1]
      have h2 : ¬ (n : Int) < 0 := by omega
      have h3 : (11 : Int) ≤ n := by omega
      clear ht h0
      go_enter Tryz.func5, Tryz.ntmps5
      go_wp2
      go_ret
      exact ⟨rfl, Below.refl _ _⟩
    · have hc := ht.cell n (by omega)
      have h2 : ¬ (n : Int) < 0 := by omega
      have h3 : ¬ (11 : Int) ≤ n := by omega
      have h4 : ¬ 11 ≤ n := h1
      have h5 : n < 11 := by omega
      generalize nmAt n = s at hc ⊢
      clear ht h0
      go_enter Tryz.func5, Tryz.ntmps5
      go_wp2
      go_ret
      exact ⟨rfl, Below.refl _ _⟩
noncomputable def cfn : AM.Cfg := ⟨AM.ft, AM.ty, [], [], fun _ => True, fun _ _ _ => none⟩
theorem cfnOk : AM.CfgOk Tryz.prog cfn := AM.cfgOk AM.tyOk AM.ftOk AM.mixOk (fun _ _ _ => rfl)
theorem cfnMems : AM.MemsOk Tryz.prog cfn := ⟨fun m hm => (by cases hm), fun g hg => (by cases hg)⟩
theorem ref_of {k : Int} {s : ByteArray} (h : AM.okRun (AM.runA cfn 4000 (.call 6 [.int .i64 k] AM.empty0)) (.string s) = true) (w : World) : Calls Tryz.prog 6 #[.int .i64 k] w fun e w' => e = .returned (.string s) ∧ Below w.heap.size w w' :=
  callsIn_wide.1 ((AM.run_calls cfnOk cfnMems h rfl rfl rfl (fun _ => undef) trivial w (fun g hg => by cases hg)).mono fun e w' ⟨h, S⟩ => ⟨h, S.os, S.tape, S.output, S.size, fun k hk => S.blk hk⟩)
set_option maxRecDepth 100000 in
set_option maxHeartbeats 3200000 in
theorem refName (k : Int) (w : World) : Calls Tryz.prog 6 #[.int .i64 k] w fun e w' => e = .returned (.string (nm k)) ∧ Below w.heap.size w w' := by
  by_cases h0 : k < 1
  · have e : nm k = ⟨#[]⟩ := by
      unfold nm
      by_cases h : 0 ≤ k
      · rw [if_pos h]
        have : k.toNat = 0 := by omega
        rw [this]; rfl
      · rw [if_neg h]
    rw [e]
    go_enter Tryz.func6, Tryz.ntmps6
    go_wp2
    go_ret
    exact ⟨rfl, Below.refl _ _⟩
  · obtain ⟨n, rfl⟩ : ∃ n : Nat, k = n := ⟨k.toNat, by omega⟩
    rw [nm_nat]
    by_cases h1 : 11 ≤ n
    · rw [nmAt_big h1]
      have h2 : ¬ (n : Int) < 1 := by omega
      have h3 : (10 : Int) < n := by omega
      clear h0
      go_enter Tryz.func6, Tryz.ntmps6
      go_wp2
      go_ret
      exact ⟨rfl, Below.refl _ _⟩
    · have h2 : n = 1 ∨ n = 2 ∨ n = 3 ∨ n = 4 ∨ n = 5 ∨ n = 6 ∨ n = 7 ∨ n = 8 ∨ n = 9 ∨ n = 10 := by omega
      clear h0 h1
      rcases h2 with rfl | rfl | rfl | rfl | rfl | rfl | rfl | rfl | rfl | rfl
      all_goals exact ref_of (by kernel_rfl) w
end Go.Proofs.YtoifedelfgpnhaaGreatDoor.A
