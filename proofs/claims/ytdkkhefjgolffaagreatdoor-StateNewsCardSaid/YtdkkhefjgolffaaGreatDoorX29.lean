/-
  StateNews: the tests of the unknown numbers are right.
-/
import Derived.Test.YtdkkhefjgolffaaGreatDoorX27
set_option linter.unusedVariables false
set_option linter.unusedSimpArgs false
namespace Go.Proofs.YtdkkhefjgolffaaGreatDoor.AM
open Go.Proofs
set_option maxRecDepth 100000
/-! ### The tests are right -/
theorem orcT_ok {bad : Nat} {hi : Bool} {M : Mu} (hs : syT bad hi M.s) {op : BinOp} {t : TypeId} {ox oy : Operand} {x y x' y' v : Value} (h : orcT bad hi op x y = some v) (hx : VR M x x') (hy : VR M y y') :
    plain v = true ∧ ∀ w, (do eqGuard op t ox oy x' y'; binOp op t x' y' : Sem Value).run Tryz.prog w = .ok v w := by
  obtain ⟨n, h1, h2, h3⟩ := hs
  unfold orcT at h
  split at h
  case h_2 => cases h
  rename_i i c
  obtain ⟨hi1, h0⟩ := cond_some h
  clear h
  have hlt := Nat.blt_eq.mp hi1
  cases hx with
  | sym _ hv ho =>
  rw [h1 i hlt] at hv
  subst hv
  cases hy.int_inv
  have key : plain v = true ∧ binI op .i64 .i64 (n i) c = some v := by
    have h := h0
    clear h0
    unfold tstT at h
    split at h
    · by_cases hc : c = 0
      · rw [if_pos hc] at h
        subst hc
        cases hb : Nat.blt i bad with
        | true =>
          rw [hb] at h
          simp only [cond, Option.some.injEq] at h
          subst h
          have := (h2 i (Nat.blt_eq.mp hb)).1
          exact ⟨rfl, by show some (Value.bool (decide (n i < 0))) = _; congr 2; rw [decide_eq_false_iff_not]; omega⟩
        | false =>
          rw [hb] at h
          simp only [cond] at h
          cases he : Nat.beq i bad with
          | false => rw [he] at h; cases h
          | true =>
            rw [he] at h
            simp only [Option.some.injEq] at h
            subst h
            have e := Nat.eq_of_beq_eq_true he
            subst e
            have h4 := h3 hlt
            refine ⟨rfl, ?_⟩
            show some (Value.bool (decide (n i < 0))) = _
            cases hi with
            | true =>
              simp only [if_true] at h4
              have : ¬ n i < 0 := by split at h4 <;> omega
              simp [this]
            | false =>
              simp only [Bool.false_eq_true, if_false] at h4
              simp [h4]
      · rw [if_neg hc] at h; cases h
    · by_cases hc : c = (if i % 2 = 0 then 4 else 8)
      · rw [if_pos hc] at h
        cases hb : Nat.blt i bad with
        | true =>
          rw [hb] at h
          simp only [cond, Option.some.injEq] at h
          subst h
          have := (h2 i (Nat.blt_eq.mp hb)).2
          exact ⟨rfl, by show some (Value.bool (decide (n i ≥ c))) = _; congr 2; rw [decide_eq_false_iff_not]; omega⟩
        | false =>
          rw [hb] at h
          simp only [cond] at h
          cases he : (Nat.beq i bad && hi) with
          | false => rw [he] at h; cases h
          | true =>
            rw [he] at h
            simp only [Option.some.injEq] at h
            subst h
            simp only [Bool.and_eq_true] at he
            have e := Nat.eq_of_beq_eq_true he.1
            subst e
            have h4 := h3 hlt
            rw [he.2] at h4
            simp only [if_true] at h4
            exact ⟨rfl, by show some (Value.bool (decide (n i ≥ c))) = _; congr 2; rw [decide_eq_true_eq]; omega⟩
      · rw [if_neg hc] at h; cases h
    · cases h
  exact ⟨key.1, fun w => int_run key.2 w⟩
theorem cfT_ok (bad : Nat) (hi : Bool) : CfgOk Tryz.prog (cfT bad hi) := ⟨fun h => tyChk_ok ((allB_allT tyOk).get h), fun h => ftOk.get h, mixOk, fun {M} hs {op t ox oy x y x' y' v} h hx hy => orcT_ok hs h hx hy⟩
theorem memsT (bad : Nat) (hi : Bool) : MemsOk Tryz.prog (cfT bad hi) := ⟨fun m hm => (by
  simp only [cfT, cf1, List.mem_singleton] at hm
  subst hm
  exact mem_ok (cf := cf) (cfOk []) noMems check_run (by kernel_rfl) (by kernel_rfl) rfl (fun _ _ => trivial)), fun g hg => (by cases hg)⟩
end Go.Proofs.YtdkkhefjgolffaaGreatDoor.AM
