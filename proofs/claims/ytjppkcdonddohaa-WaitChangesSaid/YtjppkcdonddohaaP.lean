/-
  Walks of the wait layer's statements: WaitChanges, out of its ways.
-/
import Derived.Test.YtjppkcdonddohaaO
set_option linter.unusedVariables false
set_option linter.unusedSimpArgs false
namespace Go.Proofs.Ytjppkcdonddohaa.A
open Go.RowKit
theorem unpauseC (s : St) (w : World) : Calls Try.prog 23 #[.agg s.cells] w fun e w' => e = .returned (triple (tnS s (unS s) (unR s)) (runsB (tnS s (unS s) (unR s))) (tnE s (unR s))) ∧ Below w.heap.size w w' :=
  unpause_core s _ _ _ w (fun W => Lib.hid (turnUnpause s (unS s) (unR s) W (fun hk W b _ _ hb => unpause1_ b s W hb (okB_pa hk))))

theorem WaitChanges_walk (s : St) (hpo : 0 ≤ s.po ∧ s.po < 4294967296) (w : World) :
    Calls Try.prog 8 #[.agg s.cells] w fun e w' => e = .returned (.bool true) ∧ Below w.heap.size w w' := by
  have hT : ∀ W, Calls Try.prog 20 #[.agg s.cells] W fun e w' => e = .returned (.int .i64 (ckR s)) ∧ Below W.heap.size W w' := fun W => check_ _ _ _ _ W
  have hR : ∀ W, Calls Try.prog 22 #[.agg s.cells] W fun e w' => e = .returned (.bool (runsB s)) ∧ Below W.heap.size W w' := fun W => runs_ _ _ _ _ W
  have hG : ∀ W, Calls Try.prog 13 #[.agg s.cells] W fun e w' => e = .returned (.bool (okB s)) ∧ Below W.heap.size W w' := fun W => right_ _ _ _ _ hpo.1 W
  have hU := fun W => up_ s W
  have hD := fun W => down_ s W
  have hP := fun W => pause_ s W
  have hQ := fun W => unpauseC s W
  have hE := fun W => due_ s W
  cases hk : okB s with
  | false =>
    have e1 : ckR s = 270 := by simp [ckR, hk]
    have e2 : runsB s = false := runsB_ck s (by rw [e1]; decide)
    rw [e1] at hT
    rw [e2] at hR
    rw [hk] at hG hE
    simp only [tnS_bad hk, tnE_bad hk] at hU hD hP hQ
    exact changes_bad s w hT hU hD hP hQ hE hR hG
  | true =>
    have hkP : okP s := of_decide_eq_true hk
    have e1 : ckR s = 0 := by simp [ckR, hk]
    have e2 := runs_eq hk
    have hS : ∀ W, Calls Try.prog 18 #[.agg s.cells] W fun e w' => e = .returned (.bool (runsB s)) ∧ Below W.heap.size W w' := fun W => by
      have := rruns_ s.st s.pa s.po s.un W
      rw [← e2] at this
      exact this
    have hpa0 := (okB_pa hk).1
    have hpa1 := (okB_pa hk).2
    have e3 : (okB s && s.un != 0) = decide (0 < s.un) := by
      rw [hk, Bool.true_and, Bool.eq_iff_iff]
      simp only [okP] at hkP
      simp only [bne_iff_ne, decide_eq_true_eq]; omega
    have e4 : (if okB s = true then s.un else 0) = s.un := by rw [if_pos hk]
    rw [e1] at hT
    rw [hk] at hG
    simp only [e3, e4] at hE
    simp only [tnE_ok hk] at hU hD hP hQ
    have p1 : s.pa = 15 → paR s = 6 := fun h => by simp [paR, h]
    have p2 : s.pa ≠ 15 → paR s = 0 ∧ paS s = ⟨s.st, s.pa + 1, s.po, s.un⟩ := fun h => by simp [paR, paS, h]
    have q1 : s.pa = 0 → unR s = 4 := fun h => by simp [unR, h]
    have q2 : s.pa ≠ 0 → unR s = 0 ∧ unS s = ⟨s.st, s.pa - 1, s.po, s.un⟩ := fun h => by simp [unR, unS, h]
    have q3 : s.pa ≠ 0 → runsB ⟨s.st, s.pa - 1, s.po, s.un⟩ = (s.st == 1 && s.pa - 1 == 0) := fun h =>
      runs_eq (s := ⟨s.st, s.pa - 1, s.po, s.un⟩) (decide_eq_true (by simp only [okP] at hkP ⊢; omega))
    have z4 : runsB St.zero = false := by decide +kernel
    by_cases hst : s.st = 0
    · have u1 : upR s = 0 := by simp [upR, hst]
      have u2 : upS s = ⟨1, s.pa, 0, 0⟩ := by simp [upS, hst]
      have d1 : dnR s = 4 := by simp [dnR, hst]
      simp only [u1, u2, tnS_ok hk] at hU
      simp only [d1, tnS_err (show (4 : Int) ≠ 0 by decide)] at hD
      have hb : (s.st == 0) = true := by simp [hst]
      by_cases h0 : s.pa = 0
      · obtain ⟨p3, p4⟩ := p2 (by omega)
        simp only [p3, p4, tnS_ok hk] at hP
        simp only [q1 h0, tnS_err (show (4 : Int) ≠ 0 by decide), z4] at hQ
        exact changes_d0 s _ w hT hU hD hP hQ hE hR hG hS hb (by simp [h0]) (by simp [h0]) (by simp [h0]) hpa0 hpa1
      · obtain ⟨q4, q5⟩ := q2 h0
        simp only [q4, q5, tnS_ok hk, q3 h0] at hQ
        by_cases h15 : s.pa = 15
        · simp only [p1 h15, tnS_err (show (6 : Int) ≠ 0 by decide)] at hP
          exact changes_d15 s _ w hT hU hD hP hQ hE hR hG hS hb (by simp [h0]) (by simp [h15]) (by simp [h15]) hpa0 hpa1
        · obtain ⟨p3, p4⟩ := p2 h15
          simp only [p3, p4, tnS_ok hk] at hP
          exact changes_d7 s _ w hT hU hD hP hQ hE hR hG hS hb (by simp [h0]) (by simp [h15]) (by simp; omega) hpa0 hpa1
    · have u1 : upR s = 5 := by simp [upR, hst]
      have d1 : dnR s = 0 := by simp [dnR, hst]
      have d2 : dnS s = ⟨0, s.pa, 0, 0⟩ := by simp [dnS, hst]
      simp only [u1, tnS_err (show (5 : Int) ≠ 0 by decide)] at hU
      simp only [d1, d2, tnS_ok hk] at hD
      have hb : (s.st == 0) = false := by simp [hst]
      by_cases h0 : s.pa = 0
      · obtain ⟨p3, p4⟩ := p2 (by omega)
        simp only [p3, p4, tnS_ok hk] at hP
        simp only [q1 h0, tnS_err (show (4 : Int) ≠ 0 by decide), z4] at hQ
        exact changes_n0 s _ w hT hU hD hP hQ hE hR hG hS hb (by simp [h0]) (by simp [h0]) (by simp [h0]) hpa0 hpa1
      · obtain ⟨q4, q5⟩ := q2 h0
        simp only [q4, q5, tnS_ok hk, q3 h0] at hQ
        by_cases h15 : s.pa = 15
        · simp only [p1 h15, tnS_err (show (6 : Int) ≠ 0 by decide)] at hP
          exact changes_n15 s _ w hT hU hD hP hQ hE hR hG hS hb (by simp [h0]) (by simp [h15]) (by simp [h15]) hpa0 hpa1
        · obtain ⟨p3, p4⟩ := p2 h15
          simp only [p3, p4, tnS_ok hk] at hP
          exact changes_n7 s _ w hT hU hD hP hQ hE hR hG hS hb (by simp [h0]) (by simp [h15]) (by simp; omega) hpa0 hpa1

end Go.Proofs.Ytjppkcdonddohaa.A
