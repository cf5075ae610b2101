/-
  Walks of the wait layer's statements: WaitEnds, out of its three ways.
-/
import Derived.Test.YtjppkcdonddohaaM
set_option linter.unusedVariables false
set_option linter.unusedSimpArgs false
namespace Go.Proofs.Ytjppkcdonddohaa.A
open Go.RowKit

theorem event_stays (s : St) (port : Int) (m : Bool) (hk : okB s = true) (hp : 0 ≤ port ∧ port < 32) (hpo : 0 ≤ s.po ∧ s.po < 4294967296)
    (hw : ¬ ((s.st = 3 ∧ (hasB s.po port = true ∨ m = false)) ∨ (s.st = 2 ∧ m = false))) (W : World) :
    Calls Try.prog 10 #[.agg s.cells, .int .i64 port, .bool m] W fun e w' => e = .returned (triple s false 0) ∧ Below W.heap.size W w' := by
  have := event_ s port m W hpo
  obtain ⟨h1, h2⟩ := eventR_stays s port m hk hp hw
  rw [tnB_is, h1, h2, neB_self] at this
  exact this
theorem event_wakes (s : St) (port : Int) (m : Bool) (hk : okB s = true) (hp : 0 ≤ port ∧ port < 32) (hpo : 0 ≤ s.po ∧ s.po < 4294967296)
    (hw : ((s.st = 3 ∧ (hasB s.po port = true ∨ m = false)) ∨ (s.st = 2 ∧ m = false))) (W : World) :
    Calls Try.prog 10 #[.agg s.cells, .int .i64 port, .bool m] W fun e w' => e = .returned (triple ⟨1, s.pa, 0, 0⟩ true 0) ∧ Below W.heap.size W w' := by
  have := event_ s port m W hpo
  obtain ⟨h1, h2⟩ := eventR_wakes s port m hk hp hw
  have hne : neB s ⟨1, s.pa, 0, 0⟩ = true := by
    have h1 : ((1 : Int) != s.st) = true := by rcases hw with ⟨h, _⟩ | ⟨h, _⟩ <;> rw [h] <;> rfl
    simp only [neB, h1, Bool.true_or]
  rw [tnB_is, h1, h2, hne] at this
  exact this
theorem time_stays (s : St) (now : Int) (hk : okB s = true) (hw : ¬ (0 < s.un ∧ s.un ≤ now)) (W : World) :
    Calls Try.prog 12 #[.agg s.cells, .int .i64 now] W fun e w' => e = .returned (triple s false 0) ∧ Below W.heap.size W w' := by
  have := time_ s now W
  have e : tiS s now = s := by simp only [tiS]; rw [if_neg hw]
  rw [e, tnS_ok hk, tnB_ok hk, neB_self, tnE_ok hk] at this
  exact this
theorem time_wakes (s : St) (now : Int) (hk : okB s = true) (hw : 0 < s.un ∧ s.un ≤ now) (W : World) :
    Calls Try.prog 12 #[.agg s.cells, .int .i64 now] W fun e w' => e = .returned (triple ⟨1, s.pa, 0, 0⟩ true 0) ∧ Below W.heap.size W w' := by
  have := time_ s now W
  have e : tiS s now = ⟨1, s.pa, 0, 0⟩ := by simp only [tiS]; rw [if_pos hw]
  have hne : neB s ⟨1, s.pa, 0, 0⟩ = true := by
    have h1 : ((0 : Int) != s.un) = true := by rw [bne_iff_ne]; omega
    simp only [neB, h1, Bool.or_true]
  rw [e, tnS_ok hk, tnB_ok hk, hne, tnE_ok hk] at this
  exact this

theorem WaitEnds_walk (ap ad au an port : Int) (hap : 0 ≤ ap ∧ ap < 4294967296) (had : 0 ≤ ad ∧ ad < 4294967296) (hw : (Lit.int .i64 port).wf = true) (w : World) :
    Calls Try.prog 7 #[.agg #[.int .u32 ap, .int .u32 ad, .int .i64 au, .int .i64 an], .int .i64 port] w fun e w' => e = .returned (.bool true) ∧ Below w.heap.size w w' := by
  have hp0 : -9223372036854775808 ≤ port := by simp [Lit.wf, IntKind.min, IntKind.max, IntKind.bits, IntKind.signed] at hw; omega
  have hp1 : port ≤ 9223372036854775807 := by simp [Lit.wf, IntKind.min, IntKind.max, IntKind.bits, IntKind.signed] at hw; omega
  have k1 : okB ⟨1, 0, 0, 0⟩ = true := by decide +kernel
  have k2 : okB ⟨2, 0, 0, 0⟩ = true := by decide +kernel
  have r1 : runsB ⟨1, 0, 0, 0⟩ = true := by decide +kernel
  have g1 : ∀ W, Hid (Calls Try.prog 17 #[.agg (St.cells ⟨1, 0, 0, 0⟩), .bool false] W fun e w' => e = .returned (triple ⟨2, 0, 0, 0⟩ true 0) ∧ Below W.heap.size W w') :=
    fun W => block_ ⟨1, 0, 0, 0⟩ false W
  have g2 : ∀ q W, 0 ≤ q → q < 32 → Hid (Calls Try.prog 10 #[.agg (St.cells ⟨2, 0, 0, 0⟩), .int .i64 q, .bool false] W fun e w' => e = .returned (triple ⟨1, 0, 0, 0⟩ true 0) ∧ Below W.heap.size W w') :=
    fun q W h0 h1 => event_wakes ⟨2, 0, 0, 0⟩ q false k2 ⟨h0, h1⟩ (by decide) (.inr ⟨rfl, rfl⟩) W
  have g3 : ∀ W, Hid (Calls Try.prog 22 #[.agg (St.cells ⟨1, 0, 0, 0⟩)] W fun e w' => e = .returned (.bool true) ∧ Below W.heap.size W w') :=
    fun W => runs_ 1 0 0 0 W
  have g4 : ∀ q W, 0 ≤ q → q < 32 → Hid (Calls Try.prog 10 #[.agg (St.cells ⟨2, 0, 0, 0⟩), .int .i64 q, .bool true] W fun e w' => e = .returned (triple ⟨2, 0, 0, 0⟩ false 0) ∧ Below W.heap.size W w') :=
    fun q W h0 h1 => event_stays ⟨2, 0, 0, 0⟩ q true k2 ⟨h0, h1⟩ (by decide) (by rintro (⟨h, _⟩ | ⟨_, h⟩) <;> cases h) W
  have hpoll := fun W => poll_ ⟨1, 0, 0, 0⟩ ap au an ad W
  by_cases hbad : plBad ap au = true
  · refine ends_bad ap ad au an port hp0 hp1 w g1 g2 g3 g4 (fun W => Lib.hid ?_)
    obtain ⟨h1, h2⟩ := pollR_bad ⟨1, 0, 0, 0⟩ ap au an ad k1 r1 hbad
    have := hpoll W
    rw [tnB_is, h1, h2] at this
    exact this
  · by_cases hnow : plNow ap au an ad = true
    · refine ends_now ap ad au an port hp0 hp1 w g1 g2 g3 g4 (fun W => Lib.hid ?_)
      obtain ⟨h1, h2⟩ := pollR_now ⟨1, 0, 0, 0⟩ ap au an ad k1 r1 hbad hnow
      have := hpoll W
      rw [tnB_is, h1, h2, neB_self] at this
      exact this
    · obtain ⟨h1, h2⟩ := pollR_polls ⟨1, 0, 0, 0⟩ ap au an ad k1 r1 hbad hnow
      have g5 : ∀ W, Hid (Calls Try.prog 15 #[.agg (St.cells ⟨1, 0, 0, 0⟩), .int .u32 ap, .int .i64 au, .int .i64 an, .int .u32 ad] W fun e w' => e = .returned (triple ⟨3, 0, ap, au⟩ true 0) ∧ Below W.heap.size W w') := by
        intro W
        have := hpoll W
        rw [tnB_is, h1, h2] at this
        exact this
      have hbad' : ¬ ((ap = 0 ∧ au = 0) ∨ au < 0 ∨ 1125899906842624 < au) := by
        intro h; apply hbad; simp only [plBad, Bool.or_eq_true, Bool.and_eq_true, beq_iff_eq, decide_eq_true_eq]; omega
      have kp : okB ⟨3, 0, ap, au⟩ = true := decide_eq_true (by simp [okP]; omega)
      have g6 : ∀ W, Hid (Calls Try.prog 22 #[.agg (St.cells ⟨3, 0, ap, au⟩)] W fun e w' => e = .returned (.bool false) ∧ Below W.heap.size W w') :=
        fun W => runs_ 3 0 ap au W
      have gT : ∀ (k : Nat) W, k < 32 → hasB ap k = true → Hid (Calls Try.prog 10 #[.agg (St.cells ⟨3, 0, ap, au⟩), .int .i64 k, .bool true] W fun e w' => e = .returned (triple ⟨1, 0, 0, 0⟩ true 0) ∧ Below W.heap.size W w') :=
        fun k W hk hh => event_wakes ⟨3, 0, ap, au⟩ k true kp ⟨by omega, by omega⟩ hap (.inl ⟨rfl, .inl hh⟩) W
      have gF : ∀ (k : Nat) W, k < 32 → hasB ap k = false → Hid (Calls Try.prog 10 #[.agg (St.cells ⟨3, 0, ap, au⟩), .int .i64 k, .bool true] W fun e w' => e = .returned (triple ⟨3, 0, ap, au⟩ false 0) ∧ Below W.heap.size W w') :=
        fun k W hk hh => event_stays ⟨3, 0, ap, au⟩ k true kp ⟨by omega, by omega⟩ hap (by rintro (⟨_, h | h⟩ | ⟨h, _⟩) <;> first | (rw [hh] at h; cases h) | cases h) W
      have gN : ∀ (k : Nat) W, k < 32 → Hid (Calls Try.prog 10 #[.agg (St.cells ⟨3, 0, ap, au⟩), .int .i64 k, .bool false] W fun e w' => e = .returned (triple ⟨1, 0, 0, 0⟩ true 0) ∧ Below W.heap.size W w') :=
        fun k W hk => event_wakes ⟨3, 0, ap, au⟩ k false kp ⟨by omega, by omega⟩ hap (.inl ⟨rfl, .inr rfl⟩) W
      by_cases hz : au = 0
      · refine ends_zero ap ad au an port hp0 hp1 hap.1 hap.2 w g1 g2 g3 g4 g5 g6 gT gF gN (by simp [hz]) (fun W => Lib.hid ?_) (fun W => Lib.hid ?_)
        · have := due_ ⟨3, 0, ap, au⟩ W
          rw [kp, show (true && au != 0) = false from by simp [hz]] at this
          exact this
        · exact time_stays ⟨3, 0, ap, au⟩ _ kp (by simp only; omega) W
      · have hlt : an < au := by
          rcases Int.lt_or_le an au with h | h
          · exact h
          · exfalso; apply hnow; simp only [plNow, Bool.or_eq_true, Bool.and_eq_true, bne_iff_ne, decide_eq_true_eq]; exact .inr ⟨hz, h⟩
        refine ends_late ap ad au an port hp0 hp1 hap.1 hap.2 w g1 g2 g3 g4 g5 g6 gT gF gN (by omega) (by omega) hlt (fun W => Lib.hid ?_) (fun W => Lib.hid ?_) (fun W => Lib.hid ?_)
        · have := due_ ⟨3, 0, ap, au⟩ W
          rw [kp, show (true && au != 0) = true from by simp [hz]] at this
          exact this
        · exact time_stays ⟨3, 0, ap, au⟩ _ kp (by simp only; omega) W
        · exact time_wakes ⟨3, 0, ap, au⟩ _ kp (by simp only; omega) W

end Go.Proofs.Ytjppkcdonddohaa.A
