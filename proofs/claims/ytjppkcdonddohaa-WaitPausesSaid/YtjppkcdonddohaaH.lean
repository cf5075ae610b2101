/-
  The wait layer's laws in plain numbers: what its functions answer answers as the statements say.
-/
import Derived.Test.YtjppkcdonddohaaG
set_option linter.unusedVariables false
set_option linter.unusedSimpArgs false
namespace Go.Proofs.Ytjppkcdonddohaa.A
open Go.RowKit

theorem tn_fail {s s' : St} {r : Int} (h : tnE s r ≠ 0) : tnS s s' r = St.zero ∧ tnB s s' r = false := by
  cases hk : okB s with
  | false => exact ⟨tnS_bad hk, by simp only [tnB]; rw [if_pos hk]⟩
  | true =>
    rw [tnE_ok hk] at h
    exact ⟨tnS_err h, by simp only [tnB]; rw [if_pos h]; simp⟩
theorem tn_ok {s : St} {r : Int} (h : tnE s r = 0) : okB s = true ∧ r = 0 := by
  cases hk : okB s with
  | false => rw [tnE_bad hk] at h; exact absurd h (by decide)
  | true => exact ⟨rfl, by rw [tnE_ok hk] at h; exact h⟩
def neB (s s' : St) : Bool := s'.st != s.st || s'.pa != s.pa || s'.po != s.po || s'.un != s.un
theorem neB_self (s : St) : neB s s = false := by simp [neB]
theorem neB_iff {s s' : St} : neB s s' = false ↔ s' = s := by
  obtain ⟨a, b, c, d⟩ := s
  obtain ⟨a', b', c', d'⟩ := s'
  simp only [neB, Bool.or_eq_false_iff, bne_eq_false_iff_eq, St.mk.injEq]
  constructor
  · rintro ⟨⟨⟨h1, h2⟩, h3⟩, h4⟩; exact ⟨h1, h2, h3, h4⟩
  · rintro ⟨h1, h2, h3, h4⟩; exact ⟨⟨⟨h1, h2⟩, h3⟩, h4⟩
theorem tnB_ok {s s' : St} (h : okB s = true) : tnB s s' 0 = neB s s' := by simp [tnB, h, neB]
theorem okB_ready {s : St} (h : okB s = true) : okB ⟨1, s.pa, 0, 0⟩ = true := by
  have hk : okP s := of_decide_eq_true h
  simp only [okP] at hk
  exact decide_eq_true (by simp only [okP]; omega)
theorem evR_ok {port : Int} (h : evR port = 0) : 0 ≤ port ∧ port < 32 := by
  simp only [evR] at h
  by_cases hp : 0 ≤ port ∧ port < 32
  · exact hp
  · rw [if_pos hp] at h; cases h
theorem evR_in {port : Int} (h : 0 ≤ port ∧ port < 32) : evR port = 0 := by
  simp only [evR]; rw [if_neg (fun k => k h)]
theorem evS_cases (s : St) (port : Int) (m : Bool) : evS s port m = s ∨ evS s port m = ⟨1, s.pa, 0, 0⟩ := by
  simp only [evS]; split
  · exact .inl rfl
  · split
    · exact .inr rfl
    · exact .inl rfl
theorem evS_again (s : St) (port : Int) (m : Bool) : evS (evS s port m) port m = evS s port m := by
  rcases evS_cases s port m with h | h
  · rw [h, h]
  · rw [h]; simp only [evS]; split
    · rfl
    · rw [if_neg (by rintro (⟨h, _⟩ | ⟨h, _⟩) <;> exact absurd h (by decide))]
theorem evS_ok {s : St} (h : okB s = true) (port : Int) (m : Bool) : okB (evS s port m) = true := by
  rcases evS_cases s port m with e | e <;> rw [e]
  · exact h
  · exact okB_ready h
theorem tiS_cases (s : St) (now : Int) : tiS s now = s ∨ tiS s now = ⟨1, s.pa, 0, 0⟩ := by
  simp only [tiS]; split
  · exact .inr rfl
  · exact .inl rfl
theorem tiS_again (s : St) (now : Int) : tiS (tiS s now) now = tiS s now := by
  rcases tiS_cases s now with h | h
  · rw [h, h]
  · rw [h]; simp only [tiS]; rw [if_neg (fun h => absurd h.1 (by decide))]
theorem tiS_ok {s : St} (h : okB s = true) (now : Int) : okB (tiS s now) = true := by
  rcases tiS_cases s now with e | e <;> rw [e]
  · exact h
  · exact okB_ready h
theorem evS_po {s : St} (h : 0 ≤ s.po ∧ s.po < 4294967296) (port : Int) (m : Bool) : 0 ≤ (evS s port m).po ∧ (evS s port m).po < 4294967296 := by
  rcases evS_cases s port m with e | e <;> rw [e]
  · exact h
  · exact ⟨by simp, by simp⟩
end Go.Proofs.Ytjppkcdonddohaa.A
