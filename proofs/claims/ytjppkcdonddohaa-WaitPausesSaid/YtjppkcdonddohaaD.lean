/-
  Walks of the wait layer's reference: which stances may be, run; ports; Poll, Event, Time.
-/
import Derived.Test.YtjppkcdonddohaaC
import Derived.Laws.BitsLemmas
set_option linter.unusedVariables false
set_option linter.unusedSimpArgs false
namespace Go.Proofs.Ytjppkcdonddohaa.A
open Go.RowKit

theorem wraps_u32 (n : Int) (h₀ : 0 ≤ n) (h₁ : n < 2 ^ 32) : IntKind.u32.wrap n = n := by
  simp [IntKind.wrap, IntKind.bits, IntKind.signed]; omega

theorem div_pow_lt (p : Int) (h0 : 0 ≤ p) (h1 : p < 4294967296) (n : Nat) : 0 ≤ p / 2 ^ n ∧ p / 2 ^ n < 4294967296 := by
  have hp : (0 : Int) < 2 ^ n := Int.pow_pos (by decide)
  refine ⟨Int.ediv_nonneg h0 (by omega), ?_⟩
  exact Int.lt_of_le_of_lt (Int.ediv_le_self _ h0) h1
theorem div_pow_succ (p : Int) (n : Nat) : p / 2 ^ n / 2 = p / 2 ^ (n + 1) := by
  rw [Int.ediv_ediv_of_nonneg (Int.pow_nonneg (by decide)), Int.pow_succ]

theorem hasB_mod (p : Int) (h0 : 0 ≤ p) (h1 : p < 4294967296) (n : Nat) : hasB p n = (p / 2 ^ n % 2 == 1) := by
  obtain ⟨a, b⟩ := div_pow_lt p h0 h1 n
  have := bits_mask .u32 32 (by decide) wraps_u32 1 (by decide) (p / 2 ^ n) a (by simpa using b)
  simp only [Int.pow_one] at this
  have e : ((2 : Int) - 1) = 1 := rfl
  rw [e] at this
  simp only [hasB, Int.toNat_natCast, this]

theorem hasB_test (a n : Nat) (h : a < 4294967296) : hasB (a : Int) (n : Int) = a.testBit n := by
  rw [hasB_mod a (by omega) (by omega)]
  rw [Nat.testBit_eq_decide_div_mod_eq]
  have : ((a : Int) / 2 ^ n % 2) = ((a / 2 ^ n % 2 : Nat) : Int) := by simp
  rw [this]
  rw [Bool.eq_iff_iff]
  simp only [beq_iff_eq, decide_eq_true_eq]
  omega

theorem any_bits (a b : Int) (ha : 0 ≤ a ∧ a < 4294967296) (hb : 0 ≤ b ∧ b < 4294967296) :
    (bits BinOp.and IntKind.u32 a b != 0) = true ↔ ∃ i : Nat, i < 32 ∧ hasB a i = true ∧ hasB b i = true := by
  obtain ⟨x, rfl⟩ := Int.eq_ofNat_of_zero_le ha.1
  obtain ⟨y, rfl⟩ := Int.eq_ofNat_of_zero_le hb.1
  have hx : x < 4294967296 := by have := ha.2; omega
  have hy : y < 4294967296 := by have := hb.2; omega
  rw [(bits_nat .u32 32 (by decide) wraps_u32 x y (by simpa using hx) (by simpa using hy)).1]
  simp only [hasB_test _ _ hx, hasB_test _ _ hy]
  constructor
  · intro h
    have h' : x &&& y ≠ 0 := by
      intro e; rw [e] at h; simp at h
    obtain ⟨i, hi⟩ := Nat.exists_testBit_of_ne_zero h'
    rw [Nat.testBit_and, Bool.and_eq_true] at hi
    refine ⟨i, ?_, hi.1, hi.2⟩
    rcases Nat.lt_or_ge i 32 with h | h
    · exact h
    · have : x.testBit i = false := Nat.testBit_lt_two_pow (Nat.lt_of_lt_of_le hx (by simpa using Nat.pow_le_pow_right (n := 2) (by decide) h))
      rw [this] at hi; exact absurd hi.1 (by simp)
  · rintro ⟨i, -, h1, h2⟩
    have hne : x &&& y ≠ 0 := by
      intro e
      have : (x &&& y).testBit i = true := by rw [Nat.testBit_and, h1, h2]; rfl
      rw [e] at this; simp at this
    rw [bne_iff_ne]; intro e; exact hne (by exact_mod_cast e)

set_option maxHeartbeats 400000 in
theorem has_ (p : Int) (n : Nat) (h0 : 0 ≤ p) (h1 : p < 4294967296) (hn : n ≤ 32) (w : World) :
    Calls Try.prog 30 #[.int .u32 p, .int .i64 n] w fun e w' => e = .returned (.bool (hasB p n)) ∧ w = w' := by
  have HM := Lib.hid (hasB_mod p h0 h1 n)
  go_enter Try.func30, Try.ntmps30
  go_wp2
  go_loop [0, 5] (fun q i => ∃ k : Nat, k ≤ n ∧ q = .int .u32 (p / 2 ^ k) ∧ i = .int .i64 k) (fun _ i => n - (intOf i).toNat)
  case atStart => exact ⟨0, Nat.zero_le _, by simp, rfl⟩
  case round =>
    obtain ⟨k, hk, rfl, rfl⟩ := hrel
    obtain ⟨b0, b1⟩ := div_pow_lt p h0 h1 k
    by_cases hlt : k < n
    · go_wp2
      go_round
      case rel => exact ⟨k + 1, by omega, by rw [← div_pow_succ], by go_num⟩
      case measure => simp [intOf]; omega
    · have : k = n := by omega
      subst this
      go_wp2
      go_ret
      exact ⟨ret_bool HM.out.symm, rfl⟩

/-- the two sets have a port in common -/
def bothB (a b : Int) : Bool := bits BinOp.and IntKind.u32 a b != 0

set_option maxHeartbeats 800000 in
theorem both_ (a b : Int) (ha : 0 ≤ a ∧ a < 4294967296) (hb : 0 ≤ b ∧ b < 4294967296) (w : World) :
    Calls Try.prog 33 #[.int .u32 a, .int .u32 b] w fun e w' => e = .returned (.bool (bothB a b)) ∧ w = w' := by
  have HA := Lib.hid (any_bits a b ha hb)
  have hna := fun k h => Lib.hid (has_ a k ha.1 ha.2 h)
  have hnb := fun k h => Lib.hid (has_ b k hb.1 hb.2 h)
  clear ha hb
  go_enter Try.func33, Try.ntmps33
  go_wp2
  go_loop [5] (fun i => ∃ k : Nat, k ≤ 32 ∧ i = .int .i64 k ∧ Hid (∀ j : Nat, j < k → ¬ (hasB a j = true ∧ hasB b j = true))) (fun i => 32 - (intOf i).toNat)
  case atStart => exact ⟨0, Nat.zero_le _, rfl, fun j h => by omega⟩
  case round =>
    obtain ⟨k, hk, rfl, hno⟩ := hrel
    by_cases hlt : k < 32
    · cases ea : hasB a k with
      | false =>
        have hcl : Hid (∀ j : Nat, j < k + 1 → ¬ (hasB a j = true ∧ hasB b j = true)) := by
          intro j hj h
          by_cases e : j = k
          · subst e; rw [ea] at h; exact absurd h.1 (by simp)
          · exact hno j (by omega) h
        go_wp2_with (go_at_call 30; refine ((hna k hk).out _).mono ?_; rintro e w' ⟨rfl, rfl⟩)
        go_round
        case rel => exact ⟨k + 1, by omega, by go_num, hcl⟩
        case measure => simp [intOf]; omega
      | true =>
        cases eb : hasB b k with
        | false =>
          have hcl : Hid (∀ j : Nat, j < k + 1 → ¬ (hasB a j = true ∧ hasB b j = true)) := by
            intro j hj h
            by_cases e : j = k
            · subst e; rw [eb] at h; exact absurd h.2 (by simp)
            · exact hno j (by omega) h
          go_wp2_with fail
          refine ((hna k hk).out _).mono ?_
          rintro e w' ⟨rfl, rfl⟩
          go_wp2_with fail
          refine ((hnb k hk).out _).mono ?_
          rintro e w' ⟨rfl, rfl⟩
          go_wp2_with fail
          go_round
          case rel => exact ⟨k + 1, by omega, by go_num, hcl⟩
          case measure => simp [intOf]; omega
        | true =>
          have hcl : Hid (bothB a b = true) := HA.out.mpr ⟨k, hlt, ea, eb⟩
          go_wp2_with fail
          refine ((hna k hk).out _).mono ?_
          rintro e w' ⟨rfl, rfl⟩
          go_wp2_with fail
          refine ((hnb k hk).out _).mono ?_
          rintro e w' ⟨rfl, rfl⟩
          go_wp2_with fail
          go_ret
          exact ⟨ret_bool hcl.out.symm, rfl⟩
    · have : k = 32 := by omega
      subst this
      have hcl : Hid (bothB a b = false) := by
        refine Bool.eq_false_iff.mpr (fun h => ?_)
        obtain ⟨i, hi, h1, h2⟩ := HA.out.mp h
        exact hno.out i hi ⟨h1, h2⟩
      go_wp2
      go_ret
      exact ⟨ret_bool hcl.out.symm, rfl⟩

end Go.Proofs.Ytjppkcdonddohaa.A
