/-
  The abstract machine: slice expressions, lengths.
-/
import Derived.Test.YtecfnddaniphdaaGreatDoorX6
set_option linter.unusedVariables false
set_option linter.unusedSimpArgs false
namespace Go.Proofs.YtecfnddaniphdaaGreatDoor.AM
variable {P : Program}

inductive OV (M : Mu) : Option Value → Option Value → Prop
  | none : OV M none none
  | some {v v' : Value} (h : VR M v v') : OV M (some v) (some v')
theorem boundA_some {d top m : Nat} {x : Option Value} (h : boundA d top x = some m) : (x = none ∧ m = d) ∨ ∃ k n, x = some (.int k n) ∧ 0 ≤ n ∧ n ≤ top ∧ m = n.toNat := by
  unfold boundA at h
  split at h
  · simp only [Option.some.injEq] at h; exact .inl ⟨rfl, h.symm⟩
  · split at h
    · rename_i k n hn; simp only [Option.some.injEq] at h; exact .inr ⟨_, _, rfl, hn.1, hn.2, h.symm⟩
    · cases h
  · cases h
theorem run_sliceBound {w : World} {k : IntKind} {n : Int} {y : Nat} (code : BoundsCode) (h0 : 0 ≤ n) (h1 : n ≤ y) : (Instr.sliceBound (.int k n) y code).run P w = .ok n.toNat w := by
  simp [Instr.sliceBound, asIntOf, h0, h1]
/-- bounds, where the capacity is no less than is known (the max that is not given is the capacity itself) -/
theorem bounds_sound {M : Mu} {w : World} {isS : Bool} {len cap cap' l h m : Nat} {lo hi mx lo' hi' mx' : Option Value} (hlo : OV M lo lo') (hhi : OV M hi hi') (hmx : OV M mx mx') (hc : cap ≤ cap') (hl : len ≤ cap)
    (hb : boundsA len cap lo hi mx = some (l, h, m)) : ∃ m', (Instr.sliceBounds isS len cap' lo' hi' mx').run P w = .ok (l, h, m') w ∧ ((mx = none ∧ m' = cap' ∧ m = cap) ∨ (mx ≠ none ∧ m' = m)) ∧ l ≤ h ∧ h ≤ m ∧ m ≤ cap := by
  unfold boundsA at hb
  cases hcd : (hi.isNone && mx.isSome) with
  | true => rw [hcd] at hb; cases hb
  | false =>
    rw [hcd] at hb
    simp only [cond] at hb
    split at hb
    · cases hb
    · rename_i m0 hm
      split at hb
      · cases hb
      · rename_i h0 hh
        split at hb
        · cases hb
        · rename_i l0 hl0
          simp only [Option.some.injEq, Prod.mk.injEq] at hb
          obtain ⟨rfl, rfl, rfl⟩ := hb
          have hL : (lo' = none ∧ l0 = 0) ∨ ∃ k n, lo' = some (.int k n) ∧ 0 ≤ n ∧ n ≤ (h0 : Int) ∧ l0 = n.toNat := by
            rcases boundA_some hl0 with ⟨rfl, rfl⟩ | ⟨k, n, rfl, hn0, hn1, rfl⟩
            · cases hlo; exact .inl ⟨rfl, rfl⟩
            · cases hlo with
              | some hv => cases hv.int_inv; exact .inr ⟨_, _, rfl, hn0, hn1, rfl⟩
          have hH : (hi = none ∧ hi' = none ∧ h0 = len) ∨ ∃ k n, hi' = some (.int k n) ∧ 0 ≤ n ∧ n ≤ (m0 : Int) ∧ h0 = n.toNat := by
            rcases boundA_some hh with ⟨rfl, rfl⟩ | ⟨k, n, rfl, hn0, hn1, rfl⟩
            · cases hhi; exact .inl ⟨rfl, rfl, rfl⟩
            · cases hhi with
              | some hv => cases hv.int_inv; exact .inr ⟨_, _, rfl, hn0, hn1, rfl⟩
          have hl1 : l0 ≤ h0 := by rcases hL with ⟨_, rfl⟩ | ⟨k, n, _, hn0, hn1, rfl⟩ <;> omega
          rcases boundA_some hm with ⟨rfl, rfl⟩ | ⟨k, n, rfl, hn0, hn1, rfl⟩
          · cases hmx
            refine ⟨cap', ?_, .inl ⟨rfl, rfl, rfl⟩, hl1, by rcases hH with ⟨_, _, rfl⟩ | ⟨_, n, _, hn0, hn1, rfl⟩ <;> omega, Nat.le_refl _⟩
            rcases hH with ⟨_, rfl, rfl⟩ | ⟨k1, n1, rfl, hn0, hn1, rfl⟩ <;> rcases hL with ⟨rfl, rfl⟩ | ⟨k2, n2, rfl, hn2, hn3, rfl⟩
            · simp only [Instr.sliceBounds, Sem.run_bind, Sem.run_pure, Result.andThen_ok]
            · simp only [Instr.sliceBounds, Sem.run_bind, Sem.run_pure, Result.andThen_ok]
              rw [run_sliceBound _ hn2 hn3]
              simp only [Result.andThen_ok, Sem.run_pure]
            · simp only [Instr.sliceBounds, Sem.run_bind, Sem.run_pure, Result.andThen_ok]
              rw [run_sliceBound _ hn0 (by omega)]
              simp only [Result.andThen_ok, Sem.run_bind, Sem.run_pure]
            · simp only [Instr.sliceBounds, Sem.run_bind, Sem.run_pure, Result.andThen_ok]
              rw [run_sliceBound _ hn0 (by omega)]
              simp only [Result.andThen_ok, Sem.run_bind, Sem.run_pure]
              rw [run_sliceBound _ hn2 hn3]
              simp only [Result.andThen_ok, Sem.run_pure]
          · cases hmx with
            | some hv =>
              cases hv.int_inv
              rcases hH with ⟨rfl, _, _⟩ | ⟨k1, n1, rfl, hn2, hn3, rfl⟩
              · cases hcd
              · refine ⟨n.toNat, ?_, .inr ⟨by simp, rfl⟩, hl1, by clear hL; omega, by clear hL; omega⟩
                rcases hL with ⟨rfl, rfl⟩ | ⟨k2, n2, rfl, hn4, hn5, rfl⟩
                · simp only [Instr.sliceBounds, Sem.run_bind]
                  rw [run_sliceBound _ hn0 (by omega)]
                  simp only [Result.andThen_ok, Sem.run_bind, Sem.run_pure]
                  rw [run_sliceBound _ hn2 hn3]
                  simp only [Result.andThen_ok, Sem.run_bind, Sem.run_pure]
                · simp only [Instr.sliceBounds, Sem.run_bind]
                  rw [run_sliceBound _ hn0 (by omega)]
                  simp only [Result.andThen_ok, Sem.run_bind, Sem.run_pure]
                  rw [run_sliceBound _ hn2 hn3]
                  simp only [Result.andThen_ok, Sem.run_bind, Sem.run_pure]
                  rw [run_sliceBound _ hn4 hn5]
                  simp only [Result.andThen_ok, Sem.run_pure]
theorem cutA_sound {M : Mu} {size l h m : Nat} {a a' : Option Addr} {v : Value} (hc : cutA size a (l, h, m) = some v) (ha : ∀ b o, a = some ⟨b, o, none⟩ → ∃ r, a' = some ⟨r, o, none⟩ ∧ M.m b r) (hn : a = none → a' = none) :
    VR M v (.slice (if m = l then a' else a'.map (·.add (l * size))) (h - l) (m - l)) := by
  unfold cutA at hc
  dsimp only at hc
  cases hm : Nat.blt m UNK with
  | false => rw [hm] at hc; cases hc
  | true =>
    rw [hm] at hc
    simp only [cond] at hc
    have hlt : m < UNK := Nat.blt_eq.mp hm
    split at hc
    · simp only [Option.some.injEq] at hc
      subst hc
      rw [hn rfl]
      simp only [Option.map_none, ite_self]
      exact .nilslice _ _
    · rename_i b o
      simp only [Option.some.injEq] at hc
      subst hc
      obtain ⟨r, rfl, hr⟩ := ha b o rfl
      cases hb : Nat.beq m l with
      | true =>
        have e := Nat.eq_of_beq_eq_true hb
        rw [if_pos e]
        exact .slice _ _ _ hr (by omega)
      | false =>
        have e : ¬ m = l := fun e => by subst e; simp at hb
        rw [if_neg e]
        simp only [Option.map_some, add_plain]
        exact .slice _ _ _ hr (by omega)
    · cases hc
theorem top_le {M : Mu} {s : St} {w : World} (H : HR M s.h w) {b r C z l n c size : Nat} (hr : M.m b r) (hC : M.c b C z) (hn : n ≤ c) (hl : l + c = C) (hz : 0 < z) : n ≤ topA s size n (some ⟨b, l * z, none⟩) ∧ topA s size n (some ⟨b, l * z, none⟩) ≤ c := by
  by_cases h0 : l * z = 0
  · have hl0 : l = 0 := by rcases Nat.mul_eq_zero.1 h0 with h | h <;> omega
    subst hl0
    rw [Nat.zero_mul]
    simp only [topA]
    split
    · rename_i cs z' hb
      cases hcd : (Nat.beq z' size && Nat.blt 0 z') with
      | false => simp only [cond]; exact ⟨Nat.le_refl _, hn⟩
      | true =>
        simp only [cond]
        obtain ⟨o', h1, h2⟩ := H.at_ hb hr
        cases o' with
        | cells cur e f =>
          obtain ⟨_, h3, h4, C', h5, h6⟩ := h2
          obtain ⟨rfl, rfl⟩ := H.fc hC h5
          have h7 := h3.le_take
          have h8 : cs.length ≤ C * z := by rw [← h6]; simpa using h7
          have h9 : cs.length / z ≤ C := Nat.div_le_of_le_mul (by rw [Nat.mul_comm]; exact h8)
          omega
        | _ => exact h2.elim
    · exact ⟨Nat.le_refl _, hn⟩
  · have e : topA s size n (some ⟨b, l * z, none⟩) = n := by
      obtain ⟨k, hk⟩ : ∃ k, l * z = k + 1 := ⟨l * z - 1, by omega⟩
      rw [hk]; rfl
    rw [e]
    exact ⟨Nat.le_refl _, hn⟩
end Go.Proofs.YtecfnddaniphdaaGreatDoor.AM
