/-
  The abstract machine: slice expressions; append, copy, clear.
-/
import Derived.Test.YtecfnddaniphdaaGreatDoorX7
set_option linter.unusedVariables false
set_option linter.unusedSimpArgs false
namespace Go.Proofs.YtecfnddaniphdaaGreatDoor.AM
variable {P : Program}

theorem cutU_sound {M : Mu} {s : St} {w : World} (H : HR M s.h w) {b r C z l0 c size len l h m0 : Nat} {v : Value} (hr : M.m b r) (hC : M.c b C z) (hlc : l0 + c = C) (hh : h ≤ c) (hlh : l ≤ h)
    (hc : cutU s size len b (l0 * z) (l, h, m0) = some v) : VR M v (.slice (if c = l then some ⟨r, l0 * z, none⟩ else some ⟨r, l0 * z + l * size, none⟩) (h - l) (c - l)) := by
  unfold cutU at hc
  dsimp only at hc
  cases hl : Nat.beq l 0 with
  | true =>
    have e := Nat.eq_of_beq_eq_true hl
    subst e
    simp only [Nat.beq_refl, cond, Option.some.injEq, Nat.beq] at hc
    subst hc
    simp only [Nat.zero_mul, Nat.add_zero, ite_self, Nat.sub_zero]
    exact .grown l0 h c hr hC hh hlc
  | false =>
    rw [hl] at hc
    simp only [cond] at hc
    have hne : l ≠ 0 := fun e => by subst e; cases hl
    cases hlt : Nat.blt l h with
    | true =>
      rw [hlt] at hc
      simp only [cond] at hc
      have hlt' := Nat.blt_eq.mp hlt
      split at hc
      · rename_i cs z' hb
        cases hz : Nat.beq z' size with
        | false => rw [hz] at hc; cases hc
        | true =>
          rw [hz] at hc
          simp only [cond, Option.some.injEq] at hc
          subst hc
          have e := Nat.eq_of_beq_eq_true hz
          subst e
          obtain ⟨o', h1, h2⟩ := H.at_ hb hr
          cases o' with
          | cells cur e f =>
            obtain ⟨_, _, _, C', h5, _⟩ := h2
            obtain ⟨_, rfl⟩ := H.fc hC h5
            rw [if_neg (by omega), ← Nat.add_mul]
            exact .grown (l0 + l) (h - l) (c - l) hr hC (by omega) (by omega)
          | _ => exact h2.elim
      · cases hc
    | false =>
      rw [hlt] at hc
      simp only [cond, Option.some.injEq] at hc
      subst hc
      have : ¬ l < h := fun h => by rw [Nat.blt_eq.mpr h] at hlt; cases hlt
      have e : h - l = 0 := by omega
      rw [e]
      split
      · exact .empty _ _ _ hr
      · exact .empty _ _ _ hr
theorem VR.known {M : Mu} {a : Option Addr} {n c : Nat} {v' : Value} (h : VR M (.slice a n c) v') (hc : c < UNK) : ∃ a', v' = .slice a' n c ∧ (∀ b o, a = some ⟨b, o, none⟩ → ∃ r, a' = some ⟨r, o, none⟩ ∧ M.m b r) ∧ (a = none → a' = none) ∧ (∀ x, a = some x → x.spot = none) := by
  cases h with
  | nilslice n c => exact ⟨_, rfl, (fun b o h => by cases h), (fun _ => rfl), (fun x h => by cases h)⟩
  | slice o n c h hc => exact ⟨_, rfl, (fun b o h' => by cases h'; exact ⟨_, rfl, h⟩), (fun h => by cases h), (fun x h => by cases h; rfl)⟩
  | grown l n c h hc' hn hC => omega
  | empty o o' c h => unfold UNK UNE at hc; omega
theorem VR.unk {M : Mu} {b o n : Nat} {v' : Value} (h : VR M (.slice (some ⟨b, o, none⟩) n UNK) v') : ∃ r C z l c, v' = .slice (some ⟨r, l * z, none⟩) n c ∧ o = l * z ∧ M.m b r ∧ M.c b C z ∧ n ≤ c ∧ l + c = C := by
  generalize hu : UNK = u at h
  generalize hx : (Value.slice (some ⟨b, o, none⟩) n u) = x at h
  cases h with
  | slice o n c h hc => cases hx; omega
  | grown l n c h hc hn hC => cases hx; exact ⟨_, _, _, _, _, rfl, rfl, h, hc, hn, hC⟩
  | empty o o' c h => cases hx; unfold UNK UNE at hu; omega
  | _ => cases hx
/-- the lengths of slices are no greater than their capacities: what is asked of a slice that is cut -/
theorem sliceA_sound {cf : Cfg} (C : CfgOk P cf) {M : Mu} {s : St} {w : World} (H : HR M s.h w) {t : TypeId} {x x' v : Value} {lo hi mx lo' hi' mx' : Option Value} (hx : VR M x x') (hlo : OV M lo lo') (hhi : OV M hi hi') (hmx : OV M mx mx')
    (hv : sliceA cf s t x lo hi mx = some v) : ∃ v', (Instr.sliceAt t x' lo' hi' mx').run P w = .ok v' w ∧ VR M v v' := by
  unfold sliceA at hv
  split at hv
  case h_3 => cases hv
  case h_1 =>
    rename_i e a len cap hk
    split at hv
    case h_2 => cases hv
    rename_i te ht
    have hu : P.underlying t = some (.slice e) := C.kd hk
    unfold sliceS at hv
    cases hcap : Nat.blt cap UNK with
    | true =>
      rw [hcap] at hv
      simp only [cond] at hv
      have hlt := Nat.blt_eq.mp hcap
      obtain ⟨a', rfl, h1, h2, h3⟩ := hx.known hlt
      cases hle : Nat.ble len cap with
      | false => rw [hle] at hv; cases hv
      | true =>
        rw [hle] at hv
        simp only [cond, Option.bind_eq_some_iff] at hv
        obtain ⟨⟨l, h, m⟩, hb, hcut⟩ := hv
        obtain ⟨m', h4, h5, h6, h7, h8⟩ := bounds_sound (P := P) (w := w) (isS := true) hlo hhi hmx (Nat.le_refl cap) (Nat.le_of_ble_eq_true hle) hb
        have hm : m' = m := by rcases h5 with ⟨_, rfl, rfl⟩ | ⟨_, rfl⟩ <;> rfl
        subst hm
        refine ⟨_, ?_, cutA_sound hcut h1 h2⟩
        simp [Instr.sliceAt, run_underlying hu, Instr.slice, h4, (C.ty ht).sizeOf]
    | false =>
      rw [hcap] at hv
      simp only [cond] at hv
      cases hunk : Nat.beq cap UNK with
      | false => rw [hunk] at hv; cases hv
      | true =>
        rw [hunk] at hv
        simp only [cond] at hv
        have e1 := Nat.eq_of_beq_eq_true hunk
        subst e1
        split at hv
        case h_2 => cases hv
        rename_i b o
        obtain ⟨r, Cc, z, l0, c, rfl, rfl, hr, hC, hn, hlc⟩ := hx.unk
        have hz : 0 < z ∨ l0 * z = 0 := by
          rcases Nat.eq_zero_or_pos z with h | h
          · exact .inr (by rw [h]; simp)
          · exact .inl h
        have htop : len ≤ topA s te.size len (some ⟨b, l0 * z, none⟩) ∧ topA s te.size len (some ⟨b, l0 * z, none⟩) ≤ c := by
          rcases Nat.eq_zero_or_pos z with h0 | h0
          · subst h0
            have : topA s te.size len (some ⟨b, l0 * 0, none⟩) = len := by
              rw [Nat.mul_zero]
              simp only [topA]
              split
              · rename_i cs z' hb
                obtain ⟨o', h1, h2⟩ := H.at_ hb hr
                cases o' with
                | cells cur e f =>
                  obtain ⟨_, h3, h4, C', h5, h6⟩ := h2
                  obtain ⟨_, rfl⟩ := H.fc hC h5
                  exact absurd h4 (by omega)
                | _ => exact h2.elim
              · rfl
            rw [this]
            exact ⟨Nat.le_refl _, hn⟩
          · exact top_le H hr hC hn hlc h0
        unfold sliceU at hv
        split at hv
        · simp only [Option.bind_eq_some_iff] at hv
          obtain ⟨⟨l, h, m⟩, hb, hcut⟩ := hv
          cases hmx
          obtain ⟨m', h4, h5, h6, h7, h8⟩ := bounds_sound (P := P) (w := w) (isS := true) hlo hhi .none htop.2 htop.1 hb
          have hm : m' = c := by rcases h5 with ⟨_, rfl, _⟩ | ⟨h, _⟩; · rfl
                                 · exact absurd rfl h
          subst hm
          refine ⟨_, ?_, cutU_sound H hr hC hlc (by omega) h6 hcut⟩
          simp [Instr.sliceAt, run_underlying hu, Instr.slice, h4, (C.ty ht).sizeOf, add_plain]
        · simp only [Option.bind_eq_some_iff] at hv
          obtain ⟨⟨l, h, m⟩, hb, hcut⟩ := hv
          obtain ⟨m', h4, h5, h6, h7, h8⟩ := bounds_sound (P := P) (w := w) (isS := true) hlo hhi hmx htop.2 htop.1 hb
          have hm : m' = m := by rcases h5 with ⟨h, _⟩ | ⟨_, rfl⟩; · cases h
                                 · rfl
          subst hm
          refine ⟨_, ?_, cutA_sound (M := M) (a' := some ⟨r, l0 * z, none⟩) hcut (fun b' o' h => by cases h; exact ⟨_, rfl, hr⟩) (fun h => by cases h)⟩
          simp [Instr.sliceAt, run_underlying hu, Instr.slice, h4, (C.ty ht).sizeOf]
  case h_2 =>
    rename_i n e a hk
    split at hv
    case h_2 => cases hv
    rename_i te ht
    have hu : P.underlying t = some (.array n e) := C.kd hk
    simp only [Option.bind_eq_some_iff] at hv
    obtain ⟨⟨l, h, m⟩, hb, hcut⟩ := hv
    obtain ⟨m', h4, h5, h6, h7, h8⟩ := bounds_sound (P := P) (w := w) (isS := false) hlo hhi hmx (Nat.le_refl n) (Nat.le_refl n) hb
    have hm : m' = m := by rcases h5 with ⟨_, rfl, rfl⟩ | ⟨_, rfl⟩ <;> rfl
    subst hm
    obtain ⟨bb, oo, sp⟩ := a
    cases sp with
    | some _ => cases hx
    | none =>
      obtain ⟨r, rfl, hr⟩ := hx.ptr_inv
      have g := cutA_sound (M := M) (a' := some ⟨r, oo, none⟩) hcut (fun b' o' h => by cases h; exact ⟨_, rfl, hr⟩) (fun h => by cases h)
      refine ⟨_, ?_, g⟩
      simp only [Instr.sliceAt, Sem.run_bind, run_underlying hu, Result.andThen_ok, Instr.sureAddr, Sem.run_pure, h4, (C.ty ht).sizeOf]
      by_cases hml : m' = l
      · simp [hml]
      · simp [hml]
end Go.Proofs.YtecfnddaniphdaaGreatDoor.AM
