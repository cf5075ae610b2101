/-
  The abstract machine: one operation.
-/
import Derived.Test.YtecfnddaniphdaaGreatDoorX12
set_option linter.unusedVariables false
set_option linter.unusedSimpArgs false
namespace Go.Proofs.YtecfnddaniphdaaGreatDoor.AM
variable {P : Program}

def GLok (M : Mu) (cf : Cfg) : Prop := (∀ g, cf.gl.any (Nat.beq g) = true → M.m g g) ∧ cf.sy M.s
theorem GLok.mono {M M' : Mu} (hM : M.le M') {cf : Cfg} (h : GLok M cf) : GLok M' cf := ⟨fun g hg => hM.m (h.1 g hg), by rw [hM.s]; exact h.2⟩
section
variable {cf : Cfg} {M : Mu} {T : TR Value} {a : Act}
theorem ev_sound (hT : TRR M T a.tmps) (hG : GLok M cf) {x : Operand} {v : Value} (h : ev x cf T = some v) : VR M v (a.eval x) := by
  cases x with
  | tmp t => exact hT t v h
  | const c =>
    have h : cond (plain c) (some c) none = some v := h
    cases hp : plain c with
    | true => rw [hp] at h; simp only [cond, Option.some.injEq] at h; subst h; exact plain_VR M hp
    | false => rw [hp] at h; cases h
  | global g =>
    have h : cond (cf.gl.any (Nat.beq g)) (some (.pointer (some ⟨g, 0, none⟩))) none = some v := h
    cases hp : cf.gl.any (Nat.beq g) with
    | true => rw [hp] at h; simp only [cond, Option.some.injEq] at h; subst h; exact .ptr 0 (hG.1 g hp)
    | false => rw [hp] at h; cases h
  | func f =>
    have h : some (Value.func (.func f) #[] #[]) = some v := h
    simp only [Option.some.injEq] at h
    subst h
    exact .func (.func f) .nil .nil
theorem evs_cons (x : Operand) (l : List Operand) : evs (x :: l) cf T = consV (ev x cf T) (evs l cf T) := rfl
theorem evs_sound (hT : TRR M T a.tmps) (hG : GLok M cf) : ∀ {l : List Operand} {vs : List Value}, evs l cf T = some vs → LR M vs (l.map a.eval)
  | [], vs, h => by
    have h : some ([] : List Value) = some vs := h
    simp only [Option.some.injEq] at h
    subst h
    exact .nil
  | x :: l, vs, h => by
    rw [evs_cons] at h
    simp only [consV, Option.bind_eq_some_iff, Option.map_eq_some_iff] at h
    obtain ⟨v, h1, vs', h2, rfl⟩ := h
    exact .cons (ev_sound hT hG h1) (evs_sound hT hG h2)
theorem evp_cons (x : Nat × Operand) (l : List (Nat × Operand)) : evp (x :: l) cf T = consP x.1 (ev x.2 cf T) (evp l cf T) := rfl
theorem evp_sound (hT : TRR M T a.tmps) (hG : GLok M cf) : ∀ {l : List (Nat × Operand)} {vs : List (Nat × Value)}, evp l cf T = some vs → PR M vs (l.map fun p => (p.1, a.eval p.2))
  | [], vs, h => by
    have h : some ([] : List (Nat × Value)) = some vs := h
    simp only [Option.some.injEq] at h
    subst h
    exact .nil
  | x :: l, vs, h => by
    rw [evp_cons] at h
    simp only [consP, Option.bind_eq_some_iff, Option.map_eq_some_iff] at h
    obtain ⟨v, h1, vs', h2, rfl⟩ := h
    exact .cons (ev_sound hT hG h1) (evp_sound hT hG h2)
theorem evo_sound (hT : TRR M T a.tmps) (hG : GLok M cf) {x : Option Operand} {v : Option Value} (h : evo cf T x = some v) : OV M v (x.map a.eval) := by
  cases x with
  | none => simp only [evo, Option.some.injEq] at h; subst h; exact .none
  | some x =>
    simp only [evo, Option.map_eq_some_iff] at h
    obtain ⟨v0, h1, rfl⟩ := h
    exact .some (ev_sound hT hG h1)
end
/-- what an operation without a call does -/
def Yld (P : Program) (r : Sem Next) (w : World) (v' : Value) (w' : World) : Prop := r.run P w = .ok (.value v') w' ∨ (r.run P w = .ok .skip w' ∧ v' = undef)
theorem Yld.v {s : Sem Value} {w w' : World} {v' : Value} (h : s.run P w = .ok v' w') : Yld P (do pure (.value (← s))) w v' w' := .inl (by simp [h])
theorem Yld.u {s : Sem Unit} {w w' : World} (h : s.run P w = .ok () w') : Yld P (do s; pure .skip) w undef w' := .inr ⟨by simp [h], rfl⟩
theorem vA_some {s s' : St} {r : Option Value} {v : Value} (h : vA s r = some (.val v s')) : r = some v ∧ s' = s := by
  simp only [vA, Option.map_eq_some_iff, Got.val.injEq] at h
  obtain ⟨v0, h1, rfl, rfl⟩ := h
  exact ⟨h1, rfl⟩
theorem uA_some {r : Option St} {v : Value} {s' : St} (h : uA r = some (.val v s')) : r = some s' ∧ v = undef := by
  simp only [uA, Option.map_eq_some_iff, Got.val.injEq] at h
  obtain ⟨s0, h1, rfl, rfl⟩ := h
  exact ⟨h1, rfl⟩
theorem rA_some {r : Option (Value × St)} {v : Value} {s' : St} (h : rA r = some (.val v s')) : r = some (v, s') := by
  simp only [rA, Option.map_eq_some_iff, Got.val.injEq] at h
  obtain ⟨⟨a, b⟩, h1, rfl, rfl⟩ := h
  exact h1
theorem makeSliceA_sound {cf : Cfg} (C : CfgOk P cf) {M : Mu} {s s' : St} {w : World} (H : HR M s.h w) (L : Li s) {t : TypeId} {l l' c c' v : Value} (hl : VR M l l') (hc : VR M c c') (h : makeSliceA cf s t l c = some (v, s')) (F : Fresh M s.n s'.n) :
    ∃ M' v' w', (Instr.makeSlice t l' c').run P w = .ok v' w' ∧ Good M s w v s' M' v' w' := by
  unfold makeSliceA at h
  split at h
  case h_2 => cases h
  rename_i e k1 n k2 m hk
  split at h
  case h_2 => cases h
  rename_i te hte
  have T := C.ty hte
  have ht : P.underlying t = some (.slice e) := C.kd hk
  split at h
  case isFalse => cases h
  rename_i hcd
  obtain ⟨h0, h1, h2, hpos, hby, hsm⟩ := hcd
  simp only [Option.some.injEq, Prod.mk.injEq] at h
  obtain ⟨rfl, rfl⟩ := h
  cases hl.int_inv
  cases hc.int_inv
  obtain ⟨i, hi, hi1, hi2, hi3⟩ := T.typeInfo w
  have w1 : IntKind.i64.wrap n = n := by simp [IntKind.wrap, IntKind.bits, IntKind.signed]; omega
  have w2 : IntKind.i64.wrap m = m := by simp [IntKind.wrap, IntKind.bits, IntKind.signed]; omega
  have hz : ((Array.range (m.toNat * te.size)).map (fun i => te.zeroV.cells[i % te.zeroV.cells.size]!)).toList = zerosA te m.toNat := zeros_real T.zc T.zl hpos m.toNat
  have hm : m.toNat < UNK := by unfold UNK; omega
  have big : ∀ q : Int, 0 ≤ q → q ≤ 10000 → ((q < 0 || (i.bytes : Int) * q > 2 ^ 48) : Bool) = false := by
    intro q hq0 hq1
    have : (te.bytes : Int) * q ≤ 1000 * 10000 := Int.mul_le_mul (by omega) hq1 hq0 (by omega)
    rw [hi2]
    simp; omega
  have room : ¬ (m.toNat * i.bytes > roomBytes) := by
    have : m.toNat * te.bytes ≤ 10000 * 1000 := Nat.mul_le_mul (by omega) hby
    rw [hi2]
    simp only [roomBytes]; omega
  have hcond : ((m < 0 || (i.bytes : Int) * m > 2 ^ 48) || n < 0 || n > m : Bool) = false := by
    rw [big m (by omega) h2]
    simp; omega
  by_cases hm0 : m.toNat * te.size = 0
  · have hmz : m.toNat = 0 := by rcases Nat.mul_eq_zero.1 hm0 with h | h <;> omega
    have g := new_cells H L F hsm e (l := zerosA te m.toNat) (l' := []) (by rw [hmz]; exact .nil)
    refine ⟨_, .slice (some ⟨w.heap.size, 0, none⟩) n.toNat m.toNat, _, ?_, ⟨.slice 0 _ _ (Mu.add_m _ _ _ _) hm, g.hr, g.li, g.ext, g.sx⟩⟩
    have e0 : ∀ f : Nat → Value, (Array.range 0).map f = #[] := fun f => by apply Array.ext'; simp
    simp only [Instr.makeSlice, Sem.run_bind, run_underlying ht, Result.andThen_ok, asInt, asIntOf, Sem.run_pure, hi, w1, w2, hcond, Bool.false_eq_true, if_false, askRoom, room, T.sizeOf, hm0, if_true, newRow, newObj, e0]
    simp [Sem.run, World.alloc_eq]
  · have g := new_cells H L F hsm e (l := zerosA te m.toNat) (l' := zerosA te m.toNat) (scals_LR M (zerosA_scal T.zp _))
    refine ⟨_, .slice (some ⟨w.heap.size, 0, none⟩) n.toNat m.toNat, _, ?_, ⟨.slice 0 _ _ (Mu.add_m _ _ _ _) hm, g.hr, g.li, g.ext, g.sx⟩⟩
    have hz' : (Array.range (m.toNat * te.size)).map (fun i => te.zeroV.cells[i % te.zeroV.cells.size]!) = (zerosA te m.toNat).toArray := by
      rw [← hz]
    simp only [Instr.makeSlice, Sem.run_bind, run_underlying ht, Result.andThen_ok, asInt, asIntOf, Sem.run_pure, hi, w1, w2, hcond, Bool.false_eq_true, if_false, askRoom, room, T.sizeOf, hm0, T.zero, hz', newRow, newObj]
    simp [Sem.run, World.alloc_eq]
end Go.Proofs.YtecfnddaniphdaaGreatDoor.AM
