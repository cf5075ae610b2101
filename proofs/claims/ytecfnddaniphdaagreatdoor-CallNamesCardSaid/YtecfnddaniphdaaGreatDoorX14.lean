/-
  The abstract machine: every operation that calls no function.
-/
import Derived.Test.YtecfnddaniphdaaGreatDoorX13
set_option linter.unusedVariables false
set_option linter.unusedSimpArgs false
namespace Go.Proofs.YtecfnddaniphdaaGreatDoor.AM
variable {P : Program}

theorem on1_some {cf : Cfg} {T : TR Value} {x : Operand} {f : Value → Option Got} {g : Got} (h : on1 cf T x f = some g) : ∃ v, ev x cf T = some v ∧ f v = some g := by
  simpa only [on1, Option.bind_eq_some_iff] using h
theorem on2_some {cf : Cfg} {T : TR Value} {x y : Operand} {f : Value → Value → Option Got} {g : Got} (h : on2 cf T x y f = some g) : ∃ v u, ev x cf T = some v ∧ ev y cf T = some u ∧ f v u = some g := by
  simp only [on2, Option.bind_eq_some_iff] at h
  obtain ⟨v, h1, u, h2, h3⟩ := h
  exact ⟨v, u, h1, h2, h3⟩
theorem args1 {c : Array Operand} {ρ : Operand → Value} {M : Mu} {x : Value} (h : LR M [x] (c.toList.map ρ)) : ∃ x', c.map ρ = #[x'] ∧ VR M x x' := by
  cases hl : c.toList.map ρ with
  | nil => rw [hl] at h; cases h
  | cons a l =>
    rw [hl] at h
    cases h with
    | cons h1 t =>
      cases t
      exact ⟨a, by apply Array.ext'; simpa using hl, h1⟩
theorem args2 {c : Array Operand} {ρ : Operand → Value} {M : Mu} {x y : Value} (h : LR M [x, y] (c.toList.map ρ)) : ∃ x' y', c.map ρ = #[x', y'] ∧ VR M x x' ∧ VR M y y' := by
  cases hl : c.toList.map ρ with
  | nil => rw [hl] at h; cases h
  | cons a l =>
    rw [hl] at h
    cases h with
    | cons h1 t =>
      cases t with
      | cons h2 t =>
        cases t
        exact ⟨_, _, by apply Array.ext'; simpa using hl, h1, h2⟩
theorem argsS {c : Array Operand} {ρ : Operand → Value} {M : Mu} {x : Value} {l : List Value} (h : LR M (x :: l) (c.toList.map ρ)) : ∃ x' l', (c.map ρ).toList = x' :: l' ∧ VR M x x' ∧ LR M l l' := by
  cases hl : c.toList.map ρ with
  | nil => rw [hl] at h; cases h
  | cons a l' =>
    rw [hl] at h
    cases h with
    | cons h1 t => exact ⟨_, _, by simpa using hl, h1, t⟩
theorem Good.of4 {M : Mu} {s s' : St} {w w' : World} (h : HR M s'.h w' ∧ Ext M w s.n s'.t M w' s'.n ∧ Sx s s' ∧ Li s') : Good M s w undef s' M undef w' := ⟨.undef M, h.1, h.2.2.2, h.2.1, h.2.2.1⟩
theorem ty1 {ts : Array TypeId} {t : TypeId} {l : List TypeId} (h : ts.toList = t :: l) : ts[0]? = some t := by
  rw [← Array.getElem?_toList, h]; rfl
theorem builtin_sound {cf : Cfg} (C : CfgOk P cf) {M : Mu} {s s' : St} {w : World} (H : HR M s.h w) (L : Li s) {b : Builtin} {ats : Array TypeId} (ty : TypeId) (consts : Array Bool) {args : List Value} {c : Array Operand} {ρ : Operand → Value} {v : Value}
    (ha : LR M args (c.toList.map ρ)) (h : builtinA b cf s args ats.toList = some (.val v s')) (F : Fresh M s.n s'.n) : ∃ M' v' w', Yld P (builtin b ats ty consts (c.map ρ)) w v' w' ∧ Good M s w v s' M' v' w' := by
  cases b with
  | append =>
    replace h : bAppend cf s args ats.toList = some (.val v s') := h
    unfold bAppend at h
    split at h
    case h_2 => cases h
    rename_i x y t u hts
    simp only [Option.map_eq_some_iff, Got.val.injEq] at h
    obtain ⟨⟨v0, s0⟩, h1, rfl, rfl⟩ := h
    obtain ⟨x', y', hc, hx, hy⟩ := args2 ha
    obtain ⟨M', v', w', hr, G⟩ := appendB_sound C H L ty hx hy h1 F
    have e : ats = #[t, u] := by apply Array.ext'; exact hts
    exact ⟨M', v', w', by rw [hc, e]; exact Yld.v hr, G⟩
  | copy =>
    replace h : bCopy cf s args ats.toList = some (.val v s') := h
    unfold bCopy at h
    split at h
    case h_2 => cases h
    rename_i x y t _ hts
    simp only [Option.map_eq_some_iff, Got.val.injEq] at h
    obtain ⟨⟨v0, s0⟩, h1, rfl, rfl⟩ := h
    obtain ⟨x', y', hc, hx, hy⟩ := args2 ha
    obtain ⟨M', v', w', hr, G⟩ := copyA_sound C H L (ty1 hts) ty hx hy h1
    exact ⟨M', v', w', by rw [hc]; exact Yld.v hr, G⟩
  | clear =>
    replace h : bClear cf s args ats.toList = some (.val v s') := h
    unfold bClear at h
    split at h
    case h_2 => cases h
    rename_i x t _ hts
    simp only [Option.map_eq_some_iff, Got.val.injEq] at h
    obtain ⟨s0, h1, rfl, rfl⟩ := h
    obtain ⟨x', hc, hx⟩ := args1 ha
    obtain ⟨M', v', w', hr, G⟩ := clearA_sound C H L (ty1 hts) ty hx h1
    exact ⟨M', v', w', by rw [hc]; exact Yld.v hr, ⟨by
      have := G.vr
      exact this, G.hr, G.li, G.ext, G.sx⟩⟩
  | delete =>
    replace h : bDelete cf s args ats.toList = some (.val v s') := h
    unfold bDelete at h
    split at h
    case h_2 => cases h
    rename_i x y t _ hts
    simp only [Option.map_eq_some_iff, Got.val.injEq] at h
    obtain ⟨s0, h1, rfl, rfl⟩ := h
    obtain ⟨x', y', hc, hx, hy⟩ := args2 ha
    obtain ⟨M', v', w', hr, G⟩ := deleteA_sound C H L (ty1 hts) ty hx hy h1
    exact ⟨M', v', w', by rw [hc]; exact Yld.v hr, G⟩
  | len =>
    replace h : bLen cf s args ats.toList = some (.val v s') := h
    unfold bLen at h
    split at h
    case h_2 => cases h
    rename_i x t _ hts
    simp only [Option.map_eq_some_iff, Got.val.injEq] at h
    obtain ⟨v0, h1, rfl, rfl⟩ := h
    obtain ⟨x', hc, hx⟩ := args1 ha
    obtain ⟨v', hr, hv⟩ := lenA_sound C H (ty1 hts) ty hx h1
    exact ⟨M, v', w, by rw [hc]; exact Yld.v hr, Good.same H L hv⟩
  | cap =>
    replace h : bCap cf s args ats.toList = some (.val v s') := h
    unfold bCap at h
    split at h
    case h_2 => cases h
    rename_i x t _ hts
    simp only [Option.map_eq_some_iff, Got.val.injEq] at h
    obtain ⟨v0, h1, rfl, rfl⟩ := h
    obtain ⟨x', hc, hx⟩ := args1 ha
    obtain ⟨v', hr, hv⟩ := capA_sound C (ty1 hts) ty hx h1
    exact ⟨M, v', w, by rw [hc]; exact Yld.v hr, Good.same H L hv⟩
  | max =>
    replace h : bFold s max2A args = some (.val v s') := h
    unfold bFold at h
    split at h
    case h_2 => cases h
    simp only [Option.map_eq_some_iff, Got.val.injEq] at h
    obtain ⟨v0, h1, rfl, rfl⟩ := h
    obtain ⟨x', l', hc, hx, hl⟩ := argsS ha
    obtain ⟨v', hr, hv⟩ := foldA_sound (w := w) (f := max2A) (g := Builtin.max2) max2A_sound hl hx h1
    exact ⟨M, v', w, Yld.v (s := Builtin.max_ ats ty (c.map ρ)) (by simp only [Builtin.max_, hc]; exact hr), Good.same H L hv⟩
  | min =>
    replace h : bFold s min2A args = some (.val v s') := h
    unfold bFold at h
    split at h
    case h_2 => cases h
    simp only [Option.map_eq_some_iff, Got.val.injEq] at h
    obtain ⟨v0, h1, rfl, rfl⟩ := h
    obtain ⟨x', l', hc, hx, hl⟩ := argsS ha
    obtain ⟨v', hr, hv⟩ := foldA_sound (w := w) (f := min2A) (g := Builtin.min2) min2A_sound hl hx h1
    exact ⟨M, v', w, Yld.v (s := Builtin.min_ ats ty (c.map ρ)) (by simp only [Builtin.min_, hc]; exact hr), Good.same H L hv⟩
  | _ => exact absurd h (by intro h; cases h)
end Go.Proofs.YtecfnddaniphdaaGreatDoor.AM
