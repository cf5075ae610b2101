/-
  The abstract machine: numbers only rise.
-/
import Derived.Test.YtecfnddaniphdaaGreatDoorX15
set_option linter.unusedVariables false
set_option linter.unusedSimpArgs false
namespace Go.Proofs.YtecfnddaniphdaaGreatDoor.AM
theorem cond_some {α : Type} {b : Bool} {x : Option α} {y : α} (h : cond b x none = some y) : b = true ∧ x = some y := by cases b <;> simp_all
theorem put_n (s : St) (b : Nat) (o : AObj) : (s.put b o).n = s.n := rfl
theorem new_n (s : St) (o : AObj) : (s.new o).n = s.n + 1 := rfl
theorem kill_n (s : St) (b : Nat) : (s.kill b).n = s.n := rfl
theorem appendA_n {cf : Cfg} {s s' : St} {t u : TypeId} {x y v : Value} (h : appendA cf s t u x y = some (v, s')) : s.n ≤ s'.n := by
  unfold appendA at h
  split at h
  case h_2 => cases h
  split at h
  case h_2 => cases h
  obtain ⟨_, h⟩ := cond_some h
  rename_i base len cap yb n yc _ _ _ _ _ _ _ _ _ _
  cases hc : Nat.beq cap UNK with
  | true =>
    rw [hc] at h
    simp only [cond] at h
    split at h
    case h_2 => cases h
    split at h
    case h_2 => cases h
    obtain ⟨_, h⟩ := cond_some h
    cases hb : Nat.ble ((len + n) * _) _ with
    | true => rw [hb] at h; simp only [cond, Option.map_eq_some_iff, Prod.mk.injEq] at h; obtain ⟨_, _, _, rfl⟩ := h; exact Nat.le_refl _
    | false => rw [hb] at h; simp only [cond, Option.some.injEq, Prod.mk.injEq] at h; obtain ⟨_, rfl⟩ := h; exact Nat.le_succ _
  | false =>
    rw [hc] at h
    simp only [cond] at h
    obtain ⟨_, h⟩ := cond_some h
    cases hb : Nat.ble (len + n) cap with
    | true =>
      rw [hb] at h
      simp only [cond] at h
      split at h
      · obtain ⟨_, h⟩ := cond_some h
        simp only [Option.some.injEq, Prod.mk.injEq] at h; obtain ⟨_, rfl⟩ := h; exact Nat.le_refl _
      · split at h
        · simp only [Option.map_eq_some_iff, Prod.mk.injEq] at h; obtain ⟨_, _, _, rfl⟩ := h; exact Nat.le_refl _
        · cases h
      · cases h
    | false =>
      rw [hb] at h
      simp only [cond] at h
      split at h
      · obtain ⟨_, h⟩ := cond_some h
        simp only [Option.some.injEq, Prod.mk.injEq] at h; obtain ⟨_, rfl⟩ := h; exact Nat.le_succ _
      · cases h
theorem copyA_n {cf : Cfg} {s s' : St} {t : TypeId} {x y v : Value} (h : copyA cf s t x y = some (v, s')) : s.n ≤ s'.n := by
  unfold copyA at h
  split at h
  case h_2 => cases h
  split at h
  case h_2 => cases h
  split at h
  case h_2 => cases h
  obtain ⟨_, h⟩ := cond_some h
  split at h
  · simp only [Option.some.injEq, Prod.mk.injEq] at h; obtain ⟨_, rfl⟩ := h; exact Nat.le_refl _
  · split at h
    · simp only [Option.map_eq_some_iff, Prod.mk.injEq] at h; obtain ⟨_, _, _, rfl⟩ := h; exact Nat.le_refl _
    · cases h
  · cases h
theorem clearA_n {cf : Cfg} {s s' : St} {t : TypeId} {x : Value} (h : clearA cf s t x = some s') : s.n ≤ s'.n := by
  unfold clearA at h
  split at h
  · split at h
    case h_2 => cases h
    split at h
    case h_2 => cases h
    rename_i n _ _ _ _ _ _ _ _ _ _ _
    revert h
    generalize hb : (Nat.beq _ 0) = bb
    intro h
    cases bb with
    | true => simp only [cond, Option.some.injEq] at h; subst h; exact Nat.le_refl _
    | false =>
      simp only [cond] at h
      obtain ⟨_, h⟩ := cond_some h
      simp only [Option.map_eq_some_iff] at h; obtain ⟨_, _, rfl⟩ := h; exact Nat.le_refl _
  · simp only [Option.some.injEq] at h; subst h; exact Nat.le_refl _
  · cases h
theorem deleteA_n {cf : Cfg} {s s' : St} {t : TypeId} {x y : Value} (h : deleteA cf s t x y = some s') : s.n ≤ s'.n := by
  unfold deleteA at h
  split at h
  case h_2 => cases h
  obtain ⟨_, h⟩ := cond_some h
  split at h
  case h_2 => cases h
  split at h
  · simp only [Option.some.injEq] at h; subst h; exact Nat.le_refl _
  · simp only [Option.some.injEq] at h; subst h; exact Nat.le_refl _
  · cases h
theorem updA_n {cf : Cfg} {s s' : St} {t : TypeId} {x y z : Value} (h : updA cf s t x y z = some s') : s.n ≤ s'.n := by
  unfold updA at h
  split at h
  case h_2 => cases h
  obtain ⟨_, h⟩ := cond_some h
  split at h
  case h_2 => cases h
  split at h
  · simp only [Option.some.injEq] at h; subst h; exact Nat.le_refl _
  · simp only [Option.some.injEq] at h; subst h; exact Nat.le_refl _
  · cases h
theorem astore_n {cf : Cfg} {s s' : St} {t : TypeId} {x y : Value} (h : astore cf s t x y = some s') : s.n ≤ s'.n := by
  unfold astore at h
  split at h
  case h_2 => cases h
  split at h
  case h_2 => cases h
  obtain ⟨_, h⟩ := cond_some h
  simp only [Option.map_eq_some_iff] at h; obtain ⟨_, _, rfl⟩ := h; exact Nat.le_refl _
theorem buildSliceA_n {cf : Cfg} {s s' : St} {t : TypeId} {n : Nat} {ps : List (Nat × Value)} {v : Value} (h : buildSliceA cf s t n ps = some (v, s')) : s.n ≤ s'.n := by
  unfold buildSliceA at h
  split at h
  case h_2 => cases h
  split at h
  case h_2 => cases h
  obtain ⟨_, h⟩ := cond_some h
  simp only [Option.map_eq_some_iff, Prod.mk.injEq] at h; obtain ⟨_, _, _, rfl⟩ := h; exact Nat.le_succ _
theorem makeSliceA_n {cf : Cfg} {s s' : St} {t : TypeId} {x y v : Value} (h : makeSliceA cf s t x y = some (v, s')) : s.n ≤ s'.n := by
  unfold makeSliceA at h
  split at h
  case h_2 => cases h
  split at h
  case h_2 => cases h
  split at h
  case isFalse => cases h
  simp only [Option.some.injEq, Prod.mk.injEq] at h; obtain ⟨_, rfl⟩ := h; exact Nat.le_succ _
theorem appendZ_n {cf : Cfg} {s s' : St} {t u : TypeId} {x y v : Value} (h : appendZ cf s t u x y = some (v, s')) : s.n ≤ s'.n := by
  unfold appendZ at h
  split at h
  case h_2 => cases h
  split at h
  case h_2 => cases h
  split at h
  case h_2 => cases h
  split at h
  case isFalse => cases h
  simp only [Option.some.injEq, Prod.mk.injEq] at h
  obtain ⟨_, rfl⟩ := h
  exact Nat.le_succ _
theorem appendB_n {cf : Cfg} {s s' : St} {t u : TypeId} {x y v : Value} (h : appendB cf s t u x y = some (v, s')) : s.n ≤ s'.n := by
  rcases appendB_some h with h | h
  · exact appendZ_n h
  · exact appendA_n h
theorem builtin_n {cf : Cfg} {s s' : St} {b : Builtin} {args : List Value} {ts : List TypeId} {v : Value} (h : builtinA b cf s args ts = some (.val v s')) : s.n ≤ s'.n := by
  cases b with
  | append =>
    replace h : bAppend cf s args ts = some (.val v s') := h
    unfold bAppend at h
    split at h
    · simp only [Option.map_eq_some_iff, Got.val.injEq] at h
      obtain ⟨⟨v0, s0⟩, h1, rfl, rfl⟩ := h
      exact appendB_n h1
    · cases h
  | copy =>
    replace h : bCopy cf s args ts = some (.val v s') := h
    unfold bCopy at h
    split at h
    · simp only [Option.map_eq_some_iff, Got.val.injEq] at h
      obtain ⟨⟨v0, s0⟩, h1, rfl, rfl⟩ := h
      exact copyA_n h1
    · cases h
  | clear =>
    replace h : bClear cf s args ts = some (.val v s') := h
    unfold bClear at h
    split at h
    · simp only [Option.map_eq_some_iff, Got.val.injEq] at h
      obtain ⟨s0, h1, rfl, rfl⟩ := h
      exact clearA_n h1
    · cases h
  | delete =>
    replace h : bDelete cf s args ts = some (.val v s') := h
    unfold bDelete at h
    split at h
    · simp only [Option.map_eq_some_iff, Got.val.injEq] at h
      obtain ⟨s0, h1, rfl, rfl⟩ := h
      exact deleteA_n h1
    · cases h
  | len =>
    replace h : bLen cf s args ts = some (.val v s') := h
    unfold bLen at h
    split at h
    · simp only [Option.map_eq_some_iff, Got.val.injEq] at h
      obtain ⟨s0, h1, rfl, rfl⟩ := h
      exact Nat.le_refl _
    · cases h
  | cap =>
    replace h : bCap cf s args ts = some (.val v s') := h
    unfold bCap at h
    split at h
    · simp only [Option.map_eq_some_iff, Got.val.injEq] at h
      obtain ⟨s0, h1, rfl, rfl⟩ := h
      exact Nat.le_refl _
    · cases h
  | max =>
    replace h : bFold s max2A args = some (.val v s') := h
    unfold bFold at h
    split at h
    · simp only [Option.map_eq_some_iff, Got.val.injEq] at h
      obtain ⟨s0, h1, rfl, rfl⟩ := h
      exact Nat.le_refl _
    · cases h
  | min =>
    replace h : bFold s min2A args = some (.val v s') := h
    unfold bFold at h
    split at h
    · simp only [Option.map_eq_some_iff, Got.val.injEq] at h
      obtain ⟨s0, h1, rfl, rfl⟩ := h
      exact Nat.le_refl _
    · cases h
  | _ => exact absurd h (by intro h; cases h)
theorem opA_n {cf : Cfg} {s s' : St} {T : TR Value} {o : Op} {v : Value} (h : opA o cf s T = some (.val v s')) : s.n ≤ s'.n := by
  have same : ∀ {r : Option Value}, vA s r = some (.val v s') → s.n ≤ s'.n := fun h => by obtain ⟨_, rfl⟩ := vA_some h; exact Nat.le_refl _
  cases o with
  | move x => exact same (show vA s (ev x cf T) = _ from h)
  | assign x => exact same (show vA s (ev x cf T) = _ from h)
  | pick c x y =>
    obtain ⟨b, h1, h2⟩ := on1_some (show on1 cf T c (oPick cf s T x y) = _ from h)
    unfold oPick at h2
    split at h2
    · exact same h2
    · cases h2
  | alloc e =>
    replace h := (show oAlloc cf s e = _ from h)
    unfold oAlloc at h
    split at h
    · obtain ⟨_, h⟩ := cond_some h
      simp only [Option.some.injEq, Got.val.injEq] at h; obtain ⟨_, rfl⟩ := h; exact Nat.le_succ _
    · cases h
  | box e x =>
    obtain ⟨b, h1, h2⟩ := on1_some (show on1 cf T x (oBox s) = _ from h)
    unfold oBox at h2
    obtain ⟨_, h2⟩ := cond_some h2
    simp only [Option.some.injEq, Got.val.injEq] at h2; obtain ⟨_, rfl⟩ := h2; exact Nat.le_succ _
  | build t ps =>
    replace h := (show oBuild cf s T t ps.toList = _ from h)
    simp only [oBuild, Option.bind_eq_some_iff] at h
    obtain ⟨vs, h1, h2⟩ := h
    exact same h2
  | buildSlice t n ps =>
    replace h := (show oBuildS cf s T t n ps.toList = _ from h)
    simp only [oBuildS, Option.bind_eq_some_iff] at h
    obtain ⟨vs, h1, h2⟩ := h
    exact buildSliceA_n (rA_some h2)
  | load t x =>
    obtain ⟨b, h1, h2⟩ := on1_some (show on1 cf T x (fun a => vA s (aload cf s t a)) = _ from h)
    exact same h2
  | store t x y =>
    obtain ⟨p, q, h1, h2, h3⟩ := on2_some (show on2 cf T x y (fun a v => uA (astore cf s t a v)) = _ from h)
    exact astore_n (uA_some h3).1
  | nilCheck x =>
    obtain ⟨b, h1, h2⟩ := on1_some (show on1 cf T x (oNil s) = _ from h)
    unfold oNil at h2
    split at h2 <;> first
      | (cases h2; done)
      | (simp only [Option.some.injEq, Got.val.injEq] at h2; obtain ⟨_, rfl⟩ := h2; exact Nat.le_refl _)
  | binOp op t x y yt =>
    obtain ⟨p, q, h1, h2, h3⟩ := on2_some (show on2 cf T x y (fun a b => vA s (binA a b cf op t)) = _ from h)
    exact same h3
  | unOp op t x =>
    obtain ⟨p, h1, h2⟩ := on1_some (show on1 cf T x (fun a => vA s (unA op a)) = _ from h)
    exact same h2
  | convert t d x =>
    obtain ⟨p, h1, h2⟩ := on1_some (show on1 cf T x (oConv cf s t d) = _ from h)
    unfold oConv at h2
    split at h2
    case h_2 => cases h2
    split at h2
    case h_2 => cases h2
    simp only [Option.some.injEq, Got.val.injEq] at h2; obtain ⟨_, rfl⟩ := h2; exact Nat.le_refl _
  | makeFunc fn first cap =>
    replace h := (show oFunc cf s T first.toList cap.toList fn = _ from h)
    unfold oFunc at h
    split at h
    case h_2 => cases h
    split at h
    case h_2 => cases h
    simp only [Option.some.injEq, Got.val.injEq] at h; obtain ⟨_, rfl⟩ := h; exact Nat.le_refl _
  | makeMap t r =>
    replace h := (show oMap s r = _ from h)
    unfold oMap at h
    split at h
    case h_2 => cases h
    obtain ⟨_, h⟩ := cond_some h
    simp only [Option.some.injEq, Got.val.injEq] at h; obtain ⟨_, rfl⟩ := h; exact Nat.le_succ _
  | makeSlice t l c =>
    obtain ⟨p, q, h1, h2, h3⟩ := on2_some (show on2 cf T l c (fun l c => rA (makeSliceA cf s t l c)) = _ from h)
    exact makeSliceA_n (rA_some h3)
  | slice t x lo hi mx =>
    replace h := (show oSlice cf s T t x lo hi mx = _ from h)
    unfold oSlice at h
    split at h
    · exact same h
    · cases h
  | fieldAddr t x f =>
    obtain ⟨p, h1, h2⟩ := on1_some (show on1 cf T x (fun x => vA s (fieldAddrA cf t x f)) = _ from h)
    exact same h2
  | field t x f =>
    obtain ⟨p, h1, h2⟩ := on1_some (show on1 cf T x (fun x => vA s (fieldA cf t x f)) = _ from h)
    exact same h2
  | indexAddr t x i =>
    obtain ⟨p, q, h1, h2, h3⟩ := on2_some (show on2 cf T x i (fun x i => vA s (indexAddrA cf t x i)) = _ from h)
    exact same h3
  | index t x i =>
    obtain ⟨p, q, h1, h2, h3⟩ := on2_some (show on2 cf T x i (fun x i => vA s (indexA cf t x i)) = _ from h)
    exact same h3
  | lookup t m k ok =>
    obtain ⟨p, q, h1, h2, h3⟩ := on2_some (show on2 cf T m k (fun m k => vA s (lookupA cf s t m k ok)) = _ from h)
    exact same h3
  | mapUpdate t m k x =>
    obtain ⟨p, q, h1, h2, h3⟩ := on2_some (show oUpd cf s T t m k x = _ from h)
    obtain ⟨z, h4, h5⟩ := on1_some h3
    exact updA_n (uA_some h5).1
  | insert t m k x =>
    obtain ⟨p, q, h1, h2, h3⟩ := on2_some (show oUpd cf s T t m k x = _ from h)
    obtain ⟨z, h4, h5⟩ := on1_some h3
    exact updA_n (uA_some h5).1
  | extract x i =>
    obtain ⟨p, h1, h2⟩ := on1_some (show on1 cf T x (oExtract s i) = _ from h)
    unfold oExtract at h2
    split at h2
    · exact same h2
    · cases h2
  | call c =>
    obtain ⟨args, hargs, hcase⟩ := callA_cases (show callA cf s T c = _ from h)
    rcases hcase with ⟨f, x, hc, hx, hcv⟩ | ⟨b, hb, hbi⟩
    · rcases callV_some hcv with ⟨_, _, _, _, h⟩ | ⟨_, _, _, _, h⟩ <;> cases h
    · exact builtin_n hbi
  | _ => exact absurd h (by intro h; cases h)
end Go.Proofs.YtecfnddaniphdaaGreatDoor.AM
