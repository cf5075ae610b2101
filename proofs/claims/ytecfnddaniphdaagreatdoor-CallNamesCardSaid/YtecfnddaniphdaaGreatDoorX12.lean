/-
  The abstract machine: maps; slices that are made.
-/
import Derived.Test.YtecfnddaniphdaaGreatDoorX11
set_option linter.unusedVariables false
set_option linter.unusedSimpArgs false
namespace Go.Proofs.YtecfnddaniphdaaGreatDoor.AM
variable {P : Program}

theorem LR.set {M : Mu} : ∀ {l l' : List Value} {v v' : Value} (i : Nat), LR M l l' → VR M v v' → LR M (l.set i v) (l'.set i v')
  | _, _, _, _, _, .nil, _ => .nil
  | _, _, _, _, 0, .cons _ t, h => .cons h t
  | _, _, _, _, i + 1, .cons hv t, h => .cons hv (LR.set i t h)
theorem LR.erase {M : Mu} : ∀ {l l' : List Value} (i : Nat), LR M l l' → LR M (l.eraseIdx i) (l'.eraseIdx i)
  | _, _, _, .nil => .nil
  | _, _, 0, .cons _ t => t
  | _, _, i + 1, .cons hv t => .cons hv (LR.erase i t)
theorem map_modify {α β : Type} (f : α → β) (g : α → α) (b : β) : ∀ (l : List α) (i : Nat), (∀ x, f (g x) = b) → (l.modify i g).map f = (l.map f).set i b
  | [], i, h => by simp
  | x :: l, 0, h => by simp [h]
  | x :: l, i + 1, h => by simp [map_modify f g b l i h]
theorem map_modify_same {α β : Type} (f : α → β) (g : α → α) : ∀ (l : List α) (i : Nat), (∀ x, f (g x) = f x) → (l.modify i g).map f = l.map f
  | [], i, h => by simp
  | x :: l, 0, h => by simp [h]
  | x :: l, i + 1, h => by simp [map_modify_same f g l i h]
theorem map_erase {α β : Type} (f : α → β) : ∀ (l : List α) (i : Nat), (l.eraseIdx i).map f = (l.map f).eraseIdx i
  | [], i => by simp
  | x :: l, 0 => by simp
  | x :: l, i + 1 => by simp [map_erase f l i]
theorem keyA_some {a b : Value} {r : Bool} (h : keyA a b = some r) : ∃ k x y, a = .int k x ∧ b = .int k y ∧ r = (x == y) := by
  unfold keyA at h
  split at h
  · split at h
    · rename_i e; subst e; simp only [Option.some.injEq] at h; exact ⟨_, _, _, rfl, rfl, h.symm⟩
    · cases h
  · cases h
theorem findA_sound {M : Mu} {ik ik' : IntKind} {n : Int} : ∀ {es : List (Value × Value)} {l : List MapEntry} {i : Nat} {r : Option (Nat × Value)}, LR M (es.map (·.1)) (l.map (·.key)) → LR M (es.map (·.2)) (l.map (·.val)) → findA (.int ik n) es i = some r →
    ∃ r', Instr.findNow (.int ik') (.int ik n) l i = some r' ∧ (r = none → r' = none) ∧ (∀ j v, r = some (j, v) → ∃ v' d, r' = some (j, v') ∧ VR M v v' ∧ j = i + d ∧ (es.map (·.1))[d]? = some (.int ik n))
  | [], [], i, r, _, _, h => by
    simp only [findA, Option.some.injEq] at h
    subst h
    exact ⟨none, rfl, fun _ => rfl, fun j v h => by cases h⟩
  | (k, v) :: es, [], i, r, h1, _, _ => by cases h1
  | [], e :: l, i, r, h1, _, _ => by cases h1
  | (k, v) :: es, e :: l, i, r, h1, h2, h => by
    simp only [List.map_cons] at h1 h2
    cases h1 with
    | cons hk t1 =>
      cases h2 with
      | cons hv t2 =>
        simp only [findA] at h
        split at h
        · rename_i hky
          obtain ⟨kk, x, y, ex, ey, er⟩ := keyA_some hky
          cases ex
          subst ey
          simp only [Option.some.injEq] at h
          subst h
          have hk' := hk.int_inv
          have exy : n = y := eq_of_beq er.symm
          subst exy
          refine ⟨some (i, e.val), ?_, (fun h => by cases h), (fun j v' h => by cases h; exact ⟨_, 0, rfl, hv, rfl, rfl⟩)⟩
          simp [Instr.findNow, Instr.sameNow, hk']
        · rename_i hky
          obtain ⟨kk, x, y, ex, ey, er⟩ := keyA_some hky
          cases ex
          subst ey
          have hk' := hk.int_inv
          have exy : (n == y) = false := er.symm
          obtain ⟨r', h3, h4, h5⟩ := findA_sound (ik' := ik') t1 t2 h
          refine ⟨r', ?_, h4, fun j v' h => ?_⟩
          · simp only [Instr.findNow, Instr.sameNow, hk', if_true, exy]
            exact h3
          · obtain ⟨v2, d, h6, h7, h8, h9⟩ := h5 j v' h
            exact ⟨v2, d + 1, h6, h7, by omega, by simpa using h9⟩
        · cases h
theorem checkInt {w : World} {kt : TypeId} {k ik : IntKind} {n : Int} (hd : P.underlying kt = some (.int k)) (e : Bool) (d : Nat) : (Instr.checkKey e (d + 1) kt (.int ik n)).run P w = .ok () w := by
  simp [Instr.checkKey, run_underlying hd]
theorem checkInt' {w : World} {kt : TypeId} {k ik : IntKind} {n : Int} (hd : P.underlying kt = some (.int k)) (e : Bool) : (Instr.checkKey e 10000 kt (.int ik n)).run P w = .ok () w := checkInt hd e 9999
theorem findRun {w : World} {kt : TypeId} {k : IntKind} {key : Value} {l : List MapEntry} {a : Option (Nat × Value)} (hd : P.underlying kt = some (.int k)) (h : Instr.findNow (.int k) key l 0 = some a) : (Instr.findKey kt key l).run P w = .ok a w := by
  simp [Instr.findKey, run_underlying hd, h]
theorem intKey_some {cf : Cfg} (C : CfgOk P cf) {t : TypeId} (h : intKey cf t = true) : ∃ k, P.underlying t = some (.int k) := by
  unfold intKey at h
  split at h
  · rename_i k hk; exact ⟨k, C.kd hk⟩
  · cases h
theorem lookupA_sound {cf : Cfg} (C : CfgOk P cf) {M : Mu} {s : St} {w : World} (H : HR M s.h w) {t : TypeId} {m m' k k' v : Value} {ok : Bool} (hm : VR M m m') (hk : VR M k k') (h : lookupA cf s t m k ok = some v) :
    ∃ v', (Instr.lookup t m' k' ok).run P w = .ok v' w ∧ VR M v v' := by
  unfold lookupA at h
  split at h
  case h_2 => cases h
  rename_i kt e b ik n hkd
  cases hkey : intKey cf kt with
  | false => rw [hkey] at h; cases h
  | true =>
    rw [hkey] at h
    simp only [cond] at h
    obtain ⟨kk, hkt⟩ := intKey_some C hkey
    have ht : P.underlying t = some (.map kt e) := C.kd hkd
    split at h
    case h_2 => cases h
    rename_i es te hb hte
    have T := C.ty hte
    obtain ⟨r, rfl, hr⟩ := hm.map_inv
    cases hk.int_inv
    obtain ⟨es', ck, h1, h2, h3⟩ := H.mapAt hb hr
    have hz : VR M te.zeroV te.zeroV := by
      have hp := T.zp
      have hc := T.zc
      unfold TI.zeroV at hc ⊢
      cases hagg : te.agg with
      | true => exact .agg (scals_LR M hp)
      | false =>
        rw [hagg] at hc
        simp only [cond] at hc ⊢
        cases hz : te.zero with
        | nil => exact .undef M
        | cons v l => rw [hz] at hp; simp only [List.all_cons, Bool.and_eq_true] at hp; exact scal_VR M hp.1
    split at h
    · rename_i j v0 hf
      simp only [Option.some.injEq] at h
      obtain ⟨r', h4, _, h5⟩ := findA_sound (ik' := kk) h2 h3 hf
      obtain ⟨v', d, rfl, h6, _, _⟩ := h5 _ _ rfl
      subst h
      cases ok with
      | true => exact ⟨.tuple #[v', .bool true], by simp [Instr.lookup, run_underlying ht, getMap h1, checkInt' hkt, findRun hkt h4], .tuple (.cons h6 (.cons (.bool true) .nil))⟩
      | false => exact ⟨v', by simp [Instr.lookup, run_underlying ht, getMap h1, checkInt' hkt, findRun hkt h4], h6⟩
    · rename_i hf
      simp only [Option.some.injEq] at h
      obtain ⟨r', h4, h5, _⟩ := findA_sound (ik' := kk) h2 h3 hf
      cases h5 rfl
      subst h
      cases ok with
      | true => exact ⟨.tuple #[te.zeroV, .bool false], by simp [Instr.lookup, run_underlying ht, getMap h1, checkInt' hkt, findRun hkt h4, T.zero], .tuple (.cons hz (.cons (.bool false) .nil))⟩
      | false => exact ⟨te.zeroV, by simp [Instr.lookup, run_underlying ht, getMap h1, checkInt' hkt, findRun hkt h4, T.zero], hz⟩
    · cases h
theorem Wr.set {w : World} {r : Nat} {o : Obj} (h : w.heap[r]? = some o) (O : Obj) : Wr w { w with heap := w.heap.setIfInBounds r O } r O := by
  have hlt : r < w.heap.size := (Array.getElem?_eq_some_iff.1 h).1
  exact ⟨rfl, rfl, rfl, by simp, by simp [hlt], fun hne => by simp [Ne.symm hne]⟩
theorem setMap {w : World} {r k : Nat} {es : Array MapEntry} (o : Obj) (h : w.heap[r]? = some (.map es k)) : (setObj r o).run P w = .ok () { w with heap := w.heap.setIfInBounds r o } := by simp [setObj, Sem.run, h]
theorem keyStays {w : World} (ik : IntKind) (n : Int) : (Instr.keyThatStays (.int ik n) (.int ik n)).run P w = .ok (.int ik n) w := by
  have : Instr.sameBits 10000 (.int ik n) (.int ik n) = true := by
    unfold Instr.sameBits; simp
  simp [Instr.keyThatStays, this]
theorem updA_sound {cf : Cfg} (C : CfgOk P cf) {M : Mu} {s s' : St} {w : World} (H : HR M s.h w) (L : Li s) {t : TypeId} {m m' k k' v v' : Value} (hm : VR M m m') (hk : VR M k k') (hv : VR M v v') (h : updA cf s t m k v = some s') :
    ∃ w', (Instr.mapUpdate t m' k' v').run P w = .ok () w' ∧ HR M s'.h w' ∧ Ext M w s.n s'.t M w' s'.n ∧ Sx s s' ∧ Li s' := by
  unfold updA at h
  split at h
  case h_2 => cases h
  rename_i kt e b ik n hkd
  cases hkey : intKey cf kt with
  | false => rw [hkey] at h; cases h
  | true =>
    rw [hkey] at h
    simp only [cond] at h
    obtain ⟨kk, hkt⟩ := intKey_some C hkey
    have ht : P.underlying t = some (.map kt e) := C.kd hkd
    split at h
    case h_2 => cases h
    rename_i es hb
    obtain ⟨r, rfl, hr⟩ := hm.map_inv
    cases hk.int_inv
    obtain ⟨es', ck, h1, h2, h3⟩ := H.mapAt hb hr
    split at h
    · rename_i j v0 hf
      simp only [Option.some.injEq] at h
      obtain ⟨r', h4, _, h5⟩ := findA_sound (ik' := kk) h2 h3 hf
      obtain ⟨v2, d, rfl, h6, hjd, hkd2⟩ := h5 _ _ rfl
      have hjd : j = d := by omega
      subst hjd
      subst h
      obtain ⟨kv, hkv, hkr⟩ := h2.get hkd2
      have hold : ((es'[j]?).map (·.key)).getD (.int ik n) = .int ik n := by
        rw [List.getElem?_map, Option.map_eq_some_iff] at hkv
        obtain ⟨me, hme, rfl⟩ := hkv
        have : es'[j]? = some me := by simpa using hme
        rw [this]
        exact hkr.int_inv
      refine ⟨_, ?_, put_sound H L hb hr (Wr.set h1 (.map (es'.modify j fun e => { e with key := .int ik n, val := v' }) ck)) ⟨?_, ?_⟩⟩
      · simp [Instr.mapUpdate, run_underlying ht, getMap h1, checkInt' hkt, findRun hkt h4, hold, keyStays, setMap _ h1]
      · rw [Array.toList_modify, map_modify_same (fun p : Value × Value => p.1) (fun e => (e.1, v)) es j (fun x => rfl), map_modify (fun e : MapEntry => e.key) (fun e => { e with key := .int ik n, val := v' }) (.int ik n) es'.toList j (fun x => rfl)]
        have := h2.set j (.int ik n)
        have e0 : (es.map (·.1)).set j (.int ik n) = es.map (·.1) := by
          apply List.ext_getElem?
          intro i
          rw [List.getElem?_set]
          by_cases hij : j = i
          · subst hij
            have hlt := (List.getElem?_eq_some_iff.1 hkd2).1
            rw [if_pos rfl, if_pos hlt, hkd2]
          · rw [if_neg hij]
        rw [e0] at this
        exact this
      · rw [Array.toList_modify, map_modify (fun p : Value × Value => p.2) (fun e => (e.1, v)) v es j (fun x => rfl), map_modify (fun e : MapEntry => e.val) (fun e => { e with key := .int ik n, val := v' }) v' es'.toList j (fun x => rfl)]
        exact h3.set j hv
    · rename_i hf
      simp only [Option.some.injEq] at h
      obtain ⟨r', h4, h5, _⟩ := findA_sound (ik' := kk) h2 h3 hf
      cases h5 rfl
      subst h
      refine ⟨_, ?_, put_sound H L hb hr (Wr.set h1 (.map (es'.push { key := .int ik n, val := v', born := ck }) (ck + 1))) ⟨?_, ?_⟩⟩
      · simp [Instr.mapUpdate, run_underlying ht, getMap h1, checkInt' hkt, findRun hkt h4, setMap _ h1]
      · simp only [List.map_append, Array.toList_push, List.map_cons, List.map_nil]
        exact h2.append (.cons (.int _ _) .nil)
      · simp only [List.map_append, Array.toList_push, List.map_cons, List.map_nil]
        exact h3.append (.cons hv .nil)
    · cases h
theorem deleteA_sound {cf : Cfg} (C : CfgOk P cf) {M : Mu} {s s' : St} {w : World} (H : HR M s.h w) (L : Li s) {t : TypeId} {ts : Array TypeId} (hts : ts[0]? = some t) (ty : TypeId) {m m' k k' : Value} (hm : VR M m m') (hk : VR M k k') (h : deleteA cf s t m k = some s') :
    ∃ M' v' w', (Builtin.delete_ ts ty #[m', k']).run P w = .ok v' w' ∧ Good M s w undef s' M' v' w' := by
  unfold deleteA at h
  split at h
  case h_2 => cases h
  rename_i kt e b ik n hkd
  cases hkey : intKey cf kt with
  | false => rw [hkey] at h; cases h
  | true =>
    rw [hkey] at h
    simp only [cond] at h
    obtain ⟨kk, hkt⟩ := intKey_some C hkey
    have ht : P.underlying t = some (.map kt e) := C.kd hkd
    split at h
    case h_2 => cases h
    rename_i es hb
    obtain ⟨r, rfl, hr⟩ := hm.map_inv
    cases hk.int_inv
    obtain ⟨es', ck, h1, h2, h3⟩ := H.mapAt hb hr
    split at h
    · rename_i j v0 hf
      simp only [Option.some.injEq] at h
      obtain ⟨r', h4, _, h5⟩ := findA_sound (ik' := kk) h2 h3 hf
      obtain ⟨v2, d, rfl, h6, hjd, hkd2⟩ := h5 _ _ rfl
      subst h
      obtain ⟨hH, hE, hS, hLi⟩ := put_sound H L hb hr (Wr.set h1 (.map (es'.eraseIdxIfInBounds j) ck)) (o' := .map (es.eraseIdx j)) ⟨by
        rw [Array.toList_eraseIdxIfInBounds, map_erase, map_erase]; exact h2.erase j, by
        rw [Array.toList_eraseIdxIfInBounds, map_erase, map_erase]; exact h3.erase j⟩
      exact ⟨M, undef, _, by simp [Builtin.delete_, hts, run_underlying ht, getMap h1, checkInt' hkt, findRun hkt h4, setMap _ h1, undef], ⟨.undef M, hH, hLi, hE, hS⟩⟩
    · rename_i hf
      simp only [Option.some.injEq] at h
      obtain ⟨r', h4, h5, _⟩ := findA_sound (ik' := kk) h2 h3 hf
      cases h5 rfl
      subst h
      obtain ⟨hH, hE, hS, hLi⟩ := put_sound H L hb hr (Wr.set h1 (.map es' ck)) (o' := .map es) ⟨h2, h3⟩
      exact ⟨M, undef, _, by simp [Builtin.delete_, hts, run_underlying ht, getMap h1, checkInt' hkt, findRun hkt h4, setMap _ h1, undef], ⟨.undef M, hH, hLi, hE, hS⟩⟩
    · cases h
end Go.Proofs.YtecfnddaniphdaaGreatDoor.AM
