/-
  The abstract machine: numbers, tests.
-/
import Derived.Test.YtecfnddaniphdaaGreatDoorX4
import Derived.Laws.Pointers
import Derived.WalkSpells
set_option linter.unusedVariables false
set_option linter.unusedSimpArgs false
namespace Go.Proofs.YtecfnddaniphdaaGreatDoor.AM
variable {P : Program}

/-- a value of a type, by its cells -/
def CV (M : Mu) (ti : TI) (l : List Value) (v' : Value) : Prop :=
  (ti.agg = true ∧ ∃ ar, v' = .agg ar ∧ LR M l ar.toList) ∨ (ti.agg = false ∧ ∃ v, l = [v] ∧ VR M v v')
theorem TyOk.one_size {t : TypeId} {ti : TI} (T : TyOk P t ti) (h : ti.agg = false) : ti.size = 1 := by
  have hc := T.zc
  have hl := T.zl
  unfold TI.zeroV at hc
  rw [h] at hc
  simp only [cond] at hc
  have hp := T.zp
  cases hz : ti.zero with
  | nil => rw [hz] at hc; simp [undef, Value.cells] at hc
  | cons v l =>
    rw [hz] at hc hl hp
    simp only [List.headD_cons] at hc
    simp only [List.all_cons, Bool.and_eq_true] at hp
    have hs := hp.1
    have : v.cells.toList = [v] := by cases v <;> first | rfl | cases hs
    rw [this] at hc
    rw [← hl, ← hc]; rfl
theorem part_list {t : TypeId} {ti : TI} (T : TyOk P t ti) {M : Mu} {w : World} {cs l : List Value} {cs' : Array Value} {off : Nat} (hc : LR M cs cs'.toList)
    (h : loadN cs off ti.size = some l) : ∃ v', (part t cs' off).run P w = .ok v' w ∧ CV M ti l v' := by
  cases hagg : ti.agg with
  | true =>
    obtain ⟨v', h1, h2⟩ := part_sound T (w := w) (v := .agg ⟨l⟩) hc (by rw [hagg, h]; rfl)
    obtain ⟨ar, rfl, h3⟩ := h2.agg_inv
    exact ⟨_, h1, .inl ⟨hagg, _, rfl, h3⟩⟩
  | false =>
    have h1 := T.one_size hagg
    rw [h1] at h
    obtain ⟨e1, e2⟩ := loadN_some h
    cases l with
    | nil => cases e2
    | cons v l =>
      cases l with
      | cons _ _ => cases e2
      | nil =>
        have hv : cs[off]? = some v := by
          have := congrArg (·[0]?) e1
          simp only [List.getElem?_cons_zero, List.getElem?_take, List.getElem?_drop, Nat.add_zero] at this
          simpa using this.symm
        obtain ⟨v', h3, h4⟩ := part_sound T (w := w) (v := v) hc (by rw [hagg]; exact hv)
        exact ⟨v', h3, .inr ⟨hagg, v, rfl, h4⟩⟩
theorem one_cell {M : Mu} {ti : TI} {v x' : Value} (h : CV M ti [v] x') (ha : ti.agg = false) : VR M v x' := by
  rcases h with ⟨h, _⟩ | ⟨_, v0, h1, h2⟩
  · rw [ha] at h; cases h
  · cases h1; exact h2
theorem und_struct {t : TypeId} {fields : Array Field} (h : P.underlying t = some (.struct fields)) : P.underlying t = some (.struct (P.fieldsOf t)) := by
  rw [h]; simp [Program.fieldsOf, h]
theorem fieldsOf_eq {t : TypeId} {fields : Array Field} (h : P.underlying t = some (.struct fields)) : P.fieldsOf t = fields := by simp [Program.fieldsOf, h]
theorem eq_sound {cf : Cfg} (C : CfgOk P cf) {M : Mu} {w : World} : ∀ (f : Nat),
    (∀ {t ti xs ys x' y' b} (d : Nat), f ≤ d → cf.ty.get t = some ti → eqF cf f t xs ys = some b → CV M ti xs x' → CV M ti ys y' → (Op.equalIn d t x' y').run P w = .ok b w) ∧
    (∀ {fs : List (Nat × TypeId)} {fields : List Field} {xs ys : List Value} {ax ay : Array Value} {b : Bool} (d : Nat), f ≤ d → fields.map (fun f => (f.offset, f.type)) = fs → (∀ g ∈ fields, (g.name == "_") = false) →
      eqFs cf f fs xs ys = some b → LR M xs ax.toList → LR M ys ay.toList → (Op.eqFields d ax ay fields).run P w = .ok b w) := by
  intro f
  induction f with
  | zero => exact ⟨fun d _ _ h => by simp [eqF] at h, fun d _ _ _ h => by simp [eqFs] at h⟩
  | succ f ih =>
    refine ⟨fun {t ti xs ys x' y' b} d hd ht h hx hy => ?_, fun {fs fields xs ys ax ay b} d hd hf hn h hx hy => ?_⟩
    · obtain ⟨d, rfl⟩ : ∃ d', d = d' + 1 := ⟨d - 1, by omega⟩
      have hkd : kd cf t = some ti.k := by simp [kd, ht]
      have K := (C.ty ht).k
      unfold eqF at h
      rw [hkd] at h
      cases hk : ti.k with
      | int k =>
        rw [hk] at K h
        have hagg : ti.agg = false := by unfold TI.agg; rw [hk]
        dsimp only at h
        split at h
        · rename_i k1 a k2 b'
          split at h
          · rename_i hkk
            subst hkk
            simp only [Option.some.injEq] at h
            subst h
            cases (one_cell hx hagg).int_inv
            cases (one_cell hy hagg).int_inv
            exact run_equalIn_int w d t k1 k a b' K
          · cases h
        · rename_i i j
          unfold eqSy at h
          split at h
          · cases hc : (Nat.beq i j && Nat.blt i SYS) with
            | false => rw [hc] at h; cases h
            | true =>
              rw [hc] at h
              simp only [cond, Option.some.injEq] at h
              subst h
              simp only [Bool.and_eq_true] at hc
              have e := Nat.eq_of_beq_eq_true hc.1
              have hlt := Nat.blt_eq.mp hc.2
              subst e
              have h1 := one_cell hx hagg
              have h2 := one_cell hy hagg
              cases h1 with
              | sym _ hv1 ho1 =>
              cases h2 with
              | sym _ hv2 ho2 =>
              rcases ho1 with ⟨_, n, rfl⟩ | ⟨hge, _⟩ | ⟨hge, _⟩
              · subst hv2
                rw [hv1]
                have := run_equalIn_int w d t .i64 .i64 n n K
                rw [this]
                simp
              · omega
              · omega
          · cases h
        · cases h
      | bool =>
        rw [hk] at K h
        have hagg : ti.agg = false := by unfold TI.agg; rw [hk]
        dsimp only at h
        split at h
        · simp only [Option.some.injEq] at h
          subst h
          cases (one_cell hx hagg).bool_inv
          cases (one_cell hy hagg).bool_inv
          exact run_equalIn_bool w d t _ _ K
        · cases h
      | struct fs =>
        rw [hk] at K h
        have hagg : ti.agg = true := by unfold TI.agg; rw [hk]
        dsimp only at h
        obtain ⟨fields, h1, h2, h3, h4, h5⟩ := K
        rcases hx with ⟨_, ax, rfl, hx⟩ | ⟨h0, _⟩
        · rcases hy with ⟨_, ay, rfl, hy⟩ | ⟨h0, _⟩
          · rw [run_equalIn_struct w d t ax ay (und_struct h1) h4, fieldsOf_eq h1]
            exact ih.2 d (by omega) h2 (fun g hg => (h3 g hg).2) h hx hy
          · rw [hagg] at h0; cases h0
        · rw [hagg] at h0; cases h0
      | _ => rw [hk] at h; cases h
    · cases fs with
      | nil =>
        have hnil : fields = [] := by simpa using hf
        subst hnil
        simp only [eqFs, Option.some.injEq] at h
        subst h
        rfl
      | cons p fs =>
        obtain ⟨off, e⟩ := p
        cases fields with
        | nil => cases hf
        | cons g fields =>
          simp only [List.map_cons, List.cons.injEq, Prod.mk.injEq] at hf
          obtain ⟨⟨rfl, rfl⟩, hf⟩ := hf
          unfold eqFs at h
          split at h
          case h_2 => cases h
          rename_i a b0 ha hb
          have hname : g.name ≠ "_" := by have := hn g (by simp); simpa using this
          cases hte : cf.ty.get g.type with
          | none =>
            have : eqF cf f g.type a b0 = none := by cases f <;> simp [eqF, kd, hte]
            rw [this] at h
            cases h
          | some te =>
            have hsz : szd cf g.type = te.size := by simp [szd, hte]
            rw [hsz] at ha hb
            obtain ⟨va, h1, h2⟩ := part_list (C.ty hte) (w := w) hx ha
            obtain ⟨vb, h3, h4⟩ := part_list (C.ty hte) (w := w) hy hb
            split at h
            · rename_i h5
              have h6 := ih.1 d (by omega) hte h5 h2 h4
              have h7 := ih.2 d (by omega) hf (fun x hx => hn x (by simp [hx])) h hx hy
              simp [Op.eqFields, hname, h1, h3, h6, h7]
            · rename_i r hne
              cases b with
              | true => exact absurd h hne
              | false =>
                have h6 := ih.1 d (by omega) hte h h2 h4
                simp [Op.eqFields, hname, h1, h3, h6]
theorem intB_sound {w : World} {op : BinOp} {k : IntKind} {a b : Int} {v : Value} {t : TypeId} (h : intB op k a b = some v) (hs : op ≠ .shl) (hs' : op ≠ .shr) : (binOp op t (.int k a) (.int k b)).run P w = .ok v w := by
  cases op <;> simp only [intB] at h <;> first
    | (cases h; done)
    | exact absurd rfl hs
    | exact absurd rfl hs'
    | (simp only [Option.some.injEq] at h; subst h; simp [binOp, Op.intArith, Op.intBits, Op.intCmp]; done)
    | (split at h; · cases h
       · rename_i hb; simp only [Option.some.injEq] at h; subst h; simp [binOp, Op.intDiv, hb])
theorem shB_sound {w : World} {op : BinOp} {k yk : IntKind} {a b : Int} {v : Value} (h : shB op k a b = some v) : (Op.shift op k a yk b).run P w = .ok v w := by
  unfold shB at h
  split at h
  · cases h
  · rename_i hb
    cases op <;> simp only [Option.some.injEq] at h <;> first | (cases h; done) | (subst h; simp [Op.shift, hb])
theorem binI_sound {w : World} {op : BinOp} {k k' : IntKind} {a b : Int} {v : Value} {t : TypeId} (h : binI op k k' a b = some v) : (binOp op t (.int k a) (.int k' b)).run P w = .ok v w := by
  by_cases h1 : op = .shl
  · subst h1; exact shB_sound (op := .shl) (yk := k') (show shB .shl k a b = some v from h)
  · by_cases h2 : op = .shr
    · subst h2; exact shB_sound (op := .shr) (yk := k') (show shB .shr k a b = some v from h)
    · have h3 : (if k = k' then intB op k a b else none) = some v := by cases op <;> first | exact h | exact absurd rfl h1 | exact absurd rfl h2
      split at h3
      · rename_i e; subst e; exact intB_sound h3 h1 h2
      · cases h3
end Go.Proofs.YtecfnddaniphdaaGreatDoor.AM
