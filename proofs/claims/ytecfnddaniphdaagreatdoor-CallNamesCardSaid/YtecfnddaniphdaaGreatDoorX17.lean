/-
  The abstract machine: what is claimed of a task; operations in a row.
-/
import Derived.Test.YtecfnddaniphdaaGreatDoorX16
import Derived.RangeFuncLeaves
import Derived.OrdersIn
set_option linter.unusedVariables false
set_option linter.unusedSimpArgs false
namespace Go.Proofs.YtecfnddaniphdaaGreatDoor.AM
variable {P : Program}

/-- every machine is let in; r: of which record the frames are rounds -/
def WF (r : Option Nat) : Fence := { Fence.wide with round := r }
inductive MK (M : Mu) : List Nat → List Deferred → Prop
  | nil : MK M [] []
  | cons {b r : Nat} {l : List Nat} {l' : List Deferred} (h : M.m b r) (t : MK M l l') : MK M (b :: l) ({ target := .collected r, args := #[] } :: l')
theorem MK.mono {M M' : Mu} (hM : M.le M') {l : List Nat} {l' : List Deferred} (h : MK M l l') : MK M' l l' := by
  induction h with
  | nil => exact .nil
  | cons h t ih => exact .cons (hM.m h) ih
inductive RO (M : Mu) : Option Nat → Option Nat → Prop
  | none : RO M none none
  | some {l l' : Nat} (h : M.m l l') : RO M (some l) (some l')
theorem RO.mono {M M' : Mu} (hM : M.le M') {l l' : Option Nat} (h : RO M l l') : RO M' l l' := by
  cases h with
  | none => exact .none
  | some h => exact .some (hM.m h)
structure FrR (M : Mu) (fr : AF) (a : Act) (r : Option Nat) : Prop where
  t : TRR M fr.T a.tmps
  sz : a.tmps.size = fr.sz
  md : MK M fr.marks a.defers
  ro : RO M fr.round r
theorem FrR.mono {M M' : Mu} (hM : M.le M') {fr : AF} {a : Act} {r : Option Nat} (h : FrR M fr a r) : FrR M' fr a r := ⟨h.t.mono hM, h.sz, h.md.mono hM, h.ro.mono hM⟩
def exR : Ex → Exit
  | .normal => .normal
  | .exit id => .exit id
  | .ret => .ret
/-- behind a piece of code -/
def PostE (M : Mu) (s : St) (w : World) (r : Option Nat) (e : Ex) (fr' : AF) (s' : St) : Exit → Act → World → Prop := fun x a' w' =>
  x = exR e ∧ ∃ M', FrR M' fr' a' r ∧ HR M' s'.h w' ∧ Li s' ∧ Ext M w s.n s'.t M' w' s'.n ∧ Sx s s'
/-- a loop that comes to an end -/
inductive LI (F : Fence) (n : Nat) (P : Program) (c : Code) (Q : Exit → Act → World → Prop) : Act → World → Prop
  | mk {a : Act} {w : World} (K : Act → World → Prop) (h : c.wpIn F n P (Exit.then K Q) a w) (hk : ∀ a w, K a w → LI F n P c Q a w) : LI F n P c Q a w
theorem LI.wp {F : Fence} {n : Nat} {P : Program} {c : Code} {Q : Exit → Act → World → Prop} {a : Act} {w : World} (h : LI F n P c Q a w) : (Code.loop c).wpIn F n P Q a w := by
  intro b k cs hro hb hr
  have key : ∃ e a' w', Q e a' w' ∧ ArrivesIn (Machine.fenced P F) P (lone (b.atR a (.code c :: .inLoop c :: k)) cs w) b k cs e a' w' := by
    induction h with
    | mk K h hk ih =>
      obtain ⟨e, a₁, w₁, hq, harr⟩ := h b (.inLoop c :: k) cs hro hb hr
      cases e with
      | normal =>
        obtain ⟨e₂, a₂, w₂, hq₂, harr₂⟩ := ih a₁ w₁ hq
        exact ⟨e₂, a₂, w₂, hq₂, .of_steps (StepsIn.trans harr (.one (fenced_calm hb hr rfl) stepR_inLoop)) harr₂⟩
      | exit id => exact ⟨_, a₁, w₁, hq, .pass (x := .inLoop c) rfl (fun _ _ => .inl (by simp)) harr⟩
      | goto l => exact ⟨_, a₁, w₁, hq, .pass (x := .inLoop c) rfl (fun _ _ => .inl (by simp)) harr⟩
      | ret => exact ⟨_, a₁, w₁, hq, .pass (x := .inLoop c) rfl (fun _ _ => .inl (by simp)) harr⟩
      | panic ch => exact ⟨_, a₁, w₁, hq, .pass (x := .inLoop c) rfl (fun _ _ => .inl (by simp)) harr⟩
      | outgrown => exact ⟨_, a₁, w₁, hq, .pass (x := .inLoop c) rfl (fun _ _ => .inl (by simp)) harr⟩
  obtain ⟨e, a', w', hq, harr⟩ := key
  exact ⟨e, a', w', hq, .of_steps (.one (fenced_calm hb hr rfl) stepR_loop) harr⟩
theorem LI.mono {F : Fence} {n : Nat} {P : Program} {c : Code} {Q Q' : Exit → Act → World → Prop} (h : ∀ e a w, Q e a w → Q' e a w) {a : Act} {w : World} (k : LI F n P c Q a w) : LI F n P c Q' a w := by
  induction k with
  | mk K h1 hk ih => exact .mk K (wpIn_mono h1 fun e a' w' he => by cases e <;> first | exact he | exact h _ _ _ he) ih
def WX (F : Fence) (n : Nat) (P : Program) (c : Code) (Q : Exit → Act → World → Prop) (a : Act) (w : World) : Prop :=
  match c with
  | .loop b => LI F n P b Q a w
  | c => c.wpIn F n P Q a w
theorem WX.wp {F : Fence} {n : Nat} {P : Program} {c : Code} {Q : Exit → Act → World → Prop} {a : Act} {w : World} (h : WX F n P c Q a w) : c.wpIn F n P Q a w := by
  cases c with
  | loop b => exact LI.wp h
  | _ => exact h
theorem WX.mono {F : Fence} {n : Nat} {P : Program} {c : Code} {Q Q' : Exit → Act → World → Prop} (h : ∀ e a w, Q e a w → Q' e a w) {a : Act} {w : World} (k : WX F n P c Q a w) : WX F n P c Q' a w := by
  cases c with
  | loop b => exact LI.mono h k
  | _ => exact wpIn_mono k h
def SExec (P : Program) (cf : Cfg) (c : Code) (fr : AF) (s : St) (e : Ex) (fr' : AF) (s' : St) : Prop :=
  s.n ≤ s'.n ∧ ∀ M w a r, HR M s.h w → Li s → Fresh M s.n s'.n → GLok M cf → FrR M fr a r → WX (WF r) 0 P c (PostE M s w r e fr' s') a w
def PostC (M : Mu) (s : St) (w : World) (v : Value) (s' : St) : Ending → World → Prop := fun e w' => ∃ M' v', e = .returned v' ∧ Good M s w v s' M' v' w'
def Ent (P : Program) (f : FuncId) : Prop := ∀ (args : Array Value) (w : World), (callFunc f args).run P w = .ok (.enter f args) w
def SCall (P : Program) (cf : Cfg) (f : FuncId) (args : List Value) (s : St) (v : Value) (s' : St) : Prop :=
  s.n ≤ s'.n ∧ Ent P f ∧ ∀ M w (args' : Array Value), HR M s.h w → Li s → Fresh M s.n s'.n → GLok M cf → LR M args args'.toList → CallsIn Fence.wide 0 P f args' w (PostC M s w v s')
def TaskOk (P : Program) (cf : Cfg) : Task → Out → Prop
  | .exec c fr s, .ex e fr' s' => SExec P cf c fr s e fr' s'
  | .call f args s, .ret v s' => SCall P cf f args s v s'
  | _, _ => False
theorem ent_of {f : FuncId} {x : AFn} (h : FnOk P f x) : Ent P f := by
  obtain ⟨fn, h1, h2, h3, h4, h5⟩ := h.fn
  intro args w
  have hn : fn.name ≠ "runtime.NumGoroutine" := by simpa using h5
  simp [callFunc, h1, hn, h2]
theorem wf_fn {r : Option Nat} (f : FuncId) : (WF r).fn f := trivial
theorem wf_depth {r : Option Nat} {n : Nat} : (WF r).depth.isSome = true → 1 ≤ n := fun h => by simp [WF, Fence.wide] at h
theorem wf_round (l : Nat) (r : Option Nat) : (WF r).inRound l = WF (some l) := rfl

/-! ### Temporaries -/
theorem put_T {M : Mu} {fr fr' : AF} {a : Act} {r : Option Nat} {d : Option Tmp} {v v' : Value} (h : FrR M fr a r) (hv : VR M v v') (hp : fr.put d v = some fr') : FrR M fr' (a.put d v') r := by
  unfold AF.put at hp
  cases d with
  | none => simp only [Option.some.injEq] at hp; subst hp; exact h
  | some d =>
    simp only at hp
    obtain ⟨hc, hp⟩ := cond_some hp
    simp only [Option.some.injEq] at hp
    simp only [Bool.and_eq_true] at hc
    have hlt := Nat.blt_eq.mp hc.1
    subst hp
    refine ⟨fun t u ht => ?_, by simpa [Act.put] using h.sz, h.md, h.ro⟩
    rw [TR.get_setS hc.2] at ht
    have hsz : d < a.tmps.size := by rw [h.sz]; exact hlt
    by_cases e : t = d
    · subst e
      rw [if_pos rfl] at ht
      simp only [Option.some.injEq] at ht
      subst ht
      simp only [Act.put, Array.getD_eq_getD_getElem?, Array.getElem?_setIfInBounds_self_of_lt hsz, Option.getD_some]
      exact hv
    · rw [if_neg e] at ht
      simp only [Act.put, Array.getD_eq_getD_getElem?, Array.getElem?_setIfInBounds_ne (Ne.symm e)]
      have := h.t t u ht
      simpa only [Array.getD_eq_getD_getElem?] using this
theorem want_sound {M : Mu} {fr : AF} {a : Act} {r : Option Nat} {ops : Array Oper} {o : Oper} {b : Bool} (h : FrR M fr a r) (hw : wantA ops.toList fr.T o = some b) : Region.wanted o (yielded ops a.tmps) = b := by
  unfold wantA at hw
  unfold Region.wanted
  cases hg : o.guard with
  | none => rw [hg] at hw; simp only [Option.some.injEq] at hw; simp [hw]
  | some p =>
    obtain ⟨j, w⟩ := p
    rw [hg] at hw
    simp only at hw ⊢
    have hj : ops.toList[j]? = ops[j]? := by simp
    rw [hj] at hw
    unfold wantB at hw
    unfold yielded
    cases hd : (ops[j]?).bind (·.dst) with
    | none => rw [hd] at hw; cases hw
    | some d =>
      rw [hd] at hw
      simp only at hw
      split at hw
      · rename_i b0 hb
        simp only [Option.some.injEq] at hw
        have := h.t d _ hb
        have hv := this.bool_inv
        rw [Array.getD_eq_getD_getElem?] at hv
        cases hx : a.tmps[d]? with
        | none => rw [hx] at hv; simp [undef] at hv
        | some x =>
          rw [hx] at hv
          simp only [Option.getD_some] at hv
          subst hv
          simp only [Option.bind_some, hx]
          subst hw
          cases b0 <;> cases w <;> rfl
      · rename_i cs hb
        simp only [Option.some.injEq] at hw
        subst hw
        have hv := h.t d _ hb
        rw [Array.getD_eq_getD_getElem?] at hv
        simp only [Option.bind_some]
        cases hx : a.tmps[d]? with
        | none => rfl
        | some x =>
          rw [hx] at hv
          simp only [Option.getD_some] at hv
          cases hv
          rfl
      · cases hw
theorem bind_sound {M : Mu} : ∀ {ps : List Tmp} {args args' : List Value} {T : TR Value} {t : Array Value} (sz : Nat), (ps.all fun p => Nat.blt p sz && small p) = true → LR M args args' → TRR M T t → t.size = sz → ps.length = args.length →
    TRR M (bindT T ps args) ((ps.zip args').foldl (fun t p => t.setIfInBounds p.1 p.2) t) ∧ ((ps.zip args').foldl (fun t p => t.setIfInBounds p.1 p.2) t).size = sz
  | [], [], _, T, t, sz, _, .nil, hT, hs, _ => ⟨hT, hs⟩
  | [], _ :: _, _, T, t, sz, _, _, hT, hs, hl => by cases hl
  | _ :: _, [], _, T, t, sz, _, _, hT, hs, hl => by cases hl
  | p :: ps, v :: vs, _, T, t, sz, ha, .cons (v' := v') hv tl, hT, hs, hl => by
    simp only [List.all_cons, Bool.and_eq_true] at ha
    obtain ⟨⟨h1, h2⟩, h3⟩ := ha
    have hlt : p < t.size := by rw [hs]; exact Nat.blt_eq.mp h1
    simp only [bindT, List.zip_cons_cons, List.foldl_cons]
    refine bind_sound sz h3 tl (fun x u hx => ?_) (by simpa using hs) (by simpa using hl)
    rw [TR.get_setS h2] at hx
    by_cases e : x = p
    · subst e
      rw [if_pos rfl] at hx
      simp only [Option.some.injEq] at hx
      subst hx
      simp only [Array.getD_eq_getD_getElem?, Array.getElem?_setIfInBounds_self_of_lt hlt, Option.getD_some]
      exact hv
    · rw [if_neg e] at hx
      simp only [Array.getD_eq_getD_getElem?, Array.getElem?_setIfInBounds_ne (Ne.symm e)]
      have := hT x u hx
      simpa only [Array.getD_eq_getD_getElem?] using this
end Go.Proofs.YtecfnddaniphdaaGreatDoor.AM
