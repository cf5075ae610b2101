/-
  The abstract machine: an operation, calls and all; operations in a row.
-/
import Derived.Test.YtecfnddaniphdaaGreatDoorX18
set_option linter.unusedVariables false
set_option linter.unusedSimpArgs false
namespace Go.Proofs.YtecfnddaniphdaaGreatDoor.AM
variable {P : Program}

def OVal (x : Option Got) : Prop := ∀ g, x = some g → ∃ v s', g = .val v s'
theorem OVal.none : OVal none := fun g h => by cases h
theorem OVal.val (v : Value) (s : St) : OVal (some (.val v s)) := fun g h => by cases h; exact ⟨_, _, rfl⟩
theorem OVal.vA (s : St) (r : Option Value) : OVal (vA s r) := fun g h => by
  simp only [AM.vA, Option.map_eq_some_iff] at h; obtain ⟨_, _, rfl⟩ := h; exact ⟨_, _, rfl⟩
theorem OVal.uA (r : Option St) : OVal (uA r) := fun g h => by
  simp only [AM.uA, Option.map_eq_some_iff] at h; obtain ⟨_, _, rfl⟩ := h; exact ⟨_, _, rfl⟩
theorem OVal.rA (r : Option (Value × St)) : OVal (rA r) := fun g h => by
  simp only [AM.rA, Option.map_eq_some_iff] at h; obtain ⟨_, _, rfl⟩ := h; exact ⟨_, _, rfl⟩
theorem OVal.map {α : Type} (r : Option α) (f : α → Value) (k : α → St) : OVal (r.map fun x => .val (f x) (k x)) := fun g h => by
  simp only [Option.map_eq_some_iff] at h; obtain ⟨_, _, rfl⟩ := h; exact ⟨_, _, rfl⟩
theorem OVal.bind {α : Type} {x : Option α} {f : α → Option Got} (h : ∀ v, OVal (f v)) : OVal (x.bind f) := fun g hg => by
  simp only [Option.bind_eq_some_iff] at hg; obtain ⟨v, _, hv⟩ := hg; exact h v g hv
theorem OVal.cond {b : Bool} {x y : Option Got} (h : OVal x) (k : OVal y) : OVal (cond b x y) := by cases b <;> assumption
theorem OVal.on1 {cf : Cfg} {T : TR Value} {x : Operand} {f : Value → Option Got} (h : ∀ v, OVal (f v)) : OVal (on1 cf T x f) := OVal.bind h
theorem OVal.on2 {cf : Cfg} {T : TR Value} {x y : Operand} {f : Value → Value → Option Got} (h : ∀ u v, OVal (f u v)) : OVal (on2 cf T x y f) := OVal.bind fun u => OVal.bind (h u)
theorem builtin_OV (b : Builtin) (cf : Cfg) (s : St) (args : List Value) (ts : List TypeId) : OVal (builtinA b cf s args ts) := by
  have hf : ∀ f, OVal (bFold s f args) := fun f => by unfold bFold; split <;> first | exact OVal.map _ _ _ | exact OVal.none
  cases b with
  | append => show OVal (bAppend cf s args ts); unfold bAppend; split <;> first | exact OVal.map _ _ _ | exact OVal.none
  | len => show OVal (bLen cf s args ts); unfold bLen; split <;> first | exact OVal.map _ _ _ | exact OVal.none
  | copy => show OVal (bCopy cf s args ts); unfold bCopy; split <;> first | exact OVal.map _ _ _ | exact OVal.none
  | clear => show OVal (bClear cf s args ts); unfold bClear; split <;> first | exact OVal.map _ _ _ | exact OVal.none
  | delete => show OVal (bDelete cf s args ts); unfold bDelete; split <;> first | exact OVal.map _ _ _ | exact OVal.none
  | cap => show OVal (bCap cf s args ts); unfold bCap; split <;> first | exact OVal.map _ _ _ | exact OVal.none
  | max => exact hf _
  | min => exact hf _
  | _ => exact OVal.none
theorem opA_isVal {cf : Cfg} {s : St} {T : TR Value} (o : Op) : OVal (opA o cf s T) ∨ ∃ c, o = .call c := by
  cases o with
  | move x => exact .inl (OVal.vA _ _)
  | assign x => exact .inl (OVal.vA _ _)
  | pick c x y => exact .inl (OVal.on1 fun v => by unfold oPick; split <;> first | exact OVal.vA _ _ | exact OVal.none)
  | alloc e => exact .inl (by show OVal (oAlloc cf s e); unfold oAlloc; split <;> first | exact OVal.cond (OVal.val _ _) OVal.none | exact OVal.none)
  | box t x => exact .inl (OVal.on1 fun v => OVal.cond (OVal.val _ _) OVal.none)
  | build t ps => exact .inl (OVal.bind fun _ => OVal.vA _ _)
  | buildSlice t n ps => exact .inl (OVal.bind fun _ => OVal.rA _)
  | load t a => exact .inl (OVal.on1 fun v => OVal.vA _ _)
  | store t a x => exact .inl (OVal.on2 fun u v => OVal.uA _)
  | nilCheck x => exact .inl (OVal.on1 fun v => by unfold oNil; split <;> first | exact OVal.val _ _ | exact OVal.none)
  | binOp op t x y yt => exact .inl (OVal.on2 fun u v => OVal.vA _ _)
  | unOp op t x => exact .inl (OVal.on1 fun v => OVal.vA _ _)
  | convert a d x => exact .inl (OVal.on1 fun v => by
      unfold oConv; split
      · split <;> first | exact OVal.val _ _ | exact OVal.none
      · exact OVal.none)
  | makeFunc fn f c => exact .inl (by
      show OVal (oFunc cf s T f.toList c.toList fn)
      unfold oFunc; split
      · split <;> first | exact OVal.val _ _ | exact OVal.none
      · exact OVal.none)
  | makeMap t r => exact .inl (by
      show OVal (oMap s r)
      unfold oMap; split
      · exact OVal.cond (OVal.val _ _) OVal.none
      · exact OVal.none)
  | makeSlice t l c => exact .inl (OVal.on2 fun u v => OVal.rA _)
  | slice t x lo hi mx => exact .inl (by
      show OVal (oSlice cf s T t x lo hi mx)
      unfold oSlice; split
      · exact OVal.vA _ _
      · exact OVal.none)
  | fieldAddr t x f => exact .inl (OVal.on1 fun v => OVal.vA _ _)
  | field t x f => exact .inl (OVal.on1 fun v => OVal.vA _ _)
  | indexAddr t x i => exact .inl (OVal.on2 fun u v => OVal.vA _ _)
  | index t x i => exact .inl (OVal.on2 fun u v => OVal.vA _ _)
  | lookup t m k ok => exact .inl (OVal.on2 fun u v => OVal.vA _ _)
  | mapUpdate t m k x => exact .inl (OVal.on2 fun u v => OVal.on1 fun z => OVal.uA _)
  | insert t m k x => exact .inl (OVal.on2 fun u v => OVal.on1 fun z => OVal.uA _)
  | extract x i => exact .inl (OVal.on1 fun v => by unfold oExtract; split <;> first | exact OVal.vA _ _ | exact OVal.none)
  | call c => exact .inr ⟨c, rfl⟩
  | _ => exact .inl OVal.none
theorem opA_noDefer {cf : Cfg} {s : St} {T : TR Value} {o : Op} {g : Got} (h : opA o cf s T = some g) (c : Call) : o ≠ .defer c := by
  rintro rfl; cases h
theorem callV_not {args : List Value} {x : Value} {v : Value} {s : St} : callV args x ≠ some (.val v s) := fun h => by
  rcases callV_some h with ⟨f, a, b, _, h⟩ | ⟨f, a, b, _, h⟩ <;> cases h
section
variable {cf : Cfg} {rec : Task → Option Out}
theorem operA_n (ih : ∀ t o, rec t = some o → TaskOk P cf t o) {fr : AF} {s s' : St} {o : Op} {v : Value} (h : operA cf rec fr s o = some (v, s')) : s.n ≤ s'.n := by
  simp only [operA, Option.bind_eq_some_iff] at h
  obtain ⟨g, hg, h⟩ := h
  cases g with
  | val u t =>
    simp only [gotA, Option.some.injEq, Prod.mk.injEq] at h
    obtain ⟨rfl, rfl⟩ := h
    exact opA_n hg
  | call f args =>
    unfold gotA at h
    simp only at h
    split at h
    · rename_i v1 s1 h1
      simp only [Option.some.injEq, Prod.mk.injEq] at h
      obtain ⟨rfl, rfl⟩ := h
      have t1 : SCall P cf _ _ _ _ _ := ih _ _ h1
      exact t1.1
    · cases h
  | yield l args =>
    simp only [gotA, Option.bind_eq_some_iff] at h
    obtain ⟨L, hL, h⟩ := h
    exact yieldR_n ih h
theorem wf_about {r : Option Nat} {o : Oper} {w : World} {ρ : Operand → Value} : ∀ f, o.about P w ρ = some f → (WF r).fn f := fun f _ => trivial
theorem oper_sound (C : CfgOk P cf) (ih : ∀ t o, rec t = some o → TaskOk P cf t o) {fr : AF} {s s' : St} {o : Oper} {v : Value} (h : operA cf rec fr s o.op = some (v, s'))
    {M : Mu} {w : World} {a : Act} (r : Option Nat) (H : HR M s.h w) (L : Li s) (F : Fresh M s.n s'.n) (hG : GLok M cf) (hT : TRR M fr.T a.tmps) {K : Act → World → Prop} {Q : Exit → Act → World → Prop}
    (hK : ∀ M' v' w', Good M s w v s' M' v' w' → K (a.put o.dst v') w') : o.wpIn (WF r) 0 P a w K Q := by
  simp only [operA, Option.bind_eq_some_iff] at h
  obtain ⟨g, hg, h⟩ := h
  refine ⟨wf_about, ?_⟩
  rw [Oper.semAt_eq _ _ _ (opA_noDefer hg)]
  cases g with
  | val u t =>
    simp only [gotA, Option.some.injEq, Prod.mk.injEq] at h
    obtain ⟨rfl, rfl⟩ := h
    obtain ⟨M', v', w', hy, G⟩ := opA_val C H L hT hG o hg F
    rcases hy with hy | ⟨hy, rfl⟩
    · rw [hy, Oper.uponIn_value]; exact hK _ _ _ G
    · rw [hy, Oper.uponIn_skip]; exact hK _ _ _ G
  | call f args =>
    obtain ⟨dst, op, ty, pos, after, guard⟩ := o
    rcases opA_isVal (cf := cf) (s := s) (T := fr.T) op with k | ⟨c, rfl⟩
    · obtain ⟨_, _, k⟩ := k _ hg; cases k
    obtain ⟨vs, h1, ⟨fx, x, h2, h3, h4⟩ | ⟨b, h2, h3⟩⟩ := callA_cases (show callA cf s fr.T c = _ from hg)
    · rcases callV_some h4 with ⟨f', first, cap, rfl, he⟩ | ⟨f', a, b, _, he⟩
      · cases he
        obtain ⟨fn', first', cap', hx', hf, ha, hc⟩ := (ev_sound hT hG h3).fn_inv
        cases FnR.map_inv hf
        unfold gotA at h
        simp only at h
        split at h
        case h_2 => cases h
        rename_i v1 s1 hr
        simp only [Option.some.injEq, Prod.mk.injEq] at h
        obtain ⟨rfl, rfl⟩ := h
        have t1 : SCall P cf _ _ _ _ _ := ih _ _ hr
        have e : (execOp a.eval ⟨dst, .call c, ty, pos, after, guard⟩).run P w = .ok (.enter f (first' ++ c.args.map a.eval ++ cap')) w := by
          show (do let d ← resolve a.eval c ty; invoke d.target d.args : Sem Next).run P w = _
          rw [call_value h2 hx']
          exact t1.2.1 _ _
        rw [e, Oper.uponIn_enter]
        refine ⟨wf_depth, ?_⟩
        have hl : LR M (first.toList ++ vs ++ cap.toList) (first' ++ c.args.map a.eval ++ cap').toList := by
          simp only [Array.toList_append, Array.toList_map]
          exact (ha.append (evs_sound hT hG h1)).append hc
        have := t1.2.2 M w _ H L F hG hl
        refine CallsIn.mono this ?_
        rintro e w' ⟨M', v', rfl, G⟩
        exact hK _ _ _ G
      · cases he
    · obtain ⟨_, _, k⟩ := builtin_OV _ _ _ _ _ _ h3; cases k
  | yield l args =>
    obtain ⟨dst, op, ty, pos, after, guard⟩ := o
    rcases opA_isVal (cf := cf) (s := s) (T := fr.T) op with k | ⟨c, rfl⟩
    · obtain ⟨_, _, k⟩ := k _ hg; cases k
    obtain ⟨vs, h1, ⟨fx, x, h2, h3, h4⟩ | ⟨b, h2, h3⟩⟩ := callA_cases (show callA cf s fr.T c = _ from hg)
    · rcases callV_some h4 with ⟨f', first, cap, rfl, he⟩ | ⟨l', first, cap, rfl, he⟩
      · cases he
      · cases he
        obtain ⟨fn', first', cap', hx', hf, ha, hc⟩ := (ev_sound hT hG h3).fn_inv
        cases hf with
        | yield hl =>
        rename_i l'
        simp only [gotA, Option.bind_eq_some_iff] at h
        obtain ⟨L0, hL0, h⟩ := h
        have hl2 : LR M (first.toList ++ vs) (first' ++ c.args.map a.eval).toList := by
          simp only [Array.toList_append, Array.toList_map]
          exact ha.append (evs_sound hT hG h1)
        obtain ⟨fn, tmps, assign, body, hrun, hround⟩ := yieldR_sound (P := P) ih h hL0 H L F hG hl hl2 r
        have e : (execOp a.eval ⟨dst, .call c, ty, pos, after, guard⟩).run P w = .ok (.round l' fn tmps assign body) w := by
          show (do let d ← resolve a.eval c ty; invoke d.target d.args : Sem Next).run P w = _
          rw [call_value h2 hx']
          exact hrun
        rw [e, Oper.uponIn_round]
        refine ⟨wf_depth, hround.mono ?_⟩
        rintro e w' ⟨M', v', rfl, G⟩
        exact hK _ _ _ G
    · obtain ⟨_, _, k⟩ := builtin_OV _ _ _ _ _ _ h3; cases k

/-! ### Operations in a row -/
theorem opsA_nil {all : List Oper} {fr : AF} {s : St} : opsA cf rec all [] fr s = some (fr, s) := rfl
theorem opsA_cons {all : List Oper} {o : Oper} {l : List Oper} {fr : AF} {s : St} : opsA cf rec all (o :: l) fr s = opGo (wantA all fr.T o) cf rec o (opsA cf rec all l) fr s := rfl
theorem opGo_some {w : Option Bool} {o : Oper} {next : AF → St → Option (AF × St)} {fr : AF} {s : St} {r : AF × St} (h : opGo w cf rec o next fr s = some r) :
    (w = some false ∧ ∃ fr1, fr.put o.dst undef = some fr1 ∧ next fr1 s = some r) ∨ (w = some true ∧ ∃ v s1, operA cf rec fr s o.op = some (v, s1) ∧ ∃ fr1, fr.put o.dst v = some fr1 ∧ next fr1 s1 = some r) := by
  cases w with
  | none => cases h
  | some b =>
    cases b with
    | false =>
      replace h : ((fr.put o.dst undef).bind fun fr => next fr s) = some r := h
      simp only [Option.bind_eq_some_iff] at h
      exact .inl ⟨rfl, h⟩
    | true =>
      replace h : ((operA cf rec fr s o.op).bind fun r => (fr.put o.dst r.1).bind fun fr => next fr r.2) = some r := h
      simp only [Option.bind_eq_some_iff] at h
      obtain ⟨⟨v, s1⟩, h0, fr1, h1, h2⟩ := h
      exact .inr ⟨rfl, v, s1, h0, fr1, h1, h2⟩
theorem AF.put_md {fr fr' : AF} {d : Option Tmp} {v : Value} (h : fr.put d v = some fr') : fr'.marks = fr.marks ∧ fr'.round = fr.round ∧ fr'.sz = fr.sz := by
  unfold AF.put at h
  cases d with
  | none => simp only [Option.some.injEq] at h; subst h; exact ⟨rfl, rfl, rfl⟩
  | some d =>
    obtain ⟨_, h⟩ := cond_some h
    simp only [Option.some.injEq] at h; subst h; exact ⟨rfl, rfl, rfl⟩
theorem opsA_n (ih : ∀ t o, rec t = some o → TaskOk P cf t o) {all : List Oper} : ∀ {l : List Oper} {fr fr' : AF} {s s' : St}, opsA cf rec all l fr s = some (fr', s') → s.n ≤ s'.n
  | [], fr, fr', s, s', h => by
    rw [opsA_nil] at h
    simp only [Option.some.injEq, Prod.mk.injEq] at h
    obtain ⟨_, rfl⟩ := h
    exact Nat.le_refl _
  | o :: l, fr, fr', s, s', h => by
    rw [opsA_cons] at h
    rcases opGo_some h with ⟨hw, fr1, h1, h2⟩ | ⟨hw, v, s1, h0, fr1, h1, h2⟩
    · exact opsA_n ih h2
    · exact Nat.le_trans (operA_n ih h0) (opsA_n ih h2)
theorem opsA_sound (C : CfgOk P cf) (ih : ∀ t o, rec t = some o → TaskOk P cf t o) {ops : Array Oper} (r : Option Nat) {Q : Exit → Act → World → Prop} : ∀ (l : List Oper) (k : Nat), ops.toList.drop k = l → ∀ {fr fr' : AF} {s s' : St}, opsA cf rec ops.toList l fr s = some (fr', s') →
    ∀ {M : Mu} {w : World} {a : Act}, HR M s.h w → Li s → Fresh M s.n s'.n → GLok M cf → FrR M fr a r → (∀ a' w', (∃ M', FrR M' fr' a' r ∧ HR M' s'.h w' ∧ Li s' ∧ Ext M w s.n s'.t M' w' s'.n ∧ Sx s s') → Q .normal a' w') →
    wpOpsIn (WF r) 0 P ops Q (List.range' k l.length) a w
  | [], k, hk, fr, fr', s, s', h, M, w, a, H, L, F, hG, hF, hQ => by
    rw [opsA_nil] at h
    simp only [Option.some.injEq, Prod.mk.injEq] at h
    obtain ⟨rfl, rfl⟩ := h
    exact hQ a w ⟨M, hF, H, L, Ext.refl _ _ _ _, Sx.refl s⟩
  | o :: l, k, hk, fr, fr', s, s', h, M, w, a, H, L, F, hG, hF, hQ => by
    have hk1 : ops.toList.drop (k + 1) = l := by rw [← List.tail_drop, hk]; rfl
    have hk0 : ops[k]? = some o := by
      have : (ops.toList.drop k)[0]? = some o := by rw [hk]; rfl
      simpa using this
    rw [opsA_cons] at h
    rw [List.length_cons, List.range'_succ]
    unfold wpOpsIn
    simp only [hk0]
    rcases opGo_some h with ⟨hw, fr1, h1, h2⟩ | ⟨hw, v, s1, h0, fr1, h1, h2⟩
    · rw [want_sound hF hw, if_neg (by simp)]
      exact ⟨wf_about, opsA_sound C ih r l (k + 1) hk1 h2 H L F hG (put_T hF (.undef M) h1) hQ⟩
    · rw [want_sound hF hw, if_pos rfl]
      have n2 := opsA_n ih h2
      refine oper_sound C ih h0 r H L (F.first n2) hG hF.t ?_
      intro M' v' w' G
      have F' := F.then G.ext
      refine opsA_sound C ih r l (k + 1) hk1 h2 G.hr G.li F' (hG.mono G.ext.le) (put_T (hF.mono G.ext.le) G.vr h1) ?_
      rintro a' w'' ⟨M'', k1, k2, k3, k4, k5⟩
      exact hQ a' w'' ⟨M'', k1, k2, k3, G.ext.comp k4 k5, G.sx.trans k5⟩
end
end Go.Proofs.YtecfnddaniphdaaGreatDoor.AM
