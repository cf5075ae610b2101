/-
  The abstract machine: every operation.
-/
import Derived.Test.YtecfnddaniphdaaGreatDoorX14
set_option linter.unusedVariables false
set_option linter.unusedSimpArgs false
namespace Go.Proofs.YtecfnddaniphdaaGreatDoor.AM
variable {P : Program}

theorem FnR.map_inv {M : Mu} {f : FuncId} {f' : Fn} (h : FnR M (.func f) f') : f' = .func f := by cases h; rfl
theorem callV_some {args : List Value} {x : Value} {g : Got} (h : callV args x = some g) :
    (∃ f first cap, x = .func (.func f) first cap ∧ g = .call f (first.toList ++ args ++ cap.toList)) ∨ (∃ l first cap, x = .func (.yield l) first cap ∧ g = .yield l (first.toList ++ args)) := by
  unfold callV at h
  split at h
  · rename_i fn first cap
    split at h
    · simp only [Option.some.injEq] at h; exact .inl ⟨_, _, _, rfl, h.symm⟩
    · simp only [Option.some.injEq] at h; exact .inr ⟨_, _, _, rfl, h.symm⟩
    · cases h
  · cases h
theorem callA_cases {cf : Cfg} {s : St} {T : TR Value} {c : Call} {g : Got} (h : callA cf s T c = some g) :
    ∃ args, evs c.args.toList cf T = some args ∧ ((∃ f x, c.callee = .value f ∧ ev f cf T = some x ∧ callV args x = some g) ∨ (∃ b, c.callee = .builtin b ∧ builtinA b cf s args c.argTypes.toList = some g)) := by
  unfold callA at h
  split at h
  · cases h
  · rename_i args hargs
    refine ⟨args, hargs, ?_⟩
    split at h
    · cases h
    · rename_i f hf
      simp only [Option.bind_eq_some_iff] at h
      obtain ⟨x, h1, h2⟩ := h
      exact .inl ⟨f, x, hf, h1, h2⟩
    · rename_i b hb
      exact .inr ⟨b, hb, h⟩
/-- a call of a function value -/
theorem call_value {P : Program} {ρ : Operand → Value} {c : Call} {ty : TypeId} {f : Operand} {fn : Fn} {first cap : Array Value} {w : World} (hc : c.callee = .value f) (hf : ρ f = .func fn first cap) :
    (do let d ← resolve ρ c ty; invoke d.target d.args : Sem Next).run P w = (invoke (.fn fn cap) (first ++ c.args.map ρ)).run P w := by
  simp [resolve, hc, hf, Deferred.ofValue]
theorem opA_val {cf : Cfg} (C : CfgOk P cf) {M : Mu} {s s' : St} {w : World} (H : HR M s.h w) (L : Li s) {T : TR Value} {a : Act} (hT : TRR M T a.tmps) (hG : GLok M cf) (o : Oper) {v : Value}
    (h : opA o.op cf s T = some (.val v s')) (F : Fresh M s.n s'.n) : ∃ M' v' w', Yld P (execOp a.eval o) w v' w' ∧ Good M s w v s' M' v' w' := by
  obtain ⟨dst, op, ty, pos, after, guard⟩ := o
  dsimp only at h
  cases op with
  | move x =>
    obtain ⟨h1, rfl⟩ := vA_some (show vA s (ev x cf T) = _ from h)
    exact ⟨M, _, w, .inl rfl, Good.same H L (ev_sound hT hG h1)⟩
  | assign x =>
    obtain ⟨h1, rfl⟩ := vA_some (show vA s (ev x cf T) = _ from h)
    exact ⟨M, _, w, .inl rfl, Good.same H L (ev_sound hT hG h1)⟩
  | pick c x y =>
    obtain ⟨b, h1, h2⟩ := on1_some (show on1 cf T c (oPick cf s T x y) = _ from h)
    unfold oPick at h2
    split at h2
    case h_2 => cases h2
    rename_i t
    obtain ⟨h3, rfl⟩ := vA_some h2
    have hb := (ev_sound hT hG h1).bool_inv
    cases t with
    | true => exact ⟨M, _, w, .inl (by simp [execOp, asBool, hb]), Good.same H L (ev_sound hT hG h3)⟩
    | false => exact ⟨M, _, w, .inl (by simp [execOp, asBool, hb]), Good.same H L (ev_sound hT hG h3)⟩
  | alloc e =>
    obtain ⟨M', v', w', h1, G⟩ := oAlloc_sound C H L (show oAlloc cf s e = _ from h) F
    exact ⟨M', v', w', Yld.v h1, G⟩
  | box e x =>
    obtain ⟨b, h1, h2⟩ := on1_some (show on1 cf T x (oBox s) = _ from h)
    obtain ⟨M', v', w', h3, G⟩ := oBox_sound H L e (ev_sound hT hG h1) h2 F
    exact ⟨M', v', w', Yld.v h3, G⟩
  | build t ps =>
    have h := (show oBuild cf s T t ps.toList = _ from h)
    simp only [oBuild, Option.bind_eq_some_iff] at h
    obtain ⟨vs, h1, h2⟩ := h
    obtain ⟨h3, rfl⟩ := vA_some h2
    have hp : PR M vs (ps.map fun (i, x) => (i, a.eval x)).toList := by rw [Array.toList_map]; exact evp_sound hT hG h1
    obtain ⟨v', h4, h5⟩ := buildA_sound C (w := w) hp h3
    exact ⟨M, v', w, Yld.v h4, Good.same H L h5⟩
  | buildSlice t n ps =>
    have h := (show oBuildS cf s T t n ps.toList = _ from h)
    simp only [oBuildS, Option.bind_eq_some_iff] at h
    obtain ⟨vs, h1, h2⟩ := h
    have h3 := rA_some h2
    have hp : PR M vs (ps.map fun (i, x) => (i, a.eval x)).toList := by rw [Array.toList_map]; exact evp_sound hT hG h1
    obtain ⟨M', v', w', h4, G⟩ := buildSliceA_sound C H L hp h3 F
    exact ⟨M', v', w', Yld.v h4, G⟩
  | load t x =>
    obtain ⟨b, h1, h2⟩ := on1_some (show on1 cf T x (fun a => vA s (aload cf s t a)) = _ from h)
    obtain ⟨h3, rfl⟩ := vA_some h2
    obtain ⟨v', h4, h5⟩ := aload_sound C H h3 (ev_sound hT hG h1)
    exact ⟨M, v', w, Yld.v h4, Good.same H L h5⟩
  | store t x y =>
    obtain ⟨p, q, h1, h2, h3⟩ := on2_some (show on2 cf T x y (fun a v => uA (astore cf s t a v)) = _ from h)
    obtain ⟨h4, rfl⟩ := uA_some h3
    obtain ⟨w', h5, h6⟩ := astore_sound C H L h4 (ev_sound hT hG h1) (ev_sound hT hG h2)
    exact ⟨M, undef, w', Yld.u h5, Good.of4 h6⟩
  | nilCheck x =>
    obtain ⟨b, h1, h2⟩ := on1_some (show on1 cf T x (oNil s) = _ from h)
    have hb := ev_sound hT hG h1
    unfold oNil at h2
    split at h2
    · simp only [Option.some.injEq, Got.val.injEq] at h2
      obtain ⟨rfl, rfl⟩ := h2
      obtain ⟨x', hx', hn⟩ := hb.pointer_inv
      obtain ⟨y, rfl⟩ := isNone_some hn
      exact ⟨M, _, w, .inl (by simp [execOp, hx']), Good.same H L (hx' ▸ hb)⟩
    · simp only [Option.some.injEq, Got.val.injEq] at h2
      obtain ⟨rfl, rfl⟩ := h2
      obtain ⟨f', a', c', hx', hf, _⟩ := hb.fn_inv
      cases hf
      exact ⟨M, _, w, .inl (by simp [execOp, hx']), Good.same H L (hx' ▸ hb)⟩
    · simp only [Option.some.injEq, Got.val.injEq] at h2
      obtain ⟨rfl, rfl⟩ := h2
      obtain ⟨f', a', c', hx', hf, _⟩ := hb.fn_inv
      cases hf
      exact ⟨M, _, w, .inl (by simp [execOp, hx']), Good.same H L (hx' ▸ hb)⟩
    · simp only [Option.some.injEq, Got.val.injEq] at h2
      obtain ⟨rfl, rfl⟩ := h2
      obtain ⟨a', c', hx', _⟩ := hb.slice_inv
      exact ⟨M, _, w, .inl (by simp [execOp, hx']), Good.same H L (hx' ▸ hb)⟩
    · cases h2
  | binOp op t x y yt =>
    obtain ⟨p, q, h1, h2, h3⟩ := on2_some (show on2 cf T x y (fun a b => vA s (binA a b cf op t)) = _ from h)
    obtain ⟨h4, rfl⟩ := vA_some h3
    obtain ⟨v', h5, h6⟩ := binA_sound C H.fn hG.2 (w := w) (ox := x) (oy := y) (ev_sound hT hG h1) (ev_sound hT hG h2) h4
    exact ⟨M, v', w, Yld.v h5, Good.same H L h6⟩
  | unOp op t x =>
    obtain ⟨p, h1, h2⟩ := on1_some (show on1 cf T x (fun a => vA s (unA op a)) = _ from h)
    obtain ⟨h4, rfl⟩ := vA_some h2
    obtain ⟨v', h5, h6⟩ := unA_sound (P := P) (w := w) (ev_sound hT hG h1) h4
    exact ⟨M, v', w, Yld.v h5, Good.same H L h6⟩
  | convert t d x =>
    obtain ⟨p, h1, h2⟩ := on1_some (show on1 cf T x (oConv cf s t d) = _ from h)
    unfold oConv at h2
    split at h2
    case h_2 => cases h2
    split at h2
    case h_2 => cases h2
    rename_i k1 n _ _ k0 k hk0 hk
    simp only [Option.some.injEq, Got.val.injEq] at h2
    obtain ⟨rfl, rfl⟩ := h2
    have hx := (ev_sound hT hG h1).int_inv
    have hu0 : P.underlying t = some (.int k0) := C.kd hk0
    have hu : P.underlying d = some (.int k) := C.kd hk
    exact ⟨M, _, w, Yld.v (s := convert t d (a.eval x)) (by simp [convert, run_underlying hu0, run_underlying hu, hx, Conv.intToInt]), Good.same H L (.int _ _)⟩
  | makeFunc fn first cap =>
    replace h := (show oFunc cf s T first.toList cap.toList fn = _ from h)
    unfold oFunc at h
    split at h
    case h_2 => cases h
    split at h
    case h_2 => cases h
    rename_i f _ _ x y h1 h2
    simp only [Option.some.injEq, Got.val.injEq] at h
    obtain ⟨rfl, rfl⟩ := h
    refine ⟨M, .func (.func f) (first.map a.eval) (cap.map a.eval), w, Yld.v (s := Instr.makeFunc (.func f) (first.map a.eval) (cap.map a.eval)) (by simp [Instr.makeFunc]), Good.same H L (.func (.func f) ?_ ?_)⟩
    · rw [Array.toList_map]; exact evs_sound hT hG h1
    · rw [Array.toList_map]; exact evs_sound hT hG h2
  | makeMap t r =>
    have h := (show oMap s r = _ from h)
    unfold oMap at h
    split at h
    case h_2 => cases h
    cases hs : small s.n with
    | false => rw [hs] at h; cases h
    | true =>
      rw [hs] at h
      simp only [cond, Option.some.injEq, Got.val.injEq] at h
      obtain ⟨rfl, rfl⟩ := h
      have g := new_sound (o := .map []) none H L F hs (Nw.alloc w (.map #[] 0)) ⟨.nil, .nil⟩
      exact ⟨_, .map (some w.heap.size), _, Yld.v (s := Instr.makeMap t none) (by simp [Instr.makeMap, newObj, Sem.run, World.alloc_eq]), ⟨.map (Mu.add_m _ _ _ _), g.1, g.2.2.2, g.2.1, g.2.2.1⟩⟩
  | makeSlice t l c =>
    obtain ⟨p, q, h1, h2, h3⟩ := on2_some (show on2 cf T l c (fun l c => rA (makeSliceA cf s t l c)) = _ from h)
    obtain ⟨M', v', w', h4, G⟩ := makeSliceA_sound C H L (ev_sound hT hG h1) (ev_sound hT hG h2) (rA_some h3) F
    exact ⟨M', v', w', Yld.v h4, G⟩
  | slice t x lo hi mx =>
    have h := (show oSlice cf s T t x lo hi mx = _ from h)
    unfold oSlice at h
    split at h
    case h_2 => cases h
    rename_i x0 lo0 hi0 mx0 h1 h2 h3 h4
    obtain ⟨h5, rfl⟩ := vA_some h
    obtain ⟨v', h6, h7⟩ := sliceA_sound C H (ev_sound hT hG h1) (evo_sound hT hG h2) (evo_sound hT hG h3) (evo_sound hT hG h4) h5
    exact ⟨M, v', w, Yld.v h6, Good.same H L h7⟩
  | fieldAddr t x f =>
    obtain ⟨p, h1, h2⟩ := on1_some (show on1 cf T x (fun x => vA s (fieldAddrA cf t x f)) = _ from h)
    obtain ⟨h4, rfl⟩ := vA_some h2
    obtain ⟨v', h5, h6⟩ := fieldAddrA_sound C (w := w) (ev_sound hT hG h1) h4
    exact ⟨M, v', w, Yld.v h5, Good.same H L h6⟩
  | field t x f =>
    obtain ⟨p, h1, h2⟩ := on1_some (show on1 cf T x (fun x => vA s (fieldA cf t x f)) = _ from h)
    obtain ⟨h4, rfl⟩ := vA_some h2
    obtain ⟨v', h5, h6⟩ := fieldA_sound C (w := w) (ev_sound hT hG h1) h4
    exact ⟨M, v', w, Yld.v h5, Good.same H L h6⟩
  | indexAddr t x i =>
    obtain ⟨p, q, h1, h2, h3⟩ := on2_some (show on2 cf T x i (fun x i => vA s (indexAddrA cf t x i)) = _ from h)
    obtain ⟨h4, rfl⟩ := vA_some h3
    obtain ⟨v', h5, h6⟩ := indexAddrA_sound C (w := w) (ev_sound hT hG h1) (ev_sound hT hG h2) h4
    exact ⟨M, v', w, Yld.v h5, Good.same H L h6⟩
  | index t x i =>
    obtain ⟨p, q, h1, h2, h3⟩ := on2_some (show on2 cf T x i (fun x i => vA s (indexA cf t x i)) = _ from h)
    obtain ⟨h4, rfl⟩ := vA_some h3
    obtain ⟨v', h5, h6⟩ := indexA_sound C (w := w) (ev_sound hT hG h1) (ev_sound hT hG h2) h4
    exact ⟨M, v', w, Yld.v h5, Good.same H L h6⟩
  | lookup t m k ok =>
    obtain ⟨p, q, h1, h2, h3⟩ := on2_some (show on2 cf T m k (fun m k => vA s (lookupA cf s t m k ok)) = _ from h)
    obtain ⟨h4, rfl⟩ := vA_some h3
    obtain ⟨v', h5, h6⟩ := lookupA_sound C H (ev_sound hT hG h1) (ev_sound hT hG h2) h4
    exact ⟨M, v', w, Yld.v h5, Good.same H L h6⟩
  | mapUpdate t m k x =>
    obtain ⟨p, q, h1, h2, h3⟩ := on2_some (show oUpd cf s T t m k x = _ from h)
    obtain ⟨z, h4, h5⟩ := on1_some h3
    obtain ⟨h6, rfl⟩ := uA_some h5
    obtain ⟨w', h7, h8⟩ := updA_sound C H L (ev_sound hT hG h1) (ev_sound hT hG h2) (ev_sound hT hG h4) h6
    exact ⟨M, undef, w', Yld.u h7, Good.of4 h8⟩
  | insert t m k x =>
    obtain ⟨p, q, h1, h2, h3⟩ := on2_some (show oUpd cf s T t m k x = _ from h)
    obtain ⟨z, h4, h5⟩ := on1_some h3
    obtain ⟨h6, rfl⟩ := uA_some h5
    obtain ⟨w', h7, h8⟩ := updA_sound C H L (ev_sound hT hG h1) (ev_sound hT hG h2) (ev_sound hT hG h4) h6
    exact ⟨M, undef, w', Yld.u h7, Good.of4 h8⟩
  | extract x i =>
    obtain ⟨p, h1, h2⟩ := on1_some (show on1 cf T x (oExtract s i) = _ from h)
    unfold oExtract at h2
    split at h2
    case h_2 => cases h2
    rename_i vs
    obtain ⟨h3, rfl⟩ := vA_some h2
    have hx := ev_sound hT hG h1
    generalize hy : a.eval x = y at hx
    cases hx with
    | tuple hl =>
      rename_i vs'
      obtain ⟨v', h4, h5⟩ := hl.get h3
      have h6 : vs'[i]? = some v' := by simpa using h4
      exact ⟨M, v', w, Yld.v (s := Instr.extract (a.eval x) i) (by rw [hy]; simp [Instr.extract, h6]), Good.same H L h5⟩
  | call c =>
    obtain ⟨args, hargs, hcase⟩ := callA_cases (show callA cf s T c = _ from h)
    rcases hcase with ⟨f, x, hc, hx, hcv⟩ | ⟨b, hb, hbi⟩
    · rcases callV_some hcv with ⟨_, _, _, _, h⟩ | ⟨_, _, _, _, h⟩ <;> cases h
    · obtain ⟨consts, e2⟩ : ∃ consts, (do let d ← resolve a.eval c ty; invoke d.target d.args : Sem Next).run P w = (builtin b c.argTypes ty consts (c.args.map a.eval)).run P w := ⟨_, by simp only [resolve, hb]; rfl⟩
      obtain ⟨M', v', w', h1, G⟩ := builtin_sound C H L ty consts (evs_sound hT hG hargs) hbi F
      refine ⟨M', v', w', ?_, G⟩
      have e : (execOp a.eval ⟨dst, .call c, ty, pos, after, guard⟩) = (do let d ← resolve a.eval c ty; invoke d.target d.args) := rfl
      unfold Yld at h1 ⊢
      rw [e, e2]
      exact h1
  | _ => exact absurd h (by intro h; cases h)
end Go.Proofs.YtecfnddaniphdaaGreatDoor.AM
