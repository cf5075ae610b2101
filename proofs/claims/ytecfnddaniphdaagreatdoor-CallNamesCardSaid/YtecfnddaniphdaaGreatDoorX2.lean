/-
  The abstract machine: loads, stores, new blocks.
-/
import Derived.Test.YtecfnddaniphdaaGreatDoorX1
set_option linter.unusedVariables false
set_option linter.unusedSimpArgs false
namespace Go.Proofs.YtecfnddaniphdaaGreatDoor.AM
variable {P : Program}

/-! ### What is known of the program -/
def KOk (P : Program) (t : TypeId) : K → Prop
  | .int k => P.underlying t = some (.int k)
  | .bool => P.underlying t = some .bool
  | .str => P.underlying t = some .string
  | .ptr e => P.underlying t = some (.pointer e)
  | .slice e => P.underlying t = some (.slice e)
  | .map k e => P.underlying t = some (.map k e)
  | .struct fs => ∃ fields : Array Field, P.underlying t = some (.struct fields) ∧ fields.toList.map (fun f => (f.offset, f.type)) = fs ∧ (∀ f ∈ fields.toList, (P.info? f.type).isSome = true ∧ (f.name == "_") = false) ∧ P.stoodInHeld t = false ∧ P.eqGuardType P.depth t = false
  | .array n e => P.underlying t = some (.array n e)
  | .func => ∃ a b c, P.underlying t = some (.func a b c)
  | .other => ∃ d, P.underlying t = some d ∧ (match d with | .struct _ | .array _ _ => False | _ => True)
structure TyOk (P : Program) (t : TypeId) (ti : TI) : Prop where
  info : ∃ i, P.info? t = some i ∧ i.size = ti.size ∧ i.bytes = ti.bytes ∧ i.zero = some ti.zeroV
  zc : ti.zeroV.cells.toList = ti.zero
  zp : ti.zero.all scal = true
  zl : ti.zero.length = ti.size
  k : KOk P t ti.k
structure FnOk (P : Program) (f : FuncId) (x : AFn) : Prop where
  fn : ∃ fn, P.funcs[f]? = some fn ∧ fn.body = some x.body ∧ fn.ntmps = x.ntmps ∧ fn.results.toList = x.results ∧ (fn.name == "runtime.NumGoroutine") = false
structure CfgOk (P : Program) (cf : Cfg) : Prop where
  ty : ∀ {t ti}, cf.ty.get t = some ti → TyOk P t ti
  ft : ∀ {f x}, cf.ft.get f = some x → FnOk P f x
  mixed : P.follows .mixedOrders = true
  orc : ∀ {M : Mu}, cf.sy M.s → ∀ {op : BinOp} {t : TypeId} {ox oy : Operand} {x y x' y' v : Value}, cf.orc op x y = some v → VR M x x' → VR M y y' →
    plain v = true ∧ ∀ w, (do eqGuard op t ox oy x' y'; binOp op t x' y' : Sem Value).run P w = .ok v w

theorem TyOk.sizeOf {t : TypeId} {ti : TI} (h : TyOk P t ti) (w : World) : (Go.sizeOf t).run P w = .ok ti.size w := by
  obtain ⟨i, h1, h2, h3, h4⟩ := h.info
  simp [Go.sizeOf, typeInfo, h1, h2]
theorem TyOk.typeInfo {t : TypeId} {ti : TI} (h : TyOk P t ti) (w : World) : ∃ i, (Go.typeInfo t).run P w = .ok i w ∧ i.size = ti.size ∧ i.bytes = ti.bytes ∧ i.zero = some ti.zeroV := by
  obtain ⟨i, h1, h2, h3, h4⟩ := h.info
  exact ⟨i, by simp [Go.typeInfo, h1], h2, h3, h4⟩
theorem TyOk.zero {t : TypeId} {ti : TI} (h : TyOk P t ti) (w : World) : (zeroValue t).run P w = .ok ti.zeroV w := by
  obtain ⟨i, h1, h2, h3, h4⟩ := h.info
  simp [zeroValue, Go.typeInfo, h1, h4]
theorem TyOk.und {t : TypeId} {ti : TI} (h : TyOk P t ti) : ∃ d, P.underlying t = some d ∧ (ti.agg = match d with | .struct _ | .array _ _ => true | _ => false) := by
  obtain ⟨k, s, b, z⟩ := ti
  have hk := h.k
  cases k with
  | struct fs => obtain ⟨fields, h1, h2⟩ := hk; exact ⟨_, h1, rfl⟩
  | func => obtain ⟨a, b, c, h1⟩ := hk; exact ⟨_, h1, rfl⟩
  | other => obtain ⟨d, h1, h2⟩ := hk; refine ⟨d, h1, ?_⟩; cases d <;> first | rfl | exact h2.elim
  | _ => exact ⟨_, hk, rfl⟩
theorem TyOk.isAgg {t : TypeId} {ti : TI} (h : TyOk P t ti) (w : World) : (Go.isAgg t).run P w = .ok ti.agg w := by
  obtain ⟨d, h1, h2⟩ := h.und
  simp only [Go.isAgg, Sem.run_bind, run_underlying h1, Result.andThen_ok, h2]
  cases d <;> rfl
theorem kd_some {cf : Cfg} {t : TypeId} {k : K} (h : kd cf t = some k) : ∃ ti, cf.ty.get t = some ti ∧ ti.k = k := by
  unfold kd at h
  split at h
  · rename_i i hi; cases h; exact ⟨i, hi, rfl⟩
  · cases h
theorem CfgOk.kd {cf : Cfg} (C : CfgOk P cf) {t : TypeId} {k : K} (h : kd cf t = some k) : KOk P t k := by
  obtain ⟨ti, h1, rfl⟩ := kd_some h
  exact (C.ty h1).k

/-! ### Cells -/
theorem add_plain (b o n : Nat) : (⟨b, o, none⟩ : Addr).add n = ⟨b, o + n, none⟩ := by unfold Addr.add; split <;> simp_all
theorem HR.cellsAt {M : Mu} {h : TR AObj} {w : World} (H : HR M h w) {b r : Nat} {c : List Value} {g : Option Nat} (hb : h.get b = some (.cells c g)) (hr : M.m b r) :
    ∃ c' e, w.heap[r]? = some (.cells c' e (0, 0)) ∧ LR M c (c'.toList.take c.length) := by
  obtain ⟨o', h1, h2⟩ := H.at_ hb hr
  cases g with
  | none => cases o' <;> first | exact h2.elim | (obtain ⟨rfl, h3⟩ := h2; exact ⟨_, _, h1, h3⟩)
  | some z => cases o' <;> first | exact h2.elim | (obtain ⟨rfl, h3, _⟩ := h2; exact ⟨_, _, h1, h3⟩)
theorem LR.le_take {M : Mu} {c : List Value} {l : List Value} (h : LR M c (l.take c.length)) : c.length ≤ l.length := by
  have := h.length; rw [List.length_take] at this; omega
theorem HR.cell {M : Mu} {h : TR AObj} {w : World} (H : HR M h w) {b r o : Nat} {c : List Value} {g : Option Nat} {v : Value} (hb : h.get b = some (.cells c g)) (hr : M.m b r) (hv : c[o]? = some v) :
    ∃ v', w.cell? ⟨r, o, none⟩ = some v' ∧ VR M v v' := by
  obtain ⟨c', e, h1, h2⟩ := H.cellsAt hb hr
  obtain ⟨v', h3, h4⟩ := h2.get hv
  refine ⟨v', ?_, h4⟩
  have ho : o < c.length := (List.getElem?_eq_some_iff.1 hv).1
  rw [List.getElem?_take, if_pos ho] at h3
  simpa [World.cell?, h1] using h3
theorem loadN_some {c l : List Value} {off size : Nat} (h : loadN c off size = some l) : l = (c.drop off).take size ∧ l.length = size := by
  unfold loadN at h
  cases hb : Nat.beq ((c.drop off).take size).length size with
  | true => rw [hb] at h; simp only [cond, Option.some.injEq] at h; exact ⟨h.symm, h ▸ Nat.eq_of_beq_eq_true hb⟩
  | false => rw [hb] at h; cases h
theorem HR.cells {M : Mu} {h : TR AObj} {w : World} (H : HR M h w) {b r o size : Nat} {c l : List Value} {g : Option Nat} (hb : h.get b = some (.cells c g)) (hr : M.m b r) (hl : loadN c o size = some l) :
    ∃ l', LR M l l' ∧ l'.length = size ∧ ∀ (j : Nat) (u : Value), l'[j]? = some u → w.cell? ⟨r, o + j, none⟩ = some u := by
  obtain ⟨rfl, h2⟩ := loadN_some hl
  obtain ⟨c', e, h3, h4⟩ := H.cellsAt hb hr
  have h5 := (h4.drop o).take size
  refine ⟨_, h5, by rw [← h5.length]; exact h2, fun j u hu => ?_⟩
  rw [List.getElem?_take] at hu
  split at hu
  · rw [List.getElem?_drop, List.getElem?_take] at hu
    split at hu
    · simpa [World.cell?, h3] using hu
    · cases hu
  · cases hu
theorem HR.free {M : Mu} {h : TR AObj} {w : World} (H : HR M h w) {b r o : Nat} {c : List Value} {g : Option Nat} (hb : h.get b = some (.cells c g)) (hr : M.m b r) : w.frozen? ⟨r, o, none⟩ = false := by
  obtain ⟨c', e, h3, h4⟩ := H.cellsAt hb hr
  simp [World.frozen?, h3]
theorem run_loadCells_at {w : World} {r o : Nat} {l : List Value} (h : ∀ (j : Nat) (u : Value), l[j]? = some u → w.cell? ⟨r, o + j, none⟩ = some u) : (loadCells ⟨r, o, none⟩ l.length).run P w = .ok l.toArray w :=
  run_loadCells_list w ⟨r, o, none⟩ l (fun j v hv => by rw [add_plain]; exact h j v hv)
theorem asA_some {a : Value} {b o : Nat} (h : asA a = some (b, o)) : a = .pointer (some ⟨b, o, none⟩) := by
  unfold asA at h
  split at h
  · simp at h; obtain ⟨rfl, rfl⟩ := h; rfl
  · cases h
theorem VR.ptr_inv {M : Mu} {b o : Nat} {v' : Value} (h : VR M (.pointer (some ⟨b, o, none⟩)) v') : ∃ r, v' = .pointer (some ⟨r, o, none⟩) ∧ M.m b r := by
  cases h with
  | ptr o h => exact ⟨_, rfl, h⟩
theorem aload_sound {cf : Cfg} (C : CfgOk P cf) {M : Mu} {s : St} {w : World} (H : HR M s.h w) {t : TypeId} {a a' v : Value} (hv : aload cf s t a = some v) (ha : VR M a a') :
    ∃ v', (Instr.loadAt t a').run P w = .ok v' w ∧ VR M v v' := by
  unfold aload at hv
  split at hv
  case h_2 => cases hv
  rename_i ti b o ht hA
  split at hv
  case h_2 => cases hv
  rename_i c g hb
  cases asA_some hA
  obtain ⟨r, rfl, hr⟩ := ha.ptr_inv
  have T := C.ty ht
  cases hagg : ti.agg with
  | true =>
    simp only [hagg, cond, Option.map_eq_some_iff] at hv
    obtain ⟨l, hl, rfl⟩ := hv
    obtain ⟨l', h1, h2, h3⟩ := H.cells hb hr hl
    refine ⟨.agg l'.toArray, ?_, .agg (by simpa using h1)⟩
    have := run_loadCells_at (P := P) h3
    rw [h2] at this
    simp [Instr.loadAt, Instr.sureAddr, loadVar, T.isAgg, hagg, T.sizeOf, this]
  | false =>
    simp only [hagg, cond] at hv
    obtain ⟨v', h1, h2⟩ := H.cell hb hr hv
    refine ⟨v', ?_, h2⟩
    simp [Instr.loadAt, Instr.sureAddr, loadVar, T.isAgg, hagg, Go.load, Sem.run, h1]
end Go.Proofs.YtecfnddaniphdaaGreatDoor.AM
