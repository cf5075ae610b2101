/-
  The abstract machine: what is asked of its tables, as tests; what an abstract run says of the program.
-/
import Derived.Test.YtecfnddaniphdaaGreatDoorX23
set_option linter.unusedVariables false
set_option linter.unusedSimpArgs false
namespace Go.Proofs.YtecfnddaniphdaaGreatDoor.AM

def AllT {α : Type} (p : Nat → α → Prop) : (Nat → Nat) → TR α → Prop
  | _, .nil => True
  | k, .node l v r => AllT p (fun m => k (2 * m + 1)) l ∧ (match v with | some x => p (k 0) x | none => True) ∧ AllT p (fun m => k (2 * m + 2)) r
theorem AllT.get {α : Type} {p : Nat → α → Prop} : ∀ {t : TR α} {k : Nat → Nat}, AllT p k t → ∀ {n : Nat} {v : α}, t.get n = some v → p (k n) v
  | .nil, k, h, n, v, hv => by cases hv
  | .node l x r, k, h, 0, v, hv => by
    rw [TR.get_zero] at hv
    subst hv
    exact h.2.1
  | .node l x r, k, h, n + 1, v, hv => by
    rw [TR.get_succ] at hv
    cases hb : Nat.beq (Nat.mod n 2) 0 with
    | true =>
      rw [hb] at hv
      have e : n % 2 = 0 := Nat.eq_of_beq_eq_true hb
      have := h.1.get hv
      have e2 : 2 * Nat.div n 2 + 1 = n + 1 := by show 2 * (n / 2) + 1 = n + 1; omega
      rwa [e2] at this
    | false =>
      rw [hb] at hv
      have e : n % 2 ≠ 0 := fun e => by have : Nat.mod n 2 = 0 := e; rw [this] at hb; cases hb
      have := h.2.2.get hv
      have e2 : 2 * Nat.div n 2 + 2 = n + 1 := by show 2 * (n / 2) + 2 = n + 1; omega
      rwa [e2] at this
def allB {α : Type} (p : Nat → α → Bool) : (Nat → Nat) → TR α → Bool
  | _, .nil => true
  | k, .node l v r => allB p (fun m => k (2 * m + 1)) l && (match v with | some x => p (k 0) x | none => true) && allB p (fun m => k (2 * m + 2)) r
theorem allB_allT {α : Type} {p : Nat → α → Bool} : ∀ {t : TR α} {k : Nat → Nat}, allB p k t = true → AllT (fun n x => p n x = true) k t
  | .nil, k, h => trivial
  | .node l v r, k, h => by
    simp only [allB, Bool.and_eq_true] at h
    refine ⟨allB_allT h.1.1, ?_, allB_allT h.2⟩
    cases v with
    | none => trivial
    | some x => exact h.1.2
def zS : Value → Value → Bool
  | .bool a, .bool b => a == b
  | .int k a, .int k' b => decide (k = k') && a == b
  | .slice none n c, .slice none n' c' => Nat.beq n n' && Nat.beq c c'
  | .pointer none, .pointer none => true
  | .map none, .map none => true
  | .nilFunc, .nilFunc => true
  | .string a, .string b => decide (a.data.toList = []) && decide (b.data.toList = [])
  | _, _ => false
theorem ba_nil {a : ByteArray} (h : a.data.toList = []) : a = ⟨#[]⟩ := by
  obtain ⟨d⟩ := a
  have : d = #[] := by simpa using h
  rw [this]
theorem zS_eq {a b : Value} (h : zS a b = true) : a = b := by
  unfold zS at h
  split at h
  · rw [beq_iff_eq] at h; rw [h]
  · simp only [Bool.and_eq_true, decide_eq_true_eq, beq_iff_eq] at h; rw [h.1, h.2]
  · simp only [Bool.and_eq_true] at h; rw [Nat.eq_of_beq_eq_true h.1, Nat.eq_of_beq_eq_true h.2]
  · rfl
  · rfl
  · rfl
  · simp only [Bool.and_eq_true, decide_eq_true_eq] at h; rw [ba_nil h.1, ba_nil h.2]
  · cases h
def zL : List Value → List Value → Bool
  | [], [] => true
  | c :: l, a :: m => zS c a && zL l m
  | _, _ => false
theorem zL_eq : ∀ {a b : List Value}, zL a b = true → a = b
  | [], [], _ => rfl
  | c :: l, a :: m, h => by
    simp only [zL, Bool.and_eq_true] at h
    rw [zS_eq h.1, zL_eq h.2]
  | [], _ :: _, h => by cases h
  | _ :: _, [], h => by cases h
def zP : Value → Value → Bool
  | .agg xs, .agg ys => zL xs.toList ys.toList
  | a, b => zS a b
theorem zP_eq {a b : Value} (h : zP a b = true) : a = b := by
  unfold zP at h
  split at h
  · rename_i xs ys
    have := zL_eq h
    rw [show xs = ys from Array.toList_inj.1 this]
  · exact zS_eq h
def sameF : List (Nat × TypeId) → List (Nat × TypeId) → Bool
  | [], [] => true
  | (a, b) :: l, (c, d) :: m => Nat.beq a c && Nat.beq b d && sameF l m
  | _, _ => false
theorem sameF_eq : ∀ {a b : List (Nat × TypeId)}, sameF a b = true → a = b
  | [], [], _ => rfl
  | (a, b) :: l, (c, d) :: m, h => by
    simp only [sameF, Bool.and_eq_true] at h
    rw [Nat.eq_of_beq_eq_true h.1.1, Nat.eq_of_beq_eq_true h.1.2, sameF_eq h.2]
  | [], _ :: _, h => by cases h
  | _ :: _, [], h => by cases h
def kChk (P : Program) (t : TypeId) (k : K) : Bool :=
  match k, P.underlying t with
  | .int k, some (.int k') => decide (k = k')
  | .bool, some .bool => true
  | .str, some .string => true
  | .ptr e, some (.pointer e') => Nat.beq e e'
  | .slice e, some (.slice e') => Nat.beq e e'
  | .map k e, some (.map k' e') => Nat.beq k k' && Nat.beq e e'
  | .struct fs, some (.struct fields) => sameF (fields.toList.map fun f => (f.offset, f.type)) fs && fields.toList.all (fun f => (P.info? f.type).isSome && !(f.name == "_")) && !P.stoodInHeld t && !P.eqGuardType P.depth t
  | .array n e, some (.array n' e') => Nat.beq n n' && Nat.beq e e'
  | .func, some (.func ..) => true
  | _, _ => false
theorem kChk_ok {P : Program} {t : TypeId} {k : K} (h : kChk P t k = true) : KOk P t k := by
  unfold kChk at h
  split at h
  · rename_i hu; simp only [decide_eq_true_eq] at h; subst h; exact hu
  · rename_i hu; exact hu
  · rename_i hu; exact hu
  · rename_i hu; cases Nat.eq_of_beq_eq_true h; exact hu
  · rename_i hu; cases Nat.eq_of_beq_eq_true h; exact hu
  · rename_i hu; simp only [Bool.and_eq_true] at h; cases Nat.eq_of_beq_eq_true h.1; cases Nat.eq_of_beq_eq_true h.2; exact hu
  · rename_i fields hu
    simp only [Bool.and_eq_true, List.all_eq_true, Bool.not_eq_true'] at h
    exact ⟨fields, hu, sameF_eq h.1.1.1, h.1.1.2, h.1.2, h.2⟩
  · rename_i hu; simp only [Bool.and_eq_true] at h; cases Nat.eq_of_beq_eq_true h.1; cases Nat.eq_of_beq_eq_true h.2; exact hu
  · rename_i hu; exact ⟨_, _, _, hu⟩
  · cases h
def tyChk (P : Program) (t : TypeId) (ti : TI) : Bool :=
  match P.info? t with
  | some i => Nat.beq i.size ti.size && Nat.beq i.bytes ti.bytes && (match i.zero with | some z => zP z ti.zeroV | none => false) && zL ti.zeroV.cells.toList ti.zero && ti.zero.all scal && Nat.beq ti.zero.length ti.size && kChk P t ti.k
  | none => false
theorem tyChk_ok {P : Program} {t : TypeId} {ti : TI} (h : tyChk P t ti = true) : TyOk P t ti := by
  unfold tyChk at h
  split at h
  case h_2 => cases h
  rename_i i hi
  simp only [Bool.and_eq_true] at h
  obtain ⟨⟨⟨⟨⟨⟨h1, h2⟩, h3⟩, h4⟩, h5⟩, h6⟩, h7⟩ := h
  refine ⟨⟨i, hi, Nat.eq_of_beq_eq_true h1, Nat.eq_of_beq_eq_true h2, ?_⟩, zL_eq h4, h5, Nat.eq_of_beq_eq_true h6, kChk_ok h7⟩
  split at h3
  · rename_i z hz; rw [hz, zP_eq h3]
  · cases h3
def afn (fn : Func) : AFn := ⟨fn.body.getD .skip, fn.ntmps, fn.results.toList⟩
theorem afn_ok {P : Program} {f : FuncId} {fn : Func} (h : P.funcs[f]? = some fn) (hb : fn.body.isSome = true) (hn : (fn.name == "runtime.NumGoroutine") = false) : FnOk P f (afn fn) := by
  refine ⟨fn, h, ?_, rfl, rfl, hn⟩
  obtain ⟨c, hc⟩ := Option.isSome_iff_exists.1 hb
  rw [hc]
  simp [afn, hc]
theorem cfgOk {P : Program} {cf : Cfg} (h1 : allB (tyChk P) (fun k => k) cf.ty = true) (h2 : AllT (FnOk P) (fun k => k) cf.ft) (h3 : P.follows .mixedOrders = true) (h4 : ∀ op x y, cf.orc op x y = none) : CfgOk P cf :=
  ⟨fun h => tyChk_ok ((allB_allT h1).get h), fun h => h2.get h, h3, fun {M} _ {op t ox oy x y x' y' v} h _ _ => by rw [h4] at h; cases h⟩

/-! ### From a run -/
def Mu0 (cf : Cfg) (σ : Nat → Value) : Mu := ⟨fun b r => b = r ∧ cf.gl.any (Nat.beq b) = true, fun _ _ _ => False, σ⟩
def empty0 : St := ⟨.nil, 1000, []⟩
/-- a run that is handed plain values, to a plain value, which touches nothing that was there -/
def okRun (o : Option Out) (v : Value) : Bool := match o with
  | some (.ret u s) => sameP u v && s.t.isEmpty
  | _ => false
theorem okRun_some {o : Option Out} {v : Value} (h : okRun o v = true) : ∃ s, o = some (.ret v s) ∧ s.t = [] := by
  unfold okRun at h
  split at h
  · rename_i u s
    simp only [Bool.and_eq_true, List.isEmpty_iff] at h
    cases sameP_eq h.1
    exact ⟨s, rfl, h.2⟩
  · cases h
theorem LR.same {M : Mu} : ∀ {l l' : List Value}, l.all scal = true → LR M l l' → l' = l
  | [], _, _, .nil => rfl
  | v :: l, _, h, .cons hv t => by
    simp only [List.all_cons, Bool.and_eq_true] at h
    rw [LR.same h.2 t]
    congr 1
    have h1 := h.1
    cases hv <;> first | rfl | cases h1
theorem VR.same {M : Mu} {v v' : Value} (h : plain v = true) (k : VR M v v') : v' = v := by
  cases k with
  | agg ha => rw [show _ = _ from Array.toList_inj.1 (LR.same h ha)]
  | tuple ha => rw [show _ = _ from Array.toList_inj.1 (LR.same h ha)]
  | _ => first | rfl | cases h
theorem LR.sameP {M : Mu} : ∀ {l l' : List Value}, l.all plain = true → LR M l l' → l' = l
  | [], _, _, .nil => rfl
  | v :: l, _, h, .cons hv t => by
    simp only [List.all_cons, Bool.and_eq_true] at h
    rw [LR.sameP h.2 t, hv.same h.1]
theorem LR.refl (M : Mu) : ∀ {l : List Value}, l.all plain = true → LR M l l
  | [], _ => .nil
  | v :: l, h => by
    simp only [List.all_cons, Bool.and_eq_true] at h
    exact .cons (plain_VR M h.1) (LR.refl M h.2)
theorem run_sym {P : Program} {cf : Cfg} (C : CfgOk P cf) (K : MemsOk P cf) {F : Nat} {f : FuncId} {args : List Value} {v : Value} {s0 : St} (h : okRun (runA cf F (.call f args s0)) v = true) (hv : plain v = true)
    {M : Mu} {w : World} (H : HR M s0.h w) (L : Li s0) (Fr : ∀ n, Fresh M s0.n n) (hG : GLok M cf) {args' : Array Value} (ha : LR M args args'.toList) : CallsIn Fence.wide 0 P f args' w (fun e w' => e = .returned v ∧ Stays w w') := by
  obtain ⟨s, h1, h2⟩ := okRun_some h
  have T : SCall P cf f args s0 v s := runA_sound C K F _ _ h1
  refine CallsIn.mono (T.2.2 M w args' H L (Fr _) hG ha) ?_
  rintro e w' ⟨M', v', rfl, G⟩
  refine ⟨by rw [G.vr.same hv], G.ext.os, G.ext.tape, G.ext.output, G.ext.size, fun hr => G.ext.blk hr fun b hb => ?_⟩
  rw [h2] at hb
  cases hb
theorem run_calls {P : Program} {cf : Cfg} (C : CfgOk P cf) (K : MemsOk P cf) {F : Nat} {f : FuncId} {args : List Value} {v : Value} (h : okRun (runA cf F (.call f args empty0)) v = true) (hp : args.all plain = true) (hv : plain v = true)
    (hlo : (cf.gl.any fun g => Nat.ble 1000 g) = false) (σ : Nat → Value) (hs : cf.sy σ) (w : World) (hgl : ∀ g, cf.gl.any (Nat.beq g) = true → g < w.heap.size) : CallsIn Fence.wide 0 P f args.toArray w (fun e w' => e = .returned v ∧ Stays w w') := by
  refine run_sym C K h hv (M := Mu0 cf σ) ?_ (fun {b} hb => by cases hb) (fun n => ⟨fun {b r} hb => .inl ?_, fun h => h.elim⟩) ⟨fun g hg => ⟨rfl, hg⟩, hs⟩ (by simpa using LR.refl _ hp)
  · refine ⟨fun h1 h2 => h1.1.symm.trans h2.1, fun h => h.elim, fun h => ?_, fun h1 h2 h3 => ?_, fun hb => ?_⟩
    · rw [← h.1]; exact hgl _ h.2
    · cases h3
    · cases hb
  · rcases Nat.lt_or_ge b 1000 with h | h
    · exact h
    · exfalso
      have : (cf.gl.any fun g => Nat.ble 1000 g) = true := List.any_eq_true.2 ⟨b, any_beq.1 hb.2, Nat.ble_eq.mpr h⟩
      rw [hlo] at this; cases this
/-- a run as a known call of others -/
theorem mem_ok {P : Program} {cf cf' : Cfg} (C : CfgOk P cf) (K : MemsOk P cf) {F : Nat} {m : Mem} (h : okRun (runA cf F (.call m.f m.args ⟨heapM m.h, 1000, []⟩)) m.v = true) (hv : plain m.v = true) (hh : (m.h.all fun x => Nat.blt x.1 1000) = true)
    (he : cf'.gl = cf.gl) (hs : ∀ σ, cf'.sy σ → cf.sy σ) : MemOk P cf' m := by
  have hl : ∀ x ∈ m.h, x.1 < 1000 := fun x hx => Nat.blt_eq.mp (List.all_eq_true.1 hh x hx)
  obtain ⟨s0, h1, h2⟩ := okRun_some h
  have T : SCall P cf m.f m.args ⟨heapM m.h, 1000, []⟩ m.v s0 := runA_sound C K F _ _ h1
  refine ⟨T.2.1, hv, hl, fun M w args' H Fr hG ha => run_sym C K h hv H (fun {b} hb => ?_) Fr ⟨by rw [← he]; exact hG.1, hs _ hG.2⟩ ha⟩
  obtain ⟨o, ho⟩ := Option.isSome_iff_exists.1 hb
  obtain ⟨c, g, h3, _⟩ := heapM_get hl ho
  have := hl _ h3
  exact ⟨this, small_lt (b := 1000) (by decide) (Nat.le_of_lt this)⟩
end Go.Proofs.YtecfnddaniphdaaGreatDoor.AM
