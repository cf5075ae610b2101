/-
  The abstract machine: calls; tasks.
-/
import Derived.Test.YtecfnddaniphdaaGreatDoorX22
set_option linter.unusedVariables false
set_option linter.unusedSimpArgs false
namespace Go.Proofs.YtecfnddaniphdaaGreatDoor.AM
variable {P : Program}

/-! ### Deferred calls: marks -/
theorem HR.write {M : Mu} {h : TR AObj} {w w' : World} {r : Nat} {O : Obj} (H : HR M h w) (W : Wr w w' r O) (k : ∀ b, (h.get b).isSome = true → ¬ M.m b r) : HR M h w' :=
  ⟨H.fn, H.fc, fun h => by rw [W.size]; exact H.lt h, H.inj, fun {b o} hb => by
    obtain ⟨r', o', h1, h2, h3⟩ := H.ob hb
    refine ⟨r', o', h1, ?_, h3⟩
    rw [W.other]
    · exact h2
    · intro e; subst e; exact k b (by rw [hb]; rfl) h1⟩
theorem kill_write {M : Mu} {s : St} {w w' : World} {b r : Nat} {o : AObj} {O : Obj} (H : HR M s.h w) (L : Li s) (hb : s.h.get b = some o) (hr : M.m b r) (W : Wr w w' r O) :
    HR M (s.kill b).h w' ∧ Ext M w s.n (s.kill b).t M w' (s.kill b).n ∧ Sx s (s.kill b) ∧ Li (s.kill b) := by
  have hs := (L (b := b) (by rw [hb]; rfl)).2
  refine ⟨(kill_hr H hs).write W fun x hx hm => ?_, ⟨.refl M, Nat.le_refl _, fun h => .inl h, fun h => .inl h, W.os, W.tape, W.output, by rw [W.size]; exact Nat.le_refl _, fun {k} hk hT => ?_⟩, kill_sx hs, kill_li L hs⟩
  · rw [kill_get hs] at hx
    by_cases e : x = b
    · rw [if_pos e] at hx; cases hx
    · rw [if_neg e] at hx
      exact e (H.inj hm hr hx (by rw [hb]; rfl))
  · refine W.other fun e => ?_
    subst e
    exact hT b (by simp [St.kill]) hr
theorem pop_n : ∀ {marks : List Nat} {s s2 : St}, popA s marks = some s2 → s2.n = s.n
  | [], s, s2, h => by simp only [popA, Option.some.injEq] at h; subst h; rfl
  | m :: ms, s, s2, h => by
    unfold popA at h
    split at h
    · exact pop_n (s := s.kill m) h
    · cases h
theorem pop_sound {F : Fence} {fn : Func} {tmps : Array Value} {R : Ending → World → Prop} {M : Mu} : ∀ {marks : List Nat} {ds : List Deferred} {s s2 : St} {w : World}, MK M marks ds → popA s marks = some s2 → HR M s.h w → Li s →
    (∀ w2, HR M s2.h w2 → Li s2 → Ext M w s.n s2.t M w2 s2.n → Sx s s2 → LeavesInM F 0 P fn tmps R [] .returning w2) → LeavesInM F 0 P fn tmps R ds .returning w
  | [], _, s, s2, w, .nil, h, H, L, k => by
    simp only [popA, Option.some.injEq] at h
    subst h
    exact k w H L (Ext.refl _ _ _ _) (Sx.refl _)
  | m :: ms, _, s, s2, w, .cons (r := r) hm t, h, H, L, k => by
    unfold popA at h
    split at h
    case h_2 => cases h
    rename_i hb
    obtain ⟨o', h1, h2⟩ := H.at_ hb hm
    have : o' = .deferred (some []) := by
      cases o' with
      | deferred cs => cases cs with
        | none => exact h2.elim
        | some l => cases l with
          | nil => rfl
          | cons _ _ => exact h2.elim
      | _ => exact h2.elim
    subst this
    obtain ⟨k1, k2, k3, k4⟩ := kill_write H L hb hm (Wr.set h1 (.deferred none))
    unfold LeavesInM
    refine ⟨by simp, .inl ⟨r, _, rfl, run_takeDeferred h1, ?_⟩⟩
    refine pop_sound t h k1 k4 fun w2 H2 L2 E2 X2 => k w2 H2 L2 (k2.comp E2 X2) (k3.trans X2)

/-! ### Results -/
theorem aload_var {cf : Cfg} (C : CfgOk P cf) {M : Mu} {s : St} {w : World} (H : HR M s.h w) {t : TypeId} {a a' v : Value} (hv : aload cf s t a = some v) (ha : VR M a a') :
    ∃ v', (do loadVar t (← asAddr a') : Sem Value).run P w = .ok v' w ∧ VR M v v' := by
  obtain ⟨v', h1, h2⟩ := aload_sound C H hv ha
  refine ⟨v', ?_, h2⟩
  unfold aload at hv
  split at hv
  case h_2 => cases hv
  rename_i ti b o ht hA
  cases asA_some hA
  obtain ⟨r, rfl, hr⟩ := ha.ptr_inv
  exact h1
theorem resA_sound {cf : Cfg} (C : CfgOk P cf) {M : Mu} {s : St} {w : World} (H : HR M s.h w) {T : TR Value} {tmps : Array Value} (hT : TRR M T tmps) : ∀ {rs : List ResultVar} {vs : List Value}, resA cf T s rs = some vs →
    ∃ vs', (rs.mapM (m := Sem) fun
      | .tmp t => pure (tmps.getD t undef)
      | .cell a t => do loadVar t (← asAddr (tmps.getD a undef))).run P w = .ok vs' w ∧ LR M vs vs'
  | [], vs, h => by
    simp only [resA, Option.some.injEq] at h
    subst h
    exact ⟨[], by simp, .nil⟩
  | .tmp t :: l, vs, h => by
    unfold resA at h
    split at h
    case h_2 => cases h
    rename_i v us h1 h2
    simp only [Option.some.injEq] at h
    subst h
    obtain ⟨vs', k1, k2⟩ := resA_sound C H hT h2
    exact ⟨_ :: vs', by simp only [List.mapM_cons, Sem.run_bind, Sem.run_pure, Result.andThen_ok, k1], .cons (hT t v h1) k2⟩
  | .cell a t :: l, vs, h => by
    unfold resA at h
    split at h
    case h_2 => cases h
    rename_i v us h1 h2
    simp only [Option.some.injEq] at h
    subst h
    simp only [Option.bind_eq_some_iff] at h1
    obtain ⟨x, h3, h4⟩ := h1
    obtain ⟨vs', k1, k2⟩ := resA_sound C H hT h2
    obtain ⟨v', k3, k4⟩ := aload_var C H h4 (hT a x h3)
    refine ⟨v' :: vs', ?_, .cons k4 k2⟩
    rw [List.mapM_cons, Sem.run_bind]
    simp only [k3, Result.andThen_ok, Sem.run_bind, k1, Sem.run_pure]
theorem results_sound {cf : Cfg} (C : CfgOk P cf) {M : Mu} {s : St} {w : World} (H : HR M s.h w) {T : TR Value} {tmps : Array Value} (hT : TRR M T tmps) {fn : Func} {vs : List Value} (h : resA cf T s fn.results.toList = some vs) :
    ∃ v', (results fn tmps).run P w = .ok v' w ∧ VR M (tupA vs) v' := by
  obtain ⟨vs', h1, h2⟩ := resA_sound C H hT h
  refine ⟨if h : vs'.toArray.size = 1 then vs'.toArray[0] else .tuple vs'.toArray, ?_, ?_⟩
  · unfold results
    rw [Array.mapM_eq_mapM_toList, Sem.run_bind, Sem.run_map]
    exact Eq.trans (congrArg (fun r => Result.andThen (Result.andThen r fun a w' => Result.ok a.toArray w') fun a w' => Sem.run P (pure (if h : a.size = 1 then a[0] else Value.tuple a)) w') h1) rfl
  · have hl := h2.length
    cases h2 with
    | nil => exact .tuple .nil
    | cons hv t =>
      cases t with
      | nil => exact hv
      | cons hv2 t =>
        rw [dif_neg (by simp)]
        exact .tuple (.cons hv (.cons hv2 t))

/-! ### What is forgotten -/
theorem dedup_mem {x : Nat} : ∀ {l acc : List Nat}, x ∈ dedup l acc ↔ x ∈ l ∨ x ∈ acc
  | [], acc => by simp [dedup]
  | b :: l, acc => by
    unfold dedup
    rw [dedup_mem]
    cases h : acc.any (Nat.beq b) with
    | true =>
      have := any_beq.1 h
      simp only [cond, List.mem_cons]
      constructor
      · rintro (h | h)
        · exact .inl (.inr h)
        · exact .inr h
      · rintro ((rfl | h) | h)
        · exact .inr this
        · exact .inl h
        · exact .inr h
    | false =>
      simp only [cond, List.mem_cons]
      constructor
      · rintro (h | rfl | h)
        · exact .inl (.inr h)
        · exact .inl (.inl rfl)
        · exact .inr h
      · rintro ((rfl | h) | h)
        · exact .inr (.inl rfl)
        · exact .inl h
        · exact .inr (.inr h)
theorem oldA_get {src : TR AObj} {n x : Nat} : ∀ {l : List Nat} {h : TR AObj}, (∀ b ∈ l, small b = true) → (oldA src n l h).get x = if x ∈ l ∧ x < n then src.get x else h.get x
  | [], h, _ => by simp [oldA]
  | b :: l, h, hs => by
    unfold oldA
    have hl : ∀ y ∈ l, small y = true := fun y hy => hs y (List.mem_cons_of_mem _ hy)
    cases hb : Nat.blt b n with
    | true =>
      have hbn := Nat.blt_eq.mp hb
      simp only [cond]
      rw [oldA_get hl, TR.get_setS (hs b (List.mem_cons_self ..))]
      by_cases e : x = b
      · subst e
        simp [hbn]
      · simp [e]
    | false =>
      have hbn : ¬ b < n := fun h => by rw [Nat.blt_eq.mpr h] at hb; cases hb
      simp only [cond]
      rw [oldA_get hl]
      by_cases e : x = b
      · subst e
        simp [hbn]
      · simp [e]
theorem keepA_spec {src : TR AObj} {n : Nat} (hsrc : ∀ b o, src.get b = some o → small b = true) : ∀ (f : Nat) (l : List Nat) (h : TR AObj) (t : List Nat),
    (∀ b ∈ t, b ∈ (keepA src n f l h t).2) ∧ ∀ x, (keepA src n f l h t).1.get x = h.get x ∨ (n ≤ x ∧ x ∈ (keepA src n f l h t).2 ∧ (keepA src n f l h t).1.get x = src.get x)
  | 0, l, h, t => ⟨fun b hb => hb, fun x => .inl rfl⟩
  | f + 1, [], h, t => ⟨fun b hb => hb, fun x => .inl rfl⟩
  | f + 1, b :: bs, h, t => by
    unfold keepA
    cases hb : Nat.blt b n with
    | true => exact keepA_spec hsrc f bs h t
    | false =>
      have hbn : n ≤ b := Nat.le_of_not_lt fun h => by rw [Nat.blt_eq.mpr h] at hb; cases hb
      simp only [cond]
      cases h.get b with
      | some _ => exact keepA_spec hsrc f bs h t
      | none =>
        cases hs : src.get b with
        | none => exact keepA_spec hsrc f bs h t
        | some o =>
          simp only
          obtain ⟨k1, k2⟩ := keepA_spec (n := n) hsrc f (refsO o ++ bs) (h.set FU b (some o)) (b :: t)
          refine ⟨fun x hx => k1 x (List.mem_cons_of_mem _ hx), fun x => ?_⟩
          rcases k2 x with k | k
          · rw [TR.get_setS (hsrc b o hs)] at k
            by_cases e : x = b
            · subst e
              rw [if_pos rfl] at k
              exact .inr ⟨hbn, k1 x (List.mem_cons_self ..), by rw [k, hs]⟩
            · rw [if_neg e] at k; exact .inl k
          · exact .inr k
theorem gcA_n {s s' : St} {v : Value} : (gcA s s' v).n = s'.n := by
  unfold gcA
  simp only
  cases ((dedup (s'.t.filter fun b => Nat.blt b s.n) []).isEmpty && scal v) <;> rfl
/-- what is left is as it was; what is gone nobody knows of -/
theorem gcA_spec {s s' : St} {v : Value} (L : Li s) (L' : Li s') (X : Sx ⟨s.h, s.n, []⟩ s') (hsm : small s'.n = true) :
    (∀ b o, (gcA s s' v).h.get b = some o → s'.h.get b = some o) ∧ (∀ b ∈ s.t, b ∈ (gcA s s' v).t) ∧ (∀ b ∈ s'.t, b < s.n → b ∈ (gcA s s' v).t) ∧ (∀ b, b ∉ (gcA s s' v).t → (gcA s s' v).h.get b = s.h.get b) := by
  have hold : ∀ b, b ∈ dedup (s'.t.filter fun b => Nat.blt b s.n) [] ↔ b ∈ s'.t ∧ b < s.n := by
    intro b
    rw [dedup_mem]
    simp only [List.mem_filter, Nat.blt_eq, List.not_mem_nil, or_false]
  have hun : ∀ b o, b ∉ dedup (s'.t.filter fun b => Nat.blt b s.n) [] → s.h.get b = some o → s'.h.get b = some o := by
    intro b o hb ho
    have hlt := (L (b := b) (by rw [ho]; rfl)).1
    have : b ∉ s'.t := fun h => hb ((hold b).2 ⟨h, hlt⟩)
    rw [X.h this]; exact ho
  unfold gcA
  simp only
  generalize hO : dedup (s'.t.filter fun b => Nat.blt b s.n) [] = old at *
  cases hc : (old.isEmpty && scal v) with
  | true =>
    simp only [Bool.and_eq_true, List.isEmpty_iff] at hc
    have he := hc.1
    subst he
    refine ⟨fun b o hb => hun b o (by simp) hb, fun b hb => hb, fun b hb hlt => ?_, fun b _ => rfl⟩
    have := (hold b).2 ⟨hb, hlt⟩
    cases this
  | false =>
    simp only [cond]
    have hsmo : ∀ b ∈ old, small b = true := fun b hb => small_lt hsm (Nat.le_of_lt (Nat.lt_of_lt_of_le ((hold b).1 hb).2 X.n))
    generalize (refsV 4 v ++ old.flatMap fun b => match s'.h.get b with | some o => refsO o | none => []) = roots
    obtain ⟨k1, k2⟩ := keepA_spec (src := s'.h) (n := s.n) (fun b o hb => (L' (b := b) (by rw [hb]; rfl)).2) 100000 roots (oldA s'.h s.n old s.h) (old ++ s.t)
    refine ⟨fun b o hb => ?_, fun b hb => k1 b (List.mem_append_right _ hb), fun b hb hlt => k1 b (List.mem_append_left _ ((hold b).2 ⟨hb, hlt⟩)), fun b hb => ?_⟩
    · rcases k2 b with k | ⟨_, _, k⟩
      · rw [k, oldA_get hsmo] at hb
        by_cases hbo : b ∈ old
        · rw [if_pos ⟨hbo, ((hold b).1 hbo).2⟩] at hb; exact hb
        · rw [if_neg (fun h => hbo h.1)] at hb; exact hun b o hbo hb
      · rw [k] at hb; exact hb
    · rcases k2 b with k | ⟨_, h, _⟩
      · rw [k, oldA_get hsmo, if_neg]
        intro h
        exact hb (k1 b (List.mem_append_left _ h.1))
      · exact absurd h hb
theorem gcA_good {M M' : Mu} {s s' : St} {w w' : World} {v v' : Value} (L : Li s) (F : Fresh M s.n s'.n) (hv : VR M' v v') (H' : HR M' s'.h w') (L' : Li s') (E : Ext M w s.n s'.t M' w' s'.n) (X : Sx ⟨s.h, s.n, []⟩ s')
    (hsm : small s'.n = true) (ht : ∀ b ∈ s'.t, b < s'.n) : Good M s w v (gcA s s' v) M' v' w' := by
  obtain ⟨k1, k2, k3, k4⟩ := gcA_spec (v := v) L L' X hsm
  have key : ∀ {b r}, b ∈ s'.t → M.m b r → b ∈ (gcA s s' v).t := by
    intro b r hb hm
    refine k3 b hb ?_
    rcases F.1 hm with h | h
    · exact h
    · have := ht b hb; omega
  refine ⟨hv, H'.sub k1, fun {b} hb => ?_, ⟨E.le, by rw [gcA_n]; exact E.nn, fun {b r} hm => ?_, fun {b C z} hm => by rw [gcA_n]; exact E.newc hm, E.os, E.tape, E.output, E.size, fun {r} hr hT => E.blk hr fun b hb hm => hT b (key hb hm) hm⟩, ⟨by rw [gcA_n]; exact X.n, k2, fun {b} hb => k4 b hb⟩⟩
  · obtain ⟨o, ho⟩ := Option.isSome_iff_exists.1 hb
    rw [gcA_n]
    exact L' (by rw [k1 b o ho]; rfl)
  · rw [gcA_n]
    rcases E.new hm with h | ⟨h1, h2, h3⟩
    · exact .inl h
    · refine .inr ⟨h1, h2, h3.imp (fun h => h) ?_⟩
      rintro ⟨b0, h4, h5⟩
      exact ⟨b0, key h4 h5, h5⟩

/-! ### A call -/
theorem argsT_get {t : Nat} {v : Value} : ∀ {args : List Value} {T : TR Value} {i : Nat}, small (i + args.length) = true → (argsT T i args).get t = some v → T.get t = some v ∨ ∃ j, args[j]? = some v ∧ t = i + j
  | [], T, i, _, h => .inl h
  | x :: l, T, i, hs, h => by
    unfold argsT at h
    simp only [List.length_cons] at hs
    rcases argsT_get (by rw [show i + 1 + l.length = i + (l.length + 1) by omega]; exact hs) h with h | ⟨j, h1, h2⟩
    · rw [TR.get_setS (small_lt hs (by omega))] at h
      by_cases e : t = i
      · subst e
        rw [if_pos rfl] at h
        exact .inr ⟨0, by simpa using h, rfl⟩
      · rw [if_neg e] at h; exact .inl h
    · exact .inr ⟨j + 1, by simpa using h1, by omega⟩
section
variable {cf : Cfg} {rec : Task → Option Out}
theorem fnEnd_some {s : St} {rs : List ResultVar} {fr : AF} {s1 : St} {o : Out} (h : fnEnd cf s rs fr s1 = some o) :
    ∃ s2 vs, popA s1 fr.marks = some s2 ∧ small s2.n = true ∧ (∀ b ∈ s2.t, b < s2.n) ∧ resA cf fr.T s2 rs = some vs ∧ o = .ret (tupA vs) (gcA s s2 (tupA vs)) := by
  simp only [fnEnd, Option.bind_eq_some_iff] at h
  obtain ⟨s2, h1, h⟩ := h
  obtain ⟨hc, h⟩ := cond_some h
  simp only [Option.bind_eq_some_iff, Option.some.injEq] at h
  obtain ⟨vs, h2, h3⟩ := h
  simp only [Bool.and_eq_true, List.all_eq_true] at hc
  exact ⟨s2, vs, h1, hc.1, fun b hb => Nat.blt_eq.mp (hc.2 b hb), h2, h3.symm⟩
theorem fnOut_some {s : St} {rs : List ResultVar} {x : Option Out} {o : Out} (h : fnOut cf s rs x = some o) : ∃ e fr s1, x = some (.ex e fr s1) ∧ (e = .normal ∨ e = .ret) ∧ fnEnd cf s rs fr s1 = some o := by
  unfold fnOut at h
  split at h
  · exact ⟨_, _, _, rfl, .inl rfl, h⟩
  · exact ⟨_, _, _, rfl, .inr rfl, h⟩
  · cases h
theorem fnA_sound (C : CfgOk P cf) (ih : ∀ t o, rec t = some o → TaskOk P cf t o) {f : FuncId} {args : List Value} {s : St} {o : Out} (h : fnA cf rec f args s = some o) : TaskOk P cf (.call f args s) o := by
  unfold fnA at h
  split at h
  · cases h
  rename_i x hx
  obtain ⟨hal, h⟩ := cond_some h
  obtain ⟨e, fr1, s1, h1, he, h2⟩ := fnOut_some h
  obtain ⟨s2, vs, h3, h4, h5, h6, rfl⟩ := fnEnd_some h2
  have t1 : SExec P cf x.body ⟨argsT .nil 0 args, max args.length x.ntmps, [], none⟩ ⟨s.h, s.n, []⟩ e fr1 s1 := ih _ _ h1
  have hok := C.ft hx
  obtain ⟨fn, g1, g2, g3, g4, g5⟩ := hok.fn
  have hn1 : s.n ≤ s1.n := t1.1
  have hn2 := pop_n h3
  refine ⟨by rw [gcA_n]; omega, ent_of hok, fun M w args' H L F hG ha => ?_⟩
  rw [gcA_n] at F
  refine callsIn_of_wp_marks g1 g2 trivial ?_
  have hlen : args'.size = args.length := by rw [← Array.length_toList]; exact ha.length.symm
  have hfr : FrR M ⟨argsT .nil 0 args, max args.length x.ntmps, [], none⟩ { tmps := args' ++ Array.replicate (fn.ntmps - args'.size) undef, defers := [] } none := by
    refine ⟨fun t v ht => ?_, ?_, .nil, .none⟩
    · rcases argsT_get (by simpa using hal) ht with h | ⟨j, h, rfl⟩
      · cases h
      · obtain ⟨v', k1, k2⟩ := ha.get h
        have : (args' ++ Array.replicate (fn.ntmps - args'.size) undef)[0 + j]? = some v' := by
          rw [Nat.zero_add, Array.getElem?_append_left (by rw [hlen]; exact (List.getElem?_eq_some_iff.1 h).1), ← Array.getElem?_toList]
          exact k1
        simp only [Array.getD_eq_getD_getElem?, this, Option.getD_some]
        exact k2
    · simp only [Array.size_append, Array.size_replicate, hlen, g3]
      omega
  refine wpIn_mono (t1.2 M w _ none H L (F.first (by show s1.n ≤ s2.n; omega)) hG hfr).wp ?_
  rintro y a1 w1 ⟨rfl, M1, hF1, H1, L1, E1, X1⟩
  have main : LeavesInM Fence.wide 0 P fn a1.tmps (PostC M s w (tupA vs) (gcA s s2 (tupA vs))) a1.defers .returning w1 := by
    refine pop_sound hF1.md h3 H1 L1 fun w2 H2 L2 E2 X2 => ?_
    obtain ⟨v', k1, k2⟩ := results_sound C H2 hF1.t (fn := fn) (by rw [g4]; exact h6)
    have E12 : Ext M w s.n s2.t M1 w2 s2.n := E1.comp E2 X2
    exact ⟨v', k1, M1, v', rfl, gcA_good L F k2 H2 L2 E12 (X1.trans X2) h4 h5⟩
  rcases he with rfl | rfl
  · exact main
  · exact main
/-! ### Known calls -/
theorem sameS_eq {a b : Value} (h : sameS a b = true) : a = b := by
  unfold sameS at h
  split at h
  · rw [beq_iff_eq] at h; rw [h]
  · simp only [Bool.and_eq_true, decide_eq_true_eq, beq_iff_eq] at h; rw [h.1, h.2]
  · simp only [Bool.and_eq_true] at h; rw [Nat.eq_of_beq_eq_true h.1, Nat.eq_of_beq_eq_true h.2]
  · rfl
  · rfl
  · rw [Nat.eq_of_beq_eq_true h]
  · rw [sameBy_eq, decide_eq_true_eq, by_eq] at h; rw [h]
  · cases h
theorem sameL_eq : ∀ {a b : List Value}, sameL a b = true → a = b
  | [], [], _ => rfl
  | c :: l, a :: m, h => by
    simp only [sameL, Bool.and_eq_true] at h
    rw [sameS_eq h.1, sameL_eq h.2]
  | [], _ :: _, h => by cases h
  | _ :: _, [], h => by cases h
theorem sameP_eq {a b : Value} (h : sameP a b = true) : a = b := by
  unfold sameP at h
  split at h
  · rename_i xs ys
    have := sameL_eq h
    rw [show xs = ys from Array.toList_inj.1 this]
  · exact sameS_eq h
/-- a world that is what a known call asks for -/
structure Stays (w w' : World) : Prop where
  os : w'.os = w.os
  tape : w'.tape = w.tape
  output : w'.output = w.output
  size : w.heap.size ≤ w'.heap.size
  blk : ∀ {r}, r < w.heap.size → w'.heap[r]? = w.heap[r]?
def MemOk (P : Program) (cf : Cfg) (m : Mem) : Prop := Ent P m.f ∧ plain m.v = true ∧ (∀ x ∈ m.h, x.1 < 1000) ∧ ∀ (M : Mu) (w : World) (args' : Array Value), HR M (heapM m.h) w → (∀ n, Fresh M 1000 n) → GLok M cf → LR M m.args args'.toList →
  CallsIn Fence.wide 0 P m.f args' w (fun e w' => e = .returned m.v ∧ Stays w w')
structure MemsOk (P : Program) (cf : Cfg) : Prop where
  ok : ∀ m ∈ cf.memo, MemOk P cf m
  gl : ∀ g ∈ cf.gl, g < 1000
structure RW (ρ : List (Nat × Nat)) : Prop where
  fn : ∀ {b x y}, (b, x) ∈ ρ → (b, y) ∈ ρ → x = y
  inj : ∀ {b c x}, (b, x) ∈ ρ → (c, x) ∈ ρ → b = c
  lt : ∀ {b x}, (b, x) ∈ ρ → b < 1000
def M2 (ρ : List (Nat × Nat)) (M : Mu) : Mu := ⟨fun b r => ∃ x, (b, x) ∈ ρ ∧ M.m x r, fun b C z => ∃ x, (b, x) ∈ ρ ∧ M.c x C z, M.s⟩
theorem M2.le {ρ ρ' : List (Nat × Nat)} {M : Mu} (h : ∀ p ∈ ρ, p ∈ ρ') : (M2 ρ M).le (M2 ρ' M) := ⟨fun ⟨x, h1, h2⟩ => ⟨x, h _ h1, h2⟩, fun ⟨x, h1, h2⟩ => ⟨x, h _ h1, h2⟩, rfl⟩
theorem findR_some {b x : Nat} : ∀ {ρ : List (Nat × Nat)}, findR b ρ = some x → (b, x) ∈ ρ
  | [], h => by cases h
  | p :: l, h => by
    unfold findR at h
    cases hb : Nat.beq p.1 b with
    | true =>
      rw [hb] at h
      simp only [cond, Option.some.injEq] at h
      have := Nat.eq_of_beq_eq_true hb
      subst h
      subst this
      exact List.mem_cons_self ..
    | false => rw [hb] at h; exact List.mem_cons_of_mem _ (findR_some h)
theorem findR_none {b x : Nat} : ∀ {ρ : List (Nat × Nat)}, findR b ρ = none → (b, x) ∉ ρ
  | [], h, k => by cases k
  | p :: l, h, k => by
    unfold findR at h
    cases hb : Nat.beq p.1 b with
    | true => rw [hb] at h; cases h
    | false =>
      rw [hb] at h
      rcases List.mem_cons.1 k with rfl | k
      · simp at hb
      · exact findR_none h k
theorem addR_sound {b b' : Nat} {ρ ρ' : List (Nat × Nat)} (h : addR b b' ρ = some ρ') (R : RW ρ) : RW ρ' ∧ (∀ p ∈ ρ, p ∈ ρ') ∧ (b, b') ∈ ρ' := by
  unfold addR at h
  split at h
  · rename_i x hx
    obtain ⟨h1, h⟩ := cond_some h
    simp only [Option.some.injEq] at h
    subst h
    have := Nat.eq_of_beq_eq_true h1
    subst this
    exact ⟨R, fun p hp => hp, findR_some hx⟩
  · rename_i hx
    obtain ⟨h1, h⟩ := cond_some h
    simp only [Option.some.injEq] at h
    subst h
    simp only [Bool.and_eq_true, Bool.not_eq_true'] at h1
    have hlt := Nat.blt_eq.mp h1.1
    have hne : ∀ c, (c, b') ∉ ρ := fun c hc => by
      have : (ρ.any fun p => Nat.beq p.2 b') = true := List.any_eq_true.2 ⟨_, hc, Nat.beq_refl _⟩
      rw [h1.2] at this; cases this
    refine ⟨⟨fun {c x y} h2 h3 => ?_, fun {c d x} h2 h3 => ?_, fun {c x} h2 => ?_⟩, fun p hp => List.mem_cons_of_mem _ hp, List.mem_cons_self ..⟩
    · rcases List.mem_cons.1 h2 with h2 | h2 <;> rcases List.mem_cons.1 h3 with h3 | h3
      · cases h2; cases h3; rfl
      · cases h2; exact absurd h3 (findR_none hx)
      · cases h3; exact absurd h2 (findR_none hx)
      · exact R.fn h2 h3
    · rcases List.mem_cons.1 h2 with h2 | h2 <;> rcases List.mem_cons.1 h3 with h3 | h3
      · cases h2; cases h3; rfl
      · cases h2; exact absurd h3 (hne _)
      · cases h3; exact absurd h2 (hne _)
      · exact R.inj h2 h3
    · rcases List.mem_cons.1 h2 with h2 | h2
      · cases h2; exact hlt
      · exact R.lt h2
theorem sameS_VR {M M' : Mu} (hs : M'.s = M.s) {c a v' : Value} (h : sameS c a = true) (k : VR M a v') : VR M' c v' := by
  cases sameS_eq h
  unfold sameS at h
  split at h
  · cases k; exact .bool _
  · cases k; exact .int _ _
  · cases k; exact .nilslice _ _
  · cases k; exact .nilptr
  · cases k; exact .nilmap
  · cases k with
    | sym _ hv ho => exact .sym _ (by rw [hs]; exact hv) ho
  · cases k; exact .string _
  · cases h
structure Mat (ρ ρ' : List (Nat × Nat)) (c a : Value) : Prop where
  rw : RW ρ'
  sub : ∀ p ∈ ρ, p ∈ ρ'
  vr : ∀ {M : Mu} {v'}, VR M a v' → VR (M2 ρ' M) c v'
structure MatL (ρ ρ' : List (Nat × Nat)) (c a : List Value) : Prop where
  rw : RW ρ'
  sub : ∀ p ∈ ρ, p ∈ ρ'
  lr : ∀ {M : Mu} {l'}, LR M a l' → LR (M2 ρ' M) c l'
theorem matS_sound {c a : Value} {ρ ρ' : List (Nat × Nat)} (h : matS c a ρ = some ρ') (R : RW ρ) : Mat ρ ρ' c a := by
  unfold matS at h
  split at h
  · rename_i b o n k b' o' n' k'
    obtain ⟨h1, hr⟩ := cond_some h
    clear h
    simp only [Bool.and_eq_true] at h1
    have e1 := Nat.eq_of_beq_eq_true h1.1.1
    have e2 := Nat.eq_of_beq_eq_true h1.1.2
    have e3 := Nat.eq_of_beq_eq_true h1.2
    subst e1 e2 e3
    obtain ⟨r1, r2, r3⟩ := addR_sound hr R
    refine ⟨r1, r2, fun {M v'} hv => ?_⟩
    generalize hq : (⟨b', o, none⟩ : Addr) = ad at hv
    cases hv with
    | slice o1 n1 c1 hm hc => cases hq; exact .slice o n k ⟨b', r3, hm⟩ hc
    | grown l n1 c1 hm hc hn hC => cases hq; exact .grown l n c1 ⟨b', r3, hm⟩ ⟨b', r3, hc⟩ hn hC
    | empty o1 o2 c1 hm => cases hq; exact .empty o o2 c1 ⟨b', r3, hm⟩
  · rename_i b o b' o'
    obtain ⟨h1, hr⟩ := cond_some h
    clear h
    have e1 := Nat.eq_of_beq_eq_true h1
    subst e1
    obtain ⟨r1, r2, r3⟩ := addR_sound hr R
    refine ⟨r1, r2, fun {M v'} hv => ?_⟩
    cases hv with
    | ptr o1 hm => exact .ptr o ⟨b', r3, hm⟩
  · obtain ⟨h1, hr⟩ := cond_some h
    clear h
    simp only [Option.some.injEq] at hr
    subst hr
    exact ⟨R, fun p hp => hp, fun {M v'} hv => sameS_VR (M := M) (M' := M2 ρ M) rfl h1 hv⟩
theorem matL_sound : ∀ {c a : List Value} {ρ ρ' : List (Nat × Nat)}, matL c a ρ = some ρ' → RW ρ → MatL ρ ρ' c a
  | [], [], ρ, ρ', h, R => by
    simp only [matL, Option.some.injEq] at h
    subst h
    exact ⟨R, fun p hp => hp, fun hl => by cases hl; exact .nil⟩
  | c :: l, a :: m, ρ, ρ', h, R => by
    simp only [matL, Option.bind_eq_some_iff] at h
    obtain ⟨ρ1, h1, h2⟩ := h
    have A := matS_sound h1 R
    have B := matL_sound h2 A.rw
    exact ⟨B.rw, fun p hp => B.sub p (A.sub p hp), fun hl => by
      cases hl with
      | cons hv t => exact .cons ((A.vr hv).mono (M2.le B.sub)) (B.lr t)⟩
  | [], _ :: _, ρ, ρ', h, R => by cases h
  | _ :: _, [], ρ, ρ', h, R => by cases h
theorem matV_sound {c a : Value} {ρ ρ' : List (Nat × Nat)} (h : matV c a ρ = some ρ') (R : RW ρ) : Mat ρ ρ' c a := by
  unfold matV at h
  split at h
  · have A := matL_sound h R
    exact ⟨A.rw, A.sub, fun hv => by
      cases hv with
      | agg ha => exact .agg (A.lr ha)⟩
  · exact matS_sound h R
theorem matVs_sound : ∀ {c a : List Value} {ρ ρ' : List (Nat × Nat)}, matVs c a ρ = some ρ' → RW ρ → MatL ρ ρ' c a
  | [], [], ρ, ρ', h, R => by
    simp only [matVs, Option.some.injEq] at h
    subst h
    exact ⟨R, fun p hp => hp, fun hl => by cases hl; exact .nil⟩
  | c :: l, a :: m, ρ, ρ', h, R => by
    simp only [matVs, Option.bind_eq_some_iff] at h
    obtain ⟨ρ1, h1, h2⟩ := h
    have A := matV_sound h1 R
    have B := matVs_sound h2 A.rw
    exact ⟨B.rw, fun p hp => B.sub p (A.sub p hp), fun hl => by
      cases hl with
      | cons hv t => exact .cons ((A.vr hv).mono (M2.le B.sub)) (B.lr t)⟩
  | [], _ :: _, ρ, ρ', h, R => by cases h
  | _ :: _, [], ρ, ρ', h, R => by cases h
theorem sameG_eq {a b : Option Nat} (h : sameG a b = true) : a = b := by
  unfold sameG at h
  split at h
  · rfl
  · rw [Nat.eq_of_beq_eq_true h]
  · cases h
theorem matH_sound {h : TR AObj} : ∀ {l : List (Nat × List Value × Option Nat)} {ρ ρ' : List (Nat × Nat)}, matH h l ρ = some ρ' → RW ρ → RW ρ' ∧ (∀ p ∈ ρ, p ∈ ρ') ∧
    ∀ b c g, (b, c, g) ∈ l → ∃ b' c', (b, b') ∈ ρ' ∧ h.get b' = some (.cells c' g) ∧ ∀ {M : Mu} {l'}, LR M c' l' → LR (M2 ρ' M) c l'
  | [], ρ, ρ', k, R => by
    simp only [matH, Option.some.injEq] at k
    subst k
    exact ⟨R, fun p hp => hp, fun b c g hm => by cases hm⟩
  | (b, c, g) :: l, ρ, ρ', k, R => by
    simp only [matH, Option.bind_eq_some_iff] at k
    obtain ⟨ρ1, ⟨b', h1, h2⟩, h3⟩ := k
    unfold matB at h2
    split at h2
    case h_2 => cases h2
    rename_i c' g' hb
    obtain ⟨h4, h5⟩ := cond_some h2
    clear h2
    cases sameG_eq h4
    have A := matL_sound h5 R
    obtain ⟨r1, r2, r3⟩ := matH_sound h3 A.rw
    refine ⟨r1, fun p hp => r2 p (A.sub p hp), fun b0 c0 g0 hm => ?_⟩
    rcases List.mem_cons.1 hm with hm | hm
    · cases hm
      exact ⟨b', c', r2 _ (A.sub _ (findR_some h1)), hb, fun hl => (A.lr hl).mono (M2.le r2)⟩
    · exact r3 b0 c0 g0 hm
theorem heapM_get : ∀ {l : List (Nat × List Value × Option Nat)} {b : Nat} {o : AObj}, (∀ x ∈ l, x.1 < 1000) → (heapM l).get b = some o → ∃ c g, (b, c, g) ∈ l ∧ o = .cells c g
  | [], b, o, _, h => by cases h
  | (b0, c, g) :: l, b, o, hl, h => by
    unfold heapM at h
    have hs : small b0 = true := by
      have := hl _ (List.mem_cons_self ..)
      exact small_lt (b := 1000) (by decide) (Nat.le_of_lt this)
    rw [TR.get_setS hs] at h
    by_cases e : b = b0
    · subst e
      rw [if_pos rfl] at h
      simp only [Option.some.injEq] at h
      exact ⟨c, g, List.mem_cons_self .., h.symm⟩
    · rw [if_neg e] at h
      obtain ⟨c', g', h1, h2⟩ := heapM_get (fun x hx => hl x (List.mem_cons_of_mem _ hx)) h
      exact ⟨c', g', List.mem_cons_of_mem _ h1, h2⟩
theorem M2_hr {M : Mu} {s : St} {w : World} (H : HR M s.h w) {l : List (Nat × List Value × Option Nat)} {ρ : List (Nat × Nat)} (R : RW ρ) (hl : ∀ x ∈ l, x.1 < 1000)
    (k : ∀ b c g, (b, c, g) ∈ l → ∃ b' c', (b, b') ∈ ρ ∧ s.h.get b' = some (.cells c' g) ∧ ∀ {M : Mu} {l'}, LR M c' l' → LR (M2 ρ M) c l') : HR (M2 ρ M) (heapM l) w := by
  refine ⟨fun ⟨x, h1, h2⟩ ⟨y, h3, h4⟩ => ?_, fun ⟨x, h1, h2⟩ ⟨y, h3, h4⟩ => ?_, fun ⟨x, h1, h2⟩ => H.lt h2, fun {b b'} {r} ⟨x, h1, h2⟩ ⟨y, h3, h4⟩ h5 h6 => ?_, fun {b o} hb => ?_⟩
  · cases R.fn h1 h3; exact H.fn h2 h4
  · cases R.fn h1 h3; exact H.fc h2 h4
  · obtain ⟨o, ho⟩ := Option.isSome_iff_exists.1 h5
    obtain ⟨o', ho'⟩ := Option.isSome_iff_exists.1 h6
    obtain ⟨c, g, m1, _⟩ := heapM_get hl ho
    obtain ⟨c', g', m2, _⟩ := heapM_get hl ho'
    obtain ⟨x', cx, n1, n2, _⟩ := k _ _ _ m1
    obtain ⟨y', cy, n3, n4, _⟩ := k _ _ _ m2
    cases R.fn h1 n1
    cases R.fn h3 n3
    have := H.inj h2 h4 (by rw [n2]; rfl) (by rw [n4]; rfl)
    subst this
    exact R.inj h1 h3
  · obtain ⟨c, g, m1, rfl⟩ := heapM_get hl hb
    obtain ⟨x, cx, n1, n2, n3⟩ := k _ _ _ m1
    obtain ⟨r, o', p1, p2, p3⟩ := H.ob n2
    refine ⟨r, o', ⟨x, n1, p1⟩, p2, ?_⟩
    cases o' with
    | cells c' e f =>
      cases g with
      | none =>
        have hlr := n3 p3.2
        refine ⟨p3.1, ?_⟩
        have := hlr.length
        rw [this]
        have h2 : (List.take cx.length c'.toList).length = cx.length := p3.2.length.symm
        rw [h2]
        exact hlr
      | some z =>
        obtain ⟨q1, q2, q3, C, q4, q5⟩ := p3
        have hlr := n3 q2
        refine ⟨q1, ?_, q3, C, ⟨x, n1, q4⟩, q5⟩
        have := hlr.length
        rw [this]
        have h2 : (List.take cx.length c'.toList).length = cx.length := q2.length.symm
        rw [h2]
        exact hlr
    | _ => cases g <;> exact p3.elim
theorem memoA_some {f : FuncId} {args : List Value} {h : TR AObj} {gl : List Nat} {v : Value} : ∀ {l : List Mem}, memoA f args h gl l = some v → ∃ m ∈ l, m.f = f ∧ m.v = v ∧ ∃ ρ1 ρ2, matVs m.args args (gl.map fun g => (g, g)) = some ρ1 ∧ matH h m.h ρ1 = some ρ2
  | [], h => by cases h
  | m :: l, h => by
    unfold memoA at h
    split at h
    · rename_i x hx
      obtain ⟨h1, h2⟩ := cond_some hx
      simp only [Option.bind_eq_some_iff] at h2
      obtain ⟨ρ1, h3, h4⟩ := h2
      simp only [Option.some.injEq] at h
      exact ⟨m, List.mem_cons_self .., (Nat.eq_of_beq_eq_true h1).symm, h, ρ1, x, h3, h4⟩
    · obtain ⟨m', h1, h2⟩ := memoA_some h
      exact ⟨m', List.mem_cons_of_mem _ h1, h2⟩
theorem memo_sound (K : MemsOk P cf) {f : FuncId} {args : List Value} {s : St} {v : Value} (h : memoA f args s.h cf.gl cf.memo = some v) : SCall P cf f args s v s := by
  obtain ⟨m, h1, rfl, rfl, ρ1, ρ2, h2, h3⟩ := memoA_some h
  obtain ⟨k1, k2, k3, k4⟩ := K.ok m h1
  have R0 : RW (cf.gl.map fun g => (g, g)) := ⟨fun {b x y} ha hb => by
      simp only [List.mem_map, Prod.mk.injEq] at ha hb
      obtain ⟨_, _, rfl, rfl⟩ := ha
      obtain ⟨_, _, rfl, rfl⟩ := hb
      rfl, fun {b c x} ha hb => by
      simp only [List.mem_map, Prod.mk.injEq] at ha hb
      obtain ⟨_, _, rfl, rfl⟩ := ha
      obtain ⟨_, _, rfl, rfl⟩ := hb
      rfl, fun {b x} ha => by
      simp only [List.mem_map, Prod.mk.injEq] at ha
      obtain ⟨g, hg, rfl, rfl⟩ := ha
      exact K.gl g hg⟩
  have A := matVs_sound h2 R0
  obtain ⟨r1, r2, r3⟩ := matH_sound h3 A.rw
  refine ⟨Nat.le_refl _, k1, fun M w args' H L F hG ha => ?_⟩
  refine CallsIn.mono (k4 (M2 ρ2 M) w args' (M2_hr H r1 k3 r3) (fun n => ⟨fun ⟨x, h4, _⟩ => .inl (r1.lt h4), fun ⟨x, h4, _⟩ => .inl (r1.lt h4)⟩) ⟨fun g hg => ⟨g, r2 _ (A.sub _ (List.mem_map.2 ⟨g, any_beq.1 hg, rfl⟩)), hG.1 g hg⟩, hG.2⟩ ((A.lr ha).mono (M2.le r2))) ?_
  rintro e w' ⟨rfl, S⟩
  refine ⟨M, m.v, rfl, plain_VR M k2, ⟨H.fn, H.fc, fun h => Nat.lt_of_lt_of_le (H.lt h) S.size, H.inj, fun {b o} hb => ?_⟩, L, ⟨.refl M, Nat.le_refl _, fun h => .inl h, fun h => .inl h, S.os, S.tape, S.output, S.size, fun hr _ => S.blk hr⟩, Sx.refl s⟩
  obtain ⟨r, o', j1, j2, j3⟩ := H.ob hb
  exact ⟨r, o', j1, by rw [S.blk (H.lt j1)]; exact j2, j3⟩
theorem stepA_sound (C : CfgOk P cf) (K : MemsOk P cf) (ih : ∀ t o, rec t = some o → TaskOk P cf t o) {t : Task} {o : Out} (h : stepA t cf rec = some o) : TaskOk P cf t o := by
  cases t with
  | exec c fr s => exact execA_sound C ih h
  | call f args s =>
    replace h : callT (memoA f args s.h cf.gl cf.memo) cf rec f args s = some o := h
    generalize hm : memoA f args s.h cf.gl cf.memo = m at h
    cases m with
    | none => exact fnA_sound C ih h
    | some v =>
      replace h : some (Out.ret v s) = some o := h
      simp only [Option.some.injEq] at h
      subst h
      exact memo_sound K hm
end
theorem runA_sound {cf : Cfg} (C : CfgOk P cf) (K : MemsOk P cf) : ∀ (f : Nat) (t : Task) (o : Out), runA cf f t = some o → TaskOk P cf t o
  | 0, t, o, h => by cases h
  | f + 1, t, o, h => stepA_sound C K (runA_sound C K f) h
end Go.Proofs.YtecfnddaniphdaaGreatDoor.AM
