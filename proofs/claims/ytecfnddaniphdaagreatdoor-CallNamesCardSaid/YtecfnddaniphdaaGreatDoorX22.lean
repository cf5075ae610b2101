/-
  The abstract machine: code.
-/
import Derived.Test.YtecfnddaniphdaaGreatDoorX21
set_option linter.unusedVariables false
set_option linter.unusedSimpArgs false
namespace Go.Proofs.YtecfnddaniphdaaGreatDoor.AM
variable {P : Program}

theorem PostE.comp {M M1 : Mu} {s s1 s' : St} {w w1 : World} {r : Option Nat} {e : Ex} {fr' : AF} (E : Ext M w s.n s1.t M1 w1 s1.n) (X : Sx s s1) {x : Exit} {a' : Act} {w' : World} (h : PostE M1 s1 w1 r e fr' s' x a' w') : PostE M s w r e fr' s' x a' w' := by
  obtain ⟨h0, M', h1, h2, h3, h4, h5⟩ := h
  exact ⟨h0, M', h1, h2, h3, E.comp h4 h5, X.trans h5⟩
section
variable {cf : Cfg} {rec : Task → Option Out}
theorem exec_ex (ih : ∀ t o, rec t = some o → TaskOk P cf t o) {c : Code} {fr : AF} {s : St} {o : Out} (h : rec (.exec c fr s) = some o) : ∃ e fr' s', o = .ex e fr' s' ∧ SExec P cf c fr s e fr' s' := by
  have k := ih _ _ h
  cases o with
  | ex e fr' s' => exact ⟨e, fr', s', rfl, k⟩
  | ret v s' => exact k.elim
theorem SExec.same {c : Code} {fr : AF} {s : St} {e : Ex} (h : ∀ (r : Option Nat) (Q : Exit → Act → World → Prop) (a : Act) (w : World), Q (exR e) a w → WX (WF r) 0 P c Q a w) : SExec P cf c fr s e fr s :=
  ⟨Nat.le_refl _, fun M w a r H L F hG hF => h r _ a w ⟨rfl, M, hF, H, L, Ext.refl _ _ _ _, Sx.refl s⟩⟩
theorem xSeq_cases {b : Code} {x : Option Out} {o : Out} (h : xSeq rec b x = some o) :
    (∃ fr1 s1, x = some (.ex .normal fr1 s1) ∧ rec (.exec b fr1 s1) = some o) ∨ (x = some o ∧ ∀ fr1 s1, o ≠ .ex .normal fr1 s1) := by
  unfold xSeq at h
  split at h
  · exact .inl ⟨_, _, rfl, h⟩
  · rename_i h1
    subst h
    exact .inr ⟨rfl, fun fr1 s1 e => h1 fr1 s1 (by rw [e])⟩
theorem seq_sound {a b : Code} {fr fr1 fr' : AF} {s s1 s' : St} {e : Ex} (t1 : SExec P cf a fr s .normal fr1 s1) (t2 : SExec P cf b fr1 s1 e fr' s') : SExec P cf (.seq a b) fr s e fr' s' := by
  refine ⟨Nat.le_trans t1.1 t2.1, fun M w ac r H L F hG hF => ?_⟩
  refine wpIn_seq (wpIn_mono (t1.2 M w ac r H L (F.first t2.1) hG hF).wp ?_)
  rintro x a1 w1 ⟨rfl, M1, hF1, H1, L1, E1, X1⟩
  exact wpIn_mono (t2.2 M1 w1 a1 r H1 L1 (F.then E1) (hG.mono E1.le) hF1).wp fun x a' w' h => h.comp E1 X1
theorem exR_ne {e : Ex} (h : e ≠ .normal) {K : Act → World → Prop} {Q : Exit → Act → World → Prop} {a : Act} {w : World} (k : Q (exR e) a w) : Exit.then K Q (exR e) a w := by
  cases e with
  | normal => exact absurd rfl h
  | exit id => exact k
  | ret => exact k
theorem seq_first {a b : Code} {fr fr' : AF} {s s' : St} {e : Ex} (he : e ≠ .normal) (t1 : SExec P cf a fr s e fr' s') : SExec P cf (.seq a b) fr s e fr' s' := by
  refine ⟨t1.1, fun M w ac r H L F hG hF => ?_⟩
  refine wpIn_seq (wpIn_mono (t1.2 M w ac r H L F hG hF).wp ?_)
  rintro x a1 w1 h
  have := h.1
  subst this
  exact exR_ne he h
theorem loop_sound {c : Code} {fr fr1 fr' : AF} {s s1 s' : St} {e : Ex} (t1 : SExec P cf c fr s .normal fr1 s1) (t2 : SExec P cf (.loop c) fr1 s1 e fr' s') : SExec P cf (.loop c) fr s e fr' s' := by
  refine ⟨Nat.le_trans t1.1 t2.1, fun M w ac r H L F hG hF => ?_⟩
  refine LI.mk (fun a w' => LI (WF r) 0 P c (PostE M s w r e fr' s') a w') (wpIn_mono (t1.2 M w ac r H L (F.first t2.1) hG hF).wp ?_) (fun _ _ h => h)
  rintro x a1 w1 ⟨rfl, M1, hF1, H1, L1, E1, X1⟩
  exact LI.mono (fun x a' w' h => h.comp E1 X1) (t2.2 M1 w1 a1 r H1 L1 (F.then E1) (hG.mono E1.le) hF1)
theorem loop_first {c : Code} {fr fr' : AF} {s s' : St} {e : Ex} (he : e ≠ .normal) (t1 : SExec P cf c fr s e fr' s') : SExec P cf (.loop c) fr s e fr' s' := by
  refine ⟨t1.1, fun M w ac r H L F hG hF => ?_⟩
  refine LI.mk (fun _ _ => False) (wpIn_mono (t1.2 M w ac r H L F hG hF).wp ?_) (fun _ _ h => h.elim)
  rintro x a1 w1 h
  have := h.1
  subst this
  exact exR_ne he h
def blkE (id : Nat) : Ex → Ex
  | .exit j => cond (Nat.beq j id) .normal (.exit j)
  | e => e
theorem block_sound {c : Code} {id : Nat} {fr fr' : AF} {s s' : St} {e : Ex} (t1 : SExec P cf c fr s e fr' s') :
    SExec P cf (.block id c) fr s (blkE id e) fr' s' := by
  refine ⟨t1.1, fun M w ac r H L F hG hF => ?_⟩
  refine wpIn_block (wpIn_mono (t1.2 M w ac r H L F hG hF).wp ?_)
  rintro x a1 w1 ⟨rfl, h⟩
  cases e with
  | normal => exact ⟨rfl, h⟩
  | ret => exact ⟨rfl, h⟩
  | exit j =>
    show if j = id then PostE M s w r (cond (Nat.beq j id) .normal (.exit j)) fr' s' .normal a1 w1 else PostE M s w r (cond (Nat.beq j id) .normal (.exit j)) fr' s' (.exit j) a1 w1
    by_cases hj : j = id
    · subst hj
      rw [if_pos rfl, Nat.beq_refl]
      exact ⟨rfl, h⟩
    · rw [if_neg hj]
      have : Nat.beq j id = false := by cases hb : Nat.beq j id with | false => rfl | true => exact absurd (Nat.eq_of_beq_eq_true hb) hj
      rw [this]
      exact ⟨rfl, h⟩
/-- what a block of code hands on, as xBlock says -/
theorem xBlock_some {id : Nat} {x : Option Out} {o : Out} (h : xBlock id x = some o) :
    ∃ o1, x = some o1 ∧ ∀ e fr s, o1 = .ex e fr s → o = .ex (blkE id e) fr s := by
  unfold xBlock at h
  split at h
  · simp only [Option.some.injEq] at h
    subst h
    exact ⟨_, rfl, fun e fr s he => by cases he; rfl⟩
  · rename_i h1
    subst h
    refine ⟨o, rfl, fun e fr s he => ?_⟩
    subst he
    cases e with
    | exit j => exact (h1 j fr s rfl).elim
    | _ => rfl
theorem region_sound (C : CfgOk P cf) (ih : ∀ t o, rec t = some o → TaskOk P cf t o) {id : Nat} {ops : Array Oper} {draw : Bool} {fr fr' : AF} {s s' : St}
    (h : cond draw (regionA cf rec ops.toList fr s) (opsA cf rec ops.toList ops.toList fr s) = some (fr', s')) : SExec P cf (.region id ops draw) fr s .normal fr' s' := by
  cases draw with
  | true =>
    exact ⟨regionA_n C ih h, fun M w a r H L F hG hF => regionA_sound C ih h r H L F hG hF fun a' w' k => ⟨rfl, k⟩⟩
  | false =>
    refine ⟨opsA_n ih h, fun M w a r H L F hG hF => wpIn_region ?_⟩
    have := opsA_sound C ih (ops := ops) r (Q := PostE M s w r .normal fr' s') ops.toList 0 rfl h H L F hG hF (fun a' w' k => ⟨rfl, k⟩)
    rw [List.range_eq_range']
    simpa using this
theorem popDefers {M : Mu} : True := trivial

/-! ### A range over a function -/
theorem new_deferred {M : Mu} {s : St} {w : World} (H : HR M s.h w) (L : Li s) (F : Fresh M s.n (s.n + 1)) (hs : small s.n = true) :
    HR (M.add s.n w.heap.size none) (s.new .deferred).h (w.alloc (.deferred (some []))) ∧ Ext M w s.n (s.new .deferred).t (M.add s.n w.heap.size none) (w.alloc (.deferred (some []))) (s.new .deferred).n ∧ Sx s (s.new .deferred) ∧ Li (s.new .deferred) :=
  new_sound none H L F hs (Nw.alloc w _) trivial
theorem rangeIn_some {fr : AF} {s : St} {x : Nat × St × AF} (h : rangeIn fr s = some x) :
    (∃ l L, fr.round = some l ∧ loopAt s l = some L ∧ x = (L.defers, s, fr)) ∨ (fr.round = none ∧ small s.n = true ∧ x = (s.n, s.new .deferred, { fr with marks := s.n :: fr.marks })) := by
  unfold rangeIn at h
  split at h
  · rename_i l hl
    simp only [Option.map_eq_some_iff] at h
    obtain ⟨L, h1, rfl⟩ := h
    exact .inl ⟨l, L, hl, h1, rfl⟩
  · rename_i hr
    obtain ⟨h1, h⟩ := cond_some h
    simp only [Option.some.injEq] at h
    exact .inr ⟨hr, h1, h.symm⟩
theorem rangeEnd_n (ih : ∀ t o, rec t = some o → TaskOk P cf t o) {l : Nat} {fr : AF} {s : St} {L : ALoop} {o : Out} (h : rangeEnd rec l fr s L = some o) : ∃ e fr' s', o = .ex e fr' s' ∧ s.n ≤ s'.n ∧
    L.st ≠ .busy ∧ ((L.pend = none ∧ e = .normal ∧ fr' = fr ∧ s' = s.put l (.loop { L with st := .exhausted })) ∨ ∃ c, L.pend = some c ∧ SExec P cf c fr (s.put l (.loop { L with st := .exhausted })) e fr' s') := by
  unfold rangeEnd at h
  split at h
  · cases h
  · rename_i hb
    split at h
    · rename_i hp
      simp only [Option.some.injEq] at h
      exact ⟨_, _, _, h.symm, Nat.le_refl _, fun e => hb e, .inl ⟨hp, rfl, rfl, rfl⟩⟩
    · rename_i c hp
      obtain ⟨e, fr', s', rfl, t⟩ := exec_ex ih h
      exact ⟨e, fr', s', rfl, t.1, fun e => hb e, .inr ⟨c, hp, t⟩⟩
theorem range_sound (C : CfgOk P cf) (ih : ∀ t o, rec t = some o → TaskOk P cf t o) {f : Operand} {ps : Array Tmp} {assign body : Code} {fr : AF} {s : St} {o : Out} (h : xRange cf rec f ps.toList assign body fr s = some o) :
    ∃ e fr' s', o = .ex e fr' s' ∧ SExec P cf (.rangeFunc f ps assign body) fr s e fr' s' := by
  simp only [xRange, Option.bind_eq_some_iff] at h
  obtain ⟨⟨db, s1, fr1⟩, h1, v, hv, h2⟩ := h
  unfold rangeGo at h2
  split at h2
  case h_2 => cases h2
  rename_i g first cap
  obtain ⟨hsm, h2⟩ := cond_some h2
  simp only at hsm h2
  split at h2
  case h_2 => cases h2
  rename_i rv s2 hcall
  simp only [Option.bind_eq_some_iff] at h2
  obtain ⟨L2, hL2, h3⟩ := h2
  have tc : SCall P cf g (first.toList ++ [.func (.yield s1.n) #[] #[]] ++ cap.toList) (s1.new (.loop ⟨.ready, none, fr.T, fr.sz, ps.toList, assign, body, db⟩)) rv s2 := ih _ _ hcall
  obtain ⟨e, fr', s', rfl, hn', hbusy, hend⟩ := rangeEnd_n ih h3
  refine ⟨e, fr', s', rfl, ?_⟩
  have hn1 : s.n ≤ s1.n := by
    rcases rangeIn_some h1 with ⟨l, L, _, _, k⟩ | ⟨_, _, k⟩ <;> (simp only [Prod.mk.injEq] at k; obtain ⟨_, rfl, _⟩ := k)
    · exact Nat.le_refl _
    · exact Nat.le_succ _
  have hn2 := tc.1
  have hn2' : s1.n + 1 ≤ s2.n := hn2
  refine ⟨by omega, fun M w a r H L F hG hF => ?_⟩
  -- the frame's side: the block for the deferred calls
  have hin : ∃ M1 w1 mark db', (∀ fn loop', (Instr.enterLoop fn a.tmps ps assign body r).run P w = .ok (loop', mark) (w1.alloc (.loop { state := .ready, pending := none, fn, tmps := a.tmps, params := ps, assign, body, defers := db' })) ∨ loop' ≠ w1.heap.size) ∧
      HR M1 s1.h w1 ∧ Li s1 ∧ Ext M w s.n s1.t M1 w1 s1.n ∧ Sx s s1 ∧ M1.m db db' ∧ FrR M1 fr1 { a with defers := mark ++ a.defers } r := by
    rcases rangeIn_some h1 with ⟨l, L0, hr, hl, k⟩ | ⟨hr, hs0, k⟩
    · simp only [Prod.mk.injEq] at k
      obtain ⟨rfl, rfl, rfl⟩ := k
      have hro := hF.ro
      rw [hr] at hro
      cases hro with
      | some hl' =>
      rename_i l'
      obtain ⟨L', g1, g2, g3, g4, g5, g6, g7, g8, g9⟩ := H.loop (loopAt_some hl) hl'
      refine ⟨M, w, [], L'.defers, fun fn lp => ?_, H, L, Ext.refl _ _ _ _, Sx.refl _, g9, by simpa using hF⟩
      by_cases hlp : lp = w.heap.size
      · left
        subst hlp
        unfold Instr.enterLoop
        simp only [Sem.run_bind, AM.run_getLoop g1, Result.andThen_ok, Sem.run_pure, run_newObj_alloc, Result.andThen]
      · exact .inr hlp
    · simp only [Prod.mk.injEq] at k
      obtain ⟨rfl, rfl, rfl⟩ := k
      have hro := hF.ro
      rw [hr] at hro
      cases hro
      obtain ⟨k1, k2, k3, k4⟩ := new_deferred H L (F.first (by have : (s.new .deferred).n = s.n + 1 := rfl; omega)) hs0
      refine ⟨_, _, [{ target := .collected w.heap.size, args := #[] }], w.heap.size, fun fn lp => ?_, k1, k4, k2, k3, Mu.add_m _ _ _ _, ?_⟩
      · by_cases hlp : lp = (w.alloc (.deferred (some []))).heap.size
        · left
          subst hlp
          rw [run_enterLoop_outer, World.size_alloc]
        · exact .inr hlp
      · have hm := hF.mono (Mu.le_add M s.n w.heap.size none)
        exact ⟨hm.t, hm.sz, .cons (Mu.add_m _ _ _ _) hm.md, hm.ro⟩
  obtain ⟨M1, w1, mark, db', hent, H1, L1, E1, X1, hdb, hF1⟩ := hin
  have F1 := F.then E1
  obtain ⟨fn', first', cap', hx', hfn, ha, hc⟩ := (ev_sound hF.t hG hv).fn_inv
  cases FnR.map_inv hfn
  refine wpIn_rangeFunc fun fn _ => ?_
  obtain ⟨k1, k2, k3, k4⟩ := new_sound (o := .loop ⟨.ready, none, fr.T, fr.sz, ps.toList, assign, body, db⟩) (O := .loop { state := .ready, pending := none, fn, tmps := a.tmps, params := ps, assign, body, defers := db' }) none H1 L1
    (F1.first (by omega)) hsm (Nw.alloc w1 _)
    ⟨rfl, rfl, (hF.t.mono E1.le).mono (Mu.le_add _ _ _ _), hF.sz, rfl, rfl, rfl, (Mu.le_add _ _ _ _).m hdb⟩
  refine ⟨w1.heap.size, mark, (w1.alloc (.loop { state := .ready, pending := none, fn, tmps := a.tmps, params := ps, assign, body, defers := db' })), ⟨.fn (.func g) cap', first' ++ #[.func (.yield w1.heap.size) #[] #[]]⟩, (w1.alloc (.loop { state := .ready, pending := none, fn, tmps := a.tmps, params := ps, assign, body, defers := db' })), g, first' ++ #[.func (.yield w1.heap.size) #[] #[]] ++ cap', (w1.alloc (.loop { state := .ready, pending := none, fn, tmps := a.tmps, params := ps, assign, body, defers := db' })), (hent fn w1.heap.size).resolve_right (by simp), ?_, fun _ _ => trivial, ?_, wf_depth, ?_⟩
  · show (Deferred.ofValue (a.eval f) (#[Operand.const (.func (.yield w1.heap.size) #[] #[])].map a.eval)).run P _ = _
    rw [hx']
    simp [Deferred.ofValue, Act.eval]
  · exact tc.2.1 _ _
  · refine CallsIn.mono (tc.2.2 _ _ _ k1 k4 ((F1.first (by omega)).then k2) ((hG.mono E1.le).mono (Mu.le_add _ _ _ _)) ?_) ?_
    · simp only [Array.toList_append]
      refine LR.append (LR.append ((LR.mono E1.le ha).mono (Mu.le_add _ _ _ _)) (.cons (.func (.yield (Mu.add_m _ _ _ _)) .nil .nil) .nil)) ((LR.mono E1.le hc).mono (Mu.le_add _ _ _ _))
    · rintro e3 w3 ⟨M3, v3, rfl, G3⟩
      have E13 := (E1.comp k2 k3).comp G3.ext G3.sx
      have X13 := (X1.trans k3).trans G3.sx
      obtain ⟨L', j1, j2, j3, j4⟩ := loop_put G3.hr G3.li (loopAt_some hL2) (G3.ext.le.m (Mu.add_m _ _ _ _)) .exhausted L2.pend
      obtain ⟨H4, E4, X4, L4⟩ := j4
      refine ⟨L2.pend, { w3 with heap := w3.heap.setIfInBounds w1.heap.size (.loop { L' with state := .exhausted, pending := L2.pend }) }, ?_, ?_⟩
      · rw [run_endLoop j1 (by rw [j2]; exact hbusy), ← j3]
        rfl
      · have hF4 : FrR M3 fr1 { a with defers := mark ++ a.defers } r := hF1.mono ((Mu.le_add _ _ _ _).trans G3.ext.le)
        have E14 := E13.comp E4 X4
        have F4 : Fresh M3 s2.n s'.n := (F1.then k2).then G3.ext
        rcases hend with ⟨hp, rfl, rfl, hs'⟩ | ⟨c, hp, t⟩
        · rw [hp] at H4 E14 X4 L4 hs' ⊢
          subst hs'
          exact ⟨rfl, M3, hF4, H4, L4, E14, X13.trans X4⟩
        · rw [hp] at H4 E14 X4 L4 t ⊢
          exact wpIn_mono (t.2 M3 _ _ r H4 L4 F4 (hG.mono E14.le) hF4).wp fun x a' w' hx => PostE.comp E14 (X13.trans X4) hx
theorem execA_sound (C : CfgOk P cf) (ih : ∀ t o, rec t = some o → TaskOk P cf t o) {c : Code} {fr : AF} {s : St} {o : Out} (h : execA c cf rec fr s = some o) : TaskOk P cf (.exec c fr s) o := by
  cases c with
  | skip =>
    have h : some (Out.ex .normal fr s) = some o := h
    simp only [Option.some.injEq] at h
    subst h
    exact SExec.same fun r Q a w k => wpIn_skip k
  | label l =>
    have h : some (Out.ex .normal fr s) = some o := h
    simp only [Option.some.injEq] at h
    subst h
    exact SExec.same fun r Q a w k => wpIn_label k
  | exit id =>
    have h : some (Out.ex (.exit id) fr s) = some o := h
    simp only [Option.some.injEq] at h
    subst h
    exact SExec.same fun r Q a w k => wpIn_exit k
  | ret =>
    have h : some (Out.ex .ret fr s) = some o := h
    simp only [Option.some.injEq] at h
    subst h
    exact SExec.same fun r Q a w k => wpIn_ret k
  | region id ops draw =>
    replace h : cond draw (xReg (regionA cf rec ops.toList fr s)) (xReg (opsA cf rec ops.toList ops.toList fr s)) = some o := h
    have : xReg (cond draw (regionA cf rec ops.toList fr s) (opsA cf rec ops.toList ops.toList fr s)) = some o := by cases draw <;> exact h
    simp only [xReg, Option.map_eq_some_iff] at this
    obtain ⟨⟨fr', s'⟩, h1, rfl⟩ := this
    exact region_sound C ih h1
  | seq a b =>
    replace h : xSeq rec b (rec (.exec a fr s)) = some o := h
    rcases xSeq_cases h with ⟨fr1, s1, h1, h2⟩ | ⟨h1, h2⟩
    · obtain ⟨e, fr', s', rfl, t2⟩ := exec_ex ih h2
      exact seq_sound (ih _ _ h1 : SExec P cf a fr s .normal fr1 s1) t2
    · obtain ⟨e, fr', s', rfl, t1⟩ := exec_ex ih h1
      exact seq_first (fun he => h2 _ _ (by rw [he])) t1
  | loop c =>
    replace h : xSeq rec (.loop c) (rec (.exec c fr s)) = some o := h
    rcases xSeq_cases h with ⟨fr1, s1, h1, h2⟩ | ⟨h1, h2⟩
    · obtain ⟨e, fr', s', rfl, t2⟩ := exec_ex ih h2
      exact loop_sound (ih _ _ h1 : SExec P cf c fr s .normal fr1 s1) t2
    · obtain ⟨e, fr', s', rfl, t1⟩ := exec_ex ih h1
      exact loop_first (fun he => h2 _ _ (by rw [he])) t1
  | cond c a b =>
    replace h : xCond rec a b fr s (ev c cf fr.T) = some o := h
    unfold xCond at h
    split at h
    case h_2 => cases h
    rename_i t ht
    obtain ⟨e, fr', s', rfl, t1⟩ := exec_ex ih h
    refine ⟨t1.1, fun M w ac r H L F hG hF => ?_⟩
    have hb := (ev_sound hF.t hG ht).bool_inv
    refine wpIn_cond hb ?_
    cases t with
    | true => exact (t1.2 M w ac r H L F hG hF).wp
    | false => exact (t1.2 M w ac r H L F hG hF).wp
  | block id c =>
    replace h : xBlock id (rec (.exec c fr s)) = some o := h
    obtain ⟨o1, h1, h2⟩ := xBlock_some h
    obtain ⟨e, fr', s', rfl, t1⟩ := exec_ex ih h1
    rw [h2 e fr' s' rfl]
    exact block_sound t1
  | rangeFunc f ps assign body =>
    replace h : xRange cf rec f ps.toList assign body fr s = some o := h
    obtain ⟨e, fr', s', rfl, t1⟩ := range_sound C ih h
    exact t1
  | goto l => cases h
  | _ => cases h
end
end Go.Proofs.YtecfnddaniphdaaGreatDoor.AM
