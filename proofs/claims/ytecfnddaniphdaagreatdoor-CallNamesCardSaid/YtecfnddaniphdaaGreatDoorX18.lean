/-
  The abstract machine: operations that call; rounds; operations in a row.
-/
import Derived.Test.YtecfnddaniphdaaGreatDoorX17
set_option linter.unusedVariables false
set_option linter.unusedSimpArgs false
namespace Go.Proofs.YtecfnddaniphdaaGreatDoor.AM
variable {P : Program}

theorem Ext.comp {M M1 M2 : Mu} {w w1 w2 : World} {s s1 s2 : St} (h : Ext M w s.n s1.t M1 w1 s1.n) (k : Ext M1 w1 s1.n s2.t M2 w2 s2.n) (sx : Sx s1 s2) : Ext M w s.n s2.t M2 w2 s2.n :=
  h.trans k (fun b hb => sx.t b hb) (fun b hb => hb)
theorem loopAt_some {s : St} {l : Nat} {L : ALoop} (h : loopAt s l = some L) : s.h.get l = some (.loop L) := by
  unfold loopAt at h
  split at h
  · rename_i hg; simp only [Option.some.injEq] at h; subst h; exact hg
  · cases h
theorem HR.loop {M : Mu} {h : TR AObj} {w : World} (H : HR M h w) {l l' : Nat} {L : ALoop} (hb : h.get l = some (.loop L)) (hr : M.m l l') :
    ∃ L' : Loop, w.heap[l']? = some (.loop L') ∧ L'.state = L.st ∧ L'.pending = L.pend ∧ TRR M L.tmps L'.tmps ∧ L'.tmps.size = L.sz ∧ L'.params.toList = L.params ∧ L'.assign = L.assign ∧ L'.body = L.body ∧ M.m L.defers L'.defers := by
  obtain ⟨o', h1, h2⟩ := H.at_ hb hr
  cases o' with
  | loop L' => exact ⟨L', h1, h2⟩
  | _ => exact h2.elim
theorem run_getLoop {w : World} {l : Nat} {L : Loop} (h : w.heap[l]? = some (.loop L)) : (Instr.getLoop l).run P w = .ok L w := by simp [Instr.getLoop, getObj, Sem.run, h]
theorem run_setLoop {w : World} {l : Nat} {L : Loop} (o : Obj) (h : w.heap[l]? = some (.loop L)) : (setObj l o).run P w = .ok () { w with heap := w.heap.setIfInBounds l o } := by simp [setObj, Sem.run, h]
/-- a loop's record changes -/
theorem loop_put {M : Mu} {s : St} {w : World} (H : HR M s.h w) (Li0 : Li s) {l l' : Nat} {L : ALoop} (hb : s.h.get l = some (.loop L)) (hr : M.m l l') (st : LoopState) (pend : Option Code) :
    ∃ L' : Loop, w.heap[l']? = some (.loop L') ∧ L'.state = L.st ∧ L'.pending = L.pend ∧ let w' : World := { w with heap := w.heap.setIfInBounds l' (.loop { L' with state := st, pending := pend }) };
      HR M (s.put l (.loop { L with st := st, pend := pend })).h w' ∧ Ext M w s.n (s.put l (.loop { L with st := st, pend := pend })).t M w' (s.put l (.loop { L with st := st, pend := pend })).n ∧ Sx s (s.put l (.loop { L with st := st, pend := pend })) ∧ Li (s.put l (.loop { L with st := st, pend := pend })) := by
  obtain ⟨L', h1, h2, h3, h4, h5, h6, h7, h8, h9⟩ := H.loop hb hr
  exact ⟨L', h1, h2, h3, put_sound H Li0 hb hr (Wr.set h1 _) ⟨rfl, rfl, h4, h5, h6, h7, h8, h9⟩⟩
theorem Exit.exR_inj {e e' : Ex} (h : exR e = exR e') : e = e' := by cases e <;> cases e' <;> simp_all [exR]
section
variable {cf : Cfg} {rec : Task → Option Out}
/-- what an activation of code gives -/
theorem exec_use {ih : ∀ t o, rec t = some o → TaskOk P cf t o} {c : Code} {fr : AF} {s : St} {e : Ex} {fr' : AF} {s' : St} (h : rec (.exec c fr s) = some (.ex e fr' s')) : SExec P cf c fr s e fr' s' := ih _ _ h
theorem yieldR_n (ih : ∀ t o, rec t = some o → TaskOk P cf t o) {l : Nat} {args : List Value} {s s' : St} {L : ALoop} {v : Value} (h : yieldR rec l args s L = some (v, s')) : s.n ≤ s'.n := by
  unfold yieldR at h
  obtain ⟨_, h⟩ := cond_some h
  split at h
  case h_2 => cases h
  rename_i fr1 s1 h1
  have t1 : SExec P cf _ _ _ _ _ _ := ih _ _ h1
  simp only [Option.bind_eq_some_iff] at h
  obtain ⟨L1, hL1, h⟩ := h
  unfold bodyR at h
  split at h
  case h_2 => cases h
  split at h
  case h_2 => cases h
  rename_i e fr2 s2 h2
  have t2 : SExec P cf _ _ _ _ _ _ := ih _ _ h2
  split at h
  case h_2 => cases h
  simp only [Option.bind_eq_some_iff] at h
  obtain ⟨L2, hL2, h⟩ := h
  have n1 := t1.1
  have n2 := t2.1
  have : s'.n = s2.n := by
    unfold endR at h
    split at h <;> (simp only [Option.some.injEq, Prod.mk.injEq] at h; obtain ⟨_, rfl⟩ := h; rfl)
  simp only [St.put] at n2
  omega
theorem yieldR_sound (ih : ∀ t o, rec t = some o → TaskOk P cf t o) {l l' : Nat} {args : List Value} {args' : Array Value} {s s' : St} {L : ALoop} {v : Value} (hy : yieldR rec l args s L = some (v, s')) (hL : loopAt s l = some L)
    {M : Mu} {w : World} (H : HR M s.h w) (Li0 : Li s) (F : Fresh M s.n s'.n) (hG : GLok M cf) (hr : M.m l l') (ha : LR M args args'.toList) (r : Option Nat) :
    ∃ fn tmps assign body, (Instr.yield l' args').run P w = .ok (.round l' fn tmps assign body) w ∧ RoundIn (WF r) 0 P l' fn tmps assign body w (PostC M s w v s') := by
  have hn := yieldR_n ih hy
  unfold yieldR at hy
  obtain ⟨hc, h⟩ := cond_some hy
  simp only [Bool.and_eq_true] at hc
  have hlen := Nat.eq_of_beq_eq_true hc.1
  split at h
  case h_2 => cases h
  rename_i fr1 s1 h1
  have t1 : SExec P cf L.assign ⟨bindT L.tmps L.params args, L.sz, [], some l⟩ s .normal fr1 s1 := ih _ _ h1
  simp only [Option.bind_eq_some_iff] at h
  obtain ⟨L1, hL1, h⟩ := h
  unfold bodyR at h
  split at h
  case h_2 => cases h
  rename_i hst hmk
  split at h
  case h_2 => cases h
  rename_i e fr2 s2 h2
  have t2 : SExec P cf L.body fr1 (s1.put l (.loop { L1 with st := .busy })) e fr2 s2 := ih _ _ h2
  split at h
  case h_2 => cases h
  rename_i hmk2
  simp only [Option.bind_eq_some_iff] at h
  obtain ⟨L2, hL2, h⟩ := h
  obtain ⟨L', g1, g2, g3, g4, g5, g6, g7, g8, g9⟩ := H.loop (loopAt_some hL) hr
  have hs'n : s'.n = s2.n := by
    unfold endR at h
    split at h <;> (simp only [Option.some.injEq, Prod.mk.injEq] at h; obtain ⟨_, rfl⟩ := h; rfl)
  have n2 := t2.1
  simp only [St.put] at n2
  have hplen : L.params.length = args.length := hlen.symm
  have hsz : args'.size = L'.params.size := by
    have h1 := ha.length
    have h2 : L'.params.size = L.params.length := by rw [← g6]; simp
    simp only [Array.length_toList] at h1
    omega
  have hzip : ((L'.params.zip args').foldl (fun tmps (t, a) => tmps.setIfInBounds t a) L'.tmps) = (L.params.zip args'.toList).foldl (fun t p => t.setIfInBounds p.1 p.2) L'.tmps := by
    rw [← Array.foldl_toList, Array.toList_zip, g6]
  obtain ⟨hT, hTs⟩ := bind_sound L.sz hc.2 ha g4 g5 hplen
  refine ⟨L'.fn, (L.params.zip args'.toList).foldl (fun t p => t.setIfInBounds p.1 p.2) L'.tmps, L'.assign, L'.body, ?_, ?_⟩
  · simp only [Instr.yield, Sem.run_bind, run_getLoop g1, Result.andThen_ok, hsz, ne_eq, not_true_eq_false, if_false, Sem.run_pure, hzip]
  · refine roundIn_of_wpIn (wf_fn _) ?_
    rw [g7, g8]
    refine wpIn_mono (WX.wp (t1.2 M w { tmps := (L.params.zip args'.toList).foldl (fun t p => t.setIfInBounds p.1 p.2) L'.tmps, defers := [] } (some l') H Li0 (F.first (by omega)) hG ⟨hT, hTs, .nil, .some hr⟩)) ?_
    rintro x a1 w1 ⟨rfl, M1, hfr1, H1, Li1, E1, X1⟩
    show ∃ w₂, _ ∧ _
    have hr1 := E1.le.m hr
    obtain ⟨L1', k1, k2, k3, H2, E2, X2, Li2⟩ := loop_put H1 Li1 (loopAt_some hL1) hr1 .busy L1.pend
    rw [hst] at k2
    refine ⟨{ w1 with heap := w1.heap.setIfInBounds l' (.loop { L1' with state := .busy, pending := L1.pend }) }, ?_, ?_⟩
    · have e : ({ L1' with state := .busy, pending := L1.pend } : Loop) = { L1' with state := .busy } := by rw [← k3]
      rw [e]
      simp only [Instr.beginRound, Sem.run_bind, run_getLoop k1, Result.andThen_ok, run_setLoop _ k1, k2, Sem.run_pure]
    · have F1 : Fresh M1 s1.n s'.n := F.then E1
      have ebusy : ({ L1 with st := LoopState.busy } : ALoop) = { L1 with st := .busy, pend := L1.pend } := rfl
      rw [ebusy] at t2
      have F2 := F1.then E2
      refine wpIn_mono (WX.wp (t2.2 M1 _ a1 (some l') H2 Li2 (F2.first (by show s2.n ≤ s'.n; omega)) (hG.mono E1.le) hfr1)) ?_
      rintro x a2 w3 ⟨rfl, M3, hfr3, H3, Li3, E3, X3⟩
      have hr3 := E3.le.m hr1
      have EE := (E1.comp E2 X2).comp E3 X3
      have XX := (X1.trans X2).trans X3
      cases e with
      | normal =>
        simp only [endR, Option.some.injEq, Prod.mk.injEq] at h
        obtain ⟨rfl, rfl⟩ := h
        obtain ⟨L3', j1, j2, j3, H4, E4, X4, Li4⟩ := loop_put H3 Li3 (loopAt_some hL2) hr3 .ready none
        refine ⟨.bool true, _, ?_, ⟨M3, .bool true, rfl, ⟨.bool true, H4, Li4, EE.comp E4 X4, XX.trans X4⟩⟩⟩
        simp [Instr.endRound, run_getLoop j1, run_setLoop _ j1]
      | ret =>
        simp only [endR, Option.some.injEq, Prod.mk.injEq] at h
        obtain ⟨rfl, rfl⟩ := h
        obtain ⟨L3', j1, j2, j3, H4, E4, X4, Li4⟩ := loop_put H3 Li3 (loopAt_some hL2) hr3 .done (some .ret)
        refine ⟨.bool false, _, ?_, ⟨M3, .bool false, rfl, ⟨.bool false, H4, Li4, EE.comp E4 X4, XX.trans X4⟩⟩⟩
        simp [Instr.endRound, run_getLoop j1, run_setLoop _ j1]
      | exit id =>
        simp only [endR, Option.some.injEq, Prod.mk.injEq] at h
        obtain ⟨rfl, rfl⟩ := h
        obtain ⟨L3', j1, j2, j3, H4, E4, X4, Li4⟩ := loop_put H3 Li3 (loopAt_some hL2) hr3 .done (some (.exit id))
        refine ⟨.bool false, _, ?_, ⟨M3, .bool false, rfl, ⟨.bool false, H4, Li4, EE.comp E4 X4, XX.trans X4⟩⟩⟩
        simp [Instr.endRound, run_getLoop j1, run_setLoop _ j1]
end
end Go.Proofs.YtecfnddaniphdaaGreatDoor.AM
