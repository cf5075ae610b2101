/-
  The abstract machine: operations in whatever order: in a world.
-/
import Derived.Test.YtecfnddaniphdaaGreatDoorX20
set_option linter.unusedVariables false
set_option linter.unusedSimpArgs false
namespace Go.Proofs.YtecfnddaniphdaaGreatDoor.AM
variable {P : Program}

theorem Ext.inside {M0 M M' : Mu} {w0 w w' : World} {n a b e : Nat} {T t : List Nat} (h : Ext M0 w0 n T M w e) (k : Ext M w a t M' w' b) (ha : n ≤ a) (hb : b ≤ e) (ht : ∀ x ∈ t, x ∈ T) : Ext M0 w0 n T M' w' e := by
  have key : ∀ {b r}, M.m b r → b ∈ t → r < w0.heap.size → ∃ b0 ∈ T, M0.m b0 r := by
    intro b r hb hT hr
    rcases h.new hb with h1 | ⟨_, _, h1 | ⟨b0, h0, h1⟩⟩
    · exact ⟨b, ht _ hT, h1⟩
    · omega
    · exact ⟨b0, h0, h1⟩
  refine ⟨h.le.trans k.le, h.nn, fun {x r} hx => ?_, fun {x C z} hx => ?_, k.os.trans h.os, k.tape.trans h.tape, k.output.trans h.output, Nat.le_trans h.size k.size, fun {r} hr hT => ?_⟩
  · rcases k.new hx with h1 | ⟨h1, h2, h3⟩
    · exact h.new h1
    · refine .inr ⟨by omega, by omega, ?_⟩
      rcases h3 with h3 | ⟨b0, h3, h4⟩
      · exact .inl (by have := h.size; omega)
      · by_cases hr : r < w0.heap.size
        · exact .inr (key h4 h3 hr)
        · exact .inl (by omega)
  · rcases k.newc hx with h1 | ⟨h1, h2⟩
    · exact h.newc h1
    · exact .inr ⟨by omega, by omega⟩
  · rw [k.blk (by have := h.size; omega) fun b hb hm => ?_, h.blk hr hT]
    obtain ⟨b0, h0, h1⟩ := key hm hb hr
    exact hT b0 h0 h1
structure Off (d e : Did) : Prop where
  dr : ∀ b ∈ d.t, e.rv.get b = none
  rd : ∀ b ∈ e.t, d.rv.get b = none
  dt : ∀ b ∈ d.t, b ∉ e.t
  nd : ∀ t, e.dst = some t → t ∉ d.nm
  dn : ∀ t, d.dst = some t → t ∉ e.nm
theorem Off.symm {d e : Did} (h : Off d e) : Off e d := ⟨h.rd, h.dr, fun b hb hd => h.dt b hd hb, h.dn, h.nd⟩
theorem any_beq {l : List Nat} {b : Nat} : l.any (Nat.beq b) = true ↔ b ∈ l := by
  rw [List.any_eq_true]
  exact ⟨fun ⟨x, hx, h⟩ => (Nat.eq_of_beq_eq_true h) ▸ hx, fun h => ⟨b, h, Nat.beq_refl b⟩⟩
theorem offT_spec {nm : List Tmp} {o : Option Tmp} (h : offT nm o = true) : ∀ t, o = some t → t ∉ nm := by
  intro t ht hm
  subst ht
  simp only [offT, Bool.not_eq_true'] at h
  rw [any_beq.2 hm] at h
  cases h
theorem offA_spec {d e : Did} (h : offA d e = true) : Off d e := by
  unfold offA at h
  simp only [Bool.and_eq_true, List.all_eq_true, Option.isNone_iff_eq_none, Bool.not_eq_true'] at h
  obtain ⟨⟨⟨h1, h2⟩, h3⟩, h4⟩ := h
  refine ⟨fun b hb => (h1 b hb).1, h2, fun b hb he => ?_, offT_spec h3, offT_spec h4⟩
  have := (h1 b hb).2
  rw [any_beq.2 he] at this
  cases this
theorem pairsA_spec {d : Did} : ∀ {l : List Did} {j0 : Nat}, pairsA d j0 l = true → ∀ {j : Nat} {e : Did}, l[j]? = some e → d.m.testBit (j0 + j) = true ∨ Off d e
  | [], j0, _, j, e, he => by simp at he
  | x :: l, j0, h, j, e, he => by
    simp only [pairsA, Bool.and_eq_true, Bool.or_eq_true] at h
    cases j with
    | zero =>
      simp only [List.getElem?_cons_zero, Option.some.injEq] at he
      subst he
      exact h.1.imp id offA_spec
    | succ j =>
      simp only [List.getElem?_cons_succ] at he
      have := pairsA_spec h.2 he
      rwa [show j0 + 1 + j = j0 + (j + 1) by omega] at this
theorem apartA_spec : ∀ {l pre : List Did}, apartA pre l = true → ∀ {k j : Nat} {d e : Did}, l[k]? = some d → (pre ++ l)[j]? = some e → j < pre.length + k → d.m.testBit j = true ∨ Off d e
  | [], pre, _, k, j, d, e, hd, _, _ => by simp at hd
  | x :: l, pre, h, k, j, d, e, hd, he, hlt => by
    simp only [apartA, Bool.and_eq_true] at h
    cases k with
    | zero =>
      simp only [List.getElem?_cons_zero, Option.some.injEq] at hd
      subst hd
      rw [List.getElem?_append_left (by omega)] at he
      have := pairsA_spec h.1 he
      rwa [Nat.zero_add] at this
    | succ k =>
      simp only [List.getElem?_cons_succ] at hd
      refine apartA_spec h.2 hd (by simpa using he) (by rw [List.length_append]; simp; omega)
theorem befA_bits {ds : List Did} {k : Nat} : ∀ (l : List Edge) (m : Nat), (l.foldl (fun m e => cond (Region.binds .any e) (m ||| (2 ^ e.on ||| maskAt ds e.on)) m) m).testBit k = true ↔
    m.testBit k = true ∨ ∃ e ∈ l, Region.binds .any e = true ∧ (k = e.on ∨ (maskAt ds e.on).testBit k = true)
  | [], m => by simp
  | e :: l, m => by
    rw [List.foldl_cons, befA_bits l]
    cases hb : Region.binds .any e with
    | false =>
      simp only [cond, List.mem_cons]
      constructor
      · rintro (h | ⟨x, hx, h⟩)
        · exact .inl h
        · exact .inr ⟨x, .inr hx, h⟩
      · rintro (h | ⟨x, rfl | hx, h⟩)
        · exact .inl h
        · rw [hb] at h; cases h.1
        · exact .inr ⟨x, hx, h⟩
    | true =>
      simp only [cond, List.mem_cons, Nat.testBit_or, Bool.or_eq_true, Nat.testBit_two_pow, decide_eq_true_eq]
      constructor
      · rintro ((h | h | h) | ⟨x, hx, h⟩)
        · exact .inl h
        · exact .inr ⟨e, .inl rfl, hb, .inl h.symm⟩
        · exact .inr ⟨e, .inl rfl, hb, .inr h⟩
        · exact .inr ⟨x, .inr hx, h⟩
      · rintro (h | ⟨x, rfl | hx, h1, h2⟩)
        · exact .inl (.inl h)
        · rcases h2 with h2 | h2
          · exact .inl (.inr (.inl h2.symm))
          · exact .inl (.inr (.inr h2))
        · exact .inr ⟨x, hx, h1, h2⟩
theorem put_setD {fr : AF} {d : Option Tmp} {v : Value} (h : okDst fr.sz d = true) : fr.put d v = some { fr with T := setD v fr.T d } := by
  cases d with
  | none => rfl
  | some t =>
    simp only [okDst] at h
    unfold AF.put setD
    simp only [h, cond]
theorem FrR.sub {M : Mu} {fr fr' : AF} {a : Act} {r : Option Nat} (h : FrR M fr a r) (hT : ∀ t v, fr'.T.get t = some v → fr.T.get t = some v) (h1 : fr'.sz = fr.sz) (h2 : fr'.marks = fr.marks) (h3 : fr'.round = fr.round) : FrR M fr' a r :=
  ⟨fun t v ht => h.t t v (hT t v ht), by rw [h1]; exact h.sz, by rw [h2]; exact h.md, by rw [h3]; exact h.ro⟩
theorem endL_mem {b : Nat} : ∀ {ds : List Did} {t : List Nat}, b ∈ endL ds t ↔ b ∈ t ∨ ∃ d ∈ ds, b ∈ d.t
  | [], t => by simp [endL]
  | d :: ds, t => by
    unfold endL
    rw [endL_mem]
    simp only [List.mem_append, List.mem_cons]
    constructor
    · rintro ((h | h) | ⟨e, he, h⟩)
      · exact .inr ⟨d, .inl rfl, h⟩
      · exact .inl h
      · exact .inr ⟨e, .inr he, h⟩
    · rintro (h | ⟨e, rfl | he, h⟩)
      · exact .inl (.inr h)
      · exact .inl (.inl h)
      · exact .inr ⟨e, he, h⟩
section
variable {cf : Cfg} {rec : Task → Option Out}
def Sof (listed : Array Bool) (k : Nat) : Bool := listed.getD k false
structure IV (ops : Array Oper) (fr : AF) (s : St) (ds : List Did) (nE : Nat) (r : Option Nat) (M0 : Mu) (w0 : World) (listed : Array Bool) (a : Act) (w : World) (M : Mu) : Prop where
  size : listed.size = ops.size
  down : ∀ {k d}, Sof listed k = true → ds[k]? = some d → ∀ j, d.m.testBit j = true → Sof listed j = true
  fr : FrR M { fr with T := viewT (Sof listed) 0 ds fr.T } a r
  hr : HR M (viewH (Sof listed) 0 ds s.h) w
  dom : ∀ {b x}, M.m b x → b < s.n ∨ nE ≤ b ∨ ∃ k d, Sof listed k = true ∧ ds[k]? = some d ∧ d.n0 ≤ b ∧ b < d.n1
  domc : ∀ {b C z}, M.c b C z → b < s.n ∨ nE ≤ b ∨ ∃ k d, Sof listed k = true ∧ ds[k]? = some d ∧ d.n0 ≤ b ∧ b < d.n1
  ext : Ext M0 w0 s.n (endL ds s.t) M w nE
theorem Sof_set {listed : Array Bool} {i j : Nat} (h : i < listed.size) : Sof (listed.setIfInBounds i true) j = if j = i then true else Sof listed j := by
  unfold Sof
  by_cases e : j = i
  · subst e; simp [h]
  · rw [if_neg e, getD_set_ne false (Ne.symm e)]
/-- memory behind one more operation -/
theorem HR.over {M M' : Mu} {g g' dr dh : TR AObj} {w w' : World} {n n1 : Nat} {t : List Nat} (H0 : HR M g w) (hdr : ∀ b o, dr.get b = some o → g.get b = some o) (H1 : HR M' dh w') (E : Ext M w n t M' w' n1)
    (F : Fresh M n n1) (hT : ∀ b ∈ t, (n ≤ b ∧ b < n1) ∨ (dr.get b).isSome = true) (hg : ∀ b, g'.get b = if b ∈ t then dh.get b else g.get b) : HR M' g' w' := by
  have nal : ∀ {b r}, (g.get b).isSome = true → b ∉ t → M.m b r → ∀ b' ∈ t, ¬ M.m b' r := by
    intro b r hb hbt hm b' hb' hm'
    rcases hT b' hb' with h | h
    · rcases F.1 hm' with h' | h' <;> omega
    · obtain ⟨o, ho⟩ := Option.isSome_iff_exists.1 h
      have := H0.inj hm hm' hb (by rw [hdr _ _ ho]; rfl)
      subst this
      exact hbt hb'
  have old : ∀ {b r}, (g.get b).isSome = true → M'.m b r → M.m b r := by
    intro b r hb hm
    obtain ⟨o, ho⟩ := Option.isSome_iff_exists.1 hb
    obtain ⟨r', o', h1, _⟩ := H0.ob ho
    have := H1.fn hm (E.le.m h1)
    rw [this]; exact h1
  have key : ∀ {b1 b2 r}, b1 ∈ t → b2 ∉ t → (g.get b2).isSome = true → M'.m b1 r → M'.m b2 r → False := by
    intro b1 b2 r h1 h2 h3 h4 h5
    have m2 := old h3 h5
    have hlt := H0.lt m2
    rcases E.new h4 with h | ⟨_, _, h | ⟨b0, h6, h7⟩⟩
    · exact nal h3 h2 m2 b1 h1 h
    · omega
    · exact nal h3 h2 m2 b0 h6 h7
  refine ⟨H1.fn, H1.fc, H1.lt, fun {b1 b2 r} h1 h2 h3 h4 => ?_, fun {b o} hb => ?_⟩
  · rw [hg] at h3 h4
    by_cases e1 : b1 ∈ t <;> by_cases e2 : b2 ∈ t <;> simp only [e1, e2, if_true, if_false] at h3 h4
    · exact H1.inj h1 h2 h3 h4
    · exact (key e1 e2 h4 h1 h2).elim
    · exact (key e2 e1 h3 h2 h1).elim
    · exact H0.inj (old h3 h1) (old h4 h2) h3 h4
  · rw [hg] at hb
    by_cases e1 : b ∈ t <;> simp only [e1, if_true, if_false] at hb
    · exact H1.ob hb
    · obtain ⟨r, o', k1, k2, k3⟩ := H0.ob hb
      exact ⟨r, o', E.le.m k1, by rw [E.blk (H0.lt k1) (nal (by rw [hb]; rfl) e1 k1)]; exact k2, k3.mono E.le⟩
theorem any_sound (C : CfgOk P cf) (ih : ∀ t o, rec t = some o → TaskOk P cf t o) {ops : Array Oper} {fr : AF} {s : St} {ds : List Did} {nE : Nat} (L : Li s) (D : Facts cf rec ops.toList fr s ops.toList ds nE)
    (A : apartA [] ds = true) {r : Option Nat} {Q : Exit → Act → World → Prop} {M0 : Mu} {w0 : World} (hG : GLok M0 cf) (hF0 : Fresh M0 s.n nE)
    (hQ : ∀ a w M, FrR M { fr with T := viewT (fun _ => true) 0 ds fr.T } a r → HR M (viewH (fun _ => true) 0 ds s.h) w → Ext M0 w0 s.n (endL ds s.t) M w nE → Q .normal a w) :
    ∀ (fuel : Nat) (U : List Nat) (listed : Array Bool) (a : Act) (w : World) (M : Mu), IV ops fr s ds nE r M0 w0 listed a w M → U.length ≤ fuel → (∀ k, k < ops.size → Sof listed k = false → k ∈ U) →
      wpAnyIn (WF r) 0 P .any ops Q fuel listed a w := by
  have hlen : ds.length = ops.size := by rw [D.len]; simp
  have hends : ∀ {listed a w M}, IV ops fr s ds nE r M0 w0 listed a w M → (∀ k, k < ops.size → Sof listed k = true) → Q .normal a w := by
    intro listed a w M I hall
    have hS : ∀ {α : Type} (tc : Did → Nat → Bool) (vl : Did → Nat → Option α) (f : Nat → Option α) (b : Nat), ov tc vl (fun _ => true) 0 ds f b = ov tc vl (Sof listed) 0 ds f b := fun tc vl f b =>
      ov_agree (fun k d hd hne => absurd (by rw [Nat.zero_add]; exact (hall k (by rw [← hlen]; exact (List.getElem?_eq_some_iff.1 hd).1)).symm) hne) rfl
    refine hQ a w M (I.fr.sub (fun t v ht => ?_) rfl rfl rfl) (I.hr.sub fun b o hb => ?_) I.ext
    · rw [viewT_get D.ok] at ht ⊢; rw [← hS]; exact ht
    · rw [viewH_get D.sm] at hb ⊢; rw [← hS]; exact hb
  have hop : ∀ {i : Nat} {o : Oper}, ops[i]? = some o → ∃ d, ds[i]? = some d := fun {i o} hi => ⟨_, List.getElem?_eq_getElem (by rw [hlen]; exact (Array.getElem?_eq_some_iff.1 hi).1)⟩
  have hmask : ∀ {i e : Nat}, e < i → maskAt (ds.take i) e = maskAt ds e := by
    intro i e h
    unfold maskAt
    rw [List.getElem?_take_of_lt h]
  intro fuel
  induction fuel with
  | zero =>
    intro U listed a w M I hU hk
    have hall : ∀ k, k < ops.size → Sof listed k = true := by
      intro k hlt
      cases hs : Sof listed k with
      | true => rfl
      | false =>
        have := hk k hlt hs
        cases U with
        | nil => cases this
        | cons _ _ => simp at hU
    refine ⟨?_, hends I hall⟩
    apply List.eq_nil_iff_forall_not_mem.2
    intro j hj
    rw [mem_ready] at hj
    obtain ⟨h0, o, ho, _⟩ := hj
    have hlt := (Array.getElem?_eq_some_iff.1 ho).1
    have := hall j hlt
    unfold Sof at this
    rw [Array.getD_eq_getD_getElem?] at h0 this
    cases hx : listed[j]? with
    | none => rw [hx] at this; cases this
    | some x => rw [hx] at h0 this; simp only [Option.getD_some] at h0 this; rw [h0] at this; cases this
  | succ fuel ihf =>
    intro U listed a w M I hU hk
    refine ⟨fun hnil => hends I ?_, fun i hi => ?_⟩
    · intro k
      induction k using Nat.strongRecOn with
      | _ k ihk =>
        intro hlt
        cases hs : Sof listed k with
        | true => rfl
        | false =>
          exfalso
          have : k ∈ Region.ready .any ops listed := by
            rw [mem_ready]
            refine ⟨?_, ops[k], by simp [hlt], fun e he hb => ?_⟩
            · unfold Sof at hs
              rw [Array.getD_eq_getD_getElem?] at hs ⊢
              rw [Array.getElem?_eq_getElem (by rw [I.size]; exact hlt)] at hs ⊢
              exact hs
            · have ho : ops[k]? = some ops[k] := by simp [hlt]
              obtain ⟨d, hd⟩ := hop ho
              have one := D.one (by rw [Array.getElem?_toList]; exact ho) hd
              have hbit : d.m.testBit e.on = true := by
                rw [one.m]
                exact (befA_bits _ _).2 (.inr ⟨e, by simpa using he, hb, .inl rfl⟩)
              have hek : e.on < k := by
                rcases Nat.lt_or_ge e.on k with h | h
                · exact h
                · rw [testBit_ge one.lt h] at hbit; cases hbit
              exact ihk e.on hek (by omega)
          rw [hnil] at this
          cases this
    · rw [mem_ready] at hi
      obtain ⟨hi0, o, ho, haft⟩ := hi
      have hlt := (Array.getElem?_eq_some_iff.1 ho).1
      have hltl : i < listed.size := by rw [I.size]; exact hlt
      have hSi : Sof listed i = false := by
        unfold Sof
        rw [Array.getD_eq_getD_getElem?] at hi0 ⊢
        rw [Array.getElem?_eq_getElem hltl] at hi0 ⊢
        exact hi0
      obtain ⟨d, hd⟩ := hop ho
      have one := D.one (by simpa using ho) hd
      have lo := D.lo d (List.mem_of_getElem? hd)
      have hbef : ∀ j, d.m.testBit j = true → Sof listed j = true := by
        intro j hj
        have hj0 := hj
        rw [one.m] at hj
        rcases (befA_bits _ _).1 hj with h | ⟨e, he, hb, h⟩
        · simp at h
        · have hS := haft e (by simpa using he) hb
          rcases h with rfl | h
          · exact hS
          · have hei : e.on < i := by
              have : d.m.testBit e.on = true := by rw [one.m]; exact (befA_bits _ _).2 (.inr ⟨e, he, hb, .inl rfl⟩)
              rcases Nat.lt_or_ge e.on i with h | h
              · exact h
              · rw [testBit_ge one.lt h] at this; cases this
            rw [hmask hei] at h
            unfold maskAt at h
            split at h
            · rename_i d' hd'; exact I.down hS hd' j h
            · simp at h
      have hoff : ∀ {k e}, ds[k]? = some e → Sof listed k = true → d.m.testBit k = false → Off d e := by
        intro k e he hS hb
        rcases Nat.lt_trichotomy k i with h | h | h
        · rcases apartA_spec A hd (by simpa using he) (by simpa using h) with h | h
          · rw [hb] at h; cases h
          · exact h
        · subst h; rw [hSi] at hS; cases hS
        · rcases apartA_spec A he (by simpa using hd) (by simpa using h) with h | h
          · have := I.down hS he i h; rw [hSi] at this; cases this
          · exact h.symm
      have hoffgt : ∀ {k e}, ds[k]? = some e → i < k → Sof listed k = true → Off d e := fun he h hS => hoff he hS (testBit_ge one.lt (Nat.le_of_lt h))
      have hrvS : ∀ b o', d.rv.get b = some o' → (viewH (Sof listed) 0 ds s.h).get b = some o' := by
        intro b o' hb
        rw [viewH_get D.sm, ← (D.rvs hd hb).1]
        refine ov_agree (fun k e he hne => ?_) rfl
        rw [Nat.zero_add] at hne
        cases ht : d.m.testBit k with
        | true => exact absurd ((hbef k ht).trans ht.symm) hne
        | false =>
          cases hs : Sof listed k with
          | false => exact absurd (hs.trans ht.symm) hne
          | true =>
            cases hx : tcH e b with
            | false => rfl
            | true =>
              have := (hoff he hs ht).rd b (tcH_mem.1 hx)
              rw [this] at hb; cases hb
      have hTS : ∀ t v, (seesA (ds.take i) fr d.m d.nm).T.get t = some v → (viewT (Sof listed) 0 ds fr.T).get t = some v := by
        intro t v hgt
        rcases restr_get hgt with h | ⟨hmem, h⟩
        · cases h
        rw [ov_take (fun k hk => by rw [Nat.zero_add]; exact testBit_ge one.lt hk)] at h
        rw [viewT_get D.ok, ← h]
        refine ov_agree (fun k e he hne => ?_) rfl
        rw [Nat.zero_add] at hne
        cases ht : d.m.testBit k with
        | true => exact absurd ((hbef k ht).trans ht.symm) hne
        | false =>
          cases hs : Sof listed k with
          | false => exact absurd (hs.trans ht.symm) hne
          | true =>
            cases hx : tcT e t with
            | false => rfl
            | true =>
              unfold tcT at hx
              split at hx
              · rename_i x hx'
                have := Nat.eq_of_beq_eq_true hx
                subst this
                exact absurd hmem ((hoff he hs ht).nd _ hx')
              · cases hx
      have hfrI : FrR M (seesA (ds.take i) fr d.m d.nm) a r := I.fr.sub hTS rfl rfl rfl
      have hSset : ∀ j, Sof (listed.setIfInBounds i true) j = if j = i then true else Sof listed j := fun j => Sof_set hltl
      have hmono : ∀ j, Sof listed j = true → Sof (listed.setIfInBounds i true) j = true := fun j h => by rw [hSset]; split; · rfl
                                                                                                          · exact h
      have hovT : ∀ t, (viewT (Sof (listed.setIfInBounds i true)) 0 ds fr.T).get t = (setD d.v (viewT (Sof listed) 0 ds fr.T) o.dst).get t := by
        intro t
        rw [← one.dst, setD_get (sz := fr.sz) (by rw [one.dst]; exact one.put), viewT_get D.ok, viewT_get D.ok]
        refine ov_add (k0 := i) (k := i) hd (Nat.zero_add _) hSi (by rw [hSset, if_pos rfl]) (fun j hj => by rw [hSset, if_neg hj]) ?_
        intro k e he hgt hs h1
        rw [Nat.zero_add] at hs
        cases hx : tcT e t with
        | false => rfl
        | true =>
          have off := hoffgt he hgt hs
          unfold tcT at hx h1
          split at hx
          · rename_i x hx'
            have := Nat.eq_of_beq_eq_true hx
            subst this
            split at h1
            · rename_i y hy
              have := Nat.eq_of_beq_eq_true h1
              subst this
              refine absurd ?_ (off.nd _ hx')
              rw [one.nm]
              unfold namesA
              rw [← one.dst, hy]
              simp
            · cases h1
          · cases hx
      have hovH : ∀ b, (viewH (Sof (listed.setIfInBounds i true)) 0 ds s.h).get b = if b ∈ d.t then d.h.get b else (viewH (Sof listed) 0 ds s.h).get b := by
        intro b
        rw [viewH_get D.sm, viewH_get D.sm, ov_add (tc := tcH) (vl := vlH) (k0 := i) (k := i) (S := Sof listed) hd (Nat.zero_add _) hSi (by rw [hSset, if_pos rfl]) (fun j hj => by rw [hSset, if_neg hj])]
        · by_cases hb : b ∈ d.t
          · rw [if_pos hb, tcH_mem.2 hb]; rfl
          · rw [if_neg hb]
            cases hx : tcH d b with
            | true => exact absurd (tcH_mem.1 hx) hb
            | false => rfl
        · intro k e he hgt hs h1
          rw [Nat.zero_add] at hs
          cases hx : tcH e b with
          | false => rfl
          | true => exact absurd (tcH_mem.1 hx) ((hoffgt he hgt hs).dt b (tcH_mem.1 h1))
      have hdown : ∀ {k e}, Sof (listed.setIfInBounds i true) k = true → ds[k]? = some e → ∀ j, e.m.testBit j = true → Sof (listed.setIfInBounds i true) j = true := by
        intro k e hs he j hj
        rw [hSset] at hs
        by_cases hki : k = i
        · subst hki
          rw [hd] at he
          simp only [Option.some.injEq] at he
          subst he
          exact hmono j (hbef j hj)
        · rw [if_neg hki] at hs
          exact hmono j (I.down hs he j hj)
      have hnext : ∀ a' w' M', IV ops fr s ds nE r M0 w0 (listed.setIfInBounds i true) a' w' M' → wpAnyIn (WF r) 0 P .any ops Q fuel (listed.setIfInBounds i true) a' w' := by
        intro a' w' M' I'
        have hiU := hk i hlt hSi
        refine ihf (U.erase i) _ a' w' M' I' (by rw [List.length_erase_of_mem hiU]; omega) (fun k hkl hs => ?_)
        rw [hSset] at hs
        by_cases hki : k = i
        · rw [if_pos hki] at hs; cases hs
        · rw [if_neg hki] at hs
          exact (List.mem_erase_of_ne hki).2 (hk k hkl hs)
      unfold wpOpIn
      simp only [ho]
      rcases one.res with ⟨hw, hv, ht, hn1, hrv⟩ | ⟨hw, hrun, hok, hrv⟩
      · rw [want_sound hfrI hw, if_neg (by simp)]
        refine ⟨wf_about, hnext _ w M ⟨by simpa using I.size, hdown, ?_, ?_, ?_, ?_, I.ext⟩⟩
        · have := put_T I.fr (VR.undef M) (put_setD (fr := { fr with T := viewT (Sof listed) 0 ds fr.T }) (v := undef) one.put)
          refine this.sub (fun t v hv' => ?_) rfl rfl rfl
          simp only at hv' ⊢
          rw [hovT, hv] at hv'
          exact hv'
        · refine I.hr.sub fun b o' hb => ?_
          rw [hovH, ht] at hb
          simpa using hb
        · intro b x hm
          rcases I.dom hm with h | h | ⟨k, e, h1, h2⟩
          · exact .inl h
          · exact .inr (.inl h)
          · exact .inr (.inr ⟨k, e, hmono k h1, h2⟩)
        · intro b C z hm
          rcases I.domc hm with h | h | ⟨k, e, h1, h2⟩
          · exact .inl h
          · exact .inr (.inl h)
          · exact .inr (.inr ⟨k, e, hmono k h1, h2⟩)
      · rw [want_sound hfrI hw, if_pos rfl]
        have hdisj : ∀ {k e b}, Sof listed k = true → ds[k]? = some e → e.n0 ≤ b → b < e.n1 → b < d.n0 ∨ d.n1 ≤ b := by
          intro k e b hs he h1 h2
          rcases Nat.lt_trichotomy k i with h | h | h
          · have := D.ord he hd h; omega
          · subst h; rw [hSi] at hs; cases hs
          · have := D.ord hd he h; omega
        have F : Fresh M d.n0 d.n1 := ⟨fun {b x} hm => by
            rcases I.dom hm with h | h | ⟨k, e, h1, h2, h3, h4⟩
            · exact .inl (by omega)
            · exact .inr (by omega)
            · exact hdisj h1 h2 h3 h4, fun {b x z} hm => by
            rcases I.domc hm with h | h | ⟨k, e, h1, h2, h3, h4⟩
            · exact .inl (by omega)
            · exact .inr (by omega)
            · exact hdisj h1 h2 h3 h4⟩
        obtain ⟨hsm1, hokT⟩ := okT_spec hok
        have Hrv : HR M d.rv w := I.hr.sub hrvS
        have Lrv : Li ⟨d.rv, d.n0, []⟩ := fun {b} hb => by
          obtain ⟨o', ho'⟩ := Option.isSome_iff_exists.1 hb
          exact (D.rvs hd ho').2
        refine oper_sound C ih hrun r Hrv Lrv F (hG.mono I.ext.le) hfrI.t ?_
        intro M' v' w' G
        have E : Ext M w d.n0 d.t M' w' d.n1 := G.ext
        refine hnext _ w' M' ⟨by simpa using I.size, hdown, ?_, ?_, ?_, ?_, ?_⟩
        · have := put_T (I.fr.mono E.le) G.vr (put_setD (fr := { fr with T := viewT (Sof listed) 0 ds fr.T }) (v := d.v) one.put)
          refine this.sub (fun t v hv' => ?_) rfl rfl rfl
          simp only at hv' ⊢
          rw [hovT] at hv'
          exact hv'
        · exact I.hr.over hrvS G.hr E F hokT hovH
        · intro b x hm
          rcases E.new hm with h | ⟨h1, h2, _⟩
          · rcases I.dom h with h | h | ⟨k, e, h1, h2⟩
            · exact .inl h
            · exact .inr (.inl h)
            · exact .inr (.inr ⟨k, e, hmono k h1, h2⟩)
          · exact .inr (.inr ⟨i, d, by rw [hSset, if_pos rfl], hd, h1, h2⟩)
        · intro b C z hm
          rcases E.newc hm with h | ⟨h1, h2⟩
          · rcases I.domc h with h | h | ⟨k, e, h1, h2⟩
            · exact .inl h
            · exact .inr (.inl h)
            · exact .inr (.inr ⟨k, e, hmono k h1, h2⟩)
          · exact .inr (.inr ⟨i, d, by rw [hSset, if_pos rfl], hd, h1, h2⟩)
        · exact I.ext.inside E lo.1 lo.2.2 (fun x hx => endL_mem.2 (.inr ⟨d, List.mem_of_getElem? hd, hx⟩))
theorem regionA_some {ops : List Oper} {fr fr' : AF} {s s' : St} (h : regionA cf rec ops fr s = some (fr', s')) : ∃ ds, Drawn cf rec ops fr s ops ds s'.n ∧ apartA [] ds = true ∧ fr' = { fr with T := viewT (fun _ => true) 0 ds fr.T } ∧
    s' = ⟨viewH (fun _ => true) 0 ds s.h, s'.n, endL ds s.t⟩ := by
  unfold regionA at h
  split at h
  · cases h
  · rename_i ds n hd
    obtain ⟨ha, h⟩ := cond_some h
    simp only [Option.some.injEq, Prod.mk.injEq] at h
    obtain ⟨rfl, rfl⟩ := h
    exact ⟨ds, by simpa using drawA_drawn (os := []) .nil hd, ha, rfl, rfl⟩
theorem regionA_n (C : CfgOk P cf) (ih : ∀ t o, rec t = some o → TaskOk P cf t o) {ops : List Oper} {fr fr' : AF} {s s' : St} (h : regionA cf rec ops fr s = some (fr', s')) : s.n ≤ s'.n := by
  obtain ⟨ds, hd, _⟩ := regionA_some h
  clear h
  generalize s'.n = n at hd
  generalize ops = os at hd
  have : ∀ {all os : List Oper} {ds : List Did} {n : Nat}, Drawn cf rec all fr s os ds n → s.n ≤ n := by
    intro all os ds n hd
    induction hd with
    | nil => exact Nat.le_refl _
    | snoc h k ihd => exact Nat.le_trans ihd (k.nn ih)
  exact this hd
theorem regionA_sound (C : CfgOk P cf) (ih : ∀ t o, rec t = some o → TaskOk P cf t o) {id : Nat} {ops : Array Oper} {fr fr' : AF} {s s' : St} (h : regionA cf rec ops.toList fr s = some (fr', s'))
    {M : Mu} {w : World} {a : Act} (r : Option Nat) (H : HR M s.h w) (L : Li s) (F : Fresh M s.n s'.n) (hG : GLok M cf) (hF : FrR M fr a r) {Q : Exit → Act → World → Prop}
    (hQ : ∀ a' w', (∃ M', FrR M' fr' a' r ∧ HR M' s'.h w' ∧ Li s' ∧ Ext M w s.n s'.t M' w' s'.n ∧ Sx s s') → Q .normal a' w') : (Code.region id ops true).wpIn (WF r) 0 P Q a w := by
  have hn := regionA_n C ih h
  obtain ⟨ds, hd, ha, rfl, e⟩ := regionA_some h
  have D := hd.facts C ih L
  have e1 : s'.h = viewH (fun _ => true) 0 ds s.h := by rw [e]
  have e2 : s'.t = endL ds s.t := by rw [e]
  have hS0 : ∀ k, Sof (Array.replicate ops.size false) k = false := by
    intro k
    unfold Sof
    rw [Array.getD_eq_getD_getElem?]
    cases hx : (Array.replicate ops.size false)[k]? with
    | none => rfl
    | some x =>
      have := Array.getElem?_eq_some_iff.1 hx
      obtain ⟨h1, h2⟩ := this
      simp at h2
      simp [← h2]
  refine wpIn_region_any C.mixed ?_
  refine any_sound C ih L D ha hG F (M0 := M) (w0 := w) (fun a' w' M' k1 k2 k3 => hQ a' w' ⟨M', k1, by rw [e1]; exact k2, ?_, by rw [e2]; exact k3, ?_⟩) ops.size (List.range ops.size) _ a _ M ⟨by simp, ?_, ?_, ?_, ?_, ?_, ?_⟩ (by simp) (fun k hk _ => List.mem_range.2 hk)
  · intro b hb
    rw [e1, viewH_get D.sm] at hb
    exact D.live _ b hb
  · refine ⟨hn, fun b hb => by rw [e2]; exact endL_mem.2 (.inl hb), fun {b} hb => ?_⟩
    rw [e2, endL_mem] at hb
    rw [e1, viewH_get D.sm, ov_none]
    intro k d hd' _
    cases hx : tcH d b with
    | false => rfl
    | true => exact absurd (.inr ⟨d, List.mem_of_getElem? hd', tcH_mem.1 hx⟩) hb
  · intro k d hs; rw [hS0] at hs; cases hs
  · refine hF.sub (fun t v ht => ?_) rfl rfl rfl
    simp only at ht
    rw [viewT_get D.ok, ov_none (fun k d _ hs => by rw [hS0] at hs; cases hs)] at ht
    exact ht
  · have : HR M (viewH (Sof (Array.replicate ops.size false)) 0 ds s.h) w := H.sub fun b o hb => by
      rw [viewH_get D.sm, ov_none (fun k d _ hs => by rw [hS0] at hs; cases hs)] at hb
      exact hb
    exact ⟨this.fn, this.fc, this.lt, this.inj, this.ob⟩
  · intro b x hm; exact (F.1 hm).imp (fun h => h) .inl
  · intro b x z hm; exact (F.2 hm).imp (fun h => h) .inl
  · exact ⟨.refl M, hn, fun h => .inl h, fun h => .inl h, rfl, rfl, rfl, Nat.le_refl _, fun _ _ => rfl⟩
end
end Go.Proofs.YtecfnddaniphdaaGreatDoor.AM
