/-
  The abstract machine: operations in whatever order: the plain part.
-/
import Derived.Test.YtecfnddaniphdaaGreatDoorX19
set_option linter.unusedVariables false
set_option linter.unusedSimpArgs false
namespace Go.Proofs.YtecfnddaniphdaaGreatDoor.AM
variable {P : Program}

/-! ### Overlays -/
section
variable {α : Type} {tc : Did → Nat → Bool} {vl : Did → Nat → Option α}
theorem ov_agree {S S' : Nat → Bool} {b : Nat} : ∀ {ds : List Did} {i : Nat} {f f' : Nat → Option α}, (∀ k d, ds[k]? = some d → S (i + k) ≠ S' (i + k) → tc d b = false) → f b = f' b →
    ov tc vl S i ds f b = ov tc vl S' i ds f' b
  | [], i, f, f', h, hf => hf
  | d :: ds, i, f, f', h, hf => by
    unfold ov
    refine ov_agree (fun k e he hne => h (k + 1) e (by simpa using he) (by rwa [show i + (k + 1) = i + 1 + k by omega])) ?_
    have h0 := h 0 d rfl
    simp only [Nat.add_zero] at h0
    cases hS : S i <;> cases hS' : S' i <;> simp only [hS, hS', Bool.true_and, Bool.false_and, cond, hf]
    · rw [h0 (by simp [hS, hS'])]
    · rw [h0 (by simp [hS, hS'])]
theorem ov_none {b : Nat} {S : Nat → Bool} : ∀ {ds : List Did} {i : Nat} {f : Nat → Option α}, (∀ k d, ds[k]? = some d → S (i + k) = true → tc d b = false) → ov tc vl S i ds f b = f b
  | [], i, f, h => rfl
  | d :: ds, i, f, h => by
    unfold ov
    rw [ov_none (fun k e he hs => h (k + 1) e (by simpa using he) (by rwa [show i + (k + 1) = i + 1 + k by omega]))]
    have h0 := h 0 d rfl
    simp only [Nat.add_zero] at h0
    cases hS : S i
    · rfl
    · simp only [Bool.true_and, h0 hS, cond]
theorem ov_add {b k0 : Nat} {d0 : Did} {S S' : Nat → Bool} : ∀ {ds : List Did} {i k : Nat} {f : Nat → Option α}, ds[k]? = some d0 → i + k = k0 → S k0 = false → S' k0 = true → (∀ j, j ≠ k0 → S' j = S j) →
    (∀ j d, ds[j]? = some d → k < j → S (i + j) = true → tc d0 b = true → tc d b = false) → ov tc vl S' i ds f b = cond (tc d0 b) (vl d0 b) (ov tc vl S i ds f b)
  | [], i, k, f, h, _, _, _, _, _ => by simp at h
  | d :: ds, i, 0, f, h, hk, h0, h1, hs, hx => by
    simp only [List.getElem?_cons_zero, Option.some.injEq] at h
    subst h
    simp only [Nat.add_zero] at hk
    subst hk
    unfold ov
    simp only [h0, h1, Bool.true_and, Bool.false_and, cond]
    cases ht : tc d b with
    | false =>
      simp only [cond]
      exact ov_agree (fun k e he hne => absurd (hs (i + 1 + k) (by omega)) hne) (by simp [ht])
    | true =>
      simp only [cond]
      rw [ov_none]
      · simp only [ht]
      · intro k e he hsk
        refine hx (k + 1) e (by simpa using he) (by omega) ?_ ht
        rw [show i + (k + 1) = i + 1 + k by omega, ← hs _ (by omega)]
        exact hsk
  | d :: ds, i, k + 1, f, h, hk, h0, h1, hs, hx => by
    simp only [List.getElem?_cons_succ] at h
    unfold ov
    have : S' i = S i := hs i (by omega)
    rw [this]
    exact ov_add h (by omega) h0 h1 hs (fun j e he hlt hsj => hx (j + 1) e (by simpa using he) (by omega) (by rwa [show i + (j + 1) = i + 1 + j by omega]))
theorem ov_snoc {S : Nat → Bool} {d : Did} {b : Nat} : ∀ {ds : List Did} {i : Nat} {f : Nat → Option α}, ov tc vl S i (ds ++ [d]) f b = cond (S (i + ds.length) && tc d b) (vl d b) (ov tc vl S i ds f b)
  | [], i, f => rfl
  | e :: ds, i, f => by
    simp only [List.cons_append, List.length_cons]
    unfold ov
    rw [ov_snoc, show i + 1 + ds.length = i + (ds.length + 1) by omega]
theorem ov_take {S : Nat → Bool} {b n : Nat} : ∀ {ds : List Did} {i : Nat} {f : Nat → Option α}, (∀ k, n ≤ k → S (i + k) = false) → ov tc vl S i (ds.take n) f b = ov tc vl S i ds f b := by
  induction n with
  | zero =>
    intro ds i f h
    simp only [List.take_zero]
    show f b = _
    rw [ov_none]
    intro k d _ hs
    rw [h k (Nat.zero_le _)] at hs; cases hs
  | succ n ih =>
    intro ds i f h
    cases ds with
    | nil => rfl
    | cons d ds =>
      simp only [List.take_succ_cons]
      unfold ov
      exact ih (fun k hk => by rw [show i + 1 + k = i + (k + 1) by omega]; exact h (k + 1) (by omega))
end
theorem setAll_get {src : TR AObj} {b : Nat} : ∀ {l : List Nat} {h : TR AObj}, (∀ x ∈ l, small x = true) → (setAll src l h).get b = cond (l.any (Nat.beq b)) (src.get b) (h.get b)
  | [], h, _ => rfl
  | x :: l, h, hs => by
    unfold setAll
    rw [setAll_get (fun y hy => hs y (List.mem_cons_of_mem _ hy)), TR.get_setS (hs x (List.mem_cons_self ..)), List.any_cons]
    by_cases e : b = x
    · subst e
      have : Nat.beq b b = true := Nat.beq_refl b
      rw [this, Bool.true_or, if_pos rfl]
      cases l.any (Nat.beq b) <;> rfl
    · have : Nat.beq b x = false := by cases hb : Nat.beq b x with | false => rfl | true => exact absurd (Nat.eq_of_beq_eq_true hb) e
      rw [this, Bool.false_or, if_neg e]
theorem viewH_get {S : Nat → Bool} {b : Nat} : ∀ {ds : List Did} {i : Nat} {h : TR AObj}, (∀ d ∈ ds, ∀ x ∈ d.t, small x = true) → (viewH S i ds h).get b = ov tcH vlH S i ds h.get b
  | [], i, h, _ => rfl
  | d :: ds, i, h, hs => by
    unfold viewH ov
    rw [viewH_get (fun e he => hs e (List.mem_cons_of_mem _ he))]
    refine ov_agree (fun k e he hne => absurd rfl hne) ?_
    cases S i with
    | false => rfl
    | true => simp only [cond, Bool.true_and, setAll_get (hs d (List.mem_cons_self ..))]; rfl
theorem setD_get {d : Did} {T : TR Value} {t : Nat} {sz : Nat} (h : okDst sz d.dst = true) : (setD d.v T d.dst).get t = cond (tcT d t) (vlT d t) (T.get t) := by
  obtain ⟨v, _, _, _, _, _, _, dst, _⟩ := d
  cases dst with
  | none => rfl
  | some x =>
    simp only [okDst, Bool.and_eq_true] at h
    unfold setD tcT vlT
    simp only
    rw [TR.get_setS h.2]
    by_cases e : t = x
    · subst e; rw [if_pos rfl, Nat.beq_refl]; rfl
    · rw [if_neg e]
      have : Nat.beq x t = false := by cases hb : Nat.beq x t with | false => rfl | true => exact absurd (Nat.eq_of_beq_eq_true hb).symm e
      rw [this]; rfl
theorem viewT_get {S : Nat → Bool} {sz t : Nat} : ∀ {ds : List Did} {i : Nat} {T : TR Value}, (∀ d ∈ ds, okDst sz d.dst = true) → (viewT S i ds T).get t = ov tcT vlT S i ds T.get t
  | [], i, h, _ => rfl
  | d :: ds, i, h, hs => by
    unfold viewT ov
    rw [viewT_get (fun e he => hs e (List.mem_cons_of_mem _ he))]
    refine ov_agree (fun k e he hne => absurd rfl hne) ?_
    cases S i with
    | false => rfl
    | true =>
      simp only [cond, Bool.true_and]
      exact setD_get (hs d (List.mem_cons_self ..))
theorem restr_get {α : Type} {f : Nat → Option α} {x : Nat} {v : α} : ∀ {l : List Nat} {acc : TR α}, (restr f l acc).get x = some v → acc.get x = some v ∨ (x ∈ l ∧ f x = some v)
  | [], acc, h => .inl h
  | b :: l, acc, h => by
    unfold restr at h
    rcases restr_get h with h | ⟨h1, h2⟩
    · split at h
      · rename_i o ho
        cases hs : small b with
        | false => rw [hs] at h; exact .inl h
        | true =>
          rw [hs] at h
          simp only [cond] at h
          rw [TR.get_setS hs] at h
          by_cases e : x = b
          · subst e
            rw [if_pos rfl] at h
            simp only [Option.some.injEq] at h
            subst h
            exact .inr ⟨List.mem_cons_self .., ho⟩
          · rw [if_neg e] at h; exact .inl h
      · exact .inl h
    · exact .inr ⟨List.mem_cons_of_mem _ h1, h2⟩

/-! ### What was drawn -/
section
variable {cf : Cfg} {rec : Task → Option Out}
structure OneOk (cf : Cfg) (rec : Task → Option Out) (all : List Oper) (fr : AF) (s : St) (i : Nat) (ds : List Did) (n : Nat) (o : Oper) (d : Did) : Prop where
  nm : d.nm = namesA all o
  dst : d.dst = o.dst
  m : d.m = befA ds o
  lt : d.m < 2 ^ i
  put : okDst fr.sz o.dst = true
  n0 : d.n0 = n
  res : (wantA all (seesA ds fr d.m d.nm).T o = some false ∧ d.v = undef ∧ d.t = [] ∧ d.n1 = n ∧ d.rv = .nil) ∨
    (wantA all (seesA ds fr d.m d.nm).T o = some true ∧ operA cf rec (seesA ds fr d.m d.nm) ⟨d.rv, n, []⟩ o.op = some (d.v, ⟨d.h, d.n1, d.t⟩) ∧
      okT n d.n1 d.rv d.t = true ∧ d.rv = knowsA ds s d.m (domA cf (seesA ds fr d.m d.nm).T o.op))
theorem stepD_ok {all : List Oper} {fr : AF} {s : St} {i : Nat} {ds : List Did} {n : Nat} {o : Oper} {d : Did} (h : stepD cf rec all fr s i ds n o = some d) : OneOk cf rec all fr s i ds n o d := by
  unfold stepD at h
  obtain ⟨hc, h⟩ := cond_some h
  simp only [Bool.and_eq_true] at hc
  have hlt := Nat.blt_eq.mp hc.1
  generalize hw : wantA all (seesA ds fr (befA ds o) (namesA all o)).T o = x at h
  cases x with
  | none => cases h
  | some b =>
    cases b with
    | false =>
      simp only [oneA, Option.some.injEq] at h
      subst h
      exact ⟨rfl, rfl, rfl, hlt, hc.2, rfl, .inl ⟨hw, rfl, rfl, rfl, rfl⟩⟩
    | true =>
      simp only [oneA] at h
      generalize hr : operA cf rec (seesA ds fr (befA ds o) (namesA all o)) ⟨knowsA ds s (befA ds o) (domA cf (seesA ds fr (befA ds o) (namesA all o)).T o.op), n, []⟩ o.op = y at h
      cases y with
      | none => cases h
      | some y =>
        obtain ⟨v, s'⟩ := y
        simp only [doneA] at h
        obtain ⟨hk, h⟩ := cond_some h
        simp only [Option.some.injEq] at h
        subst h
        exact ⟨rfl, rfl, rfl, hlt, hc.2, rfl, .inr ⟨hw, hr, hk, rfl⟩⟩
inductive Drawn (cf : Cfg) (rec : Task → Option Out) (all : List Oper) (fr : AF) (s : St) : List Oper → List Did → Nat → Prop
  | nil : Drawn cf rec all fr s [] [] s.n
  | snoc {os : List Oper} {ds : List Did} {n : Nat} {o : Oper} {d : Did} (h : Drawn cf rec all fr s os ds n) (k : OneOk cf rec all fr s os.length ds n o d) : Drawn cf rec all fr s (os ++ [o]) (ds ++ [d]) d.n1
theorem drawA_drawn {all : List Oper} {fr : AF} {s : St} : ∀ {l os : List Oper} {ds ds' : List Did} {n n' : Nat}, Drawn cf rec all fr s os ds n → drawA cf rec all fr s l os.length ds n = some (ds', n') → Drawn cf rec all fr s (os ++ l) ds' n'
  | [], os, ds, ds', n, n', h, k => by
    simp only [drawA, Option.some.injEq, Prod.mk.injEq] at k
    obtain ⟨rfl, rfl⟩ := k
    simpa using h
  | o :: l, os, ds, ds', n, n', h, k => by
    unfold drawA at k
    split at k
    · cases k
    · rename_i d hd
      have := drawA_drawn (l := l) (h.snoc (stepD_ok hd)) (by rw [List.length_append]; exact k)
      simpa using this
theorem OneOk.nn (ih : ∀ t o, rec t = some o → TaskOk P cf t o) {all : List Oper} {fr : AF} {s : St} {i : Nat} {ds : List Did} {n : Nat} {o : Oper} {d : Did} (h : OneOk cf rec all fr s i ds n o d) : n ≤ d.n1 := by
  rcases h.res with ⟨_, _, _, h, _⟩ | ⟨_, h, _⟩
  · omega
  · exact operA_n ih h
theorem okT_spec {n n1 : Nat} {rv : TR AObj} {t : List Nat} (h : okT n n1 rv t = true) : small n1 = true ∧ ∀ b ∈ t, (n ≤ b ∧ b < n1) ∨ (rv.get b).isSome = true := by
  unfold okT at h
  simp only [Bool.and_eq_true, List.all_eq_true, Bool.or_eq_true] at h
  exact ⟨h.1, fun b hb => (h.2 b hb).imp (fun k => ⟨Nat.le_of_ble_eq_true k.1, Nat.blt_eq.mp k.2⟩) id⟩
theorem small_lt {a b : Nat} (h : small b = true) (k : a ≤ b) : small a = true := by
  unfold small at *
  have := Nat.blt_eq.mp h
  exact Nat.blt_eq.mpr (by omega)
theorem tcH_mem {d : Did} {b : Nat} : tcH d b = true ↔ b ∈ d.t := by
  unfold tcH
  rw [List.any_eq_true]
  exact ⟨fun ⟨x, hx, h⟩ => (Nat.eq_of_beq_eq_true h) ▸ hx, fun h => ⟨b, h, Nat.beq_refl b⟩⟩
/-- what is plainly so of what was drawn -/
structure Facts (cf : Cfg) (rec : Task → Option Out) (all : List Oper) (fr : AF) (s : St) (os : List Oper) (ds : List Did) (n : Nat) : Prop where
  len : ds.length = os.length
  nn : s.n ≤ n
  sm : ∀ d ∈ ds, ∀ b ∈ d.t, small b = true
  ok : ∀ d ∈ ds, okDst fr.sz d.dst = true
  one : ∀ {k : Nat} {o : Oper} {d : Did}, os[k]? = some o → ds[k]? = some d → OneOk cf rec all fr s k (ds.take k) d.n0 o d
  lo : ∀ d ∈ ds, s.n ≤ d.n0 ∧ d.n0 ≤ d.n1 ∧ d.n1 ≤ n
  ord : ∀ {j k : Nat} {d e : Did}, ds[j]? = some d → ds[k]? = some e → j < k → d.n1 ≤ e.n0
  live : ∀ (S : Nat → Bool) (b : Nat), (ov tcH vlH S 0 ds s.h.get b).isSome = true → b < n ∧ small b = true
  rvs : ∀ {k : Nat} {d : Did} {b : Nat} {o : AObj}, ds[k]? = some d → d.rv.get b = some o → ov tcH vlH (Nat.testBit d.m) 0 ds s.h.get b = some o ∧ b < d.n0 ∧ small b = true
theorem testBit_ge {m k i : Nat} (h : m < 2 ^ i) (hk : i ≤ k) : m.testBit k = false := Nat.testBit_lt_two_pow (Nat.lt_of_lt_of_le h (Nat.pow_le_pow_right (by decide) hk))
theorem knows_get {ds : List Did} {s : St} {m : Nat} {l : Option (List Nat)} {b : Nat} {o : AObj} (hs : ∀ d ∈ ds, ∀ x ∈ d.t, small x = true) (h : (knowsA ds s m l).get b = some o) : ov tcH vlH (Nat.testBit m) 0 ds s.h.get b = some o := by
  unfold knowsA at h
  split at h
  · rw [viewH_get hs] at h; exact h
  · rcases restr_get h with h | ⟨_, h⟩
    · cases h
    · exact h
theorem Drawn.facts (C : CfgOk P cf) (ih : ∀ t o, rec t = some o → TaskOk P cf t o) {all : List Oper} {fr : AF} {s : St} (L : Li s) {os : List Oper} {ds : List Did} {n : Nat} (h : Drawn cf rec all fr s os ds n) : Facts cf rec all fr s os ds n := by
  induction h with
  | nil => exact ⟨rfl, Nat.le_refl _, by simp, by simp, by simp, by simp, by simp, fun S b hb => L hb, by simp⟩
  | snoc h k ihd =>
    rename_i os ds n o d
    have hn := k.nn ih
    have hget : ∀ {j : Nat} {e : Did}, (ds ++ [d])[j]? = some e → ds[j]? = some e ∨ (j = ds.length ∧ e = d) := by
      intro j e hj
      by_cases hlt : j < ds.length
      · rw [List.getElem?_append_left hlt] at hj; exact .inl hj
      · rw [List.getElem?_append_right (by omega)] at hj
        cases hjj : j - ds.length with
        | zero => rw [hjj] at hj; simp only [List.getElem?_cons_zero, Option.some.injEq] at hj; exact .inr ⟨by omega, hj.symm⟩
        | succ x => rw [hjj] at hj; simp at hj
    have hrv : ∀ b o', d.rv.get b = some o' → ov tcH vlH (Nat.testBit d.m) 0 ds s.h.get b = some o' := by
      intro b o' hb
      rcases k.res with ⟨_, _, _, _, e⟩ | ⟨_, _, _, e⟩
      · rw [e] at hb; cases hb
      · rw [e] at hb; exact knows_get ihd.sm hb
    have hsm : ∀ b ∈ d.t, small b = true := by
      intro b hb
      rcases k.res with ⟨_, _, e, _, _⟩ | ⟨_, _, e, _⟩
      · rw [e] at hb; cases hb
      · obtain ⟨s1, s2⟩ := okT_spec e
        rcases s2 b hb with ⟨_, h2⟩ | h2
        · exact small_lt s1 (Nat.le_of_lt h2)
        · obtain ⟨o', ho'⟩ := Option.isSome_iff_exists.1 h2
          exact (ihd.live _ b (by rw [hrv b o' ho']; rfl)).2
    refine ⟨by simp [ihd.len], by have := ihd.nn; omega, ?_, ?_, ?_, ?_, ?_, ?_, ?_⟩
    · intro e he b hb
      rcases List.mem_append.1 he with he | he
      · exact ihd.sm e he b hb
      · simp only [List.mem_singleton] at he; subst he; exact hsm b hb
    · intro e he
      rcases List.mem_append.1 he with he | he
      · exact ihd.ok e he
      · simp only [List.mem_singleton] at he; subst he; rw [k.dst]; exact k.put
    · intro j p e hp he
      by_cases hj : j < ds.length
      · rw [List.getElem?_append_left hj] at he
        rw [List.getElem?_append_left (by rw [← ihd.len]; exact hj)] at hp
        rw [List.take_append_of_le_length (by omega)]
        exact ihd.one hp he
      · rcases hget he with h1 | ⟨rfl, rfl⟩
        · rw [List.getElem?_eq_none (by omega)] at h1; cases h1
        · rw [ihd.len, List.getElem?_append_right (Nat.le_refl _)] at hp
          simp only [Nat.sub_self, List.getElem?_cons_zero, Option.some.injEq] at hp
          subst hp
          rw [List.take_append_of_le_length (Nat.le_refl _), List.take_length, ihd.len, k.n0]
          exact k
    · intro e he
      rcases List.mem_append.1 he with he | he
      · have := ihd.lo e he; omega
      · simp only [List.mem_singleton] at he; subst he; have := ihd.nn; have := k.n0; omega
    · intro j i d1 e1 h1 h2 hlt
      rcases hget h2 with g2 | ⟨rfl, rfl⟩
      · rcases hget h1 with g1 | ⟨rfl, rfl⟩
        · exact ihd.ord g1 g2 hlt
        · have := (List.getElem?_eq_some_iff.1 g2).1; omega
      · rcases hget h1 with h1 | ⟨rfl, rfl⟩
        · have := ihd.lo d1 (List.mem_of_getElem? h1); have := k.n0; omega
        · omega
    · intro S b hb
      rw [ov_snoc] at hb
      cases hc : (S (0 + ds.length) && tcH d b) with
      | false =>
        rw [hc] at hb
        have := ihd.live S b hb
        exact ⟨by omega, this.2⟩
      | true =>
        simp only [Bool.and_eq_true] at hc
        have hm := tcH_mem.1 hc.2
        refine ⟨?_, hsm b hm⟩
        rcases k.res with ⟨_, _, e, _, _⟩ | ⟨_, _, e, _⟩
        · rw [e] at hm; cases hm
        · obtain ⟨s1, s2⟩ := okT_spec e
          rcases s2 b hm with ⟨_, h2⟩ | h2
          · exact h2
          · obtain ⟨o', ho'⟩ := Option.isSome_iff_exists.1 h2
            have := (ihd.live _ b (by rw [hrv b o' ho']; rfl)).1
            omega
    · intro j e b o' he hb
      rcases hget he with h1 | ⟨rfl, rfl⟩
      · have hj := (List.getElem?_eq_some_iff.1 h1).1
        obtain ⟨r1, r2⟩ := ihd.rvs h1 hb
        refine ⟨?_, r2⟩
        rw [ov_snoc]
        obtain ⟨p, hp⟩ : ∃ p, os[j]? = some p := ⟨_, List.getElem?_eq_getElem (by rw [← ihd.len]; exact hj)⟩
        have := (ihd.one hp h1).lt
        rw [testBit_ge this (by omega)]
        exact r1
      · have := hrv b o' hb
        refine ⟨?_, ?_⟩
        · rw [ov_snoc, testBit_ge k.lt (by rw [ihd.len]; omega)]; exact this
        · have := ihd.live _ b (by rw [this]; rfl)
          rw [k.n0]; exact this
end
end Go.Proofs.YtecfnddaniphdaaGreatDoor.AM
