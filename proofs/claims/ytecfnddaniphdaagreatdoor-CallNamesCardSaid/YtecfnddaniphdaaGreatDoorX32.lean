/-
  The abstract machine: a whole run in a world that holds one variable of plain cells.
-/
import Derived.Test.YtecfnddaniphdaaGreatDoorX24
set_option linter.unusedVariables false
set_option linter.unusedSimpArgs false
namespace Go.Proofs.YtecfnddaniphdaaGreatDoor.AM
variable {P : Program}
/-- memory that holds one such variable -/
noncomputable def oneV (g : Nat) (vs : List Value) : St := ⟨TR.set FU .nil g (some (.cells vs none)), 1000, []⟩
theorem oneV_get {g b : Nat} {vs : List Value} (h : small g = true) : (oneV g vs).h.get b = if b = g then some (.cells vs none) else none := by
  unfold oneV
  rw [TR.get_setS h, TR.get_nil]
theorem oneV_hr {cf : Cfg} {σ : Nat → Value} {g : Nat} {vs : List Value} {w : World} {cs : Array Value} {t : TypeId} (hg : cf.gl = [g]) (hs : small g = true) (hv : vs.all scal = true) (hw : w.heap[g]? = some (.cells cs t (0, 0))) (hc : cs.toList = vs) : HR (Mu0 cf σ) (oneV g vs).h w := by
  have hany : ∀ b, cf.gl.any (Nat.beq b) = true → b = g := fun b hb => by
    rw [hg] at hb
    simpa using any_beq.1 hb
  refine ⟨fun h1 h2 => h1.1.symm.trans h2.1, fun h => h.elim, fun h => ?_, fun h1 h2 _ _ => h1.1.trans h2.1.symm, fun {b o} hb => ?_⟩
  · have := hany _ h.2
    rw [← h.1, this]
    exact (Array.getElem?_eq_some_iff.1 hw).1
  · rw [oneV_get hs] at hb
    by_cases e : b = g
    · subst e
      rw [if_pos rfl] at hb
      simp only [Option.some.injEq] at hb
      subst hb
      refine ⟨b, _, ⟨rfl, by rw [hg]; simp⟩, hw, rfl, ?_⟩
      rw [hc, List.take_length]
      exact scals_LR _ hv
    · rw [if_neg e] at hb; cases hb
theorem oneV_li {g : Nat} {vs : List Value} (hs : small g = true) (hl : g < 1000) : Li (oneV g vs) := fun {b} hb => by
  rw [oneV_get hs] at hb
  by_cases e : b = g
  · subst e; exact ⟨hl, hs⟩
  · rw [if_neg e] at hb; cases hb
theorem oneV_fresh {cf : Cfg} {σ : Nat → Value} {g : Nat} (hg : cf.gl = [g]) (hl : g < 1000) (n : Nat) : Fresh (Mu0 cf σ) 1000 n := ⟨fun {b r} hb => .inl (by
  have h := hb.2
  rw [hg] at h
  have : b = g := by simpa using any_beq.1 h
  omega), fun h => h.elim⟩
theorem run_one {cf : Cfg} (C : CfgOk P cf) (K : MemsOk P cf) {F : Nat} {f : FuncId} {args : List Value} {v : Value} {g : Nat} {vs : List Value} (h : okRun (runA cf F (.call f args (oneV g vs))) v = true) (hp : args.all plain = true) (hv : plain v = true)
    (hg : cf.gl = [g]) (hl : g < 1000) (hs : small g = true) (hvs : vs.all scal = true) (σ : Nat → Value) (hσ : cf.sy σ) (w : World) {cs : Array Value} {t : TypeId} (hw : w.heap[g]? = some (.cells cs t (0, 0))) (hc : cs.toList = vs) :
    CallsIn Fence.wide 0 P f args.toArray w (fun e w' => e = .returned v ∧ Stays w w') :=
  run_sym C K h hv (M := Mu0 cf σ) (oneV_hr hg hs hvs hw hc) (oneV_li hs hl) (oneV_fresh hg hl) ⟨fun g hg => ⟨rfl, hg⟩, hσ⟩ (by simpa using LR.refl _ hp)
end Go.Proofs.YtecfnddaniphdaaGreatDoor.AM
