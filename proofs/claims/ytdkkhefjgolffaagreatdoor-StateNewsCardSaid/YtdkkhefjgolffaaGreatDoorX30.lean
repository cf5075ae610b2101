/-
  StateNews: what is done of one topology, in a world.
-/
import Derived.Test.YtdkkhefjgolffaaGreatDoorX29
import Derived.Below
set_option linter.unusedVariables false
set_option linter.unusedSimpArgs false
namespace Go.Proofs.YtdkkhefjgolffaaGreatDoor.AM
open Go.Proofs Go.RowKit
set_option maxRecDepth 100000
def sigX (n : Nat → Int) (a : Act) (i : Nat) : Value := if i < 1000 then .int .i64 (n i) else a.tmps.getD (i - 2000000) undef
def muX (n : Nat → Int) (a : Act) (r1 r2 c : Nat) : Mu := ⟨fun b r => (b = 1 ∧ r = r1) ∨ (b = 2 ∧ r = r2), fun b C z => b = 1 ∧ C = c ∧ z = 2, sigX n a⟩
theorem syms_LR {n : Nat → Int} {a : Act} {r1 r2 c : Nat} {m : Nat} (hm : m ≤ 400) {l : List Value} (hl : l = (List.range (2 * m)).map fun i => .int .i64 (n i)) : LR (muX n a r1 r2 c) (syms m) l := by
  subst hl
  refine LR.of_get (by simp [syms]) fun i v v' h1 h2 => ?_
  unfold syms at h1
  rw [List.getElem?_map, Option.map_eq_some_iff] at h1 h2
  obtain ⟨j, h3, rfl⟩ := h1
  obtain ⟨k, h4, rfl⟩ := h2
  rw [h3] at h4
  cases h4
  have hj : j < 2 * m := List.mem_range.1 (List.mem_of_getElem? h3)
  refine .sym j ?_ (.inl ⟨by unfold SYS; omega, _, rfl⟩)
  show sigX n a j = _
  unfold sigX
  rw [if_pos (by omega)]
theorem opq_VR {n : Nat → Int} {a : Act} {r1 r2 c t : Nat} (h : one (a.tmps.getD t undef) = true) : VR (muX n a r1 r2 c) (opq t) (a.tmps.getD t undef) := by
  refine .sym (2000000 + t) ?_ (.inr (.inr ⟨by unfold SYS; omega, h⟩))
  show sigX n a (2000000 + t) = _
  unfold sigX
  rw [if_neg (by omega), show 2000000 + t - 2000000 = t by omega]
theorem opq_back {n : Nat → Int} {a : Act} {r1 r2 c t : Nat} {M : Mu} {v v' : Value} (hs : M.s = (muX n a r1 r2 c).s) (h : isOpq t (some v) = true) (k : VR M v v') : v' = a.tmps.getD t undef := by
  unfold isOpq at h
  split at h
  · rename_i i he
    cases he
    have e := Nat.eq_of_beq_eq_true h
    subst e
    cases k with
    | sym _ hv ho =>
    rw [hs] at hv
    have hv : sigX n a (2000000 + t) = v' := hv
    unfold sigX at hv
    rw [if_neg (by omega), show 2000000 + t - 2000000 = t by omega] at hv
    exact hv.symm
  · cases h
theorem memX_get {m b : Nat} : (memX m).h.get b = if b = 2 then some (.cells [topoA m] none) else if b = 1 then some (.cells (syms m) (some 2)) else none := by
  unfold memX
  rw [TR.get_setS (by decide), TR.get_setS (by decide), TR.get_nil]
theorem isOpq_some {t : Nat} {x : Option Value} (h : isOpq t x = true) : ∃ v, x = some v := by
  cases x with
  | none => cases h
  | some v => exact ⟨v, rfl⟩
def exX (good : Bool) : Exit := cond good .normal (.exit 1)
/-- what is done of a topology: of m seats that a block of c holds -/
theorem blockX {m bad : Nat} {hi good : Bool} (hrun : okX good (runA (cfT bad hi) 4000 (.exec codeX frX (memX m))) = true) (hm : m ≤ 400) {w : World} {a : Act} {r1 r2 c : Nat} {n : Nat → Int} {cs1 : Array Value} {t1 t2 : TypeId} (hne : r1 ≠ r2)
    (h1 : w.heap[r1]? = some (.cells cs1 t1 (0, 0))) (hs1 : cs1.size = c * 2) (hmc : m ≤ c) (hc : cs1.toList.take (2 * m) = (List.range (2 * m)).map fun i => .int .i64 (n i))
    (h2 : w.heap[r2]? = some (.cells #[.slice (some ⟨r1, 0, none⟩) m c] t2 (0, 0)))
    (hgood : ∀ i, i < bad → 0 ≤ n i ∧ n i < (if i % 2 = 0 then 4 else 8)) (hbad : bad < 1000 → if hi then (if bad % 2 = 0 then 4 else 8) ≤ n bad else n bad < 0)
    (ha : a.tmps.size = 54) (a5 : a.tmps.getD 5 undef = .pointer (some ⟨r2, 0, none⟩)) (hop : ∀ k ∈ [0, 10, 11, 12], one (a.tmps.getD k undef) = true) (hd : a.defers = []) :
    codeX.wp Tryz.prog (fun x a' w' => x = exX good ∧ a'.tmps.size = 54 ∧ a'.defers = [] ∧ (∀ k ∈ [0, 10, 11, 12], a'.tmps.getD k undef = a.tmps.getD k undef) ∧ Below w.heap.size w w') a w := by
  generalize hrr : runA (cfT bad hi) 4000 (.exec codeX frX (memX m)) = o at hrun
  cases o with
  | none => cases hrun
  | some o =>
  cases o with
  | ret v s => cases hrun
  | ex e fr s =>
  unfold okX at hrun
  simp only [Bool.and_eq_true, List.isEmpty_iff] at hrun
  obtain ⟨k1, k0, k2, k3, k4, k5, k6, k7⟩ := hrun
  have T : SExec Tryz.prog (cfT bad hi) codeX frX (memX m) e fr s := runA_sound (cfT_ok bad hi) (memsT bad hi) 4000 _ _ hrr
  have hfr : FrR (muX n a r1 r2 c) frX a none := by
    refine ⟨fun t v ht => ?_, ha, by rw [hd]; exact .nil, .none⟩
    unfold frX at ht
    rw [TR.get_setS (by decide), TR.get_setS (by decide), TR.get_setS (by decide), TR.get_setS (by decide), TR.get_setS (by decide), TR.get_nil] at ht
    by_cases e12 : t = 12
    · subst e12; rw [if_pos rfl] at ht; cases ht; exact opq_VR (hop 12 (by simp))
    rw [if_neg e12] at ht
    by_cases e11 : t = 11
    · subst e11; rw [if_pos rfl] at ht; cases ht; exact opq_VR (hop 11 (by simp))
    rw [if_neg e11] at ht
    by_cases e10 : t = 10
    · subst e10; rw [if_pos rfl] at ht; cases ht; exact opq_VR (hop 10 (by simp))
    rw [if_neg e10] at ht
    by_cases e5 : t = 5
    · subst e5; rw [if_pos rfl] at ht; cases ht; rw [a5]; exact .ptr 0 (.inr ⟨rfl, rfl⟩)
    rw [if_neg e5] at ht
    by_cases e0 : t = 0
    · subst e0; rw [if_pos rfl] at ht; cases ht; exact opq_VR (hop 0 (by simp))
    rw [if_neg e0] at ht
    cases ht
  have H : HR (muX n a r1 r2 c) (memX m).h w := by
    refine ⟨fun {b x y} h3 h4 => ?_, fun h3 h4 => ⟨h3.2.1.trans h4.2.1.symm, h3.2.2.trans h4.2.2.symm⟩, fun {b x} h => ?_, fun {b b' x} h3 h4 _ _ => ?_, fun {b ob} hb => ?_⟩
    · rcases h3 with ⟨p, q⟩ | ⟨p, q⟩ <;> rcases h4 with ⟨p', q'⟩ | ⟨p', q'⟩ <;> omega
    · rcases h with ⟨_, rfl⟩ | ⟨_, rfl⟩
      · exact (Array.getElem?_eq_some_iff.1 h1).1
      · exact (Array.getElem?_eq_some_iff.1 h2).1
    · rcases h3 with ⟨p, q⟩ | ⟨p, q⟩ <;> rcases h4 with ⟨p', q'⟩ | ⟨p', q'⟩ <;> omega
    · rw [memX_get] at hb
      by_cases e2 : b = 2
      · subst e2
        rw [if_pos rfl] at hb
        cases hb
        refine ⟨r2, _, .inr ⟨rfl, rfl⟩, h2, rfl, ?_⟩
        exact .cons (.grown (z := 2) 0 m c (.inl ⟨rfl, rfl⟩) ⟨rfl, rfl, rfl⟩ hmc (Nat.zero_add _)) .nil
      · rw [if_neg e2] at hb
        by_cases e1 : b = 1
        · subst e1
          rw [if_pos rfl] at hb
          cases hb
          refine ⟨r1, _, .inl ⟨rfl, rfl⟩, h1, rfl, ?_, by decide, c, ⟨rfl, rfl, rfl⟩, hs1⟩
          have : (syms m).length = 2 * m := by simp [syms]
          rw [this]
          exact syms_LR hm hc
        · rw [if_neg e1] at hb; cases hb
  have L : Li (memX m) := fun {b} hb => by
    rw [memX_get] at hb
    by_cases e2 : b = 2
    · subst e2; exact ⟨(by show (2 : Nat) < 1000; decide), (by decide)⟩
    · rw [if_neg e2] at hb
      by_cases e1 : b = 1
      · subst e1; exact ⟨(by show (1 : Nat) < 1000; decide), (by decide)⟩
      · rw [if_neg e1] at hb; cases hb
  have hF : Fresh (muX n a r1 r2 c) (memX m).n s.n := ⟨fun {b x} h => .inl (by
    show b < 1000
    rcases h with ⟨rfl, _⟩ | ⟨rfl, _⟩ <;> decide), fun {b C z} h => .inl (by
    show b < 1000
    rw [h.1]; decide)⟩
  have hG : GLok (muX n a r1 r2 c) (cfT bad hi) := ⟨fun g hg => (by cases hg), ⟨n, fun i hi => (by
    show sigX n a i = _
    unfold sigX
    rw [if_pos hi]), hgood, hbad⟩⟩
  refine (wpIn_wide (n := 0)).1 (wpIn_mono (T.2 _ w a none H L hF hG hfr).wp ?_)
  rintro x a' w' ⟨rfl, M', hF', H', L', E, X⟩
  have hs : M'.s = (muX n a r1 r2 c).s := E.le.s
  have back : ∀ t, isOpq t (fr.T.get t) = true → a'.tmps.getD t undef = a.tmps.getD t undef := by
    intro t ht
    obtain ⟨v, hv⟩ := isOpq_some ht
    rw [hv] at ht
    exact opq_back hs ht (hF'.t t v hv)
  have hsz : fr.sz = 54 := Nat.eq_of_beq_eq_true k0
  refine ⟨?_, ?_, ?_, ?_, E.os, E.tape, E.output, E.size, fun k hk => E.blk hk fun b hb hm' => ?_⟩
  · unfold exX
    cases e with
    | normal =>
      have k1 : good = true := k1
      rw [k1]; rfl
    | exit j =>
      have k1 : (!good && Nat.beq j 1) = true := k1
      simp only [Bool.and_eq_true, Bool.not_eq_true'] at k1
      rw [k1.1, Nat.eq_of_beq_eq_true k1.2]; rfl
    | ret => cases k1
  · rw [hF'.sz, hsz]
  · have := hF'.md
    rw [k2] at this
    generalize a'.defers = ds at this
    cases this
    rfl
  · intro k hk
    simp only [List.mem_cons, List.not_mem_nil, or_false] at hk
    rcases hk with rfl | rfl | rfl | rfl
    · exact back 0 k3
    · exact back 10 k4
    · exact back 11 k5
    · exact back 12 k6
  · have := Nat.le_of_ble_eq_true (List.all_eq_true.1 k7 b hb)
    rcases hm' with ⟨rfl, _⟩ | ⟨rfl, _⟩ <;> omega
end Go.Proofs.YtdkkhefjgolffaaGreatDoor.AM
