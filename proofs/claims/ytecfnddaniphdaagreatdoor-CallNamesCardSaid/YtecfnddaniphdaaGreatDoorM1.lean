/-
  law21: the kind of a name.
-/
import Derived.Test.YtecfnddaniphdaaGreatDoorM0
set_option linter.unusedVariables false
set_option linter.unusedSimpArgs false
namespace Go.Proofs.YtecfnddaniphdaaGreatDoor.AM
def sameT : Value → Value → Bool
  | .tuple xs, .tuple ys => sameL xs.toList ys.toList
  | _, _ => false
theorem sameT_eq {a b : Value} (h : sameT a b = true) : a = b := by
  unfold sameT at h
  split at h
  · rename_i xs ys
    have := sameL_eq h
    rw [show xs = ys from Array.toList_inj.1 this]
  · cases h
def okRunT (o : Option Out) (v : Value) : Bool := match o with
  | some (.ret u s) => sameT u v && s.t.isEmpty
  | _ => false
theorem okRunT_some {o : Option Out} {v : Value} (h : okRunT o v = true) : ∃ s, o = some (.ret v s) ∧ s.t = [] := by
  unfold okRunT at h
  split at h
  · rename_i u s
    simp only [Bool.and_eq_true, List.isEmpty_iff] at h
    cases sameT_eq h.1
    exact ⟨s, rfl, h.2⟩
  · cases h
theorem run_symT {P : Program} {cf : Cfg} (C : CfgOk P cf) (K : MemsOk P cf) {F : Nat} {f : FuncId} {args : List Value} {v : Value} {s0 : St} (h : okRunT (runA cf F (.call f args s0)) v = true) (hv : plain v = true)
    {M : Mu} {w : World} (H : HR M s0.h w) (L : Li s0) (Fr : ∀ n, Fresh M s0.n n) (hG : GLok M cf) {args' : Array Value} (ha : LR M args args'.toList) : CallsIn Fence.wide 0 P f args' w (fun e w' => e = .returned v ∧ Stays w w') := by
  obtain ⟨s, h1, h2⟩ := okRunT_some h
  have T : SCall P cf f args s0 v s := runA_sound C K F _ _ h1
  refine CallsIn.mono (T.2.2 M w args' H L (Fr _) hG ha) ?_
  rintro e w' ⟨M', v', rfl, G⟩
  refine ⟨by rw [G.vr.same hv], G.ext.os, G.ext.tape, G.ext.output, G.ext.size, fun hr => G.ext.blk hr fun b hb => ?_⟩
  rw [h2] at hb
  cases hb
end Go.Proofs.YtecfnddaniphdaaGreatDoor.AM
namespace Go.Proofs.YtecfnddaniphdaaGreatDoor.A
open Go.RowKit
def nls : List (List UInt8) := nl.map fun s => s.data.toList
def isN (s x : ByteArray) : Bool := decide (x.data.toList = s.data.toList)
/-- the kind of a name -/
def kd (s : ByteArray) : Int := idx (isN s) nl + 1
noncomputable def cfk : AM.Cfg := ⟨AM.ft, AM.ty, [0], [], AM.syN nls 0 0 false, AM.orcN nls 0 0 false⟩
theorem cfkOk : AM.CfgOk Tryz.prog cfk := ⟨fun h => AM.tyChk_ok ((AM.allB_allT AM.tyOk).get h), fun h => AM.ftOk.get h, AM.mixOk, fun {M} hs {op t ox oy x y x' y' v} h hx hy => AM.orcN_ok hs h hx hy⟩
theorem cfkMems : AM.MemsOk Tryz.prog cfk := ⟨fun m hm => (by cases hm), fun g hg => (by simp only [cfk, List.mem_singleton] at hg; subst hg; decide)⟩
noncomputable def kindRes (n : Int) : Value := .tuple #[.int .i64 n, .bool (decide (0 < n))]
noncomputable def kindOk (k : Nat) : Bool := AM.okRunT (AM.runA cfk 4000 (.call 8 [.string (nmAt k)] (AM.oneV 0 (AM.strs nl)))) (kindRes ((k : Int) + 1))
theorem kind_all : (List.range 20).all kindOk = true := by kernel_rfl
theorem kind_run (k : Nat) (hk : k < 20) : kindOk k = true := List.all_eq_true.1 kind_all k (List.mem_range.2 hk)
theorem kind_none : AM.okRunT (AM.runA cfk 4000 (.call 8 [.chan (some 1000000)] (AM.oneV 0 (AM.strs nl)))) (kindRes 0) = true := by kernel_rfl
theorem kd_all : (List.range 20).all (fun k => decide (kd (nmAt k) = (k : Int) + 1)) = true := by kernel_rfl
theorem kd_names (k : Nat) (hk : k < 20) : kd (nmAt k) = (k : Int) + 1 := of_decide_eq_true (List.all_eq_true.1 kd_all k (List.mem_range.2 hk))
theorem kd_none {s : ByteArray} (h : ∀ j x, j < 20 → nl[j]? = some x → isN s x = false) : kd s = 0 := by
  unfold kd
  rw [← idx_none nl_len h]
  rfl
theorem kd_some {s : ByteArray} {k : Nat} {y : ByteArray} (h : ∀ j x, j < k → nl[j]? = some x → isN s x = false) (hy : nl[k]? = some y) (hp : isN s y = true) : kd s = (k : Int) + 1 := by
  unfold kd
  rw [← idx_some h hy hp]
theorem scal_nl : (AM.strs nl).all AM.scal = true := by kernel_rfl
theorem callKind (s : ByteArray) (w : World) (ht : Tab w) : Calls Tryz.prog 8 #[.string s] w fun e w' => e = .returned (.tuple #[.int .i64 (kd s), .bool (decide (0 < kd s))]) ∧ Below w.heap.size w w' := by
  obtain ⟨cs, t, hw, hc⟩ := ht.names
  have fin : ∀ {args : List Value} {n : Int} (σ : Nat → Value), AM.okRunT (AM.runA cfk 4000 (.call 8 args (AM.oneV 0 (AM.strs nl)))) (kindRes n) = true → cfk.sy σ → AM.LR (AM.Mu0 cfk σ) args [.string s] → kd s = n →
      Calls Tryz.prog 8 #[.string s] w fun e w' => e = .returned (.tuple #[.int .i64 (kd s), .bool (decide (0 < kd s))]) ∧ Below w.heap.size w w' := by
    intro args n σ hr hσ ha hk
    rw [hk]
    exact callsIn_wide.1 ((AM.run_symT cfkOk cfkMems hr (by rfl) (M := AM.Mu0 cfk σ) (AM.oneV_hr rfl (by kernel_rfl) scal_nl hw hc) (AM.oneV_li (by kernel_rfl) (by decide)) (AM.oneV_fresh rfl (by decide)) ⟨fun g hg => ⟨rfl, hg⟩, hσ⟩ ha).mono fun e w' ⟨h, S⟩ => ⟨h, S.os, S.tape, S.output, S.size, fun k hk => S.blk hk⟩)
  by_cases hin : s.data.toList ∈ nls
  · obtain ⟨x, hx, e⟩ := List.mem_map.1 hin
    have es : s = x := by
      obtain ⟨⟨a⟩⟩ := s
      obtain ⟨⟨b⟩⟩ := x
      simp only at e
      rw [e]
    obtain ⟨k, hk⟩ := List.mem_iff_getElem?.1 hx
    have hlt : k < 20 := by have := (List.getElem?_eq_some_iff.1 hk).1; exact this
    have en : s = nmAt k := by rw [es, nmAt, List.getD_eq_getElem?_getD, hk]; rfl
    obtain ⟨u, hu⟩ : ∃ u : ByteArray, ∀ x ∈ nls, u.data.toList ≠ x := ⟨⟨#[0]⟩, by decide +kernel⟩
    refine fin (args := [.string (nmAt k)]) (n := (k : Int) + 1) (fun i => if i = 1000000 then .string u else .int .i64 (-1)) (kind_run k hlt) ⟨⟨-1, rfl, fun h => (by cases h), fun _ => by decide⟩, u, rfl, hu⟩ ?_ (by rw [en]; exact kd_names k hlt)
    rw [← en]
    exact .cons (.string s) .nil
  · have hn : ∀ x ∈ nls, s.data.toList ≠ x := fun x hx e => hin (e ▸ hx)
    refine fin (args := [.chan (some 1000000)]) (n := 0) (fun i => if i = 1000000 then .string s else .int .i64 (-1)) kind_none ⟨⟨-1, rfl, fun h => (by cases h), fun _ => by decide⟩, s, rfl, hn⟩
      (.cons (.sym 1000000 (by simp [AM.Mu0]) (.inr (.inl ⟨by decide, by decide, s, rfl⟩))) .nil) (kd_none fun j x hj hx => ?_)
    unfold isN
    rw [decide_eq_false_iff_not]
    exact fun e => hn _ (List.mem_map.2 ⟨x, List.mem_of_getElem? hx, rfl⟩) e.symm
end Go.Proofs.YtecfnddaniphdaaGreatDoor.A
