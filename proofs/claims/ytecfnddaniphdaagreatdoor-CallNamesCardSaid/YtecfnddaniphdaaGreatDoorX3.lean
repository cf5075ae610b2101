/-
  The abstract machine: stores, new variables, values of structs, numbers.
-/
import Derived.Test.YtecfnddaniphdaaGreatDoorX2
set_option linter.unusedVariables false
set_option linter.unusedSimpArgs false
namespace Go.Proofs.YtecfnddaniphdaaGreatDoor.AM
variable {P : Program}

theorem oneCell_of_one {v : Value} (h : one v = true) : v.oneCell' = true := by cases v <;> first | rfl | cases h
theorem all_one {l : List Value} (h : l.all one = true) : ∀ u ∈ l, u.oneCell' = true := fun u hu => oneCell_of_one (List.all_eq_true.1 h u hu)
theorem splice_take {α : Type} (l vs : List α) (o n : Nat) (h1 : o + vs.length ≤ n) (h2 : n ≤ l.length) :
    (l.take o ++ vs ++ l.drop (o + vs.length)).take n = (l.take n).take o ++ vs ++ (l.take n).drop (o + vs.length) := by
  have ho : (l.take o).length = o := by rw [List.length_take]; omega
  rw [List.take_append, List.take_of_length_le (by rw [List.length_append, ho]; omega), List.length_append, ho, List.take_take, Nat.min_eq_left (by omega), List.drop_take]
theorem storeN_some {c c' vs : List Value} {off : Nat} (h : storeN c off vs = some c') : c' = c.take off ++ vs ++ c.drop (off + vs.length) ∧ off + vs.length ≤ c.length := by
  unfold storeN at h
  cases hb : Nat.ble (off + vs.length) c.length with
  | true => rw [hb] at h; simp only [cond, Option.some.injEq] at h; exact ⟨h.symm, Nat.le_of_ble_eq_true hb⟩
  | false => rw [hb] at h; cases h
theorem storeN_len {c c' vs : List Value} {off : Nat} (h : storeN c off vs = some c') : c'.length = c.length := by
  obtain ⟨rfl, h2⟩ := storeN_some h
  simp only [List.length_append, List.length_take, List.length_drop]; omega
/-- cells are written into a block -/
theorem cells_write {M : Mu} {s : St} {w : World} (H : HR M s.h w) (L : Li s) {b r o : Nat} {c c' vs vs' : List Value} {g : Option Nat} (hb : s.h.get b = some (.cells c g)) (hr : M.m b r)
    (hs : storeN c o vs = some c') (hv : LR M vs vs') (h1 : vs.all one = true) :
    ∃ w', (storeCells ⟨r, o, none⟩ vs').run P w = .ok () w' ∧ HR M (s.put b (.cells c' g)).h w' ∧ Ext M w s.n (s.put b (.cells c' g)).t M w' (s.put b (.cells c' g)).n ∧ Sx s (s.put b (.cells c' g)) ∧ Li (s.put b (.cells c' g)) := by
  obtain ⟨cur, e, h3, h4⟩ := H.cellsAt hb hr
  obtain ⟨e1, h5⟩ := storeN_some hs
  have hlen := storeN_len hs
  have hvl := hv.length
  have hcur := h4.le_take
  have hfit : o + vs'.length ≤ cur.toList.length := by omega
  have hst := run_storeCells_at (P := P) r o e vs' 0 cur w h3 (by simpa using hfit) (all_one (by rw [← hv.one_]; exact h1))
  simp only [Nat.add_zero] at hst
  have W : Wr w (w.setRow r (cur.toList.take o ++ vs' ++ cur.toList.drop (o + vs'.length)).toArray) r (.cells (cur.toList.take o ++ vs' ++ cur.toList.drop (o + vs'.length)).toArray e (0, 0)) :=
    ⟨rfl, rfl, rfl, by simp, setRow_heap w r cur _ e (0, 0) h3, fun h => setRow_other w r _ _ h⟩
  have hL : LR M c' ((cur.toList.take o ++ vs' ++ cur.toList.drop (o + vs'.length)).take c'.length) := by
    rw [hlen, splice_take _ _ _ _ (by omega) hcur, e1, ← hvl]
    exact ((h4.take o).append hv).append (h4.drop _)
  refine ⟨_, hst, put_sound H L hb hr W ?_⟩
  obtain ⟨o', h6, h7⟩ := H.at_ hb hr
  rw [h3] at h6
  cases h6
  cases g with
  | none => exact ⟨rfl, by simpa using hL⟩
  | some z =>
    obtain ⟨_, _, hz, C, hC, hsz⟩ := h7
    refine ⟨rfl, by simpa using hL, hz, C, hC, ?_⟩
    have : cur.toList.length = cur.size := by simp
    simp only [List.size_toArray, List.length_append, List.length_take, List.length_drop]
    omega
theorem astore_sound {cf : Cfg} (C : CfgOk P cf) {M : Mu} {s s' : St} {w : World} (H : HR M s.h w) (L : Li s) {t : TypeId} {a a' v v' : Value} (hv : astore cf s t a v = some s') (ha : VR M a a') (hvv : VR M v v') :
    ∃ w', (Instr.storeAt t a' v').run P w = .ok () w' ∧ HR M s'.h w' ∧ Ext M w s.n s'.t M w' s'.n ∧ Sx s s' ∧ Li s' := by
  unfold astore at hv
  split at hv
  case h_2 => cases hv
  rename_i ti b o ht hA
  split at hv
  case h_2 => cases hv
  rename_i c g hb
  cases asA_some hA
  obtain ⟨r, rfl, hr⟩ := ha.ptr_inv
  have T := C.ty ht
  cases hk : (Nat.beq v.cells.toList.length ti.size && v.cells.toList.all one) with
  | false => rw [hk] at hv; cases hv
  | true =>
    rw [hk] at hv
    simp only [cond, Option.map_eq_some_iff] at hv
    obtain ⟨c', hc, rfl⟩ := hv
    simp only [Bool.and_eq_true] at hk
    have hl := Nat.eq_of_beq_eq_true hk.1
    obtain ⟨w', h1, h2⟩ := cells_write (P := P) H L hb hr hc hvv.cells hk.2
    refine ⟨w', ?_, h2⟩
    have hsz : v'.cells.size = ti.size := by have := hvv.cells.length; rw [hl] at this; simpa using this.symm
    simp [Instr.storeAt, Instr.sureAddr, storeVar, T.sizeOf, hsz, h1]
theorem take_self {α : Type} (l : List α) : l.take l.length = l := List.take_length
/-- a new block of cells -/
theorem new_cells {M : Mu} {s : St} {w : World} (H : HR M s.h w) (L : Li s) (F : Fresh M s.n (s.n + 1)) (hsm : small s.n = true) (e : TypeId) {l l' : List Value} (hl : LR M l l') :
    Good M s w (.pointer (some ⟨s.n, 0, none⟩)) (s.new (.cells l none)) (M.add s.n w.heap.size none) (.pointer (some ⟨w.heap.size, 0, none⟩)) (w.alloc (.cells l'.toArray e)) := by
  have h := new_sound (o := .cells l none) none H L F hsm (Nw.alloc w (.cells l'.toArray e)) ⟨rfl, by
    simp only [List.toList_toArray, hl.length, take_self]; exact hl.mono (Mu.le_add _ _ _ _)⟩
  exact ⟨.ptr 0 (.inr ⟨rfl, rfl⟩), h.1, h.2.2.2, h.2.1, h.2.2.1⟩
theorem toArray_toList (a : Array Value) : a.toList.toArray = a := by simp
theorem oAlloc_sound {cf : Cfg} (C : CfgOk P cf) {M : Mu} {s s' : St} {w : World} (H : HR M s.h w) (L : Li s) {e : TypeId} {v : Value} (hv : oAlloc cf s e = some (.val v s')) (F : Fresh M s.n s'.n) :
    ∃ M' v' w', (Instr.alloc e true (.tuple #[])).run P w = .ok v' w' ∧ Good M s w v s' M' v' w' := by
  unfold oAlloc at hv
  split at hv
  case h_2 => cases hv
  rename_i te ht
  have T := C.ty ht
  cases hs : small s.n with
  | false => rw [hs] at hv; cases hv
  | true =>
    rw [hs] at hv
    simp only [cond, Option.some.injEq, Got.val.injEq] at hv
    obtain ⟨rfl, rfl⟩ := hv
    refine ⟨_, _, _, ?_, new_cells H L F hs e (scals_LR M T.zp)⟩
    simp only [Instr.alloc, Sem.run_bind, T.zero, Result.andThen_ok, newVar, newRow]
    rw [← T.zc]
    simp [newObj, Sem.run, World.alloc_eq]
theorem oBox_sound {M : Mu} {s s' : St} {w : World} (H : HR M s.h w) (L : Li s) (e : TypeId) {x x' v : Value} (hx : VR M x x') (hv : oBox s x = some (.val v s')) (F : Fresh M s.n s'.n) :
    ∃ M' v' w', (Instr.box e x').run P w = .ok v' w' ∧ Good M s w v s' M' v' w' := by
  unfold oBox at hv
  cases hs : small s.n with
  | false => rw [hs] at hv; cases hv
  | true =>
    rw [hs] at hv
    simp only [cond, Option.some.injEq, Got.val.injEq] at hv
    obtain ⟨rfl, rfl⟩ := hv
    refine ⟨_, _, _, ?_, new_cells H L F hs e hx.cells⟩
    simp [Instr.box, newVar, newRow, newObj, Sem.run, World.alloc_eq]
end Go.Proofs.YtecfnddaniphdaaGreatDoor.AM
