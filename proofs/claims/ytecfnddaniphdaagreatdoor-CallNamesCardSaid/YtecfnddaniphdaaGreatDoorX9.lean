/-
  The abstract machine: append.
-/
import Derived.Test.YtecfnddaniphdaaGreatDoorX8
set_option linter.unusedVariables false
set_option linter.unusedSimpArgs false
namespace Go.Proofs.YtecfnddaniphdaaGreatDoor.AM
variable {P : Program}

theorem drew_cell (w : World) (a : Addr) : w.drew.cell? a = w.cell? a := rfl
theorem firstA_sound {M : Mu} {s : St} {w : World} (H : HR M s.h w) {size n : Nat} {y y' : Value} {l : List Value} {a : Option Addr} {k c : Nat} (hy : VR M y y') (hs : y = .slice a k c) (hn : n ≤ k) (h : firstA s size n y = some l) (hl : l.length = n * size) :
    ∃ l', LR M l l' ∧ (Builtin.firstCells size n y').run P w = .ok l'.toArray w ∧ (Builtin.firstCells size n y').run P w.drew = .ok l'.toArray w.drew := by
  subst hs
  unfold firstA at h
  split at h
  · rename_i heq
    cases heq
    simp only [Option.some.injEq] at h
    subst h
    cases hy
    exact ⟨[], .nil, by simp [Builtin.firstCells], by simp [Builtin.firstCells]⟩
  · rename_i b o _ _ heq
    cases heq
    split at h
    · rename_i cs g hb
      obtain ⟨r, o', c', rfl, hr, ho⟩ := hy.slice_some
      obtain ⟨l', h1, h2, h3⟩ := H.cells hb hr h
      refine ⟨l', h1, ?_⟩
      have key : ∀ (j : Nat) (v : Value), l'[j]? = some v → w.cell? ((⟨r, o', none⟩ : Addr).add j) = some v := by
        intro j v hv
        rw [add_plain]
        have hj : j < l'.length := (List.getElem?_eq_some_iff.1 hv).1
        have : 0 < k := by
          rcases Nat.eq_zero_or_pos n with h0 | h0
          · subst h0; simp only [Nat.zero_mul] at h2; omega
          · omega
        rw [ho this]
        exact h3 j v hv
      exact ⟨run_firstCells_some w size n ⟨r, o', none⟩ k c' l' h2 key, run_firstCells_some w.drew size n ⟨r, o', none⟩ k c' l' h2 (fun j v hv => by rw [drew_cell]; exact key j v hv)⟩
    · cases h
  · cases h
theorem Nw.drew {w : World} {O : Obj} : Nw w (w.drew.alloc O) O :=
  let h := Nw.alloc w.drew O
  ⟨h.os, h.tape, h.output, h.size, h.at_, h.other⟩
theorem VR.grown0 {M : Mu} {b b' C z n : Nat} (h : M.m b b') (hc : M.c b C z) (hn : n ≤ C) : VR M (.slice (some ⟨b, 0, none⟩) n UNK) (.slice (some ⟨b', 0, none⟩) n C) := by
  have := VR.grown (M := M) (b := b) (b' := b') (C := C) (z := z) 0 n C h hc hn (by omega)
  simpa using this
/-- it grows: a new row -/
theorem append_grows {M : Mu} {s : St} {w : World} (H : HR M s.h w) (L : Li s) (F : Fresh M s.n (s.n + 1)) (hsm : small s.n = true) {t u e : TypeId} {te : TI} (T : TyOk P e te) (ht : P.underlying t = some (.slice e)) (hu : ∃ e', P.underlying u = some (.slice e')) (ty : TypeId)
    {base : Option Addr} {len cap n : Nat} {y' : Value} {old old' news news' : List Value} (hold : (Builtin.firstCells te.size len (.slice base len cap)).run P w.drew = .ok old'.toArray w.drew) (ho : LR M old old') (hn : LR M news news')
    (hlen : ∀ w' : World, (Builtin.lenOf y').run P w' = .ok n w') (hc1 : (Builtin.firstCells te.size n y').run P w = .ok news'.toArray w) (hc2 : (Builtin.firstCells te.size n y').run P w.drew = .ok news'.toArray w.drew)
    (hl1 : old.length = len * te.size) (hl2 : news.length = n * te.size) (h1 : news.all one = true) (hpos : 0 < te.size) (hbig : len + n ≤ 100000) (hby : te.bytes ≤ 1000) (hg : cap < len + n) :
    ∃ M' v' w', (Builtin.append_ #[t, u] ty #[.slice base len cap, y']).run P w = .ok v' w' ∧ Good M s w (.slice (some ⟨s.n, 0, none⟩) (len + n) UNK) (s.new (.cells (old ++ news) (some te.size))) M' v' w' := by
  obtain ⟨i, hi, hi1, hi2, hi3⟩ := T.info
  have hS : Src P i.size u y' n news' w := by
    rw [hi1]
    exact ⟨.inl hu, hlen, hc1, hc2, by rw [← hn.length]; exact hl2, all_one (by rw [← hn.one_]; exact h1)⟩
  have hfit : Builtin.nextslicecap (len + n) cap * i.bytes ≤ 281474976710656 := growslice_fits hg (by
    rw [hi2]
    have : (len + n) * te.bytes ≤ 100000 * 1000 := Nat.mul_le_mul hbig hby
    omega)
  have hr := run_append_grow_src (P := P) w t u ty e i te.zeroV ht hi hi3 base len cap old' (by rw [hi1]; exact hold) y' n news' hS hg (by omega) hfit
  have hz : te.zeroV.cells.size = te.size := by have := congrArg List.length T.zc; simpa [T.zl] using this
  have hge := grownCap_ge w (len + n) cap e
  have hol := ho.length
  have hnl := hn.length
  have hsize : ((old' ++ news').toArray ++ Builtin.zeroCells te.zeroV.cells (grownCap w (len + n) cap e - (len + n))).size = grownCap w (len + n) cap e * te.size := by
    simp only [Array.size_append, List.size_toArray, List.length_append, size_zeroCells, hz, ← hol, ← hnl, hl1, hl2, ← Nat.add_mul]
    congr 1; omega
  have g := new_sound (o := .cells (old ++ news) (some te.size)) (some (grownCap w (len + n) cap e, te.size)) H L F hsm (Nw.drew (w := w) (O := .cells ((old' ++ news').toArray ++ Builtin.zeroCells te.zeroV.cells (grownCap w (len + n) cap e - (len + n))) e)) ⟨rfl, by
    have : (((old' ++ news').toArray ++ Builtin.zeroCells te.zeroV.cells (grownCap w (len + n) cap e - (len + n))).toList.take (old ++ news).length) = old' ++ news' := by
      rw [Array.toList_append, List.toList_toArray, (show (old ++ news).length = (old' ++ news').length by simp [hol, hnl])]
      exact List.take_left
    rw [this]
    exact (ho.append hn).mono (Mu.le_add _ _ _ _), hpos, _, .inr ⟨rfl, rfl⟩, hsize⟩
  exact ⟨_, _, _, hr, ⟨VR.grown0 (Mu.add_m _ _ _ _) (.inr ⟨rfl, rfl⟩) hge, g.1, g.2.2.2, g.2.1, g.2.2.1⟩⟩
theorem append_fits {w w' : World} {t u e : TypeId} {te : TI} (T : TyOk P e te) (ht : P.underlying t = some (.slice e)) (hu : ∃ e', P.underlying u = some (.slice e')) (ty : TypeId) {r o len cap n : Nat} {y' : Value} {news' : List Value}
    (hlen : ∀ w' : World, (Builtin.lenOf y').run P w' = .ok n w') (hc1 : (Builtin.firstCells te.size n y').run P w = .ok news'.toArray w) (hroom : len + n ≤ cap) (hst : (storeCells ⟨r, o + len * te.size, none⟩ news').run P w = .ok () w') :
    (Builtin.append_ #[t, u] ty #[.slice (some ⟨r, o, none⟩) len cap, y']).run P w = .ok (.slice (some ⟨r, o, none⟩) (len + n) cap) w' := by
  obtain ⟨e', hu⟩ := hu
  simp [Builtin.append_, run_underlying ht, run_underlying hu, T.sizeOf, hlen, hroom, hc1, add_plain, hst]
theorem append_nil {w : World} {t u e : TypeId} {te : TI} (T : TyOk P e te) (ht : P.underlying t = some (.slice e)) (hu : ∃ e', P.underlying u = some (.slice e')) (ty : TypeId) {len cap n : Nat} {y' : Value} {news' : List Value}
    (hlen : ∀ w' : World, (Builtin.lenOf y').run P w' = .ok n w') (hc1 : (Builtin.firstCells te.size n y').run P w = .ok news'.toArray w) (hroom : len + n ≤ cap) :
    (Builtin.append_ #[t, u] ty #[.slice none len cap, y']).run P w = .ok (.slice none (len + n) cap) w := by
  obtain ⟨e', hu⟩ := hu
  simp [Builtin.append_, run_underlying ht, run_underlying hu, T.sizeOf, hlen, hroom, hc1]
theorem lenOf_slice {M : Mu} {a : Option Addr} {n c : Nat} {y' : Value} (hy : VR M (.slice a n c) y') (w : World) : (Builtin.lenOf y').run P w = .ok n w := by
  obtain ⟨a', c', rfl, _⟩ := hy.slice_inv
  simp [Builtin.lenOf]
end Go.Proofs.YtecfnddaniphdaaGreatDoor.AM
