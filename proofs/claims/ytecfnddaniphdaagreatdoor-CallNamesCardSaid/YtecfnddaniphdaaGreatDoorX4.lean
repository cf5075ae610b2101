/-
  The abstract machine: structs and slices that are written out, fields, elements.
-/
import Derived.Test.YtecfnddaniphdaaGreatDoorX3
import Derived.Laws.StructEq
set_option linter.unusedVariables false
set_option linter.unusedSimpArgs false
namespace Go.Proofs.YtecfnddaniphdaaGreatDoor.AM
variable {P : Program}

/-! ### fill -/
theorem foldl_set : ∀ (vs : List Value) (cells : Array Value) (off k : Nat), off + k + vs.length ≤ cells.size →
    ((vs.zipIdx k).foldl (fun cs (p : Value × Nat) => cs.setIfInBounds (off + p.2) p.1) cells).toList = cells.toList.take (off + k) ++ vs ++ cells.toList.drop (off + k + vs.length)
  | [], cells, off, k, h => by simp
  | v :: vs, cells, off, k, h => by
    simp only [List.zipIdx_cons, List.foldl_cons]
    rw [foldl_set vs _ off (k + 1) (by simp at h ⊢; omega)]
    simp only [Array.toList_setIfInBounds, List.length_cons]
    have hlt : off + k < cells.toList.length := by simp at h ⊢; omega
    apply List.ext_getElem?
    intro i
    simp only [List.getElem?_append, List.getElem?_take, List.length_take, List.length_set, List.getElem?_drop, List.getElem?_set, List.length_append, List.length_cons, Array.length_toList, List.getElem?_cons]
    have hs : cells.toList.length = cells.size := by simp
    simp only [List.length_cons] at h
    by_cases h1 : i < off + k
    · have a1 : i < off + (k + 1) := by omega
      have a2 : i < min (off + (k + 1)) cells.size := by omega
      have a3 : i < min (off + k) cells.size := by omega
      have a4 : i < min (off + (k + 1)) cells.size + vs.length := by omega
      have a5 : i < min (off + k) cells.size + (vs.length + 1) := by omega
      have a6 : ¬ off + k = i := by omega
      simp [a1, a2, a3, a4, a5, a6, h1]
    · by_cases h2 : i = off + k
      · subst h2
        have a2 : off + k < min (off + (k + 1)) cells.size := by omega
        have a3 : ¬ off + k < min (off + k) cells.size := by omega
        have a4 : off + k < min (off + (k + 1)) cells.size + vs.length := by omega
        have a5 : off + k < min (off + k) cells.size + (vs.length + 1) := by omega
        have a7 : off + k - min (off + k) cells.size = 0 := by omega
        have a8 : off + k < cells.size := by omega
        simp [a2, a3, a4, a5, a7, a8]
      · have a2 : ¬ i < min (off + (k + 1)) cells.size := by omega
        have a3 : ¬ i < min (off + k) cells.size := by omega
        by_cases h3 : i < off + k + 1 + vs.length
        · have a4 : i < min (off + (k + 1)) cells.size + vs.length := by omega
          have a5 : i < min (off + k) cells.size + (vs.length + 1) := by omega
          have a7 : i - min (off + k) cells.size = (i - min (off + (k + 1)) cells.size) + 1 := by omega
          simp [a2, a3, a4, a5, a7]
        · have a4 : ¬ i < min (off + (k + 1)) cells.size + vs.length := by omega
          have a5 : ¬ i < min (off + k) cells.size + (vs.length + 1) := by omega
          have a6 : off + (k + 1) + vs.length + (i - (min (off + (k + 1)) cells.size + vs.length)) = i := by omega
          have a7 : off + k + (vs.length + 1) + (i - (min (off + k) cells.size + (vs.length + 1))) = i := by omega
          have a8 : ¬ off + k = i := by omega
          simp [a2, a3, a4, a5, a6, a7, a8]
theorem zip_foldl (v cells : Array Value) (off : Nat) (h : off + v.size ≤ cells.size) :
    (v.zipIdx.foldl (fun cs (c, j) => cs.setIfInBounds (off + j) c) cells).toList = cells.toList.take off ++ v.toList ++ cells.toList.drop (off + v.toList.length) := by
  have := foldl_set v.toList cells off 0 (by simpa using h)
  simp only [Nat.add_zero] at this
  rw [← this, ← Array.foldl_toList, Array.toList_zipIdx]
/-- parts -/
inductive PR (M : Mu) : List (Nat × Value) → List (Nat × Value) → Prop
  | nil : PR M [] []
  | cons {i : Nat} {v v' : Value} {l l' : List (Nat × Value)} (h : VR M v v') (t : PR M l l') : PR M ((i, v) :: l) ((i, v') :: l')
theorem fill_sound {M : Mu} {pl pl' : Nat → Option (Nat × Nat)} (hp : ∀ i x, pl i = some x → pl' i = some x) : ∀ {ps ps' : List (Nat × Value)} {cells : List Value} {cells' : Array Value} {c : List Value}, PR M ps ps' → LR M cells cells'.toList → fillA pl cells ps = some c →
    ∃ c', Instr.fill pl' cells' ps' = some c' ∧ LR M c c'.toList
  | _, _, cells, cells', c, .nil, hc, h => by
    simp only [fillA, Option.some.injEq] at h
    subst h
    exact ⟨cells', rfl, hc⟩
  | _, _, cells, cells', c, .cons (i := i) (v := v) (v' := v') hv t, hc, h => by
    simp only [fillA] at h
    split at h
    · cases h
    · rename_i off size hi
      split at h
      · cases h
      · rename_i c1 h1
        cases hb : Nat.beq v.cells.toList.length size with
        | false => rw [hb] at h1; cases h1
        | true =>
          rw [hb] at h1
          simp only [cond] at h1
          obtain ⟨e1, h2⟩ := storeN_some h1
          have hl := hv.cells.length
          have hsz := Nat.eq_of_beq_eq_true hb
          have hcl := hc.length
          have q1 : v'.cells.size = size := by simp at hl hsz; omega
          have q2 : cells'.size = cells.length := by simpa using hcl.symm
          have hz := zip_foldl v'.cells cells' off (by simp at hl hsz h2; omega)
          obtain ⟨c', h3, h4⟩ := fill_sound hp (cells' := v'.cells.zipIdx.foldl (fun cs (c, j) => cs.setIfInBounds (off + j) c) cells') t (by
            rw [hz, e1, ← hl]; exact ((hc.take off).append hv.cells).append (hc.drop _)) h
          refine ⟨c', ?_, h4⟩
          simp only [Instr.fill, hp _ _ hi, q1, q2]
          have q4 : ¬ (off + size > cells.length) := by simp at hsz h2; omega
          simp only [ne_eq, not_true_eq_false, decide_false, Bool.false_or, decide_eq_true_eq, q4, if_false]
          exact h3
theorem mapM_places {P : Program} {w : World} : ∀ (fs : List Field), (∀ f ∈ fs, (P.info? f.type).isSome = true) →
    (fs.mapM (m := Sem) fun f => do pure (f.offset, ← Go.sizeOf f.type)).run P w = .ok (fs.map fun f => (f.offset, P.cellsOf f.type)) w
  | [], _ => by simp
  | f :: fs, h => by
    obtain ⟨i, hi⟩ := Option.isSome_iff_exists.1 (h f (by simp))
    have ih := mapM_places (w := w) fs (fun g hg => h g (by simp [hg]))
    have hs : (Go.sizeOf f.type).run P w = .ok (P.cellsOf f.type) w := by simp [Go.sizeOf, Go.typeInfo, hi, Program.cellsOf]
    simp only [List.mapM_cons, Sem.run_bind, hs, Result.andThen_ok, Sem.run_pure, ih, List.map_cons]
theorem part_sound {t : TypeId} {ti : TI} (T : TyOk P t ti) {M : Mu} {w : World} {cs : List Value} {cs' : Array Value} {off : Nat} {v : Value} (hc : LR M cs cs'.toList)
    (h : cond ti.agg ((loadN cs off ti.size).map fun l => .agg ⟨l⟩) cs[off]? = some v) : ∃ v', (part t cs' off).run P w = .ok v' w ∧ VR M v v' := by
  cases hagg : ti.agg with
  | true =>
    rw [hagg] at h
    simp only [cond, Option.map_eq_some_iff] at h
    obtain ⟨l, hl, rfl⟩ := h
    obtain ⟨rfl, _⟩ := loadN_some hl
    refine ⟨.agg (cs'.extract off (off + ti.size)), by simp [part, T.isAgg, hagg, T.sizeOf], .agg ?_⟩
    simp only [Array.toList_extract, List.extract_eq_take_drop, Nat.add_sub_cancel_left]
    exact (hc.drop off).take _
  | false =>
    rw [hagg] at h
    simp only [cond] at h
    obtain ⟨v', h1, h2⟩ := hc.get h
    have h3 : cs'[off]? = some v' := by simpa using h1
    exact ⟨v', by simp [part, T.isAgg, hagg, h3], h2⟩
theorem VR.agg_inv {M : Mu} {cs : Array Value} {v' : Value} (h : VR M (.agg cs) v') : ∃ cs', v' = .agg cs' ∧ LR M cs.toList cs'.toList := by
  cases h with
  | agg ha => exact ⟨_, rfl, ha⟩
theorem VR.int_inv {M : Mu} {k : IntKind} {n : Int} {v' : Value} (h : VR M (.int k n) v') : v' = .int k n := by cases h; rfl
theorem VR.bool_inv {M : Mu} {b : Bool} {v' : Value} (h : VR M (.bool b) v') : v' = .bool b := by cases h; rfl
theorem struct_at {t : TypeId} {fs : List (Nat × TypeId)} (K : KOk P t (.struct fs)) {f off : Nat} {e : TypeId} (h : fs[f]? = some (off, e)) :
    ∃ (fields : Array Field) (fd : Field), P.underlying t = some (.struct fields) ∧ fields[f]? = some fd ∧ fd.offset = off ∧ fd.type = e := by
  obtain ⟨fields, h1, h2, _⟩ := K
  rw [← h2, List.getElem?_map, Option.map_eq_some_iff] at h
  obtain ⟨fd, h3, h4⟩ := h
  simp only [Prod.mk.injEq] at h4
  exact ⟨fields, fd, h1, by simpa using h3, h4.1, h4.2⟩
theorem fieldA_sound {cf : Cfg} (C : CfgOk P cf) {M : Mu} {w : World} {t : TypeId} {x x' v : Value} {f : Nat} (hx : VR M x x') (h : fieldA cf t x f = some v) :
    ∃ v', (Instr.field t x' f).run P w = .ok v' w ∧ VR M v v' := by
  unfold fieldA at h
  split at h
  case h_2 => cases h
  rename_i fs cs hk
  split at h
  case h_2 => cases h
  rename_i off e hf
  split at h
  case h_2 => cases h
  rename_i te ht
  obtain ⟨fields, fd, h1, h2, rfl, rfl⟩ := struct_at (C.kd hk) hf
  obtain ⟨cs', rfl, hc⟩ := hx.agg_inv
  obtain ⟨v', h3, h4⟩ := part_sound (C.ty ht) (w := w) hc h
  exact ⟨v', by simp [Instr.field, run_underlying h1, h2, asAgg, h3], h4⟩
theorem fieldAddrA_sound {cf : Cfg} (C : CfgOk P cf) {M : Mu} {w : World} {t : TypeId} {x x' v : Value} {f : Nat} (hx : VR M x x') (h : fieldAddrA cf t x f = some v) :
    ∃ v', (Instr.fieldAt t x' f).run P w = .ok v' w ∧ VR M v v' := by
  unfold fieldAddrA at h
  split at h
  case h_2 => cases h
  rename_i fs b o hk hA
  split at h
  case h_2 => cases h
  rename_i off e hf
  split at h
  case h_2 => cases h
  rename_i te ht
  cases hz : Nat.blt 0 te.size with
  | false => rw [hz] at h; cases h
  | true =>
    rw [hz] at h
    simp only [cond, Option.some.injEq] at h
    subst h
    cases asA_some hA
    obtain ⟨r, rfl, hr⟩ := hx.ptr_inv
    obtain ⟨fields, fd, h1, h2, rfl, rfl⟩ := struct_at (C.kd hk) hf
    have hne : te.size ≠ 0 := by have := Nat.blt_eq.mp hz; omega
    refine ⟨.pointer (some ⟨r, o + fd.offset, none⟩), ?_, .ptr _ hr⟩
    simp [Instr.fieldAt, run_underlying h1, h2, Instr.sureAddr, fieldPlace, (C.ty ht).sizeOf, hne, add_plain]
theorem VR.slice_some {M : Mu} {b o n c : Nat} {v' : Value} (h : VR M (.slice (some ⟨b, o, none⟩) n c) v') : ∃ r o' c', v' = .slice (some ⟨r, o', none⟩) n c' ∧ M.m b r ∧ (0 < n → o' = o) := by
  cases h with
  | slice o n c h hc => exact ⟨_, _, _, rfl, h, fun _ => rfl⟩
  | grown l n c h hc hn hC => exact ⟨_, _, _, rfl, h, fun _ => rfl⟩
  | empty o o' c h => exact ⟨_, _, _, rfl, h, fun h => by omega⟩
theorem indexAddrA_sound {cf : Cfg} (C : CfgOk P cf) {M : Mu} {w : World} {t : TypeId} {x x' i i' v : Value} (hx : VR M x x') (hi : VR M i i') (h : indexAddrA cf t x i = some v) :
    ∃ v', (Instr.indexAt t x' i').run P w = .ok v' w ∧ VR M v v' := by
  unfold indexAddrA at h
  split at h
  case h_3 => cases h
  case h_1 =>
    rename_i len e b o k n hk
    split at h
    case h_2 => cases h
    rename_i te ht
    split at h
    case isFalse => cases h
    rename_i hn
    simp only [Option.some.injEq] at h
    subst h
    cases hi.int_inv
    obtain ⟨r, rfl, hr⟩ := hx.ptr_inv
    have hu : P.underlying t = some (.array len e) := C.kd hk
    refine ⟨.pointer (some ⟨r, o + n.toNat * te.size, none⟩), ?_, .ptr _ hr⟩
    simp [Instr.indexAt, asIntOf, run_underlying hu, Instr.sureAddr, hn, (C.ty ht).sizeOf, add_plain]
  case h_2 =>
    rename_i e b o len c k n hk
    split at h
    case h_2 => cases h
    rename_i te ht
    split at h
    case isFalse => cases h
    rename_i hn
    simp only [Option.some.injEq] at h
    subst h
    cases hi.int_inv
    obtain ⟨r, o', c', rfl, hr, ho⟩ := hx.slice_some
    cases ho (by omega)
    have hu : P.underlying t = some (.slice e) := C.kd hk
    refine ⟨.pointer (some ⟨r, o + n.toNat * te.size, none⟩), ?_, .ptr _ hr⟩
    simp [Instr.indexAt, asIntOf, run_underlying hu, hn, (C.ty ht).sizeOf, add_plain]
theorem indexA_sound {cf : Cfg} (C : CfgOk P cf) {M : Mu} {w : World} {t : TypeId} {x x' i i' v : Value} (hx : VR M x x') (hi : VR M i i') (h : indexA cf t x i = some v) :
    ∃ v', (Instr.index t x' i').run P w = .ok v' w ∧ VR M v v' := by
  unfold indexA at h
  split at h
  case h_2 => cases h
  rename_i len e cs k n hk
  split at h
  case h_2 => cases h
  rename_i te ht
  split at h
  case isFalse => cases h
  rename_i hn
  cases hi.int_inv
  obtain ⟨cs', rfl, hc⟩ := hx.agg_inv
  have hu : P.underlying t = some (.array len e) := C.kd hk
  obtain ⟨v', h3, h4⟩ := part_sound (C.ty ht) (w := w) hc h
  exact ⟨v', by simp [Instr.index, asIntOf, run_underlying hu, hn, (C.ty ht).sizeOf, h3], h4⟩
theorem zerosA_len {te : TI} (h : te.zero.length = te.size) : ∀ n, (zerosA te n).length = n * te.size
  | 0 => by simp [zerosA]
  | n + 1 => by rw [zerosA, List.length_append, h, zerosA_len h n, Nat.succ_mul]; omega
theorem zerosA_get {te : TI} (h : te.zero.length = te.size) (hp : 0 < te.size) : ∀ (n i : Nat), i < n * te.size → (zerosA te n)[i]? = te.zero[i % te.size]?
  | 0, i, hi => by simp at hi
  | n + 1, i, hi => by
    rw [zerosA]
    by_cases hlt : i < te.size
    · rw [List.getElem?_append_left (by omega), Nat.mod_eq_of_lt hlt]
    · rw [List.getElem?_append_right (by omega), h, zerosA_get h hp n (i - te.size) (by rw [Nat.succ_mul] at hi; omega)]
      have e : i % te.size = (i - te.size) % te.size := Nat.mod_eq_sub_mod (by omega)
      rw [e]
theorem zerosA_scal {te : TI} (h : te.zero.all scal = true) : ∀ n, (zerosA te n).all scal = true
  | 0 => rfl
  | n + 1 => by rw [zerosA, List.all_append, h, zerosA_scal h n]; rfl
/-- the model's row of zero values -/
theorem zeros_real {te : TI} {z : Array Value} (hz : z.toList = te.zero) (hl : te.zero.length = te.size) (hp : 0 < te.size) (n : Nat) :
    ((Array.range (n * te.size)).map (fun i => z[i % z.size]!)).toList = zerosA te n := by
  have hs : z.size = te.size := by rw [← hl, ← hz]; simp
  apply List.ext_getElem?
  intro i
  by_cases hi : i < n * te.size
  · rw [zerosA_get hl hp n i hi]
    have hm : i % te.size < z.size := by rw [hs]; exact Nat.mod_lt _ hp
    have : te.zero[i % te.size]? = some z[i % te.size] := by rw [← hz]; simp [hm]
    rw [this]
    simp [hi, hs]
    exact getElem!_pos z _ hm
  · rw [List.getElem?_eq_none (by simp; omega), List.getElem?_eq_none (by rw [zerosA_len hl]; omega)]
theorem buildA_sound {cf : Cfg} (C : CfgOk P cf) {M : Mu} {w : World} {t : TypeId} {ps : List (Nat × Value)} {ps' : Array (Nat × Value)} {v : Value} (hp : PR M ps ps'.toList) (h : buildA cf t ps = some v) :
    ∃ v', (Instr.build t ps').run P w = .ok v' w ∧ VR M v v' := by
  unfold buildA at h
  split at h
  case h_2 => cases h
  rename_i ti ht
  have T := C.ty ht
  have hz : LR M ti.zero ti.zeroV.cells.toList := by rw [T.zc]; exact scals_LR M T.zp
  split at h
  case h_3 => cases h
  case h_1 =>
    rename_i fs hk
    simp only [Option.map_eq_some_iff] at h
    obtain ⟨c, hc, rfl⟩ := h
    have K := T.k
    rw [hk] at K
    obtain ⟨fields, h1, h2, h3, _⟩ := K
    obtain ⟨c', h4, h5⟩ := fill_sound (M := M) (pl' := fun i => (fields.map fun f => (f.offset, P.cellsOf f.type))[i]?) (fun i x hx => by
      split at hx
      · rename_i off e hi
        simp only [Option.map_eq_some_iff] at hx
        obtain ⟨te, h6, rfl⟩ := hx
        rw [← h2, List.getElem?_map, Option.map_eq_some_iff] at hi
        obtain ⟨fd, h7, h8⟩ := hi
        simp only [Prod.mk.injEq] at h8
        obtain ⟨rfl, rfl⟩ := h8
        obtain ⟨i0, h9, h10, _⟩ := (C.ty h6).info
        have : fields[i]? = some fd := by simpa using h7
        simp [this, Program.cellsOf, h9, h10]
      · cases hx) hp hz hc
    refine ⟨.agg c', ?_, .agg h5⟩
    have hm := mapM_places (P := P) (w := w) fields.toList (fun f hf => (h3 f hf).1)
    have hm' : (fields.mapM (m := Sem) fun f => do pure (f.offset, ← Go.sizeOf f.type)).run P w = .ok (fields.map fun f => (f.offset, P.cellsOf f.type)) w := by
      rw [Array.mapM_eq_mapM_toList, Sem.run_map, hm]
      simp only [Result.andThen]
      congr 1
      apply Array.ext'
      simp
    simp only [Instr.build, Sem.run_bind, T.zero, Result.andThen_ok, run_underlying h1, hm', h4, Sem.run_pure]
  case h_2 =>
    rename_i n e hk
    split at h
    case h_2 => cases h
    rename_i te hte
    simp only [Option.map_eq_some_iff] at h
    obtain ⟨c, hc, rfl⟩ := h
    have K := T.k
    rw [hk] at K
    have hu : P.underlying t = some (.array n e) := K
    obtain ⟨c', h4, h5⟩ := fill_sound (M := M) (pl' := fun i => some (i * te.size, te.size)) (fun i x hx => hx) hp hz hc
    exact ⟨.agg c', by simp only [Instr.build, Sem.run_bind, T.zero, Result.andThen_ok, run_underlying hu, (C.ty hte).sizeOf, h4, Sem.run_pure], .agg h5⟩
theorem buildSliceA_sound {cf : Cfg} (C : CfgOk P cf) {M : Mu} {s s' : St} {w : World} (H : HR M s.h w) (L : Li s) {t : TypeId} {n : Nat} {ps : List (Nat × Value)} {ps' : Array (Nat × Value)} {v : Value} (hp : PR M ps ps'.toList)
    (h : buildSliceA cf s t n ps = some (v, s')) (F : Fresh M s.n s'.n) : ∃ M' v' w', (Instr.buildSlice t n ps').run P w = .ok v' w' ∧ Good M s w v s' M' v' w' := by
  unfold buildSliceA at h
  split at h
  case h_2 => cases h
  rename_i e hk
  split at h
  case h_2 => cases h
  rename_i te hte
  have T := C.ty hte
  cases hc : (Nat.blt 0 te.size && Nat.ble (n * te.size) 100000 && small s.n) with
  | false => rw [hc] at h; cases h
  | true =>
    rw [hc] at h
    simp only [cond, Option.map_eq_some_iff, Prod.mk.injEq] at h
    simp only [Bool.and_eq_true] at hc
    obtain ⟨⟨h0, h1⟩, h2⟩ := hc
    obtain ⟨c, h3, rfl, rfl⟩ := h
    have hpos : 0 < te.size := Nat.blt_eq.mp h0
    have hle : n * te.size ≤ 100000 := Nat.le_of_ble_eq_true h1
    have hu : P.underlying t = some (.slice e) := C.kd hk
    have hn : n < UNK := by
      have : n ≤ n * te.size := Nat.le_mul_of_pos_right n hpos
      unfold UNK; omega
    by_cases h00 : n * te.size = 0
    · have hn0 : n = 0 := by rcases Nat.mul_eq_zero.1 h00 with h | h <;> omega
      subst hn0
      obtain ⟨c', h4, h5⟩ := fill_sound (M := M) (pl' := fun i => some (i * te.size, te.size)) (cells' := #[]) (fun i x hx => hx) hp (by simp [zerosA]; exact .nil) h3
      have e0 : ∀ f : Nat → Value, (Array.range (0 * te.size)).map f = #[] := fun f => by rw [Nat.zero_mul]; apply Array.ext'; simp
      have g := new_cells H L F h2 e h5
      rw [toArray_toList] at g
      refine ⟨_, _, _, ?_, ⟨.slice 0 0 0 (Mu.add_m _ _ _ _) hn, g.hr, g.li, g.ext, g.sx⟩⟩
      have : ¬ (0 * te.size > 2 ^ 24) := by simp
      simp only [Instr.buildSlice, Sem.run_bind, run_underlying hu, Result.andThen_ok, T.sizeOf, this, if_false, h00, if_true, Sem.run_pure, e0, h4, newRow, newObj]
      simp only [h00] at e0
      simp [Sem.run, World.alloc_eq, e0, h4]
    · have hz : ((Array.range (n * te.size)).map (fun i => te.zeroV.cells[i % te.zeroV.cells.size]!)).toList = zerosA te n := zeros_real T.zc T.zl hpos n
      obtain ⟨c', h4, h5⟩ := fill_sound (M := M) (pl' := fun i => some (i * te.size, te.size)) (cells' := (Array.range (n * te.size)).map (fun i => te.zeroV.cells[i % te.zeroV.cells.size]!)) (fun i x hx => hx) hp (by
        rw [hz]; exact scals_LR M (zerosA_scal T.zp n)) h3
      have g := new_cells H L F h2 e h5
      rw [toArray_toList] at g
      refine ⟨_, _, _, ?_, ⟨.slice 0 n n (Mu.add_m _ _ _ _) hn, g.hr, g.li, g.ext, g.sx⟩⟩
      have : ¬ (n * te.size > 2 ^ 24) := by omega
      simp only [Instr.buildSlice, Sem.run_bind, run_underlying hu, Result.andThen_ok, T.sizeOf, this, if_false, h00, T.zero, Sem.run_pure, h4, newRow, newObj]
      simp [Sem.run, World.alloc_eq]
end Go.Proofs.YtecfnddaniphdaaGreatDoor.AM
