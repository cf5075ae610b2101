/-
  The abstract machine: append, copy, clear.
-/
import Derived.Test.YtecfnddaniphdaaGreatDoorX9
set_option linter.unusedVariables false
set_option linter.unusedSimpArgs false
namespace Go.Proofs.YtecfnddaniphdaaGreatDoor.AM
variable {P : Program}

theorem appendA_sound {cf : Cfg} (C : CfgOk P cf) {M : Mu} {s s' : St} {w : World} (H : HR M s.h w) (L : Li s) {t u : TypeId} (ty : TypeId) {x x' y y' v : Value} (hx : VR M x x') (hy : VR M y y')
    (h : appendA cf s t u x y = some (v, s')) (F : Fresh M s.n s'.n) : ∃ M' v' w', (Builtin.append_ #[t, u] ty #[x', y']).run P w = .ok v' w' ∧ Good M s w v s' M' v' w' := by
  unfold appendA at h
  split at h
  case h_2 => cases h
  rename_i e e2 base len cap yb n yc hk hk2
  split at h
  case h_2 => cases h
  rename_i te news hte hnews
  have T := C.ty hte
  have ht : P.underlying t = some (.slice e) := C.kd hk
  have hu : ∃ e', P.underlying u = some (.slice e') := ⟨_, C.kd hk2⟩
  have hszd : szd cf e = te.size := by simp [szd, hte]
  rw [hszd] at hnews
  cases hcd : (Nat.blt 0 te.size && small s.n && Nat.ble (len + n) 100000 && Nat.ble te.bytes 1000 && news.all one && Nat.beq news.length (n * te.size)) with
  | false => rw [hcd] at h; cases h
  | true =>
    rw [hcd] at h
    simp only [cond] at h
    simp only [Bool.and_eq_true] at hcd
    obtain ⟨⟨⟨⟨⟨h0, hsm⟩, h2⟩, h3⟩, h1⟩, h4⟩ := hcd
    have hpos := Nat.blt_eq.mp h0
    have hbig := Nat.le_of_ble_eq_true h2
    have hby := Nat.le_of_ble_eq_true h3
    have hnl := Nat.eq_of_beq_eq_true h4
    obtain ⟨news', hn, hc1, hc2⟩ := firstA_sound (P := P) H hy rfl (Nat.le_refl n) hnews hnl
    have hlen := lenOf_slice (P := P) hy
    have hnl' : news'.length = n * te.size := by rw [← hn.length]; exact hnl
    cases hunk : Nat.beq cap UNK with
    | true =>
      rw [hunk] at h
      simp only [cond] at h
      have e1 := Nat.eq_of_beq_eq_true hunk
      subst e1
      split at h
      case h_2 => cases h
      rename_i b
      split at h
      case h_2 => cases h
      rename_i c g hb
      cases hcc : (Nat.beq g te.size && Nat.beq (c.take (len * te.size)).length (len * te.size)) with
      | false => rw [hcc] at h; cases h
      | true =>
        rw [hcc] at h
        simp only [cond] at h
        simp only [Bool.and_eq_true] at hcc
        have eg := Nat.eq_of_beq_eq_true hcc.1
        have etk := Nat.eq_of_beq_eq_true hcc.2
        subst eg
        obtain ⟨r, Cc, z, l0, cp, rfl, ho, hr, hC, hnc, hlc⟩ := hx.unk
        obtain ⟨cur, ee, hcur, hLc⟩ := H.cellsAt hb hr
        obtain ⟨o', h5, h6⟩ := H.at_ hb hr
        rw [hcur] at h5
        cases h5
        obtain ⟨_, _, hz, C', hC', hcs⟩ := h6
        obtain ⟨rfl, rfl⟩ := H.fc hC hC'
        have hl0 : l0 = 0 := by rcases Nat.mul_eq_zero.1 ho.symm with h | h <;> omega
        subst hl0
        have hcp : cp = Cc := by omega
        subst hcp
        rw [← ho]
        have hcle := hLc.le_take
        have hcur2 : cur.toList.length = cp * te.size := by simpa using hcs
        cases hin : Nat.ble ((len + n) * te.size) c.length with
        | true =>
          rw [hin] at h
          simp only [cond, Option.map_eq_some_iff, Prod.mk.injEq] at h
          obtain ⟨c', hst, rfl, rfl⟩ := h
          have hle := Nat.le_of_ble_eq_true hin
          have hroom : len + n ≤ cp := by
            have : (len + n) * te.size ≤ cp * te.size := by omega
            exact Nat.le_of_mul_le_mul_right this hpos
          obtain ⟨w', hw, hH, hE, hS, hLi⟩ := cells_write (P := P) H L hb hr hst hn h1
          exact ⟨M, _, w', append_fits T ht hu ty hlen hc1 hroom (by simpa using hw), ⟨VR.grown0 hr hC hroom, hH, hLi, hE, hS⟩⟩
        | false =>
          rw [hin] at h
          simp only [cond, Option.some.injEq, Prod.mk.injEq] at h
          obtain ⟨rfl, rfl⟩ := h
          have hlt : len * te.size ≤ c.length := by rw [List.length_take] at etk; omega
          by_cases hroom : len + n ≤ cp
          · have hfit : len * te.size + news'.length ≤ cur.size := by
              rw [hnl', hcs, ← Nat.add_mul]; exact Nat.mul_le_mul_right _ hroom
            have hst := run_storeCells_at (P := P) r (len * te.size) ee news' 0 cur w hcur (by simpa using hfit) (all_one (by rw [← hn.one_]; exact h1))
            simp only [Nat.add_zero] at hst
            have W : Wr w (w.setRow r (cur.toList.take (len * te.size) ++ news' ++ cur.toList.drop (len * te.size + news'.length)).toArray) r (.cells (cur.toList.take (len * te.size) ++ news' ++ cur.toList.drop (len * te.size + news'.length)).toArray ee (0, 0)) :=
              ⟨rfl, rfl, rfl, by simp, setRow_heap w r cur _ ee (0, 0) hcur, fun h => setRow_other w r _ _ h⟩
            have hrow : LR M (c.take (len * te.size) ++ news) (cur.toList.take (len * te.size) ++ news') := by
              refine LR.append ?_ hn
              have := hLc.take (len * te.size)
              rw [List.take_take, Nat.min_eq_left hlt] at this
              exact this
            have g := moved_sound (o' := .cells (c.take (len * te.size) ++ news) (some te.size)) (some (cp, te.size)) H L F hsm hb hr W ⟨rfl, by
              rw [List.toList_toArray, hrow.length]
              rw [List.take_left']
              · exact hrow.mono (Mu.le_add _ _ _ _)
              · rfl, hpos, cp, .inr ⟨rfl, rfl⟩, by
              simp only [List.size_toArray, List.length_append, List.length_take, List.length_drop]
              simp only [Array.length_toList] at hcur2 ⊢
              omega⟩
            exact ⟨_, _, _, append_fits T ht hu ty hlen hc1 hroom (by simpa using hst), ⟨VR.grown0 (Mu.add_m _ _ _ _) (.inr ⟨rfl, rfl⟩) hroom, g.1, g.2.2.2, g.2.1, g.2.2.1⟩⟩
          · have hsb := (L (b := b) (by rw [hb]; rfl)).2
            have hold : LR M (c.take (len * te.size)) (cur.toList.take (len * te.size)) := by
              have := hLc.take (len * te.size)
              rw [List.take_take, Nat.min_eq_left hlt] at this
              exact this
            have hcell : ∀ (j : Nat) (v : Value), (cur.toList.take (len * te.size))[j]? = some v → w.cell? ((⟨r, 0, none⟩ : Addr).add j) = some v := by
              intro j v hv
              rw [add_plain, Nat.zero_add]
              rw [List.getElem?_take] at hv
              split at hv
              · simpa [World.cell?, hcur] using hv
              · cases hv
            have hfc := run_firstCells_some (P := P) w.drew te.size len ⟨r, 0, none⟩ len cp (cur.toList.take (len * te.size)) (by rw [← hold.length]; exact etk) (fun j v hv => by rw [drew_cell]; exact hcell j v hv)
            obtain ⟨M', v', w', hrun, G⟩ := append_grows (s := s.kill b) (kill_hr H hsb) (kill_li L hsb) F hsm T ht hu ty hfc hold hn hlen hc1 hc2 etk hnl h1 hpos hbig hby (by omega)
            exact ⟨M', v', w', hrun, ⟨G.vr, G.hr, G.li, G.ext, (kill_sx hsb).trans G.sx⟩⟩
    | false =>
      rw [hunk] at h
      simp only [cond] at h
      cases hkn : Nat.blt cap UNK with
      | false => rw [hkn] at h; cases h
      | true =>
        rw [hkn] at h
        simp only [cond] at h
        have hcapk := Nat.blt_eq.mp hkn
        obtain ⟨base', rfl, hb1, hb2, hb3⟩ := hx.known hcapk
        cases hrm : Nat.ble (len + n) cap with
        | true =>
          rw [hrm] at h
          simp only [cond] at h
          have hroom := Nat.le_of_ble_eq_true hrm
          split at h
          · cases hb2 rfl
            cases hn0 : Nat.beq n 0 with
            | false => rw [hn0] at h; cases h
            | true =>
              rw [hn0] at h
              simp only [cond, Option.some.injEq, Prod.mk.injEq] at h
              obtain ⟨rfl, rfl⟩ := h
              exact ⟨M, _, w, append_nil T ht hu ty hlen hc1 hroom, Good.same H L (.nilslice _ _)⟩
          · rename_i b o
            obtain ⟨r, rfl, hr⟩ := hb1 b o rfl
            split at h
            case h_2 => cases h
            rename_i c g hb
            simp only [Option.map_eq_some_iff, Prod.mk.injEq] at h
            obtain ⟨c', hst, rfl, rfl⟩ := h
            obtain ⟨w', hw, hH, hE, hS, hLi⟩ := cells_write (P := P) H L hb hr hst hn h1
            exact ⟨M, _, w', append_fits T ht hu ty hlen hc1 hroom hw, ⟨.slice _ _ _ hr hcapk, hH, hLi, hE, hS⟩⟩
          · cases h
        | false =>
          rw [hrm] at h
          simp only [cond] at h
          have hroom : ¬ len + n ≤ cap := fun hle => by
            have := Nat.ble_eq_true_of_le hle
            rw [this] at hrm; cases hrm
          split at h
          case h_2 => cases h
          rename_i old hold
          cases hol : Nat.beq old.length (len * te.size) with
          | false => rw [hol] at h; cases h
          | true =>
            rw [hol] at h
            simp only [cond, Option.some.injEq, Prod.mk.injEq] at h
            obtain ⟨rfl, rfl⟩ := h
            have holl := Nat.eq_of_beq_eq_true hol
            obtain ⟨old', ho, hf1, hf2⟩ := firstA_sound (P := P) H hx rfl (Nat.le_refl len) hold holl
            exact append_grows H L F hsm T ht hu ty hf2 ho hn hlen hc1 hc2 holl hnl h1 hpos hbig hby (by omega)
theorem zeros_one (z : Value) (n : Nat) : (Builtin.zeroCells #[z] n).toList = List.replicate n z := by
  refine List.ext_getElem? fun i => ?_
  by_cases h : i < n
  · simp [Builtin.zeroCells, List.getElem?_replicate, h, Nat.mod_one]
  · simp [Builtin.zeroCells, List.getElem?_replicate, h]
theorem appendZ_run (w : World) (t u ty e : TypeId) (i : TypeInfo) (z : Value) (ht : P.underlying t = some (.slice e)) (hu : P.underlying u = some (.int .i64)) (hi : P.info? e = some i) (hz : i.zero = some z) (h1 : i.size = 1) (hb : i.bytes ≤ 1000)
    (n : Nat) (hp : 1 ≤ n) (hn : n ≤ 10000) : (Builtin.append_ #[t, u] ty #[.slice none 0 0, .int .i64 n]).run P w =
      .ok (.slice (some ⟨w.heap.size, 0, none⟩) n (grownCap w n 0 e)) (w.drew.alloc (.cells (Builtin.zeroCells z.cells n ++ Builtin.zeroCells z.cells (grownCap w n 0 e - n)) e)) := by
  have hw : IntKind.i64.wrap (n : Int) = n := by
    simp [IntKind.wrap, IntKind.bits, IntKind.signed]; omega
  have g1 : ¬ (n : Int) < 0 := by omega
  have g2 : ¬ (281474976710656 < (n : Int) * (i.bytes : Int)) := by
    have : n * i.bytes ≤ 10000 * 1000 := Nat.mul_le_mul hn hb
    have h2 : (n : Int) * (i.bytes : Int) = ((n * i.bytes : Nat) : Int) := by simp
    rw [h2]; omega
  have g3 : ¬ n = 0 := by omega
  have g4 : ¬ (9223372036854775807 < (n : Int)) := by omega
  have g5 : ¬ (281474976710656 < Builtin.nextslicecap n 0 * i.bytes) := by
    have : Builtin.nextslicecap n 0 = n := by simp [Builtin.nextslicecap]; omega
    rw [this]
    have : n * i.bytes ≤ 10000 * 1000 := Nat.mul_le_mul hn hb
    omega
  simp [Builtin.append_, run_underlying ht, run_underlying hu, sizeOf, typeInfo, zeroValue, hi, hz, h1, asInt, asIntOf, hw, g1, g2, g3, g4, g5, Question.forced, newRow, grownCap, Builtin.firstCells]
theorem appendZ_sound {cf : Cfg} (C : CfgOk P cf) {M : Mu} {s s' : St} {w : World} (H : HR M s.h w) (L : Li s) {t u : TypeId} (ty : TypeId) {x x' y y' v : Value} (hx : VR M x x') (hy : VR M y y')
    (h : appendZ cf s t u x y = some (v, s')) (F : Fresh M s.n s'.n) : ∃ M' v' w', (Builtin.append_ #[t, u] ty #[x', y']).run P w = .ok v' w' ∧ Good M s w v s' M' v' w' := by
  unfold appendZ at h
  split at h
  case h_2 => cases h
  rename_i e n hk hk2
  split at h
  case h_2 => cases h
  rename_i te hte
  split at h
  case h_2 => cases h
  rename_i z hz
  split at h
  case isFalse => cases h
  rename_i hc
  obtain ⟨c1, c2, c3, c4, c5, c6⟩ := hc
  simp only [Option.some.injEq, Prod.mk.injEq] at h
  obtain ⟨rfl, rfl⟩ := h
  have T := C.ty hte
  have ht : P.underlying t = some (.slice e) := C.kd hk
  have hu : P.underlying u = some (.int .i64) := C.kd hk2
  obtain ⟨i, hi, hi1, hi2, hi3⟩ := T.info
  cases hy.int_inv
  obtain ⟨base', rfl, hb1, hb2, hb3⟩ := hx.known (by decide)
  cases hb2 rfl
  obtain ⟨m, rfl⟩ : ∃ m : Nat, n = m := ⟨n.toNat, by omega⟩
  have hm : (m : Int).toNat = m := by omega
  have hzc : te.zeroV.cells = #[z] := by
    have := T.zc
    rw [hz] at this
    apply Array.ext'
    simpa using this
  have hr := appendZ_run (P := P) w t u ty e i te.zeroV ht hu hi hi3 (by rw [hi1, c3]) (by rw [hi2]; exact c4) m (by omega) (by omega)
  have hge := grownCap_ge w m 0 e
  have hsize : (Builtin.zeroCells te.zeroV.cells m ++ Builtin.zeroCells te.zeroV.cells (grownCap w m 0 e - m)).size = grownCap w m 0 e * 1 := by
    simp only [Array.size_append, size_zeroCells, hzc]
    simp
    omega
  have g := new_sound (o := .cells (List.replicate m z) (some 1)) (some (grownCap w m 0 e, 1)) H L F c5 (Nw.drew (w := w) (O := .cells (Builtin.zeroCells te.zeroV.cells m ++ Builtin.zeroCells te.zeroV.cells (grownCap w m 0 e - m)) e)) ⟨rfl, by
    have : ((Builtin.zeroCells te.zeroV.cells m ++ Builtin.zeroCells te.zeroV.cells (grownCap w m 0 e - m)).toList.take (List.replicate m z).length) = List.replicate m z := by
      rw [Array.toList_append, hzc, zeros_one, List.length_replicate, List.take_left']
      simp
    rw [this]
    exact scals_LR _ (by
      have h1 := T.zp
      rw [hz] at h1
      simp only [List.all_cons, List.all_nil, Bool.and_true] at h1
      exact List.all_eq_true.2 fun v hv => by rw [List.eq_of_mem_replicate hv]; exact h1), Nat.one_pos, _, .inr ⟨rfl, rfl⟩, hsize⟩
  rw [hm]
  exact ⟨_, _, _, hr, ⟨VR.grown0 (Mu.add_m _ _ _ _) (.inr ⟨rfl, rfl⟩) hge, g.1, g.2.2.2, g.2.1, g.2.2.1⟩⟩
theorem appendB_some {cf : Cfg} {s s' : St} {t u : TypeId} {x y v : Value} (h : appendB cf s t u x y = some (v, s')) : appendZ cf s t u x y = some (v, s') ∨ appendA cf s t u x y = some (v, s') := by
  unfold appendB at h
  split at h
  · rename_i r hr
    cases h
    exact .inl hr
  · exact .inr h
theorem appendB_sound {cf : Cfg} (C : CfgOk P cf) {M : Mu} {s s' : St} {w : World} (H : HR M s.h w) (L : Li s) {t u : TypeId} (ty : TypeId) {x x' y y' v : Value} (hx : VR M x x') (hy : VR M y y')
    (h : appendB cf s t u x y = some (v, s')) (F : Fresh M s.n s'.n) : ∃ M' v' w', (Builtin.append_ #[t, u] ty #[x', y']).run P w = .ok v' w' ∧ Good M s w v s' M' v' w' := by
  rcases appendB_some h with h | h
  · exact appendZ_sound C H L ty hx hy h F
  · exact appendA_sound C H L ty hx hy h F
end Go.Proofs.YtecfnddaniphdaaGreatDoor.AM
