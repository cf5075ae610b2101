/-
  slices.Clone over slices of plain structs.
-/
import Derived.Test.YtdkkhefjgolffaaGreatDoorA0
set_option linter.unusedVariables false
set_option linter.unusedSimpArgs false
namespace Go.Proofs.YtdkkhefjgolffaaGreatDoor.A
open Go.RowKit
theorem flat_len {α : Type} {ne : Nat} {enc : α → List Value} (hne : ∀ x, (enc x).length = ne) : ∀ l : List α, (l.flatMap enc).length = l.length * ne
  | [] => by simp
  | x :: l => by
    rw [List.flatMap_cons, List.length_append, hne, flat_len hne l, List.length_cons, Nat.succ_mul]; omega
theorem flat_get {α : Type} {ne : Nat} {enc : α → List Value} (hne : ∀ x, (enc x).length = ne) : ∀ (l : List α) (j : Nat) (u : Value), (l.flatMap enc)[j]? = some u →
    ∃ (i r : Nat) (x : α), j = i * ne + r ∧ l[i]? = some x ∧ (enc x)[r]? = some u
  | [], j, u, h => by simp at h
  | x :: l, j, u, h => by
    rw [List.flatMap_cons] at h
    by_cases hj : j < ne
    · rw [List.getElem?_append_left (by rw [hne]; exact hj)] at h
      exact ⟨0, j, x, by simp, rfl, h⟩
    · rw [List.getElem?_append_right (by rw [hne]; omega), hne] at h
      obtain ⟨i, r, y, h1, h2, h3⟩ := flat_get hne l (j - ne) u h
      exact ⟨i + 1, r, y, by rw [Nat.succ_mul]; omega, by simpa using h2, h3⟩
theorem flat_at {α : Type} {ne : Nat} {enc : α → List Value} (hne : ∀ x, (enc x).length = ne) : ∀ (l : List α) (i r : Nat) (x : α) (u : Value), l[i]? = some x → (enc x)[r]? = some u → (l.flatMap enc)[i * ne + r]? = some u
  | [], i, r, x, u, h, _ => by simp at h
  | y :: l, 0, r, x, u, h, hr => by
    simp only [List.getElem?_cons_zero, Option.some.injEq] at h
    subst h
    rw [List.flatMap_cons, Nat.zero_mul, Nat.zero_add, List.getElem?_append_left]
    · exact hr
    · exact (List.getElem?_eq_some_iff.1 hr).1
  | y :: l, i + 1, r, x, u, h, hr => by
    rw [List.flatMap_cons, List.getElem?_append_right (by rw [hne, Nat.succ_mul]; omega), hne, show (i + 1) * ne + r - ne = i * ne + r by rw [Nat.succ_mul]; omega]
    exact flat_at hne l i r x u (by simpa using h) hr
theorem Sl.news {α : Type} {ne : Nat} {enc : α → List Value} (hne : ∀ x, (enc x).length = ne) {w : World} {ad : Addr} {n c : Nat} {l : List α} (h : Sl ne enc w (some ad) n c l) :
    ∀ j u, (l.flatMap enc)[j]? = some u → w.cell? (ad.add j) = some u := by
  intro j u hj
  obtain ⟨i, r, x, h1, h2, h3⟩ := flat_get hne l j u hj
  obtain ⟨b', off', e, k⟩ := h.at_ i x h2
  cases e
  have := k r u h3
  have e : (⟨b', off', none⟩ : Addr).add j = ⟨b', off' + j, none⟩ := by unfold Addr.add; split <;> simp_all
  rw [e, h1, ← Nat.add_assoc]; exact this
theorem Sl.none_ {α : Type} {ne : Nat} {enc : α → List Value} {w : World} {n c : Nat} {l : List α} (h : Sl ne enc w none n c l) : l = [] ∧ n = 0 := by
  cases l with
  | nil => exact ⟨rfl, h.len.symm⟩
  | cons x l => obtain ⟨_, _, e, _⟩ := h.at_ 0 x rfl; cases e
theorem run_eql_nil {P : Program} (w : World) (t e : TypeId) (a : Option Addr) (n c n' c' : Nat) (h : P.underlying t = some (.slice e)) :
    (binOp .eql t (.slice a n c) (.slice none n' c')).run P w = .ok (.bool a.isNone) w := by
  simp only [binOp]
  simp [Op.equal, Op.maxDepth, Lib.run_equalIn_slice_nil w 9999 t e a n c n' c' h]
theorem own_empty (w : World) (e : TypeId) (size : Nat) : (w.alloc (.cells #[] e (0, 0))).ownsRow w.heap.size e size (.slice (some ⟨w.heap.size, 0, none⟩) 0 0) 0 [] :=
  ⟨by simp, .inr ⟨w.heap.size, 0, #[], rfl, Nat.le_refl _, new_at w _, Nat.le_refl _, Nat.zero_le _, by simp, by simp⟩⟩
/-- a slice of the call's own reads as a list -/
theorem sl_of_own {α : Type} {ne : Nat} {enc : α → List Value} (hne : ∀ x, (enc x).length = ne) (hpos : 0 < ne) {w : World} {base : Nat} {e : TypeId} {v : Value} {n : Nat} {l : List α} (hn : l.length = n) (h : w.ownsRow base e ne v n (l.flatMap enc)) :
    ∃ A d, v = .slice A n d ∧ Sl ne enc w A n d l ∧ ∀ ad, A = some ad → base ≤ ad.block := by
  obtain ⟨hl, h | ⟨g, cap, cur, rfl, hg, hh, hc, _, hs, ht⟩⟩ := h
  · obtain ⟨rfl, h0⟩ := h
    cases l with
    | nil =>
      have : n = 0 := hn.symm
      subst this
      exact ⟨none, 0, rfl, Sl.nil _ _ _ _ _, fun ad h => by cases h⟩
    | cons x l =>
      rw [h0] at hn; simp at hn
  · refine ⟨_, _, rfl, ⟨hn, hc, fun i x hx => ⟨g, 0, rfl, fun j u hu => ?_⟩⟩, fun ad h => by cases h; exact hg⟩
    have h1 := flat_at hne l i j x u hx hu
    rw [← ht, List.getElem?_take] at h1
    split at h1
    · rw [cell_of_row w g _ cur e (0, 0) hh, Nat.zero_add]
      simpa using h1
    · cases h1

/-- a new slice that reads as the list -/
def Cloned {α : Type} (ne : Nat) (enc : α → List Value) (l : List α) (n : Nat) (w : World) (e : Ending) (w' : World) : Prop :=
  ∃ A d, e = .returned (.slice A n d) ∧ Sl ne enc w' A n d l ∧ ∀ ad, A = some ad → w.heap.size ≤ ad.block
theorem one_Seat (l : List Seat) : ∀ u ∈ l.flatMap Seat.enc, u.oneCell' = true := by
  intro u hu
  obtain ⟨x, _, hx⟩ := List.mem_flatMap.1 hu
  simp only [Seat.enc, List.mem_cons, List.not_mem_nil, or_false] at hx
  rcases hx with rfl | rfl <;> rfl

theorem info_Seat : (Tryz.prog.info? 29).map (fun i => (i.zero, i.size, i.bytes)) = some (some (.agg #[.int .i64 0, .int .i64 0]), 2, 16) := by kernel_rfl
theorem len_Seat (x : Seat) : (Seat.enc x).length = 2 := rfl
set_option maxRecDepth 100000 in
set_option maxHeartbeats 3200000 in
theorem clone_Seat (A : Option Addr) (n c : Nat) (l : List Seat) (w : World) (hn : n ≤ 1000000) (hl : Sl 2 Seat.enc w A n c l) :
    Calls Tryz.prog 103 #[.slice A n c] w fun e w' => Cloned 2 Seat.enc l n w e w' ∧ Below w.heap.size w w' := by
  have HL := Lib.hid hl
  clear hl
  have hnil := fun W => run_eql_nil (P := Tryz.prog) W 24 29 A n c 0 0 Tryz.underlying24
  cases A with
  | none =>
    obtain ⟨h1, h2⟩ := HL.out.none_
    subst h2
    go_enter Tryz.func103, Tryz.ntmps103
    go_wp2
    go_ret
    exact ⟨⟨none, 0, rfl, by rw [h1]; exact Sl.nil _ _ _ _ _, fun ad h => by cases h⟩, Below.refl _ _⟩
  | some ad =>
    obtain ⟨i0, hi, hz0, hz1, hz2⟩ := info_parts info_Seat
    have HI := Lib.hid hi
    clear hi
    go_enter Tryz.func103, Tryz.ntmps103
    go_wp2_with (at_builtin; refine wpList_append_own _ rfl _ _ 24 rfl w.heap.size 29 i0 (.agg #[.int .i64 0, .int .i64 0]) 2 16 Tryz.underlying24 HI.out hz0 hz1 hz2 rfl (by decide) _ 0 [] rfl (own_empty w 29 2) ad n c (l.flatMap Seat.enc) rfl ?c1 ?c2 ?c3 ?c4 ?c5 ?c6 ?_)
    case c1 => rw [flat_len len_Seat, HL.out.len]
    case c2 => exact (HL.out.low (below_al (Below.refl _ _))).news len_Seat
    case c3 => exact one_Seat l
    case c4 => unfold maxLen; omega
    case c5 => omega
    case c6 => simp
    intro v' w1 hown hgrow _
    obtain ⟨B, d, rfl, hs, hfr⟩ := sl_of_own len_Seat (by decide) HL.out.len hown
    have HS := Lib.hid hs
    have HG := Lib.hid (((below_al (Below.refl w.heap.size w)) : Below w.heap.size w _).grown hgrow (by simp) (fun k hk => by simp [Value.ownBlock] at hk; omega))
    clear hs hown hgrow
    go_wp2
    go_ret
    exact ⟨⟨B, d, rfl, HS.out, hfr⟩, HG.out⟩
theorem one_Dom (l : List Dom) : ∀ u ∈ l.flatMap Dom.enc, u.oneCell' = true := by
  intro u hu
  obtain ⟨x, _, hx⟩ := List.mem_flatMap.1 hu
  simp only [Dom.enc, List.mem_cons, List.not_mem_nil, or_false] at hx
  rcases hx with rfl | rfl | rfl | rfl <;> rfl

theorem info_Dom : (Tryz.prog.info? 85).map (fun i => (i.zero, i.size, i.bytes)) = some (some (.agg #[.int .i64 0, .int .i64 0, .int .i64 0, .int .i64 0]), 4, 32) := by kernel_rfl
theorem len_Dom (x : Dom) : (Dom.enc x).length = 4 := rfl
set_option maxRecDepth 100000 in
set_option maxHeartbeats 3200000 in
theorem clone_Dom (A : Option Addr) (n c : Nat) (l : List Dom) (w : World) (hn : n ≤ 1000000) (hl : Sl 4 Dom.enc w A n c l) :
    Calls Tryz.prog 105 #[.slice A n c] w fun e w' => Cloned 4 Dom.enc l n w e w' ∧ Below w.heap.size w w' := by
  have HL := Lib.hid hl
  clear hl
  have hnil := fun W => run_eql_nil (P := Tryz.prog) W 33 85 A n c 0 0 Tryz.underlying33
  cases A with
  | none =>
    obtain ⟨h1, h2⟩ := HL.out.none_
    subst h2
    go_enter Tryz.func105, Tryz.ntmps105
    go_wp2
    go_ret
    exact ⟨⟨none, 0, rfl, by rw [h1]; exact Sl.nil _ _ _ _ _, fun ad h => by cases h⟩, Below.refl _ _⟩
  | some ad =>
    obtain ⟨i0, hi, hz0, hz1, hz2⟩ := info_parts info_Dom
    have HI := Lib.hid hi
    clear hi
    go_enter Tryz.func105, Tryz.ntmps105
    go_wp2_with (at_builtin; refine wpList_append_own _ rfl _ _ 33 rfl w.heap.size 85 i0 (.agg #[.int .i64 0, .int .i64 0, .int .i64 0, .int .i64 0]) 4 32 Tryz.underlying33 HI.out hz0 hz1 hz2 rfl (by decide) _ 0 [] rfl (own_empty w 85 4) ad n c (l.flatMap Dom.enc) rfl ?c1 ?c2 ?c3 ?c4 ?c5 ?c6 ?_)
    case c1 => rw [flat_len len_Dom, HL.out.len]
    case c2 => exact (HL.out.low (below_al (Below.refl _ _))).news len_Dom
    case c3 => exact one_Dom l
    case c4 => unfold maxLen; omega
    case c5 => omega
    case c6 => simp
    intro v' w1 hown hgrow _
    obtain ⟨B, d, rfl, hs, hfr⟩ := sl_of_own len_Dom (by decide) HL.out.len hown
    have HS := Lib.hid hs
    have HG := Lib.hid (((below_al (Below.refl w.heap.size w)) : Below w.heap.size w _).grown hgrow (by simp) (fun k hk => by simp [Value.ownBlock] at hk; omega))
    clear hs hown hgrow
    go_wp2
    go_ret
    exact ⟨⟨B, d, rfl, HS.out, hfr⟩, HG.out⟩
theorem one_Vc (l : List Vc) : ∀ u ∈ l.flatMap Vc.enc, u.oneCell' = true := by
  intro u hu
  obtain ⟨x, _, hx⟩ := List.mem_flatMap.1 hu
  simp only [Vc.enc, List.mem_cons, List.not_mem_nil, or_false] at hx
  rcases hx with rfl | rfl | rfl | rfl <;> rfl

theorem info_Vc : (Tryz.prog.info? 149).map (fun i => (i.zero, i.size, i.bytes)) = some (some (.agg #[.int .i64 0, .int .i64 0, .int .u32 0, .int .u32 0]), 4, 24) := by kernel_rfl
theorem len_Vc (x : Vc) : (Vc.enc x).length = 4 := rfl
set_option maxRecDepth 100000 in
set_option maxHeartbeats 3200000 in
theorem clone_Vc (A : Option Addr) (n c : Nat) (l : List Vc) (w : World) (hn : n ≤ 1000000) (hl : Sl 4 Vc.enc w A n c l) :
    Calls Tryz.prog 106 #[.slice A n c] w fun e w' => Cloned 4 Vc.enc l n w e w' ∧ Below w.heap.size w w' := by
  have HL := Lib.hid hl
  clear hl
  have hnil := fun W => run_eql_nil (P := Tryz.prog) W 34 149 A n c 0 0 Tryz.underlying34
  cases A with
  | none =>
    obtain ⟨h1, h2⟩ := HL.out.none_
    subst h2
    go_enter Tryz.func106, Tryz.ntmps106
    go_wp2
    go_ret
    exact ⟨⟨none, 0, rfl, by rw [h1]; exact Sl.nil _ _ _ _ _, fun ad h => by cases h⟩, Below.refl _ _⟩
  | some ad =>
    obtain ⟨i0, hi, hz0, hz1, hz2⟩ := info_parts info_Vc
    have HI := Lib.hid hi
    clear hi
    go_enter Tryz.func106, Tryz.ntmps106
    go_wp2_with (at_builtin; refine wpList_append_own _ rfl _ _ 34 rfl w.heap.size 149 i0 (.agg #[.int .i64 0, .int .i64 0, .int .u32 0, .int .u32 0]) 4 24 Tryz.underlying34 HI.out hz0 hz1 hz2 rfl (by decide) _ 0 [] rfl (own_empty w 149 4) ad n c (l.flatMap Vc.enc) rfl ?c1 ?c2 ?c3 ?c4 ?c5 ?c6 ?_)
    case c1 => rw [flat_len len_Vc, HL.out.len]
    case c2 => exact (HL.out.low (below_al (Below.refl _ _))).news len_Vc
    case c3 => exact one_Vc l
    case c4 => unfold maxLen; omega
    case c5 => omega
    case c6 => simp
    intro v' w1 hown hgrow _
    obtain ⟨B, d, rfl, hs, hfr⟩ := sl_of_own len_Vc (by decide) HL.out.len hown
    have HS := Lib.hid hs
    have HG := Lib.hid (((below_al (Below.refl w.heap.size w)) : Below w.heap.size w _).grown hgrow (by simp) (fun k hk => by simp [Value.ownBlock] at hk; omega))
    clear hs hown hgrow
    go_wp2
    go_ret
    exact ⟨⟨B, d, rfl, HS.out, hfr⟩, HG.out⟩
theorem one_Port (l : List Port) : ∀ u ∈ l.flatMap Port.enc, u.oneCell' = true := by
  intro u hu
  obtain ⟨x, _, hx⟩ := List.mem_flatMap.1 hu
  simp only [Port.enc, List.mem_cons, List.not_mem_nil, or_false] at hx
  rcases hx with rfl | rfl | rfl | rfl | rfl <;> rfl

theorem info_Port : (Tryz.prog.info? 126).map (fun i => (i.zero, i.size, i.bytes)) = some (some (.agg #[.int .i64 0, .int .i64 0, .int .i64 0, .bool false, .bool false]), 5, 32) := by kernel_rfl
theorem len_Port (x : Port) : (Port.enc x).length = 5 := rfl
set_option maxRecDepth 100000 in
set_option maxHeartbeats 3200000 in
theorem clone_Port (A : Option Addr) (n c : Nat) (l : List Port) (w : World) (hn : n ≤ 1000000) (hl : Sl 5 Port.enc w A n c l) :
    Calls Tryz.prog 108 #[.slice A n c] w fun e w' => Cloned 5 Port.enc l n w e w' ∧ Below w.heap.size w w' := by
  have HL := Lib.hid hl
  clear hl
  have hnil := fun W => run_eql_nil (P := Tryz.prog) W 42 126 A n c 0 0 Tryz.underlying42
  cases A with
  | none =>
    obtain ⟨h1, h2⟩ := HL.out.none_
    subst h2
    go_enter Tryz.func108, Tryz.ntmps108
    go_wp2
    go_ret
    exact ⟨⟨none, 0, rfl, by rw [h1]; exact Sl.nil _ _ _ _ _, fun ad h => by cases h⟩, Below.refl _ _⟩
  | some ad =>
    obtain ⟨i0, hi, hz0, hz1, hz2⟩ := info_parts info_Port
    have HI := Lib.hid hi
    clear hi
    go_enter Tryz.func108, Tryz.ntmps108
    go_wp2_with (at_builtin; refine wpList_append_own _ rfl _ _ 42 rfl w.heap.size 126 i0 (.agg #[.int .i64 0, .int .i64 0, .int .i64 0, .bool false, .bool false]) 5 32 Tryz.underlying42 HI.out hz0 hz1 hz2 rfl (by decide) _ 0 [] rfl (own_empty w 126 5) ad n c (l.flatMap Port.enc) rfl ?c1 ?c2 ?c3 ?c4 ?c5 ?c6 ?_)
    case c1 => rw [flat_len len_Port, HL.out.len]
    case c2 => exact (HL.out.low (below_al (Below.refl _ _))).news len_Port
    case c3 => exact one_Port l
    case c4 => unfold maxLen; omega
    case c5 => omega
    case c6 => simp
    intro v' w1 hown hgrow _
    obtain ⟨B, d, rfl, hs, hfr⟩ := sl_of_own len_Port (by decide) HL.out.len hown
    have HS := Lib.hid hs
    have HG := Lib.hid (((below_al (Below.refl w.heap.size w)) : Below w.heap.size w _).grown hgrow (by simp) (fun k hk => by simp [Value.ownBlock] at hk; omega))
    clear hs hown hgrow
    go_wp2
    go_ret
    exact ⟨⟨B, d, rfl, HS.out, hfr⟩, HG.out⟩
theorem one_Alarm (l : List Alarm) : ∀ u ∈ l.flatMap Alarm.enc, u.oneCell' = true := by
  intro u hu
  obtain ⟨x, _, hx⟩ := List.mem_flatMap.1 hu
  simp only [Alarm.enc, List.mem_cons, List.not_mem_nil, or_false] at hx
  rcases hx with rfl | rfl | rfl <;> rfl

theorem info_Alarm : (Tryz.prog.info? 157).map (fun i => (i.zero, i.size, i.bytes)) = some (some (.agg #[.int .i64 0, .int .i64 0, .int .i64 0]), 3, 24) := by kernel_rfl
theorem len_Alarm (x : Alarm) : (Alarm.enc x).length = 3 := rfl
set_option maxRecDepth 100000 in
set_option maxHeartbeats 3200000 in
theorem clone_Alarm (A : Option Addr) (n c : Nat) (l : List Alarm) (w : World) (hn : n ≤ 1000000) (hl : Sl 3 Alarm.enc w A n c l) :
    Calls Tryz.prog 110 #[.slice A n c] w fun e w' => Cloned 3 Alarm.enc l n w e w' ∧ Below w.heap.size w w' := by
  have HL := Lib.hid hl
  clear hl
  have hnil := fun W => run_eql_nil (P := Tryz.prog) W 48 157 A n c 0 0 Tryz.underlying48
  cases A with
  | none =>
    obtain ⟨h1, h2⟩ := HL.out.none_
    subst h2
    go_enter Tryz.func110, Tryz.ntmps110
    go_wp2
    go_ret
    exact ⟨⟨none, 0, rfl, by rw [h1]; exact Sl.nil _ _ _ _ _, fun ad h => by cases h⟩, Below.refl _ _⟩
  | some ad =>
    obtain ⟨i0, hi, hz0, hz1, hz2⟩ := info_parts info_Alarm
    have HI := Lib.hid hi
    clear hi
    go_enter Tryz.func110, Tryz.ntmps110
    go_wp2_with (at_builtin; refine wpList_append_own _ rfl _ _ 48 rfl w.heap.size 157 i0 (.agg #[.int .i64 0, .int .i64 0, .int .i64 0]) 3 24 Tryz.underlying48 HI.out hz0 hz1 hz2 rfl (by decide) _ 0 [] rfl (own_empty w 157 3) ad n c (l.flatMap Alarm.enc) rfl ?c1 ?c2 ?c3 ?c4 ?c5 ?c6 ?_)
    case c1 => rw [flat_len len_Alarm, HL.out.len]
    case c2 => exact (HL.out.low (below_al (Below.refl _ _))).news len_Alarm
    case c3 => exact one_Alarm l
    case c4 => unfold maxLen; omega
    case c5 => omega
    case c6 => simp
    intro v' w1 hown hgrow _
    obtain ⟨B, d, rfl, hs, hfr⟩ := sl_of_own len_Alarm (by decide) HL.out.len hown
    have HS := Lib.hid hs
    have HG := Lib.hid (((below_al (Below.refl w.heap.size w)) : Below w.heap.size w _).grown hgrow (by simp) (fun k hk => by simp [Value.ownBlock] at hk; omega))
    clear hs hown hgrow
    go_wp2
    go_ret
    exact ⟨⟨B, d, rfl, HS.out, hfr⟩, HG.out⟩
theorem one_Timer (l : List Timer) : ∀ u ∈ l.flatMap Timer.enc, u.oneCell' = true := by
  intro u hu
  obtain ⟨x, _, hx⟩ := List.mem_flatMap.1 hu
  simp only [Timer.enc, List.mem_cons, List.not_mem_nil, or_false] at hx
  rcases hx with rfl | rfl <;> rfl

theorem info_Timer : (Tryz.prog.info? 160).map (fun i => (i.zero, i.size, i.bytes)) = some (some (.agg #[.int .i64 0, .int .i64 0]), 2, 16) := by kernel_rfl
theorem len_Timer (x : Timer) : (Timer.enc x).length = 2 := rfl
set_option maxRecDepth 100000 in
set_option maxHeartbeats 3200000 in
theorem clone_Timer (A : Option Addr) (n c : Nat) (l : List Timer) (w : World) (hn : n ≤ 1000000) (hl : Sl 2 Timer.enc w A n c l) :
    Calls Tryz.prog 111 #[.slice A n c] w fun e w' => Cloned 2 Timer.enc l n w e w' ∧ Below w.heap.size w w' := by
  have HL := Lib.hid hl
  clear hl
  have hnil := fun W => run_eql_nil (P := Tryz.prog) W 45 160 A n c 0 0 Tryz.underlying45
  cases A with
  | none =>
    obtain ⟨h1, h2⟩ := HL.out.none_
    subst h2
    go_enter Tryz.func111, Tryz.ntmps111
    go_wp2
    go_ret
    exact ⟨⟨none, 0, rfl, by rw [h1]; exact Sl.nil _ _ _ _ _, fun ad h => by cases h⟩, Below.refl _ _⟩
  | some ad =>
    obtain ⟨i0, hi, hz0, hz1, hz2⟩ := info_parts info_Timer
    have HI := Lib.hid hi
    clear hi
    go_enter Tryz.func111, Tryz.ntmps111
    go_wp2_with (at_builtin; refine wpList_append_own _ rfl _ _ 45 rfl w.heap.size 160 i0 (.agg #[.int .i64 0, .int .i64 0]) 2 16 Tryz.underlying45 HI.out hz0 hz1 hz2 rfl (by decide) _ 0 [] rfl (own_empty w 160 2) ad n c (l.flatMap Timer.enc) rfl ?c1 ?c2 ?c3 ?c4 ?c5 ?c6 ?_)
    case c1 => rw [flat_len len_Timer, HL.out.len]
    case c2 => exact (HL.out.low (below_al (Below.refl _ _))).news len_Timer
    case c3 => exact one_Timer l
    case c4 => unfold maxLen; omega
    case c5 => omega
    case c6 => simp
    intro v' w1 hown hgrow _
    obtain ⟨B, d, rfl, hs, hfr⟩ := sl_of_own len_Timer (by decide) HL.out.len hown
    have HS := Lib.hid hs
    have HG := Lib.hid (((below_al (Below.refl w.heap.size w)) : Below w.heap.size w _).grown hgrow (by simp) (fun k hk => by simp [Value.ownBlock] at hk; omega))
    clear hs hown hgrow
    go_wp2
    go_ret
    exact ⟨⟨B, d, rfl, HS.out, hfr⟩, HG.out⟩
theorem one_Own (l : List Own) : ∀ u ∈ l.flatMap Own.enc, u.oneCell' = true := by
  intro u hu
  obtain ⟨x, _, hx⟩ := List.mem_flatMap.1 hu
  simp only [Own.enc, List.mem_cons, List.not_mem_nil, or_false] at hx
  rcases hx with rfl | rfl | rfl | rfl | rfl | rfl | rfl | rfl | rfl | rfl | rfl <;> rfl

theorem info_Own : (Tryz.prog.info? 79).map (fun i => (i.zero, i.size, i.bytes)) = some (some (.agg #[.int .i64 0, .int .i64 0, .int .i64 0, .int .u32 0, .int .i64 0, .int .u64 0, .int .u64 0, .int .u64 0, .int .u64 0, .int .i64 0, .int .i64 0]), 11, 88) := by kernel_rfl
theorem len_Own (x : Own) : (Own.enc x).length = 11 := rfl
set_option maxRecDepth 100000 in
set_option maxHeartbeats 3200000 in
theorem clone_Own (A : Option Addr) (n c : Nat) (l : List Own) (w : World) (hn : n ≤ 1000000) (hl : Sl 11 Own.enc w A n c l) :
    Calls Tryz.prog 112 #[.slice A n c] w fun e w' => Cloned 11 Own.enc l n w e w' ∧ Below w.heap.size w w' := by
  have HL := Lib.hid hl
  clear hl
  have hnil := fun W => run_eql_nil (P := Tryz.prog) W 40 79 A n c 0 0 Tryz.underlying40
  cases A with
  | none =>
    obtain ⟨h1, h2⟩ := HL.out.none_
    subst h2
    go_enter Tryz.func112, Tryz.ntmps112
    go_wp2
    go_ret
    exact ⟨⟨none, 0, rfl, by rw [h1]; exact Sl.nil _ _ _ _ _, fun ad h => by cases h⟩, Below.refl _ _⟩
  | some ad =>
    obtain ⟨i0, hi, hz0, hz1, hz2⟩ := info_parts info_Own
    have HI := Lib.hid hi
    clear hi
    go_enter Tryz.func112, Tryz.ntmps112
    go_wp2_with (at_builtin; refine wpList_append_own _ rfl _ _ 40 rfl w.heap.size 79 i0 (.agg #[.int .i64 0, .int .i64 0, .int .i64 0, .int .u32 0, .int .i64 0, .int .u64 0, .int .u64 0, .int .u64 0, .int .u64 0, .int .i64 0, .int .i64 0]) 11 88 Tryz.underlying40 HI.out hz0 hz1 hz2 rfl (by decide) _ 0 [] rfl (own_empty w 79 11) ad n c (l.flatMap Own.enc) rfl ?c1 ?c2 ?c3 ?c4 ?c5 ?c6 ?_)
    case c1 => rw [flat_len len_Own, HL.out.len]
    case c2 => exact (HL.out.low (below_al (Below.refl _ _))).news len_Own
    case c3 => exact one_Own l
    case c4 => unfold maxLen; omega
    case c5 => omega
    case c6 => simp
    intro v' w1 hown hgrow _
    obtain ⟨B, d, rfl, hs, hfr⟩ := sl_of_own len_Own (by decide) HL.out.len hown
    have HS := Lib.hid hs
    have HG := Lib.hid (((below_al (Below.refl w.heap.size w)) : Below w.heap.size w _).grown hgrow (by simp) (fun k hk => by simp [Value.ownBlock] at hk; omega))
    clear hs hown hgrow
    go_wp2
    go_ret
    exact ⟨⟨B, d, rfl, HS.out, hfr⟩, HG.out⟩
theorem one_Bkt (l : List Bkt) : ∀ u ∈ l.flatMap Bkt.enc, u.oneCell' = true := by
  intro u hu
  obtain ⟨x, _, hx⟩ := List.mem_flatMap.1 hu
  simp only [Bkt.enc, List.mem_cons, List.not_mem_nil, or_false] at hx
  rcases hx with rfl | rfl <;> rfl

theorem info_Bkt : (Tryz.prog.info? 140).map (fun i => (i.zero, i.size, i.bytes)) = some (some (.agg #[.int .i64 0, .int .i64 0]), 2, 16) := by kernel_rfl
theorem len_Bkt (x : Bkt) : (Bkt.enc x).length = 2 := rfl
set_option maxRecDepth 100000 in
set_option maxHeartbeats 3200000 in
theorem clone_Bkt (A : Option Addr) (n c : Nat) (l : List Bkt) (w : World) (hn : n ≤ 1000000) (hl : Sl 2 Bkt.enc w A n c l) :
    Calls Tryz.prog 113 #[.slice A n c] w fun e w' => Cloned 2 Bkt.enc l n w e w' ∧ Below w.heap.size w w' := by
  have HL := Lib.hid hl
  clear hl
  have hnil := fun W => run_eql_nil (P := Tryz.prog) W 41 140 A n c 0 0 Tryz.underlying41
  cases A with
  | none =>
    obtain ⟨h1, h2⟩ := HL.out.none_
    subst h2
    go_enter Tryz.func113, Tryz.ntmps113
    go_wp2
    go_ret
    exact ⟨⟨none, 0, rfl, by rw [h1]; exact Sl.nil _ _ _ _ _, fun ad h => by cases h⟩, Below.refl _ _⟩
  | some ad =>
    obtain ⟨i0, hi, hz0, hz1, hz2⟩ := info_parts info_Bkt
    have HI := Lib.hid hi
    clear hi
    go_enter Tryz.func113, Tryz.ntmps113
    go_wp2_with (at_builtin; refine wpList_append_own _ rfl _ _ 41 rfl w.heap.size 140 i0 (.agg #[.int .i64 0, .int .i64 0]) 2 16 Tryz.underlying41 HI.out hz0 hz1 hz2 rfl (by decide) _ 0 [] rfl (own_empty w 140 2) ad n c (l.flatMap Bkt.enc) rfl ?c1 ?c2 ?c3 ?c4 ?c5 ?c6 ?_)
    case c1 => rw [flat_len len_Bkt, HL.out.len]
    case c2 => exact (HL.out.low (below_al (Below.refl _ _))).news len_Bkt
    case c3 => exact one_Bkt l
    case c4 => unfold maxLen; omega
    case c5 => omega
    case c6 => simp
    intro v' w1 hown hgrow _
    obtain ⟨B, d, rfl, hs, hfr⟩ := sl_of_own len_Bkt (by decide) HL.out.len hown
    have HS := Lib.hid hs
    have HG := Lib.hid (((below_al (Below.refl w.heap.size w)) : Below w.heap.size w _).grown hgrow (by simp) (fun k hk => by simp [Value.ownBlock] at hk; omega))
    clear hs hown hgrow
    go_wp2
    go_ret
    exact ⟨⟨B, d, rfl, HS.out, hfr⟩, HG.out⟩
theorem one_Put (l : List Put) : ∀ u ∈ l.flatMap Put.enc, u.oneCell' = true := by
  intro u hu
  obtain ⟨x, _, hx⟩ := List.mem_flatMap.1 hu
  simp only [Put.enc, List.mem_cons, List.not_mem_nil, or_false] at hx
  rcases hx with rfl | rfl <;> rfl

theorem info_Put : (Tryz.prog.info? 115).map (fun i => (i.zero, i.size, i.bytes)) = some (some (.agg #[.int .i64 0, .int .i64 0]), 2, 16) := by kernel_rfl
theorem len_Put (x : Put) : (Put.enc x).length = 2 := rfl
set_option maxRecDepth 100000 in
set_option maxHeartbeats 3200000 in
theorem clone_Put (A : Option Addr) (n c : Nat) (l : List Put) (w : World) (hn : n ≤ 1000000) (hl : Sl 2 Put.enc w A n c l) :
    Calls Tryz.prog 114 #[.slice A n c] w fun e w' => Cloned 2 Put.enc l n w e w' ∧ Below w.heap.size w w' := by
  have HL := Lib.hid hl
  clear hl
  have hnil := fun W => run_eql_nil (P := Tryz.prog) W 51 115 A n c 0 0 Tryz.underlying51
  cases A with
  | none =>
    obtain ⟨h1, h2⟩ := HL.out.none_
    subst h2
    go_enter Tryz.func114, Tryz.ntmps114
    go_wp2
    go_ret
    exact ⟨⟨none, 0, rfl, by rw [h1]; exact Sl.nil _ _ _ _ _, fun ad h => by cases h⟩, Below.refl _ _⟩
  | some ad =>
    obtain ⟨i0, hi, hz0, hz1, hz2⟩ := info_parts info_Put
    have HI := Lib.hid hi
    clear hi
    go_enter Tryz.func114, Tryz.ntmps114
    go_wp2_with (at_builtin; refine wpList_append_own _ rfl _ _ 51 rfl w.heap.size 115 i0 (.agg #[.int .i64 0, .int .i64 0]) 2 16 Tryz.underlying51 HI.out hz0 hz1 hz2 rfl (by decide) _ 0 [] rfl (own_empty w 115 2) ad n c (l.flatMap Put.enc) rfl ?c1 ?c2 ?c3 ?c4 ?c5 ?c6 ?_)
    case c1 => rw [flat_len len_Put, HL.out.len]
    case c2 => exact (HL.out.low (below_al (Below.refl _ _))).news len_Put
    case c3 => exact one_Put l
    case c4 => unfold maxLen; omega
    case c5 => omega
    case c6 => simp
    intro v' w1 hown hgrow _
    obtain ⟨B, d, rfl, hs, hfr⟩ := sl_of_own len_Put (by decide) HL.out.len hown
    have HS := Lib.hid hs
    have HG := Lib.hid (((below_al (Below.refl w.heap.size w)) : Below w.heap.size w _).grown hgrow (by simp) (fun k hk => by simp [Value.ownBlock] at hk; omega))
    clear hs hown hgrow
    go_wp2
    go_ret
    exact ⟨⟨B, d, rfl, HS.out, hfr⟩, HG.out⟩
theorem one_Runner (l : List Runner) : ∀ u ∈ l.flatMap Runner.enc, u.oneCell' = true := by
  intro u hu
  obtain ⟨x, _, hx⟩ := List.mem_flatMap.1 hu
  simp only [Runner.enc, List.mem_cons, List.not_mem_nil, or_false] at hx
  rcases hx with rfl | rfl | rfl | rfl | rfl <;> rfl

theorem info_Runner : (Tryz.prog.info? 102).map (fun i => (i.zero, i.size, i.bytes)) = some (some (.agg #[.int .i64 0, .int .i64 0, .int .u64 0, .int .u64 0, .int .u64 0]), 5, 40) := by kernel_rfl
theorem len_Runner (x : Runner) : (Runner.enc x).length = 5 := rfl
set_option maxRecDepth 100000 in
set_option maxHeartbeats 3200000 in
theorem clone_Runner (A : Option Addr) (n c : Nat) (l : List Runner) (w : World) (hn : n ≤ 1000000) (hl : Sl 5 Runner.enc w A n c l) :
    Calls Tryz.prog 343 #[.slice A n c] w fun e w' => Cloned 5 Runner.enc l n w e w' ∧ Below w.heap.size w w' := by
  have HL := Lib.hid hl
  clear hl
  have hnil := fun W => run_eql_nil (P := Tryz.prog) W 89 102 A n c 0 0 Tryz.underlying89
  cases A with
  | none =>
    obtain ⟨h1, h2⟩ := HL.out.none_
    subst h2
    go_enter Tryz.func343, Tryz.ntmps343
    go_wp2
    go_ret
    exact ⟨⟨none, 0, rfl, by rw [h1]; exact Sl.nil _ _ _ _ _, fun ad h => by cases h⟩, Below.refl _ _⟩
  | some ad =>
    obtain ⟨i0, hi, hz0, hz1, hz2⟩ := info_parts info_Runner
    have HI := Lib.hid hi
    clear hi
    go_enter Tryz.func343, Tryz.ntmps343
    go_wp2_with (at_builtin; refine wpList_append_own _ rfl _ _ 89 rfl w.heap.size 102 i0 (.agg #[.int .i64 0, .int .i64 0, .int .u64 0, .int .u64 0, .int .u64 0]) 5 40 Tryz.underlying89 HI.out hz0 hz1 hz2 rfl (by decide) _ 0 [] rfl (own_empty w 102 5) ad n c (l.flatMap Runner.enc) rfl ?c1 ?c2 ?c3 ?c4 ?c5 ?c6 ?_)
    case c1 => rw [flat_len len_Runner, HL.out.len]
    case c2 => exact (HL.out.low (below_al (Below.refl _ _))).news len_Runner
    case c3 => exact one_Runner l
    case c4 => unfold maxLen; omega
    case c5 => omega
    case c6 => simp
    intro v' w1 hown hgrow _
    obtain ⟨B, d, rfl, hs, hfr⟩ := sl_of_own len_Runner (by decide) HL.out.len hown
    have HS := Lib.hid hs
    have HG := Lib.hid (((below_al (Below.refl w.heap.size w)) : Below w.heap.size w _).grown hgrow (by simp) (fun k hk => by simp [Value.ownBlock] at hk; omega))
    clear hs hown hgrow
    go_wp2
    go_ret
    exact ⟨⟨B, d, rfl, HS.out, hfr⟩, HG.out⟩

end Go.Proofs.YtdkkhefjgolffaaGreatDoor.A
