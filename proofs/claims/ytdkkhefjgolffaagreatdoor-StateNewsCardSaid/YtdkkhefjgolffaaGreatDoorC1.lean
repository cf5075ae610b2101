/-
  law20: the first ones of a row of seats, in memory of their own.
-/
import Derived.Test.YtdkkhefjgolffaaGreatDoorA3
set_option linter.unusedVariables false
set_option linter.unusedSimpArgs false
namespace Go.Proofs.YtdkkhefjgolffaaGreatDoor.A
open Go.RowKit
/-- a row of seats in a block of its own, new -/
def CutOf (l : List Seat) (k : Nat) (w : World) (e : Ending) (w' : World) : Prop :=
  ∃ r d cs t, e = .returned (.slice (some ⟨r, 0, none⟩) k d) ∧ w.heap.size ≤ r ∧ w'.heap[r]? = some (.cells cs t (0, 0)) ∧ cs.size = d * 2 ∧ k ≤ d ∧ cs.toList.take (k * 2) = l.flatMap Seat.enc
set_option maxRecDepth 100000 in
set_option maxHeartbeats 3200000 in
theorem cut_none (A : Option Addr) (c : Nat) (w : World) : Calls Tryz.prog 11 #[.slice A 0 c, .int .i64 9] w fun e w' => CutOf [] 0 w e w' ∧ Below w.heap.size w w' := by
  cases A with
  | none =>
    go_enter Tryz.func11, Tryz.ntmps11
    go_wp2
    go_ret
    exact ⟨⟨w.heap.size, 0, #[], 29, rfl, Nat.le_refl _, new_at w _, rfl, Nat.le_refl _, by simp⟩, below_al (Below.refl _ _)⟩
  | some ad =>
    go_enter Tryz.func11, Tryz.ntmps11
    go_wp2
    go_ret
    exact ⟨⟨w.heap.size, 0, #[], 29, rfl, Nat.le_refl _, new_at w _, rfl, Nat.le_refl _, by simp⟩, below_al (Below.refl _ _)⟩
theorem take_news {w : World} {ad : Addr} {n c k : Nat} {l : List Seat} (h : Sl 2 Seat.enc w (some ad) n c l) : ∀ j u, ((l.take k).flatMap Seat.enc)[j]? = some u → w.cell? (ad.add j) = some u := by
  intro j u hj
  refine h.news len_Seat j u ?_
  have e : l.flatMap Seat.enc = (l.take k).flatMap Seat.enc ++ (l.drop k).flatMap Seat.enc := by rw [← List.flatMap_append, List.take_append_drop]
  rw [e, List.getElem?_append_left (List.getElem?_eq_some_iff.1 hj).1]
  exact hj
set_option maxRecDepth 100000 in
set_option maxHeartbeats 3200000 in
theorem cut_few (ad : Addr) (n c : Nat) (l : List Seat) (w : World) (hpos : 0 < n) (h9 : n ≤ 9) (hc : n ≤ c) (hl : Sl 2 Seat.enc w (some ad) n c l) :
    Calls Tryz.prog 11 #[.slice (some ad) n c, .int .i64 9] w fun e w' => CutOf l n w e w' ∧ Below w.heap.size w w' := by
  have HL := Lib.hid hl
  clear hl
  obtain ⟨i0, hi, hz0, hz1, hz2⟩ := info_parts info_Seat
  have HI := Lib.hid hi
  clear hi
  have hn0 : ¬ n = 0 := by omega
  have hle : (n : Int) ≤ 9 := by omega
  go_enter Tryz.func11, Tryz.ntmps11
  go_wp2_with (at_builtin; refine wpList_append_own _ rfl _ _ 24 rfl w.heap.size 29 i0 (.agg #[.int .i64 0, .int .i64 0]) 2 16 Tryz.underlying24 HI.out hz0 hz1 hz2 rfl (by decide) _ 0 [] rfl (own_empty w 29 2) ad n c (l.flatMap Seat.enc) rfl ?c1 ?c2 ?c3 ?c4 ?c5 ?c6 ?_)
  case c1 => rw [flat_len len_Seat, HL.out.len]
  case c2 => exact (HL.out.low (below_al (Below.refl _ _))).news len_Seat
  case c3 => exact one_Seat l
  case c4 => unfold maxLen; omega
  case c5 => omega
  case c6 => simp
  intro v' w1 hown hgrow _
  have HO := Lib.hid hown
  have HG := Lib.hid (((below_al (Below.refl w.heap.size w)) : Below w.heap.size w _).grown hgrow (by simp) (fun k hk => by simp [Value.ownBlock] at hk; omega))
  clear hown hgrow
  obtain ⟨hlen, h | ⟨g, cap, cur, rfl, hg, hh, hcc, h5, hs, ht⟩⟩ := HO.out
  · obtain ⟨rfl, h0⟩ := h
    omega
  go_wp2
  go_ret
  exact ⟨⟨g, cap, cur, 29, by simp, hg, hh, hs, by omega, by simpa using ht⟩, HG.out⟩
set_option maxRecDepth 100000 in
set_option maxHeartbeats 3200000 in
theorem cut_nine (ad : Addr) (n c : Nat) (l : List Seat) (w : World) (h9 : 9 < n) (hc : n ≤ c) (hlen : l.length = 9) (hnews : ∀ j u, (l.flatMap Seat.enc)[j]? = some u → w.cell? (ad.add j) = some u) :
    Calls Tryz.prog 11 #[.slice (some ad) n c, .int .i64 9] w fun e w' => CutOf l 9 w e w' ∧ Below w.heap.size w w' := by
  have HL := Lib.hid hlen
  clear hlen
  have HN := Lib.hid hnews
  clear hnews
  obtain ⟨i0, hi, hz0, hz1, hz2⟩ := info_parts info_Seat
  have HI := Lib.hid hi
  clear hi
  have hle : ¬ (n : Int) ≤ 9 := by omega
  have hc9 : 9 ≤ c := by omega
  go_enter Tryz.func11, Tryz.ntmps11
  go_wp2_with (at_builtin; refine wpList_append_own _ rfl _ _ 24 rfl w.heap.size 29 i0 (.agg #[.int .i64 0, .int .i64 0]) 2 16 Tryz.underlying24 HI.out hz0 hz1 hz2 rfl (by decide) _ 0 [] rfl (own_empty w 29 2) ad 9 c (l.flatMap Seat.enc) rfl ?c1 ?c2 ?c3 ?c4 ?c5 ?c6 ?_)
  case c1 =>
    have h := HL.out
    have h2 := flat_len len_Seat l
    rw [h] at h2
    simpa using h2
  case c2 => exact fun j u hj => cell_low (below_al (Below.refl _ _)) (HN.out j u hj)
  case c3 =>
    intro u x hx hu
    rcases hu with rfl | rfl <;> rfl
  case c4 => unfold maxLen; omega
  intro v' w1 hown hgrow _
  have HO := Lib.hid hown
  have HG := Lib.hid (((below_al (Below.refl w.heap.size w)) : Below w.heap.size w _).grown hgrow (by simp) (fun k hk => by simp [Value.ownBlock] at hk; omega))
  clear hown hgrow
  obtain ⟨hlen, h | ⟨g, cap, cur, rfl, hg, hh, hcc, h5, hs, ht⟩⟩ := HO.out
  · obtain ⟨rfl, h0⟩ := h
    omega
  go_wp2
  go_ret
  exact ⟨⟨g, cap, cur, 29, by simp, hg, hh, hs, by omega, by simpa using ht⟩, HG.out⟩
end Go.Proofs.YtdkkhefjgolffaaGreatDoor.A
