/-
  Walks of the wait layer's reference: which stances may be, run; Poll, Event, Time.
-/
import Derived.Test.YtjppkcdonddohaaD
set_option linter.unusedVariables false
set_option linter.unusedSimpArgs false
namespace Go.Proofs.Ytjppkcdonddohaa.A
open Go.RowKit

theorem okB_yes (st pa po un : Int) (h : okP ⟨st, pa, po, un⟩) : true = okB ⟨st, pa, po, un⟩ := by simp [okB, h]
theorem okB_no (st pa po un : Int) (h : ¬ okP ⟨st, pa, po, un⟩) : false = okB ⟨st, pa, po, un⟩ := by simp [okB, h]

set_option maxHeartbeats 800000 in
theorem right_ (st pa po un : Int) (hpo : 0 ≤ po) (w : World) : Calls Try.prog 13 #[.agg #[.int .i64 st, .int .i64 pa, .int .u32 po, .int .i64 un]] w fun e w' => e = .returned (.bool (okB ⟨st, pa, po, un⟩)) ∧ Below w.heap.size w w' := by
  by_cases hok : 0 ≤ st ∧ st ≤ 3 ∧ 0 ≤ pa ∧ pa ≤ 15 ∧ 0 ≤ un ∧ un ≤ 1125899906842624
  · obtain ⟨a1, a2, a3, a4, a5, a6⟩ := hok
    rcases Bool.eq_false_or_eq_true (st == 3) with h3 | h3
    · have g3 := Lib.hid (eq_of_beq h3)
      rcases Bool.eq_false_or_eq_true (decide (0 < po)) with hp | hp
      · have gp := Lib.hid (of_decide_eq_true hp)
        go_enter Try.func13, Try.ntmps13
        go_wp2
        go_ret
        exact ⟨ret_bool (okB_yes _ _ _ _ ⟨a1, a2, a3, a4, a5, a6, by have := g3.out; have := gp.out; simp only; omega⟩), (Below.refl _ _).alloc (Nat.le_refl _) _⟩
      · have gp := Lib.hid (of_decide_eq_false hp)
        rcases Bool.eq_false_or_eq_true (decide (0 < un)) with hu | hu
        · have gu := Lib.hid (of_decide_eq_true hu)
          go_enter Try.func13, Try.ntmps13
          go_wp2
          go_ret
          exact ⟨ret_bool (okB_yes _ _ _ _ ⟨a1, a2, a3, a4, a5, a6, by have := g3.out; have := gu.out; simp only; omega⟩), (Below.refl _ _).alloc (Nat.le_refl _) _⟩
        · have gu := Lib.hid (of_decide_eq_false hu)
          go_enter Try.func13, Try.ntmps13
          go_wp2
          go_ret
          exact ⟨ret_bool (okB_no _ _ _ _ (fun h => by have := g3.out; have := gu.out; have := gp.out; simp only [okP] at h; omega)), (Below.refl _ _).alloc (Nat.le_refl _) _⟩
    · have g3 := Lib.hid (ne_of_beq_false h3)
      rcases Bool.eq_false_or_eq_true (po == 0) with hp | hp
      · have gp := Lib.hid (eq_of_beq hp)
        rcases Bool.eq_false_or_eq_true (un == 0) with hu | hu
        · have gu := Lib.hid (eq_of_beq hu)
          go_enter Try.func13, Try.ntmps13
          go_wp2
          go_ret
          exact ⟨ret_bool (okB_yes _ _ _ _ ⟨a1, a2, a3, a4, a5, a6, by have := g3.out; have := gu.out; have := gp.out; simp only; omega⟩), (Below.refl _ _).alloc (Nat.le_refl _) _⟩
        · have gu := Lib.hid (ne_of_beq_false hu)
          go_enter Try.func13, Try.ntmps13
          go_wp2
          go_ret
          exact ⟨ret_bool (okB_no _ _ _ _ (fun h => by have := g3.out; have := gu.out; simp only [okP] at h; omega)), (Below.refl _ _).alloc (Nat.le_refl _) _⟩
      · have gp := Lib.hid (ne_of_beq_false hp)
        go_enter Try.func13, Try.ntmps13
        go_wp2
        go_ret
        exact ⟨ret_bool (okB_no _ _ _ _ (fun h => by have := g3.out; have := gp.out; simp only [okP] at h; omega)), (Below.refl _ _).alloc (Nat.le_refl _) _⟩
  · have hno : ¬ okP ⟨st, pa, po, un⟩ := fun h => hok (by simp only [okP] at h; omega)
    have hn := Lib.hid (okB_no _ _ _ _ hno)
    have hk := Lib.hid hok
    clear hok hno
    go_enter Try.func13, Try.ntmps13
    go_wp2
    all_goals first
      | (go_ret; exact ⟨ret_bool hn.out, (Below.refl _ _).alloc (Nat.le_refl _) _⟩)
      | (exfalso; exact hk.out (by omega))

set_option maxHeartbeats 800000 in
theorem rruns_ (st pa po un : Int) (w : World) : Calls Try.prog 18 #[.agg #[.int .i64 st, .int .i64 pa, .int .u32 po, .int .i64 un]] w fun e w' => e = .returned (.bool (st == 1 && pa == 0)) ∧ Below w.heap.size w w' := by
  rcases Bool.eq_false_or_eq_true (st == 1) with h1 | h1 <;> rcases Bool.eq_false_or_eq_true (pa == 0) with h2 | h2
  all_goals
    go_enter Try.func18, Try.ntmps18
    go_wp2
    go_ret
    exact ⟨ret_bool (by simp only [h1, h2]; rfl), (Below.refl _ _).alloc (Nat.le_refl _) _⟩

set_option maxHeartbeats 800000 in
theorem ready_ (st pa po un n : Int) (w : World) : Calls Try.prog 19 #[.agg #[.int .i64 st, .int .i64 pa, .int .u32 po, .int .i64 un], .int .i64 n] w fun e w' => e = .returned (.agg #[.int .i64 n, .int .i64 pa, .int .u32 0, .int .i64 0]) ∧ Below w.heap.size w w' := by
  go_enter Try.func19, Try.ntmps19
  go_wp2
  exact bodyPost_ret (v := .agg #[.int .i64 n, .int .i64 pa, .int .u32 0, .int .i64 0]) (by simp [results, Try.results19, go_sem]) rfl ⟨rfl, ((Below.refl _ _).alloc (Nat.le_refl _) _).alloc (by simp) _⟩

theorem runs_eq {s : St} (h : okB s = true) : runsB s = (s.st == 1 && s.pa == 0) := by
  have hk : okP s := of_decide_eq_true h
  simp only [okP] at hk
  rw [Bool.eq_iff_iff]
  simp only [runsB, Bool.and_eq_true, beq_iff_eq]
  omega
theorem runs_is {s : St} (h : runsB s = true) : s = ⟨1, 0, 0, 0⟩ := by
  obtain ⟨st, pa, po, un⟩ := s
  simp only [runsB, Bool.and_eq_true, beq_iff_eq] at h
  obtain ⟨⟨⟨rfl, rfl⟩, rfl⟩, rfl⟩ := h
  rfl
theorem pair_eq {s s' : St} {e e' : Int} (h : s = s') (h' : e = e') : Ending.returned (.tuple #[.agg s.cells, .int .i64 e]) = .returned (.tuple #[.agg s'.cells, .int .i64 e']) := by rw [h, h']
theorem tnS_bad {s s' : St} {r : Int} (h : okB s = false) : tnS s s' r = St.zero := by simp only [tnS]; rw [if_pos h]
theorem tnE_bad {s : St} {r : Int} (h : okB s = false) : tnE s r = 270 := by simp only [tnE]; rw [if_pos h]
theorem tnS_err {s s' : St} {r : Int} (hr : r ≠ 0) : tnS s s' r = St.zero := by
  simp only [tnS]; rw [if_pos hr]; simp
theorem tnS_ok {s s' : St} (h : okB s = true) : tnS s s' 0 = s' := by simp [tnS, h]
theorem tnE_ok {s : St} {r : Int} (h : okB s = true) : tnE s r = r := by simp [tnE, h]
theorem pollR_no (s : St) (ports ti now pend : Int) (h : okB s = true) (hr : runsB s = false) : tnS s (plS s ports ti now pend) (plR s ports ti) = St.zero ∧ tnE s (plR s ports ti) = 271 := by
  have : plR s ports ti = 271 := by simp only [plR]; rw [if_pos hr]
  rw [this]; exact ⟨tnS_err (by decide), tnE_ok h⟩
theorem pollR_bad (s : St) (ports ti now pend : Int) (h : okB s = true) (hr : runsB s = true) (hb : plBad ports ti = true) : tnS s (plS s ports ti now pend) (plR s ports ti) = St.zero ∧ tnE s (plR s ports ti) = 2 := by
  have : plR s ports ti = 2 := by simp only [plR]; rw [if_neg (by simp [hr]), if_pos hb]
  rw [this]; exact ⟨tnS_err (by decide), tnE_ok h⟩
theorem pollR_now (s : St) (ports ti now pend : Int) (h : okB s = true) (hr : runsB s = true) (hb : ¬ plBad ports ti = true) (hn : plNow ports ti now pend = true) : tnS s (plS s ports ti now pend) (plR s ports ti) = s ∧ tnE s (plR s ports ti) = 0 := by
  have e : plR s ports ti = 0 := by simp only [plR]; rw [if_neg (by simp [hr]), if_neg hb]
  have e2 : plS s ports ti now pend = s := by simp only [plS]; rw [if_neg (by simp [hr]), if_neg hb, if_pos hn]
  rw [e, e2]; exact ⟨tnS_ok h, tnE_ok h⟩
theorem pollR_polls (s : St) (ports ti now pend : Int) (h : okB s = true) (hr : runsB s = true) (hb : ¬ plBad ports ti = true) (hn : ¬ plNow ports ti now pend = true) : tnS s (plS s ports ti now pend) (plR s ports ti) = ⟨3, 0, ports, ti⟩ ∧ tnE s (plR s ports ti) = 0 := by
  have e : plR s ports ti = 0 := by simp only [plR]; rw [if_neg (by simp [hr]), if_neg hb]
  have e2 : plS s ports ti now pend = ⟨3, 0, ports, ti⟩ := by simp only [plS]; rw [if_neg (by simp [hr]), if_neg hb, if_neg hn, runs_is hr]
  rw [e, e2]; exact ⟨tnS_ok h, tnE_ok h⟩
theorem low_2 {w w1 w2 : World} (h : Below w.heap.size w w1) (k : Below w1.heap.size w1 w2) : Below w.heap.size w w2 := h.trans (k.mono h.size)

set_option maxHeartbeats 3200000 in
theorem rpoll_ (s : St) (ports ti now pend : Int) (hpo : 0 ≤ s.po) (hq0 : 0 ≤ ports) (hq1 : ports < 4294967296) (hd0 : 0 ≤ pend) (hd1 : pend < 4294967296) (w : World) :
    Calls Try.prog 16 #[.agg s.cells, .int .u32 ports, .int .i64 ti, .int .i64 now, .int .u32 pend] w fun e w' => e = .returned (.tuple #[.agg (tnS s (plS s ports ti now pend) (plR s ports ti)).cells, .int .i64 (tnE s (plR s ports ti))]) ∧ Below w.heap.size w w' := by
  obtain ⟨st, pa, po, un⟩ := s
  have hpo0 : 0 ≤ po := hpo
  clear hpo
  cases hk : okB ⟨st, pa, po, un⟩ with
  | false =>
    have hL := And.intro (tnS_bad (s' := plS ⟨st, pa, po, un⟩ ports ti now pend) (r := plR ⟨st, pa, po, un⟩ ports ti) hk) (tnE_bad (r := plR ⟨st, pa, po, un⟩ ports ti) hk)
    have HL := Lib.hid hL
    clear hL
    go_enter Try.func16, Try.ntmps16
    go_wp2_with (first
      | (go_at_call 13; refine (right_ _ _ _ _ hpo0 _).mono ?_; rintro e w1 ⟨rfl, hb1⟩; have S1 := Lib.hid ((hb1.block w.heap.size (by simp; omega)).trans (alloc_at (new_at w _))); have R1 := Lib.hid (low2_1 hb1); have B1 := Lib.hid (low2 hb1); obtain ⟨x0, x1, x2, x3, y0, y1, y2, y3⟩ := cells4 R1.out; obtain ⟨v0, v1, v2, v3, z0, z1, z2, z3⟩ := cells4 S1.out; have L1 : w.heap.size + 1 < w1.heap.size := lt_blk R1.out; clear hb1))
    refine bodyPost_ret (res_ct rfl _ _ (w.heap.size + 1) 24 (St.cells St.zero) (0, 0) _ rfl (blk_set (blk_set (blk_set (blk_set R1.out 0 _) 1 _) 2 _) 3 _) Try.underlying24 rfl (by kernel_rfl)) rfl ?_
    exact ⟨pair_eq HL.out.1.symm HL.out.2.symm, (((B1.out.setCell (by simp) _).setCell (by simp) _).setCell (by simp) _).setCell (by simp) _⟩
  | true =>
    cases hr : runsB ⟨st, pa, po, un⟩ with
    | false =>
      have hr2 : (st == 1 && pa == 0) = false := by rw [← hr]; exact (runs_eq hk).symm
      have HL := Lib.hid (pollR_no _ ports ti now pend hk hr)
      go_enter Try.func16, Try.ntmps16
      go_wp2_with (first
        | (go_at_call 13; refine (right_ _ _ _ _ hpo0 _).mono ?_; rintro e w1 ⟨rfl, hb1⟩; have S1 := Lib.hid ((hb1.block w.heap.size (by simp; omega)).trans (alloc_at (new_at w _))); have R1 := Lib.hid (low2_1 hb1); have B1 := Lib.hid (low2 hb1); obtain ⟨x0, x1, x2, x3, y0, y1, y2, y3⟩ := cells4 R1.out; obtain ⟨v0, v1, v2, v3, z0, z1, z2, z3⟩ := cells4 S1.out; have L1 : w.heap.size + 1 < w1.heap.size := lt_blk R1.out; clear hb1)
        | (go_at_call 18; refine (rruns_ _ _ _ _ _).mono ?_; rintro e w2 ⟨rfl, hb2⟩; have S2 := Lib.hid ((hb2.block _ (lt_blk S1.out)).trans S1.out); have R2 := Lib.hid ((hb2.block _ (lt_blk R1.out)).trans R1.out); have B2 := Lib.hid (low_2 B1.out hb2); clear x0 x1 x2 x3 y0 y1 y2 y3 v0 v1 v2 v3 z0 z1 z2 z3; obtain ⟨x0, x1, x2, x3, y0, y1, y2, y3⟩ := cells4 R2.out; obtain ⟨v0, v1, v2, v3, z0, z1, z2, z3⟩ := cells4 S2.out; clear hb2))
      refine bodyPost_ret (res_ct rfl _ _ (w.heap.size + 1) 24 (St.cells St.zero) (0, 0) _ rfl (blk_set (blk_set (blk_set (blk_set R2.out 0 _) 1 _) 2 _) 3 _) Try.underlying24 rfl (by kernel_rfl)) rfl ?_
      exact ⟨pair_eq HL.out.1.symm HL.out.2.symm, (((B2.out.setCell (by simp) _).setCell (by simp) _).setCell (by simp) _).setCell (by simp) _⟩
    | true =>
      have hr2 : (st == 1 && pa == 0) = true := by rw [← hr]; exact (runs_eq hk).symm
      by_cases hneg : ti < 0
      · have q1 : (ti == 0) = false := by simp; omega
        have hbad : plBad ports ti = true := by simp [plBad]; omega
        have HL := Lib.hid (pollR_bad ⟨st, pa, po, un⟩ ports ti now pend hk hr hbad)
        clear hbad
        go_enter Try.func16, Try.ntmps16
        go_wp2_with (first
          | (go_at_call 13; refine (right_ _ _ _ _ hpo0 _).mono ?_; rintro e w1 ⟨rfl, hb1⟩; have S1 := Lib.hid ((hb1.block w.heap.size (by simp; omega)).trans (alloc_at (new_at w _))); have R1 := Lib.hid (low2_1 hb1); have B1 := Lib.hid (low2 hb1); obtain ⟨x0, x1, x2, x3, y0, y1, y2, y3⟩ := cells4 R1.out; obtain ⟨v0, v1, v2, v3, z0, z1, z2, z3⟩ := cells4 S1.out; have L1 : w.heap.size + 1 < w1.heap.size := lt_blk R1.out; clear hb1)
          | (go_at_call 18; refine (rruns_ _ _ _ _ _).mono ?_; rintro e w2 ⟨rfl, hb2⟩; have S2 := Lib.hid ((hb2.block _ (lt_blk S1.out)).trans S1.out); have R2 := Lib.hid ((hb2.block _ (lt_blk R1.out)).trans R1.out); have B2 := Lib.hid (low_2 B1.out hb2); clear x0 x1 x2 x3 y0 y1 y2 y3 v0 v1 v2 v3 z0 z1 z2 z3; obtain ⟨x0, x1, x2, x3, y0, y1, y2, y3⟩ := cells4 R2.out; obtain ⟨v0, v1, v2, v3, z0, z1, z2, z3⟩ := cells4 S2.out; clear hb2))
        all_goals
          refine bodyPost_ret (res_ct rfl _ _ (w.heap.size + 1) 24 (St.cells St.zero) (0, 0) _ rfl (blk_set (blk_set (blk_set (blk_set R2.out 0 _) 1 _) 2 _) 3 _) Try.underlying24 rfl (by kernel_rfl)) rfl ?_
          exact ⟨pair_eq HL.out.1.symm HL.out.2.symm, (((B2.out.setCell (by simp) _).setCell (by simp) _).setCell (by simp) _).setCell (by simp) _⟩
      · by_cases hbig : 1125899906842624 < ti
        · have q1 : (ti == 0) = false := by simp; omega
          have hbad : plBad ports ti = true := by simp [plBad]; omega
          have HL := Lib.hid (pollR_bad ⟨st, pa, po, un⟩ ports ti now pend hk hr hbad)
          clear hbad
          go_enter Try.func16, Try.ntmps16
          go_wp2_with (first
            | (go_at_call 13; refine (right_ _ _ _ _ hpo0 _).mono ?_; rintro e w1 ⟨rfl, hb1⟩; have S1 := Lib.hid ((hb1.block w.heap.size (by simp; omega)).trans (alloc_at (new_at w _))); have R1 := Lib.hid (low2_1 hb1); have B1 := Lib.hid (low2 hb1); obtain ⟨x0, x1, x2, x3, y0, y1, y2, y3⟩ := cells4 R1.out; obtain ⟨v0, v1, v2, v3, z0, z1, z2, z3⟩ := cells4 S1.out; have L1 : w.heap.size + 1 < w1.heap.size := lt_blk R1.out; clear hb1)
            | (go_at_call 18; refine (rruns_ _ _ _ _ _).mono ?_; rintro e w2 ⟨rfl, hb2⟩; have S2 := Lib.hid ((hb2.block _ (lt_blk S1.out)).trans S1.out); have R2 := Lib.hid ((hb2.block _ (lt_blk R1.out)).trans R1.out); have B2 := Lib.hid (low_2 B1.out hb2); clear x0 x1 x2 x3 y0 y1 y2 y3 v0 v1 v2 v3 z0 z1 z2 z3; obtain ⟨x0, x1, x2, x3, y0, y1, y2, y3⟩ := cells4 R2.out; obtain ⟨v0, v1, v2, v3, z0, z1, z2, z3⟩ := cells4 S2.out; clear hb2))
          all_goals
            refine bodyPost_ret (res_ct rfl _ _ (w.heap.size + 1) 24 (St.cells St.zero) (0, 0) _ rfl (blk_set (blk_set (blk_set (blk_set R2.out 0 _) 1 _) 2 _) 3 _) Try.underlying24 rfl (by kernel_rfl)) rfl ?_
            exact ⟨pair_eq HL.out.1.symm HL.out.2.symm, (((B2.out.setCell (by simp) _).setCell (by simp) _).setCell (by simp) _).setCell (by simp) _⟩
        · have q2 : 0 ≤ ti := by omega
          have q3 : ti ≤ 1125899906842624 := by omega
          by_cases hz : ti = 0
          · have q1 : (ti == 0) = true := by simp [hz]
            have q4 : (ti != 0) = false := by simp [hz]
            have q6 : decide (0 < ti) = false := by simp [hz]
            by_cases hp : ports = 0
            · have q5 : (ports == 0) = true := by simp [hp]
              have hbad : plBad ports ti = true := by simp [plBad]; omega
              have HL := Lib.hid (pollR_bad ⟨st, pa, po, un⟩ ports ti now pend hk hr hbad)
              clear hz hp hneg hbig
              clear hbad
              go_enter Try.func16, Try.ntmps16
              go_wp2_with (first
                | (go_at_call 13; refine (right_ _ _ _ _ hpo0 _).mono ?_; rintro e w1 ⟨rfl, hb1⟩; have S1 := Lib.hid ((hb1.block w.heap.size (by simp; omega)).trans (alloc_at (new_at w _))); have R1 := Lib.hid (low2_1 hb1); have B1 := Lib.hid (low2 hb1); obtain ⟨x0, x1, x2, x3, y0, y1, y2, y3⟩ := cells4 R1.out; obtain ⟨v0, v1, v2, v3, z0, z1, z2, z3⟩ := cells4 S1.out; have L1 : w.heap.size + 1 < w1.heap.size := lt_blk R1.out; clear hb1)
                | (go_at_call 18; refine (rruns_ _ _ _ _ _).mono ?_; rintro e w2 ⟨rfl, hb2⟩; have S2 := Lib.hid ((hb2.block _ (lt_blk S1.out)).trans S1.out); have R2 := Lib.hid ((hb2.block _ (lt_blk R1.out)).trans R1.out); have B2 := Lib.hid (low_2 B1.out hb2); clear x0 x1 x2 x3 y0 y1 y2 y3 v0 v1 v2 v3 z0 z1 z2 z3; obtain ⟨x0, x1, x2, x3, y0, y1, y2, y3⟩ := cells4 R2.out; obtain ⟨v0, v1, v2, v3, z0, z1, z2, z3⟩ := cells4 S2.out; clear hb2))
              all_goals
                refine bodyPost_ret (res_ct rfl _ _ (w.heap.size + 1) 24 (St.cells St.zero) (0, 0) _ rfl (blk_set (blk_set (blk_set (blk_set R2.out 0 _) 1 _) 2 _) 3 _) Try.underlying24 rfl (by kernel_rfl)) rfl ?_
                exact ⟨pair_eq HL.out.1.symm HL.out.2.symm, (((B2.out.setCell (by simp) _).setCell (by simp) _).setCell (by simp) _).setCell (by simp) _⟩
            · have q5 : (ports == 0) = false := by simp [hp]
              by_cases ha : bothB ports pend = true
              · have hx := Lib.hid ha
                have hbad : ¬ plBad ports ti = true := by simp [plBad]; omega
                have hnow : plNow ports ti now pend = true := by simp only [plNow]; rw [Bool.or_eq_true]; exact .inl hx.out
                have HL := Lib.hid (pollR_now ⟨st, pa, po, un⟩ ports ti now pend hk hr hbad hnow)
                clear hz hp hneg hbig
                clear hbad hnow
                go_enter Try.func16, Try.ntmps16
                go_wp2_with (first
                  | (go_at_call 13; refine (right_ _ _ _ _ hpo0 _).mono ?_; rintro e w1 ⟨rfl, hb1⟩; have S1 := Lib.hid ((hb1.block w.heap.size (by simp; omega)).trans (alloc_at (new_at w _))); have R1 := Lib.hid (low2_1 hb1); have B1 := Lib.hid (low2 hb1); obtain ⟨x0, x1, x2, x3, y0, y1, y2, y3⟩ := cells4 R1.out; obtain ⟨v0, v1, v2, v3, z0, z1, z2, z3⟩ := cells4 S1.out; have L1 : w.heap.size + 1 < w1.heap.size := lt_blk R1.out; clear hb1)
                  | (go_at_call 18; refine (rruns_ _ _ _ _ _).mono ?_; rintro e w2 ⟨rfl, hb2⟩; have S2 := Lib.hid ((hb2.block _ (lt_blk S1.out)).trans S1.out); have R2 := Lib.hid ((hb2.block _ (lt_blk R1.out)).trans R1.out); have B2 := Lib.hid (low_2 B1.out hb2); clear x0 x1 x2 x3 y0 y1 y2 y3 v0 v1 v2 v3 z0 z1 z2 z3; obtain ⟨x0, x1, x2, x3, y0, y1, y2, y3⟩ := cells4 R2.out; obtain ⟨v0, v1, v2, v3, z0, z1, z2, z3⟩ := cells4 S2.out; clear hb2)
                  | (go_at_call 33; refine (both_ _ _ ⟨hq0, hq1⟩ ⟨hd0, hd1⟩ _).mono ?_; rintro e w3 ⟨rfl, rfl⟩))
                all_goals
                  refine bodyPost_ret (res_ct rfl _ _ (w.heap.size + 1) 24 (St.cells ⟨st, pa, po, un⟩) (0, 0) _ rfl (blk_set (blk_set (blk_set (blk_set R2.out 0 _) 1 _) 2 _) 3 _) Try.underlying24 rfl (by kernel_rfl)) rfl ?_
                  exact ⟨pair_eq HL.out.1.symm HL.out.2.symm, (((B2.out.setCell (by simp) _).setCell (by simp) _).setCell (by simp) _).setCell (by simp) _⟩
              · have ha' : bothB ports pend = false := Bool.eq_false_iff.mpr ha
                have hx := Lib.hid ha'
                have hbad : ¬ plBad ports ti = true := by simp [plBad]; omega
                have hnow : ¬ plNow ports ti now pend = true := by simp only [plNow]; rw [show (bits BinOp.and IntKind.u32 ports pend != 0) = false from hx.out, q4]; simp
                have HL := Lib.hid (pollR_polls ⟨st, pa, po, un⟩ ports ti now pend hk hr hbad hnow)
                clear hz hp hneg hbig ha
                clear hbad hnow
                go_enter Try.func16, Try.ntmps16
                go_wp2_with (first
                  | (go_at_call 13; refine (right_ _ _ _ _ hpo0 _).mono ?_; rintro e w1 ⟨rfl, hb1⟩; have S1 := Lib.hid ((hb1.block w.heap.size (by simp; omega)).trans (alloc_at (new_at w _))); have R1 := Lib.hid (low2_1 hb1); have B1 := Lib.hid (low2 hb1); obtain ⟨x0, x1, x2, x3, y0, y1, y2, y3⟩ := cells4 R1.out; obtain ⟨v0, v1, v2, v3, z0, z1, z2, z3⟩ := cells4 S1.out; have L1 : w.heap.size + 1 < w1.heap.size := lt_blk R1.out; clear hb1)
                  | (go_at_call 18; refine (rruns_ _ _ _ _ _).mono ?_; rintro e w2 ⟨rfl, hb2⟩; have S2 := Lib.hid ((hb2.block _ (lt_blk S1.out)).trans S1.out); have R2 := Lib.hid ((hb2.block _ (lt_blk R1.out)).trans R1.out); have B2 := Lib.hid (low_2 B1.out hb2); clear x0 x1 x2 x3 y0 y1 y2 y3 v0 v1 v2 v3 z0 z1 z2 z3; obtain ⟨x0, x1, x2, x3, y0, y1, y2, y3⟩ := cells4 R2.out; obtain ⟨v0, v1, v2, v3, z0, z1, z2, z3⟩ := cells4 S2.out; clear hb2)
                  | (go_at_call 33; refine (both_ _ _ ⟨hq0, hq1⟩ ⟨hd0, hd1⟩ _).mono ?_; rintro e w3 ⟨rfl, rfl⟩))
                all_goals
                  refine bodyPost_ret (res_ct rfl _ _ (w.heap.size + 1) 24 (St.cells ⟨3, 0, ports, ti⟩) (0, 0) _ rfl (blk_set (blk_set (blk_set (blk_set R2.out 0 _) 1 _) 2 _) 3 _) Try.underlying24 rfl (by kernel_rfl)) rfl ?_
                  exact ⟨pair_eq HL.out.1.symm HL.out.2.symm, (((B2.out.setCell (by simp) _).setCell (by simp) _).setCell (by simp) _).setCell (by simp) _⟩
          · have q1 : (ti == 0) = false := by simp [hz]
            have q4 : (ti != 0) = true := by simp [hz]
            have q6 : decide (0 < ti) = true := by simp; omega
            rcases Bool.eq_false_or_eq_true (ports == 0) with q5 | q5
            all_goals
              by_cases ha : bothB ports pend = true
              · have hx := Lib.hid ha
                have hbad : ¬ plBad ports ti = true := by simp [plBad]; omega
                have hnow : plNow ports ti now pend = true := by simp only [plNow]; rw [Bool.or_eq_true]; exact .inl hx.out
                have HL := Lib.hid (pollR_now ⟨st, pa, po, un⟩ ports ti now pend hk hr hbad hnow)
                clear hz hneg hbig
                clear hbad hnow
                go_enter Try.func16, Try.ntmps16
                go_wp2_with (first
                  | (go_at_call 13; refine (right_ _ _ _ _ hpo0 _).mono ?_; rintro e w1 ⟨rfl, hb1⟩; have S1 := Lib.hid ((hb1.block w.heap.size (by simp; omega)).trans (alloc_at (new_at w _))); have R1 := Lib.hid (low2_1 hb1); have B1 := Lib.hid (low2 hb1); obtain ⟨x0, x1, x2, x3, y0, y1, y2, y3⟩ := cells4 R1.out; obtain ⟨v0, v1, v2, v3, z0, z1, z2, z3⟩ := cells4 S1.out; have L1 : w.heap.size + 1 < w1.heap.size := lt_blk R1.out; clear hb1)
                  | (go_at_call 18; refine (rruns_ _ _ _ _ _).mono ?_; rintro e w2 ⟨rfl, hb2⟩; have S2 := Lib.hid ((hb2.block _ (lt_blk S1.out)).trans S1.out); have R2 := Lib.hid ((hb2.block _ (lt_blk R1.out)).trans R1.out); have B2 := Lib.hid (low_2 B1.out hb2); clear x0 x1 x2 x3 y0 y1 y2 y3 v0 v1 v2 v3 z0 z1 z2 z3; obtain ⟨x0, x1, x2, x3, y0, y1, y2, y3⟩ := cells4 R2.out; obtain ⟨v0, v1, v2, v3, z0, z1, z2, z3⟩ := cells4 S2.out; clear hb2)
                  | (go_at_call 33; refine (both_ _ _ ⟨hq0, hq1⟩ ⟨hd0, hd1⟩ _).mono ?_; rintro e w3 ⟨rfl, rfl⟩))
                all_goals
                  refine bodyPost_ret (res_ct rfl _ _ (w.heap.size + 1) 24 (St.cells ⟨st, pa, po, un⟩) (0, 0) _ rfl (blk_set (blk_set (blk_set (blk_set R2.out 0 _) 1 _) 2 _) 3 _) Try.underlying24 rfl (by kernel_rfl)) rfl ?_
                  exact ⟨pair_eq HL.out.1.symm HL.out.2.symm, (((B2.out.setCell (by simp) _).setCell (by simp) _).setCell (by simp) _).setCell (by simp) _⟩
              · have ha' : bothB ports pend = false := Bool.eq_false_iff.mpr ha
                have hx := Lib.hid ha'
                by_cases hn : ti ≤ now
                · have hn1 : decide (ti ≤ now) = true := by simp [hn]
                  have hbad : ¬ plBad ports ti = true := by simp [plBad]; omega
                  have hnow : plNow ports ti now pend = true := by simp [plNow, q4, hn1]
                  have HL := Lib.hid (pollR_now ⟨st, pa, po, un⟩ ports ti now pend hk hr hbad hnow)
                  clear hz hneg hbig ha hn
                  clear hbad hnow
                  go_enter Try.func16, Try.ntmps16
                  go_wp2_with (first
                    | (go_at_call 13; refine (right_ _ _ _ _ hpo0 _).mono ?_; rintro e w1 ⟨rfl, hb1⟩; have S1 := Lib.hid ((hb1.block w.heap.size (by simp; omega)).trans (alloc_at (new_at w _))); have R1 := Lib.hid (low2_1 hb1); have B1 := Lib.hid (low2 hb1); obtain ⟨x0, x1, x2, x3, y0, y1, y2, y3⟩ := cells4 R1.out; obtain ⟨v0, v1, v2, v3, z0, z1, z2, z3⟩ := cells4 S1.out; have L1 : w.heap.size + 1 < w1.heap.size := lt_blk R1.out; clear hb1)
                    | (go_at_call 18; refine (rruns_ _ _ _ _ _).mono ?_; rintro e w2 ⟨rfl, hb2⟩; have S2 := Lib.hid ((hb2.block _ (lt_blk S1.out)).trans S1.out); have R2 := Lib.hid ((hb2.block _ (lt_blk R1.out)).trans R1.out); have B2 := Lib.hid (low_2 B1.out hb2); clear x0 x1 x2 x3 y0 y1 y2 y3 v0 v1 v2 v3 z0 z1 z2 z3; obtain ⟨x0, x1, x2, x3, y0, y1, y2, y3⟩ := cells4 R2.out; obtain ⟨v0, v1, v2, v3, z0, z1, z2, z3⟩ := cells4 S2.out; clear hb2)
                    | (go_at_call 33; refine (both_ _ _ ⟨hq0, hq1⟩ ⟨hd0, hd1⟩ _).mono ?_; rintro e w3 ⟨rfl, rfl⟩))
                  all_goals
                    refine bodyPost_ret (res_ct rfl _ _ (w.heap.size + 1) 24 (St.cells ⟨st, pa, po, un⟩) (0, 0) _ rfl (blk_set (blk_set (blk_set (blk_set R2.out 0 _) 1 _) 2 _) 3 _) Try.underlying24 rfl (by kernel_rfl)) rfl ?_
                    exact ⟨pair_eq HL.out.1.symm HL.out.2.symm, (((B2.out.setCell (by simp) _).setCell (by simp) _).setCell (by simp) _).setCell (by simp) _⟩
                · have hn1 : decide (ti ≤ now) = false := by simp [hn]
                  have hn2 : now < ti := by omega
                  have hbad : ¬ plBad ports ti = true := by simp [plBad]; omega
                  have hnow : ¬ plNow ports ti now pend = true := by simp only [plNow]; rw [show (bits BinOp.and IntKind.u32 ports pend != 0) = false from hx.out, q4, hn1]; simp
                  have HL := Lib.hid (pollR_polls ⟨st, pa, po, un⟩ ports ti now pend hk hr hbad hnow)
                  clear hz hneg hbig ha hn
                  clear hbad hnow
                  go_enter Try.func16, Try.ntmps16
                  go_wp2_with (first
                    | (go_at_call 13; refine (right_ _ _ _ _ hpo0 _).mono ?_; rintro e w1 ⟨rfl, hb1⟩; have S1 := Lib.hid ((hb1.block w.heap.size (by simp; omega)).trans (alloc_at (new_at w _))); have R1 := Lib.hid (low2_1 hb1); have B1 := Lib.hid (low2 hb1); obtain ⟨x0, x1, x2, x3, y0, y1, y2, y3⟩ := cells4 R1.out; obtain ⟨v0, v1, v2, v3, z0, z1, z2, z3⟩ := cells4 S1.out; have L1 : w.heap.size + 1 < w1.heap.size := lt_blk R1.out; clear hb1)
                    | (go_at_call 18; refine (rruns_ _ _ _ _ _).mono ?_; rintro e w2 ⟨rfl, hb2⟩; have S2 := Lib.hid ((hb2.block _ (lt_blk S1.out)).trans S1.out); have R2 := Lib.hid ((hb2.block _ (lt_blk R1.out)).trans R1.out); have B2 := Lib.hid (low_2 B1.out hb2); clear x0 x1 x2 x3 y0 y1 y2 y3 v0 v1 v2 v3 z0 z1 z2 z3; obtain ⟨x0, x1, x2, x3, y0, y1, y2, y3⟩ := cells4 R2.out; obtain ⟨v0, v1, v2, v3, z0, z1, z2, z3⟩ := cells4 S2.out; clear hb2)
                    | (go_at_call 33; refine (both_ _ _ ⟨hq0, hq1⟩ ⟨hd0, hd1⟩ _).mono ?_; rintro e w3 ⟨rfl, rfl⟩))
                  all_goals
                    refine bodyPost_ret (res_ct rfl _ _ (w.heap.size + 1) 24 (St.cells ⟨3, 0, ports, ti⟩) (0, 0) _ rfl (blk_set (blk_set (blk_set (blk_set R2.out 0 _) 1 _) 2 _) 3 _) Try.underlying24 rfl (by kernel_rfl)) rfl ?_
                    exact ⟨pair_eq HL.out.1.symm HL.out.2.symm, (((B2.out.setCell (by simp) _).setCell (by simp) _).setCell (by simp) _).setCell (by simp) _⟩

end Go.Proofs.Ytjppkcdonddohaa.A
