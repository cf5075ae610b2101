/-
  Walks of the wait layer's reference: Event, Time.
-/
import Derived.Test.YtjppkcdonddohaaE
set_option linter.unusedVariables false
set_option linter.unusedSimpArgs false
namespace Go.Proofs.Ytjppkcdonddohaa.A
open Go.RowKit
theorem eventR_arg (s : St) (port : Int) (masked : Bool) (h : okB s = true) (hp : ¬ (0 ≤ port ∧ port < 32)) : tnS s (evS s port masked) (evR port) = St.zero ∧ tnE s (evR port) = 2 := by
  have : evR port = 2 := by simp only [evR]; rw [if_pos hp]
  rw [this]; exact ⟨tnS_err (by decide), tnE_ok h⟩
theorem eventR_wakes (s : St) (port : Int) (masked : Bool) (h : okB s = true) (hp : 0 ≤ port ∧ port < 32) (hw : (s.st = 3 ∧ (hasB s.po port = true ∨ masked = false)) ∨ (s.st = 2 ∧ masked = false)) : tnS s (evS s port masked) (evR port) = ⟨1, s.pa, 0, 0⟩ ∧ tnE s (evR port) = 0 := by
  have e : evR port = 0 := by simp only [evR]; rw [if_neg (fun h => h hp)]
  have e2 : evS s port masked = ⟨1, s.pa, 0, 0⟩ := by simp only [evS]; rw [if_neg (fun h => h hp), if_pos hw]
  rw [e, e2]; exact ⟨tnS_ok h, tnE_ok h⟩
theorem eventR_stays (s : St) (port : Int) (masked : Bool) (h : okB s = true) (hp : 0 ≤ port ∧ port < 32) (hw : ¬ ((s.st = 3 ∧ (hasB s.po port = true ∨ masked = false)) ∨ (s.st = 2 ∧ masked = false))) : tnS s (evS s port masked) (evR port) = s ∧ tnE s (evR port) = 0 := by
  have e : evR port = 0 := by simp only [evR]; rw [if_neg (fun h => h hp)]
  have e2 : evS s port masked = s := by simp only [evS]; rw [if_neg (fun h => h hp), if_neg hw]
  rw [e, e2]; exact ⟨tnS_ok h, tnE_ok h⟩

theorem res_c {P : Program} {fn : Func} {p : Tmp} {ty : TypeId} (h : fn.results = #[.cell p ty]) (tmps : Array Value) (w : World) (g : Nat) (t : TypeId) (cs : Array Value) (fr : Nat × Nat) (d : TypeDesc)
    (hp : tmps.getD p undef = .pointer (some ⟨g, 0, none⟩)) (hg : w.heap[g]? = some (.cells cs t fr))
    (hu : P.underlying ty = some d) (hd : (match d with | .struct _ | .array _ _ => true | _ => false) = true) (hi : (P.info? ty).map (·.size) = some cs.size) :
    (results fn tmps).run P w = .ok (.agg cs) w := by
  have hp' : tmps[p]?.getD undef = .pointer (some ⟨g, 0, none⟩) := by simpa using hp
  simp [results, h, hp', asAddr, run_loadVar_row w g t ty cs fr d hg hu hd hi]

set_option maxHeartbeats 3200000 in
theorem revent_ (s : St) (port : Int) (masked : Bool) (hpo : 0 ≤ s.po) (hpo' : s.po < 4294967296) (w : World) :
    Calls Try.prog 11 #[.agg s.cells, .int .i64 port, .bool masked] w fun e w' => e = .returned (.tuple #[.agg (tnS s (evS s port masked) (evR port)).cells, .int .i64 (tnE s (evR port))]) ∧ Below w.heap.size w w' := by
  obtain ⟨st, pa, po, un⟩ := s
  have hpo0 : 0 ≤ po := hpo
  have hpo1 : po < 4294967296 := hpo'
  clear hpo hpo'
  cases hk : okB ⟨st, pa, po, un⟩ with
  | false =>
    have HL := Lib.hid (And.intro (tnS_bad (s' := evS ⟨st, pa, po, un⟩ port masked) (r := evR port) hk) (tnE_bad (r := evR port) hk))
    go_enter Try.func11, Try.ntmps11
    go_wp2_with (first
      | (go_at_call 13; refine (right_ _ _ _ _ hpo0 _).mono ?_; rintro e w1 ⟨rfl, hb1⟩; have S1 := Lib.hid ((hb1.block w.heap.size (by simp; omega)).trans (alloc_at (new_at w _))); have R1 := Lib.hid (low2_1 hb1); have B1 := Lib.hid (low2 hb1); obtain ⟨x0, x1, x2, x3, y0, y1, y2, y3⟩ := cells4 R1.out; obtain ⟨v0, v1, v2, v3, z0, z1, z2, z3⟩ := cells4 S1.out; have L1 : w.heap.size + 1 < w1.heap.size := lt_blk R1.out; clear hb1))
    refine bodyPost_ret (res_ct rfl _ _ (w.heap.size + 1) 24 (St.cells St.zero) (0, 0) _ rfl (blk_set (blk_set (blk_set (blk_set R1.out 0 _) 1 _) 2 _) 3 _) Try.underlying24 rfl (by kernel_rfl)) rfl ?_
    exact ⟨pair_eq HL.out.1.symm HL.out.2.symm, (((B1.out.setCell (by simp) _).setCell (by simp) _).setCell (by simp) _).setCell (by simp) _⟩
  | true =>
    by_cases hp : 0 ≤ port ∧ port < 32
    · obtain ⟨pn, rfl⟩ := Int.eq_ofNat_of_zero_le hp.1
      have hp1 : (pn : Int) ≤ 31 := by omega
      have hp2 : (0 : Int) ≤ pn := by omega
      have hpn : pn ≤ 32 := by omega
      have hP := Lib.hid hp
      clear hp
      rcases Bool.eq_false_or_eq_true (st == 2) with e2 | e2
      · have g2 := Lib.hid (eq_of_beq e2)
        have e3 : (st == 3) = false := by rw [g2.out]; rfl
        have g3 := Lib.hid (ne_of_beq_false e3)
        cases masked with
        | true =>
          have HL := Lib.hid (eventR_stays ⟨st, pa, po, un⟩ pn true hk hP.out (by rintro (⟨h, _⟩ | ⟨_, h⟩) <;> first | exact g3.out h | cases h))
          go_enter Try.func11, Try.ntmps11
          go_wp2_with (first
            | (go_at_call 13; refine (right_ _ _ _ _ hpo0 _).mono ?_; rintro e w1 ⟨rfl, hb1⟩; have S1 := Lib.hid ((hb1.block w.heap.size (by simp; omega)).trans (alloc_at (new_at w _))); have R1 := Lib.hid (low2_1 hb1); have B1 := Lib.hid (low2 hb1); obtain ⟨x0, x1, x2, x3, y0, y1, y2, y3⟩ := cells4 R1.out; obtain ⟨v0, v1, v2, v3, z0, z1, z2, z3⟩ := cells4 S1.out; have L1 : w.heap.size + 1 < w1.heap.size := lt_blk R1.out; clear hb1))
          refine bodyPost_ret (res_ct rfl _ _ (w.heap.size + 1) 24 (St.cells ⟨st, pa, po, un⟩) (0, 0) _ rfl (blk_set (blk_set (blk_set (blk_set R1.out 0 _) 1 _) 2 _) 3 _) Try.underlying24 rfl (by kernel_rfl)) rfl ?_
          exact ⟨pair_eq HL.out.1.symm HL.out.2.symm, (((B1.out.setCell (by simp) _).setCell (by simp) _).setCell (by simp) _).setCell (by simp) _⟩
        | false =>
          have HL := Lib.hid (eventR_wakes ⟨st, pa, po, un⟩ pn false hk hP.out (.inr ⟨g2.out, rfl⟩))
          go_enter Try.func11, Try.ntmps11
          go_wp2_with (first
            | (go_at_call 13; refine (right_ _ _ _ _ hpo0 _).mono ?_; rintro e w1 ⟨rfl, hb1⟩; have S1 := Lib.hid ((hb1.block w.heap.size (by simp; omega)).trans (alloc_at (new_at w _))); have R1 := Lib.hid (low2_1 hb1); have B1 := Lib.hid (low2 hb1); obtain ⟨x0, x1, x2, x3, y0, y1, y2, y3⟩ := cells4 R1.out; obtain ⟨v0, v1, v2, v3, z0, z1, z2, z3⟩ := cells4 S1.out; have L1 : w.heap.size + 1 < w1.heap.size := lt_blk R1.out; clear hb1)
            | (go_at_call 19; refine (ready_ _ _ _ _ _ _).mono ?_; rintro e w2 ⟨rfl, hb2⟩; have R2 := Lib.hid ((hb2.block _ (lt_blk R1.out)).trans R1.out); have B2 := Lib.hid (low_2 B1.out hb2); clear x0 x1 x2 x3 y0 y1 y2 y3 v0 v1 v2 v3 z0 z1 z2 z3; obtain ⟨x0, x1, x2, x3, y0, y1, y2, y3⟩ := cells4 R2.out; clear hb2))
          refine bodyPost_ret (res_ct rfl _ _ (w.heap.size + 1) 24 (St.cells ⟨1, pa, 0, 0⟩) (0, 0) _ rfl (blk_set (blk_set (blk_set (blk_set R2.out 0 _) 1 _) 2 _) 3 _) Try.underlying24 rfl (by kernel_rfl)) rfl ?_
          exact ⟨pair_eq HL.out.1.symm HL.out.2.symm, (((B2.out.setCell (by simp) _).setCell (by simp) _).setCell (by simp) _).setCell (by simp) _⟩
      · have g2 := Lib.hid (ne_of_beq_false e2)
        rcases Bool.eq_false_or_eq_true (st == 3) with e3 | e3
        · have g3 := Lib.hid (eq_of_beq e3)
          cases masked with
          | true =>
            cases hh : hasB po pn with
            | true =>
              have HL := Lib.hid (eventR_wakes ⟨st, pa, po, un⟩ pn true hk hP.out (.inl ⟨g3.out, .inl hh⟩))
              go_enter Try.func11, Try.ntmps11
              go_wp2_with (first
                | (go_at_call 13; refine (right_ _ _ _ _ hpo0 _).mono ?_; rintro e w1 ⟨rfl, hb1⟩; have S1 := Lib.hid ((hb1.block w.heap.size (by simp; omega)).trans (alloc_at (new_at w _))); have R1 := Lib.hid (low2_1 hb1); have B1 := Lib.hid (low2 hb1); obtain ⟨x0, x1, x2, x3, y0, y1, y2, y3⟩ := cells4 R1.out; obtain ⟨v0, v1, v2, v3, z0, z1, z2, z3⟩ := cells4 S1.out; have L1 : w.heap.size + 1 < w1.heap.size := lt_blk R1.out; clear hb1)
                | (go_at_call 30; refine (has_ po pn hpo0 hpo1 hpn _).mono ?_; rintro e w3 ⟨rfl, rfl⟩)
                | (go_at_call 19; refine (ready_ _ _ _ _ _ _).mono ?_; rintro e w2 ⟨rfl, hb2⟩; have R2 := Lib.hid ((hb2.block _ (lt_blk R1.out)).trans R1.out); have B2 := Lib.hid (low_2 B1.out hb2); clear x0 x1 x2 x3 y0 y1 y2 y3 v0 v1 v2 v3 z0 z1 z2 z3; obtain ⟨x0, x1, x2, x3, y0, y1, y2, y3⟩ := cells4 R2.out; clear hb2))
              refine bodyPost_ret (res_ct rfl _ _ (w.heap.size + 1) 24 (St.cells ⟨1, pa, 0, 0⟩) (0, 0) _ rfl (blk_set (blk_set (blk_set (blk_set R2.out 0 _) 1 _) 2 _) 3 _) Try.underlying24 rfl (by kernel_rfl)) rfl ?_
              exact ⟨pair_eq HL.out.1.symm HL.out.2.symm, (((B2.out.setCell (by simp) _).setCell (by simp) _).setCell (by simp) _).setCell (by simp) _⟩
            | false =>
              have HL := Lib.hid (eventR_stays ⟨st, pa, po, un⟩ pn true hk hP.out (by rintro (⟨_, h | h⟩ | ⟨h, _⟩) <;> first | exact g2.out h | (rw [hh] at h; cases h) | cases h))
              go_enter Try.func11, Try.ntmps11
              go_wp2_with (first
                | (go_at_call 13; refine (right_ _ _ _ _ hpo0 _).mono ?_; rintro e w1 ⟨rfl, hb1⟩; have S1 := Lib.hid ((hb1.block w.heap.size (by simp; omega)).trans (alloc_at (new_at w _))); have R1 := Lib.hid (low2_1 hb1); have B1 := Lib.hid (low2 hb1); obtain ⟨x0, x1, x2, x3, y0, y1, y2, y3⟩ := cells4 R1.out; obtain ⟨v0, v1, v2, v3, z0, z1, z2, z3⟩ := cells4 S1.out; have L1 : w.heap.size + 1 < w1.heap.size := lt_blk R1.out; clear hb1)
                | (go_at_call 30; refine (has_ po pn hpo0 hpo1 hpn _).mono ?_; rintro e w3 ⟨rfl, rfl⟩))
              refine bodyPost_ret (res_ct rfl _ _ (w.heap.size + 1) 24 (St.cells ⟨st, pa, po, un⟩) (0, 0) _ rfl (blk_set (blk_set (blk_set (blk_set R1.out 0 _) 1 _) 2 _) 3 _) Try.underlying24 rfl (by kernel_rfl)) rfl ?_
              exact ⟨pair_eq HL.out.1.symm HL.out.2.symm, (((B1.out.setCell (by simp) _).setCell (by simp) _).setCell (by simp) _).setCell (by simp) _⟩
          | false =>
            have HL := Lib.hid (eventR_wakes ⟨st, pa, po, un⟩ pn false hk hP.out (.inl ⟨g3.out, .inr rfl⟩))
            go_enter Try.func11, Try.ntmps11
            go_wp2_with (first
              | (go_at_call 13; refine (right_ _ _ _ _ hpo0 _).mono ?_; rintro e w1 ⟨rfl, hb1⟩; have S1 := Lib.hid ((hb1.block w.heap.size (by simp; omega)).trans (alloc_at (new_at w _))); have R1 := Lib.hid (low2_1 hb1); have B1 := Lib.hid (low2 hb1); obtain ⟨x0, x1, x2, x3, y0, y1, y2, y3⟩ := cells4 R1.out; obtain ⟨v0, v1, v2, v3, z0, z1, z2, z3⟩ := cells4 S1.out; have L1 : w.heap.size + 1 < w1.heap.size := lt_blk R1.out; clear hb1)
              | (go_at_call 19; refine (ready_ _ _ _ _ _ _).mono ?_; rintro e w2 ⟨rfl, hb2⟩; have R2 := Lib.hid ((hb2.block _ (lt_blk R1.out)).trans R1.out); have B2 := Lib.hid (low_2 B1.out hb2); clear x0 x1 x2 x3 y0 y1 y2 y3 v0 v1 v2 v3 z0 z1 z2 z3; obtain ⟨x0, x1, x2, x3, y0, y1, y2, y3⟩ := cells4 R2.out; clear hb2))
            refine bodyPost_ret (res_ct rfl _ _ (w.heap.size + 1) 24 (St.cells ⟨1, pa, 0, 0⟩) (0, 0) _ rfl (blk_set (blk_set (blk_set (blk_set R2.out 0 _) 1 _) 2 _) 3 _) Try.underlying24 rfl (by kernel_rfl)) rfl ?_
            exact ⟨pair_eq HL.out.1.symm HL.out.2.symm, (((B2.out.setCell (by simp) _).setCell (by simp) _).setCell (by simp) _).setCell (by simp) _⟩
        · have g3 := Lib.hid (ne_of_beq_false e3)
          have HL := Lib.hid (eventR_stays ⟨st, pa, po, un⟩ pn masked hk hP.out (by rintro (⟨h, _⟩ | ⟨h, _⟩) <;> first | exact g2.out h | exact g3.out h))
          go_enter Try.func11, Try.ntmps11
          go_wp2_with (first
            | (go_at_call 13; refine (right_ _ _ _ _ hpo0 _).mono ?_; rintro e w1 ⟨rfl, hb1⟩; have S1 := Lib.hid ((hb1.block w.heap.size (by simp; omega)).trans (alloc_at (new_at w _))); have R1 := Lib.hid (low2_1 hb1); have B1 := Lib.hid (low2 hb1); obtain ⟨x0, x1, x2, x3, y0, y1, y2, y3⟩ := cells4 R1.out; obtain ⟨v0, v1, v2, v3, z0, z1, z2, z3⟩ := cells4 S1.out; have L1 : w.heap.size + 1 < w1.heap.size := lt_blk R1.out; clear hb1))
          refine bodyPost_ret (res_ct rfl _ _ (w.heap.size + 1) 24 (St.cells ⟨st, pa, po, un⟩) (0, 0) _ rfl (blk_set (blk_set (blk_set (blk_set R1.out 0 _) 1 _) 2 _) 3 _) Try.underlying24 rfl (by kernel_rfl)) rfl ?_
          exact ⟨pair_eq HL.out.1.symm HL.out.2.symm, (((B1.out.setCell (by simp) _).setCell (by simp) _).setCell (by simp) _).setCell (by simp) _⟩
    · have HL := Lib.hid (eventR_arg ⟨st, pa, po, un⟩ port masked hk hp)
      by_cases hneg : port < 0
      · clear hp
        go_enter Try.func11, Try.ntmps11
        go_wp2_with (first
          | (go_at_call 13; refine (right_ _ _ _ _ hpo0 _).mono ?_; rintro e w1 ⟨rfl, hb1⟩; have S1 := Lib.hid ((hb1.block w.heap.size (by simp; omega)).trans (alloc_at (new_at w _))); have R1 := Lib.hid (low2_1 hb1); have B1 := Lib.hid (low2 hb1); obtain ⟨x0, x1, x2, x3, y0, y1, y2, y3⟩ := cells4 R1.out; obtain ⟨v0, v1, v2, v3, z0, z1, z2, z3⟩ := cells4 S1.out; have L1 : w.heap.size + 1 < w1.heap.size := lt_blk R1.out; clear hb1))
        refine bodyPost_ret (res_ct rfl _ _ (w.heap.size + 1) 24 (St.cells St.zero) (0, 0) _ rfl (blk_set (blk_set (blk_set (blk_set R1.out 0 _) 1 _) 2 _) 3 _) Try.underlying24 rfl (by kernel_rfl)) rfl ?_
        exact ⟨pair_eq HL.out.1.symm HL.out.2.symm, (((B1.out.setCell (by simp) _).setCell (by simp) _).setCell (by simp) _).setCell (by simp) _⟩
      · have hbig : 31 < port := by omega
        clear hp
        go_enter Try.func11, Try.ntmps11
        go_wp2_with (first
          | (go_at_call 13; refine (right_ _ _ _ _ hpo0 _).mono ?_; rintro e w1 ⟨rfl, hb1⟩; have S1 := Lib.hid ((hb1.block w.heap.size (by simp; omega)).trans (alloc_at (new_at w _))); have R1 := Lib.hid (low2_1 hb1); have B1 := Lib.hid (low2 hb1); obtain ⟨x0, x1, x2, x3, y0, y1, y2, y3⟩ := cells4 R1.out; obtain ⟨v0, v1, v2, v3, z0, z1, z2, z3⟩ := cells4 S1.out; have L1 : w.heap.size + 1 < w1.heap.size := lt_blk R1.out; clear hb1))
        refine bodyPost_ret (res_ct rfl _ _ (w.heap.size + 1) 24 (St.cells St.zero) (0, 0) _ rfl (blk_set (blk_set (blk_set (blk_set R1.out 0 _) 1 _) 2 _) 3 _) Try.underlying24 rfl (by kernel_rfl)) rfl ?_
        exact ⟨pair_eq HL.out.1.symm HL.out.2.symm, (((B1.out.setCell (by simp) _).setCell (by simp) _).setCell (by simp) _).setCell (by simp) _⟩

set_option maxHeartbeats 3200000 in
theorem rtime_ (s : St) (now : Int) (hok : okB s = true) (w : World) :
    Calls Try.prog 14 #[.agg s.cells, .int .i64 now] w fun e w' => e = .returned (.agg (tiS s now).cells) ∧ Below w.heap.size w w' := by
  obtain ⟨st, pa, po, un⟩ := s
  have hk : okP ⟨st, pa, po, un⟩ := of_decide_eq_true hok
  clear hok
  rcases Bool.eq_false_or_eq_true (decide (0 < un)) with hu | hu
  · have gu := Lib.hid (of_decide_eq_true hu)
    have g3 : st = 3 := by have := gu.out; simp only [okP] at hk; omega
    have e3 : (st == 3) = true := by rw [g3]; rfl
    clear g3 hk
    rcases Bool.eq_false_or_eq_true (decide (un ≤ now)) with hn | hn
    · have HL : Hid (tiS ⟨st, pa, po, un⟩ now = ⟨1, pa, 0, 0⟩) := by simp only [tiS]; rw [if_pos ⟨gu.out, of_decide_eq_true hn⟩]; rfl
      rw [HL.out]
      go_enter Try.func14, Try.ntmps14
      go_wp2_with (go_at_call 19; refine (ready_ _ _ _ _ _ _).mono ?_; rintro e w2 ⟨rfl, hb2⟩; have R2 := Lib.hid (low2_1 hb2); have B2 := Lib.hid (low2 hb2); obtain ⟨x0, x1, x2, x3, y0, y1, y2, y3⟩ := cells4 R2.out; clear hb2)
      refine bodyPost_ret (res_c rfl _ _ (w.heap.size + 1) 24 (St.cells ⟨1, pa, 0, 0⟩) (0, 0) _ rfl (blk_set (blk_set (blk_set (blk_set R2.out 0 _) 1 _) 2 _) 3 _) Try.underlying24 rfl (by kernel_rfl)) rfl ?_
      exact ⟨rfl, (((B2.out.setCell (by simp) _).setCell (by simp) _).setCell (by simp) _).setCell (by simp) _⟩
    · have HL : Hid (tiS ⟨st, pa, po, un⟩ now = ⟨st, pa, po, un⟩) := by simp only [tiS]; rw [if_neg (fun h => of_decide_eq_false hn h.2)]; rfl
      rw [HL.out]
      go_enter Try.func14, Try.ntmps14
      go_wp2
      exact bodyPost_ret (v := .agg #[.int .i64 st, .int .i64 pa, .int .u32 po, .int .i64 un]) (by simp [results, Try.results14, go_sem]) rfl ⟨rfl, ((Below.refl _ _).alloc (Nat.le_refl _) _).alloc (by simp) _⟩
  · have gu := Lib.hid (of_decide_eq_false hu)
    clear hk
    have HL : Hid (tiS ⟨st, pa, po, un⟩ now = ⟨st, pa, po, un⟩) := by simp only [tiS]; rw [if_neg (fun h => gu.out h.1)]; rfl
    rw [HL.out]
    rcases Bool.eq_false_or_eq_true (st == 3) with e3 | e3
    all_goals
      go_enter Try.func14, Try.ntmps14
      go_wp2
      exact bodyPost_ret (v := .agg #[.int .i64 st, .int .i64 pa, .int .u32 po, .int .i64 un]) (by simp [results, Try.results14, go_sem]) rfl ⟨rfl, ((Below.refl _ _).alloc (Nat.le_refl _) _).alloc (by simp) _⟩

end Go.Proofs.Ytjppkcdonddohaa.A
