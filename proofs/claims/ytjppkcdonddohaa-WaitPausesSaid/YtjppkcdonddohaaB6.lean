/-
  Walks of the wait layer: turn over one of its closures.
-/
import Derived.Test.YtjppkcdonddohaaB0
set_option linter.unusedVariables false
set_option linter.unusedSimpArgs false
namespace Go.Proofs.Ytjppkcdonddohaa.A
open Go.RowKit

set_option maxHeartbeats 6400000 in
theorem turnTime (c0 : Nat) (s s' : St) (r : Int) (w : World)
    (hdo : okB s = true → ∀ (W : World) (b : Nat), Below w.heap.size w W → w.heap.size ≤ b → W.heap[b]? = some (.cells s.cells 24 (0, 0)) → Calls Try.prog 31 #[.pointer (some ⟨b, 0, none⟩), .pointer (some ⟨c0, 0, none⟩)] W (Does b s' r W)) :
    Calls Try.prog 27 #[.agg s.cells, .func (.func 31) #[] #[.pointer (some ⟨c0, 0, none⟩)]] w fun e w' => e = .returned (triple (tnS s s' r) (tnB s s' r) (tnE s r)) ∧ Below w.heap.size w w' := by
  obtain ⟨st, pa, po, un⟩ := s
  obtain ⟨st', pa', po', un'⟩ := s'
  by_cases hk : okB ⟨st, pa, po, un⟩ = true
  · have hb1 : (ckR ⟨st, pa, po, un⟩ != 0) = false := by simp [ckR, hk]
    have hkf : ¬ okB ⟨st, pa, po, un⟩ = false := by simp [hk]
    have hdo' := Lib.hid (hdo hk)
    clear hdo
    have hk' := Lib.hid hk
    clear hk
    rcases Bool.eq_false_or_eq_true (r != 0) with hr | hr
    · have hr0 : r ≠ 0 := by simpa using hr
      have hS : tnS ⟨st, pa, po, un⟩ ⟨st', pa', po', un'⟩ r = St.zero := by simp only [tnS]; rw [if_neg hkf, if_pos hr0]
      have hB : tnB ⟨st, pa, po, un⟩ ⟨st', pa', po', un'⟩ r = false := by simp only [tnB]; rw [if_neg hkf, if_pos hr0]
      have hE : tnE ⟨st, pa, po, un⟩ r = r := by simp only [tnE]; rw [if_neg hkf]
      rw [hS, hB, hE]
      clear hS hB hE hkf hr0
      go_enter Try.func27, Try.ntmps27
      go_wp2_with (first
        | (go_at_call 20; refine (check_ _ _ _ _ _).mono ?_; rintro e w1 ⟨rfl, hb⟩; obtain ⟨hc, hf⟩ := bcell hb; have hs1 := low2_s hb)
        | (go_at_call 31; refine (hdo'.out _ w.heap.size ((low2 hb).alloc (by omega) _) (Nat.le_refl _) (alloc_at (low2_0 hb))).mono ?_; rintro e w2 ⟨rfl, hbut, HB2⟩; have HH1 := Lib.hid ((hbut.block (w.heap.size + 1) (by simp; omega) (by omega)).trans (alloc_at (low2_1 hb))); have HH2 := Lib.hid ((hbut.block w1.heap.size (by simp) (by omega)).trans (new_at w1 _)); have HH3 := Lib.hid HB2; obtain ⟨x0, x1, x2, x3, y0, y1, y2, y3⟩ := cells4 HH1.out; obtain ⟨z0, z1, z2, z3, _, _, _, _⟩ := cells4 HB2; obtain ⟨u0, u1, u2, u3, _, _, _, _⟩ := cells4 HH2.out; have BB := Lib.hid (hbut.below ((low2 hb).alloc (by omega) _) (Nat.le_refl _) (by simp; omega)); clear HB2 hbut))
      refine bodyPost_ret (res_ctt rfl _ _ (w.heap.size + 1) 24 (St.cells St.zero) (0, 0) _ rfl (blk_set (blk_set (blk_set (blk_set HH1.out 0 _) 1 _) 2 _) 3 _) Try.underlying24 rfl (by kernel_rfl)) rfl ?_
      exact ⟨rfl, (((BB.out.setCell (by simp) _).setCell (by simp) _).setCell (by simp) _).setCell (by simp) _⟩
    · have hr0 : ¬ r ≠ 0 := by simpa using hr
      have hS : tnS ⟨st, pa, po, un⟩ ⟨st', pa', po', un'⟩ r = ⟨st', pa', po', un'⟩ := by simp only [tnS]; rw [if_neg hkf, if_neg hr0]
      have hB : tnB ⟨st, pa, po, un⟩ ⟨st', pa', po', un'⟩ r = (st' != st || pa' != pa || po' != po || un' != un) := by simp only [tnB]; rw [if_neg hkf, if_neg hr0]
      have hE : tnE ⟨st, pa, po, un⟩ r = 0 := by simp only [tnE]; rw [if_neg hkf]; omega
      rw [hS, hB, hE]
      clear hS hB hE hkf hr0
      by_cases e0 : st' = st
      · subst e0
        by_cases e1 : pa' = pa
        · subst e1
          by_cases e2 : po' = po
          · subst e2
            by_cases e3 : un' = un
            · subst e3
              go_enter Try.func27, Try.ntmps27
              go_wp2_with (first
                | (go_at_call 20; refine (check_ _ _ _ _ _).mono ?_; rintro e w1 ⟨rfl, hb⟩; obtain ⟨hc, hf⟩ := bcell hb; have hs1 := low2_s hb)
                | (go_at_call 31; refine (hdo'.out _ w.heap.size ((low2 hb).alloc (by omega) _) (Nat.le_refl _) (alloc_at (low2_0 hb))).mono ?_; rintro e w2 ⟨rfl, hbut, HB2⟩; have HH1 := Lib.hid ((hbut.block (w.heap.size + 1) (by simp; omega) (by omega)).trans (alloc_at (low2_1 hb))); have HH2 := Lib.hid ((hbut.block w1.heap.size (by simp) (by omega)).trans (new_at w1 _)); have HH3 := Lib.hid HB2; obtain ⟨x0, x1, x2, x3, y0, y1, y2, y3⟩ := cells4 HH1.out; obtain ⟨z0, z1, z2, z3, _, _, _, _⟩ := cells4 HB2; obtain ⟨u0, u1, u2, u3, _, _, _, _⟩ := cells4 HH2.out; have BB := Lib.hid (hbut.below ((low2 hb).alloc (by omega) _) (Nat.le_refl _) (by simp; omega)); clear HB2 hbut))
              go_region
              go_wp2
              refine bodyPost_ret (res_ctt rfl _ _ (w.heap.size + 1) 24 (St.cells ⟨st', pa', po', un'⟩) (0, 0) _ rfl (blk_set (blk_set (blk_set (blk_set HH1.out 0 _) 1 _) 2 _) 3 _) Try.underlying24 rfl (by kernel_rfl)) rfl ?_
              exact ⟨triple_eq (by clear hc hf hdo' hb; simp_all), ((((BB.out.setCell (by simp) _).setCell (by simp) _).setCell (by simp) _).setCell (by simp) _).drew⟩
            ·
              go_enter Try.func27, Try.ntmps27
              go_wp2_with (first
                | (go_at_call 20; refine (check_ _ _ _ _ _).mono ?_; rintro e w1 ⟨rfl, hb⟩; obtain ⟨hc, hf⟩ := bcell hb; have hs1 := low2_s hb)
                | (go_at_call 31; refine (hdo'.out _ w.heap.size ((low2 hb).alloc (by omega) _) (Nat.le_refl _) (alloc_at (low2_0 hb))).mono ?_; rintro e w2 ⟨rfl, hbut, HB2⟩; have HH1 := Lib.hid ((hbut.block (w.heap.size + 1) (by simp; omega) (by omega)).trans (alloc_at (low2_1 hb))); have HH2 := Lib.hid ((hbut.block w1.heap.size (by simp) (by omega)).trans (new_at w1 _)); have HH3 := Lib.hid HB2; obtain ⟨x0, x1, x2, x3, y0, y1, y2, y3⟩ := cells4 HH1.out; obtain ⟨z0, z1, z2, z3, _, _, _, _⟩ := cells4 HB2; obtain ⟨u0, u1, u2, u3, _, _, _, _⟩ := cells4 HH2.out; have BB := Lib.hid (hbut.below ((low2 hb).alloc (by omega) _) (Nat.le_refl _) (by simp; omega)); clear HB2 hbut))
              go_region
              go_wp2
              refine bodyPost_ret (res_ctt rfl _ _ (w.heap.size + 1) 24 (St.cells ⟨st', pa', po', un'⟩) (0, 0) _ rfl (blk_set (blk_set (blk_set (blk_set HH1.out 0 _) 1 _) 2 _) 3 _) Try.underlying24 rfl (by kernel_rfl)) rfl ?_
              exact ⟨triple_eq (by clear hc hf hdo' hb; simp_all), ((((BB.out.setCell (by simp) _).setCell (by simp) _).setCell (by simp) _).setCell (by simp) _).drew⟩
          ·
            go_enter Try.func27, Try.ntmps27
            go_wp2_with (first
              | (go_at_call 20; refine (check_ _ _ _ _ _).mono ?_; rintro e w1 ⟨rfl, hb⟩; obtain ⟨hc, hf⟩ := bcell hb; have hs1 := low2_s hb)
              | (go_at_call 31; refine (hdo'.out _ w.heap.size ((low2 hb).alloc (by omega) _) (Nat.le_refl _) (alloc_at (low2_0 hb))).mono ?_; rintro e w2 ⟨rfl, hbut, HB2⟩; have HH1 := Lib.hid ((hbut.block (w.heap.size + 1) (by simp; omega) (by omega)).trans (alloc_at (low2_1 hb))); have HH2 := Lib.hid ((hbut.block w1.heap.size (by simp) (by omega)).trans (new_at w1 _)); have HH3 := Lib.hid HB2; obtain ⟨x0, x1, x2, x3, y0, y1, y2, y3⟩ := cells4 HH1.out; obtain ⟨z0, z1, z2, z3, _, _, _, _⟩ := cells4 HB2; obtain ⟨u0, u1, u2, u3, _, _, _, _⟩ := cells4 HH2.out; have BB := Lib.hid (hbut.below ((low2 hb).alloc (by omega) _) (Nat.le_refl _) (by simp; omega)); clear HB2 hbut))
            go_region
            go_wp2
            refine bodyPost_ret (res_ctt rfl _ _ (w.heap.size + 1) 24 (St.cells ⟨st', pa', po', un'⟩) (0, 0) _ rfl (blk_set (blk_set (blk_set (blk_set HH1.out 0 _) 1 _) 2 _) 3 _) Try.underlying24 rfl (by kernel_rfl)) rfl ?_
            exact ⟨triple_eq (by clear hc hf hdo' hb; simp_all), ((((BB.out.setCell (by simp) _).setCell (by simp) _).setCell (by simp) _).setCell (by simp) _).drew⟩
        ·
          go_enter Try.func27, Try.ntmps27
          go_wp2_with (first
            | (go_at_call 20; refine (check_ _ _ _ _ _).mono ?_; rintro e w1 ⟨rfl, hb⟩; obtain ⟨hc, hf⟩ := bcell hb; have hs1 := low2_s hb)
            | (go_at_call 31; refine (hdo'.out _ w.heap.size ((low2 hb).alloc (by omega) _) (Nat.le_refl _) (alloc_at (low2_0 hb))).mono ?_; rintro e w2 ⟨rfl, hbut, HB2⟩; have HH1 := Lib.hid ((hbut.block (w.heap.size + 1) (by simp; omega) (by omega)).trans (alloc_at (low2_1 hb))); have HH2 := Lib.hid ((hbut.block w1.heap.size (by simp) (by omega)).trans (new_at w1 _)); have HH3 := Lib.hid HB2; obtain ⟨x0, x1, x2, x3, y0, y1, y2, y3⟩ := cells4 HH1.out; obtain ⟨z0, z1, z2, z3, _, _, _, _⟩ := cells4 HB2; obtain ⟨u0, u1, u2, u3, _, _, _, _⟩ := cells4 HH2.out; have BB := Lib.hid (hbut.below ((low2 hb).alloc (by omega) _) (Nat.le_refl _) (by simp; omega)); clear HB2 hbut))
          go_region
          go_wp2
          refine bodyPost_ret (res_ctt rfl _ _ (w.heap.size + 1) 24 (St.cells ⟨st', pa', po', un'⟩) (0, 0) _ rfl (blk_set (blk_set (blk_set (blk_set HH1.out 0 _) 1 _) 2 _) 3 _) Try.underlying24 rfl (by kernel_rfl)) rfl ?_
          exact ⟨triple_eq (by clear hc hf hdo' hb; simp_all), ((((BB.out.setCell (by simp) _).setCell (by simp) _).setCell (by simp) _).setCell (by simp) _).drew⟩
      ·
        go_enter Try.func27, Try.ntmps27
        go_wp2_with (first
          | (go_at_call 20; refine (check_ _ _ _ _ _).mono ?_; rintro e w1 ⟨rfl, hb⟩; obtain ⟨hc, hf⟩ := bcell hb; have hs1 := low2_s hb)
          | (go_at_call 31; refine (hdo'.out _ w.heap.size ((low2 hb).alloc (by omega) _) (Nat.le_refl _) (alloc_at (low2_0 hb))).mono ?_; rintro e w2 ⟨rfl, hbut, HB2⟩; have HH1 := Lib.hid ((hbut.block (w.heap.size + 1) (by simp; omega) (by omega)).trans (alloc_at (low2_1 hb))); have HH2 := Lib.hid ((hbut.block w1.heap.size (by simp) (by omega)).trans (new_at w1 _)); have HH3 := Lib.hid HB2; obtain ⟨x0, x1, x2, x3, y0, y1, y2, y3⟩ := cells4 HH1.out; obtain ⟨z0, z1, z2, z3, _, _, _, _⟩ := cells4 HB2; obtain ⟨u0, u1, u2, u3, _, _, _, _⟩ := cells4 HH2.out; have BB := Lib.hid (hbut.below ((low2 hb).alloc (by omega) _) (Nat.le_refl _) (by simp; omega)); clear HB2 hbut))
        go_region
        go_wp2
        refine bodyPost_ret (res_ctt rfl _ _ (w.heap.size + 1) 24 (St.cells ⟨st', pa', po', un'⟩) (0, 0) _ rfl (blk_set (blk_set (blk_set (blk_set HH1.out 0 _) 1 _) 2 _) 3 _) Try.underlying24 rfl (by kernel_rfl)) rfl ?_
        exact ⟨triple_eq (by clear hc hf hdo' hb; simp_all), ((((BB.out.setCell (by simp) _).setCell (by simp) _).setCell (by simp) _).setCell (by simp) _).drew⟩
  · have hb1 : (ckR ⟨st, pa, po, un⟩ != 0) = true := by simp [ckR, hk]
    have hk0 : okB ⟨st, pa, po, un⟩ = false := by simpa using hk
    have hS : tnS ⟨st, pa, po, un⟩ ⟨st', pa', po', un'⟩ r = St.zero := by simp only [tnS]; rw [if_pos hk0]
    have hB : tnB ⟨st, pa, po, un⟩ ⟨st', pa', po', un'⟩ r = false := by simp only [tnB]; rw [if_pos hk0]
    have hE : tnE ⟨st, pa, po, un⟩ r = ckR ⟨st, pa, po, un⟩ := by simp only [tnE, ckR]; rw [if_pos hk0, if_neg hk]
    rw [hS, hB, hE]
    clear hS hB hE hk0 hk
    go_enter Try.func27, Try.ntmps27
    go_wp2_with (go_at_call 20; refine (check_ _ _ _ _ _).mono ?_; rintro e w1 ⟨rfl, hb⟩; obtain ⟨hc, hf⟩ := bcell hb; have hs1 := low2_s hb)
    refine bodyPost_ret (res_ctt rfl _ _ (w.heap.size + 1) 24 (St.cells St.zero) (0, 0) _ rfl (blk_set (blk_set (blk_set (blk_set (low2_1 hb) 0 _) 1 _) 2 _) 3 _) Try.underlying24 rfl (by kernel_rfl)) rfl ?_
    exact ⟨rfl, ((((low2 hb).setCell (by simp) _).setCell (by simp) _).setCell (by simp) _).setCell (by simp) _⟩

end Go.Proofs.Ytjppkcdonddohaa.A
