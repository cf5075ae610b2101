/-
  Walks of the wait layer's statements: WaitPauses.
-/
import Derived.Test.YtjppkcdonddohaaN
set_option linter.unusedVariables false
set_option linter.unusedSimpArgs false
namespace Go.Proofs.Ytjppkcdonddohaa.A
open Go.RowKit
attribute [local go_sem] mx2_int mx_two
/-- blocks that the call has made, the last one first, and what they hold -/
structure Owns (w0 w : World) (L : List (Nat × Obj)) : Prop where
  below : Below w0.heap.size w0 w
  at_ : ∀ p ∈ L, w.heap[p.1]? = some p.2
  ord : L.Pairwise (fun p q => q.1 < p.1)
  base : ∀ p ∈ L, w0.heap.size ≤ p.1
theorem Owns.start (w : World) : Owns w w [] := ⟨Below.refl _ _, fun p h => (by cases h), .nil, fun p h => (by cases h)⟩
theorem Owns.alloc {w0 w : World} {L : List (Nat × Obj)} (h : Owns w0 w L) (n : Nat) (o : Obj) (hn : n = w.heap.size) : Owns w0 (w.alloc o) ((n, o) :: L) := by
  subst hn
  refine ⟨h.below.alloc h.below.size o, fun p hp => ?_, .cons (fun p hp => lt_blk (h.at_ p hp)) h.ord, fun p hp => ?_⟩
  · rcases List.mem_cons.1 hp with rfl | hp
    · exact new_at w o
    · exact alloc_at (h.at_ p hp)
  · rcases List.mem_cons.1 hp with rfl | hp
    · exact h.below.size
    · exact h.base p hp
theorem Owns.call {w0 w w' : World} {L : List (Nat × Obj)} (h : Owns w0 w L) (hb : Below w.heap.size w w') : Owns w0 w' L :=
  ⟨low_2 h.below hb, fun p hp => (hb.block _ (lt_blk (h.at_ p hp))).trans (h.at_ p hp), h.ord, h.base⟩
theorem Owns.drew {w0 w : World} {L : List (Nat × Obj)} (h : Owns w0 w L) : Owns w0 w.drew L := ⟨h.below.drew, h.at_, h.ord, h.base⟩
theorem Owns.nth {w0 w : World} {L : List (Nat × Obj)} (h : Owns w0 w L) (i : Nat) {n : Nat} {o : Obj} (hi : L[i]? = some (n, o)) : w.heap[n]? = some o :=
  h.at_ (n, o) (List.mem_of_getElem? hi)
theorem Owns.sub {w0 w : World} {L L' : List (Nat × Obj)} (h : Owns w0 w L) (hs : L'.Sublist L) : Owns w0 w L' :=
  ⟨h.below, fun p hp => h.at_ p (hs.subset hp), h.ord.sublist hs, fun p hp => h.base p (hs.subset hp)⟩
theorem pw_set {L : List (Nat × Obj)} {i n : Nat} {o o' : Obj} (h : L.Pairwise (fun p q => q.1 < p.1)) (hi : L[i]? = some (n, o)) :
    (L.set i (n, o')).Pairwise (fun p q => q.1 < p.1) ∧ ∀ p ∈ L.set i (n, o'), p = (n, o') ∨ (p ∈ L ∧ p.1 ≠ n) := by
  induction L generalizing i with
  | nil => simp at hi
  | cons q L ih =>
    obtain ⟨h1, h2⟩ := List.pairwise_cons.1 h
    cases i with
    | zero =>
      simp only [List.getElem?_cons_zero, Option.some.injEq] at hi
      subst hi
      refine ⟨.cons (fun p hp => h1 p hp) h2, fun p hp => ?_⟩
      rcases List.mem_cons.1 hp with rfl | hp
      · exact .inl rfl
      · exact .inr ⟨List.mem_cons_of_mem _ hp, fun e => by have := h1 p hp; simp only at this; omega⟩
    | succ i =>
      simp only [List.getElem?_cons_succ] at hi
      obtain ⟨k1, k2⟩ := ih h2 hi
      have hm : (n, o) ∈ L := List.mem_of_getElem? hi
      refine ⟨.cons (fun p hp => ?_) k1, fun p hp => ?_⟩
      · rcases k2 p hp with rfl | ⟨hp, _⟩
        · exact (show n < q.1 from (h1 (n, o) hm))
        · exact h1 p hp
      · rcases List.mem_cons.1 hp with rfl | hp
        · exact .inr ⟨List.mem_cons_self .., fun e => by have := h1 _ hm; simp only at this; omega⟩
        · rcases k2 p hp with h | ⟨a, b⟩
          · exact .inl h
          · exact .inr ⟨List.mem_cons_of_mem _ a, b⟩
theorem Owns.set4 {w0 w : World} {L : List (Nat × Obj)} (h : Owns w0 w L) (i : Nat) {X : Nat} {a b c d : Value} (hi : L[i]? = some (X, .cells #[a, b, c, d] 24 (0, 0))) (a' b' c' d' : Value) :
    Owns w0 ((((w.setCell ⟨X, 0, none⟩ a').setCell ⟨X, 1, none⟩ b').setCell ⟨X, 2, none⟩ c').setCell ⟨X, 3, none⟩ d') (L.set i (X, .cells #[a', b', c', d'] 24 (0, 0))) := by
  have hm := List.mem_of_getElem? hi
  have hX := h.base _ hm
  obtain ⟨k1, k2⟩ := pw_set (o' := .cells #[a', b', c', d'] 24 (0, 0)) h.ord hi
  refine ⟨(((h.below.setCell hX _).setCell hX _).setCell hX _).setCell hX _, fun p hp => ?_, k1, fun p hp => ?_⟩
  · rcases k2 p hp with rfl | ⟨hp, hne⟩
    · exact blk_set (blk_set (blk_set (blk_set (h.at_ _ hm) 0 a') 1 b') 2 c') 3 d'
    · exact set_far (set_far (set_far (set_far (h.at_ p hp) hne 0 a') hne 1 b') hne 2 c') hne 3 d'
  · rcases k2 p hp with rfl | ⟨hp, hne⟩
    · exact hX
    · exact h.base p hp
theorem Owns.lt2 {w0 w : World} {L : List (Nat × Obj)} (h : Owns w0 w L) (i j : Nat) (hij : i < j) {p q : Nat × Obj} (hi : L[i]? = some p) (hj : L[j]? = some q) : q.1 < p.1 := by
  obtain ⟨a, rfl⟩ := List.getElem?_eq_some_iff.1 hi
  obtain ⟨b, rfl⟩ := List.getElem?_eq_some_iff.1 hj
  exact List.pairwise_iff_getElem.1 h.ord i j a b hij

theorem runs_pa {st v po un : Int} (h : v ≠ 0) : runsB ⟨st, v, po, un⟩ = false := by
  have e : (v == 0) = false := by simp [h]
  simp [runsB, e]
theorem unpause_ (s : St) (w : World) : Calls Try.prog 23 #[.agg s.cells] w fun e w' => e = .returned (triple (tnS s (unS s) (unR s)) (runsB (tnS s (unS s) (unR s))) (tnE s (unR s))) ∧ Below w.heap.size w w' :=
  unpause_core s _ _ _ w (fun W => Lib.hid (turnUnpause s (unS s) (unR s) W (fun hk W b _ _ hb => unpause1_ b s W hb (okB_pa hk))))
theorem pause_ok (s : St) (hk : okB s = true) (h : s.pa < 15) (W : World) :
    Calls Try.prog 21 #[.agg s.cells] W fun e w' => e = .returned (.tuple #[.agg (St.cells ⟨s.st, s.pa + 1, s.po, s.un⟩), .int .i64 0]) ∧ Below W.heap.size W w' := by
  have := pause_ s W
  have e1 : paS s = ⟨s.st, s.pa + 1, s.po, s.un⟩ := by simp only [paS]; rw [if_neg (by omega)]
  have e2 : paR s = 0 := by simp only [paR]; rw [if_neg (by omega)]
  rw [e1, e2, tnS_ok hk, tnE_ok hk] at this
  exact this
theorem pause_full (s : St) (hk : okB s = true) (h : s.pa = 15) (W : World) :
    Calls Try.prog 21 #[.agg s.cells] W fun e w' => e = .returned (.tuple #[.agg (St.cells ⟨0, 0, 0, 0⟩), .int .i64 6]) ∧ Below W.heap.size W w' := by
  have := pause_ s W
  have e2 : paR s = 6 := by simp only [paR]; rw [if_pos h]
  rw [e2, tnS_err (by decide), tnE_ok hk] at this
  exact this
theorem unpause_ok (s : St) (hk : okB s = true) (h : s.pa ≠ 0) (W : World) :
    Calls Try.prog 23 #[.agg s.cells] W fun e w' => e = .returned (triple ⟨s.st, s.pa - 1, s.po, s.un⟩ (runsB ⟨s.st, s.pa - 1, s.po, s.un⟩) 0) ∧ Below W.heap.size W w' := by
  have := unpause_ s W
  have e1 : unS s = ⟨s.st, s.pa - 1, s.po, s.un⟩ := by simp only [unS]; rw [if_neg h]
  have e2 : unR s = 0 := by simp only [unR]; rw [if_neg h]
  rw [e1, e2, tnS_ok hk, tnE_ok hk] at this
  exact this

set_option maxRecDepth 100000 in
set_option maxHeartbeats 6400000 in
theorem pauses_bad (s : St) (n port : Int) (hk : okB s = false) (w : World) :
    Calls Try.prog 6 #[.agg s.cells, .int .i64 n, .int .i64 port] w fun e w' => e = .returned (.bool true) ∧ Below w.heap.size w w' := by
  obtain ⟨st, pa, po, un⟩ := s
  have hb1 : (ckR ⟨st, pa, po, un⟩ != 0) = true := by simp [ckR, hk]
  have O := Lib.hid (Owns.start w)
  go_enter Try.func6, Try.ntmps6
  go_wp2_with fail
  refine (wakes_ _).mono ?_
  rintro e w1 ⟨rfl, hb⟩
  have O1 := Lib.hid ((O.out.alloc w.heap.size _ rfl).call hb)
  clear hb O 
  obtain ⟨s_0, s_1, s_2, s_3, s_f0, s_f1, s_f2, s_f3⟩ := cells4 (O1.out.nth 0 rfl)
  have l_s := lt_blk (O1.out.nth 0 rfl)
  go_wp2_with fail
  refine (check_ _ _ _ _ _).mono ?_
  rintro e w2 ⟨rfl, hb⟩
  have O2 := Lib.hid (O1.out.call hb)
  clear hb O1 s_0 s_1 s_2 s_3 s_f0 s_f1 s_f2 s_f3 l_s
  obtain ⟨s_0, s_1, s_2, s_3, s_f0, s_f1, s_f2, s_f3⟩ := cells4 (O2.out.nth 0 rfl)
  have l_s := lt_blk (O2.out.nth 0 rfl)
  go_wp2
  go_ret
  exact ⟨rfl, O2.out.below⟩

set_option maxRecDepth 100000 in
set_option maxHeartbeats 40000000 in
theorem pauses_good_11 (s : St) (A : Int → St) (B : Int → Bool) (n port : Int) (hn0 : -9223372036854775808 ≤ n) (hn1 : n ≤ 9223372036854775807) (hp0 : -9223372036854775808 ≤ port) (hp1 : port ≤ 9223372036854775807) (hk : okB s = true) (hneg : n < 0) (hpn : port < 0)
    (g1 : ∀ q, 0 ≤ q → q < 32 → ∀ W, Hid (Calls Try.prog 10 #[.agg s.cells, .int .i64 q, .bool false] W fun e w' => e = .returned (triple (A q) (B q) 0) ∧ Below W.heap.size W w'))
    (g2 : ∀ q (j : Nat), 0 ≤ q → q < 32 → s.pa + j ≤ 15 → ∀ W, Hid (Calls Try.prog 10 #[.agg (St.cells ⟨s.st, s.pa + j, s.po, s.un⟩), .int .i64 q, .bool false] W fun e w' => e = .returned (triple ⟨(A q).st, (A q).pa + j, (A q).po, (A q).un⟩ (B q) 0) ∧ Below W.heap.size W w'))
    (gK0 : ∀ q (u : Int), 0 ≤ u ∧ u ≤ 15 → okB ⟨(A q).st, u, (A q).po, (A q).un⟩ = true) (hA0 : ∀ q, (A q).pa = s.pa) (okS0 : ∀ v : Int, 0 ≤ v → v ≤ 15 → okB ⟨s.st, v, s.po, s.un⟩ = true) (w : World) :
    Calls Try.prog 6 #[.agg s.cells, .int .i64 n, .int .i64 port] w fun e w' => e = .returned (.bool true) ∧ Below w.heap.size w w' := by
  have hpa := okB_pa hk
  obtain ⟨st, pa, po, un⟩ := s
  have hpa0 : 0 ≤ pa := hpa.1
  have hpa1 : pa ≤ 15 := hpa.2
  clear hpa
  have hb1 : (ckR ⟨st, pa, po, un⟩ != 0) = false := by simp [ckR, hk]
  have gK := Lib.hid gK0
  have okS := Lib.hid okS0
  have hA : Hid (∀ q, (A q).pa = pa) := hA0
  clear gK0 okS0 hk hA0
  have O := Lib.hid (Owns.start w)
  have hm0 : 0 ≤ (0 : Int) := by omega
  have hm1 : (0 : Int) ≤ 15 := by omega
  go_enter Try.func6, Try.ntmps6
  go_wp2_with fail
  refine (wakes_ _).mono ?_
  rintro e w1 ⟨rfl, hb⟩
  have O1 := Lib.hid ((O.out.alloc w.heap.size _ rfl).call hb)
  clear hb O 
  obtain ⟨s_0, s_1, s_2, s_3, s_f0, s_f1, s_f2, s_f3⟩ := cells4 (O1.out.nth 0 rfl)
  have l_s := lt_blk (O1.out.nth 0 rfl)
  go_wp2_with fail
  refine (check_ _ _ _ _ _).mono ?_
  rintro e w2 ⟨rfl, hb⟩
  have O2 := Lib.hid (O1.out.call hb)
  clear hb O1 s_0 s_1 s_2 s_3 s_f0 s_f1 s_f2 s_f3 l_s
  obtain ⟨s_0, s_1, s_2, s_3, s_f0, s_f1, s_f2, s_f3⟩ := cells4 (O2.out.nth 0 rfl)
  have l_s := lt_blk (O2.out.nth 0 rfl)
  go_wp2_with fail
  clear s_0 s_1 s_2 s_3 s_f0 s_f1 s_f2 s_f3 l_s
  go_loopw [8, 34] (fun c i wr => ∃ j : Nat, (j : Int) ≤ 0 ∧ c = .int .i64 j ∧ i = .int .i64 j ∧ Hid (pa + j ≤ 15) ∧ Hid (Owns w wr [(w2.heap.size, .cells (St.cells ⟨st, pa + j, po, un⟩) 24 (0, 0)), (w.heap.size, .cells (St.cells ⟨st, pa, po, un⟩) 24 (0, 0))])) (fun _ i _ => (0 - intOf i).toNat)
  case atStart => exact ⟨0, by omega, rfl, rfl, Lib.hid (by omega), Lib.hid (by have := O2.out.alloc w2.heap.size (.cells (St.cells ⟨st, pa, po, un⟩) 24 (0, 0)) rfl; simpa using this)⟩
  case round =>
    obtain ⟨j, hj, rfl, rfl, hpj, O3⟩ := hrel
    obtain ⟨w3, rfl⟩ : ∃ w3 : World, w3 = wr := ⟨_, rfl⟩
    by_cases hlt : (j : Int) < 0
    · exfalso; omega
    · obtain ⟨x_0, x_1, x_2, x_3, x_f0, x_f1, x_f2, x_f3⟩ := cells4 (O3.out.nth 0 rfl)
      have l_x := lt_blk (O3.out.nth 0 rfl)
      obtain ⟨s_0, s_1, s_2, s_3, s_f0, s_f1, s_f2, s_f3⟩ := cells4 (O3.out.nth 1 rfl)
      have l_s := lt_blk (O3.out.nth 1 rfl)
      have hq0 : 0 ≤ (0 : Int) := by omega
      have hq1 : (0 : Int) < 32 := by omega
      have g1q := g1 0 hq0 hq1
      have g2q := g2 0 j hq0 hq1 hpj.out
      have gKq0 := gK.out 0
      have hAq := hA.out 0
      generalize A 0 = Aq at g1q g2q gKq0 hAq
      generalize B 0 = Bq at g1q g2q
      have gKq := Lib.hid gKq0
      clear gKq0
      clear g1 g2 gK hA
      obtain ⟨a0, a1, a2, a3⟩ := Aq
      obtain rfl : pa = a1 := hAq.symm
      go_wp2_with fail
      refine ((g1q _).out).mono ?_
      rintro e w4 ⟨rfl, hb⟩
      have O4 := Lib.hid (O3.out.call hb)
      clear hb O3 x_0 x_1 x_2 x_3 x_f0 x_f1 x_f2 x_f3 l_x s_0 s_1 s_2 s_3 s_f0 s_f1 s_f2 s_f3 l_s
      obtain ⟨x_0, x_1, x_2, x_3, x_f0, x_f1, x_f2, x_f3⟩ := cells4 (O4.out.nth 0 rfl)
      have l_x := lt_blk (O4.out.nth 0 rfl)
      obtain ⟨s_0, s_1, s_2, s_3, s_f0, s_f1, s_f2, s_f3⟩ := cells4 (O4.out.nth 1 rfl)
      have l_s := lt_blk (O4.out.nth 1 rfl)
      go_wp2_with fail
      refine ((g2q _).out).mono ?_
      rintro e w5 ⟨rfl, hb⟩
      have O5 := Lib.hid ((O4.out.alloc w4.heap.size _ rfl).call hb)
      clear hb O4 x_0 x_1 x_2 x_3 x_f0 x_f1 x_f2 x_f3 l_x s_0 s_1 s_2 s_3 s_f0 s_f1 s_f2 s_f3 l_s
      obtain ⟨a_0, a_1, a_2, a_3, a_f0, a_f1, a_f2, a_f3⟩ := cells4 (O5.out.nth 0 rfl)
      have l_a := lt_blk (O5.out.nth 0 rfl)
      obtain ⟨x_0, x_1, x_2, x_3, x_f0, x_f1, x_f2, x_f3⟩ := cells4 (O5.out.nth 1 rfl)
      have l_x := lt_blk (O5.out.nth 1 rfl)
      obtain ⟨s_0, s_1, s_2, s_3, s_f0, s_f1, s_f2, s_f3⟩ := cells4 (O5.out.nth 2 rfl)
      have l_s := lt_blk (O5.out.nth 2 rfl)
      go_wp2_with fail
      clear a_0 a_1 a_2 a_3 a_f0 a_f1 a_f2 a_f3 l_a x_0 x_1 x_2 x_3 x_f0 x_f1 x_f2 x_f3 l_x s_0 s_1 s_2 s_3 s_f0 s_f1 s_f2 s_f3 l_s
      go_loopw [78] (fun i wr => ∃ (i2 : Nat) (v : Int), i2 ≤ j ∧ i = .int .i64 i2 ∧ Hid (v = pa + j - i2) ∧ Hid (Owns w wr [(w5.heap.size, .cells #[.int .i64 a0, .int .i64 v, .int .u32 a2, .int .i64 a3] 24 (0, 0)), (w4.heap.size, .cells #[.int .i64 a0, .int .i64 pa, .int .u32 a2, .int .i64 a3] 24 (0, 0)), (w2.heap.size, .cells #[.int .i64 st, .int .i64 v, .int .u32 po, .int .i64 un] 24 (0, 0)), (w.heap.size, .cells (St.cells ⟨st, pa, po, un⟩) 24 (0, 0))])) (fun i _ => j - (intOf i).toNat)
      case atStart => exact ⟨0, pa + j, by omega, rfl, Lib.hid (by omega), Lib.hid ((O5.out.alloc w5.heap.size _ rfl))⟩
      case round =>
        obtain ⟨i2, v, hi2, rfl, hv, O6⟩ := hrel
        obtain ⟨w6, rfl⟩ : ∃ w6 : World, w6 = wr := ⟨_, rfl⟩
        have hv0 : 0 ≤ v := by have := hv.out; omega
        have hv1 : v ≤ 15 := by have := hv.out; have := hpj.out; omega
        obtain ⟨b_0, b_1, b_2, b_3, b_f0, b_f1, b_f2, b_f3⟩ := cells4 (O6.out.nth 0 rfl)
        have l_b := lt_blk (O6.out.nth 0 rfl)
        obtain ⟨a_0, a_1, a_2, a_3, a_f0, a_f1, a_f2, a_f3⟩ := cells4 (O6.out.nth 1 rfl)
        have l_a := lt_blk (O6.out.nth 1 rfl)
        obtain ⟨x_0, x_1, x_2, x_3, x_f0, x_f1, x_f2, x_f3⟩ := cells4 (O6.out.nth 2 rfl)
        have l_x := lt_blk (O6.out.nth 2 rfl)
        obtain ⟨s_0, s_1, s_2, s_3, s_f0, s_f1, s_f2, s_f3⟩ := cells4 (O6.out.nth 3 rfl)
        have l_s := lt_blk (O6.out.nth 3 rfl)
        by_cases hlt : i2 < j
        · exfalso; omega
        · have hij : i2 = j := by omega
          subst hij
          obtain rfl : v = pa := by have := hv.out; omega

          go_wp2
          go_ret
          exact ⟨rfl, O6.out.below⟩

set_option maxRecDepth 100000 in
set_option maxHeartbeats 40000000 in
theorem pauses_good_10 (s : St) (A : Int → St) (B : Int → Bool) (n port : Int) (hn0 : -9223372036854775808 ≤ n) (hn1 : n ≤ 9223372036854775807) (hp0 : -9223372036854775808 ≤ port) (hp1 : port ≤ 9223372036854775807) (hk : okB s = true) (hneg : n < 0) (hpn : 0 ≤ port)
    (g1 : ∀ q, 0 ≤ q → q < 32 → ∀ W, Hid (Calls Try.prog 10 #[.agg s.cells, .int .i64 q, .bool false] W fun e w' => e = .returned (triple (A q) (B q) 0) ∧ Below W.heap.size W w'))
    (g2 : ∀ q (j : Nat), 0 ≤ q → q < 32 → s.pa + j ≤ 15 → ∀ W, Hid (Calls Try.prog 10 #[.agg (St.cells ⟨s.st, s.pa + j, s.po, s.un⟩), .int .i64 q, .bool false] W fun e w' => e = .returned (triple ⟨(A q).st, (A q).pa + j, (A q).po, (A q).un⟩ (B q) 0) ∧ Below W.heap.size W w'))
    (gK0 : ∀ q (u : Int), 0 ≤ u ∧ u ≤ 15 → okB ⟨(A q).st, u, (A q).po, (A q).un⟩ = true) (hA0 : ∀ q, (A q).pa = s.pa) (okS0 : ∀ v : Int, 0 ≤ v → v ≤ 15 → okB ⟨s.st, v, s.po, s.un⟩ = true) (w : World) :
    Calls Try.prog 6 #[.agg s.cells, .int .i64 n, .int .i64 port] w fun e w' => e = .returned (.bool true) ∧ Below w.heap.size w w' := by
  have hpa := okB_pa hk
  obtain ⟨st, pa, po, un⟩ := s
  have hpa0 : 0 ≤ pa := hpa.1
  have hpa1 : pa ≤ 15 := hpa.2
  clear hpa
  have hb1 : (ckR ⟨st, pa, po, un⟩ != 0) = false := by simp [ckR, hk]
  have gK := Lib.hid gK0
  have okS := Lib.hid okS0
  have hA : Hid (∀ q, (A q).pa = pa) := hA0
  clear gK0 okS0 hk hA0
  have O := Lib.hid (Owns.start w)
  have hm0 : 0 ≤ (0 : Int) := by omega
  have hm1 : (0 : Int) ≤ 15 := by omega
  go_enter Try.func6, Try.ntmps6
  go_wp2_with fail
  refine (wakes_ _).mono ?_
  rintro e w1 ⟨rfl, hb⟩
  have O1 := Lib.hid ((O.out.alloc w.heap.size _ rfl).call hb)
  clear hb O 
  obtain ⟨s_0, s_1, s_2, s_3, s_f0, s_f1, s_f2, s_f3⟩ := cells4 (O1.out.nth 0 rfl)
  have l_s := lt_blk (O1.out.nth 0 rfl)
  go_wp2_with fail
  refine (check_ _ _ _ _ _).mono ?_
  rintro e w2 ⟨rfl, hb⟩
  have O2 := Lib.hid (O1.out.call hb)
  clear hb O1 s_0 s_1 s_2 s_3 s_f0 s_f1 s_f2 s_f3 l_s
  obtain ⟨s_0, s_1, s_2, s_3, s_f0, s_f1, s_f2, s_f3⟩ := cells4 (O2.out.nth 0 rfl)
  have l_s := lt_blk (O2.out.nth 0 rfl)
  go_wp2_with fail
  clear s_0 s_1 s_2 s_3 s_f0 s_f1 s_f2 s_f3 l_s
  go_loopw [8, 34] (fun c i wr => ∃ j : Nat, (j : Int) ≤ 0 ∧ c = .int .i64 j ∧ i = .int .i64 j ∧ Hid (pa + j ≤ 15) ∧ Hid (Owns w wr [(w2.heap.size, .cells (St.cells ⟨st, pa + j, po, un⟩) 24 (0, 0)), (w.heap.size, .cells (St.cells ⟨st, pa, po, un⟩) 24 (0, 0))])) (fun _ i _ => (0 - intOf i).toNat)
  case atStart => exact ⟨0, by omega, rfl, rfl, Lib.hid (by omega), Lib.hid (by have := O2.out.alloc w2.heap.size (.cells (St.cells ⟨st, pa, po, un⟩) 24 (0, 0)) rfl; simpa using this)⟩
  case round =>
    obtain ⟨j, hj, rfl, rfl, hpj, O3⟩ := hrel
    obtain ⟨w3, rfl⟩ : ∃ w3 : World, w3 = wr := ⟨_, rfl⟩
    by_cases hlt : (j : Int) < 0
    · exfalso; omega
    · obtain ⟨x_0, x_1, x_2, x_3, x_f0, x_f1, x_f2, x_f3⟩ := cells4 (O3.out.nth 0 rfl)
      have l_x := lt_blk (O3.out.nth 0 rfl)
      obtain ⟨s_0, s_1, s_2, s_3, s_f0, s_f1, s_f2, s_f3⟩ := cells4 (O3.out.nth 1 rfl)
      have l_s := lt_blk (O3.out.nth 1 rfl)
      have hq0 : 0 ≤ port % 32 := by omega
      have hq1 : port % 32 < 32 := by omega
      have g1q := g1 (port % 32) hq0 hq1
      have g2q := g2 (port % 32) j hq0 hq1 hpj.out
      have gKq0 := gK.out (port % 32)
      have hAq := hA.out (port % 32)
      generalize A (port % 32) = Aq at g1q g2q gKq0 hAq
      generalize B (port % 32) = Bq at g1q g2q
      have gKq := Lib.hid gKq0
      clear gKq0
      clear g1 g2 gK hA
      obtain ⟨a0, a1, a2, a3⟩ := Aq
      obtain rfl : pa = a1 := hAq.symm
      go_wp2_with fail
      generalize port % 32 = qq at hq0 hq1 g1q g2q ⊢
      refine ((g1q _).out).mono ?_
      rintro e w4 ⟨rfl, hb⟩
      have O4 := Lib.hid (O3.out.call hb)
      clear hb O3 x_0 x_1 x_2 x_3 x_f0 x_f1 x_f2 x_f3 l_x s_0 s_1 s_2 s_3 s_f0 s_f1 s_f2 s_f3 l_s
      obtain ⟨x_0, x_1, x_2, x_3, x_f0, x_f1, x_f2, x_f3⟩ := cells4 (O4.out.nth 0 rfl)
      have l_x := lt_blk (O4.out.nth 0 rfl)
      obtain ⟨s_0, s_1, s_2, s_3, s_f0, s_f1, s_f2, s_f3⟩ := cells4 (O4.out.nth 1 rfl)
      have l_s := lt_blk (O4.out.nth 1 rfl)
      go_wp2_with fail
      refine ((g2q _).out).mono ?_
      rintro e w5 ⟨rfl, hb⟩
      have O5 := Lib.hid ((O4.out.alloc w4.heap.size _ rfl).call hb)
      clear hb O4 x_0 x_1 x_2 x_3 x_f0 x_f1 x_f2 x_f3 l_x s_0 s_1 s_2 s_3 s_f0 s_f1 s_f2 s_f3 l_s
      obtain ⟨a_0, a_1, a_2, a_3, a_f0, a_f1, a_f2, a_f3⟩ := cells4 (O5.out.nth 0 rfl)
      have l_a := lt_blk (O5.out.nth 0 rfl)
      obtain ⟨x_0, x_1, x_2, x_3, x_f0, x_f1, x_f2, x_f3⟩ := cells4 (O5.out.nth 1 rfl)
      have l_x := lt_blk (O5.out.nth 1 rfl)
      obtain ⟨s_0, s_1, s_2, s_3, s_f0, s_f1, s_f2, s_f3⟩ := cells4 (O5.out.nth 2 rfl)
      have l_s := lt_blk (O5.out.nth 2 rfl)
      go_wp2_with fail
      clear a_0 a_1 a_2 a_3 a_f0 a_f1 a_f2 a_f3 l_a x_0 x_1 x_2 x_3 x_f0 x_f1 x_f2 x_f3 l_x s_0 s_1 s_2 s_3 s_f0 s_f1 s_f2 s_f3 l_s
      go_loopw [78] (fun i wr => ∃ (i2 : Nat) (v : Int), i2 ≤ j ∧ i = .int .i64 i2 ∧ Hid (v = pa + j - i2) ∧ Hid (Owns w wr [(w5.heap.size, .cells #[.int .i64 a0, .int .i64 v, .int .u32 a2, .int .i64 a3] 24 (0, 0)), (w4.heap.size, .cells #[.int .i64 a0, .int .i64 pa, .int .u32 a2, .int .i64 a3] 24 (0, 0)), (w2.heap.size, .cells #[.int .i64 st, .int .i64 v, .int .u32 po, .int .i64 un] 24 (0, 0)), (w.heap.size, .cells (St.cells ⟨st, pa, po, un⟩) 24 (0, 0))])) (fun i _ => j - (intOf i).toNat)
      case atStart => exact ⟨0, pa + j, by omega, rfl, Lib.hid (by omega), Lib.hid ((O5.out.alloc w5.heap.size _ rfl))⟩
      case round =>
        obtain ⟨i2, v, hi2, rfl, hv, O6⟩ := hrel
        obtain ⟨w6, rfl⟩ : ∃ w6 : World, w6 = wr := ⟨_, rfl⟩
        have hv0 : 0 ≤ v := by have := hv.out; omega
        have hv1 : v ≤ 15 := by have := hv.out; have := hpj.out; omega
        obtain ⟨b_0, b_1, b_2, b_3, b_f0, b_f1, b_f2, b_f3⟩ := cells4 (O6.out.nth 0 rfl)
        have l_b := lt_blk (O6.out.nth 0 rfl)
        obtain ⟨a_0, a_1, a_2, a_3, a_f0, a_f1, a_f2, a_f3⟩ := cells4 (O6.out.nth 1 rfl)
        have l_a := lt_blk (O6.out.nth 1 rfl)
        obtain ⟨x_0, x_1, x_2, x_3, x_f0, x_f1, x_f2, x_f3⟩ := cells4 (O6.out.nth 2 rfl)
        have l_x := lt_blk (O6.out.nth 2 rfl)
        obtain ⟨s_0, s_1, s_2, s_3, s_f0, s_f1, s_f2, s_f3⟩ := cells4 (O6.out.nth 3 rfl)
        have l_s := lt_blk (O6.out.nth 3 rfl)
        by_cases hlt : i2 < j
        · exfalso; omega
        · have hij : i2 = j := by omega
          subst hij
          obtain rfl : v = pa := by have := hv.out; omega

          go_wp2
          go_ret
          exact ⟨rfl, O6.out.below⟩

set_option maxRecDepth 100000 in
set_option maxHeartbeats 40000000 in
theorem pauses_good_01 (s : St) (A : Int → St) (B : Int → Bool) (n port : Int) (hn0 : -9223372036854775808 ≤ n) (hn1 : n ≤ 9223372036854775807) (hp0 : -9223372036854775808 ≤ port) (hp1 : port ≤ 9223372036854775807) (hk : okB s = true) (hneg : 0 ≤ n) (hpn : port < 0)
    (g1 : ∀ q, 0 ≤ q → q < 32 → ∀ W, Hid (Calls Try.prog 10 #[.agg s.cells, .int .i64 q, .bool false] W fun e w' => e = .returned (triple (A q) (B q) 0) ∧ Below W.heap.size W w'))
    (g2 : ∀ q (j : Nat), 0 ≤ q → q < 32 → s.pa + j ≤ 15 → ∀ W, Hid (Calls Try.prog 10 #[.agg (St.cells ⟨s.st, s.pa + j, s.po, s.un⟩), .int .i64 q, .bool false] W fun e w' => e = .returned (triple ⟨(A q).st, (A q).pa + j, (A q).po, (A q).un⟩ (B q) 0) ∧ Below W.heap.size W w'))
    (gK0 : ∀ q (u : Int), 0 ≤ u ∧ u ≤ 15 → okB ⟨(A q).st, u, (A q).po, (A q).un⟩ = true) (hA0 : ∀ q, (A q).pa = s.pa) (okS0 : ∀ v : Int, 0 ≤ v → v ≤ 15 → okB ⟨s.st, v, s.po, s.un⟩ = true) (w : World) :
    Calls Try.prog 6 #[.agg s.cells, .int .i64 n, .int .i64 port] w fun e w' => e = .returned (.bool true) ∧ Below w.heap.size w w' := by
  have hpa := okB_pa hk
  obtain ⟨st, pa, po, un⟩ := s
  have hpa0 : 0 ≤ pa := hpa.1
  have hpa1 : pa ≤ 15 := hpa.2
  clear hpa
  have hb1 : (ckR ⟨st, pa, po, un⟩ != 0) = false := by simp [ckR, hk]
  have gK := Lib.hid gK0
  have okS := Lib.hid okS0
  have hA : Hid (∀ q, (A q).pa = pa) := hA0
  clear gK0 okS0 hk hA0
  have O := Lib.hid (Owns.start w)
  have hm0 : 0 ≤ n % 16 := by omega
  have hm1 : n % 16 ≤ 15 := by omega
  go_enter Try.func6, Try.ntmps6
  go_wp2_with fail
  refine (wakes_ _).mono ?_
  rintro e w1 ⟨rfl, hb⟩
  have O1 := Lib.hid ((O.out.alloc w.heap.size _ rfl).call hb)
  clear hb O 
  obtain ⟨s_0, s_1, s_2, s_3, s_f0, s_f1, s_f2, s_f3⟩ := cells4 (O1.out.nth 0 rfl)
  have l_s := lt_blk (O1.out.nth 0 rfl)
  go_wp2_with fail
  refine (check_ _ _ _ _ _).mono ?_
  rintro e w2 ⟨rfl, hb⟩
  have O2 := Lib.hid (O1.out.call hb)
  clear hb O1 s_0 s_1 s_2 s_3 s_f0 s_f1 s_f2 s_f3 l_s
  obtain ⟨s_0, s_1, s_2, s_3, s_f0, s_f1, s_f2, s_f3⟩ := cells4 (O2.out.nth 0 rfl)
  have l_s := lt_blk (O2.out.nth 0 rfl)
  go_wp2_with fail
  clear s_0 s_1 s_2 s_3 s_f0 s_f1 s_f2 s_f3 l_s
  generalize n % 16 = mq at hm0 hm1 ⊢
  go_loopw [8, 34] (fun c i wr => ∃ j : Nat, (j : Int) ≤ mq ∧ c = .int .i64 j ∧ i = .int .i64 j ∧ Hid (pa + j ≤ 15) ∧ Hid (Owns w wr [(w2.heap.size, .cells (St.cells ⟨st, pa + j, po, un⟩) 24 (0, 0)), (w.heap.size, .cells (St.cells ⟨st, pa, po, un⟩) 24 (0, 0))])) (fun _ i _ => (mq - intOf i).toNat)
  case atStart => exact ⟨0, by omega, rfl, rfl, Lib.hid (by omega), Lib.hid (by have := O2.out.alloc w2.heap.size (.cells (St.cells ⟨st, pa, po, un⟩) 24 (0, 0)) rfl; simpa using this)⟩
  case round =>
    obtain ⟨j, hj, rfl, rfl, hpj, O3⟩ := hrel
    obtain ⟨w3, rfl⟩ : ∃ w3 : World, w3 = wr := ⟨_, rfl⟩
    by_cases hlt : (j : Int) < mq
    · by_cases hfull0 : pa + j = 15
      · obtain ⟨x_0, x_1, x_2, x_3, x_f0, x_f1, x_f2, x_f3⟩ := cells4 (O3.out.nth 0 rfl)
        have l_x := lt_blk (O3.out.nth 0 rfl)
        obtain ⟨s_0, s_1, s_2, s_3, s_f0, s_f1, s_f2, s_f3⟩ := cells4 (O3.out.nth 1 rfl)
        have l_s := lt_blk (O3.out.nth 1 rfl)
        have cp := fun W => Lib.hid (pause_full ⟨st, pa + j, po, un⟩ (okS.out (pa + j) (by omega) hpj.out) hfull0 W)
        have hfull := Lib.hid hfull0
        clear hfull0
        go_wp2_with fail
        refine ((cp _).out).mono ?_
        rintro e w4 ⟨rfl, hb⟩
        have O4 := Lib.hid (O3.out.call hb)
        clear hb O3 x_0 x_1 x_2 x_3 x_f0 x_f1 x_f2 x_f3 l_x s_0 s_1 s_2 s_3 s_f0 s_f1 s_f2 s_f3 l_s
        obtain ⟨x_0, x_1, x_2, x_3, x_f0, x_f1, x_f2, x_f3⟩ := cells4 (O4.out.nth 0 rfl)
        have l_x := lt_blk (O4.out.nth 0 rfl)
        obtain ⟨s_0, s_1, s_2, s_3, s_f0, s_f1, s_f2, s_f3⟩ := cells4 (O4.out.nth 1 rfl)
        have l_s := lt_blk (O4.out.nth 1 rfl)
        have hq0 : 0 ≤ (0 : Int) := by omega
        have hq1 : (0 : Int) < 32 := by omega
        have g1q := g1 0 hq0 hq1
        have g2q := g2 0 j hq0 hq1 hpj.out
        have gKq0 := gK.out 0
        have hAq := hA.out 0
        generalize A 0 = Aq at g1q g2q gKq0 hAq
        generalize B 0 = Bq at g1q g2q
        have gKq := Lib.hid gKq0
        clear gKq0
        clear g1 g2 gK hA
        obtain ⟨a0, a1, a2, a3⟩ := Aq
        obtain rfl : pa = a1 := hAq.symm
        go_wp2_with fail
        refine ((g1q _).out).mono ?_
        rintro e w5 ⟨rfl, hb⟩
        have O5 := Lib.hid ((O4.out.alloc w4.heap.size _ rfl).call hb)
        clear hb O4 x_0 x_1 x_2 x_3 x_f0 x_f1 x_f2 x_f3 l_x s_0 s_1 s_2 s_3 s_f0 s_f1 s_f2 s_f3 l_s
        obtain ⟨y_0, y_1, y_2, y_3, y_f0, y_f1, y_f2, y_f3⟩ := cells4 (O5.out.nth 0 rfl)
        have l_y := lt_blk (O5.out.nth 0 rfl)
        obtain ⟨x_0, x_1, x_2, x_3, x_f0, x_f1, x_f2, x_f3⟩ := cells4 (O5.out.nth 1 rfl)
        have l_x := lt_blk (O5.out.nth 1 rfl)
        obtain ⟨s_0, s_1, s_2, s_3, s_f0, s_f1, s_f2, s_f3⟩ := cells4 (O5.out.nth 2 rfl)
        have l_s := lt_blk (O5.out.nth 2 rfl)
        go_wp2_with fail
        refine ((g2q _).out).mono ?_
        rintro e w6 ⟨rfl, hb⟩
        have O6 := Lib.hid ((O5.out.alloc w5.heap.size _ rfl).call hb)
        clear hb O5 y_0 y_1 y_2 y_3 y_f0 y_f1 y_f2 y_f3 l_y x_0 x_1 x_2 x_3 x_f0 x_f1 x_f2 x_f3 l_x s_0 s_1 s_2 s_3 s_f0 s_f1 s_f2 s_f3 l_s
        obtain ⟨a_0, a_1, a_2, a_3, a_f0, a_f1, a_f2, a_f3⟩ := cells4 (O6.out.nth 0 rfl)
        have l_a := lt_blk (O6.out.nth 0 rfl)
        obtain ⟨y_0, y_1, y_2, y_3, y_f0, y_f1, y_f2, y_f3⟩ := cells4 (O6.out.nth 1 rfl)
        have l_y := lt_blk (O6.out.nth 1 rfl)
        obtain ⟨x_0, x_1, x_2, x_3, x_f0, x_f1, x_f2, x_f3⟩ := cells4 (O6.out.nth 2 rfl)
        have l_x := lt_blk (O6.out.nth 2 rfl)
        obtain ⟨s_0, s_1, s_2, s_3, s_f0, s_f1, s_f2, s_f3⟩ := cells4 (O6.out.nth 3 rfl)
        have l_s := lt_blk (O6.out.nth 3 rfl)
        go_wp2_with fail
        clear a_0 a_1 a_2 a_3 a_f0 a_f1 a_f2 a_f3 l_a y_0 y_1 y_2 y_3 y_f0 y_f1 y_f2 y_f3 l_y x_0 x_1 x_2 x_3 x_f0 x_f1 x_f2 x_f3 l_x s_0 s_1 s_2 s_3 s_f0 s_f1 s_f2 s_f3 l_s
        go_loopw [78] (fun i wr => ∃ (i2 : Nat) (v : Int), i2 ≤ j ∧ i = .int .i64 i2 ∧ Hid (v = pa + j - i2) ∧ Hid (Owns w wr [(w6.heap.size, .cells #[.int .i64 a0, .int .i64 v, .int .u32 a2, .int .i64 a3] 24 (0, 0)), (w5.heap.size, .cells #[.int .i64 a0, .int .i64 pa, .int .u32 a2, .int .i64 a3] 24 (0, 0)), (w2.heap.size, .cells #[.int .i64 st, .int .i64 v, .int .u32 po, .int .i64 un] 24 (0, 0)), (w.heap.size, .cells (St.cells ⟨st, pa, po, un⟩) 24 (0, 0))])) (fun i _ => j - (intOf i).toNat)
        case atStart => exact ⟨0, pa + j, by omega, rfl, Lib.hid (by omega), Lib.hid (((O6.out.alloc w6.heap.size _ rfl).sub (.cons_cons _ (.cons_cons _ (.cons _ (List.Sublist.refl _))))))⟩
        case round =>
          obtain ⟨i2, v, hi2, rfl, hv, O7⟩ := hrel
          obtain ⟨w7, rfl⟩ : ∃ w7 : World, w7 = wr := ⟨_, rfl⟩
          have hv0 : 0 ≤ v := by have := hv.out; omega
          have hv1 : v ≤ 15 := by have := hv.out; have := hpj.out; omega
          obtain ⟨b_0, b_1, b_2, b_3, b_f0, b_f1, b_f2, b_f3⟩ := cells4 (O7.out.nth 0 rfl)
          have l_b := lt_blk (O7.out.nth 0 rfl)
          obtain ⟨a_0, a_1, a_2, a_3, a_f0, a_f1, a_f2, a_f3⟩ := cells4 (O7.out.nth 1 rfl)
          have l_a := lt_blk (O7.out.nth 1 rfl)
          obtain ⟨x_0, x_1, x_2, x_3, x_f0, x_f1, x_f2, x_f3⟩ := cells4 (O7.out.nth 2 rfl)
          have l_x := lt_blk (O7.out.nth 2 rfl)
          obtain ⟨s_0, s_1, s_2, s_3, s_f0, s_f1, s_f2, s_f3⟩ := cells4 (O7.out.nth 3 rfl)
          have l_s := lt_blk (O7.out.nth 3 rfl)
          by_cases hlt : i2 < j
          · by_cases hlast : i2 + 1 < j
            · have kx := okS.out v hv0 hv1
              have kb := gKq.out v ⟨hv0, hv1⟩
              have cx := fun W => Lib.hid (unpause_ok ⟨st, v, po, un⟩ kx (by have := hv.out; simp only; omega) W)
              have cb := fun W => Lib.hid (unpause_ok ⟨a0, v, a2, a3⟩ kb (by have := hv.out; simp only; omega) W)
              have cr := fun W => Lib.hid (runs_ st (v - 1) po un W)
              have hr0 : runsB ⟨st, v - 1, po, un⟩ = false := runs_pa (by have := hv.out; omega)
              rw [hr0] at cx cr
              generalize runsB ⟨a0, v - 1, a2, a3⟩ = rb2 at cb
              clear kx kb
              go_wp2_with fail
              refine ((cx _).out).mono ?_
              rintro e w8 ⟨rfl, hb⟩
              have O8 := Lib.hid (O7.out.call hb)
              clear hb O7 b_0 b_1 b_2 b_3 b_f0 b_f1 b_f2 b_f3 l_b a_0 a_1 a_2 a_3 a_f0 a_f1 a_f2 a_f3 l_a x_0 x_1 x_2 x_3 x_f0 x_f1 x_f2 x_f3 l_x s_0 s_1 s_2 s_3 s_f0 s_f1 s_f2 s_f3 l_s
              obtain ⟨b_0, b_1, b_2, b_3, b_f0, b_f1, b_f2, b_f3⟩ := cells4 (O8.out.nth 0 rfl)
              have l_b := lt_blk (O8.out.nth 0 rfl)
              obtain ⟨a_0, a_1, a_2, a_3, a_f0, a_f1, a_f2, a_f3⟩ := cells4 (O8.out.nth 1 rfl)
              have l_a := lt_blk (O8.out.nth 1 rfl)
              obtain ⟨x_0, x_1, x_2, x_3, x_f0, x_f1, x_f2, x_f3⟩ := cells4 (O8.out.nth 2 rfl)
              have l_x := lt_blk (O8.out.nth 2 rfl)
              obtain ⟨s_0, s_1, s_2, s_3, s_f0, s_f1, s_f2, s_f3⟩ := cells4 (O8.out.nth 3 rfl)
              have l_s := lt_blk (O8.out.nth 3 rfl)
              go_wp2_with fail
              refine ((cb _).out).mono ?_
              rintro e w9 ⟨rfl, hb⟩
              have O9 := Lib.hid ((O8.out.alloc w8.heap.size _ rfl).call hb)
              clear hb O8 b_0 b_1 b_2 b_3 b_f0 b_f1 b_f2 b_f3 l_b a_0 a_1 a_2 a_3 a_f0 a_f1 a_f2 a_f3 l_a x_0 x_1 x_2 x_3 x_f0 x_f1 x_f2 x_f3 l_x s_0 s_1 s_2 s_3 s_f0 s_f1 s_f2 s_f3 l_s
              obtain ⟨y_0, y_1, y_2, y_3, y_f0, y_f1, y_f2, y_f3⟩ := cells4 (O9.out.nth 0 rfl)
              have l_y := lt_blk (O9.out.nth 0 rfl)
              obtain ⟨b_0, b_1, b_2, b_3, b_f0, b_f1, b_f2, b_f3⟩ := cells4 (O9.out.nth 1 rfl)
              have l_b := lt_blk (O9.out.nth 1 rfl)
              obtain ⟨a_0, a_1, a_2, a_3, a_f0, a_f1, a_f2, a_f3⟩ := cells4 (O9.out.nth 2 rfl)
              have l_a := lt_blk (O9.out.nth 2 rfl)
              obtain ⟨x_0, x_1, x_2, x_3, x_f0, x_f1, x_f2, x_f3⟩ := cells4 (O9.out.nth 3 rfl)
              have l_x := lt_blk (O9.out.nth 3 rfl)
              obtain ⟨s_0, s_1, s_2, s_3, s_f0, s_f1, s_f2, s_f3⟩ := cells4 (O9.out.nth 4 rfl)
              have l_s := lt_blk (O9.out.nth 4 rfl)
              go_wp2_with fail
              refine ((cr _).out).mono ?_
              rintro e w10 ⟨rfl, hb⟩
              have O10 := Lib.hid ((O9.out.alloc w9.heap.size _ rfl).call hb)
              clear hb O9 y_0 y_1 y_2 y_3 y_f0 y_f1 y_f2 y_f3 l_y b_0 b_1 b_2 b_3 b_f0 b_f1 b_f2 b_f3 l_b a_0 a_1 a_2 a_3 a_f0 a_f1 a_f2 a_f3 l_a x_0 x_1 x_2 x_3 x_f0 x_f1 x_f2 x_f3 l_x s_0 s_1 s_2 s_3 s_f0 s_f1 s_f2 s_f3 l_s
              obtain ⟨z_0, z_1, z_2, z_3, z_f0, z_f1, z_f2, z_f3⟩ := cells4 (O10.out.nth 0 rfl)
              have l_z := lt_blk (O10.out.nth 0 rfl)
              obtain ⟨y_0, y_1, y_2, y_3, y_f0, y_f1, y_f2, y_f3⟩ := cells4 (O10.out.nth 1 rfl)
              have l_y := lt_blk (O10.out.nth 1 rfl)
              obtain ⟨b_0, b_1, b_2, b_3, b_f0, b_f1, b_f2, b_f3⟩ := cells4 (O10.out.nth 2 rfl)
              have l_b := lt_blk (O10.out.nth 2 rfl)
              obtain ⟨a_0, a_1, a_2, a_3, a_f0, a_f1, a_f2, a_f3⟩ := cells4 (O10.out.nth 3 rfl)
              have l_a := lt_blk (O10.out.nth 3 rfl)
              obtain ⟨x_0, x_1, x_2, x_3, x_f0, x_f1, x_f2, x_f3⟩ := cells4 (O10.out.nth 4 rfl)
              have l_x := lt_blk (O10.out.nth 4 rfl)
              obtain ⟨s_0, s_1, s_2, s_3, s_f0, s_f1, s_f2, s_f3⟩ := cells4 (O10.out.nth 5 rfl)
              have l_s := lt_blk (O10.out.nth 5 rfl)
              have q_bx := O10.out.lt2 2 4 (by decide) rfl rfl
              simp only at q_bx
              have n_bx := Nat.ne_of_lt q_bx
              have m_bx := Ne.symm n_bx
              clear q_bx
              have q_zx := O10.out.lt2 0 4 (by decide) rfl rfl
              simp only at q_zx
              have n_zx := Nat.ne_of_lt q_zx
              have m_zx := Ne.symm n_zx
              clear q_zx
              have q_zb := O10.out.lt2 0 2 (by decide) rfl rfl
              simp only at q_zb
              have n_zb := Nat.ne_of_lt q_zb
              have m_zb := Ne.symm n_zb
              clear q_zb
              have q_yx := O10.out.lt2 1 4 (by decide) rfl rfl
              simp only at q_yx
              have n_yx := Nat.ne_of_lt q_yx
              have m_yx := Ne.symm n_yx
              clear q_yx
              have q_yb := O10.out.lt2 1 2 (by decide) rfl rfl
              simp only at q_yb
              have n_yb := Nat.ne_of_lt q_yb
              have m_yb := Ne.symm n_yb
              clear q_yb
              go_wp2_with fail
              go_region
              all_goals
                go_wp2
                go_roundw
                case rel => exact ⟨i2 + 1, v - 1, by omega, by go_num, Lib.hid (by have := hv.out; omega), Lib.hid (by first | exact ((O10.out.set4 4 rfl _ _ _ _).set4 2 rfl _ _ _ _).drew.sub (.cons _ (.cons _ (List.Sublist.refl _))) | exact ((O10.out.set4 2 rfl _ _ _ _).set4 4 rfl _ _ _ _).drew.sub (.cons _ (.cons _ (List.Sublist.refl _))))⟩
                case measure => simp [intOf]; omega
            · have kx := okS.out v hv0 hv1
              have kb := gKq.out v ⟨hv0, hv1⟩
              have cx := fun W => Lib.hid (unpause_ok ⟨st, v, po, un⟩ kx (by have := hv.out; simp only; omega) W)
              have cb := fun W => Lib.hid (unpause_ok ⟨a0, v, a2, a3⟩ kb (by have := hv.out; simp only; omega) W)
              have cr := fun W => Lib.hid (runs_ st (v - 1) po un W)
              have hl : (j : Int) ≤ i2 + 1 := by omega
              generalize runsB ⟨st, v - 1, po, un⟩ = rb at cx cr
              generalize runsB ⟨a0, v - 1, a2, a3⟩ = rb2 at cb
              clear kx kb
              cases rb
              all_goals
                go_wp2_with fail
                refine ((cx _).out).mono ?_
                rintro e w8 ⟨rfl, hb⟩
                have O8 := Lib.hid (O7.out.call hb)
                clear hb O7 b_0 b_1 b_2 b_3 b_f0 b_f1 b_f2 b_f3 l_b a_0 a_1 a_2 a_3 a_f0 a_f1 a_f2 a_f3 l_a x_0 x_1 x_2 x_3 x_f0 x_f1 x_f2 x_f3 l_x s_0 s_1 s_2 s_3 s_f0 s_f1 s_f2 s_f3 l_s
                obtain ⟨b_0, b_1, b_2, b_3, b_f0, b_f1, b_f2, b_f3⟩ := cells4 (O8.out.nth 0 rfl)
                have l_b := lt_blk (O8.out.nth 0 rfl)
                obtain ⟨a_0, a_1, a_2, a_3, a_f0, a_f1, a_f2, a_f3⟩ := cells4 (O8.out.nth 1 rfl)
                have l_a := lt_blk (O8.out.nth 1 rfl)
                obtain ⟨x_0, x_1, x_2, x_3, x_f0, x_f1, x_f2, x_f3⟩ := cells4 (O8.out.nth 2 rfl)
                have l_x := lt_blk (O8.out.nth 2 rfl)
                obtain ⟨s_0, s_1, s_2, s_3, s_f0, s_f1, s_f2, s_f3⟩ := cells4 (O8.out.nth 3 rfl)
                have l_s := lt_blk (O8.out.nth 3 rfl)
                go_wp2_with fail
                refine ((cb _).out).mono ?_
                rintro e w9 ⟨rfl, hb⟩
                have O9 := Lib.hid ((O8.out.alloc w8.heap.size _ rfl).call hb)
                clear hb O8 b_0 b_1 b_2 b_3 b_f0 b_f1 b_f2 b_f3 l_b a_0 a_1 a_2 a_3 a_f0 a_f1 a_f2 a_f3 l_a x_0 x_1 x_2 x_3 x_f0 x_f1 x_f2 x_f3 l_x s_0 s_1 s_2 s_3 s_f0 s_f1 s_f2 s_f3 l_s
                obtain ⟨y_0, y_1, y_2, y_3, y_f0, y_f1, y_f2, y_f3⟩ := cells4 (O9.out.nth 0 rfl)
                have l_y := lt_blk (O9.out.nth 0 rfl)
                obtain ⟨b_0, b_1, b_2, b_3, b_f0, b_f1, b_f2, b_f3⟩ := cells4 (O9.out.nth 1 rfl)
                have l_b := lt_blk (O9.out.nth 1 rfl)
                obtain ⟨a_0, a_1, a_2, a_3, a_f0, a_f1, a_f2, a_f3⟩ := cells4 (O9.out.nth 2 rfl)
                have l_a := lt_blk (O9.out.nth 2 rfl)
                obtain ⟨x_0, x_1, x_2, x_3, x_f0, x_f1, x_f2, x_f3⟩ := cells4 (O9.out.nth 3 rfl)
                have l_x := lt_blk (O9.out.nth 3 rfl)
                obtain ⟨s_0, s_1, s_2, s_3, s_f0, s_f1, s_f2, s_f3⟩ := cells4 (O9.out.nth 4 rfl)
                have l_s := lt_blk (O9.out.nth 4 rfl)
                go_wp2_with fail
                refine ((cr _).out).mono ?_
                rintro e w10 ⟨rfl, hb⟩
                have O10 := Lib.hid ((O9.out.alloc w9.heap.size _ rfl).call hb)
                clear hb O9 y_0 y_1 y_2 y_3 y_f0 y_f1 y_f2 y_f3 l_y b_0 b_1 b_2 b_3 b_f0 b_f1 b_f2 b_f3 l_b a_0 a_1 a_2 a_3 a_f0 a_f1 a_f2 a_f3 l_a x_0 x_1 x_2 x_3 x_f0 x_f1 x_f2 x_f3 l_x s_0 s_1 s_2 s_3 s_f0 s_f1 s_f2 s_f3 l_s
                obtain ⟨z_0, z_1, z_2, z_3, z_f0, z_f1, z_f2, z_f3⟩ := cells4 (O10.out.nth 0 rfl)
                have l_z := lt_blk (O10.out.nth 0 rfl)
                obtain ⟨y_0, y_1, y_2, y_3, y_f0, y_f1, y_f2, y_f3⟩ := cells4 (O10.out.nth 1 rfl)
                have l_y := lt_blk (O10.out.nth 1 rfl)
                obtain ⟨b_0, b_1, b_2, b_3, b_f0, b_f1, b_f2, b_f3⟩ := cells4 (O10.out.nth 2 rfl)
                have l_b := lt_blk (O10.out.nth 2 rfl)
                obtain ⟨a_0, a_1, a_2, a_3, a_f0, a_f1, a_f2, a_f3⟩ := cells4 (O10.out.nth 3 rfl)
                have l_a := lt_blk (O10.out.nth 3 rfl)
                obtain ⟨x_0, x_1, x_2, x_3, x_f0, x_f1, x_f2, x_f3⟩ := cells4 (O10.out.nth 4 rfl)
                have l_x := lt_blk (O10.out.nth 4 rfl)
                obtain ⟨s_0, s_1, s_2, s_3, s_f0, s_f1, s_f2, s_f3⟩ := cells4 (O10.out.nth 5 rfl)
                have l_s := lt_blk (O10.out.nth 5 rfl)
                have q_bx := O10.out.lt2 2 4 (by decide) rfl rfl
                simp only at q_bx
                have n_bx := Nat.ne_of_lt q_bx
                have m_bx := Ne.symm n_bx
                clear q_bx
                have q_zx := O10.out.lt2 0 4 (by decide) rfl rfl
                simp only at q_zx
                have n_zx := Nat.ne_of_lt q_zx
                have m_zx := Ne.symm n_zx
                clear q_zx
                have q_zb := O10.out.lt2 0 2 (by decide) rfl rfl
                simp only at q_zb
                have n_zb := Nat.ne_of_lt q_zb
                have m_zb := Ne.symm n_zb
                clear q_zb
                have q_yx := O10.out.lt2 1 4 (by decide) rfl rfl
                simp only at q_yx
                have n_yx := Nat.ne_of_lt q_yx
                have m_yx := Ne.symm n_yx
                clear q_yx
                have q_yb := O10.out.lt2 1 2 (by decide) rfl rfl
                simp only at q_yb
                have n_yb := Nat.ne_of_lt q_yb
                have m_yb := Ne.symm n_yb
                clear q_yb
                go_wp2_with fail
                go_region
                all_goals
                  go_wp2
                  go_roundw
                  case rel => exact ⟨i2 + 1, v - 1, by omega, by go_num, Lib.hid (by have := hv.out; omega), Lib.hid (by first | exact ((O10.out.set4 4 rfl _ _ _ _).set4 2 rfl _ _ _ _).drew.sub (.cons _ (.cons _ (List.Sublist.refl _))) | exact ((O10.out.set4 2 rfl _ _ _ _).set4 4 rfl _ _ _ _).drew.sub (.cons _ (.cons _ (List.Sublist.refl _))))⟩
                  case measure => simp [intOf]; omega
          · have hij : i2 = j := by omega
            subst hij
            obtain rfl : v = pa := by have := hv.out; omega

            go_wp2
            go_ret
            exact ⟨rfl, O7.out.below⟩
      · obtain ⟨x_0, x_1, x_2, x_3, x_f0, x_f1, x_f2, x_f3⟩ := cells4 (O3.out.nth 0 rfl)
        have l_x := lt_blk (O3.out.nth 0 rfl)
        obtain ⟨s_0, s_1, s_2, s_3, s_f0, s_f1, s_f2, s_f3⟩ := cells4 (O3.out.nth 1 rfl)
        have l_s := lt_blk (O3.out.nth 1 rfl)
        have hfull := Lib.hid hfull0
        clear hfull0
        have hlt15 : pa + (j : Int) < 15 := by have := hpj.out; have := hfull.out; omega
        have hl15 := Lib.hid hlt15
        have cp := fun W => Lib.hid (pause_ok ⟨st, pa + j, po, un⟩ (okS.out (pa + j) (by omega) hpj.out) hlt15 W)
        have hr0 : runsB ⟨st, pa + j + 1, po, un⟩ = false := runs_pa (by omega)
        have cr := fun W => Lib.hid (runs_ st (pa + j + 1) po un W)
        rw [hr0] at cr
        go_wp2_with fail
        refine ((cp _).out).mono ?_
        rintro e w4 ⟨rfl, hb⟩
        have O4 := Lib.hid (O3.out.call hb)
        clear hb O3 x_0 x_1 x_2 x_3 x_f0 x_f1 x_f2 x_f3 l_x s_0 s_1 s_2 s_3 s_f0 s_f1 s_f2 s_f3 l_s
        obtain ⟨x_0, x_1, x_2, x_3, x_f0, x_f1, x_f2, x_f3⟩ := cells4 (O4.out.nth 0 rfl)
        have l_x := lt_blk (O4.out.nth 0 rfl)
        obtain ⟨s_0, s_1, s_2, s_3, s_f0, s_f1, s_f2, s_f3⟩ := cells4 (O4.out.nth 1 rfl)
        have l_s := lt_blk (O4.out.nth 1 rfl)
        go_wp2_with fail
        refine (cr _).out.mono ?_
        rintro e w5 ⟨rfl, hb⟩
        have O5 := Lib.hid (((O4.out.set4 0 rfl _ _ _ _).alloc w4.heap.size _ (by simp [World.setCell])).call hb)
        clear hb
        go_wp2
        go_roundw
        case rel => exact ⟨j + 1, by omega, by go_num, by go_num, Lib.hid (by have := hl15.out; omega), Lib.hid (by have h5 := O5.out.sub (L' := [(w2.heap.size, .cells (St.cells ⟨st, pa + j + 1, po, un⟩) 24 (0, 0)), (w.heap.size, .cells (St.cells ⟨st, pa, po, un⟩) 24 (0, 0))]) (.cons _ (List.Sublist.refl _)); rw [show pa + ((j + 1 : Nat) : Int) = pa + j + 1 from by omega]; exact h5)⟩
        case measure => simp [intOf]; omega
    · obtain ⟨x_0, x_1, x_2, x_3, x_f0, x_f1, x_f2, x_f3⟩ := cells4 (O3.out.nth 0 rfl)
      have l_x := lt_blk (O3.out.nth 0 rfl)
      obtain ⟨s_0, s_1, s_2, s_3, s_f0, s_f1, s_f2, s_f3⟩ := cells4 (O3.out.nth 1 rfl)
      have l_s := lt_blk (O3.out.nth 1 rfl)
      have hq0 : 0 ≤ (0 : Int) := by omega
      have hq1 : (0 : Int) < 32 := by omega
      have g1q := g1 0 hq0 hq1
      have g2q := g2 0 j hq0 hq1 hpj.out
      have gKq0 := gK.out 0
      have hAq := hA.out 0
      generalize A 0 = Aq at g1q g2q gKq0 hAq
      generalize B 0 = Bq at g1q g2q
      have gKq := Lib.hid gKq0
      clear gKq0
      clear g1 g2 gK hA
      obtain ⟨a0, a1, a2, a3⟩ := Aq
      obtain rfl : pa = a1 := hAq.symm
      go_wp2_with fail
      refine ((g1q _).out).mono ?_
      rintro e w4 ⟨rfl, hb⟩
      have O4 := Lib.hid (O3.out.call hb)
      clear hb O3 x_0 x_1 x_2 x_3 x_f0 x_f1 x_f2 x_f3 l_x s_0 s_1 s_2 s_3 s_f0 s_f1 s_f2 s_f3 l_s
      obtain ⟨x_0, x_1, x_2, x_3, x_f0, x_f1, x_f2, x_f3⟩ := cells4 (O4.out.nth 0 rfl)
      have l_x := lt_blk (O4.out.nth 0 rfl)
      obtain ⟨s_0, s_1, s_2, s_3, s_f0, s_f1, s_f2, s_f3⟩ := cells4 (O4.out.nth 1 rfl)
      have l_s := lt_blk (O4.out.nth 1 rfl)
      go_wp2_with fail
      refine ((g2q _).out).mono ?_
      rintro e w5 ⟨rfl, hb⟩
      have O5 := Lib.hid ((O4.out.alloc w4.heap.size _ rfl).call hb)
      clear hb O4 x_0 x_1 x_2 x_3 x_f0 x_f1 x_f2 x_f3 l_x s_0 s_1 s_2 s_3 s_f0 s_f1 s_f2 s_f3 l_s
      obtain ⟨a_0, a_1, a_2, a_3, a_f0, a_f1, a_f2, a_f3⟩ := cells4 (O5.out.nth 0 rfl)
      have l_a := lt_blk (O5.out.nth 0 rfl)
      obtain ⟨x_0, x_1, x_2, x_3, x_f0, x_f1, x_f2, x_f3⟩ := cells4 (O5.out.nth 1 rfl)
      have l_x := lt_blk (O5.out.nth 1 rfl)
      obtain ⟨s_0, s_1, s_2, s_3, s_f0, s_f1, s_f2, s_f3⟩ := cells4 (O5.out.nth 2 rfl)
      have l_s := lt_blk (O5.out.nth 2 rfl)
      go_wp2_with fail
      clear a_0 a_1 a_2 a_3 a_f0 a_f1 a_f2 a_f3 l_a x_0 x_1 x_2 x_3 x_f0 x_f1 x_f2 x_f3 l_x s_0 s_1 s_2 s_3 s_f0 s_f1 s_f2 s_f3 l_s
      go_loopw [78] (fun i wr => ∃ (i2 : Nat) (v : Int), i2 ≤ j ∧ i = .int .i64 i2 ∧ Hid (v = pa + j - i2) ∧ Hid (Owns w wr [(w5.heap.size, .cells #[.int .i64 a0, .int .i64 v, .int .u32 a2, .int .i64 a3] 24 (0, 0)), (w4.heap.size, .cells #[.int .i64 a0, .int .i64 pa, .int .u32 a2, .int .i64 a3] 24 (0, 0)), (w2.heap.size, .cells #[.int .i64 st, .int .i64 v, .int .u32 po, .int .i64 un] 24 (0, 0)), (w.heap.size, .cells (St.cells ⟨st, pa, po, un⟩) 24 (0, 0))])) (fun i _ => j - (intOf i).toNat)
      case atStart => exact ⟨0, pa + j, by omega, rfl, Lib.hid (by omega), Lib.hid ((O5.out.alloc w5.heap.size _ rfl))⟩
      case round =>
        obtain ⟨i2, v, hi2, rfl, hv, O6⟩ := hrel
        obtain ⟨w6, rfl⟩ : ∃ w6 : World, w6 = wr := ⟨_, rfl⟩
        have hv0 : 0 ≤ v := by have := hv.out; omega
        have hv1 : v ≤ 15 := by have := hv.out; have := hpj.out; omega
        obtain ⟨b_0, b_1, b_2, b_3, b_f0, b_f1, b_f2, b_f3⟩ := cells4 (O6.out.nth 0 rfl)
        have l_b := lt_blk (O6.out.nth 0 rfl)
        obtain ⟨a_0, a_1, a_2, a_3, a_f0, a_f1, a_f2, a_f3⟩ := cells4 (O6.out.nth 1 rfl)
        have l_a := lt_blk (O6.out.nth 1 rfl)
        obtain ⟨x_0, x_1, x_2, x_3, x_f0, x_f1, x_f2, x_f3⟩ := cells4 (O6.out.nth 2 rfl)
        have l_x := lt_blk (O6.out.nth 2 rfl)
        obtain ⟨s_0, s_1, s_2, s_3, s_f0, s_f1, s_f2, s_f3⟩ := cells4 (O6.out.nth 3 rfl)
        have l_s := lt_blk (O6.out.nth 3 rfl)
        by_cases hlt : i2 < j
        · by_cases hlast : i2 + 1 < j
          · have kx := okS.out v hv0 hv1
            have kb := gKq.out v ⟨hv0, hv1⟩
            have cx := fun W => Lib.hid (unpause_ok ⟨st, v, po, un⟩ kx (by have := hv.out; simp only; omega) W)
            have cb := fun W => Lib.hid (unpause_ok ⟨a0, v, a2, a3⟩ kb (by have := hv.out; simp only; omega) W)
            have cr := fun W => Lib.hid (runs_ st (v - 1) po un W)
            have hr0 : runsB ⟨st, v - 1, po, un⟩ = false := runs_pa (by have := hv.out; omega)
            rw [hr0] at cx cr
            generalize runsB ⟨a0, v - 1, a2, a3⟩ = rb2 at cb
            clear kx kb
            go_wp2_with fail
            refine ((cx _).out).mono ?_
            rintro e w7 ⟨rfl, hb⟩
            have O7 := Lib.hid (O6.out.call hb)
            clear hb O6 b_0 b_1 b_2 b_3 b_f0 b_f1 b_f2 b_f3 l_b a_0 a_1 a_2 a_3 a_f0 a_f1 a_f2 a_f3 l_a x_0 x_1 x_2 x_3 x_f0 x_f1 x_f2 x_f3 l_x s_0 s_1 s_2 s_3 s_f0 s_f1 s_f2 s_f3 l_s
            obtain ⟨b_0, b_1, b_2, b_3, b_f0, b_f1, b_f2, b_f3⟩ := cells4 (O7.out.nth 0 rfl)
            have l_b := lt_blk (O7.out.nth 0 rfl)
            obtain ⟨a_0, a_1, a_2, a_3, a_f0, a_f1, a_f2, a_f3⟩ := cells4 (O7.out.nth 1 rfl)
            have l_a := lt_blk (O7.out.nth 1 rfl)
            obtain ⟨x_0, x_1, x_2, x_3, x_f0, x_f1, x_f2, x_f3⟩ := cells4 (O7.out.nth 2 rfl)
            have l_x := lt_blk (O7.out.nth 2 rfl)
            obtain ⟨s_0, s_1, s_2, s_3, s_f0, s_f1, s_f2, s_f3⟩ := cells4 (O7.out.nth 3 rfl)
            have l_s := lt_blk (O7.out.nth 3 rfl)
            go_wp2_with fail
            refine ((cb _).out).mono ?_
            rintro e w8 ⟨rfl, hb⟩
            have O8 := Lib.hid ((O7.out.alloc w7.heap.size _ rfl).call hb)
            clear hb O7 b_0 b_1 b_2 b_3 b_f0 b_f1 b_f2 b_f3 l_b a_0 a_1 a_2 a_3 a_f0 a_f1 a_f2 a_f3 l_a x_0 x_1 x_2 x_3 x_f0 x_f1 x_f2 x_f3 l_x s_0 s_1 s_2 s_3 s_f0 s_f1 s_f2 s_f3 l_s
            obtain ⟨y_0, y_1, y_2, y_3, y_f0, y_f1, y_f2, y_f3⟩ := cells4 (O8.out.nth 0 rfl)
            have l_y := lt_blk (O8.out.nth 0 rfl)
            obtain ⟨b_0, b_1, b_2, b_3, b_f0, b_f1, b_f2, b_f3⟩ := cells4 (O8.out.nth 1 rfl)
            have l_b := lt_blk (O8.out.nth 1 rfl)
            obtain ⟨a_0, a_1, a_2, a_3, a_f0, a_f1, a_f2, a_f3⟩ := cells4 (O8.out.nth 2 rfl)
            have l_a := lt_blk (O8.out.nth 2 rfl)
            obtain ⟨x_0, x_1, x_2, x_3, x_f0, x_f1, x_f2, x_f3⟩ := cells4 (O8.out.nth 3 rfl)
            have l_x := lt_blk (O8.out.nth 3 rfl)
            obtain ⟨s_0, s_1, s_2, s_3, s_f0, s_f1, s_f2, s_f3⟩ := cells4 (O8.out.nth 4 rfl)
            have l_s := lt_blk (O8.out.nth 4 rfl)
            go_wp2_with fail
            refine ((cr _).out).mono ?_
            rintro e w9 ⟨rfl, hb⟩
            have O9 := Lib.hid ((O8.out.alloc w8.heap.size _ rfl).call hb)
            clear hb O8 y_0 y_1 y_2 y_3 y_f0 y_f1 y_f2 y_f3 l_y b_0 b_1 b_2 b_3 b_f0 b_f1 b_f2 b_f3 l_b a_0 a_1 a_2 a_3 a_f0 a_f1 a_f2 a_f3 l_a x_0 x_1 x_2 x_3 x_f0 x_f1 x_f2 x_f3 l_x s_0 s_1 s_2 s_3 s_f0 s_f1 s_f2 s_f3 l_s
            obtain ⟨z_0, z_1, z_2, z_3, z_f0, z_f1, z_f2, z_f3⟩ := cells4 (O9.out.nth 0 rfl)
            have l_z := lt_blk (O9.out.nth 0 rfl)
            obtain ⟨y_0, y_1, y_2, y_3, y_f0, y_f1, y_f2, y_f3⟩ := cells4 (O9.out.nth 1 rfl)
            have l_y := lt_blk (O9.out.nth 1 rfl)
            obtain ⟨b_0, b_1, b_2, b_3, b_f0, b_f1, b_f2, b_f3⟩ := cells4 (O9.out.nth 2 rfl)
            have l_b := lt_blk (O9.out.nth 2 rfl)
            obtain ⟨a_0, a_1, a_2, a_3, a_f0, a_f1, a_f2, a_f3⟩ := cells4 (O9.out.nth 3 rfl)
            have l_a := lt_blk (O9.out.nth 3 rfl)
            obtain ⟨x_0, x_1, x_2, x_3, x_f0, x_f1, x_f2, x_f3⟩ := cells4 (O9.out.nth 4 rfl)
            have l_x := lt_blk (O9.out.nth 4 rfl)
            obtain ⟨s_0, s_1, s_2, s_3, s_f0, s_f1, s_f2, s_f3⟩ := cells4 (O9.out.nth 5 rfl)
            have l_s := lt_blk (O9.out.nth 5 rfl)
            have q_bx := O9.out.lt2 2 4 (by decide) rfl rfl
            simp only at q_bx
            have n_bx := Nat.ne_of_lt q_bx
            have m_bx := Ne.symm n_bx
            clear q_bx
            have q_zx := O9.out.lt2 0 4 (by decide) rfl rfl
            simp only at q_zx
            have n_zx := Nat.ne_of_lt q_zx
            have m_zx := Ne.symm n_zx
            clear q_zx
            have q_zb := O9.out.lt2 0 2 (by decide) rfl rfl
            simp only at q_zb
            have n_zb := Nat.ne_of_lt q_zb
            have m_zb := Ne.symm n_zb
            clear q_zb
            have q_yx := O9.out.lt2 1 4 (by decide) rfl rfl
            simp only at q_yx
            have n_yx := Nat.ne_of_lt q_yx
            have m_yx := Ne.symm n_yx
            clear q_yx
            have q_yb := O9.out.lt2 1 2 (by decide) rfl rfl
            simp only at q_yb
            have n_yb := Nat.ne_of_lt q_yb
            have m_yb := Ne.symm n_yb
            clear q_yb
            go_wp2_with fail
            go_region
            all_goals
              go_wp2
              go_roundw
              case rel => exact ⟨i2 + 1, v - 1, by omega, by go_num, Lib.hid (by have := hv.out; omega), Lib.hid (by first | exact ((O9.out.set4 4 rfl _ _ _ _).set4 2 rfl _ _ _ _).drew.sub (.cons _ (.cons _ (List.Sublist.refl _))) | exact ((O9.out.set4 2 rfl _ _ _ _).set4 4 rfl _ _ _ _).drew.sub (.cons _ (.cons _ (List.Sublist.refl _))))⟩
              case measure => simp [intOf]; omega
          · have kx := okS.out v hv0 hv1
            have kb := gKq.out v ⟨hv0, hv1⟩
            have cx := fun W => Lib.hid (unpause_ok ⟨st, v, po, un⟩ kx (by have := hv.out; simp only; omega) W)
            have cb := fun W => Lib.hid (unpause_ok ⟨a0, v, a2, a3⟩ kb (by have := hv.out; simp only; omega) W)
            have cr := fun W => Lib.hid (runs_ st (v - 1) po un W)
            have hl : (j : Int) ≤ i2 + 1 := by omega
            generalize runsB ⟨st, v - 1, po, un⟩ = rb at cx cr
            generalize runsB ⟨a0, v - 1, a2, a3⟩ = rb2 at cb
            clear kx kb
            cases rb
            all_goals
              go_wp2_with fail
              refine ((cx _).out).mono ?_
              rintro e w7 ⟨rfl, hb⟩
              have O7 := Lib.hid (O6.out.call hb)
              clear hb O6 b_0 b_1 b_2 b_3 b_f0 b_f1 b_f2 b_f3 l_b a_0 a_1 a_2 a_3 a_f0 a_f1 a_f2 a_f3 l_a x_0 x_1 x_2 x_3 x_f0 x_f1 x_f2 x_f3 l_x s_0 s_1 s_2 s_3 s_f0 s_f1 s_f2 s_f3 l_s
              obtain ⟨b_0, b_1, b_2, b_3, b_f0, b_f1, b_f2, b_f3⟩ := cells4 (O7.out.nth 0 rfl)
              have l_b := lt_blk (O7.out.nth 0 rfl)
              obtain ⟨a_0, a_1, a_2, a_3, a_f0, a_f1, a_f2, a_f3⟩ := cells4 (O7.out.nth 1 rfl)
              have l_a := lt_blk (O7.out.nth 1 rfl)
              obtain ⟨x_0, x_1, x_2, x_3, x_f0, x_f1, x_f2, x_f3⟩ := cells4 (O7.out.nth 2 rfl)
              have l_x := lt_blk (O7.out.nth 2 rfl)
              obtain ⟨s_0, s_1, s_2, s_3, s_f0, s_f1, s_f2, s_f3⟩ := cells4 (O7.out.nth 3 rfl)
              have l_s := lt_blk (O7.out.nth 3 rfl)
              go_wp2_with fail
              refine ((cb _).out).mono ?_
              rintro e w8 ⟨rfl, hb⟩
              have O8 := Lib.hid ((O7.out.alloc w7.heap.size _ rfl).call hb)
              clear hb O7 b_0 b_1 b_2 b_3 b_f0 b_f1 b_f2 b_f3 l_b a_0 a_1 a_2 a_3 a_f0 a_f1 a_f2 a_f3 l_a x_0 x_1 x_2 x_3 x_f0 x_f1 x_f2 x_f3 l_x s_0 s_1 s_2 s_3 s_f0 s_f1 s_f2 s_f3 l_s
              obtain ⟨y_0, y_1, y_2, y_3, y_f0, y_f1, y_f2, y_f3⟩ := cells4 (O8.out.nth 0 rfl)
              have l_y := lt_blk (O8.out.nth 0 rfl)
              obtain ⟨b_0, b_1, b_2, b_3, b_f0, b_f1, b_f2, b_f3⟩ := cells4 (O8.out.nth 1 rfl)
              have l_b := lt_blk (O8.out.nth 1 rfl)
              obtain ⟨a_0, a_1, a_2, a_3, a_f0, a_f1, a_f2, a_f3⟩ := cells4 (O8.out.nth 2 rfl)
              have l_a := lt_blk (O8.out.nth 2 rfl)
              obtain ⟨x_0, x_1, x_2, x_3, x_f0, x_f1, x_f2, x_f3⟩ := cells4 (O8.out.nth 3 rfl)
              have l_x := lt_blk (O8.out.nth 3 rfl)
              obtain ⟨s_0, s_1, s_2, s_3, s_f0, s_f1, s_f2, s_f3⟩ := cells4 (O8.out.nth 4 rfl)
              have l_s := lt_blk (O8.out.nth 4 rfl)
              go_wp2_with fail
              refine ((cr _).out).mono ?_
              rintro e w9 ⟨rfl, hb⟩
              have O9 := Lib.hid ((O8.out.alloc w8.heap.size _ rfl).call hb)
              clear hb O8 y_0 y_1 y_2 y_3 y_f0 y_f1 y_f2 y_f3 l_y b_0 b_1 b_2 b_3 b_f0 b_f1 b_f2 b_f3 l_b a_0 a_1 a_2 a_3 a_f0 a_f1 a_f2 a_f3 l_a x_0 x_1 x_2 x_3 x_f0 x_f1 x_f2 x_f3 l_x s_0 s_1 s_2 s_3 s_f0 s_f1 s_f2 s_f3 l_s
              obtain ⟨z_0, z_1, z_2, z_3, z_f0, z_f1, z_f2, z_f3⟩ := cells4 (O9.out.nth 0 rfl)
              have l_z := lt_blk (O9.out.nth 0 rfl)
              obtain ⟨y_0, y_1, y_2, y_3, y_f0, y_f1, y_f2, y_f3⟩ := cells4 (O9.out.nth 1 rfl)
              have l_y := lt_blk (O9.out.nth 1 rfl)
              obtain ⟨b_0, b_1, b_2, b_3, b_f0, b_f1, b_f2, b_f3⟩ := cells4 (O9.out.nth 2 rfl)
              have l_b := lt_blk (O9.out.nth 2 rfl)
              obtain ⟨a_0, a_1, a_2, a_3, a_f0, a_f1, a_f2, a_f3⟩ := cells4 (O9.out.nth 3 rfl)
              have l_a := lt_blk (O9.out.nth 3 rfl)
              obtain ⟨x_0, x_1, x_2, x_3, x_f0, x_f1, x_f2, x_f3⟩ := cells4 (O9.out.nth 4 rfl)
              have l_x := lt_blk (O9.out.nth 4 rfl)
              obtain ⟨s_0, s_1, s_2, s_3, s_f0, s_f1, s_f2, s_f3⟩ := cells4 (O9.out.nth 5 rfl)
              have l_s := lt_blk (O9.out.nth 5 rfl)
              have q_bx := O9.out.lt2 2 4 (by decide) rfl rfl
              simp only at q_bx
              have n_bx := Nat.ne_of_lt q_bx
              have m_bx := Ne.symm n_bx
              clear q_bx
              have q_zx := O9.out.lt2 0 4 (by decide) rfl rfl
              simp only at q_zx
              have n_zx := Nat.ne_of_lt q_zx
              have m_zx := Ne.symm n_zx
              clear q_zx
              have q_zb := O9.out.lt2 0 2 (by decide) rfl rfl
              simp only at q_zb
              have n_zb := Nat.ne_of_lt q_zb
              have m_zb := Ne.symm n_zb
              clear q_zb
              have q_yx := O9.out.lt2 1 4 (by decide) rfl rfl
              simp only at q_yx
              have n_yx := Nat.ne_of_lt q_yx
              have m_yx := Ne.symm n_yx
              clear q_yx
              have q_yb := O9.out.lt2 1 2 (by decide) rfl rfl
              simp only at q_yb
              have n_yb := Nat.ne_of_lt q_yb
              have m_yb := Ne.symm n_yb
              clear q_yb
              go_wp2_with fail
              go_region
              all_goals
                go_wp2
                go_roundw
                case rel => exact ⟨i2 + 1, v - 1, by omega, by go_num, Lib.hid (by have := hv.out; omega), Lib.hid (by first | exact ((O9.out.set4 4 rfl _ _ _ _).set4 2 rfl _ _ _ _).drew.sub (.cons _ (.cons _ (List.Sublist.refl _))) | exact ((O9.out.set4 2 rfl _ _ _ _).set4 4 rfl _ _ _ _).drew.sub (.cons _ (.cons _ (List.Sublist.refl _))))⟩
                case measure => simp [intOf]; omega
        · have hij : i2 = j := by omega
          subst hij
          obtain rfl : v = pa := by have := hv.out; omega

          go_wp2
          go_ret
          exact ⟨rfl, O6.out.below⟩

set_option maxRecDepth 100000 in
set_option maxHeartbeats 40000000 in
theorem pauses_good_00 (s : St) (A : Int → St) (B : Int → Bool) (n port : Int) (hn0 : -9223372036854775808 ≤ n) (hn1 : n ≤ 9223372036854775807) (hp0 : -9223372036854775808 ≤ port) (hp1 : port ≤ 9223372036854775807) (hk : okB s = true) (hneg : 0 ≤ n) (hpn : 0 ≤ port)
    (g1 : ∀ q, 0 ≤ q → q < 32 → ∀ W, Hid (Calls Try.prog 10 #[.agg s.cells, .int .i64 q, .bool false] W fun e w' => e = .returned (triple (A q) (B q) 0) ∧ Below W.heap.size W w'))
    (g2 : ∀ q (j : Nat), 0 ≤ q → q < 32 → s.pa + j ≤ 15 → ∀ W, Hid (Calls Try.prog 10 #[.agg (St.cells ⟨s.st, s.pa + j, s.po, s.un⟩), .int .i64 q, .bool false] W fun e w' => e = .returned (triple ⟨(A q).st, (A q).pa + j, (A q).po, (A q).un⟩ (B q) 0) ∧ Below W.heap.size W w'))
    (gK0 : ∀ q (u : Int), 0 ≤ u ∧ u ≤ 15 → okB ⟨(A q).st, u, (A q).po, (A q).un⟩ = true) (hA0 : ∀ q, (A q).pa = s.pa) (okS0 : ∀ v : Int, 0 ≤ v → v ≤ 15 → okB ⟨s.st, v, s.po, s.un⟩ = true) (w : World) :
    Calls Try.prog 6 #[.agg s.cells, .int .i64 n, .int .i64 port] w fun e w' => e = .returned (.bool true) ∧ Below w.heap.size w w' := by
  have hpa := okB_pa hk
  obtain ⟨st, pa, po, un⟩ := s
  have hpa0 : 0 ≤ pa := hpa.1
  have hpa1 : pa ≤ 15 := hpa.2
  clear hpa
  have hb1 : (ckR ⟨st, pa, po, un⟩ != 0) = false := by simp [ckR, hk]
  have gK := Lib.hid gK0
  have okS := Lib.hid okS0
  have hA : Hid (∀ q, (A q).pa = pa) := hA0
  clear gK0 okS0 hk hA0
  have O := Lib.hid (Owns.start w)
  have hm0 : 0 ≤ n % 16 := by omega
  have hm1 : n % 16 ≤ 15 := by omega
  go_enter Try.func6, Try.ntmps6
  go_wp2_with fail
  refine (wakes_ _).mono ?_
  rintro e w1 ⟨rfl, hb⟩
  have O1 := Lib.hid ((O.out.alloc w.heap.size _ rfl).call hb)
  clear hb O 
  obtain ⟨s_0, s_1, s_2, s_3, s_f0, s_f1, s_f2, s_f3⟩ := cells4 (O1.out.nth 0 rfl)
  have l_s := lt_blk (O1.out.nth 0 rfl)
  go_wp2_with fail
  refine (check_ _ _ _ _ _).mono ?_
  rintro e w2 ⟨rfl, hb⟩
  have O2 := Lib.hid (O1.out.call hb)
  clear hb O1 s_0 s_1 s_2 s_3 s_f0 s_f1 s_f2 s_f3 l_s
  obtain ⟨s_0, s_1, s_2, s_3, s_f0, s_f1, s_f2, s_f3⟩ := cells4 (O2.out.nth 0 rfl)
  have l_s := lt_blk (O2.out.nth 0 rfl)
  go_wp2_with fail
  clear s_0 s_1 s_2 s_3 s_f0 s_f1 s_f2 s_f3 l_s
  generalize n % 16 = mq at hm0 hm1 ⊢
  go_loopw [8, 34] (fun c i wr => ∃ j : Nat, (j : Int) ≤ mq ∧ c = .int .i64 j ∧ i = .int .i64 j ∧ Hid (pa + j ≤ 15) ∧ Hid (Owns w wr [(w2.heap.size, .cells (St.cells ⟨st, pa + j, po, un⟩) 24 (0, 0)), (w.heap.size, .cells (St.cells ⟨st, pa, po, un⟩) 24 (0, 0))])) (fun _ i _ => (mq - intOf i).toNat)
  case atStart => exact ⟨0, by omega, rfl, rfl, Lib.hid (by omega), Lib.hid (by have := O2.out.alloc w2.heap.size (.cells (St.cells ⟨st, pa, po, un⟩) 24 (0, 0)) rfl; simpa using this)⟩
  case round =>
    obtain ⟨j, hj, rfl, rfl, hpj, O3⟩ := hrel
    obtain ⟨w3, rfl⟩ : ∃ w3 : World, w3 = wr := ⟨_, rfl⟩
    by_cases hlt : (j : Int) < mq
    · by_cases hfull0 : pa + j = 15
      · obtain ⟨x_0, x_1, x_2, x_3, x_f0, x_f1, x_f2, x_f3⟩ := cells4 (O3.out.nth 0 rfl)
        have l_x := lt_blk (O3.out.nth 0 rfl)
        obtain ⟨s_0, s_1, s_2, s_3, s_f0, s_f1, s_f2, s_f3⟩ := cells4 (O3.out.nth 1 rfl)
        have l_s := lt_blk (O3.out.nth 1 rfl)
        have cp := fun W => Lib.hid (pause_full ⟨st, pa + j, po, un⟩ (okS.out (pa + j) (by omega) hpj.out) hfull0 W)
        have hfull := Lib.hid hfull0
        clear hfull0
        go_wp2_with fail
        refine ((cp _).out).mono ?_
        rintro e w4 ⟨rfl, hb⟩
        have O4 := Lib.hid (O3.out.call hb)
        clear hb O3 x_0 x_1 x_2 x_3 x_f0 x_f1 x_f2 x_f3 l_x s_0 s_1 s_2 s_3 s_f0 s_f1 s_f2 s_f3 l_s
        obtain ⟨x_0, x_1, x_2, x_3, x_f0, x_f1, x_f2, x_f3⟩ := cells4 (O4.out.nth 0 rfl)
        have l_x := lt_blk (O4.out.nth 0 rfl)
        obtain ⟨s_0, s_1, s_2, s_3, s_f0, s_f1, s_f2, s_f3⟩ := cells4 (O4.out.nth 1 rfl)
        have l_s := lt_blk (O4.out.nth 1 rfl)
        have hq0 : 0 ≤ port % 32 := by omega
        have hq1 : port % 32 < 32 := by omega
        have g1q := g1 (port % 32) hq0 hq1
        have g2q := g2 (port % 32) j hq0 hq1 hpj.out
        have gKq0 := gK.out (port % 32)
        have hAq := hA.out (port % 32)
        generalize A (port % 32) = Aq at g1q g2q gKq0 hAq
        generalize B (port % 32) = Bq at g1q g2q
        have gKq := Lib.hid gKq0
        clear gKq0
        clear g1 g2 gK hA
        obtain ⟨a0, a1, a2, a3⟩ := Aq
        obtain rfl : pa = a1 := hAq.symm
        go_wp2_with fail
        generalize port % 32 = qq at hq0 hq1 g1q g2q ⊢
        refine ((g1q _).out).mono ?_
        rintro e w5 ⟨rfl, hb⟩
        have O5 := Lib.hid ((O4.out.alloc w4.heap.size _ rfl).call hb)
        clear hb O4 x_0 x_1 x_2 x_3 x_f0 x_f1 x_f2 x_f3 l_x s_0 s_1 s_2 s_3 s_f0 s_f1 s_f2 s_f3 l_s
        obtain ⟨y_0, y_1, y_2, y_3, y_f0, y_f1, y_f2, y_f3⟩ := cells4 (O5.out.nth 0 rfl)
        have l_y := lt_blk (O5.out.nth 0 rfl)
        obtain ⟨x_0, x_1, x_2, x_3, x_f0, x_f1, x_f2, x_f3⟩ := cells4 (O5.out.nth 1 rfl)
        have l_x := lt_blk (O5.out.nth 1 rfl)
        obtain ⟨s_0, s_1, s_2, s_3, s_f0, s_f1, s_f2, s_f3⟩ := cells4 (O5.out.nth 2 rfl)
        have l_s := lt_blk (O5.out.nth 2 rfl)
        go_wp2_with fail
        refine ((g2q _).out).mono ?_
        rintro e w6 ⟨rfl, hb⟩
        have O6 := Lib.hid ((O5.out.alloc w5.heap.size _ rfl).call hb)
        clear hb O5 y_0 y_1 y_2 y_3 y_f0 y_f1 y_f2 y_f3 l_y x_0 x_1 x_2 x_3 x_f0 x_f1 x_f2 x_f3 l_x s_0 s_1 s_2 s_3 s_f0 s_f1 s_f2 s_f3 l_s
        obtain ⟨a_0, a_1, a_2, a_3, a_f0, a_f1, a_f2, a_f3⟩ := cells4 (O6.out.nth 0 rfl)
        have l_a := lt_blk (O6.out.nth 0 rfl)
        obtain ⟨y_0, y_1, y_2, y_3, y_f0, y_f1, y_f2, y_f3⟩ := cells4 (O6.out.nth 1 rfl)
        have l_y := lt_blk (O6.out.nth 1 rfl)
        obtain ⟨x_0, x_1, x_2, x_3, x_f0, x_f1, x_f2, x_f3⟩ := cells4 (O6.out.nth 2 rfl)
        have l_x := lt_blk (O6.out.nth 2 rfl)
        obtain ⟨s_0, s_1, s_2, s_3, s_f0, s_f1, s_f2, s_f3⟩ := cells4 (O6.out.nth 3 rfl)
        have l_s := lt_blk (O6.out.nth 3 rfl)
        go_wp2_with fail
        clear a_0 a_1 a_2 a_3 a_f0 a_f1 a_f2 a_f3 l_a y_0 y_1 y_2 y_3 y_f0 y_f1 y_f2 y_f3 l_y x_0 x_1 x_2 x_3 x_f0 x_f1 x_f2 x_f3 l_x s_0 s_1 s_2 s_3 s_f0 s_f1 s_f2 s_f3 l_s
        go_loopw [78] (fun i wr => ∃ (i2 : Nat) (v : Int), i2 ≤ j ∧ i = .int .i64 i2 ∧ Hid (v = pa + j - i2) ∧ Hid (Owns w wr [(w6.heap.size, .cells #[.int .i64 a0, .int .i64 v, .int .u32 a2, .int .i64 a3] 24 (0, 0)), (w5.heap.size, .cells #[.int .i64 a0, .int .i64 pa, .int .u32 a2, .int .i64 a3] 24 (0, 0)), (w2.heap.size, .cells #[.int .i64 st, .int .i64 v, .int .u32 po, .int .i64 un] 24 (0, 0)), (w.heap.size, .cells (St.cells ⟨st, pa, po, un⟩) 24 (0, 0))])) (fun i _ => j - (intOf i).toNat)
        case atStart => exact ⟨0, pa + j, by omega, rfl, Lib.hid (by omega), Lib.hid (((O6.out.alloc w6.heap.size _ rfl).sub (.cons_cons _ (.cons_cons _ (.cons _ (List.Sublist.refl _))))))⟩
        case round =>
          obtain ⟨i2, v, hi2, rfl, hv, O7⟩ := hrel
          obtain ⟨w7, rfl⟩ : ∃ w7 : World, w7 = wr := ⟨_, rfl⟩
          have hv0 : 0 ≤ v := by have := hv.out; omega
          have hv1 : v ≤ 15 := by have := hv.out; have := hpj.out; omega
          obtain ⟨b_0, b_1, b_2, b_3, b_f0, b_f1, b_f2, b_f3⟩ := cells4 (O7.out.nth 0 rfl)
          have l_b := lt_blk (O7.out.nth 0 rfl)
          obtain ⟨a_0, a_1, a_2, a_3, a_f0, a_f1, a_f2, a_f3⟩ := cells4 (O7.out.nth 1 rfl)
          have l_a := lt_blk (O7.out.nth 1 rfl)
          obtain ⟨x_0, x_1, x_2, x_3, x_f0, x_f1, x_f2, x_f3⟩ := cells4 (O7.out.nth 2 rfl)
          have l_x := lt_blk (O7.out.nth 2 rfl)
          obtain ⟨s_0, s_1, s_2, s_3, s_f0, s_f1, s_f2, s_f3⟩ := cells4 (O7.out.nth 3 rfl)
          have l_s := lt_blk (O7.out.nth 3 rfl)
          by_cases hlt : i2 < j
          · by_cases hlast : i2 + 1 < j
            · have kx := okS.out v hv0 hv1
              have kb := gKq.out v ⟨hv0, hv1⟩
              have cx := fun W => Lib.hid (unpause_ok ⟨st, v, po, un⟩ kx (by have := hv.out; simp only; omega) W)
              have cb := fun W => Lib.hid (unpause_ok ⟨a0, v, a2, a3⟩ kb (by have := hv.out; simp only; omega) W)
              have cr := fun W => Lib.hid (runs_ st (v - 1) po un W)
              have hr0 : runsB ⟨st, v - 1, po, un⟩ = false := runs_pa (by have := hv.out; omega)
              rw [hr0] at cx cr
              generalize runsB ⟨a0, v - 1, a2, a3⟩ = rb2 at cb
              clear kx kb
              go_wp2_with fail
              refine ((cx _).out).mono ?_
              rintro e w8 ⟨rfl, hb⟩
              have O8 := Lib.hid (O7.out.call hb)
              clear hb O7 b_0 b_1 b_2 b_3 b_f0 b_f1 b_f2 b_f3 l_b a_0 a_1 a_2 a_3 a_f0 a_f1 a_f2 a_f3 l_a x_0 x_1 x_2 x_3 x_f0 x_f1 x_f2 x_f3 l_x s_0 s_1 s_2 s_3 s_f0 s_f1 s_f2 s_f3 l_s
              obtain ⟨b_0, b_1, b_2, b_3, b_f0, b_f1, b_f2, b_f3⟩ := cells4 (O8.out.nth 0 rfl)
              have l_b := lt_blk (O8.out.nth 0 rfl)
              obtain ⟨a_0, a_1, a_2, a_3, a_f0, a_f1, a_f2, a_f3⟩ := cells4 (O8.out.nth 1 rfl)
              have l_a := lt_blk (O8.out.nth 1 rfl)
              obtain ⟨x_0, x_1, x_2, x_3, x_f0, x_f1, x_f2, x_f3⟩ := cells4 (O8.out.nth 2 rfl)
              have l_x := lt_blk (O8.out.nth 2 rfl)
              obtain ⟨s_0, s_1, s_2, s_3, s_f0, s_f1, s_f2, s_f3⟩ := cells4 (O8.out.nth 3 rfl)
              have l_s := lt_blk (O8.out.nth 3 rfl)
              go_wp2_with fail
              refine ((cb _).out).mono ?_
              rintro e w9 ⟨rfl, hb⟩
              have O9 := Lib.hid ((O8.out.alloc w8.heap.size _ rfl).call hb)
              clear hb O8 b_0 b_1 b_2 b_3 b_f0 b_f1 b_f2 b_f3 l_b a_0 a_1 a_2 a_3 a_f0 a_f1 a_f2 a_f3 l_a x_0 x_1 x_2 x_3 x_f0 x_f1 x_f2 x_f3 l_x s_0 s_1 s_2 s_3 s_f0 s_f1 s_f2 s_f3 l_s
              obtain ⟨y_0, y_1, y_2, y_3, y_f0, y_f1, y_f2, y_f3⟩ := cells4 (O9.out.nth 0 rfl)
              have l_y := lt_blk (O9.out.nth 0 rfl)
              obtain ⟨b_0, b_1, b_2, b_3, b_f0, b_f1, b_f2, b_f3⟩ := cells4 (O9.out.nth 1 rfl)
              have l_b := lt_blk (O9.out.nth 1 rfl)
              obtain ⟨a_0, a_1, a_2, a_3, a_f0, a_f1, a_f2, a_f3⟩ := cells4 (O9.out.nth 2 rfl)
              have l_a := lt_blk (O9.out.nth 2 rfl)
              obtain ⟨x_0, x_1, x_2, x_3, x_f0, x_f1, x_f2, x_f3⟩ := cells4 (O9.out.nth 3 rfl)
              have l_x := lt_blk (O9.out.nth 3 rfl)
              obtain ⟨s_0, s_1, s_2, s_3, s_f0, s_f1, s_f2, s_f3⟩ := cells4 (O9.out.nth 4 rfl)
              have l_s := lt_blk (O9.out.nth 4 rfl)
              go_wp2_with fail
              refine ((cr _).out).mono ?_
              rintro e w10 ⟨rfl, hb⟩
              have O10 := Lib.hid ((O9.out.alloc w9.heap.size _ rfl).call hb)
              clear hb O9 y_0 y_1 y_2 y_3 y_f0 y_f1 y_f2 y_f3 l_y b_0 b_1 b_2 b_3 b_f0 b_f1 b_f2 b_f3 l_b a_0 a_1 a_2 a_3 a_f0 a_f1 a_f2 a_f3 l_a x_0 x_1 x_2 x_3 x_f0 x_f1 x_f2 x_f3 l_x s_0 s_1 s_2 s_3 s_f0 s_f1 s_f2 s_f3 l_s
              obtain ⟨z_0, z_1, z_2, z_3, z_f0, z_f1, z_f2, z_f3⟩ := cells4 (O10.out.nth 0 rfl)
              have l_z := lt_blk (O10.out.nth 0 rfl)
              obtain ⟨y_0, y_1, y_2, y_3, y_f0, y_f1, y_f2, y_f3⟩ := cells4 (O10.out.nth 1 rfl)
              have l_y := lt_blk (O10.out.nth 1 rfl)
              obtain ⟨b_0, b_1, b_2, b_3, b_f0, b_f1, b_f2, b_f3⟩ := cells4 (O10.out.nth 2 rfl)
              have l_b := lt_blk (O10.out.nth 2 rfl)
              obtain ⟨a_0, a_1, a_2, a_3, a_f0, a_f1, a_f2, a_f3⟩ := cells4 (O10.out.nth 3 rfl)
              have l_a := lt_blk (O10.out.nth 3 rfl)
              obtain ⟨x_0, x_1, x_2, x_3, x_f0, x_f1, x_f2, x_f3⟩ := cells4 (O10.out.nth 4 rfl)
              have l_x := lt_blk (O10.out.nth 4 rfl)
              obtain ⟨s_0, s_1, s_2, s_3, s_f0, s_f1, s_f2, s_f3⟩ := cells4 (O10.out.nth 5 rfl)
              have l_s := lt_blk (O10.out.nth 5 rfl)
              have q_bx := O10.out.lt2 2 4 (by decide) rfl rfl
              simp only at q_bx
              have n_bx := Nat.ne_of_lt q_bx
              have m_bx := Ne.symm n_bx
              clear q_bx
              have q_zx := O10.out.lt2 0 4 (by decide) rfl rfl
              simp only at q_zx
              have n_zx := Nat.ne_of_lt q_zx
              have m_zx := Ne.symm n_zx
              clear q_zx
              have q_zb := O10.out.lt2 0 2 (by decide) rfl rfl
              simp only at q_zb
              have n_zb := Nat.ne_of_lt q_zb
              have m_zb := Ne.symm n_zb
              clear q_zb
              have q_yx := O10.out.lt2 1 4 (by decide) rfl rfl
              simp only at q_yx
              have n_yx := Nat.ne_of_lt q_yx
              have m_yx := Ne.symm n_yx
              clear q_yx
              have q_yb := O10.out.lt2 1 2 (by decide) rfl rfl
              simp only at q_yb
              have n_yb := Nat.ne_of_lt q_yb
              have m_yb := Ne.symm n_yb
              clear q_yb
              go_wp2_with fail
              go_region
              all_goals
                go_wp2
                go_roundw
                case rel => exact ⟨i2 + 1, v - 1, by omega, by go_num, Lib.hid (by have := hv.out; omega), Lib.hid (by first | exact ((O10.out.set4 4 rfl _ _ _ _).set4 2 rfl _ _ _ _).drew.sub (.cons _ (.cons _ (List.Sublist.refl _))) | exact ((O10.out.set4 2 rfl _ _ _ _).set4 4 rfl _ _ _ _).drew.sub (.cons _ (.cons _ (List.Sublist.refl _))))⟩
                case measure => simp [intOf]; omega
            · have kx := okS.out v hv0 hv1
              have kb := gKq.out v ⟨hv0, hv1⟩
              have cx := fun W => Lib.hid (unpause_ok ⟨st, v, po, un⟩ kx (by have := hv.out; simp only; omega) W)
              have cb := fun W => Lib.hid (unpause_ok ⟨a0, v, a2, a3⟩ kb (by have := hv.out; simp only; omega) W)
              have cr := fun W => Lib.hid (runs_ st (v - 1) po un W)
              have hl : (j : Int) ≤ i2 + 1 := by omega
              generalize runsB ⟨st, v - 1, po, un⟩ = rb at cx cr
              generalize runsB ⟨a0, v - 1, a2, a3⟩ = rb2 at cb
              clear kx kb
              cases rb
              all_goals
                go_wp2_with fail
                refine ((cx _).out).mono ?_
                rintro e w8 ⟨rfl, hb⟩
                have O8 := Lib.hid (O7.out.call hb)
                clear hb O7 b_0 b_1 b_2 b_3 b_f0 b_f1 b_f2 b_f3 l_b a_0 a_1 a_2 a_3 a_f0 a_f1 a_f2 a_f3 l_a x_0 x_1 x_2 x_3 x_f0 x_f1 x_f2 x_f3 l_x s_0 s_1 s_2 s_3 s_f0 s_f1 s_f2 s_f3 l_s
                obtain ⟨b_0, b_1, b_2, b_3, b_f0, b_f1, b_f2, b_f3⟩ := cells4 (O8.out.nth 0 rfl)
                have l_b := lt_blk (O8.out.nth 0 rfl)
                obtain ⟨a_0, a_1, a_2, a_3, a_f0, a_f1, a_f2, a_f3⟩ := cells4 (O8.out.nth 1 rfl)
                have l_a := lt_blk (O8.out.nth 1 rfl)
                obtain ⟨x_0, x_1, x_2, x_3, x_f0, x_f1, x_f2, x_f3⟩ := cells4 (O8.out.nth 2 rfl)
                have l_x := lt_blk (O8.out.nth 2 rfl)
                obtain ⟨s_0, s_1, s_2, s_3, s_f0, s_f1, s_f2, s_f3⟩ := cells4 (O8.out.nth 3 rfl)
                have l_s := lt_blk (O8.out.nth 3 rfl)
                go_wp2_with fail
                refine ((cb _).out).mono ?_
                rintro e w9 ⟨rfl, hb⟩
                have O9 := Lib.hid ((O8.out.alloc w8.heap.size _ rfl).call hb)
                clear hb O8 b_0 b_1 b_2 b_3 b_f0 b_f1 b_f2 b_f3 l_b a_0 a_1 a_2 a_3 a_f0 a_f1 a_f2 a_f3 l_a x_0 x_1 x_2 x_3 x_f0 x_f1 x_f2 x_f3 l_x s_0 s_1 s_2 s_3 s_f0 s_f1 s_f2 s_f3 l_s
                obtain ⟨y_0, y_1, y_2, y_3, y_f0, y_f1, y_f2, y_f3⟩ := cells4 (O9.out.nth 0 rfl)
                have l_y := lt_blk (O9.out.nth 0 rfl)
                obtain ⟨b_0, b_1, b_2, b_3, b_f0, b_f1, b_f2, b_f3⟩ := cells4 (O9.out.nth 1 rfl)
                have l_b := lt_blk (O9.out.nth 1 rfl)
                obtain ⟨a_0, a_1, a_2, a_3, a_f0, a_f1, a_f2, a_f3⟩ := cells4 (O9.out.nth 2 rfl)
                have l_a := lt_blk (O9.out.nth 2 rfl)
                obtain ⟨x_0, x_1, x_2, x_3, x_f0, x_f1, x_f2, x_f3⟩ := cells4 (O9.out.nth 3 rfl)
                have l_x := lt_blk (O9.out.nth 3 rfl)
                obtain ⟨s_0, s_1, s_2, s_3, s_f0, s_f1, s_f2, s_f3⟩ := cells4 (O9.out.nth 4 rfl)
                have l_s := lt_blk (O9.out.nth 4 rfl)
                go_wp2_with fail
                refine ((cr _).out).mono ?_
                rintro e w10 ⟨rfl, hb⟩
                have O10 := Lib.hid ((O9.out.alloc w9.heap.size _ rfl).call hb)
                clear hb O9 y_0 y_1 y_2 y_3 y_f0 y_f1 y_f2 y_f3 l_y b_0 b_1 b_2 b_3 b_f0 b_f1 b_f2 b_f3 l_b a_0 a_1 a_2 a_3 a_f0 a_f1 a_f2 a_f3 l_a x_0 x_1 x_2 x_3 x_f0 x_f1 x_f2 x_f3 l_x s_0 s_1 s_2 s_3 s_f0 s_f1 s_f2 s_f3 l_s
                obtain ⟨z_0, z_1, z_2, z_3, z_f0, z_f1, z_f2, z_f3⟩ := cells4 (O10.out.nth 0 rfl)
                have l_z := lt_blk (O10.out.nth 0 rfl)
                obtain ⟨y_0, y_1, y_2, y_3, y_f0, y_f1, y_f2, y_f3⟩ := cells4 (O10.out.nth 1 rfl)
                have l_y := lt_blk (O10.out.nth 1 rfl)
                obtain ⟨b_0, b_1, b_2, b_3, b_f0, b_f1, b_f2, b_f3⟩ := cells4 (O10.out.nth 2 rfl)
                have l_b := lt_blk (O10.out.nth 2 rfl)
                obtain ⟨a_0, a_1, a_2, a_3, a_f0, a_f1, a_f2, a_f3⟩ := cells4 (O10.out.nth 3 rfl)
                have l_a := lt_blk (O10.out.nth 3 rfl)
                obtain ⟨x_0, x_1, x_2, x_3, x_f0, x_f1, x_f2, x_f3⟩ := cells4 (O10.out.nth 4 rfl)
                have l_x := lt_blk (O10.out.nth 4 rfl)
                obtain ⟨s_0, s_1, s_2, s_3, s_f0, s_f1, s_f2, s_f3⟩ := cells4 (O10.out.nth 5 rfl)
                have l_s := lt_blk (O10.out.nth 5 rfl)
                have q_bx := O10.out.lt2 2 4 (by decide) rfl rfl
                simp only at q_bx
                have n_bx := Nat.ne_of_lt q_bx
                have m_bx := Ne.symm n_bx
                clear q_bx
                have q_zx := O10.out.lt2 0 4 (by decide) rfl rfl
                simp only at q_zx
                have n_zx := Nat.ne_of_lt q_zx
                have m_zx := Ne.symm n_zx
                clear q_zx
                have q_zb := O10.out.lt2 0 2 (by decide) rfl rfl
                simp only at q_zb
                have n_zb := Nat.ne_of_lt q_zb
                have m_zb := Ne.symm n_zb
                clear q_zb
                have q_yx := O10.out.lt2 1 4 (by decide) rfl rfl
                simp only at q_yx
                have n_yx := Nat.ne_of_lt q_yx
                have m_yx := Ne.symm n_yx
                clear q_yx
                have q_yb := O10.out.lt2 1 2 (by decide) rfl rfl
                simp only at q_yb
                have n_yb := Nat.ne_of_lt q_yb
                have m_yb := Ne.symm n_yb
                clear q_yb
                go_wp2_with fail
                go_region
                all_goals
                  go_wp2
                  go_roundw
                  case rel => exact ⟨i2 + 1, v - 1, by omega, by go_num, Lib.hid (by have := hv.out; omega), Lib.hid (by first | exact ((O10.out.set4 4 rfl _ _ _ _).set4 2 rfl _ _ _ _).drew.sub (.cons _ (.cons _ (List.Sublist.refl _))) | exact ((O10.out.set4 2 rfl _ _ _ _).set4 4 rfl _ _ _ _).drew.sub (.cons _ (.cons _ (List.Sublist.refl _))))⟩
                  case measure => simp [intOf]; omega
          · have hij : i2 = j := by omega
            subst hij
            obtain rfl : v = pa := by have := hv.out; omega

            go_wp2
            go_ret
            exact ⟨rfl, O7.out.below⟩
      · obtain ⟨x_0, x_1, x_2, x_3, x_f0, x_f1, x_f2, x_f3⟩ := cells4 (O3.out.nth 0 rfl)
        have l_x := lt_blk (O3.out.nth 0 rfl)
        obtain ⟨s_0, s_1, s_2, s_3, s_f0, s_f1, s_f2, s_f3⟩ := cells4 (O3.out.nth 1 rfl)
        have l_s := lt_blk (O3.out.nth 1 rfl)
        have hfull := Lib.hid hfull0
        clear hfull0
        have hlt15 : pa + (j : Int) < 15 := by have := hpj.out; have := hfull.out; omega
        have hl15 := Lib.hid hlt15
        have cp := fun W => Lib.hid (pause_ok ⟨st, pa + j, po, un⟩ (okS.out (pa + j) (by omega) hpj.out) hlt15 W)
        have hr0 : runsB ⟨st, pa + j + 1, po, un⟩ = false := runs_pa (by omega)
        have cr := fun W => Lib.hid (runs_ st (pa + j + 1) po un W)
        rw [hr0] at cr
        go_wp2_with fail
        refine ((cp _).out).mono ?_
        rintro e w4 ⟨rfl, hb⟩
        have O4 := Lib.hid (O3.out.call hb)
        clear hb O3 x_0 x_1 x_2 x_3 x_f0 x_f1 x_f2 x_f3 l_x s_0 s_1 s_2 s_3 s_f0 s_f1 s_f2 s_f3 l_s
        obtain ⟨x_0, x_1, x_2, x_3, x_f0, x_f1, x_f2, x_f3⟩ := cells4 (O4.out.nth 0 rfl)
        have l_x := lt_blk (O4.out.nth 0 rfl)
        obtain ⟨s_0, s_1, s_2, s_3, s_f0, s_f1, s_f2, s_f3⟩ := cells4 (O4.out.nth 1 rfl)
        have l_s := lt_blk (O4.out.nth 1 rfl)
        go_wp2_with fail
        refine (cr _).out.mono ?_
        rintro e w5 ⟨rfl, hb⟩
        have O5 := Lib.hid (((O4.out.set4 0 rfl _ _ _ _).alloc w4.heap.size _ (by simp [World.setCell])).call hb)
        clear hb
        go_wp2
        go_roundw
        case rel => exact ⟨j + 1, by omega, by go_num, by go_num, Lib.hid (by have := hl15.out; omega), Lib.hid (by have h5 := O5.out.sub (L' := [(w2.heap.size, .cells (St.cells ⟨st, pa + j + 1, po, un⟩) 24 (0, 0)), (w.heap.size, .cells (St.cells ⟨st, pa, po, un⟩) 24 (0, 0))]) (.cons _ (List.Sublist.refl _)); rw [show pa + ((j + 1 : Nat) : Int) = pa + j + 1 from by omega]; exact h5)⟩
        case measure => simp [intOf]; omega
    · obtain ⟨x_0, x_1, x_2, x_3, x_f0, x_f1, x_f2, x_f3⟩ := cells4 (O3.out.nth 0 rfl)
      have l_x := lt_blk (O3.out.nth 0 rfl)
      obtain ⟨s_0, s_1, s_2, s_3, s_f0, s_f1, s_f2, s_f3⟩ := cells4 (O3.out.nth 1 rfl)
      have l_s := lt_blk (O3.out.nth 1 rfl)
      have hq0 : 0 ≤ port % 32 := by omega
      have hq1 : port % 32 < 32 := by omega
      have g1q := g1 (port % 32) hq0 hq1
      have g2q := g2 (port % 32) j hq0 hq1 hpj.out
      have gKq0 := gK.out (port % 32)
      have hAq := hA.out (port % 32)
      generalize A (port % 32) = Aq at g1q g2q gKq0 hAq
      generalize B (port % 32) = Bq at g1q g2q
      have gKq := Lib.hid gKq0
      clear gKq0
      clear g1 g2 gK hA
      obtain ⟨a0, a1, a2, a3⟩ := Aq
      obtain rfl : pa = a1 := hAq.symm
      go_wp2_with fail
      generalize port % 32 = qq at hq0 hq1 g1q g2q ⊢
      refine ((g1q _).out).mono ?_
      rintro e w4 ⟨rfl, hb⟩
      have O4 := Lib.hid (O3.out.call hb)
      clear hb O3 x_0 x_1 x_2 x_3 x_f0 x_f1 x_f2 x_f3 l_x s_0 s_1 s_2 s_3 s_f0 s_f1 s_f2 s_f3 l_s
      obtain ⟨x_0, x_1, x_2, x_3, x_f0, x_f1, x_f2, x_f3⟩ := cells4 (O4.out.nth 0 rfl)
      have l_x := lt_blk (O4.out.nth 0 rfl)
      obtain ⟨s_0, s_1, s_2, s_3, s_f0, s_f1, s_f2, s_f3⟩ := cells4 (O4.out.nth 1 rfl)
      have l_s := lt_blk (O4.out.nth 1 rfl)
      go_wp2_with fail
      refine ((g2q _).out).mono ?_
      rintro e w5 ⟨rfl, hb⟩
      have O5 := Lib.hid ((O4.out.alloc w4.heap.size _ rfl).call hb)
      clear hb O4 x_0 x_1 x_2 x_3 x_f0 x_f1 x_f2 x_f3 l_x s_0 s_1 s_2 s_3 s_f0 s_f1 s_f2 s_f3 l_s
      obtain ⟨a_0, a_1, a_2, a_3, a_f0, a_f1, a_f2, a_f3⟩ := cells4 (O5.out.nth 0 rfl)
      have l_a := lt_blk (O5.out.nth 0 rfl)
      obtain ⟨x_0, x_1, x_2, x_3, x_f0, x_f1, x_f2, x_f3⟩ := cells4 (O5.out.nth 1 rfl)
      have l_x := lt_blk (O5.out.nth 1 rfl)
      obtain ⟨s_0, s_1, s_2, s_3, s_f0, s_f1, s_f2, s_f3⟩ := cells4 (O5.out.nth 2 rfl)
      have l_s := lt_blk (O5.out.nth 2 rfl)
      go_wp2_with fail
      clear a_0 a_1 a_2 a_3 a_f0 a_f1 a_f2 a_f3 l_a x_0 x_1 x_2 x_3 x_f0 x_f1 x_f2 x_f3 l_x s_0 s_1 s_2 s_3 s_f0 s_f1 s_f2 s_f3 l_s
      go_loopw [78] (fun i wr => ∃ (i2 : Nat) (v : Int), i2 ≤ j ∧ i = .int .i64 i2 ∧ Hid (v = pa + j - i2) ∧ Hid (Owns w wr [(w5.heap.size, .cells #[.int .i64 a0, .int .i64 v, .int .u32 a2, .int .i64 a3] 24 (0, 0)), (w4.heap.size, .cells #[.int .i64 a0, .int .i64 pa, .int .u32 a2, .int .i64 a3] 24 (0, 0)), (w2.heap.size, .cells #[.int .i64 st, .int .i64 v, .int .u32 po, .int .i64 un] 24 (0, 0)), (w.heap.size, .cells (St.cells ⟨st, pa, po, un⟩) 24 (0, 0))])) (fun i _ => j - (intOf i).toNat)
      case atStart => exact ⟨0, pa + j, by omega, rfl, Lib.hid (by omega), Lib.hid ((O5.out.alloc w5.heap.size _ rfl))⟩
      case round =>
        obtain ⟨i2, v, hi2, rfl, hv, O6⟩ := hrel
        obtain ⟨w6, rfl⟩ : ∃ w6 : World, w6 = wr := ⟨_, rfl⟩
        have hv0 : 0 ≤ v := by have := hv.out; omega
        have hv1 : v ≤ 15 := by have := hv.out; have := hpj.out; omega
        obtain ⟨b_0, b_1, b_2, b_3, b_f0, b_f1, b_f2, b_f3⟩ := cells4 (O6.out.nth 0 rfl)
        have l_b := lt_blk (O6.out.nth 0 rfl)
        obtain ⟨a_0, a_1, a_2, a_3, a_f0, a_f1, a_f2, a_f3⟩ := cells4 (O6.out.nth 1 rfl)
        have l_a := lt_blk (O6.out.nth 1 rfl)
        obtain ⟨x_0, x_1, x_2, x_3, x_f0, x_f1, x_f2, x_f3⟩ := cells4 (O6.out.nth 2 rfl)
        have l_x := lt_blk (O6.out.nth 2 rfl)
        obtain ⟨s_0, s_1, s_2, s_3, s_f0, s_f1, s_f2, s_f3⟩ := cells4 (O6.out.nth 3 rfl)
        have l_s := lt_blk (O6.out.nth 3 rfl)
        by_cases hlt : i2 < j
        · by_cases hlast : i2 + 1 < j
          · have kx := okS.out v hv0 hv1
            have kb := gKq.out v ⟨hv0, hv1⟩
            have cx := fun W => Lib.hid (unpause_ok ⟨st, v, po, un⟩ kx (by have := hv.out; simp only; omega) W)
            have cb := fun W => Lib.hid (unpause_ok ⟨a0, v, a2, a3⟩ kb (by have := hv.out; simp only; omega) W)
            have cr := fun W => Lib.hid (runs_ st (v - 1) po un W)
            have hr0 : runsB ⟨st, v - 1, po, un⟩ = false := runs_pa (by have := hv.out; omega)
            rw [hr0] at cx cr
            generalize runsB ⟨a0, v - 1, a2, a3⟩ = rb2 at cb
            clear kx kb
            go_wp2_with fail
            refine ((cx _).out).mono ?_
            rintro e w7 ⟨rfl, hb⟩
            have O7 := Lib.hid (O6.out.call hb)
            clear hb O6 b_0 b_1 b_2 b_3 b_f0 b_f1 b_f2 b_f3 l_b a_0 a_1 a_2 a_3 a_f0 a_f1 a_f2 a_f3 l_a x_0 x_1 x_2 x_3 x_f0 x_f1 x_f2 x_f3 l_x s_0 s_1 s_2 s_3 s_f0 s_f1 s_f2 s_f3 l_s
            obtain ⟨b_0, b_1, b_2, b_3, b_f0, b_f1, b_f2, b_f3⟩ := cells4 (O7.out.nth 0 rfl)
            have l_b := lt_blk (O7.out.nth 0 rfl)
            obtain ⟨a_0, a_1, a_2, a_3, a_f0, a_f1, a_f2, a_f3⟩ := cells4 (O7.out.nth 1 rfl)
            have l_a := lt_blk (O7.out.nth 1 rfl)
            obtain ⟨x_0, x_1, x_2, x_3, x_f0, x_f1, x_f2, x_f3⟩ := cells4 (O7.out.nth 2 rfl)
            have l_x := lt_blk (O7.out.nth 2 rfl)
            obtain ⟨s_0, s_1, s_2, s_3, s_f0, s_f1, s_f2, s_f3⟩ := cells4 (O7.out.nth 3 rfl)
            have l_s := lt_blk (O7.out.nth 3 rfl)
            go_wp2_with fail
            refine ((cb _).out).mono ?_
            rintro e w8 ⟨rfl, hb⟩
            have O8 := Lib.hid ((O7.out.alloc w7.heap.size _ rfl).call hb)
            clear hb O7 b_0 b_1 b_2 b_3 b_f0 b_f1 b_f2 b_f3 l_b a_0 a_1 a_2 a_3 a_f0 a_f1 a_f2 a_f3 l_a x_0 x_1 x_2 x_3 x_f0 x_f1 x_f2 x_f3 l_x s_0 s_1 s_2 s_3 s_f0 s_f1 s_f2 s_f3 l_s
            obtain ⟨y_0, y_1, y_2, y_3, y_f0, y_f1, y_f2, y_f3⟩ := cells4 (O8.out.nth 0 rfl)
            have l_y := lt_blk (O8.out.nth 0 rfl)
            obtain ⟨b_0, b_1, b_2, b_3, b_f0, b_f1, b_f2, b_f3⟩ := cells4 (O8.out.nth 1 rfl)
            have l_b := lt_blk (O8.out.nth 1 rfl)
            obtain ⟨a_0, a_1, a_2, a_3, a_f0, a_f1, a_f2, a_f3⟩ := cells4 (O8.out.nth 2 rfl)
            have l_a := lt_blk (O8.out.nth 2 rfl)
            obtain ⟨x_0, x_1, x_2, x_3, x_f0, x_f1, x_f2, x_f3⟩ := cells4 (O8.out.nth 3 rfl)
            have l_x := lt_blk (O8.out.nth 3 rfl)
            obtain ⟨s_0, s_1, s_2, s_3, s_f0, s_f1, s_f2, s_f3⟩ := cells4 (O8.out.nth 4 rfl)
            have l_s := lt_blk (O8.out.nth 4 rfl)
            go_wp2_with fail
            refine ((cr _).out).mono ?_
            rintro e w9 ⟨rfl, hb⟩
            have O9 := Lib.hid ((O8.out.alloc w8.heap.size _ rfl).call hb)
            clear hb O8 y_0 y_1 y_2 y_3 y_f0 y_f1 y_f2 y_f3 l_y b_0 b_1 b_2 b_3 b_f0 b_f1 b_f2 b_f3 l_b a_0 a_1 a_2 a_3 a_f0 a_f1 a_f2 a_f3 l_a x_0 x_1 x_2 x_3 x_f0 x_f1 x_f2 x_f3 l_x s_0 s_1 s_2 s_3 s_f0 s_f1 s_f2 s_f3 l_s
            obtain ⟨z_0, z_1, z_2, z_3, z_f0, z_f1, z_f2, z_f3⟩ := cells4 (O9.out.nth 0 rfl)
            have l_z := lt_blk (O9.out.nth 0 rfl)
            obtain ⟨y_0, y_1, y_2, y_3, y_f0, y_f1, y_f2, y_f3⟩ := cells4 (O9.out.nth 1 rfl)
            have l_y := lt_blk (O9.out.nth 1 rfl)
            obtain ⟨b_0, b_1, b_2, b_3, b_f0, b_f1, b_f2, b_f3⟩ := cells4 (O9.out.nth 2 rfl)
            have l_b := lt_blk (O9.out.nth 2 rfl)
            obtain ⟨a_0, a_1, a_2, a_3, a_f0, a_f1, a_f2, a_f3⟩ := cells4 (O9.out.nth 3 rfl)
            have l_a := lt_blk (O9.out.nth 3 rfl)
            obtain ⟨x_0, x_1, x_2, x_3, x_f0, x_f1, x_f2, x_f3⟩ := cells4 (O9.out.nth 4 rfl)
            have l_x := lt_blk (O9.out.nth 4 rfl)
            obtain ⟨s_0, s_1, s_2, s_3, s_f0, s_f1, s_f2, s_f3⟩ := cells4 (O9.out.nth 5 rfl)
            have l_s := lt_blk (O9.out.nth 5 rfl)
            have q_bx := O9.out.lt2 2 4 (by decide) rfl rfl
            simp only at q_bx
            have n_bx := Nat.ne_of_lt q_bx
            have m_bx := Ne.symm n_bx
            clear q_bx
            have q_zx := O9.out.lt2 0 4 (by decide) rfl rfl
            simp only at q_zx
            have n_zx := Nat.ne_of_lt q_zx
            have m_zx := Ne.symm n_zx
            clear q_zx
            have q_zb := O9.out.lt2 0 2 (by decide) rfl rfl
            simp only at q_zb
            have n_zb := Nat.ne_of_lt q_zb
            have m_zb := Ne.symm n_zb
            clear q_zb
            have q_yx := O9.out.lt2 1 4 (by decide) rfl rfl
            simp only at q_yx
            have n_yx := Nat.ne_of_lt q_yx
            have m_yx := Ne.symm n_yx
            clear q_yx
            have q_yb := O9.out.lt2 1 2 (by decide) rfl rfl
            simp only at q_yb
            have n_yb := Nat.ne_of_lt q_yb
            have m_yb := Ne.symm n_yb
            clear q_yb
            go_wp2_with fail
            go_region
            all_goals
              go_wp2
              go_roundw
              case rel => exact ⟨i2 + 1, v - 1, by omega, by go_num, Lib.hid (by have := hv.out; omega), Lib.hid (by first | exact ((O9.out.set4 4 rfl _ _ _ _).set4 2 rfl _ _ _ _).drew.sub (.cons _ (.cons _ (List.Sublist.refl _))) | exact ((O9.out.set4 2 rfl _ _ _ _).set4 4 rfl _ _ _ _).drew.sub (.cons _ (.cons _ (List.Sublist.refl _))))⟩
              case measure => simp [intOf]; omega
          · have kx := okS.out v hv0 hv1
            have kb := gKq.out v ⟨hv0, hv1⟩
            have cx := fun W => Lib.hid (unpause_ok ⟨st, v, po, un⟩ kx (by have := hv.out; simp only; omega) W)
            have cb := fun W => Lib.hid (unpause_ok ⟨a0, v, a2, a3⟩ kb (by have := hv.out; simp only; omega) W)
            have cr := fun W => Lib.hid (runs_ st (v - 1) po un W)
            have hl : (j : Int) ≤ i2 + 1 := by omega
            generalize runsB ⟨st, v - 1, po, un⟩ = rb at cx cr
            generalize runsB ⟨a0, v - 1, a2, a3⟩ = rb2 at cb
            clear kx kb
            cases rb
            all_goals
              go_wp2_with fail
              refine ((cx _).out).mono ?_
              rintro e w7 ⟨rfl, hb⟩
              have O7 := Lib.hid (O6.out.call hb)
              clear hb O6 b_0 b_1 b_2 b_3 b_f0 b_f1 b_f2 b_f3 l_b a_0 a_1 a_2 a_3 a_f0 a_f1 a_f2 a_f3 l_a x_0 x_1 x_2 x_3 x_f0 x_f1 x_f2 x_f3 l_x s_0 s_1 s_2 s_3 s_f0 s_f1 s_f2 s_f3 l_s
              obtain ⟨b_0, b_1, b_2, b_3, b_f0, b_f1, b_f2, b_f3⟩ := cells4 (O7.out.nth 0 rfl)
              have l_b := lt_blk (O7.out.nth 0 rfl)
              obtain ⟨a_0, a_1, a_2, a_3, a_f0, a_f1, a_f2, a_f3⟩ := cells4 (O7.out.nth 1 rfl)
              have l_a := lt_blk (O7.out.nth 1 rfl)
              obtain ⟨x_0, x_1, x_2, x_3, x_f0, x_f1, x_f2, x_f3⟩ := cells4 (O7.out.nth 2 rfl)
              have l_x := lt_blk (O7.out.nth 2 rfl)
              obtain ⟨s_0, s_1, s_2, s_3, s_f0, s_f1, s_f2, s_f3⟩ := cells4 (O7.out.nth 3 rfl)
              have l_s := lt_blk (O7.out.nth 3 rfl)
              go_wp2_with fail
              refine ((cb _).out).mono ?_
              rintro e w8 ⟨rfl, hb⟩
              have O8 := Lib.hid ((O7.out.alloc w7.heap.size _ rfl).call hb)
              clear hb O7 b_0 b_1 b_2 b_3 b_f0 b_f1 b_f2 b_f3 l_b a_0 a_1 a_2 a_3 a_f0 a_f1 a_f2 a_f3 l_a x_0 x_1 x_2 x_3 x_f0 x_f1 x_f2 x_f3 l_x s_0 s_1 s_2 s_3 s_f0 s_f1 s_f2 s_f3 l_s
              obtain ⟨y_0, y_1, y_2, y_3, y_f0, y_f1, y_f2, y_f3⟩ := cells4 (O8.out.nth 0 rfl)
              have l_y := lt_blk (O8.out.nth 0 rfl)
              obtain ⟨b_0, b_1, b_2, b_3, b_f0, b_f1, b_f2, b_f3⟩ := cells4 (O8.out.nth 1 rfl)
              have l_b := lt_blk (O8.out.nth 1 rfl)
              obtain ⟨a_0, a_1, a_2, a_3, a_f0, a_f1, a_f2, a_f3⟩ := cells4 (O8.out.nth 2 rfl)
              have l_a := lt_blk (O8.out.nth 2 rfl)
              obtain ⟨x_0, x_1, x_2, x_3, x_f0, x_f1, x_f2, x_f3⟩ := cells4 (O8.out.nth 3 rfl)
              have l_x := lt_blk (O8.out.nth 3 rfl)
              obtain ⟨s_0, s_1, s_2, s_3, s_f0, s_f1, s_f2, s_f3⟩ := cells4 (O8.out.nth 4 rfl)
              have l_s := lt_blk (O8.out.nth 4 rfl)
              go_wp2_with fail
              refine ((cr _).out).mono ?_
              rintro e w9 ⟨rfl, hb⟩
              have O9 := Lib.hid ((O8.out.alloc w8.heap.size _ rfl).call hb)
              clear hb O8 y_0 y_1 y_2 y_3 y_f0 y_f1 y_f2 y_f3 l_y b_0 b_1 b_2 b_3 b_f0 b_f1 b_f2 b_f3 l_b a_0 a_1 a_2 a_3 a_f0 a_f1 a_f2 a_f3 l_a x_0 x_1 x_2 x_3 x_f0 x_f1 x_f2 x_f3 l_x s_0 s_1 s_2 s_3 s_f0 s_f1 s_f2 s_f3 l_s
              obtain ⟨z_0, z_1, z_2, z_3, z_f0, z_f1, z_f2, z_f3⟩ := cells4 (O9.out.nth 0 rfl)
              have l_z := lt_blk (O9.out.nth 0 rfl)
              obtain ⟨y_0, y_1, y_2, y_3, y_f0, y_f1, y_f2, y_f3⟩ := cells4 (O9.out.nth 1 rfl)
              have l_y := lt_blk (O9.out.nth 1 rfl)
              obtain ⟨b_0, b_1, b_2, b_3, b_f0, b_f1, b_f2, b_f3⟩ := cells4 (O9.out.nth 2 rfl)
              have l_b := lt_blk (O9.out.nth 2 rfl)
              obtain ⟨a_0, a_1, a_2, a_3, a_f0, a_f1, a_f2, a_f3⟩ := cells4 (O9.out.nth 3 rfl)
              have l_a := lt_blk (O9.out.nth 3 rfl)
              obtain ⟨x_0, x_1, x_2, x_3, x_f0, x_f1, x_f2, x_f3⟩ := cells4 (O9.out.nth 4 rfl)
              have l_x := lt_blk (O9.out.nth 4 rfl)
              obtain ⟨s_0, s_1, s_2, s_3, s_f0, s_f1, s_f2, s_f3⟩ := cells4 (O9.out.nth 5 rfl)
              have l_s := lt_blk (O9.out.nth 5 rfl)
              have q_bx := O9.out.lt2 2 4 (by decide) rfl rfl
              simp only at q_bx
              have n_bx := Nat.ne_of_lt q_bx
              have m_bx := Ne.symm n_bx
              clear q_bx
              have q_zx := O9.out.lt2 0 4 (by decide) rfl rfl
              simp only at q_zx
              have n_zx := Nat.ne_of_lt q_zx
              have m_zx := Ne.symm n_zx
              clear q_zx
              have q_zb := O9.out.lt2 0 2 (by decide) rfl rfl
              simp only at q_zb
              have n_zb := Nat.ne_of_lt q_zb
              have m_zb := Ne.symm n_zb
              clear q_zb
              have q_yx := O9.out.lt2 1 4 (by decide) rfl rfl
              simp only at q_yx
              have n_yx := Nat.ne_of_lt q_yx
              have m_yx := Ne.symm n_yx
              clear q_yx
              have q_yb := O9.out.lt2 1 2 (by decide) rfl rfl
              simp only at q_yb
              have n_yb := Nat.ne_of_lt q_yb
              have m_yb := Ne.symm n_yb
              clear q_yb
              go_wp2_with fail
              go_region
              all_goals
                go_wp2
                go_roundw
                case rel => exact ⟨i2 + 1, v - 1, by omega, by go_num, Lib.hid (by have := hv.out; omega), Lib.hid (by first | exact ((O9.out.set4 4 rfl _ _ _ _).set4 2 rfl _ _ _ _).drew.sub (.cons _ (.cons _ (List.Sublist.refl _))) | exact ((O9.out.set4 2 rfl _ _ _ _).set4 4 rfl _ _ _ _).drew.sub (.cons _ (.cons _ (List.Sublist.refl _))))⟩
                case measure => simp [intOf]; omega
        · have hij : i2 = j := by omega
          subst hij
          obtain rfl : v = pa := by have := hv.out; omega

          go_wp2
          go_ret
          exact ⟨rfl, O6.out.below⟩

theorem pauses_good (s : St) (A : Int → St) (B : Int → Bool) (n port : Int) (hn0 : -9223372036854775808 ≤ n) (hn1 : n ≤ 9223372036854775807) (hp0 : -9223372036854775808 ≤ port) (hp1 : port ≤ 9223372036854775807) (hk : okB s = true)
    (g1 : ∀ q, 0 ≤ q → q < 32 → ∀ W, Hid (Calls Try.prog 10 #[.agg s.cells, .int .i64 q, .bool false] W fun e w' => e = .returned (triple (A q) (B q) 0) ∧ Below W.heap.size W w'))
    (g2 : ∀ q (j : Nat), 0 ≤ q → q < 32 → s.pa + j ≤ 15 → ∀ W, Hid (Calls Try.prog 10 #[.agg (St.cells ⟨s.st, s.pa + j, s.po, s.un⟩), .int .i64 q, .bool false] W fun e w' => e = .returned (triple ⟨(A q).st, (A q).pa + j, (A q).po, (A q).un⟩ (B q) 0) ∧ Below W.heap.size W w'))
    (gK0 : ∀ q (u : Int), 0 ≤ u ∧ u ≤ 15 → okB ⟨(A q).st, u, (A q).po, (A q).un⟩ = true) (hA0 : ∀ q, (A q).pa = s.pa) (okS0 : ∀ v : Int, 0 ≤ v → v ≤ 15 → okB ⟨s.st, v, s.po, s.un⟩ = true) (w : World) :
    Calls Try.prog 6 #[.agg s.cells, .int .i64 n, .int .i64 port] w fun e w' => e = .returned (.bool true) ∧ Below w.heap.size w w' := by
  rcases Int.lt_or_le n 0 with h1 | h1 <;> rcases Int.lt_or_le port 0 with h2 | h2
  · exact pauses_good_11 s A B n port hn0 hn1 hp0 hp1 hk h1 h2 g1 g2 gK0 hA0 okS0 w
  · exact pauses_good_10 s A B n port hn0 hn1 hp0 hp1 hk h1 h2 g1 g2 gK0 hA0 okS0 w
  · exact pauses_good_01 s A B n port hn0 hn1 hp0 hp1 hk h1 h2 g1 g2 gK0 hA0 okS0 w
  · exact pauses_good_00 s A B n port hn0 hn1 hp0 hp1 hk h1 h2 g1 g2 gK0 hA0 okS0 w

theorem WaitPauses_walk (s : St) (n port : Int) (hpo : 0 ≤ s.po ∧ s.po < 4294967296) (hn : (Lit.int .i64 n).wf = true) (hw : (Lit.int .i64 port).wf = true) (w : World) :
    Calls Try.prog 6 #[.agg s.cells, .int .i64 n, .int .i64 port] w fun e w' => e = .returned (.bool true) ∧ Below w.heap.size w w' := by
  have hp0 : -9223372036854775808 ≤ port := by simp [Lit.wf, IntKind.min, IntKind.max, IntKind.bits, IntKind.signed] at hw; omega
  have hp1 : port ≤ 9223372036854775807 := by simp [Lit.wf, IntKind.min, IntKind.max, IntKind.bits, IntKind.signed] at hw; omega
  have hn0 : -9223372036854775808 ≤ n := by simp [Lit.wf, IntKind.min, IntKind.max, IntKind.bits, IntKind.signed] at hn; omega
  have hn1 : n ≤ 9223372036854775807 := by simp [Lit.wf, IntKind.min, IntKind.max, IntKind.bits, IntKind.signed] at hn; omega
  cases hk : okB s with
  | false => exact pauses_bad s n port hk w
  | true =>
    have hkP : okP s := of_decide_eq_true hk
    have okV : ∀ v : Int, 0 ≤ v → v ≤ 15 → okB ⟨s.st, v, s.po, s.un⟩ = true := fun v h0 h1 => decide_eq_true (by simp only [okP] at hkP ⊢; omega)
    have okR : ∀ u : Int, 0 ≤ u → u ≤ 15 → okB ⟨1, u, 0, 0⟩ = true := fun u h0 h1 => decide_eq_true (by simp only [okP]; simp; omega)
    refine pauses_good s (fun q => evS s q false) (fun q => neB s (evS s q false)) n port hn0 hn1 hp0 hp1 hk (fun q h0 h1 W => Lib.hid ?_) (fun q j h0 h1 hj W => Lib.hid ?_) (fun q u hu => ?_) (fun q => ?_) okV w
    · have := event_ s q false W hpo
      rw [evR_in ⟨h0, h1⟩, tnS_ok hk, tnB_ok hk, tnE_ok hk] at this
      exact this
    · have hpa := (okB_pa hk).1
      have kj := okV (s.pa + j) (by omega) hj
      have := event_ ⟨s.st, s.pa + j, s.po, s.un⟩ q false W hpo
      rw [evR_in ⟨h0, h1⟩, tnS_ok kj, tnB_ok kj, tnE_ok kj] at this
      have e : evS ⟨s.st, s.pa + j, s.po, s.un⟩ q false = ⟨(evS s q false).st, (evS s q false).pa + j, (evS s q false).po, (evS s q false).un⟩ := by
        simp only [evS]; split
        · rfl
        · split <;> rfl
      have e2 : neB ⟨s.st, s.pa + j, s.po, s.un⟩ (evS ⟨s.st, s.pa + j, s.po, s.un⟩ q false) = neB s (evS s q false) := by
        rcases evS_cases s q false with h | h
        · have h' : evS ⟨s.st, s.pa + j, s.po, s.un⟩ q false = ⟨s.st, s.pa + j, s.po, s.un⟩ := by rw [e, h]
          rw [h, h', neB_self, neB_self]
        · have h' : evS ⟨s.st, s.pa + j, s.po, s.un⟩ q false = ⟨1, s.pa + j, 0, 0⟩ := by rw [e, h]
          rw [h, h']; simp [neB]
      rw [e2, e] at this
      exact this
    · rcases evS_cases s q false with h | h
      · show okB ⟨(evS s q false).st, u, (evS s q false).po, (evS s q false).un⟩ = true
        rw [h]; exact okV u hu.1 hu.2
      · show okB ⟨(evS s q false).st, u, (evS s q false).po, (evS s q false).un⟩ = true
        rw [h]; exact okR u hu.1 hu.2
    · rcases evS_cases s q false with h | h
      · show (evS s q false).pa = s.pa
        rw [h]
      · show (evS s q false).pa = s.pa
        rw [h]

end Go.Proofs.Ytjppkcdonddohaa.A
