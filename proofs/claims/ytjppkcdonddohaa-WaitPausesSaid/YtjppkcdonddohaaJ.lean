/-
  Walks of the wait layer's statements: WaitWakes.
-/
import Derived.Test.YtjppkcdonddohaaI
set_option linter.unusedVariables false
set_option linter.unusedSimpArgs false
namespace Go.Proofs.Ytjppkcdonddohaa.A
open Go.RowKit

theorem tnB_is (s s' : St) (r : Int) : tnB s s' r = (tnE s r == 0 && neB s (tnS s s' r)) := by
  cases hk : okB s with
  | false => rw [tnE_bad hk]; simp [tnB, hk]
  | true =>
    rw [tnE_ok hk]
    by_cases h : r = 0
    · subst h; rw [tnB_ok hk, tnS_ok hk]; simp
    · simp [tnB, hk, h]

theorem loop_cells {w : World} {b : Nat} {t : TypeId} (hb : w.heap[b]? = some (.cells #[.bool false, .bool true] t (0, 0))) (k : Nat) (hk : k < 2) : w.cell? ⟨b, k, none⟩ = some (.bool (k == 1)) := by
  refine (cell_of_row w b _ _ _ (0, 0) hb).trans ?_
  match k, hk with
  | 0, _ => rfl
  | 1, _ => rfl

set_option maxHeartbeats 12800000 in
theorem wakes_core (s Y : St) (X : Bool → St) (B : Bool → Bool) (E : Int) (B2 : Bool) (E2 : Int) (ap ad : Int) (au an port : Int) (w : World)
    (h1 : ∀ m W, Hid (Calls Try.prog 10 #[.agg s.cells, .int .i64 port, .bool m] W fun e w' => e = .returned (triple (X m) (B m) E) ∧ Below W.heap.size W w'))
    (h2 : ∀ m W, Hid (Calls Try.prog 11 #[.agg s.cells, .int .i64 port, .bool m] W fun e w' => e = .returned (.tuple #[.agg (X m).cells, .int .i64 E]) ∧ Below W.heap.size W w'))
    (hB : ∀ m, Hid (B m = (E == 0 && neB s (X m))))
    (h3 : ∀ W, Hid (Calls Try.prog 12 #[.agg s.cells, .int .i64 an] W fun e w' => e = .returned (triple Y B2 E2) ∧ Below W.heap.size W w'))
    (h4 : ∀ W, okB s = true → Hid (Calls Try.prog 14 #[.agg s.cells, .int .i64 an] W fun e w' => e = .returned (.agg Y.cells) ∧ Below W.heap.size W w'))
    (hpo : 0 ≤ s.po)
    (hc : (okB s = false ∧ Y = St.zero ∧ B2 = false ∧ E2 = 270) ∨ (okB s = true ∧ E2 = 0 ∧ B2 = neB s Y)) :
    Calls Try.prog 3 #[.agg s.cells, .agg #[.int .u32 ap, .int .u32 ad, .int .i64 au, .int .i64 an], .int .i64 port] w fun e w' => e = .returned (.bool true) ∧ Below w.heap.size w w' := by
  obtain ⟨st, pa, po, un⟩ := s
  obtain ⟨Y0, Y1, Y2, Y3⟩ := Y
  have O := Lib.hid (Own.start w)
  go_enter Try.func3, Try.ntmps3
  go_wp2_with fail
  refine (wakes_ _).mono ?_
  rintro e w1 ⟨rfl, hb⟩
  have O1 := Lib.hid (((O.out.alloc w.heap.size _ rfl).alloc (w.heap.size + 1) _ (by simp)).call hb)
  clear hb O
  go_wp2_with fail
  go_loopw [22] (fun i wr => ∃ k : Nat, k ≤ 2 ∧ i = .int .i64 k ∧ Hid (Own w wr [(w1.heap.size, .cells #[.bool false, .bool true] 4 (0, 0)), (w.heap.size + 1, .cells #[.int .u32 ap, .int .u32 ad, .int .i64 au, .int .i64 an] 26 (0, 0)), (w.heap.size, .cells (St.cells ⟨st, pa, po, un⟩) 24 (0, 0))])) (fun i _ => 2 - (intOf i).toNat)
  case atStart => exact ⟨0, by omega, rfl, Lib.hid (O1.out.alloc w1.heap.size _ rfl)⟩
  case round =>
    obtain ⟨k, hk, rfl, HO⟩ := hrel
    have s0 := cells4 (HO.out.nth 2 rfl)
    obtain ⟨s0, s1, s2, s3, _, _, _, _⟩ := s0
    by_cases hlt : k < 2
    · have c0 := loop_cells (HO.out.nth 0 rfl) k hlt
      generalize (k == 1) = m at c0
      have g1 := h1 m
      have g2 := h2 m
      have hBk := hB m
      clear h1 h2 hB h3
      generalize X m = Xm at g1 g2 hBk
      generalize B m = Bm at g1 hBk
      obtain ⟨X0, X1, X2, X3⟩ := Xm
      rcases Bool.eq_false_or_eq_true (E == 0) with hE | hE
      · by_cases e0 : X0 = st
        · subst e0
          by_cases e1 : X1 = pa
          · subst e1
            by_cases e2 : X2 = po
            · subst e2
              by_cases e3 : X3 = un
              · subst e3
                have hBv : Bm = false := by rw [hBk.out, neB_self]; simp
                clear hBk
                go_wp2_with fail
                refine (g1 _).out.mono ?_
                rintro e w2 ⟨rfl, hb⟩
                have O2 := Lib.hid (HO.out.call hb)
                clear hb s0 s1 s2 s3 c0
                obtain ⟨s0, s1, s2, s3, _, _, _, _⟩ := cells4 (O2.out.nth 2 rfl)
                have ls := lt_blk (O2.out.nth 2 rfl)
                go_wp2_with fail
                refine (g2 _).out.mono ?_
                rintro e w3 ⟨rfl, hb⟩
                have O3 := Lib.hid ((O2.out.alloc w2.heap.size _ rfl).call hb)
                clear hb s0 s1 s2 s3 ls
                obtain ⟨x0, x1, x2, x3, _, _, _, _⟩ := cells4 (O3.out.nth 0 rfl)
                obtain ⟨s0, s1, s2, s3, _, _, _, _⟩ := cells4 (O3.out.nth 3 rfl)
                have lx := lt_blk (O3.out.nth 0 rfl)
                have ls := lt_blk (O3.out.nth 3 rfl)
                go_wp2
                go_roundw
                case rel => exact ⟨k + 1, by omega, by go_num, Lib.hid ⟨O3.out.below.alloc O3.out.below.size _, fun p hp => alloc_at (O3.out.at_ p (List.mem_cons_of_mem _ hp))⟩⟩
                case measure => simp [intOf]; omega
              · have hBv : Bm = true := by rw [hBk.out]; simp [neB, hE, e3]
                clear hBk
                go_wp2_with fail
                refine (g1 _).out.mono ?_
                rintro e w2 ⟨rfl, hb⟩
                have O2 := Lib.hid (HO.out.call hb)
                clear hb s0 s1 s2 s3 c0
                obtain ⟨s0, s1, s2, s3, _, _, _, _⟩ := cells4 (O2.out.nth 2 rfl)
                have ls := lt_blk (O2.out.nth 2 rfl)
                go_wp2_with fail
                refine (g2 _).out.mono ?_
                rintro e w3 ⟨rfl, hb⟩
                have O3 := Lib.hid ((O2.out.alloc w2.heap.size _ rfl).call hb)
                clear hb s0 s1 s2 s3 ls
                obtain ⟨x0, x1, x2, x3, _, _, _, _⟩ := cells4 (O3.out.nth 0 rfl)
                obtain ⟨s0, s1, s2, s3, _, _, _, _⟩ := cells4 (O3.out.nth 3 rfl)
                have lx := lt_blk (O3.out.nth 0 rfl)
                have ls := lt_blk (O3.out.nth 3 rfl)
                go_wp2
                go_roundw
                case rel => exact ⟨k + 1, by omega, by go_num, Lib.hid ⟨O3.out.below.alloc O3.out.below.size _, fun p hp => alloc_at (O3.out.at_ p (List.mem_cons_of_mem _ hp))⟩⟩
                case measure => simp [intOf]; omega
            · have hBv : Bm = true := by rw [hBk.out]; simp [neB, hE, e2]
              clear hBk
              go_wp2_with fail
              refine (g1 _).out.mono ?_
              rintro e w2 ⟨rfl, hb⟩
              have O2 := Lib.hid (HO.out.call hb)
              clear hb s0 s1 s2 s3 c0
              obtain ⟨s0, s1, s2, s3, _, _, _, _⟩ := cells4 (O2.out.nth 2 rfl)
              have ls := lt_blk (O2.out.nth 2 rfl)
              go_wp2_with fail
              refine (g2 _).out.mono ?_
              rintro e w3 ⟨rfl, hb⟩
              have O3 := Lib.hid ((O2.out.alloc w2.heap.size _ rfl).call hb)
              clear hb s0 s1 s2 s3 ls
              obtain ⟨x0, x1, x2, x3, _, _, _, _⟩ := cells4 (O3.out.nth 0 rfl)
              obtain ⟨s0, s1, s2, s3, _, _, _, _⟩ := cells4 (O3.out.nth 3 rfl)
              have lx := lt_blk (O3.out.nth 0 rfl)
              have ls := lt_blk (O3.out.nth 3 rfl)
              go_wp2
              go_roundw
              case rel => exact ⟨k + 1, by omega, by go_num, Lib.hid ⟨O3.out.below.alloc O3.out.below.size _, fun p hp => alloc_at (O3.out.at_ p (List.mem_cons_of_mem _ hp))⟩⟩
              case measure => simp [intOf]; omega
          · have hBv : Bm = true := by rw [hBk.out]; simp [neB, hE, e1]
            clear hBk
            go_wp2_with fail
            refine (g1 _).out.mono ?_
            rintro e w2 ⟨rfl, hb⟩
            have O2 := Lib.hid (HO.out.call hb)
            clear hb s0 s1 s2 s3 c0
            obtain ⟨s0, s1, s2, s3, _, _, _, _⟩ := cells4 (O2.out.nth 2 rfl)
            have ls := lt_blk (O2.out.nth 2 rfl)
            go_wp2_with fail
            refine (g2 _).out.mono ?_
            rintro e w3 ⟨rfl, hb⟩
            have O3 := Lib.hid ((O2.out.alloc w2.heap.size _ rfl).call hb)
            clear hb s0 s1 s2 s3 ls
            obtain ⟨x0, x1, x2, x3, _, _, _, _⟩ := cells4 (O3.out.nth 0 rfl)
            obtain ⟨s0, s1, s2, s3, _, _, _, _⟩ := cells4 (O3.out.nth 3 rfl)
            have lx := lt_blk (O3.out.nth 0 rfl)
            have ls := lt_blk (O3.out.nth 3 rfl)
            go_wp2
            go_roundw
            case rel => exact ⟨k + 1, by omega, by go_num, Lib.hid ⟨O3.out.below.alloc O3.out.below.size _, fun p hp => alloc_at (O3.out.at_ p (List.mem_cons_of_mem _ hp))⟩⟩
            case measure => simp [intOf]; omega
        · have hBv : Bm = true := by rw [hBk.out]; simp [neB, hE, e0]
          clear hBk
          go_wp2_with fail
          refine (g1 _).out.mono ?_
          rintro e w2 ⟨rfl, hb⟩
          have O2 := Lib.hid (HO.out.call hb)
          clear hb s0 s1 s2 s3 c0
          obtain ⟨s0, s1, s2, s3, _, _, _, _⟩ := cells4 (O2.out.nth 2 rfl)
          have ls := lt_blk (O2.out.nth 2 rfl)
          go_wp2_with fail
          refine (g2 _).out.mono ?_
          rintro e w3 ⟨rfl, hb⟩
          have O3 := Lib.hid ((O2.out.alloc w2.heap.size _ rfl).call hb)
          clear hb s0 s1 s2 s3 ls
          obtain ⟨x0, x1, x2, x3, _, _, _, _⟩ := cells4 (O3.out.nth 0 rfl)
          obtain ⟨s0, s1, s2, s3, _, _, _, _⟩ := cells4 (O3.out.nth 3 rfl)
          have lx := lt_blk (O3.out.nth 0 rfl)
          have ls := lt_blk (O3.out.nth 3 rfl)
          go_wp2
          go_roundw
          case rel => exact ⟨k + 1, by omega, by go_num, Lib.hid ⟨O3.out.below.alloc O3.out.below.size _, fun p hp => alloc_at (O3.out.at_ p (List.mem_cons_of_mem _ hp))⟩⟩
          case measure => simp [intOf]; omega
      · have hBv : Bm = false := by rw [hBk.out, hE]; rfl
        clear hBk
        go_wp2_with fail
        refine (g1 _).out.mono ?_
        rintro e w2 ⟨rfl, hb⟩
        have O2 := Lib.hid (HO.out.call hb)
        clear hb s0 s1 s2 s3 c0
        obtain ⟨s0, s1, s2, s3, _, _, _, _⟩ := cells4 (O2.out.nth 2 rfl)
        have ls := lt_blk (O2.out.nth 2 rfl)
        go_wp2_with fail
        refine (g2 _).out.mono ?_
        rintro e w3 ⟨rfl, hb⟩
        have O3 := Lib.hid ((O2.out.alloc w2.heap.size _ rfl).call hb)
        clear hb s0 s1 s2 s3 ls
        obtain ⟨x0, x1, x2, x3, _, _, _, _⟩ := cells4 (O3.out.nth 0 rfl)
        obtain ⟨s0, s1, s2, s3, _, _, _, _⟩ := cells4 (O3.out.nth 3 rfl)
        have lx := lt_blk (O3.out.nth 0 rfl)
        have ls := lt_blk (O3.out.nth 3 rfl)
        go_wp2
        go_roundw
        case rel => exact ⟨k + 1, by omega, by go_num, Lib.hid ⟨O3.out.below.alloc O3.out.below.size _, fun p hp => alloc_at (O3.out.at_ p (List.mem_cons_of_mem _ hp))⟩⟩
        case measure => simp [intOf]; omega
    · have : k = 2 := by omega
      subst this
      clear h1 h2 hB hlt hk
      obtain ⟨a0, a1, a2, a3⟩ := cells_ask (HO.out.nth 1 rfl)
      go_wp2_with fail
      refine (h3 _).out.mono ?_
      rintro e w2 ⟨rfl, hb⟩
      have O2 := Lib.hid (HO.out.call hb)
      clear hb s0 s1 s2 s3
      obtain ⟨s0, s1, s2, s3, _, _, _, _⟩ := cells4 (O2.out.nth 2 rfl)
      have ls := lt_blk (O2.out.nth 2 rfl)
      go_wp2_with fail
      refine (right_ _ _ _ _ hpo _).mono ?_
      rintro e w3 ⟨rfl, hb⟩
      have O3 := Lib.hid ((O2.out.alloc w2.heap.size _ rfl).call hb)
      clear hb s0 s1 s2 s3 ls
      obtain ⟨s0, s1, s2, s3, _, _, _, _⟩ := cells4 (O3.out.nth 3 rfl)
      have ls := lt_blk (O3.out.nth 3 rfl)
      rcases hc with ⟨hok, hY, rfl, rfl⟩ | ⟨hok, rfl, hB20⟩
      · obtain ⟨rfl, rfl, rfl, rfl⟩ := St.mk.inj hY
        obtain ⟨x0, x1, x2, x3, _, _, _, _⟩ := cells4 (O3.out.nth 0 rfl)
        clear h4
        go_wp2
        go_ret
        exact ⟨rfl, O3.out.below⟩
      · have h4' := fun W => h4 W hok
        have hB2 := Lib.hid hB20
        clear hB20 h4
        obtain ⟨a0, a1, a2, a3⟩ := cells_ask (O3.out.nth 2 rfl)
        have la := lt_blk (O3.out.nth 2 rfl)
        by_cases e0 : Y0 = st
        · subst e0
          by_cases e1 : Y1 = pa
          · subst e1
            by_cases e2 : Y2 = po
            · subst e2
              by_cases e3 : Y3 = un
              · subst e3
                have hBv : B2 = false := by rw [hB2.out, neB_self]
                clear hB2
                go_wp2_with fail
                refine (h4' _).out.mono ?_
                rintro e w4 ⟨rfl, hb⟩
                have O4 := Lib.hid (O3.out.call hb)
                clear hb s0 s1 s2 s3 ls
                obtain ⟨x0, x1, x2, x3, _, _, _, _⟩ := cells4 (O4.out.nth 0 rfl)
                obtain ⟨s0, s1, s2, s3, _, _, _, _⟩ := cells4 (O4.out.nth 3 rfl)
                have lx := lt_blk (O4.out.nth 0 rfl)
                have ls := lt_blk (O4.out.nth 3 rfl)
                go_wp2
                go_ret
                exact ⟨rfl, O4.out.below.alloc O4.out.below.size _⟩
              · have hBv : B2 = true := by rw [hB2.out]; simp [neB, e3]
                clear hB2
                go_wp2_with fail
                refine (h4' _).out.mono ?_
                rintro e w4 ⟨rfl, hb⟩
                have O4 := Lib.hid (O3.out.call hb)
                clear hb s0 s1 s2 s3 ls
                obtain ⟨x0, x1, x2, x3, _, _, _, _⟩ := cells4 (O4.out.nth 0 rfl)
                obtain ⟨s0, s1, s2, s3, _, _, _, _⟩ := cells4 (O4.out.nth 3 rfl)
                have lx := lt_blk (O4.out.nth 0 rfl)
                have ls := lt_blk (O4.out.nth 3 rfl)
                go_wp2
                go_ret
                exact ⟨rfl, O4.out.below.alloc O4.out.below.size _⟩
            · have hBv : B2 = true := by rw [hB2.out]; simp [neB, e2]
              clear hB2
              go_wp2_with fail
              refine (h4' _).out.mono ?_
              rintro e w4 ⟨rfl, hb⟩
              have O4 := Lib.hid (O3.out.call hb)
              clear hb s0 s1 s2 s3 ls
              obtain ⟨x0, x1, x2, x3, _, _, _, _⟩ := cells4 (O4.out.nth 0 rfl)
              obtain ⟨s0, s1, s2, s3, _, _, _, _⟩ := cells4 (O4.out.nth 3 rfl)
              have lx := lt_blk (O4.out.nth 0 rfl)
              have ls := lt_blk (O4.out.nth 3 rfl)
              go_wp2
              go_ret
              exact ⟨rfl, O4.out.below.alloc O4.out.below.size _⟩
          · have hBv : B2 = true := by rw [hB2.out]; simp [neB, e1]
            clear hB2
            go_wp2_with fail
            refine (h4' _).out.mono ?_
            rintro e w4 ⟨rfl, hb⟩
            have O4 := Lib.hid (O3.out.call hb)
            clear hb s0 s1 s2 s3 ls
            obtain ⟨x0, x1, x2, x3, _, _, _, _⟩ := cells4 (O4.out.nth 0 rfl)
            obtain ⟨s0, s1, s2, s3, _, _, _, _⟩ := cells4 (O4.out.nth 3 rfl)
            have lx := lt_blk (O4.out.nth 0 rfl)
            have ls := lt_blk (O4.out.nth 3 rfl)
            go_wp2
            go_ret
            exact ⟨rfl, O4.out.below.alloc O4.out.below.size _⟩
        · have hBv : B2 = true := by rw [hB2.out]; simp [neB, e0]
          clear hB2
          go_wp2_with fail
          refine (h4' _).out.mono ?_
          rintro e w4 ⟨rfl, hb⟩
          have O4 := Lib.hid (O3.out.call hb)
          clear hb s0 s1 s2 s3 ls
          obtain ⟨x0, x1, x2, x3, _, _, _, _⟩ := cells4 (O4.out.nth 0 rfl)
          obtain ⟨s0, s1, s2, s3, _, _, _, _⟩ := cells4 (O4.out.nth 3 rfl)
          have lx := lt_blk (O4.out.nth 0 rfl)
          have ls := lt_blk (O4.out.nth 3 rfl)
          go_wp2
          go_ret
          exact ⟨rfl, O4.out.below.alloc O4.out.below.size _⟩

theorem WaitWakes_walk (s : St) (ap ad : Int) (au an port : Int) (hpo : 0 ≤ s.po ∧ s.po < 4294967296) (_ : 0 ≤ ap ∧ ap < 4294967296) (_ : 0 ≤ ad ∧ ad < 4294967296) (_ : (Lit.int .i64 port).wf = true) (w : World) :
    Calls Try.prog 3 #[.agg s.cells, .agg #[.int .u32 ap, .int .u32 ad, .int .i64 au, .int .i64 an], .int .i64 port] w fun e w' => e = .returned (.bool true) ∧ Below w.heap.size w w' := by
  refine wakes_core s (tnS s (tiS s an) 0) (fun m => tnS s (evS s port m) (evR port)) (fun m => tnB s (evS s port m) (evR port)) (tnE s (evR port)) (tnB s (tiS s an) 0) (tnE s 0) ap ad au an port w
    (fun m W => Lib.hid (event_ s port m W hpo)) (fun m W => Lib.hid (revent_ s port m hpo.1 hpo.2 W)) (fun m => Lib.hid (tnB_is _ _ _)) (fun W => Lib.hid (time_ s an W)) (fun W hok => Lib.hid ?_) hpo.1 ?_
  · rw [tnS_ok hok]; exact rtime_ s an hok W
  · cases hk : okB s with
    | false => exact .inl ⟨rfl, tnS_bad hk, by simp [tnB, hk], tnE_bad hk⟩
    | true => exact .inr ⟨rfl, tnE_ok hk, by rw [tnB_ok hk, tnS_ok hk]⟩

end Go.Proofs.Ytjppkcdonddohaa.A
