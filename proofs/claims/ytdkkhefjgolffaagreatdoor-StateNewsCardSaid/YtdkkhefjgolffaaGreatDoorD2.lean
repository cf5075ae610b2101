/-
  StateNews: one round of the law's loop, its heart left open.
-/
import Derived.Test.YtdkkhefjgolffaaGreatDoorC1
import Derived.Test.YtdkkhefjgolffaaGreatDoorD0
import Derived.Test.YtdkkhefjgolffaaGreatDoorX31
set_option linter.unusedVariables false
set_option linter.unusedSimpArgs false
namespace Go.Proofs.YtdkkhefjgolffaaGreatDoor.A
open Go.RowKit
/-- number i of a row of seats -/
def num (l : List Seat) (i : Nat) : Int := match l[i / 2]? with
  | some s => if i % 2 = 0 then s.socket else s.core
  | none => 0
theorem enc_nums : ∀ l : List Seat, l.flatMap Seat.enc = (List.range (2 * l.length)).map fun i => .int .i64 (num l i)
  | [] => rfl
  | s :: l => by
    have e : 2 * (s :: l).length = (2 * l.length + 1) + 1 := by simp only [List.length_cons]; omega
    rw [e, List.range_succ_eq_map, List.range_succ_eq_map, List.flatMap_cons, enc_nums l]
    have h : ∀ i, num (s :: l) (i + 1 + 1) = num l i := by
      intro i
      have h1 : (i + 1 + 1) / 2 = i / 2 + 1 := by omega
      have h2 : (i + 1 + 1) % 2 = i % 2 := by omega
      simp only [num, h1, h2, List.getElem?_cons_succ]
    simp [Seat.enc, num, Function.comp_def, h]
    intro a _
    exact (h a).symm
/-- the loop's round, its last part left open -/
noncomputable def roundOf (c : Code) : Code := match Tryz.f3.body with
  | some (.seq _ (.seq _ (.seq (.seq _ (.block _ (.loop (.seq r4 (.seq i4 (.seq (.block l (.seq r5 (.seq i6 (.seq r7 _)))) r14)))))) _))) => .seq r4 (.seq i4 (.seq (.block l (.seq r5 (.seq i6 (.seq r7 c)))) r14))
  | _ => .skip
/-- what the heart does, whatever the numbers -/
def Heart (c : Code) : Prop := ∀ {m : Nat} (hm : m ≤ 9) {w : World} {a : Act} {r1 r2 d : Nat} {n : Nat → Int} {cs1 : Array Value} {t1 t2 : TypeId} (hne : r1 ≠ r2)
    (h1 : w.heap[r1]? = some (.cells cs1 t1 (0, 0))) (hs1 : cs1.size = d * 2) (hmc : m ≤ d) (hc : cs1.toList.take (2 * m) = (List.range (2 * m)).map fun i => .int .i64 (n i))
    (h2 : w.heap[r2]? = some (.cells #[.slice (some ⟨r1, 0, none⟩) m d] t2 (0, 0)))
    (ha : a.tmps.size = 54) (a5 : a.tmps.getD 5 undef = .pointer (some ⟨r2, 0, none⟩)) (hop : ∀ k ∈ [0, 10, 11, 12], AM.one (a.tmps.getD k undef) = true) (hd : a.defers = []),
    c.wp Tryz.prog (fun x a' w' => (x = .normal ∨ x = .exit 1) ∧ a'.tmps.size = 54 ∧ a'.defers = [] ∧ (∀ k ∈ [0, 10, 11, 12], a'.tmps.getD k undef = a.tmps.getD k undef) ∧ Below w.heap.size w w') a w
theorem heart : Heart AM.codeX := fun {m} hm {w a r1 r2 d n cs1 t1 t2} hne h1 hs1 hmc hc h2 ha a5 hop hd => AM.topoX hm hne h1 hs1 hmc hc h2 ha a5 hop hd
/-- a row of seats as topoX asks it -/
theorem heart_of {c : Code} (H : Heart c) {l : List Seat} {k d r r2 : Nat} {cs : Array Value} {t t2 : TypeId} {w : World} {a : Act} (h9 : k ≤ 9) (hl : l.length = k) (hne : r ≠ r2) (h1 : w.heap[r]? = some (.cells cs t (0, 0))) (hs : cs.size = d * 2) (hk : k ≤ d) (hc : cs.toList.take (k * 2) = l.flatMap Seat.enc)
    (h2 : w.heap[r2]? = some (.cells #[.slice (some ⟨r, 0, none⟩) k d] t2 (0, 0)))
    (ha : a.tmps.size = 54) (a5 : a.tmps.getD 5 undef = .pointer (some ⟨r2, 0, none⟩)) (hop : ∀ k ∈ [0, 10, 11, 12], AM.one (a.tmps.getD k undef) = true) (hd : a.defers = []) :
    c.wp Tryz.prog (fun x a' w' => (x = .normal ∨ x = .exit 1) ∧ a'.tmps.size = 54 ∧ a'.defers = [] ∧ (∀ k ∈ [0, 10, 11, 12], a'.tmps.getD k undef = a.tmps.getD k undef) ∧ Below w.heap.size w w') a w :=
  H h9 hne h1 hs hk (n := num l) (by rw [Nat.mul_comm 2 k, hc, enc_nums, hl, Nat.mul_comm]) h2 ha a5 hop hd
/-- topology i of the row -/
def Topos (w : World) (A0 : Option Addr) (n : Nat) : Prop := ∀ j, j < n → ∃ b off, A0 = some ⟨b, off, none⟩ ∧ ∃ A m c l, w.cell? ⟨b, off + j, none⟩ = some (.slice A m c) ∧ Sl 2 Seat.enc w A m c l
structure Inv (w0 : World) (A0 : Option Addr) (n c0 i : Nat) (a : Act) (w : World) : Prop where
  i8 : i ≤ 8
  le : i ≤ n
  sz : a.tmps.size = 54
  df : a.defers = []
  t0 : a.tmps.getD 0 undef = .slice A0 n c0
  t10 : a.tmps.getD 10 undef = .slice A0 n c0
  t11 : a.tmps.getD 11 undef = .int .i64 n
  t12 : a.tmps.getD 12 undef = .int .i64 i
  bel : Below w0.heap.size w0 w
theorem act54 {a : Act} (h : a.tmps.size = 54) (d : a.defers = []) : ∃ x0 x1 x2 x3 x4 x5 x6 x7 x8 x9 x10 x11 x12 x13 x14 x15 x16 x17 x18 x19 x20 x21 x22 x23 x24 x25 x26 x27 x28 x29 x30 x31 x32 x33 x34 x35 x36 x37 x38 x39 x40 x41 x42 x43 x44 x45 x46 x47 x48 x49 x50 x51 x52 x53 : Value, a = ⟨(List.toArray (x0 :: x1 :: x2 :: x3 :: x4 :: x5 :: x6 :: x7 :: x8 :: x9 :: x10 :: x11 :: x12 :: x13 :: x14 :: x15 :: x16 :: x17 :: x18 :: x19 :: x20 :: x21 :: x22 :: x23 :: x24 :: x25 :: x26 :: x27 :: x28 :: x29 :: x30 :: x31 :: x32 :: x33 :: x34 :: x35 :: x36 :: x37 :: x38 :: x39 :: x40 :: x41 :: x42 :: x43 :: x44 :: x45 :: x46 :: x47 :: x48 :: x49 :: x50 :: x51 :: x52 :: x53 :: [])), []⟩ := by
  obtain ⟨tm, ds⟩ := a
  obtain ⟨x0, x1, x2, x3, x4, x5, x6, x7, x8, x9, x10, x11, x12, x13, x14, x15, x16, x17, x18, x19, x20, x21, x22, x23, x24, x25, x26, x27, x28, x29, x30, x31, x32, x33, x34, x35, x36, x37, x38, x39, x40, x41, x42, x43, x44, x45, x46, x47, x48, x49, x50, x51, x52, x53, e⟩ := arr54 tm h
  cases e
  cases d
  exact ⟨_, _, _, _, _, _, _, _, _, _, _, _, _, _, _, _, _, _, _, _, _, _, _, _, _, _, _, _, _, _, _, _, _, _, _, _, _, _, _, _, _, _, _, _, _, _, _, _, _, _, _, _, _, _, rfl⟩
/-- the first nine of whatever row of seats -/
theorem cut_any {w : World} {A : Option Addr} {m c : Nat} {l : List Seat} (h : Sl 2 Seat.enc w A m c l) : ∃ (l' : List Seat) (k : Nat), k ≤ 9 ∧ l'.length = k ∧
    Calls Tryz.prog 11 #[.slice A m c, .int .i64 9] w fun e w' => CutOf l' k w e w' ∧ Below w.heap.size w w' := by
  rcases Nat.eq_zero_or_pos m with rfl | hp
  · exact ⟨[], 0, by omega, rfl, cut_none A c w⟩
  · obtain ⟨x, b, off, _, rfl, _⟩ := h.get 0 hp
    by_cases h9 : m ≤ 9
    · exact ⟨l, m, h9, h.len, cut_few _ m c l w hp h9 h.cap h⟩
    · have hl : (l.take 9).length = 9 := by rw [List.length_take, h.len]; omega
      exact ⟨l.take 9, 9, by omega, hl, cut_nine _ m c (l.take 9) w (by omega) h.cap hl (take_news h)⟩
/-- what a round leaves -/
def Round (w0 : World) (A0 : Option Addr) (n c0 i : Nat) : Exit → Act → World → Prop :=
  Exit.then (fun a' w' => i < n ∧ Inv w0 A0 n c0 (i + 1) a' w') fun x a' w' => x = .exit 0 ∧ Below w0.heap.size w0 w' ∧ a'.tmps.size = 54 ∧ a'.defers = []
set_option maxRecDepth 100000 in
set_option maxHeartbeats 3200000 in
theorem round_end (c : Code) (w0 : World) (A0 : Option Addr) (n c0 i : Nat) (a : Act) (w : World) (hi : i = n) (h : Inv w0 A0 n c0 i a w) :
    (roundOf c).wp Tryz.prog (Round w0 A0 n c0 i) a w := by
  obtain ⟨i8, le, sz, df, t0, t10, t11, t12, bel⟩ := h
  have B := Lib.hid bel
  clear bel
  obtain ⟨x0, x1, x2, x3, x4, x5, x6, x7, x8, x9, x10, x11, x12, x13, x14, x15, x16, x17, x18, x19, x20, x21, x22, x23, x24, x25, x26, x27, x28, x29, x30, x31, x32, x33, x34, x35, x36, x37, x38, x39, x40, x41, x42, x43, x44, x45, x46, x47, x48, x49, x50, x51, x52, x53, rfl⟩ := act54 sz df
  obtain rfl : x0 = .slice A0 n c0 := t0
  obtain rfl : x10 = .slice A0 n c0 := t10
  obtain rfl : x11 = .int .i64 n := t11
  obtain rfl : x12 = .int .i64 i := t12
  clear sz
  have hlt : ¬ (i : Int) < n := by omega
  unfold roundOf
  dsimp only [Tryz.f3]
  go_wp2_with fail
  exact ⟨rfl, B.out, rfl, rfl⟩
set_option maxRecDepth 100000 in
set_option maxHeartbeats 3200000 in
theorem round_eight (c : Code) (w0 : World) (A0 : Option Addr) (n c0 i : Nat) (a : Act) (w : World) (h8 : i = 8) (hlt : i < n) (ht : Topos w0 A0 n) (h : Inv w0 A0 n c0 i a w) :
    (roundOf c).wp Tryz.prog (Round w0 A0 n c0 i) a w := by
  subst h8
  obtain ⟨i8, le, sz, df, t0, t10, t11, t12, bel⟩ := h
  obtain ⟨x0, x1, x2, x3, x4, x5, x6, x7, x8, x9, x10, x11, x12, x13, x14, x15, x16, x17, x18, x19, x20, x21, x22, x23, x24, x25, x26, x27, x28, x29, x30, x31, x32, x33, x34, x35, x36, x37, x38, x39, x40, x41, x42, x43, x44, x45, x46, x47, x48, x49, x50, x51, x52, x53, rfl⟩ := act54 sz df
  obtain rfl : x0 = .slice A0 n c0 := t0
  obtain rfl : x10 = .slice A0 n c0 := t10
  obtain rfl : x11 = .int .i64 n := t11
  obtain rfl : x12 = .int .i64 8 := t12
  clear sz df
  obtain ⟨b, off, rfl, A, m, c1, l, hcell, hs⟩ := ht 8 hlt
  have B := Lib.hid bel
  have hc1 := cell_low bel hcell
  clear bel hcell hs ht
  have hlt' : (8 : Int) < n := by omega
  have hnn : ¬ n ≤ 8 := by omega
  unfold roundOf
  dsimp only [Tryz.f3]
  go_wp2_with fail
  exact ⟨rfl, below_al B.out, rfl, rfl⟩
set_option maxRecDepth 100000 in
set_option maxHeartbeats 3200000 in
theorem round_body (c : Code) (H : Hid (Heart c)) (w0 : World) (A0 : Option Addr) (n c0 i : Nat) (a : Act) (w : World) (h8 : i ≠ 8) (hlt : i < n) (ht : Topos w0 A0 n) (h : Inv w0 A0 n c0 i a w) :
    (roundOf c).wp Tryz.prog (Round w0 A0 n c0 i) a w := by
  obtain ⟨i8, le, sz, df, t0, t10, t11, t12, bel⟩ := h
  obtain ⟨x0, x1, x2, x3, x4, x5, x6, x7, x8, x9, x10, x11, x12, x13, x14, x15, x16, x17, x18, x19, x20, x21, x22, x23, x24, x25, x26, x27, x28, x29, x30, x31, x32, x33, x34, x35, x36, x37, x38, x39, x40, x41, x42, x43, x44, x45, x46, x47, x48, x49, x50, x51, x52, x53, rfl⟩ := act54 sz df
  obtain rfl : x0 = .slice A0 n c0 := t0
  obtain rfl : x10 = .slice A0 n c0 := t10
  obtain rfl : x11 = .int .i64 n := t11
  obtain rfl : x12 = .int .i64 i := t12
  clear sz df
  obtain ⟨b, off, rfl, A, m, c1, l, hcell, hs⟩ := ht i hlt
  have B := Lib.hid bel
  have hc1 := cell_low bel hcell
  have S := Lib.hid (hs.low bel)
  clear bel hcell hs ht
  have hlt' : (i : Int) < n := by omega
  have hnn : ¬ n ≤ i := by omega
  have hne : ¬ (i : Int) = 8 := by omega
  have hne2 : ¬ i = 8 := h8
  clear h8
  unfold roundOf
  dsimp only [Tryz.f3]
  go_wp2_with fail
  obtain ⟨l', k, hk9, hkl, hcut⟩ := cut_any (S.out.low (below_al (Below.refl _ _) : Below w.heap.size w (w.alloc (.cells #[.slice A m c1] 26))))
  refine hcut.mono ?_
  rintro e w1 ⟨⟨r, d, cs, t, rfl, hr, hh, hcs, hkd, htk⟩, hb1⟩
  have R := Lib.hid hr
  have HH := Lib.hid hh
  have HC := Lib.hid hcs
  have HT := Lib.hid htk
  have HK := Lib.hid hkl
  have B1 := Lib.hid (low_2 (below_al (Below.refl _ _)) hb1)
  clear hr hh hcs htk hkl hb1 hcut S
  go_wp2_with fail
  have hne1 : r ≠ w1.heap.size := by
    have := lt_blk HH.out
    omega
  refine wp_mono (heart_of H.out hk9 HK.out hne1 (alloc_at HH.out) HC.out hkd HT.out (new_at w1 _) rfl rfl ?_ rfl) ?_
  · intro k hk
    simp only [List.mem_cons, List.not_mem_nil, or_false] at hk
    rcases hk with rfl | rfl | rfl | rfl <;> rfl
  rintro x a' w' ⟨hx, hsz, hdf, hkeep, hb2⟩
  have B2 := Lib.hid (B.out.trans (low_2 (below_al B1.out) (hb2.mono (Nat.le_refl _)) |>.mono B.out.size))
  clear hb2
  have k0 := hkeep 0 (by simp)
  have k10 := hkeep 10 (by simp)
  have k11 := hkeep 11 (by simp)
  have k12 := hkeep 12 (by simp)
  clear hkeep
  obtain ⟨y0, y1, y2, y3, y4, y5, y6, y7, y8, y9, y10, y11, y12, y13, y14, y15, y16, y17, y18, y19, y20, y21, y22, y23, y24, y25, y26, y27, y28, y29, y30, y31, y32, y33, y34, y35, y36, y37, y38, y39, y40, y41, y42, y43, y44, y45, y46, y47, y48, y49, y50, y51, y52, y53, rfl⟩ := act54 hsz hdf
  obtain rfl : y0 = .slice (some ⟨b, off, none⟩) n c0 := k0
  obtain rfl : y10 = .slice (some ⟨b, off, none⟩) n c0 := k10
  obtain rfl : y11 = .int .i64 n := k11
  obtain rfl : y12 = .int .i64 i := k12
  clear hsz hdf
  rcases hx with rfl | rfl
  all_goals go_wp2_with fail
  all_goals exact ⟨hlt, by omega, by omega, rfl, rfl, rfl, rfl, rfl, rfl, B2.out⟩
theorem round_any (c : Code) (H : Heart c) (w0 : World) (A0 : Option Addr) (n c0 i : Nat) (a : Act) (w : World) (ht : Topos w0 A0 n) (h : Inv w0 A0 n c0 i a w) :
    (roundOf c).wp Tryz.prog (Round w0 A0 n c0 i) a w := by
  by_cases hi : i = n
  · exact round_end c w0 A0 n c0 i a w hi h
  · have hlt : i < n := by have := h.le; omega
    by_cases h8 : i = 8
    · exact round_eight c w0 A0 n c0 i a w h8 hlt ht h
    · exact round_body c (Lib.hid H) w0 A0 n c0 i a w h8 hlt ht h
end Go.Proofs.YtdkkhefjgolffaaGreatDoor.A
