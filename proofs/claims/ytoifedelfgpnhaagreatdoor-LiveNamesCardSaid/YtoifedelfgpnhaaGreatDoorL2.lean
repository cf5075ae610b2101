/-
  law24: LiveNames: the law's walk.
-/
import Derived.Test.YtoifedelfgpnhaaGreatDoorL1
import Derived.Test.YtoifedelfgpnhaaGreatDoorXg
import Derived.Deep.LoopGhost
set_option linter.unusedVariables false
set_option linter.unusedSimpArgs false
namespace Go.Proofs.YtoifedelfgpnhaaGreatDoor.A
open Go.RowKit
/-- a row of cells -/
def RowOf (w : World) (A : Option Addr) (n : Nat) (V : Nat → Value) : Prop := ∀ j, j < n → ∃ b off, A = some ⟨b, off, none⟩ ∧ w.cell? ⟨b, off + j, none⟩ = some (V j)
theorem RowOf.get {w : World} {A : Option Addr} {n : Nat} {V : Nat → Value} (h : RowOf w A n V) {w1 : World} (hb : Below w.heap.size w w1) {j : Nat} (hj : j < n) : ∃ b off, A = some ⟨b, off, none⟩ ∧ w1.cell? ⟨b, off + j, none⟩ = some (V j) := by
  obtain ⟨b, off, e, hc⟩ := h j hj
  exact ⟨b, off, e, cell_low hb hc⟩
theorem bytes_ext {a b : ByteArray} (e : a.data.toList = b.data.toList) : a = b := by
  obtain ⟨⟨a⟩⟩ := a
  obtain ⟨⟨b⟩⟩ := b
  simp only at e
  rw [e]
theorem str_ne {a b : ByteArray} (h : ¬ a.data.toList = b.data.toList) : (a.toList == b.toList) = false := AM.str_ne h
theorem isAt_hit {s : ByteArray} {q : Nat} (h1 : 1 ≤ q) (h : (nmAt q).data.toList = s.data.toList) : isAt s q = q := by
  obtain ⟨p, rfl⟩ : ∃ p, q = p + 1 := ⟨q - 1, by omega⟩
  unfold isAt
  rw [if_pos h]
theorem isAt_miss {s : ByteArray} {q : Nat} (h1 : 1 ≤ q) (h : ¬ (nmAt q).data.toList = s.data.toList) : isAt s q = isAt s (q - 1) := by
  obtain ⟨p, rfl⟩ : ∃ p, q = p + 1 := ⟨q - 1, by omega⟩
  rw [isAt, if_neg h, Nat.add_sub_cancel]
set_option maxRecDepth 100000 in
set_option maxHeartbeats 6400000 in
theorem names_walk (hw : ∀ W, Tab W → Hid (Calls Tryz.prog 4 #[] W fun e w' => e = .returned (.bool true) ∧ Below W.heap.size W w'))
    (hN : ∀ k W, Tab W → Hid (Calls Tryz.prog 5 #[.int .i64 k] W fun e w' => e = .returned (.string (nm k)) ∧ Below W.heap.size W w'))
    (hR : ∀ k W, Hid (Calls Tryz.prog 6 #[.int .i64 k] W fun e w' => e = .returned (.string (nm k)) ∧ Below W.heap.size W w'))
    (hK : ∀ s W, Tab W → Hid (Calls Tryz.prog 7 #[.string s] W fun e w' => e = .returned (.tuple #[.int .i64 (kd s : Nat), .bool (decide (0 < kd s))]) ∧ Below W.heap.size W w'))
    (A B : Option Addr) (n c m d : Nat) (K : Nat → Int) (S : Nat → ByteArray) (w : World) (hn : n ≤ 9223372036854775807) (hm : m ≤ 9223372036854775807) (hT : Hid (Tab w)) (hA : Hid (RowOf w A n fun j => .int .i64 (K j))) (hB : Hid (RowOf w B m fun j => .string (S j))) :
    Calls Tryz.prog 3 #[.slice A n c, .slice B m d] w fun e w' => e = .returned (.bool true) ∧ Below w.heap.size w w' := by
  go_enter Tryz.func3, Tryz.ntmps3
  go_wp2_with fail
  refine ((hw _ hT.out).out).mono ?_
  rintro e w1 ⟨rfl, hb⟩
  have HB := Lib.hid hb
  clear hb
  go_wp2_with fail
  go_loopw [17] (fun i wr => ∃ k : Nat, k ≤ n ∧ i = .int .i64 k ∧ Hid (Below w.heap.size w wr)) (fun i _ => n - (intOf i).toNat)
  case atStart => exact ⟨0, by omega, rfl, HB⟩
  case round =>
    obtain ⟨k, hk, rfl, HB1⟩ := hrel
    by_cases hlt : k < n
    · obtain ⟨b, off, rfl, hcell⟩ := hA.out.get HB1.out hlt
      have hlt' : (k : Int) < n := by omega
      have hnn : ¬ n ≤ k := by omega
      by_cases h20 : (k : Int) < 20
      · have HT1 := Lib.hid (hT.out.low HB1.out)
        go_wp2_with fail
        refine ((hN _ _ HT1.out).out).mono ?_
        rintro e w2 ⟨rfl, hb⟩
        have HB2 := Lib.hid (low_2 HB1.out hb)
        clear hb
        go_wp2_with fail
        refine ((hR _ _).out).mono ?_
        rintro e w3 ⟨rfl, hb⟩
        have HB3 := Lib.hid (low_2 HB2.out hb)
        clear hb
        go_wp2
        go_roundw
        case rel => exact ⟨k + 1, by omega, by go_num, HB3⟩
        case measure => simp [intOf]; omega
      · go_wp2
        go_roundw
        case rel => exact ⟨k + 1, by omega, by go_num, HB1⟩
        case measure => simp [intOf]; omega
    · have hkn : k = n := by omega
      subst hkn
      go_wp2_with fail
      go_loopw [34] (fun i wr => ∃ k : Nat, k ≤ m ∧ i = .int .i64 k ∧ Hid (Below w.heap.size w wr)) (fun i _ => m - (intOf i).toNat)
      case atStart => exact ⟨0, by omega, rfl, HB1⟩
      case round =>
        rename_i wr0
        obtain ⟨j, hj, rfl, HC1⟩ := hrel
        by_cases hjm : j < m
        · obtain ⟨b, off, rfl, hcell⟩ := hB.out.get HC1.out hjm
          have hjm' : (j : Int) < m := by omega
          have hmm : ¬ m ≤ j := by omega
          by_cases h20 : j = 20
          · subst h20
            go_wp2
            go_ret
            exact ⟨rfl, HC1.out⟩
          · have h20' : ¬ (j : Int) = 20 := by omega
            have HT1 := Lib.hid (hT.out.low HC1.out)
            by_cases h40 : ((S j).size : Int) ≤ 40
            · go_wp2_with fail
              refine ((hK _ _ HT1.out).out).mono ?_
              rintro e w4 ⟨rfl, hb⟩
              have HD := Lib.hid (low_2 HC1.out hb)
              clear hb HT1
              generalize S j = s
              obtain ⟨v, hv⟩ : ∃ v, v = kd s := ⟨_, rfl⟩
              rw [← hv]
              have HV := Lib.hid hv
              clear hv
              go_wp2_with fail
              go_loopw [12, 11] (fun i u wr => ∃ q : Nat, 1 ≤ q ∧ q ≤ 11 ∧ i = .int .i64 q ∧ u = .int .i64 (isAt s (q - 1) : Nat) ∧ Hid (Below w.heap.size w wr)) (fun i _ _ => 11 - (intOf i).toNat)
              case atStart => exact ⟨1, by omega, by omega, rfl, rfl, HD⟩
              case round =>
                obtain ⟨q, hq1, hq2, rfl, rfl, HE⟩ := hrel
                by_cases hq : q ≤ 10
                · have hq' : (q : Int) ≤ 10 := by omega
                  obtain ⟨t, ht⟩ : ∃ t, t = nm (q : Int) := ⟨_, rfl⟩
                  have HRq := hR q wr
                  rw [← ht] at HRq
                  rw [nm_nat] at ht
                  obtain ⟨x, hx⟩ : ∃ x : Nat, x = isAt s (q - 1) := ⟨_, rfl⟩
                  rw [← hx]
                  by_cases he : t.data.toList = s.data.toList
                  · have HX := Lib.hid (isAt_hit hq1 (by rw [← ht]; exact he) : isAt s q = q)
                    obtain rfl : t = s := bytes_ext he
                    clear ht hx he
                    go_wp2_with fail
                    refine (HRq.out).mono ?_
                    rintro e w5 ⟨rfl, hb⟩
                    have HF := Lib.hid (low_2 HE.out hb)
                    clear hb
                    go_wp2
                    go_roundw
                    case rel => exact ⟨q + 1, by omega, by omega, by go_num, by rw [Nat.add_sub_cancel, HX.out], HF⟩
                    case measure => simp [intOf]; omega
                  · have HX := Lib.hid (isAt_miss hq1 (by rw [← ht]; exact he) : isAt s q = isAt s (q - 1))
                    have HXx := Lib.hid hx
                    have hne := str_ne he
                    clear ht hx he
                    go_wp2_with fail
                    refine (HRq.out).mono ?_
                    rintro e w5 ⟨rfl, hb⟩
                    have HF := Lib.hid (low_2 HE.out hb)
                    clear hb
                    go_wp2
                    go_roundw
                    case rel => exact ⟨q + 1, by omega, by omega, by go_num, by rw [Nat.add_sub_cancel, HX.out, ← HXx.out], HF⟩
                    case measure => simp [intOf]; omega
                · have hq' : q = 11 := by omega
                  subst hq'
                  have e : isAt s (11 - 1) = v := HV.out.symm
                  rw [e]
                  clear e
                  by_cases hp : 0 < v
                  · have hp2 : (0 : Int) < v := by omega
                    go_wp2
                    go_roundw
                    case rel => exact ⟨j + 1, by omega, by go_num, HE⟩
                    case measure => simp [intOf]; omega
                  · obtain rfl : v = 0 := by omega
                    go_wp2
                    go_roundw
                    case rel => exact ⟨j + 1, by omega, by go_num, HE⟩
                    case measure => simp [intOf]; omega
            · go_wp2_with fail
              refine ((hK _ _ HT1.out).out).mono ?_
              rintro e w4 ⟨rfl, hb⟩
              have HD := Lib.hid (low_2 HC1.out hb)
              clear hb HT1
              generalize (S j).extract 0 40 = s
              obtain ⟨v, hv⟩ : ∃ v, v = kd s := ⟨_, rfl⟩
              rw [← hv]
              have HV := Lib.hid hv
              clear hv
              go_wp2_with fail
              go_loopw [12, 11] (fun i u wr => ∃ q : Nat, 1 ≤ q ∧ q ≤ 11 ∧ i = .int .i64 q ∧ u = .int .i64 (isAt s (q - 1) : Nat) ∧ Hid (Below w.heap.size w wr)) (fun i _ _ => 11 - (intOf i).toNat)
              case atStart => exact ⟨1, by omega, by omega, rfl, rfl, HD⟩
              case round =>
                obtain ⟨q, hq1, hq2, rfl, rfl, HE⟩ := hrel
                by_cases hq : q ≤ 10
                · have hq' : (q : Int) ≤ 10 := by omega
                  obtain ⟨t, ht⟩ : ∃ t, t = nm (q : Int) := ⟨_, rfl⟩
                  have HRq := hR q wr
                  rw [← ht] at HRq
                  rw [nm_nat] at ht
                  obtain ⟨x, hx⟩ : ∃ x : Nat, x = isAt s (q - 1) := ⟨_, rfl⟩
                  rw [← hx]
                  by_cases he : t.data.toList = s.data.toList
                  · have HX := Lib.hid (isAt_hit hq1 (by rw [← ht]; exact he) : isAt s q = q)
                    obtain rfl : t = s := bytes_ext he
                    clear ht hx he
                    go_wp2_with fail
                    refine (HRq.out).mono ?_
                    rintro e w5 ⟨rfl, hb⟩
                    have HF := Lib.hid (low_2 HE.out hb)
                    clear hb
                    go_wp2
                    go_roundw
                    case rel => exact ⟨q + 1, by omega, by omega, by go_num, by rw [Nat.add_sub_cancel, HX.out], HF⟩
                    case measure => simp [intOf]; omega
                  · have HX := Lib.hid (isAt_miss hq1 (by rw [← ht]; exact he) : isAt s q = isAt s (q - 1))
                    have HXx := Lib.hid hx
                    have hne := str_ne he
                    clear ht hx he
                    go_wp2_with fail
                    refine (HRq.out).mono ?_
                    rintro e w5 ⟨rfl, hb⟩
                    have HF := Lib.hid (low_2 HE.out hb)
                    clear hb
                    go_wp2
                    go_roundw
                    case rel => exact ⟨q + 1, by omega, by omega, by go_num, by rw [Nat.add_sub_cancel, HX.out, ← HXx.out], HF⟩
                    case measure => simp [intOf]; omega
                · have hq' : q = 11 := by omega
                  subst hq'
                  have e : isAt s (11 - 1) = v := HV.out.symm
                  rw [e]
                  clear e
                  by_cases hp : 0 < v
                  · have hp2 : (0 : Int) < v := by omega
                    go_wp2
                    go_roundw
                    case rel => exact ⟨j + 1, by omega, by go_num, HE⟩
                    case measure => simp [intOf]; omega
                  · obtain rfl : v = 0 := by omega
                    go_wp2
                    go_roundw
                    case rel => exact ⟨j + 1, by omega, by go_num, HE⟩
                    case measure => simp [intOf]; omega
        · have hjn : j = m := by omega
          subst hjn
          go_wp2
          go_ret
          exact ⟨rfl, HC1.out⟩
theorem liveNames_walk (A B : Option Addr) (n c m d : Nat) (K : Nat → Int) (S : Nat → ByteArray) (w : World) (hn : n ≤ 9223372036854775807) (hm : m ≤ 9223372036854775807) (hT : Tab w) (hA : RowOf w A n fun j => .int .i64 (K j)) (hB : RowOf w B m fun j => .string (S j)) :
    Calls Tryz.prog 3 #[.slice A n c, .slice B m d] w fun e w' => e = .returned (.bool true) ∧ Below w.heap.size w w' :=
  names_walk (fun W T => by obtain ⟨cs, t, h1, h2⟩ := T.bits; exact Lib.hid (AM.wakes_calls W h1 h2)) (fun k W T => Lib.hid (liveName k W T)) (fun k W => Lib.hid (refName k W)) (fun s W T => Lib.hid (liveKind s W T)) A B n c m d K S w hn hm (Lib.hid hT) (Lib.hid hA) (Lib.hid hB)
end Go.Proofs.YtoifedelfgpnhaaGreatDoor.A
