/-
  law21: CallNames: the law's walk.
-/
import Derived.Test.YtecfnddaniphdaaGreatDoorM1
import Derived.Deep.LoopGhost
set_option linter.unusedVariables false
set_option linter.unusedSimpArgs false
namespace Go.Proofs.YtecfnddaniphdaaGreatDoor.A
open Go.RowKit
theorem bytes_ext {a b : ByteArray} (e : a.data.toList = b.data.toList) : a = b := by
  obtain ⟨⟨a⟩⟩ := a
  obtain ⟨⟨b⟩⟩ := b
  simp only at e
  rw [e]
theorem str_ne {a b : ByteArray} (h : ¬ a.data.toList = b.data.toList) : (a.toList == b.toList) = false := AM.str_ne h
set_option maxRecDepth 100000 in
set_option maxHeartbeats 6400000 in
theorem names_walk (hw : ∀ W, Tab W → Hid (Calls Tryz.prog 4 #[] W fun e w' => e = .returned (.bool true) ∧ Below W.heap.size W w'))
    (hM : ∀ W, Hid (Calls Tryz.prog 5 #[] W fun e w' => (∃ r, e = .returned (.slice (some ⟨r, 0, none⟩) 20 20) ∧ W.heap.size ≤ r ∧ ∀ k, k < 20 → w'.cell? ⟨r, k, none⟩ = some (.string (nmAt k))) ∧ Below W.heap.size W w'))
    (hNlo : ∀ k W, Hid (k < 1) → Hid (Calls Tryz.prog 6 #[.int .i64 k] W fun e w' => e = .returned (.string ⟨#[]⟩) ∧ Below W.heap.size W w'))
    (hNhi : ∀ k W, Hid (20 < k) → Hid (Calls Tryz.prog 6 #[.int .i64 k] W fun e w' => e = .returned (.string ⟨#[]⟩) ∧ Below W.heap.size W w'))
    (hNin : ∀ (m : Nat) W, Hid (m < 20) → Tab W → Hid (Calls Tryz.prog 6 #[.int .i64 ((m : Int) + 1)] W fun e w' => e = .returned (.string (nmAt m)) ∧ Below W.heap.size W w'))
    (hGlo : ∀ k W, Hid (k < 9) → Hid (Calls Tryz.prog 7 #[.int .i64 k] W fun e w' => e = .returned (.bool false) ∧ Below W.heap.size W w'))
    (hGin : ∀ k W, Hid (9 ≤ k) → Hid (k ≤ 20) → Hid (Calls Tryz.prog 7 #[.int .i64 k] W fun e w' => e = .returned (.bool true) ∧ Below W.heap.size W w'))
    (hGhi : ∀ k W, Hid (20 < k) → Hid (Calls Tryz.prog 7 #[.int .i64 k] W fun e w' => e = .returned (.bool false) ∧ Below W.heap.size W w'))
    (hK : ∀ s W, Tab W → Hid (Calls Tryz.prog 8 #[.string s] W fun e w' => e = .returned (.tuple #[.int .i64 (kd s), .bool (decide (0 < kd s))]) ∧ Below W.heap.size W w'))
    (k : Int) (s : ByteArray) (w : World) (hT : Hid (Tab w)) :
    Calls Tryz.prog 3 #[.int .i64 k, .string s] w fun e w' => e = .returned (.bool true) ∧ Below w.heap.size w w' := by
  by_cases h1 : k < 1
  · have H1 := Lib.hid h1
    have H9 := Lib.hid (show k < 9 by omega)
    have n1 : ¬ 1 ≤ k := by omega
    have n9 : ¬ 9 ≤ k := by omega
    clear h1
    go_enter Tryz.func3, Tryz.ntmps3
    go_wp2_with fail
    refine ((hw _ hT.out).out).mono ?_
    rintro e w1 ⟨rfl, hb⟩
    have HB := Lib.hid hb
    clear hb
    go_wp2_with fail
    refine ((hM _).out).mono ?_
    rintro e w2 ⟨⟨r, rfl, hr, hcells⟩, hb⟩
    have HB2 := Lib.hid (low_2 HB.out hb)
    have HC := Lib.hid hcells
    have HR := Lib.hid hr
    clear hb hcells hr
    go_wp2_with fail
    refine ((hNlo _ _ H1).out).mono ?_
    rintro e w3 ⟨rfl, hb⟩
    have HB3 := Lib.hid (low_2 (Below.refl _ _) hb)
    have HT3 := Lib.hid (low_2 HB2.out hb)
    clear hb
    go_wp2_with fail
    refine ((hGlo _ _ H9).out).mono ?_
    rintro e w4 ⟨rfl, hb⟩
    have HBN := Lib.hid (low_2 HB3.out hb)
    have HBG := Lib.hid (low_2 HT3.out hb)
    clear hb HB3 HT3
    go_wp2_with fail
    refine ((hK _ _ (hT.out.low HBG.out)).out).mono ?_
    rintro e w5 ⟨rfl, hb⟩
    have HB5 := Lib.hid (low_2 HBN.out hb)
    clear hb
    obtain ⟨v, hv⟩ : ∃ v, v = kd s := ⟨_, rfl⟩
    rw [← hv]
    have HV := Lib.hid hv
    clear hv
    go_wp2_with fail
    go_loopw [49] (fun i wr => ∃ j : Nat, j ≤ 20 ∧ i = .int .i64 j ∧ Hid (Below w2.heap.size w2 wr) ∧ Hid (∀ q x, q < j → nl[q]? = some x → isN s x = false)) (fun i _ => 20 - (intOf i).toNat)
    case atStart => exact ⟨0, by omega, rfl, HB5, Lib.hid (fun q x h => by omega)⟩
    case round =>
      obtain ⟨j, hj, rfl, HBR, HN⟩ := hrel
      by_cases hlt : j < 20
      · have hc := cell_low HBR.out (HC.out j hlt)
        have hlt' : (j : Int) < 20 := by omega
        have hnn : ¬ 20 ≤ j := by omega
        have HX := Lib.hid (nl_at hlt)
        obtain ⟨t, ht⟩ : ∃ t, t = nmAt j := ⟨_, rfl⟩
        rw [← ht] at hc HX
        clear ht
        by_cases he : t.data.toList = s.data.toList
        · have hvj : v = (j : Int) + 1 := HV.out.trans (kd_some HN.out HX.out (by unfold isN; rw [decide_eq_true_eq]; exact he))
          obtain rfl : t = s := bytes_ext he
          clear he HV
          subst hvj
          have hp : (0 : Int) < (j : Int) + 1 := by omega
          go_wp2
          go_ret
          exact ⟨rfl, low_2 HB2.out HBR.out⟩
        · have HN1 := Lib.hid (idx_step HN.out HX.out (by unfold isN; rw [decide_eq_false_iff_not]; exact he))
          have hne := str_ne he
          clear he
          go_wp2
          go_roundw
          case rel => exact ⟨j + 1, by omega, by go_num, HBR, HN1⟩
          case measure => simp [intOf]; omega
      · have hj20 : j = 20 := by omega
        subst hj20
        have hv0 : v = 0 := HV.out.trans (kd_none HN.out)
        clear HV
        subst hv0
        go_wp2
        go_ret
        exact ⟨rfl, low_2 HB2.out HBR.out⟩
  · by_cases h20 : 20 < k
    · have H20 := Lib.hid h20
      have n1 : 1 ≤ k := by omega
      have n9 : 9 ≤ k := by omega
      have n20 : ¬ k ≤ 20 := by omega
      clear h1 h20
      go_enter Tryz.func3, Tryz.ntmps3
      go_wp2_with fail
      refine ((hw _ hT.out).out).mono ?_
      rintro e w1 ⟨rfl, hb⟩
      have HB := Lib.hid hb
      clear hb
      go_wp2_with fail
      refine ((hM _).out).mono ?_
      rintro e w2 ⟨⟨r, rfl, hr, hcells⟩, hb⟩
      have HB2 := Lib.hid (low_2 HB.out hb)
      have HC := Lib.hid hcells
      have HR := Lib.hid hr
      clear hb hcells hr
      go_wp2_with fail
      refine ((hNhi _ _ H20).out).mono ?_
      rintro e w3 ⟨rfl, hb⟩
      have HB3 := Lib.hid (low_2 (Below.refl _ _) hb)
      have HT3 := Lib.hid (low_2 HB2.out hb)
      clear hb
      go_wp2_with fail
      refine ((hGhi _ _ H20).out).mono ?_
      rintro e w4 ⟨rfl, hb⟩
      have HBN := Lib.hid (low_2 HB3.out hb)
      have HBG := Lib.hid (low_2 HT3.out hb)
      clear hb HB3 HT3
      go_wp2_with fail
      refine ((hK _ _ (hT.out.low HBG.out)).out).mono ?_
      rintro e w5 ⟨rfl, hb⟩
      have HB5 := Lib.hid (low_2 HBN.out hb)
      clear hb
      obtain ⟨v, hv⟩ : ∃ v, v = kd s := ⟨_, rfl⟩
      rw [← hv]
      have HV := Lib.hid hv
      clear hv
      go_wp2_with fail
      go_loopw [49] (fun i wr => ∃ j : Nat, j ≤ 20 ∧ i = .int .i64 j ∧ Hid (Below w2.heap.size w2 wr) ∧ Hid (∀ q x, q < j → nl[q]? = some x → isN s x = false)) (fun i _ => 20 - (intOf i).toNat)
      case atStart => exact ⟨0, by omega, rfl, HB5, Lib.hid (fun q x h => by omega)⟩
      case round =>
        obtain ⟨j, hj, rfl, HBR, HN⟩ := hrel
        by_cases hlt : j < 20
        · have hc := cell_low HBR.out (HC.out j hlt)
          have hlt' : (j : Int) < 20 := by omega
          have hnn : ¬ 20 ≤ j := by omega
          have HX := Lib.hid (nl_at hlt)
          obtain ⟨t, ht⟩ : ∃ t, t = nmAt j := ⟨_, rfl⟩
          rw [← ht] at hc HX
          clear ht
          by_cases he : t.data.toList = s.data.toList
          · have hvj : v = (j : Int) + 1 := HV.out.trans (kd_some HN.out HX.out (by unfold isN; rw [decide_eq_true_eq]; exact he))
            obtain rfl : t = s := bytes_ext he
            clear he HV
            subst hvj
            have hp : (0 : Int) < (j : Int) + 1 := by omega
            go_wp2
            go_ret
            exact ⟨rfl, low_2 HB2.out HBR.out⟩
          · have HN1 := Lib.hid (idx_step HN.out HX.out (by unfold isN; rw [decide_eq_false_iff_not]; exact he))
            have hne := str_ne he
            clear he
            go_wp2
            go_roundw
            case rel => exact ⟨j + 1, by omega, by go_num, HBR, HN1⟩
            case measure => simp [intOf]; omega
        · have hj20 : j = 20 := by omega
          subst hj20
          have hv0 : v = 0 := HV.out.trans (kd_none HN.out)
          clear HV
          subst hv0
          go_wp2
          go_ret
          exact ⟨rfl, low_2 HB2.out HBR.out⟩
    · obtain ⟨m, rfl⟩ : ∃ m : Nat, k = (m : Int) + 1 := ⟨(k - 1).toNat, by omega⟩
      have HM20 := Lib.hid (show m < 20 by omega)
      have hm : ¬ 20 ≤ m := by omega
      have hm' : (m : Int) + 1 ≤ 20 := by omega
      have hm1 : 1 ≤ (m : Int) + 1 := by omega
      clear h1 h20
      by_cases h9 : 9 ≤ (m : Int) + 1
      · have H9 := Lib.hid h9
        have HM' := Lib.hid hm'
        go_enter Tryz.func3, Tryz.ntmps3
        go_wp2_with fail
        refine ((hw _ hT.out).out).mono ?_
        rintro e w1 ⟨rfl, hb⟩
        have HB := Lib.hid hb
        clear hb
        go_wp2_with fail
        refine ((hM _).out).mono ?_
        rintro e w2 ⟨⟨r, rfl, hr, hcells⟩, hb⟩
        have HB2 := Lib.hid (low_2 HB.out hb)
        have HC := Lib.hid hcells
        have HR := Lib.hid hr
        clear hb hcells hr
        have hcm := HC.out m HM20.out
        have hNm := hNin m w2 HM20 (hT.out.low HB2.out)
        generalize nmAt m = tm at hcm hNm
        go_wp2_with fail
        refine ((hNm).out).mono ?_
        rintro e w3 ⟨rfl, hb⟩
        have HB3 := Lib.hid (low_2 (Below.refl _ _) hb)
        have HT3 := Lib.hid (low_2 HB2.out hb)
        clear hb
        go_wp2_with fail
        refine ((hGin _ _ H9 HM').out).mono ?_
        rintro e w4 ⟨rfl, hb⟩
        have HBN := Lib.hid (low_2 HB3.out hb)
        have HBG := Lib.hid (low_2 HT3.out hb)
        clear hb HB3 HT3
        go_wp2_with fail
        refine ((hK _ _ (hT.out.low HBG.out)).out).mono ?_
        rintro e w5 ⟨rfl, hb⟩
        have HB5 := Lib.hid (low_2 HBN.out hb)
        clear hb
        obtain ⟨v, hv⟩ : ∃ v, v = kd s := ⟨_, rfl⟩
        rw [← hv]
        have HV := Lib.hid hv
        clear hv
        go_wp2_with fail
        go_loopw [49] (fun i wr => ∃ j : Nat, j ≤ 20 ∧ i = .int .i64 j ∧ Hid (Below w2.heap.size w2 wr) ∧ Hid (∀ q x, q < j → nl[q]? = some x → isN s x = false)) (fun i _ => 20 - (intOf i).toNat)
        case atStart => exact ⟨0, by omega, rfl, HB5, Lib.hid (fun q x h => by omega)⟩
        case round =>
          obtain ⟨j, hj, rfl, HBR, HN⟩ := hrel
          by_cases hlt : j < 20
          · have hc := cell_low HBR.out (HC.out j hlt)
            have hlt' : (j : Int) < 20 := by omega
            have hnn : ¬ 20 ≤ j := by omega
            have HX := Lib.hid (nl_at hlt)
            obtain ⟨t, ht⟩ : ∃ t, t = nmAt j := ⟨_, rfl⟩
            rw [← ht] at hc HX
            clear ht
            by_cases he : t.data.toList = s.data.toList
            · have hvj : v = (j : Int) + 1 := HV.out.trans (kd_some HN.out HX.out (by unfold isN; rw [decide_eq_true_eq]; exact he))
              obtain rfl : t = s := bytes_ext he
              clear he HV
              subst hvj
              have hp : (0 : Int) < (j : Int) + 1 := by omega
              go_wp2
              go_ret
              exact ⟨rfl, low_2 HB2.out HBR.out⟩
            · have HN1 := Lib.hid (idx_step HN.out HX.out (by unfold isN; rw [decide_eq_false_iff_not]; exact he))
              have hne := str_ne he
              clear he
              go_wp2
              go_roundw
              case rel => exact ⟨j + 1, by omega, by go_num, HBR, HN1⟩
              case measure => simp [intOf]; omega
          · have hj20 : j = 20 := by omega
            subst hj20
            have hv0 : v = 0 := HV.out.trans (kd_none HN.out)
            clear HV
            subst hv0
            go_wp2
            go_ret
            exact ⟨rfl, low_2 HB2.out HBR.out⟩
      · have H9 := Lib.hid (show (m : Int) + 1 < 9 by omega)
        go_enter Tryz.func3, Tryz.ntmps3
        go_wp2_with fail
        refine ((hw _ hT.out).out).mono ?_
        rintro e w1 ⟨rfl, hb⟩
        have HB := Lib.hid hb
        clear hb
        go_wp2_with fail
        refine ((hM _).out).mono ?_
        rintro e w2 ⟨⟨r, rfl, hr, hcells⟩, hb⟩
        have HB2 := Lib.hid (low_2 HB.out hb)
        have HC := Lib.hid hcells
        have HR := Lib.hid hr
        clear hb hcells hr
        have hcm := HC.out m HM20.out
        have hNm := hNin m w2 HM20 (hT.out.low HB2.out)
        generalize nmAt m = tm at hcm hNm
        go_wp2_with fail
        refine ((hNm).out).mono ?_
        rintro e w3 ⟨rfl, hb⟩
        have HB3 := Lib.hid (low_2 (Below.refl _ _) hb)
        have HT3 := Lib.hid (low_2 HB2.out hb)
        clear hb
        go_wp2_with fail
        refine ((hGlo _ _ H9).out).mono ?_
        rintro e w4 ⟨rfl, hb⟩
        have HBN := Lib.hid (low_2 HB3.out hb)
        have HBG := Lib.hid (low_2 HT3.out hb)
        clear hb HB3 HT3
        go_wp2_with fail
        refine ((hK _ _ (hT.out.low HBG.out)).out).mono ?_
        rintro e w5 ⟨rfl, hb⟩
        have HB5 := Lib.hid (low_2 HBN.out hb)
        clear hb
        obtain ⟨v, hv⟩ : ∃ v, v = kd s := ⟨_, rfl⟩
        rw [← hv]
        have HV := Lib.hid hv
        clear hv
        go_wp2_with fail
        go_loopw [49] (fun i wr => ∃ j : Nat, j ≤ 20 ∧ i = .int .i64 j ∧ Hid (Below w2.heap.size w2 wr) ∧ Hid (∀ q x, q < j → nl[q]? = some x → isN s x = false)) (fun i _ => 20 - (intOf i).toNat)
        case atStart => exact ⟨0, by omega, rfl, HB5, Lib.hid (fun q x h => by omega)⟩
        case round =>
          obtain ⟨j, hj, rfl, HBR, HN⟩ := hrel
          by_cases hlt : j < 20
          · have hc := cell_low HBR.out (HC.out j hlt)
            have hlt' : (j : Int) < 20 := by omega
            have hnn : ¬ 20 ≤ j := by omega
            have HX := Lib.hid (nl_at hlt)
            obtain ⟨t, ht⟩ : ∃ t, t = nmAt j := ⟨_, rfl⟩
            rw [← ht] at hc HX
            clear ht
            by_cases he : t.data.toList = s.data.toList
            · have hvj : v = (j : Int) + 1 := HV.out.trans (kd_some HN.out HX.out (by unfold isN; rw [decide_eq_true_eq]; exact he))
              obtain rfl : t = s := bytes_ext he
              clear he HV
              subst hvj
              have hp : (0 : Int) < (j : Int) + 1 := by omega
              go_wp2
              go_ret
              exact ⟨rfl, low_2 HB2.out HBR.out⟩
            · have HN1 := Lib.hid (idx_step HN.out HX.out (by unfold isN; rw [decide_eq_false_iff_not]; exact he))
              have hne := str_ne he
              clear he
              go_wp2
              go_roundw
              case rel => exact ⟨j + 1, by omega, by go_num, HBR, HN1⟩
              case measure => simp [intOf]; omega
          · have hj20 : j = 20 := by omega
            subst hj20
            have hv0 : v = 0 := HV.out.trans (kd_none HN.out)
            clear HV
            subst hv0
            go_wp2
            go_ret
            exact ⟨rfl, low_2 HB2.out HBR.out⟩
end Go.Proofs.YtecfnddaniphdaaGreatDoor.A
