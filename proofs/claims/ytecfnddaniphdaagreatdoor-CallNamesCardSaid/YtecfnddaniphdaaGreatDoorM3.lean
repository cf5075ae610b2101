/-
  law21: CallNames: the tables' types, what a row's list says of a table.
-/
import Derived.Test.YtecfnddaniphdaaGreatDoorM2
import Derived.Test.YtecfnddaniphdaaGreatDoorXg
import Derived.Lib.LaidTab
set_option linter.unusedVariables false
set_option linter.unusedSimpArgs false
namespace Go.Proofs.YtecfnddaniphdaaGreatDoor.A
open Go.RowKit Go.ChangeShapes Go.WideShapes
theorem cells9 : Tryz.prog.cellsOf 9 = 1 := by kernel_rfl
theorem cells5 : Tryz.prog.cellsOf 5 = 1 := by kernel_rfl
theorem cells66 : Tryz.prog.cellsOf 66 = 20 := by kernel_rfl
theorem cells388 : Tryz.prog.cellsOf 388 = 32 := by kernel_rfl
theorem callNames_walk (k : Int) (s : ByteArray) (w : World) (hT : Tab w) : Calls Tryz.prog 3 #[.int .i64 k, .string s] w fun e w' => e = .returned (.bool true) ∧ Below w.heap.size w w' :=
  names_walk (fun W T => by obtain ⟨cs, t, h1, h2⟩ := T.bits; exact Lib.hid (AM.wakes_calls W h1 h2)) (fun W => Lib.hid (ref_names W)) (fun k W h => Lib.hid (name_lo k h.out W)) (fun k W h => Lib.hid (name_hi k h.out W)) (fun m W h T => Lib.hid (name_in m h.out W T))
    (fun k W h => Lib.hid (guest_lo k h.out W)) (fun k W h h' => Lib.hid (guest_in k h.out h'.out W)) (fun k W h => Lib.hid (guest_hi k h.out W)) (fun s W T => Lib.hid (callKind s W T)) k s w (Lib.hid hT)
theorem laid_tail {P : Program} {x : String × DataW Unit} {rest : List (String × DataW Unit)} {w : World} (h : laidMet P (x :: rest) w) : laidMet P rest w := by
  obtain ⟨n, d⟩ := x
  obtain ⟨ps, ⟨g', t', cs, fuel, p, q, h1, h2, h3, h4, hr, rfl⟩, hnd, hz⟩ := h
  exact ⟨q, hr, (List.nodup_append.1 hnd).2.1, fun b off hb => hz b off (List.mem_append_right _ hb)⟩
theorem ints_of_laid {P : Program} {name : String} {k : IntKind} {l : List Int} {rest : List (String × DataW Unit)} {w : World} {g t e n : Nat} (hg : P.globalNamed name = some g) (hgt : (P.globals[g]?).map (·.type) = some t)
    (ht : P.underlying t = some (.array n e)) (he : P.underlying e = some (.int k)) (hce : P.cellsOf e = 1) (hct : P.cellsOf t = n) (hpos : l ≠ []) (h : laidMet P ((name, Lib.tabData k l) :: rest) w) :
    ∃ cs ty, w.heap[g]? = some (.cells cs ty (0, 0)) ∧ cs.toList = l.map fun z => .int k z := by
  obtain ⟨ps, ⟨g', t', cs, fuel, p, q, h1, h2, h3, h4, _, rfl⟩, _, hz⟩ := h
  rw [hg] at h1
  simp only [Option.some.injEq] at h1
  subst h1
  rw [hgt] at h2
  simp only [Option.some.injEq] at h2
  subst h2
  have hcs := Lib.cells_of_tab ht he hce hct h4
  unfold World.var? at h3
  rw [hg] at h3
  simp only [Option.bind_some] at h3
  have hsz : 0 < cs.size := by
    rw [← Array.length_toList, hcs]
    cases l with
    | nil => exact absurd rfl hpos
    | cons _ _ => simp
  obtain ⟨⟨c, ty, hc⟩, _⟩ := hz g 0 (List.mem_append_left _ (List.mem_append_left _ (by
    unfold MemPlace.row
    simp only [List.mem_map, List.mem_range]
    exact ⟨0, hsz, by simp [MemPlace.cell]⟩)))
  rw [hc] at h3
  simp only [Option.some.injEq] at h3
  subst h3
  exact ⟨c, ty, hc, hcs⟩
end Go.Proofs.YtecfnddaniphdaaGreatDoor.A
