/-
  law24: LiveNames: what the arguments and the tables read as.
-/
import Derived.Test.YtoifedelfgpnhaaGreatDoorL2
import Derived.Deep.SlicePairs
import Derived.Lib.LaidTab
set_option linter.unusedVariables false
set_option linter.unusedSimpArgs false
namespace Go.Proofs.YtoifedelfgpnhaaGreatDoor.A
open Go.RowKit Go.ChangeShapes Go.WideShapes Go.Deep
theorem cells3 : Tryz.prog.cellsOf 3 = 1 := by kernel_rfl
theorem cells9 : Tryz.prog.cellsOf 9 = 1 := by kernel_rfl
theorem cells5 : Tryz.prog.cellsOf 5 = 1 := by kernel_rfl
theorem cells67 : Tryz.prog.cellsOf 67 = 11 := by kernel_rfl
theorem cells331 : Tryz.prog.cellsOf 331 = 32 := by kernel_rfl
theorem plain_addr {w : World} {a : Addr} {v : Value} (h : w.cell? (a.add 0) = some v) : a = ⟨a.block, a.off, none⟩ := by
  have h0 : a.spot = none := by simpa [Addr.add] using World.cell?_spot h
  obtain ⟨b, o, s⟩ := a
  cases h0
  rfl
theorem add_at {b off i : Nat} : (⟨b, off, none⟩ : Addr).add i = ⟨b, off + i, none⟩ := by
  unfold Addr.add
  split
  · next h => subst h; rfl
  · rfl
theorem row_of {H : Type} {enc : TypeId × Value → H} {W : World} {base : Nat} {held : Bool} {fuel : Nat} {v : Value} {x : DataW H × List MemPlace} {t e : TypeId} (ht : Tryz.prog.underlying t = some (.slice e)) (ce : Tryz.prog.cellsOf e = 1)
    (h : DataW.trod enc Tryz.prog W base (fun _ => true) held fuel t [v] = some x) :
    ∃ A n c V, v = .slice A n c ∧ n ≤ maxLen ∧ RowOf W A n V ∧ ∀ j, j < n → ∃ k y, DataW.trod enc Tryz.prog W base (fun _ => true) held k e [V j] = some y := by
  rcases open_slice1 ht ce h with ⟨hc, hx⟩ | ⟨a, len, cap, m, k, V, D, Pl, hc, _, hl, hm, hmm, hx, hall⟩
  · obtain rfl : v = .slice none 0 0 := by simpa using hc
    exact ⟨none, 0, 0, fun _ => undef, rfl, Nat.zero_le _, fun j hj => absurd hj (Nat.not_lt_zero _), fun j hj => absurd hj (Nat.not_lt_zero _)⟩
  · obtain rfl : v = .slice (some a) len cap := by simpa using hc
    simp only [if_true] at hmm
    have hmm' := hmm.symm
    subst hmm'
    refine ⟨some a, len, cap, V, rfl, Nat.le_trans hl hm, fun j hj => ?_, fun j hj => ⟨k, _, (hall j (by omega)).2⟩⟩
    have ea := plain_addr (hall 0 (by omega)).1
    have h1 := (hall j (by omega)).1
    refine ⟨a.block, a.off, by rw [← ea], ?_⟩
    rw [← h1]
    exact congrArg W.cell? (add_at.symm.trans (congrArg (fun a : Addr => a.add j) ea.symm))
theorem ints_of {H : Type} {enc : TypeId × Value → H} {W : World} {base : Nat} {held : Bool} {fuel : Nat} {v : Value} {x : DataW H × List MemPlace} (h : DataW.trod enc Tryz.prog W base (fun _ => true) held fuel 22 [v] = some x) :
    ∃ (A : Option Addr) (n c : Nat) (K : Nat → Int), v = .slice A n c ∧ n ≤ maxLen ∧ RowOf W A n (fun j => .int .i64 (K j)) := by
  obtain ⟨A, n, c, V, e, hn, hr, ht⟩ := row_of Tryz.underlying22 cells3 h
  have each : ∀ j, j < n → ∃ z : Int, V j = .int .i64 z := by
    intro j hj
    obtain ⟨k, y, hy⟩ := ht j hj
    obtain ⟨z, e0, _, _⟩ := DataW.trod_int Tryz.underlying3 hy
    simp at e0
    exact ⟨z, e0⟩
  obtain ⟨K, hK⟩ := choose_lt each
  exact ⟨A, n, c, K, e, hn, fun j hj => by
    obtain ⟨b, off, h1, h2⟩ := hr j hj
    exact ⟨b, off, h1, by rw [h2, hK j hj]⟩⟩
theorem strs_of {H : Type} {enc : TypeId × Value → H} {W : World} {base : Nat} {held : Bool} {fuel : Nat} {v : Value} {x : DataW H × List MemPlace} (h : DataW.trod enc Tryz.prog W base (fun _ => true) held fuel 23 [v] = some x) :
    ∃ (A : Option Addr) (n c : Nat) (S : Nat → ByteArray), v = .slice A n c ∧ n ≤ maxLen ∧ RowOf W A n (fun j => .string (S j)) := by
  obtain ⟨A, n, c, V, e, hn, hr, ht⟩ := row_of Tryz.underlying23 cells9 h
  have each : ∀ j, j < n → ∃ z : ByteArray, V j = .string z := by
    intro j hj
    obtain ⟨k, y, hy⟩ := ht j hj
    obtain ⟨z, e0, _⟩ := DataW.trod_string Tryz.underlying9 hy
    simp at e0
    exact ⟨z, e0⟩
  haveI : Inhabited ByteArray := ⟨.empty⟩
  obtain ⟨K, hK⟩ := choose_lt each
  exact ⟨A, n, c, K, e, hn, fun j hj => by
    obtain ⟨b, off, h1, h2⟩ := hr j hj
    exact ⟨b, off, h1, by rw [h2, hK j hj]⟩⟩
theorem laid_tail {P : Program} {x : String × DataW Unit} {rest : List (String × DataW Unit)} {w : World} (h : laidMet P (x :: rest) w) : laidMet P rest w := by
  obtain ⟨n, d⟩ := x
  obtain ⟨ps, ⟨g', t', cs, fuel, p, q, h1, h2, h3, h4, hr, rfl⟩, hnd, hz⟩ := h
  exact ⟨q, hr, (List.nodup_append.1 hnd).2.1, fun b off hb => hz b off (List.mem_append_right _ hb)⟩
theorem ints_of_laid {P : Program} {name : String} {k : IntKind} {l : List Int} {rest : List (String × DataW Unit)} {w : World} {g t e n : Nat} (hg : P.globalNamed name = some g) (hgt : (P.globals[g]?).map (·.type) = some t)
    (ht : P.underlying t = some (.array n e)) (he : P.underlying e = some (.int k)) (hce : P.cellsOf e = 1) (hct : P.cellsOf t = n) (hpos : l ≠ []) (h : laidMet P ((name, Lib.tabData k l) :: rest) w) :
    ∃ cs ty, w.heap[g]? = some (.cells cs ty (0, 0)) ∧ cs.toList = l.map fun z => .int k z := by
  obtain ⟨ps, ⟨g', t', cs, fuel, p, q, h1, h2, h3, h4, _, rfl⟩, _, hz⟩ := h
  rw [hg] at h1
  simp only [Option.some.injEq] at h1
  subst h1
  rw [hgt] at h2
  simp only [Option.some.injEq] at h2
  subst h2
  have hcs := Lib.cells_of_tab ht he hce hct h4
  unfold World.var? at h3
  rw [hg] at h3
  simp only [Option.bind_some] at h3
  have hsz : 0 < cs.size := by
    rw [← Array.length_toList, hcs]
    cases l with
    | nil => exact absurd rfl hpos
    | cons _ _ => simp
  obtain ⟨⟨c, ty, hc⟩, _⟩ := hz g 0 (List.mem_append_left _ (List.mem_append_left _ (by
    unfold MemPlace.row
    simp only [List.mem_map, List.mem_range]
    exact ⟨0, hsz, by simp [MemPlace.cell]⟩)))
  rw [hc] at h3
  simp only [Option.some.injEq] at h3
  subst h3
  exact ⟨c, ty, hc, hcs⟩
end Go.Proofs.YtoifedelfgpnhaaGreatDoor.A
