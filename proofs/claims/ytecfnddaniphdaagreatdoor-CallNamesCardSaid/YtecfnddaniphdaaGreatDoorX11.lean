/-
  The abstract machine: copy, clear, lengths, maps.
-/
import Derived.Test.YtecfnddaniphdaaGreatDoorX10
set_option linter.unusedVariables false
set_option linter.unusedSimpArgs false
namespace Go.Proofs.YtecfnddaniphdaaGreatDoor.AM
variable {P : Program}

theorem VR.slice_addr {M : Mu} {a : Option Addr} {n c : Nat} {v' : Value} (h : VR M (.slice a n c) v') :
    ∃ a' c', v' = .slice a' n c' ∧ (∀ b o, a = some ⟨b, o, none⟩ → ∃ r o', a' = some ⟨r, o', none⟩ ∧ M.m b r ∧ (0 < n → o' = o)) ∧ (a = none → a' = none) := by
  cases h with
  | nilslice n c => exact ⟨_, _, rfl, (fun b o h => by cases h), fun _ => rfl⟩
  | slice o n c h hc => exact ⟨_, _, rfl, (fun b o h' => by cases h'; exact ⟨_, _, rfl, h, fun _ => rfl⟩), (fun h => by cases h)⟩
  | grown l n c h hc hn hC => exact ⟨_, _, rfl, (fun b o h' => by cases h'; exact ⟨_, _, rfl, h, fun _ => rfl⟩), (fun h => by cases h)⟩
  | empty o o' c h => exact ⟨_, _, rfl, (fun b o h' => by cases h'; exact ⟨_, _, rfl, h, fun h => by omega⟩), (fun h => by cases h)⟩
theorem firstA_len {s : St} {size n : Nat} {a : Option Addr} {k c : Nat} {l : List Value} (h : firstA s size n (.slice a k c) = some l) : l.length = n * size ∨ (a = none ∧ l = []) := by
  unfold firstA at h
  split at h
  · rename_i heq; cases heq; simp at h; exact .inr ⟨rfl, h⟩
  · rename_i b o _ _ heq
    split at h
    · exact .inl (loadN_some h).2
    · cases h
  · cases h
theorem copyA_sound {cf : Cfg} (C : CfgOk P cf) {M : Mu} {s s' : St} {w : World} (H : HR M s.h w) (L : Li s) {t : TypeId} {ts : Array TypeId} (hts : ts[0]? = some t) (ty : TypeId) {x x' y y' v : Value} (hx : VR M x x') (hy : VR M y y')
    (h : copyA cf s t x y = some (v, s')) : ∃ M' v' w', (Builtin.copy_ ts ty #[x', y']).run P w = .ok v' w' ∧ Good M s w v s' M' v' w' := by
  unfold copyA at h
  split at h
  case h_2 => cases h
  rename_i e base dl dc yb yl yc hk
  split at h
  case h_2 => cases h
  rename_i te hte
  have T := C.ty hte
  have ht : P.underlying t = some (.slice e) := C.kd hk
  split at h
  case h_2 => cases h
  rename_i cs hcs
  cases h1 : cs.all one with
  | false => rw [h1] at h; cases h
  | true =>
    rw [h1] at h
    simp only [cond] at h
    have hlen := lenOf_slice (P := P) hy w
    have hmin : Nat.min yl dl = min yl dl := rfl
    have hfc : ∃ l', LR M cs l' ∧ (Builtin.firstCells te.size (Nat.min yl dl) y').run P w = .ok l'.toArray w := by
      rcases firstA_len hcs with hl | ⟨rfl, rfl⟩
      · obtain ⟨l', h2, h3, _⟩ := firstA_sound (P := P) H hy rfl (Nat.min_le_left yl dl) hcs hl
        exact ⟨l', h2, h3⟩
      · cases hy
        exact ⟨[], .nil, by simp [Builtin.firstCells]⟩
    obtain ⟨cs', hLc, hrun⟩ := hfc
    obtain ⟨base', dc', rfl, hb1, hb2⟩ := hx.slice_addr
    split at h
    · cases hb2 rfl
      simp only [Option.some.injEq, Prod.mk.injEq] at h
      obtain ⟨rfl, rfl⟩ := h
      refine ⟨M, _, w, ?_, Good.same H L (.int _ _)⟩
      simp [Builtin.copy_, hts, run_underlying ht, hlen, T.sizeOf, hrun, goInt, hmin]
    · rename_i b o
      obtain ⟨r, o', rfl, hr, ho⟩ := hb1 b o rfl
      split at h
      case h_2 => cases h
      rename_i c g hb
      simp only [Option.map_eq_some_iff, Prod.mk.injEq] at h
      obtain ⟨c', hst, rfl, rfl⟩ := h
      by_cases hd : 0 < dl
      · cases ho hd
        obtain ⟨w', hw, hH, hE, hS, hLi⟩ := cells_write (P := P) H L hb hr hst hLc h1
        refine ⟨M, _, w', ?_, ⟨.int _ _, hH, hLi, hE, hS⟩⟩
        simp [Builtin.copy_, hts, run_underlying ht, hlen, T.sizeOf, hrun, goInt, hmin, hw]
      · have hd0 : dl = 0 := by omega
        subst hd0
        have hnil : cs = [] := by
          rcases firstA_len hcs with hl | ⟨_, h⟩
          · simp at hl; exact hl
          · exact h
        subst hnil
        cases hLc
        have hcc : c' = c := by obtain ⟨rfl, _⟩ := storeN_some hst; simp
        subst hcc
        obtain ⟨w', hw, hH, hE, hS, hLi⟩ := cells_write (P := P) (M := M) H L hb hr hst .nil rfl
        simp only [storeCells, Sem.run_pure, Result.ok.injEq, true_and] at hw
        subst hw
        have hm0 : yl.min 0 = 0 := by simp
        rw [hm0] at hrun
        refine ⟨M, _, w, ?_, ⟨.int _ _, hH, hLi, hE, hS⟩⟩
        simp [Builtin.copy_, hts, run_underlying ht, hlen, T.sizeOf, hrun, goInt, hmin, storeCells]
    · cases h
theorem clearA_sound {cf : Cfg} (C : CfgOk P cf) {M : Mu} {s s' : St} {w : World} (H : HR M s.h w) (L : Li s) {t : TypeId} {ts : Array TypeId} (hts : ts[0]? = some t) (ty : TypeId) {x x' : Value} (hx : VR M x x')
    (h : clearA cf s t x = some s') : ∃ M' v' w', (Builtin.clear_ ts ty #[x']).run P w = .ok v' w' ∧ Good M s w undef s' M' v' w' := by
  unfold clearA at h
  split at h
  case h_3 => cases h
  case h_1 =>
    rename_i e b o n cp hk
    split at h
    case h_2 => cases h
    rename_i te hte
    have T := C.ty hte
    have ht : P.underlying t = some (.slice e) := C.kd hk
    split at h
    case h_2 => cases h
    rename_i c g hb
    obtain ⟨a', c', rfl, hb1, _⟩ := hx.slice_addr
    obtain ⟨r, o', rfl, hr, ho⟩ := hb1 b o rfl
    cases hn : Nat.beq n 0 with
    | true =>
      rw [hn] at h
      simp only [cond, Option.some.injEq] at h
      subst h
      have e0 := Nat.eq_of_beq_eq_true hn
      subst e0
      exact ⟨M, undef, w, by simp [Builtin.clear_, hts, run_underlying ht, undef], Good.same H L (.undef M)⟩
    | false =>
      rw [hn] at h
      simp only [cond] at h
      have hne : n ≠ 0 := fun e => by subst e; cases hn
      cases ho (by omega)
      cases hz : ((zerosA te n).all one && Nat.blt 0 te.size) with
      | false => rw [hz] at h; cases h
      | true =>
        rw [hz] at h
        simp only [cond, Option.map_eq_some_iff] at h
        obtain ⟨c2, hst, rfl⟩ := h
        simp only [Bool.and_eq_true] at hz
        have hpos := Nat.blt_eq.mp hz.2
        have hzc : (Builtin.zeroCells te.zeroV.cells n).toList = zerosA te n := by
          have hs : te.zeroV.cells.size = te.size := by have := congrArg List.length T.zc; simpa [T.zl] using this
          have := zeros_real (te := te) T.zc T.zl hpos n
          rw [← this]
          simp only [Builtin.zeroCells, hs]
        obtain ⟨w', hw, hH, hE, hS, hLi⟩ := cells_write (P := P) H L hb hr hst (scals_LR M (zerosA_scal T.zp n)) hz.1
        refine ⟨M, _, w', ?_, ⟨.undef M, hH, hLi, hE, hS⟩⟩
        obtain ⟨n, rfl⟩ : ∃ k, n = k + 1 := ⟨n - 1, by omega⟩
        simp [Builtin.clear_, hts, run_underlying ht, T.zero, hzc, hw, undef]
  case h_2 =>
    rename_i e n cp hk
    simp only [Option.some.injEq] at h
    subst h
    have ht : P.underlying t = some (.slice e) := C.kd hk
    cases hx
    exact ⟨M, undef, w, by simp [Builtin.clear_, hts, run_underlying ht, undef], Good.same H L (.undef M)⟩
theorem HR.mapAt {M : Mu} {h : TR AObj} {w : World} (H : HR M h w) {b r : Nat} {es : List (Value × Value)} (hb : h.get b = some (.map es)) (hr : M.m b r) :
    ∃ es' k, w.heap[r]? = some (.map es' k) ∧ LR M (es.map (·.1)) (es'.toList.map (·.key)) ∧ LR M (es.map (·.2)) (es'.toList.map (·.val)) := by
  obtain ⟨o', h1, h2⟩ := H.at_ hb hr
  cases o' with
  | map es' k => exact ⟨_, _, h1, h2.1, h2.2⟩
  | _ => exact h2.elim
theorem VR.map_inv {M : Mu} {b : Nat} {v' : Value} (h : VR M (.map (some b)) v') : ∃ r, v' = .map (some r) ∧ M.m b r := by
  cases h with
  | map h => exact ⟨_, rfl, h⟩
theorem getMap {w : World} {r k : Nat} {es : Array MapEntry} (h : w.heap[r]? = some (.map es k)) : (getObj r).run P w = .ok (.map es k) w := by simp [getObj, Sem.run, h]
theorem lenA_sound {cf : Cfg} (C : CfgOk P cf) {M : Mu} {s : St} {w : World} (H : HR M s.h w) {t : TypeId} {ts : Array TypeId} (hts : ts[0]? = some t) (ty : TypeId) {x x' v : Value} (hx : VR M x x') (h : lenA cf s t x = some v) :
    ∃ v', (Builtin.len_ ts ty #[x']).run P w = .ok v' w ∧ VR M v v' := by
  unfold lenA at h
  split at h
  · rename_i e a n c hk
    simp only [Option.some.injEq] at h
    subst h
    have ht : P.underlying t = some (.slice e) := C.kd hk
    obtain ⟨a', c', rfl, _⟩ := hx.slice_inv
    exact ⟨_, by simp [Builtin.len_, hts, run_underlying ht, goInt], .int _ _⟩
  · rename_i n e hk
    simp only [Option.some.injEq] at h
    subst h
    have ht : P.underlying t = some (.array n e) := C.kd hk
    exact ⟨_, by simp [Builtin.len_, hts, run_underlying ht, goInt], .int _ _⟩
  · rename_i kt e b hk
    split at h
    case h_2 => cases h
    rename_i es hb
    simp only [Option.some.injEq] at h
    subst h
    have ht : P.underlying t = some (.map kt e) := C.kd hk
    obtain ⟨r, rfl, hr⟩ := hx.map_inv
    obtain ⟨es', k, h1, h2, _⟩ := H.mapAt hb hr
    have hl : es'.size = es.length := by have := h2.length; simpa using this.symm
    exact ⟨_, by simp [Builtin.len_, hts, run_underlying ht, goInt, getMap h1, hl], .int _ _⟩
  · rename_i str hk
    simp only [Option.some.injEq] at h
    subst h
    have ht : P.underlying t = some .string := C.kd hk
    cases hx
    exact ⟨_, by simp [Builtin.len_, hts, run_underlying ht, goInt], .int _ _⟩
  · cases h
theorem capA_sound {cf : Cfg} (C : CfgOk P cf) {M : Mu} {w : World} {t : TypeId} {ts : Array TypeId} (hts : ts[0]? = some t) (ty : TypeId) {x x' v : Value} (hx : VR M x x') (h : capA cf t x = some v) :
    ∃ v', (Builtin.cap_ ts ty #[x']).run P w = .ok v' w ∧ VR M v v' := by
  unfold capA at h
  split at h
  case h_2 => cases h
  rename_i e a n c hk
  cases hn : Nat.blt c UNK with
  | false => rw [hn] at h; cases h
  | true =>
    rw [hn] at h
    simp only [cond, Option.some.injEq] at h
    subst h
    have ht : P.underlying t = some (.slice e) := C.kd hk
    obtain ⟨a', rfl, _⟩ := hx.known (Nat.blt_eq.mp hn)
    exact ⟨_, by simp [Builtin.cap_, hts, run_underlying ht, goInt], .int _ _⟩
theorem foldA_sound {M : Mu} {w : World} {f : Value → Value → Option Value} {g : Value → Value → Sem Value} (hf : ∀ {x x' y y' z}, VR M x x' → VR M y y' → f x y = some z → ∃ z', (g x' y').run P w = .ok z' w ∧ VR M z z') :
    ∀ {l l' : List Value} {x x' z : Value}, LR M l l' → VR M x x' → foldA f x l = some z → ∃ z', (l'.foldlM g x').run P w = .ok z' w ∧ VR M z z'
  | _, _, x, x', z, .nil, hx, h => by simp only [foldA, Option.some.injEq] at h; subst h; exact ⟨x', by simp, hx⟩
  | _, _, x, x', z, .cons hv t, hx, h => by
    simp only [foldA] at h
    split at h
    · rename_i u hu
      obtain ⟨u', h1, h2⟩ := hf hx hv hu
      obtain ⟨z', h3, h4⟩ := foldA_sound hf t h2 h
      exact ⟨z', by simp [List.foldlM_cons, h1, h3], h4⟩
    · cases h
theorem max2A_sound {M : Mu} {w : World} {x x' y y' z : Value} (hx : VR M x x') (hy : VR M y y') (h : max2A x y = some z) : ∃ z', (Builtin.max2 x' y').run P w = .ok z' w ∧ VR M z z' := by
  unfold max2A at h
  split at h
  · simp only [Option.some.injEq] at h
    subst h
    cases hx.int_inv
    cases hy.int_inv
    exact ⟨_, by simp [Builtin.max2], .int _ _⟩
  · cases h
theorem min2A_sound {M : Mu} {w : World} {x x' y y' z : Value} (hx : VR M x x') (hy : VR M y y') (h : min2A x y = some z) : ∃ z', (Builtin.min2 x' y').run P w = .ok z' w ∧ VR M z z' := by
  unfold min2A at h
  split at h
  · simp only [Option.some.injEq] at h
    subst h
    cases hx.int_inv
    cases hy.int_inv
    exact ⟨_, by simp [Builtin.min2], .int _ _⟩
  · cases h
end Go.Proofs.YtecfnddaniphdaaGreatDoor.AM
