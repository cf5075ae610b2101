/-
  The abstract machine: tests of values; slice expressions; lengths.
-/
import Derived.Test.YtecfnddaniphdaaGreatDoorX5
import Derived.Laws.StructEq
import Derived.Laws.Strings
set_option linter.unusedVariables false
set_option linter.unusedSimpArgs false
namespace Go.Proofs.YtecfnddaniphdaaGreatDoor.AM
variable {P : Program}

theorem eqG {w : World} {op : BinOp} {t : TypeId} {ox oy : Operand} {x y v : Value} (hg : (eqGuard op t ox oy x y).run P w = .ok () w) (h : (binOp op t x y).run P w = .ok v w) :
    (do eqGuard op t ox oy x y; binOp op t x y : Sem Value).run P w = .ok v w := by
  simp only [Sem.run_bind, hg, Result.andThen_ok, h]
theorem eqGuard_int {w : World} (op : BinOp) (t : TypeId) (ox oy : Operand) (k k' : IntKind) (a b : Int) : (eqGuard op t ox oy (.int k a) (.int k' b)).run P w = .ok () w := by cases op <;> simp [eqGuard]
theorem nilB_some {op : BinOp} {r : Option Value} {v : Value} (h : nilB op r = some v) : ∃ b, r = some (.bool b) ∧ ((op = .eql ∧ v = .bool b) ∨ (op = .neq ∧ v = .bool (!b))) := by
  unfold nilB at h
  cases r with
  | none => cases h
  | some x =>
    simp only [Option.bind_some] at h
    split at h
    · rename_i b
      refine ⟨b, rfl, ?_⟩
      cases op <;> simp only [eqB, Option.some.injEq] at h <;> first | (cases h; done) | exact .inl ⟨rfl, h.symm⟩ | exact .inr ⟨rfl, h.symm⟩
    · cases h
theorem bin_of_equal {w : World} {op : BinOp} {t : TypeId} {ox oy : Operand} {x y v : Value} {b : Bool} (hv : (op = .eql ∧ v = .bool b) ∨ (op = .neq ∧ v = .bool (!b)))
    (hg : (eqGuard op t ox oy x y).run P w = .ok () w) (he : binOp .eql t x y = (do pure (.bool (← Op.equal t x y))) ∧ binOp .neq t x y = (do pure (.bool (!(← Op.equal t x y))))) (h : (Op.equal t x y).run P w = .ok b w) :
    (do eqGuard op t ox oy x y; binOp op t x y : Sem Value).run P w = .ok v w := by
  refine eqG hg ?_
  rcases hv with ⟨rfl, rfl⟩ | ⟨rfl, rfl⟩
  · rw [he.1]; simp only [Sem.run_bind, h, Result.andThen_ok, Sem.run_pure]
  · rw [he.2]; simp only [Sem.run_bind, h, Result.andThen_ok, Sem.run_pure]
theorem VR.fn_inv {M : Mu} {f : Fn} {a c : Array Value} {v' : Value} (h : VR M (.func f a c) v') : ∃ f' a' c', v' = .func f' a' c' ∧ FnR M f f' ∧ LR M a.toList a'.toList ∧ LR M c.toList c'.toList := by
  cases h with
  | func hf ha hc => exact ⟨_, _, _, rfl, hf, ha, hc⟩
theorem VR.slice_inv {M : Mu} {a : Option Addr} {n c : Nat} {v' : Value} (h : VR M (.slice a n c) v') : ∃ a' c', v' = .slice a' n c' ∧ a'.isNone = a.isNone := by
  cases h with
  | nilslice n c => exact ⟨_, _, rfl, rfl⟩
  | slice o n c h hc => exact ⟨_, _, rfl, rfl⟩
  | grown l n c h hc hn hC => exact ⟨_, _, rfl, rfl⟩
  | empty o o' c h => exact ⟨_, _, rfl, rfl⟩
theorem VR.pointer_inv {M : Mu} {a : Option Addr} {v' : Value} (h : VR M (.pointer a) v') : ∃ a', v' = .pointer a' ∧ a'.isNone = a.isNone := by
  cases h with
  | nilptr => exact ⟨_, rfl, rfl⟩
  | ptr o h => exact ⟨_, rfl, rfl⟩
theorem isNone_some {a : Option Addr} {b : Addr} (h : a.isNone = (some b).isNone) : ∃ x, a = some x := by cases a with | none => cases h | some x => exact ⟨x, rfl⟩
theorem isNone_none {a : Option Addr} (h : a.isNone = (none : Option Addr).isNone) : a = none := by cases a with | none => rfl | some x => cases h
section
variable {w : World} {t : TypeId}
theorem eq_ptr1 (d : Nat) {e : TypeId} (hu : P.underlying t = some (.pointer e)) (b : Option Addr) : (Op.equalIn (d + 1) t (.pointer none) (.pointer b)).run P w = .ok b.isNone w := by
  simp [Op.equalIn, run_underlying hu]
theorem eq_ptr2 (d : Nat) {e : TypeId} (hu : P.underlying t = some (.pointer e)) (a : Addr) : (Op.equalIn (d + 1) t (.pointer (some a)) (.pointer none)).run P w = .ok false w := by
  simp [Op.equalIn, run_underlying hu]
theorem eq_ptr3 (d : Nat) {e : TypeId} (hu : P.underlying t = some (.pointer e)) {n : Nat} (hs : ∀ w, (Go.sizeOf e).run P w = .ok n w) (hn : n ≠ 0) (r o1 o2 : Nat) : (Op.equalIn (d + 1) t (.pointer (some ⟨r, o1, none⟩)) (.pointer (some ⟨r, o2, none⟩))).run P w = .ok (Nat.beq o1 o2) w := by
  have h : ((⟨r, o1, none⟩ : Addr) == ⟨r, o2, none⟩) = Nat.beq o1 o2 := by
    rw [Bool.eq_iff_iff, beq_iff_eq, Nat.beq_eq]
    constructor
    · intro h; cases h; rfl
    · rintro rfl; rfl
  simp [Op.equalIn, run_underlying hu, hs, hn, sameAddr, h]
theorem eq_sl1 (d : Nat) {e : TypeId} (hu : P.underlying t = some (.slice e)) (b : Option Addr) (n c n' c' : Nat) : (Op.equalIn (d + 1) t (.slice none n c) (.slice b n' c')).run P w = .ok b.isNone w := by
  simp [Op.equalIn, run_underlying hu]
theorem eq_sl2 (d : Nat) {e : TypeId} (hu : P.underlying t = some (.slice e)) (a : Addr) (n c n' c' : Nat) : (Op.equalIn (d + 1) t (.slice (some a) n c) (.slice none n' c')).run P w = .ok false w := by
  simp [Op.equalIn, run_underlying hu]
theorem eq_fn1 (d : Nat) {x y : Array TypeId} {z : Bool} (hu : P.underlying t = some (.func x y z)) : (Op.equalIn (d + 1) t .nilFunc .nilFunc).run P w = .ok true w := by
  simp [Op.equalIn, run_underlying hu]
theorem eq_fn2 (d : Nat) {x y : Array TypeId} {z : Bool} (hu : P.underlying t = some (.func x y z)) (f : Fn) (a c : Array Value) : (Op.equalIn (d + 1) t .nilFunc (.func f a c)).run P w = .ok false w := by
  simp [Op.equalIn, run_underlying hu]
theorem eq_fn3 (d : Nat) {x y : Array TypeId} {z : Bool} (hu : P.underlying t = some (.func x y z)) (f : Fn) (a c : Array Value) : (Op.equalIn (d + 1) t (.func f a c) .nilFunc).run P w = .ok false w := by
  simp [Op.equalIn, run_underlying hu]
end
theorem sameBy_eq : ∀ {a b : List UInt8}, sameBy a b = decide (a = b)
  | [], [] => by simp [sameBy]
  | [], _ :: _ => by simp [sameBy]
  | _ :: _, [] => by simp [sameBy]
  | a :: l, b :: m => by
    unfold sameBy
    rw [sameBy_eq]
    by_cases e : a = b
    · subst e; simp
    · have : Nat.beq a.toNat b.toNat = false := by
        cases h : Nat.beq a.toNat b.toNat with
        | false => rfl
        | true => exact absurd (UInt8.toNat_inj.1 (Nat.eq_of_beq_eq_true h)) e
      rw [this]
      simp [e]
theorem by_eq {a b : ByteArray} : (a.data.toList = b.data.toList) ↔ a = b := by
  constructor
  · intro h
    obtain ⟨x⟩ := a
    obtain ⟨y⟩ := b
    rw [show x = y from Array.toList_inj.1 h]
  · rintro rfl; rfl
theorem binA_sound {cf : Cfg} (C : CfgOk P cf) {M : Mu} (hfn : ∀ {b r r'}, M.m b r → M.m b r' → r = r') (hs : cf.sy M.s) {w : World} {op : BinOp} {t : TypeId} {ox oy : Operand} {x y x' y' v : Value} (hx : VR M x x') (hy : VR M y y') (h : binA x y cf op t = some v) :
    ∃ v', (do eqGuard op t ox oy x' y'; binOp op t x' y' : Sem Value).run P w = .ok v' w ∧ VR M v v' := by
  unfold binA at h
  split at h
  · cases hx.int_inv
    cases hy.int_inv
    refine ⟨v, eqG (eqGuard_int ..) (binI_sound h), ?_⟩
    have : ∀ {k k' : IntKind} {a b : Int}, binI op k k' a b = some v → VR M v v := by
      intro k k' a b h
      have hi : ∀ {v : Value} {k : IntKind} {a b : Int}, intB op k a b = some v → VR M v v := by
        intro v k a b h
        cases op <;> simp only [intB] at h <;> first
          | (cases h; done)
          | (simp only [Option.some.injEq] at h; subst h; first | exact .int _ _ | exact .bool _)
          | (split at h; · cases h
             · simp only [Option.some.injEq] at h; subst h; exact .int _ _)
      by_cases h1 : op = .shl
      · subst h1
        have h : shB .shl k a b = some v := h
        unfold shB at h
        split at h
        · cases h
        · simp only [Option.some.injEq] at h; subst h; exact .int _ _
      · by_cases h2 : op = .shr
        · subst h2
          have h : shB .shr k a b = some v := h
          unfold shB at h
          split at h
          · cases h
          · simp only [Option.some.injEq] at h; subst h; exact .int _ _
        · have h3 : (if k = k' then intB op k a b else none) = some v := by cases op <;> first | exact h | exact absurd rfl h1 | exact absurd rfl h2
          split at h3
          · exact hi h3
          · cases h3
    exact this h
  · rename_i a b
    obtain ⟨r, h1, h2⟩ := nilB_some h
    unfold eqBo at h1
    split at h1
    case h_2 => cases h1
    rename_i hk
    simp only [Option.some.injEq, Value.bool.injEq] at h1
    subst h1
    cases hx.bool_inv
    cases hy.bool_inv
    refine ⟨v, bin_of_equal h2 (by cases op <;> simp [eqGuard]) ⟨by simp [binOp], by simp [binOp]⟩ (run_equal_bool w t a b (C.kd hk)), by rcases h2 with ⟨_, rfl⟩ | ⟨_, rfl⟩ <;> exact .bool _⟩
  · rename_i a b
    obtain ⟨r, h1, h2⟩ := nilB_some h
    obtain ⟨a', rfl, ha⟩ := hx.pointer_inv
    obtain ⟨b', rfl, hb⟩ := hy.pointer_inv
    unfold eqPtr at h1
    split at h1
    case h_2 => cases h1
    rename_i e hk
    have hu : P.underlying t = some (.pointer e) := C.kd hk
    have fin : (Op.equal t (.pointer a') (.pointer b')).run P w = .ok r w := by
      split at h1
      · simp only [Option.some.injEq, Value.bool.injEq] at h1
        subst h1
        rw [← hb, isNone_none ha]
        exact eq_ptr1 9999 hu b'
      · simp only [Option.some.injEq, Value.bool.injEq] at h1
        subst h1
        obtain ⟨x, rfl⟩ := isNone_some ha
        rw [isNone_none hb]
        exact eq_ptr2 9999 hu x
      · rename_i b1 o1 b2 o2
        cases hc : (Nat.beq b1 b2 && Nat.blt 0 (sizeA cf e)) with
        | false => rw [hc] at h1; cases h1
        | true =>
          rw [hc] at h1
          simp only [cond, Option.some.injEq, Value.bool.injEq] at h1
          subst h1
          simp only [Bool.and_eq_true] at hc
          have e1 := Nat.eq_of_beq_eq_true hc.1
          subst e1
          have hsz := Nat.blt_eq.mp hc.2
          unfold sizeA at hsz
          split at hsz
          case h_2 => omega
          rename_i te hte
          cases hx with
          | ptr _ h1' =>
          cases hy with
          | ptr _ h2' =>
          cases hfn h1' h2'
          exact eq_ptr3 9999 hu (fun w => (C.ty hte).sizeOf w) (by omega) _ o1 o2
      · cases h1
    refine ⟨v, bin_of_equal h2 (by cases op <;> simp [eqGuard]) ⟨by simp [binOp], by simp [binOp]⟩ fin, by rcases h2 with ⟨_, rfl⟩ | ⟨_, rfl⟩ <;> exact .bool _⟩
  · rename_i a b
    cases hx
    cases hy
    have hb : (a.toList == b.toList) = sameBy a.data.toList b.data.toList := by
      rw [ByteArray.toList_eq, ByteArray.toList_eq, sameBy_eq, Bool.eq_iff_iff, beq_iff_eq, decide_eq_true_eq]
    cases op with
    | eql =>
      have h : some (Value.bool (sameBy a.data.toList b.data.toList)) = some v := h
      simp only [Option.some.injEq] at h
      subst h
      exact ⟨_, eqG (by simp [eqGuard]) (by rw [binOp_string_eql, hb]; simp), .bool _⟩
    | neq =>
      have h : some (Value.bool (!sameBy a.data.toList b.data.toList)) = some v := h
      simp only [Option.some.injEq] at h
      subst h
      exact ⟨_, eqG (by simp [eqGuard]) (by rw [binOp_string_neq, hb]; simp), .bool _⟩
    | _ => cases h
  · rename_i a _ _ b _ _
    obtain ⟨r, h1, h2⟩ := nilB_some h
    obtain ⟨a', ca, rfl, ha⟩ := hx.slice_inv
    obtain ⟨b', cb, rfl, hb⟩ := hy.slice_inv
    unfold eqSl at h1
    split at h1
    case h_2 => cases h1
    rename_i e hk
    have hu : P.underlying t = some (.slice e) := C.kd hk
    have fin : ∀ n m, (Op.equal t (.slice a' n ca) (.slice b' m cb)).run P w = .ok r w := by
      intro n m
      split at h1
      · simp only [Option.some.injEq, Value.bool.injEq] at h1
        subst h1
        rw [← hb, isNone_none ha]
        exact eq_sl1 9999 hu b' _ _ _ _
      · simp only [Option.some.injEq, Value.bool.injEq] at h1
        subst h1
        obtain ⟨x, rfl⟩ := isNone_some ha
        rw [isNone_none hb]
        exact eq_sl2 9999 hu x _ _ _ _
      · cases h1
    refine ⟨v, bin_of_equal h2 (by cases op <;> simp [eqGuard]) ⟨by simp [binOp], by simp [binOp]⟩ (fin _ _), by rcases h2 with ⟨_, rfl⟩ | ⟨_, rfl⟩ <;> exact .bool _⟩
  · rename_i xs ys
    obtain ⟨r, h1, h2⟩ := nilB_some h
    obtain ⟨xs', rfl, hxs⟩ := hx.agg_inv
    obtain ⟨ys', rfl, hys⟩ := hy.agg_inv
    unfold eqAg at h1
    split at h1
    case h_2 => cases h1
    rename_i fs hk
    simp only [Option.map_eq_some_iff, Value.bool.injEq] at h1
    obtain ⟨b, h3, rfl⟩ := h1
    obtain ⟨fields, h4, h5, h6, h7, h8⟩ := C.kd hk
    have fin : (Op.equal t (.agg xs') (.agg ys')).run P w = .ok b w := by
      show (Op.equalIn (9999 + 1) t (.agg xs') (.agg ys')).run P w = _
      rw [run_equalIn_struct w 9999 t xs' ys' (und_struct h4) h7, fieldsOf_eq h4]
      exact (eq_sound C 40).2 9999 (by omega) h5 (fun g hg => (h6 g hg).2) h3 hxs hys
    refine ⟨v, bin_of_equal h2 (run_eqGuard_agg w op t ox oy xs' ys' h8) ⟨by simp [binOp], by simp [binOp]⟩ fin, by rcases h2 with ⟨_, rfl⟩ | ⟨_, rfl⟩ <;> exact .bool _⟩
  · obtain ⟨r, h1, h2⟩ := nilB_some h
    cases hx
    cases hy
    unfold eqFn at h1
    split at h1
    case h_2 => cases h1
    rename_i hk
    simp only [Option.some.injEq, Value.bool.injEq] at h1
    subst h1
    obtain ⟨_, _, _, hu⟩ := C.kd hk
    refine ⟨v, bin_of_equal (b := true) h2 (by cases op <;> simp [eqGuard]) ⟨by simp [binOp], by simp [binOp]⟩ (by exact eq_fn1 9999 hu), by rcases h2 with ⟨_, rfl⟩ | ⟨_, rfl⟩ <;> exact .bool _⟩
  · obtain ⟨r, h1, h2⟩ := nilB_some h
    cases hx
    obtain ⟨f', a', c', rfl, _⟩ := hy.fn_inv
    unfold eqFn at h1
    split at h1
    case h_2 => cases h1
    rename_i hk
    simp only [Option.some.injEq, Value.bool.injEq] at h1
    subst h1
    obtain ⟨_, _, _, hu⟩ := C.kd hk
    refine ⟨v, bin_of_equal (b := false) h2 (by cases op <;> simp [eqGuard]) ⟨by simp [binOp], by simp [binOp]⟩ (by exact eq_fn2 9999 hu _ _ _), by rcases h2 with ⟨_, rfl⟩ | ⟨_, rfl⟩ <;> exact .bool _⟩
  · obtain ⟨r, h1, h2⟩ := nilB_some h
    cases hy
    obtain ⟨f', a', c', rfl, _⟩ := hx.fn_inv
    unfold eqFn at h1
    split at h1
    case h_2 => cases h1
    rename_i hk
    simp only [Option.some.injEq, Value.bool.injEq] at h1
    subst h1
    obtain ⟨_, _, _, hu⟩ := C.kd hk
    refine ⟨v, bin_of_equal (b := false) h2 (by cases op <;> simp [eqGuard]) ⟨by simp [binOp], by simp [binOp]⟩ (by exact eq_fn3 9999 hu _ _ _), by rcases h2 with ⟨_, rfl⟩ | ⟨_, rfl⟩ <;> exact .bool _⟩
  · obtain ⟨h1, h2⟩ := C.orc hs h hx hy
    exact ⟨v, h2 w, plain_VR M h1⟩
  · obtain ⟨h1, h2⟩ := C.orc hs h hx hy
    exact ⟨v, h2 w, plain_VR M h1⟩
  · cases h
theorem unA_sound {M : Mu} {w : World} {op : UnOp} {x x' v : Value} (hx : VR M x x') (h : unA op x = some v) : ∃ v', (Op.unary op x').run P w = .ok v' w ∧ VR M v v' := by
  unfold unA at h
  split at h
  · simp only [Option.some.injEq] at h
    subst h
    cases hx.int_inv
    exact ⟨_, by simp [Op.unary, Op.intArith], .int _ _⟩
  · cases hx.int_inv
    have h : intB .xor _ _ _ = some v := h
    simp only [intB, Option.some.injEq] at h
    subst h
    exact ⟨_, by simp [Op.unary, Op.intBits], .int _ _⟩
  · simp only [Option.some.injEq] at h
    subst h
    cases hx.bool_inv
    exact ⟨_, by simp [Op.unary], .bool _⟩
  · cases h
end Go.Proofs.YtecfnddaniphdaaGreatDoor.AM
