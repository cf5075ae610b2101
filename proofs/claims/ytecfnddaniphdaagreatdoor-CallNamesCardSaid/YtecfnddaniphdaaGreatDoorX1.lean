/-
  The abstract machine: how its memory stands to a world's; plain lemmas.
-/
import Derived.Test.YtecfnddaniphdaaGreatDoorX0
import Derived.Tactics
import Derived.OwnWalk
import Derived.Deep.AppendSrc
import Derived.Deep.MidRow
import Derived.Laws.CopyRow
import Derived.MapKept
import Derived.RangeFuncRecord
set_option linter.unusedVariables false
set_option linter.unusedSimpArgs false
namespace Go.Proofs.YtecfnddaniphdaaGreatDoor.AM

namespace TR
variable {α : Type}
theorem get_nil (n : Nat) : (TR.nil : TR α).get n = none := rfl
theorem get_zero (l : TR α) (v : Option α) (r : TR α) : (TR.node l v r).get 0 = v := rfl
theorem get_succ (l : TR α) (v : Option α) (r : TR α) (k : Nat) : (TR.node l v r).get (k + 1) = cond (Nat.beq (Nat.mod k 2) 0) (l.get (Nat.div k 2)) (r.get (Nat.div k 2)) := by
  show (Bool.rec (motive := fun _ => Option α) (r.get (Nat.div k 2)) (l.get (Nat.div k 2)) (Nat.beq (Nat.mod k 2) 0)) = _
  cases Nat.beq (Nat.mod k 2) 0 <;> rfl
theorem set_node0 (f : Nat) (l : TR α) (x : Option α) (r : TR α) (v : Option α) : set (f + 1) (.node l x r) 0 v = .node l v r := rfl
theorem set_nil0 (f : Nat) (v : Option α) : set (f + 1) .nil 0 v = .node .nil v .nil := rfl
theorem set_nodeS (f : Nat) (l : TR α) (x : Option α) (r : TR α) (k : Nat) (v : Option α) :
    set (f + 1) (.node l x r) (k + 1) v = cond (Nat.beq (Nat.mod k 2) 0) (.node (set f l (Nat.div k 2) v) x r) (.node l x (set f r (Nat.div k 2) v)) := by
  show setB (Nat.beq (Nat.mod k 2) 0) (set f) l x r (Nat.div k 2) v = _
  cases Nat.beq (Nat.mod k 2) 0 <;> rfl
theorem set_nilS (f k : Nat) (v : Option α) :
    set (f + 1) .nil (k + 1) v = cond (Nat.beq (Nat.mod k 2) 0) (.node (set f .nil (Nat.div k 2) v) none .nil) (.node .nil none (set f .nil (Nat.div k 2) v)) := by
  show setB (Nat.beq (Nat.mod k 2) 0) (set f) .nil none .nil (Nat.div k 2) v = _
  cases Nat.beq (Nat.mod k 2) 0 <;> rfl
theorem get_none (t : TR α) (h : t = .nil) (n : Nat) : t.get n = none := by subst h; rfl
theorem get_set : ∀ (f : Nat) (t : TR α) (n m : Nat) (v : Option α), n + 2 ≤ 2 ^ f → (set f t n v).get m = if m = n then v else t.get m := by
  intro f
  induction f with
  | zero => intro t n m v h; simp at h
  | succ f ih =>
    have key : ∀ (l : TR α) (x : Option α) (r : TR α) (n m : Nat) (v : Option α), n + 2 ≤ 2 ^ (f + 1) → (set (f + 1) (.node l x r) n v).get m = if m = n then v else (TR.node l x r).get m := by
      intro l x r n m v h
      cases n with
      | zero =>
        rw [set_node0]
        cases m with
        | zero => rfl
        | succ k => rw [get_succ, get_succ]; simp
      | succ n =>
        have hf : Nat.div n 2 + 2 ≤ 2 ^ f := by rw [Nat.pow_succ] at h; have : Nat.div n 2 = n / 2 := rfl; omega
        rw [set_nodeS]
        cases hb : Nat.beq (Nat.mod n 2) 0 with
        | true =>
          have e0 : n % 2 = 0 := Nat.eq_of_beq_eq_true hb
          simp only [cond]
          cases m with
          | zero => rw [get_zero, get_zero]; simp
          | succ k =>
            rw [get_succ, get_succ, ih l _ _ v hf]
            cases hk : Nat.beq (Nat.mod k 2) 0 with
            | true =>
              have e1 : k % 2 = 0 := Nat.eq_of_beq_eq_true hk
              have : (Nat.div k 2 = Nat.div n 2) ↔ (k + 1 = n + 1) := by show (k / 2 = n / 2) ↔ _; omega
              simp only [cond, this]
            | false =>
              have e1 : k % 2 ≠ 0 := fun e => by have : Nat.mod k 2 = 0 := e; rw [this] at hk; cases hk
              have : ¬ (k + 1 = n + 1) := by omega
              simp only [cond, this, if_false]
        | false =>
          have e0 : n % 2 ≠ 0 := fun e => by have : Nat.mod n 2 = 0 := e; rw [this] at hb; cases hb
          simp only [cond]
          cases m with
          | zero => rw [get_zero, get_zero]; simp
          | succ k =>
            rw [get_succ, get_succ, ih r _ _ v hf]
            cases hk : Nat.beq (Nat.mod k 2) 0 with
            | true =>
              have e1 : k % 2 = 0 := Nat.eq_of_beq_eq_true hk
              have : ¬ (k + 1 = n + 1) := by omega
              simp only [cond, this, if_false]
            | false =>
              have e1 : k % 2 ≠ 0 := fun e => by have : Nat.mod k 2 = 0 := e; rw [this] at hk; cases hk
              have : (Nat.div k 2 = Nat.div n 2) ↔ (k + 1 = n + 1) := by show (k / 2 = n / 2) ↔ _; omega
              simp only [cond, this]
    intro t n m v h
    cases t with
    | node l x r => exact key l x r n m v h
    | nil =>
      have e : set (f + 1) .nil n v = set (f + 1) (.node .nil none .nil) n v := by
        cases n with
        | zero => rfl
        | succ n => rw [set_nilS, set_nodeS]
      rw [e, key .nil none .nil n m v h]
      cases m with
      | zero => rfl
      | succ k => rw [get_succ]; cases Nat.beq (Nat.mod k 2) 0 <;> rfl
theorem get_setS {t : TR α} {n m : Nat} {v : Option α} (h : small n = true) : (set FU t n v).get m = if m = n then v else t.get m :=
  get_set FU t n m v (by have := Nat.blt_eq.mp h; simp only [FU]; omega)
end TR

structure Mu where
  m : Nat → Nat → Prop
  c : Nat → Nat → Nat → Prop
  /-- what the unknown values are -/
  s : Nat → Value
/-- an unknown value's kind -/
def okSy (i : Nat) (v : Value) : Prop := (i < SYS ∧ ∃ n, v = .int .i64 n) ∨ (SYS ≤ i ∧ i < 2 * SYS ∧ ∃ s, v = .string s) ∨ (2 * SYS ≤ i ∧ Go.Proofs.YtecfnddaniphdaaGreatDoor.AM.one v = true)
theorem okSy.one {i : Nat} {v : Value} (h : okSy i v) : one v = true := by
  rcases h with ⟨_, n, rfl⟩ | ⟨_, _, s, rfl⟩ | ⟨_, h⟩
  · rfl
  · rfl
  · exact h
structure Mu.le (M M' : Mu) : Prop where
  m : ∀ {b r}, M.m b r → M'.m b r
  c : ∀ {b C z}, M.c b C z → M'.c b C z
  s : M'.s = M.s
theorem Mu.le.refl (M : Mu) : M.le M := ⟨fun h => h, fun h => h, rfl⟩
theorem Mu.le.trans {A B C : Mu} (h : A.le B) (k : B.le C) : A.le C := ⟨fun x => k.m (h.m x), fun x => k.c (h.c x), k.s.trans h.s⟩

inductive FnR (M : Mu) : Fn → Fn → Prop
  | func (f : FuncId) : FnR M (.func f) (.func f)
  | yield {l l' : Nat} (h : M.m l l') : FnR M (.yield l) (.yield l')
mutual
inductive VR (M : Mu) : Value → Value → Prop
  | bool (b : Bool) : VR M (.bool b) (.bool b)
  | int (k : IntKind) (n : Int) : VR M (.int k n) (.int k n)
  | string (s : ByteArray) : VR M (.string s) (.string s)
  | nilptr : VR M (.pointer none) (.pointer none)
  | ptr {b b' : Nat} (o : Nat) (h : M.m b b') : VR M (.pointer (some ⟨b, o, none⟩)) (.pointer (some ⟨b', o, none⟩))
  | nilslice (n c : Nat) : VR M (.slice none n c) (.slice none n c)
  | slice {b b' : Nat} (o n c : Nat) (h : M.m b b') (hc : c < UNK) : VR M (.slice (some ⟨b, o, none⟩) n c) (.slice (some ⟨b', o, none⟩) n c)
  | grown {b b' C z : Nat} (l n c : Nat) (h : M.m b b') (hc : M.c b C z) (hn : n ≤ c) (hC : l + c = C) : VR M (.slice (some ⟨b, l * z, none⟩) n UNK) (.slice (some ⟨b', l * z, none⟩) n c)
  | empty {b b' : Nat} (o o' c : Nat) (h : M.m b b') : VR M (.slice (some ⟨b, o, none⟩) 0 UNE) (.slice (some ⟨b', o', none⟩) 0 c)
  | nilmap : VR M (.map none) (.map none)
  | map {b b' : Nat} (h : M.m b b') : VR M (.map (some b)) (.map (some b'))
  | nilFunc : VR M .nilFunc .nilFunc
  | func {f f' : Fn} {a a' c c' : Array Value} (hf : FnR M f f') (ha : LR M a.toList a'.toList) (hc : LR M c.toList c'.toList) : VR M (.func f a c) (.func f' a' c')
  | agg {a a' : Array Value} (ha : LR M a.toList a'.toList) : VR M (.agg a) (.agg a')
  | tuple {a a' : Array Value} (ha : LR M a.toList a'.toList) : VR M (.tuple a) (.tuple a')
  | sym (i : Nat) {v : Value} (hv : M.s i = v) (h : okSy i v) : VR M (.chan (some i)) v
inductive LR (M : Mu) : List Value → List Value → Prop
  | nil : LR M [] []
  | cons {v v' : Value} {l l' : List Value} (h : VR M v v') (t : LR M l l') : LR M (v :: l) (v' :: l')
end
theorem FnR.mono {M M' : Mu} (hM : M.le M') {f f' : Fn} : FnR M f f' → FnR M' f f'
  | .func f => .func f
  | .yield h => .yield (hM.m h)
mutual
theorem VR.mono {M M' : Mu} (hM : M.le M') {v v' : Value} : VR M v v' → VR M' v v'
  | .bool b => .bool b
  | .int k n => .int k n
  | .string s => .string s
  | .nilptr => .nilptr
  | .ptr o h => .ptr o (hM.m h)
  | .nilslice n c => .nilslice n c
  | .slice o n c h hc => .slice o n c (hM.m h) hc
  | .grown l n c h hc hn hC => .grown l n c (hM.m h) (hM.c hc) hn hC
  | .empty o o' c h => .empty o o' c (hM.m h)
  | .nilmap => .nilmap
  | .map h => .map (hM.m h)
  | .nilFunc => .nilFunc
  | .func hf ha hc => .func (hf.mono hM) (ha.mono hM) (hc.mono hM)
  | .agg ha => .agg (ha.mono hM)
  | .tuple ha => .tuple (ha.mono hM)
  | .sym i hv h => .sym i (hM.s ▸ hv) h
theorem LR.mono {M M' : Mu} (hM : M.le M') {l l' : List Value} : LR M l l' → LR M' l l'
  | .nil => .nil
  | .cons h t => .cons (h.mono hM) (t.mono hM)
end
namespace LR
variable {M : Mu}
theorem length : ∀ {l l' : List Value}, LR M l l' → l.length = l'.length
  | _, _, .nil => rfl
  | _, _, .cons _ t => by simp [length t]
theorem get : ∀ {l l' : List Value} {i : Nat} {v : Value}, LR M l l' → l[i]? = some v → ∃ v', l'[i]? = some v' ∧ VR M v v'
  | _, _, i, v, .nil, h => by simp at h
  | _, _, 0, v, .cons hv _, h => by simp at h; subst h; exact ⟨_, rfl, hv⟩
  | _, _, i + 1, v, .cons _ t, h => by simpa using get t (by simpa using h)
theorem get' : ∀ {l l' : List Value} {i : Nat} {v' : Value}, LR M l l' → l'[i]? = some v' → ∃ v, l[i]? = some v ∧ VR M v v'
  | _, _, i, v, .nil, h => by simp at h
  | _, _, 0, v, .cons hv _, h => by simp at h; subst h; exact ⟨_, rfl, hv⟩
  | _, _, i + 1, v, .cons _ t, h => by simpa using get' t (by simpa using h)
theorem append : ∀ {a a' b b' : List Value}, LR M a a' → LR M b b' → LR M (a ++ b) (a' ++ b')
  | _, _, _, _, .nil, k => k
  | _, _, _, _, .cons hv t, k => .cons hv (append t k)
theorem take : ∀ {l l' : List Value} (n : Nat), LR M l l' → LR M (l.take n) (l'.take n)
  | _, _, 0, _ => by simp; exact .nil
  | _, _, n + 1, .nil => by simp; exact .nil
  | _, _, n + 1, .cons hv t => by simp only [List.take_succ_cons]; exact .cons hv (take n t)
theorem drop : ∀ {l l' : List Value} (n : Nat), LR M l l' → LR M (l.drop n) (l'.drop n)
  | _, _, 0, h => by simpa using h
  | _, _, n + 1, .nil => by simp; exact .nil
  | _, _, n + 1, .cons hv t => by simp only [List.drop_succ_cons]; exact drop n t
theorem of_get : ∀ {l l' : List Value}, l.length = l'.length → (∀ (i : Nat) (v v' : Value), l[i]? = some v → l'[i]? = some v' → VR M v v') → LR M l l'
  | [], [], _, _ => .nil
  | v :: l, v' :: l', hl, h => .cons (h 0 v v' rfl rfl) (of_get (by simpa using hl) fun i a b ha hb => h (i + 1) a b (by simpa using ha) (by simpa using hb))
theorem one_ : ∀ {l l' : List Value}, LR M l l' → l.all one = l'.all one
  | _, _, .nil => rfl
  | _, _, .cons hv t => by
    simp only [List.all_cons, one_ t]
    cases hv with
    | sym i hv h => rw [h.one]; rfl
    | _ => rfl
end LR
theorem VR.undef (M : Mu) : VR M undef undef := .tuple .nil
theorem scal_VR (M : Mu) {v : Value} (h : scal v = true) : VR M v v := by
  cases v with
  | bool b => exact .bool b
  | int k n => exact .int k n
  | string s => exact .string s
  | pointer a => cases a with
    | none => exact .nilptr
    | some a => cases h
  | map a => cases a with
    | none => exact .nilmap
    | some a => cases h
  | slice a n c => cases a with
    | none => exact .nilslice n c
    | some a => cases h
  | nilFunc => exact .nilFunc
  | _ => cases h
theorem scals_LR (M : Mu) : ∀ {l : List Value}, l.all scal = true → LR M l l
  | [], _ => .nil
  | v :: l, h => by
    simp only [List.all_cons, Bool.and_eq_true] at h
    exact .cons (scal_VR M h.1) (scals_LR M h.2)
theorem plain_VR (M : Mu) {v : Value} (h : plain v = true) : VR M v v := by
  cases v with
  | agg cs => exact .agg (scals_LR M h)
  | tuple cs => exact .tuple (scals_LR M h)
  | _ => exact scal_VR M h
theorem VR.cells {M : Mu} {v v' : Value} (h : VR M v v') : LR M v.cells.toList v'.cells.toList := by
  cases h with
  | agg ha => exact ha
  | bool b => exact .cons (.bool b) .nil
  | int k n => exact .cons (.int k n) .nil
  | string s => exact .cons (.string s) .nil
  | nilptr => exact .cons .nilptr .nil
  | ptr o h => exact .cons (.ptr o h) .nil
  | nilslice n c => exact .cons (.nilslice n c) .nil
  | slice o n c h hc => exact .cons (.slice o n c h hc) .nil
  | grown l n c h hc hn hC => exact .cons (.grown l n c h hc hn hC) .nil
  | empty o o' c h => exact .cons (.empty o o' c h) .nil
  | nilmap => exact .cons .nilmap .nil
  | map h => exact .cons (.map h) .nil
  | nilFunc => exact .cons .nilFunc .nil
  | func hf ha hc => exact .cons (.func hf ha hc) .nil
  | tuple ha => exact .cons (.tuple ha) .nil
  | sym i hv h =>
    have e : v'.cells = #[v'] := by have h1 := h.one; cases v' <;> first | rfl | cases h1
    rw [e]
    exact .cons (.sym i hv h) .nil

/-- temporaries -/
def TRR (M : Mu) (T : TR Value) (a : Array Value) : Prop := ∀ t v, T.get t = some v → VR M v (a.getD t undef)
theorem TRR.mono {M M' : Mu} (hM : M.le M') {T : TR Value} {a : Array Value} (h : TRR M T a) : TRR M' T a := fun t v hv => (h t v hv).mono hM

/-- a block of a world as the abstract one says -/
def OR (M : Mu) (b : Nat) : AObj → Obj → Prop
  | .cells c none, .cells c' e f => f = (0, 0) ∧ LR M c (c'.toList.take c.length)
  | .cells c (some z), .cells c' e f => f = (0, 0) ∧ LR M c (c'.toList.take c.length) ∧ 0 < z ∧ ∃ C, M.c b C z ∧ c'.size = C * z
  | .map es, .map es' _ => LR M (es.map (·.1)) (es'.toList.map (·.key)) ∧ LR M (es.map (·.2)) (es'.toList.map (·.val))
  | .loop L, .loop L' => L'.state = L.st ∧ L'.pending = L.pend ∧ TRR M L.tmps L'.tmps ∧ L'.tmps.size = L.sz ∧ L'.params.toList = L.params ∧ L'.assign = L.assign ∧ L'.body = L.body ∧ M.m L.defers L'.defers
  | .deferred, .deferred (some []) => True
  | _, _ => False
theorem OR.mono {M M' : Mu} (hM : M.le M') {b : Nat} {o : AObj} {o' : Obj} (h : OR M b o o') : OR M' b o o' := by
  cases o with
  | cells c g => cases g with
    | none => cases o' <;> first | exact h.elim | exact ⟨h.1, h.2.mono hM⟩
    | some z => cases o' <;> first | exact h.elim | exact ⟨h.1, h.2.1.mono hM, h.2.2.1, let ⟨C, h1, h2⟩ := h.2.2.2; ⟨C, hM.c h1, h2⟩⟩
  | map es => cases o' <;> first | exact h.elim | exact ⟨h.1.mono hM, h.2.mono hM⟩
  | loop L => cases o' <;> first | exact h.elim | exact ⟨h.1, h.2.1, h.2.2.1.mono hM, h.2.2.2.1, h.2.2.2.2.1, h.2.2.2.2.2.1, h.2.2.2.2.2.2.1, hM.m h.2.2.2.2.2.2.2⟩
  | deferred => cases o' with
    | deferred cs => cases cs with
      | none => exact h.elim
      | some l => cases l <;> exact h
    | _ => exact h.elim

/-- memory -/
structure HR (M : Mu) (h : TR AObj) (w : World) : Prop where
  fn : ∀ {b r r'}, M.m b r → M.m b r' → r = r'
  fc : ∀ {b C z C' z'}, M.c b C z → M.c b C' z' → C = C' ∧ z = z'
  lt : ∀ {b r}, M.m b r → r < w.heap.size
  inj : ∀ {b b' r}, M.m b r → M.m b' r → (h.get b).isSome = true → (h.get b').isSome = true → b = b'
  ob : ∀ {b o}, h.get b = some o → ∃ r o', M.m b r ∧ w.heap[r]? = some o' ∧ OR M b o o'
theorem HR.at_ {M : Mu} {h : TR AObj} {w : World} (H : HR M h w) {b r : Nat} {o : AObj} (hb : h.get b = some o) (hr : M.m b r) : ∃ o', w.heap[r]? = some o' ∧ OR M b o o' := by
  obtain ⟨r', o', h1, h2, h3⟩ := H.ob hb
  cases H.fn hr h1
  exact ⟨o', h2, h3⟩
/-- less memory -/
theorem HR.sub {M : Mu} {h h' : TR AObj} {w : World} (H : HR M h w) (k : ∀ b o, h'.get b = some o → h.get b = some o) : HR M h' w :=
  ⟨H.fn, H.fc, H.lt, fun h1 h2 h3 h4 => by
    obtain ⟨o, ho⟩ := Option.isSome_iff_exists.1 h3
    obtain ⟨o', ho'⟩ := Option.isSome_iff_exists.1 h4
    exact H.inj h1 h2 (by rw [k _ _ ho]; rfl) (by rw [k _ _ ho']; rfl), fun hb => H.ob (k _ _ hb)⟩

/-- what became of a world: T are the blocks that were touched -/
structure Ext (M : Mu) (w : World) (n : Nat) (T : List Nat) (M' : Mu) (w' : World) (n' : Nat) : Prop where
  le : M.le M'
  nn : n ≤ n'
  new : ∀ {b r}, M'.m b r → M.m b r ∨ (n ≤ b ∧ b < n' ∧ (w.heap.size ≤ r ∨ ∃ b0 ∈ T, M.m b0 r))
  newc : ∀ {b C z}, M'.c b C z → M.c b C z ∨ (n ≤ b ∧ b < n')
  os : w'.os = w.os
  tape : w'.tape = w.tape
  output : w'.output = w.output
  size : w.heap.size ≤ w'.heap.size
  blk : ∀ {r}, r < w.heap.size → (∀ b ∈ T, ¬ M.m b r) → w'.heap[r]? = w.heap[r]?
theorem Ext.refl (M : Mu) (w : World) (n : Nat) (T : List Nat) : Ext M w n T M w n :=
  ⟨.refl M, Nat.le_refl _, fun h => .inl h, fun h => .inl h, rfl, rfl, rfl, Nat.le_refl _, fun _ _ => rfl⟩
theorem Ext.trans {M M1 M2 : Mu} {w w1 w2 : World} {n n1 n2 : Nat} {T1 T2 T : List Nat} (h : Ext M w n T1 M1 w1 n1) (k : Ext M1 w1 n1 T2 M2 w2 n2)
    (s1 : ∀ b ∈ T1, b ∈ T) (s2 : ∀ b ∈ T2, b ∈ T) : Ext M w n T M2 w2 n2 := by
  have key : ∀ {b r}, M1.m b r → b ∈ T2 → r < w.heap.size → ∃ b0 ∈ T, M.m b0 r := by
    intro b r hb hT hr
    rcases h.new hb with h1 | ⟨_, _, h1 | ⟨b0, h0, h1⟩⟩
    · exact ⟨b, s2 _ hT, h1⟩
    · omega
    · exact ⟨b0, s1 _ h0, h1⟩
  refine ⟨h.le.trans k.le, Nat.le_trans h.nn k.nn, fun {b r} hb => ?_, fun {b C z} hb => ?_, k.os.trans h.os, k.tape.trans h.tape, k.output.trans h.output, Nat.le_trans h.size k.size, fun {r} hr hT => ?_⟩
  · rcases k.new hb with h1 | ⟨h1, h2, h3⟩
    · rcases h.new h1 with h4 | ⟨h4, h5, h6⟩
      · exact .inl h4
      · refine .inr ⟨h4, by have := k.nn; omega, ?_⟩
        rcases h6 with h6 | ⟨b0, h7, h8⟩
        · exact .inl h6
        · exact .inr ⟨b0, s1 _ h7, h8⟩
    · refine .inr ⟨by have := h.nn; omega, h2, ?_⟩
      rcases h3 with h3 | ⟨b0, h3, h4⟩
      · exact .inl (by have := h.size; omega)
      · by_cases hr : r < w.heap.size
        · exact .inr (key h4 h3 hr)
        · exact .inl (by omega)
  · rcases k.newc hb with h1 | ⟨h1, h2⟩
    · rcases h.newc h1 with h4 | ⟨h4, h5⟩
      · exact .inl h4
      · exact .inr ⟨h4, by have := k.nn; omega⟩
    · exact .inr ⟨by have := h.nn; omega, h2⟩
  · rw [k.blk (by have := h.size; omega) fun b hb hm => ?_, h.blk hr fun b hb hm => hT b (s1 _ hb) hm]
    obtain ⟨b0, h0, h1⟩ := key hm hb hr
    exact hT b0 h0 h1
theorem Ext.wide {M M' : Mu} {w w' : World} {n n' : Nat} {T T' : List Nat} (h : Ext M w n T M' w' n') (s : ∀ b ∈ T, b ∈ T') : Ext M w n T' M' w' n' :=
  h.trans (Ext.refl M' w' n' []) s (by simp)
/-- numbers that are not given -/
def Fresh (M : Mu) (n n' : Nat) : Prop := (∀ {b r}, M.m b r → b < n ∨ n' ≤ b) ∧ (∀ {b C z}, M.c b C z → b < n ∨ n' ≤ b)
theorem Fresh.first {M : Mu} {n n1 n2 : Nat} (h : Fresh M n n2) (k : n1 ≤ n2) : Fresh M n n1 :=
  ⟨fun hb => (h.1 hb).imp id (Nat.le_trans k), fun hb => (h.2 hb).imp id (Nat.le_trans k)⟩
theorem Fresh.then {M M1 : Mu} {w w1 : World} {T : List Nat} {n n1 n2 : Nat} (h : Fresh M n n2) (k : Ext M w n T M1 w1 n1) : Fresh M1 n1 n2 :=
  ⟨fun hb => by
    rcases k.new hb with h1 | ⟨_, h1, _⟩
    · exact (h.1 h1).imp (fun h => Nat.lt_of_lt_of_le h k.nn) id
    · exact .inl h1,
   fun hb => by
    rcases k.newc hb with h1 | ⟨_, h1⟩
    · exact (h.2 h1).imp (fun h => Nat.lt_of_lt_of_le h k.nn) id
    · exact .inl h1⟩
/-- what became of the abstract memory -/
structure Sx (s s' : St) : Prop where
  n : s.n ≤ s'.n
  t : ∀ b ∈ s.t, b ∈ s'.t
  h : ∀ {b}, b ∉ s'.t → s'.h.get b = s.h.get b
theorem Sx.refl (s : St) : Sx s s := ⟨Nat.le_refl _, fun _ h => h, fun _ => rfl⟩
theorem Sx.trans {a b c : St} (h : Sx a b) (k : Sx b c) : Sx a c :=
  ⟨Nat.le_trans h.n k.n, fun x hx => k.t x (h.t x hx), fun hx => (k.h hx).trans (h.h fun e => hx (k.t _ e))⟩
/-- what is alive has a number that was given -/
def Li (s : St) : Prop := ∀ {b : Nat}, (s.h.get b).isSome = true → b < s.n ∧ small b = true
structure Good (M : Mu) (s : St) (w : World) (v : Value) (s' : St) (M' : Mu) (v' : Value) (w' : World) : Prop where
  vr : VR M' v v'
  hr : HR M' s'.h w'
  li : Li s'
  ext : Ext M w s.n s'.t M' w' s'.n
  sx : Sx s s'
theorem Good.same {M : Mu} {s : St} {w : World} {v v' : Value} (H : HR M s.h w) (L : Li s) (h : VR M v v') : Good M s w v s M v' w :=
  ⟨h, H, L, Ext.refl _ _ _ _, Sx.refl s⟩

/-! ### One block changes; a new one -/
structure Wr (w w' : World) (r : Nat) (O : Obj) : Prop where
  os : w'.os = w.os
  tape : w'.tape = w.tape
  output : w'.output = w.output
  size : w'.heap.size = w.heap.size
  at_ : w'.heap[r]? = some O
  other : ∀ {k}, k ≠ r → w'.heap[k]? = w.heap[k]?
structure Nw (w w' : World) (O : Obj) : Prop where
  os : w'.os = w.os
  tape : w'.tape = w.tape
  output : w'.output = w.output
  size : w'.heap.size = w.heap.size + 1
  at_ : w'.heap[w.heap.size]? = some O
  other : ∀ {k}, k < w.heap.size → w'.heap[k]? = w.heap[k]?
theorem Nw.alloc (w : World) (O : Obj) : Nw w (w.alloc O) O :=
  ⟨rfl, rfl, rfl, by show (w.heap.push O).size = _; simp, by show (w.heap.push O)[w.heap.size]? = _; simp, fun {k} h => by show (w.heap.push O)[k]? = _; rw [Array.getElem?_push, if_neg (by omega)]⟩
def Mu.add (M : Mu) (n r : Nat) (cc : Option (Nat × Nat)) : Mu :=
  ⟨fun b x => M.m b x ∨ (b = n ∧ x = r), fun b C z => M.c b C z ∨ (b = n ∧ cc = some (C, z)), M.s⟩
theorem Mu.le_add (M : Mu) (n r : Nat) (cc : Option (Nat × Nat)) : M.le (M.add n r cc) := ⟨fun h => .inl h, fun h => .inl h, rfl⟩
theorem Mu.add_m (M : Mu) (n r : Nat) (cc : Option (Nat × Nat)) : (M.add n r cc).m n r := .inr ⟨rfl, rfl⟩
theorem put_get {s : St} {b x : Nat} {o : AObj} (h : small b = true) : (s.put b o).h.get x = if x = b then some o else s.h.get x := TR.get_setS h
theorem new_get {s : St} {x : Nat} {o : AObj} (h : small s.n = true) : (s.new o).h.get x = if x = s.n then some o else s.h.get x := TR.get_setS h
theorem kill_get {s : St} {b x : Nat} (h : small b = true) : (s.kill b).h.get x = if x = b then none else s.h.get x := TR.get_setS h
theorem put_sound {M : Mu} {s : St} {w w' : World} {b r : Nat} {o o' : AObj} {O : Obj} (H : HR M s.h w) (L : Li s) (hb : s.h.get b = some o) (hr : M.m b r) (W : Wr w w' r O) (ho : OR M b o' O) :
    HR M (s.put b o').h w' ∧ Ext M w s.n (s.put b o').t M w' (s.put b o').n ∧ Sx s (s.put b o') ∧ Li (s.put b o') := by
  have hsm := (L (b := b) (by rw [hb]; rfl))
  refine ⟨⟨H.fn, H.fc, fun h => by rw [W.size]; exact H.lt h, fun {x y k} h1 h2 h3 h4 => ?_, fun {x ob} hx => ?_⟩, ⟨.refl M, Nat.le_refl _, fun h => .inl h, fun h => .inl h, W.os, W.tape, W.output, by rw [W.size]; exact Nat.le_refl _, fun {k} hk hT => ?_⟩, ⟨Nat.le_refl _, fun x hx => List.mem_cons_of_mem _ hx, fun {x} hx => ?_⟩, fun {x} hx => ?_⟩
  · have al : ∀ {x}, ((s.put b o').h.get x).isSome = true → (s.h.get x).isSome = true := by
      intro x hx
      rw [put_get hsm.2] at hx
      by_cases e : x = b
      · rw [e, hb]; rfl
      · rwa [if_neg e] at hx
    exact H.inj h1 h2 (al h3) (al h4)
  · rw [put_get hsm.2] at hx
    by_cases e : x = b
    · subst e
      rw [if_pos rfl] at hx
      cases hx
      exact ⟨r, O, hr, W.at_, ho⟩
    · rw [if_neg e] at hx
      obtain ⟨r', O', h1, h2, h3⟩ := H.ob hx
      refine ⟨r', O', h1, ?_, h3⟩
      rw [W.other, h2]
      intro e'
      subst e'
      exact e (H.inj h1 hr (by rw [hx]; rfl) (by rw [hb]; rfl))
  · exact W.other fun e => hT b (by simp [St.put]) (e ▸ hr)
  · rw [put_get hsm.2, if_neg]
    intro e
    subst e
    exact hx (by simp [St.put])
  · rw [put_get hsm.2] at hx
    by_cases e : x = b
    · subst e; exact hsm
    · rw [if_neg e] at hx; exact L hx
theorem new_sound {M : Mu} {s : St} {w w' : World} {o : AObj} {O : Obj} (cc : Option (Nat × Nat)) (H : HR M s.h w) (L : Li s) (F : Fresh M s.n (s.n + 1)) (hsm : small s.n = true) (W : Nw w w' O) (ho : OR (M.add s.n w.heap.size cc) s.n o O) :
    HR (M.add s.n w.heap.size cc) (s.new o).h w' ∧ Ext M w s.n (s.new o).t (M.add s.n w.heap.size cc) w' (s.new o).n ∧ Sx s (s.new o) ∧ Li (s.new o) := by
  have fr : ∀ {x}, ¬ M.m s.n x := fun h => by have := F.1 h; omega
  have frc : ∀ {C z}, ¬ M.c s.n C z := fun h => by have := F.2 h; omega
  have dead : (s.h.get s.n).isSome = true → False := fun h => by have := (L h).1; omega
  refine ⟨⟨fun {b x y} h1 h2 => ?_, fun {b C z C' z'} h1 h2 => ?_, fun {b x} h => ?_, fun {x y k} h1 h2 h3 h4 => ?_, fun {x ob} hx => ?_⟩, ⟨Mu.le_add _ _ _ _, Nat.le_succ _, fun {b x} h => ?_, fun {b C z} h => ?_, W.os, W.tape, W.output, by rw [W.size]; omega, fun {k} hk _ => W.other hk⟩, ⟨Nat.le_succ _, fun x hx => List.mem_cons_of_mem _ hx, fun {x} hx => ?_⟩, fun {x} hx => ?_⟩
  · rcases h1 with h1 | ⟨rfl, rfl⟩ <;> rcases h2 with h2 | ⟨e, rfl⟩
    · exact H.fn h1 h2
    · subst e; exact (fr h1).elim
    · exact (fr h2).elim
    · rfl
  · rcases h1 with h1 | ⟨rfl, e1⟩ <;> rcases h2 with h2 | ⟨e, e2⟩
    · exact H.fc h1 h2
    · subst e; exact (frc h1).elim
    · exact (frc h2).elim
    · rw [e1] at e2; cases e2; exact ⟨rfl, rfl⟩
  · rw [W.size]
    rcases h with h | ⟨_, rfl⟩
    · have := H.lt h; omega
    · omega
  · rw [new_get hsm] at h3 h4
    have al : ∀ {x k}, M.m x k → (if x = s.n then some o else s.h.get x).isSome = true → (s.h.get x).isSome = true := by
      intro x k hm hx
      by_cases e : x = s.n
      · subst e; exact (fr hm).elim
      · rwa [if_neg e] at hx
    rcases h1 with h1 | ⟨rfl, e1⟩ <;> rcases h2 with h2 | ⟨e, e2⟩
    · exact H.inj h1 h2 (al h1 h3) (al h2 h4)
    · have := H.lt h1; omega
    · have := H.lt h2; omega
    · exact e.symm
  · rw [new_get hsm] at hx
    by_cases e : x = s.n
    · subst e
      rw [if_pos rfl] at hx
      cases hx
      exact ⟨w.heap.size, O, .inr ⟨rfl, rfl⟩, W.at_, ho⟩
    · rw [if_neg e] at hx
      obtain ⟨r', O', h1, h2, h3⟩ := H.ob hx
      exact ⟨r', O', .inl h1, by rw [W.other (H.lt h1)]; exact h2, h3.mono (Mu.le_add _ _ _ _)⟩
  · rcases h with h | ⟨rfl, rfl⟩
    · exact .inl h
    · exact .inr ⟨Nat.le_refl _, by simp [St.new], .inl (Nat.le_refl _)⟩
  · rcases h with h | ⟨rfl, _⟩
    · exact .inl h
    · exact .inr ⟨Nat.le_refl _, by simp [St.new]⟩
  · rw [new_get hsm, if_neg]
    intro e
    subst e
    exact hx (by simp [St.new])
  · rw [new_get hsm] at hx
    by_cases e : x = s.n
    · subst e; exact ⟨by simp [St.new], hsm⟩
    · rw [if_neg e] at hx
      have := L hx
      exact ⟨by simp only [St.new]; omega, this.2⟩
/-- a block goes on under another number -/
theorem moved_sound {M : Mu} {s : St} {w w' : World} {b r : Nat} {o o' : AObj} {O : Obj} (cc : Option (Nat × Nat)) (H : HR M s.h w) (L : Li s) (F : Fresh M s.n (s.n + 1)) (hsm : small s.n = true) (hb : s.h.get b = some o) (hr : M.m b r)
    (W : Wr w w' r O) (ho : OR (M.add s.n r cc) s.n o' O) :
    HR (M.add s.n r cc) ((s.kill b).new o').h w' ∧ Ext M w s.n ((s.kill b).new o').t (M.add s.n r cc) w' ((s.kill b).new o').n ∧ Sx s ((s.kill b).new o') ∧ Li ((s.kill b).new o') := by
  have hsb := (L (b := b) (by rw [hb]; rfl))
  have fr : ∀ {x}, ¬ M.m s.n x := fun h => by have := F.1 h; omega
  have frc : ∀ {C z}, ¬ M.c s.n C z := fun h => by have := F.2 h; omega
  have gt : ∀ x, ((s.kill b).new o').h.get x = if x = s.n then some o' else if x = b then none else s.h.get x := by
    intro x
    rw [new_get (s := s.kill b) hsm, kill_get hsb.2]; rfl
  refine ⟨⟨fun {b x y} h1 h2 => ?_, fun {b C z C' z'} h1 h2 => ?_, fun {b x} h => ?_, fun {x y k} h1 h2 h3 h4 => ?_, fun {x ob} hx => ?_⟩, ⟨Mu.le_add _ _ _ _, Nat.le_succ _, fun {b x} h => ?_, fun {b C z} h => ?_, W.os, W.tape, W.output, by rw [W.size]; exact Nat.le_refl _, fun {k} hk hT => ?_⟩, ⟨Nat.le_succ _, fun x hx => List.mem_cons_of_mem _ (List.mem_cons_of_mem _ hx), fun {x} hx => ?_⟩, fun {x} hx => ?_⟩
  · rcases h1 with h1 | ⟨rfl, rfl⟩ <;> rcases h2 with h2 | ⟨e, rfl⟩
    · exact H.fn h1 h2
    · subst e; exact (fr h1).elim
    · exact (fr h2).elim
    · rfl
  · rcases h1 with h1 | ⟨rfl, e1⟩ <;> rcases h2 with h2 | ⟨e, e2⟩
    · exact H.fc h1 h2
    · subst e; exact (frc h1).elim
    · exact (frc h2).elim
    · rw [e1] at e2; cases e2; exact ⟨rfl, rfl⟩
  · rw [W.size]
    rcases h with h | ⟨_, rfl⟩
    · exact H.lt h
    · exact H.lt hr
  · rw [gt] at h3 h4
    have al : ∀ {x k}, M.m x k → (if x = s.n then some o' else if x = b then none else s.h.get x).isSome = true → (s.h.get x).isSome = true ∧ x ≠ b := by
      intro x k hm hx
      by_cases e : x = s.n
      · subst e; exact (fr hm).elim
      · rw [if_neg e] at hx
        by_cases e' : x = b
        · rw [if_pos e'] at hx; cases hx
        · rw [if_neg e'] at hx; exact ⟨hx, e'⟩
    rcases h1 with h1 | ⟨rfl, e1⟩ <;> rcases h2 with h2 | ⟨e, e2⟩
    · exact H.inj h1 h2 (al h1 h3).1 (al h2 h4).1
    · subst e2; exact absurd (H.inj h1 hr (al h1 h3).1 (by rw [hb]; rfl)) (al h1 h3).2
    · subst e1; exact absurd (H.inj h2 hr (al h2 h4).1 (by rw [hb]; rfl)) (al h2 h4).2
    · exact e.symm
  · rw [gt] at hx
    by_cases e : x = s.n
    · subst e
      rw [if_pos rfl] at hx
      cases hx
      exact ⟨r, O, .inr ⟨rfl, rfl⟩, W.at_, ho⟩
    · rw [if_neg e] at hx
      by_cases e' : x = b
      · rw [if_pos e'] at hx; cases hx
      · rw [if_neg e'] at hx
        obtain ⟨r', O', h1, h2, h3⟩ := H.ob hx
        refine ⟨r', O', .inl h1, ?_, h3.mono (Mu.le_add _ _ _ _)⟩
        rw [W.other, h2]
        intro er
        subst er
        exact e' (H.inj h1 hr (by rw [hx]; rfl) (by rw [hb]; rfl))
  · rcases h with h | ⟨rfl, rfl⟩
    · exact .inl h
    · exact .inr ⟨Nat.le_refl _, by simp [St.new, St.kill], .inr ⟨b, by simp [St.new, St.kill], hr⟩⟩
  · rcases h with h | ⟨rfl, _⟩
    · exact .inl h
    · exact .inr ⟨Nat.le_refl _, by simp [St.new, St.kill]⟩
  · exact W.other fun e => hT b (by simp [St.new, St.kill]) (e ▸ hr)
  · rw [gt, if_neg, if_neg]
    · intro e; subst e; exact hx (by simp [St.new, St.kill])
    · intro e; subst e; exact hx (by simp [St.new, St.kill])
  · rw [gt] at hx
    by_cases e : x = s.n
    · subst e; exact ⟨by simp [St.new, St.kill], hsm⟩
    · rw [if_neg e] at hx
      by_cases e' : x = b
      · rw [if_pos e'] at hx; cases hx
      · rw [if_neg e'] at hx
        have := L hx
        exact ⟨by simp only [St.new, St.kill]; omega, this.2⟩
theorem kill_hr {M : Mu} {s : St} {w : World} {b : Nat} (H : HR M s.h w) (hs : small b = true) : HR M (s.kill b).h w :=
  H.sub fun x o hx => by
    rw [kill_get hs] at hx
    by_cases e : x = b
    · rw [if_pos e] at hx; cases hx
    · rwa [if_neg e] at hx
theorem kill_li {s : St} {b : Nat} (L : Li s) (hs : small b = true) : Li (s.kill b) := fun {x} hx => by
  rw [kill_get hs] at hx
  by_cases e : x = b
  · rw [if_pos e] at hx; cases hx
  · rw [if_neg e] at hx; exact L hx
theorem kill_sx {s : St} {b : Nat} (hs : small b = true) : Sx s (s.kill b) :=
  ⟨Nat.le_refl _, fun x hx => List.mem_cons_of_mem _ hx, fun {x} hx => by
    rw [kill_get hs, if_neg]
    intro e; subst e; exact hx (by simp [St.kill])⟩
end Go.Proofs.YtecfnddaniphdaaGreatDoor.AM
