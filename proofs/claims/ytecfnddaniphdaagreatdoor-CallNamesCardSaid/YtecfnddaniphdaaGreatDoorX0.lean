/-
  An abstract machine that runs the program's code on memory of its own: definitions alone.
-/
import Derived.RangeFuncLeaves
import Derived.OrdersIn
set_option linter.unusedVariables false
set_option linter.unusedSimpArgs false
namespace Go.Proofs.YtecfnddaniphdaaGreatDoor.AM
noncomputable section

/-! ### Trees by numbers -/
inductive TR (α : Type) where
  | nil
  | node (l : TR α) (v : Option α) (r : TR α)
  deriving Inhabited
namespace TR
variable {α : Type}
def get (t : TR α) : Nat → Option α :=
  TR.rec (motive := fun _ => Nat → Option α) (fun _ => none)
    (fun _ v _ gl gr n => Nat.rec (motive := fun _ => Option α) v (fun k _ => Bool.rec (motive := fun _ => Option α) (gr (Nat.div k 2)) (gl (Nat.div k 2)) (Nat.beq (Nat.mod k 2) 0)) n) t
/-- (closed arms: the kernel unfolds them without copying them) -/
def setB (b : Bool) : (TR α → Nat → Option α → TR α) → TR α → Option α → TR α → Nat → Option α → TR α :=
  Bool.rec (motive := fun _ => (TR α → Nat → Option α → TR α) → TR α → Option α → TR α → Nat → Option α → TR α)
    (fun ih l x r k v => .node l x (ih r k v)) (fun ih l x r k v => .node (ih l k v) x r) b
def setN (n : Nat) : (TR α → Nat → Option α → TR α) → TR α → Option α → TR α → Option α → TR α :=
  Nat.rec (motive := fun _ => (TR α → Nat → Option α → TR α) → TR α → Option α → TR α → Option α → TR α)
    (fun _ l _ r v => .node l v r) (fun k _ ih l x r v => setB (Nat.beq (Nat.mod k 2) 0) ih l x r (Nat.div k 2) v) n
def setT (t : TR α) : (TR α → Nat → Option α → TR α) → Nat → Option α → TR α :=
  TR.rec (motive := fun _ => (TR α → Nat → Option α → TR α) → Nat → Option α → TR α)
    (fun ih n v => setN n ih .nil none .nil v) (fun l x r _ _ ih n v => setN n ih l x r v) t
def set (f : Nat) : TR α → Nat → Option α → TR α :=
  Nat.rec (motive := fun _ => TR α → Nat → Option α → TR α) (fun t _ _ => t) (fun _ ih t n v => setT t ih n v) f
end TR

/-- how deep the trees are -/
def FU : Nat := 24
def small (n : Nat) : Bool := Nat.blt n 16777000

/-! ### Types, functions -/
inductive K where
  | int (k : IntKind)
  | bool
  | str
  | ptr (e : TypeId)
  | slice (e : TypeId)
  | map (k e : TypeId)
  | struct (fs : List (Nat × TypeId))
  | array (n : Nat) (e : TypeId)
  | func
  | other
structure TI where
  k : K
  size : Nat
  bytes : Nat
  zero : List Value
def TI.agg (t : TI) : Bool := match t.k with
  | .struct _ | .array _ _ => true
  | _ => false
/-- the zero value -/
def TI.zeroV (t : TI) : Value := cond t.agg (.agg ⟨t.zero⟩) (t.zero.headD undef)
structure AFn where
  body : Code
  ntmps : Nat
  results : List ResultVar
/-- a call that is known, in memory of its own, which it leaves as it is; to a plain value -/
structure Mem where
  f : FuncId
  args : List Value
  h : List (Nat × List Value × Option Nat)
  v : Value
structure Cfg where
  ft : TR AFn
  ty : TR TI
  gl : List Nat
  /-- calls that are known -/
  memo : List Mem
  /-- what is known of the unknown values -/
  sy : (Nat → Value) → Prop
  /-- what comes of operations on them -/
  orc : BinOp → Value → Value → Option Value

def kd (cf : Cfg) (t : TypeId) : Option K := match cf.ty.get t with
  | some i => some i.k
  | none => none
def szd (cf : Cfg) (t : TypeId) : Nat := match cf.ty.get t with
  | some i => i.size
  | none => 0

/-! ### Memory -/
structure ALoop where
  st : LoopState
  pend : Option Code
  tmps : TR Value
  sz : Nat
  params : List Tmp
  assign : Code
  body : Code
  defers : Nat
inductive AObj where
  | cells (c : List Value) (g : Option Nat)
  | map (es : List (Value × Value))
  | loop (l : ALoop)
  | deferred
/-- the blocks; the next one's number; those that were touched -/
structure St where
  h : TR AObj
  n : Nat
  t : List Nat
structure AF where
  T : TR Value
  sz : Nat
  marks : List Nat
  round : Option Nat
inductive Ex where
  | normal
  | exit (id : Nat)
  | ret
def St.new (s : St) (o : AObj) : St := ⟨s.h.set FU s.n (some o), s.n + 1, s.n :: s.t⟩
def St.put (s : St) (b : Nat) (o : AObj) : St := ⟨s.h.set FU b (some o), s.n, b :: s.t⟩
def St.kill (s : St) (b : Nat) : St := ⟨s.h.set FU b none, s.n, b :: s.t⟩

/-- a capacity that is not known -/
def UNK : Nat := 1180591620717411303424
/-- of an empty slice: nor where it is -/
def UNE : Nat := 1180591620717411303425

def scal : Value → Bool
  | .bool _ | .int _ _ | .string _ | .pointer none | .map none | .nilFunc | .slice none _ _ => true
  | _ => false
def plain : Value → Bool
  | .agg cs => cs.toList.all scal
  | .tuple cs => cs.toList.all scal
  | v => scal v
def one : Value → Bool
  | .agg _ | .tuple _ => false
  | _ => true

def ev (x : Operand) : Cfg → TR Value → Option Value :=
  match x with
  | .tmp t => fun _ T => T.get t
  | .const v => fun _ _ => cond (plain v) (some v) none
  | .global g => fun cf _ => cond (cf.gl.any (Nat.beq g)) (some (.pointer (some ⟨g, 0, none⟩))) none
  | .func f => fun _ _ => some (.func (.func f) #[] #[])
def consV (a : Option Value) (b : Option (List Value)) : Option (List Value) := a.bind fun v => b.map (v :: ·)
def evs (l : List Operand) : Cfg → TR Value → Option (List Value) :=
  List.rec (motive := fun _ => Cfg → TR Value → Option (List Value)) (fun _ _ => some []) (fun x _ ih cf T => consV (ev x cf T) (ih cf T)) l
def consP (i : Nat) (a : Option Value) (b : Option (List (Nat × Value))) : Option (List (Nat × Value)) := a.bind fun v => b.map ((i, v) :: ·)
def evp (l : List (Nat × Operand)) : Cfg → TR Value → Option (List (Nat × Value)) :=
  List.rec (motive := fun _ => Cfg → TR Value → Option (List (Nat × Value))) (fun _ _ => some []) (fun x _ ih cf T => consP x.1 (ev x.2 cf T) (ih cf T)) l

/-! ### Numbers, tests -/
def intB (op : BinOp) : IntKind → Int → Int → Option Value :=
  match op with
  | .add => fun k a b => some (.int k (k.wrap (a + b)))
  | .sub => fun k a b => some (.int k (k.wrap (a - b)))
  | .mul => fun k a b => some (.int k (k.wrap (a * b)))
  | .quo => fun k a b => if b = 0 then none else some (.int k (k.wrap (a.tdiv b)))
  | .rem => fun k a b => if b = 0 then none else some (.int k (a.tmod b))
  | .and => fun k a b => some (.int k (k.wrap (BitVec.ofInt k.bits a &&& BitVec.ofInt k.bits b).toNat))
  | .or => fun k a b => some (.int k (k.wrap (BitVec.ofInt k.bits a ||| BitVec.ofInt k.bits b).toNat))
  | .xor => fun k a b => some (.int k (k.wrap (BitVec.ofInt k.bits a ^^^ BitVec.ofInt k.bits b).toNat))
  | .andNot => fun k a b => some (.int k (k.wrap (BitVec.ofInt k.bits a &&& ~~~ BitVec.ofInt k.bits b).toNat))
  | .eql => fun _ a b => some (.bool (a == b))
  | .neq => fun _ a b => some (.bool (a != b))
  | .lss => fun _ a b => some (.bool (decide (a < b)))
  | .leq => fun _ a b => some (.bool (decide (a ≤ b)))
  | .gtr => fun _ a b => some (.bool (decide (a > b)))
  | .geq => fun _ a b => some (.bool (decide (a ≥ b)))
  | .shl => fun _ _ _ => none
  | .shr => fun _ _ _ => none
def shB (op : BinOp) (k : IntKind) (x y : Int) : Option Value :=
  if y < 0 then none else
  match op with
  | .shl => some (.int k (k.wrap (x * 2 ^ (min y.toNat k.bits))))
  | .shr => some (.int k (x.fdiv (2 ^ (min y.toNat k.bits))))
  | _ => none
def eqB (op : BinOp) (b : Bool) : Option Value :=
  match op with
  | .eql => some (.bool b)
  | .neq => some (.bool (!b))
  | _ => none
def loadN (c : List Value) (off size : Nat) : Option (List Value) :=
  cond (Nat.beq ((c.drop off).take size).length size) (some ((c.drop off).take size)) none
/-- unknown values below this one are numbers; below its double strings; the others whatever lies in one cell -/
def SYS : Nat := 1000000
def eqSy : IntKind → Nat → Nat → Option Bool
  | .i64, i, j => cond (Nat.beq i j && Nat.blt i SYS) (some true) none
  | _, _, _ => none
mutual
/-- are two values of a type the same, by their cells? -/
def eqF (cf : Cfg) : Nat → TypeId → List Value → List Value → Option Bool
  | 0, _, _, _ => none
  | f + 1, t, xs, ys => match kd cf t with
    | some (.int k0) => match xs, ys with
      | [.int k a], [.int k' b] => if k = k' then some (a == b) else none
      | [.chan (some i)], [.chan (some j)] => eqSy k0 i j
      | _, _ => none
    | some .bool => match xs, ys with
      | [.bool a], [.bool b] => some (a == b)
      | _, _ => none
    | some (.struct fs) => eqFs cf f fs xs ys
    | _ => none
def eqFs (cf : Cfg) : Nat → List (Nat × TypeId) → List Value → List Value → Option Bool
  | 0, _, _, _ => none
  | _ + 1, [], _, _ => some true
  | f + 1, (off, e) :: fs, xs, ys => match loadN xs off (szd cf e), loadN ys off (szd cf e) with
    | some a, some b => match eqF cf f e a b with
      | some true => eqFs cf f fs xs ys
      | r => r
    | _, _ => none
end
def binI (op : BinOp) : IntKind → IntKind → Int → Int → Option Value :=
  match op with
  | .shl => fun k _ a b => shB .shl k a b
  | .shr => fun k _ a b => shB .shr k a b
  | op => fun k k' a b => if k = k' then intB op k a b else none
def nilB (op : BinOp) (b : Option Value) : Option Value := b.bind fun v => match v with | .bool b => eqB op b | _ => none
def sizeA (cf : Cfg) (e : TypeId) : Nat := match cf.ty.get e with
  | some te => te.size
  | none => 0
def eqPtr (cf : Cfg) (a b : Option Addr) : Option K → Option Value
  | some (.ptr e) => match a, b with
    | none, b => some (.bool b.isNone)
    | some _, none => some (.bool false)
    | some ⟨b1, o1, none⟩, some ⟨b2, o2, none⟩ => cond (Nat.beq b1 b2 && Nat.blt 0 (sizeA cf e)) (some (.bool (Nat.beq o1 o2))) none
    | _, _ => none
  | _ => none
def eqSl (a b : Option Addr) : Option K → Option Value
  | some (.slice _) => match a, b with
    | none, b => some (.bool b.isNone)
    | some _, none => some (.bool false)
    | _, _ => none
  | _ => none
def eqBo (a b : Bool) : Option K → Option Value
  | some .bool => some (.bool (a == b))
  | _ => none
def sameBy : List UInt8 → List UInt8 → Bool
  | [], [] => true
  | a :: l, b :: m => Nat.beq a.toNat b.toNat && sameBy l m
  | _, _ => false
def eqFn (b : Bool) : Option K → Option Value
  | some .func => some (.bool b)
  | _ => none
def eqAg (cf : Cfg) (xs ys : List Value) : Option K → Option Value
  | some (.struct fs) => (eqFs cf 40 fs xs ys).map fun b => .bool b
  | _ => none
def binA (x y : Value) : Cfg → BinOp → TypeId → Option Value :=
  match x, y with
  | .int k a, .int k' b => fun _ op _ => binI op k k' a b
  | .bool a, .bool b => fun cf op t => nilB op (eqBo a b (kd cf t))
  | .pointer a, .pointer b => fun cf op t => nilB op (eqPtr cf a b (kd cf t))
  | .string a, .string b => fun _ op _ => eqB op (sameBy a.data.toList b.data.toList)
  | .slice a _ _, .slice b _ _ => fun cf op t => nilB op (eqSl a b (kd cf t))
  | .agg xs, .agg ys => fun cf op t => nilB op (eqAg cf xs.toList ys.toList (kd cf t))
  | .nilFunc, .nilFunc => fun cf op t => nilB op (eqFn true (kd cf t))
  | .nilFunc, .func _ _ _ => fun cf op t => nilB op (eqFn false (kd cf t))
  | .func _ _ _, .nilFunc => fun cf op t => nilB op (eqFn false (kd cf t))
  | .chan a, y => fun cf op _ => cf.orc op (.chan a) y
  | x, .chan b => fun cf op _ => cf.orc op x (.chan b)
  | _, _ => fun _ _ _ => none
def unA (op : UnOp) (x : Value) : Option Value :=
  match op, x with
  | .neg, .int k n => some (.int k (k.wrap (0 - n)))
  | .xor, .int k n => intB .xor k (if k.signed then -1 else k.max) n
  | .not, .bool b => some (.bool (!b))
  | _, _ => none

/-! ### Operations on memory -/
def asA : Value → Option (Nat × Nat)
  | .pointer (some ⟨b, o, none⟩) => some (b, o)
  | _ => none
def storeN (c : List Value) (off : Nat) (vs : List Value) : Option (List Value) :=
  cond (Nat.ble (off + vs.length) c.length) (some (c.take off ++ vs ++ c.drop (off + vs.length))) none
def aload (cf : Cfg) (s : St) (t : TypeId) (a : Value) : Option Value :=
  match cf.ty.get t, asA a with
  | some ti, some (b, o) => match s.h.get b with
    | some (.cells c _) => cond ti.agg ((loadN c o ti.size).map fun l => .agg ⟨l⟩) c[o]?
    | _ => none
  | _, _ => none
def astore (cf : Cfg) (s : St) (t : TypeId) (a v : Value) : Option St :=
  match cf.ty.get t, asA a with
  | some ti, some (b, o) => match s.h.get b with
    | some (.cells c g) => cond (Nat.beq v.cells.toList.length ti.size && v.cells.toList.all one)
        ((storeN c o v.cells.toList).map fun c' => s.put b (.cells c' g)) none
    | _ => none
  | _, _ => none
def fillA (place : Nat → Option (Nat × Nat)) (cells : List Value) : List (Nat × Value) → Option (List Value)
  | [] => some cells
  | (i, v) :: rest => match place i with
    | none => none
    | some (off, size) => match cond (Nat.beq v.cells.toList.length size) (storeN cells off v.cells.toList) none with
      | none => none
      | some c => fillA place c rest
def buildA (cf : Cfg) (t : TypeId) (ps : List (Nat × Value)) : Option Value :=
  match cf.ty.get t with
  | some ti => match ti.k with
    | .struct fs => (fillA (fun i => match fs[i]? with
        | some (off, e) => (cf.ty.get e).map fun te => (off, te.size)
        | none => none) ti.zero ps).map fun c => .agg ⟨c⟩
    | .array _ e => match cf.ty.get e with
      | some te => (fillA (fun i => some (i * te.size, te.size)) ti.zero ps).map fun c => .agg ⟨c⟩
      | none => none
    | _ => none
  | none => none
/-- so many zero values -/
def zerosA (te : TI) : Nat → List Value
  | 0 => []
  | n + 1 => te.zero ++ zerosA te n
def buildSliceA (cf : Cfg) (s : St) (t : TypeId) (len : Nat) (ps : List (Nat × Value)) : Option (Value × St) :=
  match kd cf t with
  | some (.slice e) => match cf.ty.get e with
    | some te => cond (Nat.blt 0 te.size && Nat.ble (len * te.size) 100000 && small s.n)
        ((fillA (fun i => some (i * te.size, te.size)) (zerosA te len) ps).map fun c =>
          (.slice (some ⟨s.n, 0, none⟩) len len, s.new (.cells c none))) none
    | none => none
  | _ => none
def fieldA (cf : Cfg) (t : TypeId) (x : Value) (f : Nat) : Option Value :=
  match kd cf t, x with
  | some (.struct fs), .agg cs => match fs[f]? with
    | some (off, e) => match cf.ty.get e with
      | some te => cond te.agg ((loadN cs.toList off te.size).map fun l => .agg ⟨l⟩) cs.toList[off]?
      | none => none
    | none => none
  | _, _ => none
def fieldAddrA (cf : Cfg) (t : TypeId) (x : Value) (f : Nat) : Option Value :=
  match kd cf t, asA x with
  | some (.struct fs), some (b, o) => match fs[f]? with
    | some (off, e) => match cf.ty.get e with
      | some te => cond (Nat.blt 0 te.size) (some (.pointer (some ⟨b, o + off, none⟩))) none
      | none => none
    | none => none
  | _, _ => none
def indexAddrA (cf : Cfg) (t : TypeId) (x i : Value) : Option Value :=
  match kd cf t, x, i with
  | some (.array len e), .pointer (some ⟨b, o, none⟩), .int _ n => match cf.ty.get e with
    | some te => if 0 ≤ n ∧ n < (len : Int) then some (.pointer (some ⟨b, o + n.toNat * te.size, none⟩)) else none
    | none => none
  | some (.slice e), .slice (some ⟨b, o, none⟩) len _, .int _ n => match cf.ty.get e with
    | some te => if 0 ≤ n ∧ n < (len : Int) then some (.pointer (some ⟨b, o + n.toNat * te.size, none⟩)) else none
    | none => none
  | _, _, _ => none
def indexA (cf : Cfg) (t : TypeId) (x i : Value) : Option Value :=
  match kd cf t, x, i with
  | some (.array len e), .agg cs, .int _ n => match cf.ty.get e with
    | some te => if 0 ≤ n ∧ n < (len : Int) then cond te.agg ((loadN cs.toList (n.toNat * te.size) te.size).map fun l => .agg ⟨l⟩) cs.toList[n.toNat * te.size]? else none
    | none => none
  | _, _, _ => none
/-- an index of a slice expression; none: the number d -/
def boundA (d : Nat) (top : Nat) : Option Value → Option Nat
  | none => some d
  | some (.int _ n) => if 0 ≤ n ∧ n ≤ (top : Int) then some n.toNat else none
  | some _ => none
/-- how many elements of a slice whose capacity is not known lie in its block, for certain -/
def topA (s : St) (size len : Nat) : Option Addr → Nat
  | some ⟨b, 0, _⟩ => match s.h.get b with
    | some (.cells c (some z)) => cond (Nat.beq z size && Nat.blt 0 z) (max len (c.length / z)) len
    | _ => len
  | _ => len
/-- bounds: low, high, max, of what has so great a length and a capacity -/
def boundsA (len cap : Nat) (lo hi mx : Option Value) : Option (Nat × Nat × Nat) :=
  cond (hi.isNone && mx.isSome) none
    (match boundA cap cap mx with
    | none => none
    | some m => match boundA len m hi with
      | none => none
      | some h => match boundA 0 h lo with
        | none => none
        | some l => some (l, h, m))
/-- a part of what has a capacity that is known -/
def cutA (size : Nat) (a : Option Addr) : Nat × Nat × Nat → Option Value
  | (l, h, m) => cond (Nat.blt m UNK) (match a with
    | none => some (.slice none (h - l) (m - l))
    | some ⟨b, o, none⟩ => some (.slice (some ⟨b, cond (Nat.beq m l) o (o + l * size), none⟩) (h - l) (m - l))
    | _ => none) none
/-- a part of a slice whose capacity is not known -/
def cutU (s : St) (size len : Nat) (b o : Nat) : Nat × Nat × Nat → Option Value
  | (l, h, _) => cond (Nat.beq l 0) (some (.slice (some ⟨b, o, none⟩) h UNK)) (cond (Nat.blt l h)
      (match s.h.get b with
        | some (.cells _ (some z)) => cond (Nat.beq z size) (some (.slice (some ⟨b, o + l * z, none⟩) (h - l) UNK)) none
        | _ => none)
      (some (.slice (some ⟨b, o, none⟩) 0 UNE)))
def sliceU (s : St) (size len : Nat) (lo hi mx : Option Value) (b o top : Nat) : Option Value :=
  match mx with
  | none => (boundsA len top lo hi none).bind (cutU s size len b o)
  | some v => (boundsA len top lo hi (some v)).bind (cutA size (some ⟨b, o, none⟩))
def sliceS (s : St) (size : Nat) (a : Option Addr) (len cap : Nat) (lo hi mx : Option Value) : Option Value :=
  cond (Nat.blt cap UNK) (cond (Nat.ble len cap) ((boundsA len cap lo hi mx).bind (cutA size a)) none)
    (cond (Nat.beq cap UNK) (match a with
      | some ⟨b, o, none⟩ => sliceU s size len lo hi mx b o (topA s size len a)
      | _ => none) none)
def sliceA (cf : Cfg) (s : St) (t : TypeId) (x : Value) (lo hi mx : Option Value) : Option Value :=
  match kd cf t, x with
  | some (.slice e), .slice a len cap => match cf.ty.get e with
    | some te => sliceS s te.size a len cap lo hi mx
    | none => none
  | some (.array n e), .pointer (some a) => match cf.ty.get e with
    | some te => (boundsA n n lo hi mx).bind (cutA te.size (some a))
    | none => none
  | _, _ => none
def keyA : Value → Value → Option Bool
  | .int k a, .int k' b => if k = k' then some (a == b) else none
  | _, _ => none
def findA (k : Value) : List (Value × Value) → Nat → Option (Option (Nat × Value))
  | [], _ => some none
  | e :: es, i => match keyA k e.1 with
    | some true => some (some (i, e.2))
    | some false => findA k es (i + 1)
    | none => none
def intKey (cf : Cfg) (t : TypeId) : Bool := match kd cf t with
  | some (.int _) => true
  | _ => false
def lookupA (cf : Cfg) (s : St) (t : TypeId) (m k : Value) (ok : Bool) : Option Value :=
  match kd cf t, m, k with
  | some (.map kt e), .map (some b), .int ik n => cond (intKey cf kt) (match s.h.get b, cf.ty.get e with
    | some (.map es), some te => match findA (.int ik n) es 0 with
      | some (some (_, v)) => some (cond ok (.tuple #[v, .bool true]) v)
      | some none => some (cond ok (.tuple #[te.zeroV, .bool false]) te.zeroV)
      | none => none
    | _, _ => none) none
  | _, _, _ => none
def updA (cf : Cfg) (s : St) (t : TypeId) (m k v : Value) : Option St :=
  match kd cf t, m, k with
  | some (.map kt e), .map (some b), .int ik n => cond (intKey cf kt) (match s.h.get b with
    | some (.map es) => match findA (.int ik n) es 0 with
      | some (some (i, _)) => some (s.put b (.map (es.modify i fun e => (e.1, v))))
      | some none => some (s.put b (.map (es ++ [(.int ik n, v)])))
      | none => none
    | _ => none) none
  | _, _, _ => none
def deleteA (cf : Cfg) (s : St) (t : TypeId) (m k : Value) : Option St :=
  match kd cf t, m, k with
  | some (.map kt e), .map (some b), .int ik n => cond (intKey cf kt) (match s.h.get b with
    | some (.map es) => match findA (.int ik n) es 0 with
      | some (some (i, _)) => some (s.put b (.map (es.eraseIdx i)))
      | some none => some (s.put b (.map es))
      | none => none
    | _ => none) none
  | _, _, _ => none
/-- the cells of a slice's first elements -/
def firstA (s : St) (size n : Nat) : Value → Option (List Value)
  | .slice none _ _ => some []
  | .slice (some ⟨b, o, none⟩) _ _ => match s.h.get b with
    | some (.cells c _) => loadN c o (n * size)
    | _ => none
  | _ => none
def appendA (cf : Cfg) (s : St) (t u : TypeId) (x y : Value) : Option (Value × St) :=
  match kd cf t, kd cf u, x, y with
  | some (.slice e), some (.slice _), .slice base len cap, .slice yb n yc => match cf.ty.get e, firstA s (szd cf e) n (.slice yb n yc) with
    | some te, some news => cond (Nat.blt 0 te.size && small s.n && Nat.ble (len + n) 100000 && Nat.ble te.bytes 1000 && news.all one && Nat.beq news.length (n * te.size))
        (cond (Nat.beq cap UNK)
          (match base with
           | some ⟨b, 0, none⟩ => match s.h.get b with
             | some (.cells c (some g)) => cond (Nat.beq g te.size && Nat.beq (c.take (len * te.size)).length (len * te.size))
                 (cond (Nat.ble ((len + n) * te.size) c.length)
                   ((storeN c (len * te.size) news).map fun c' => (.slice base (len + n) UNK, s.put b (.cells c' (some g))))
                   (some (.slice (some ⟨s.n, 0, none⟩) (len + n) UNK, (s.kill b).new (.cells (c.take (len * te.size) ++ news) (some te.size))))) none
             | _ => none
           | _ => none)
          (cond (Nat.blt cap UNK) (cond (Nat.ble (len + n) cap)
            (match base with
             | none => cond (Nat.beq n 0) (some (.slice none (len + n) cap, s)) none
             | some ⟨b, o, none⟩ => match s.h.get b with
               | some (.cells c g) => (storeN c (o + len * te.size) news).map fun c' => (.slice base (len + n) cap, s.put b (.cells c' g))
               | _ => none
             | _ => none)
            (match firstA s te.size len (.slice base len cap) with
             | some old => cond (Nat.beq old.length (len * te.size))
                 (some (.slice (some ⟨s.n, 0, none⟩) (len + n) UNK, s.new (.cells (old ++ news) (some te.size)))) none
             | none => none)) none))
        none
    | _, _ => none
  | _, _, _, _ => none
/-- as many zeros, behind nothing -/
def appendZ (cf : Cfg) (s : St) (t u : TypeId) (x y : Value) : Option (Value × St) :=
  match kd cf t, kd cf u, x, y with
  | some (.slice e), some (.int .i64), .slice none 0 0, .int .i64 n => match cf.ty.get e with
    | some te => match te.zero with
      | [z] => if 1 ≤ n ∧ n ≤ 10000 ∧ te.size = 1 ∧ te.bytes ≤ 1000 ∧ small s.n = true ∧ one z = true then
          some (.slice (some ⟨s.n, 0, none⟩) n.toNat UNK, s.new (.cells (List.replicate n.toNat z) (some 1))) else none
      | _ => none
    | none => none
  | _, _, _, _ => none
def appendB (cf : Cfg) (s : St) (t u : TypeId) (x y : Value) : Option (Value × St) := match appendZ cf s t u x y with
  | some r => some r
  | none => appendA cf s t u x y
def copyA (cf : Cfg) (s : St) (t : TypeId) (x y : Value) : Option (Value × St) :=
  match kd cf t, x, y with
  | some (.slice e), .slice base dl dc, .slice yb yl yc => match cf.ty.get e with
    | some te => match firstA s te.size (min yl dl) (.slice yb yl yc) with
      | some cs => cond (cs.all one) (match base with
        | none => some (.int .i64 (min yl dl : Nat), s)
        | some ⟨b, o, none⟩ => match s.h.get b with
          | some (.cells c g) => (storeN c o cs).map fun c' => (.int .i64 (min yl dl : Nat), s.put b (.cells c' g))
          | _ => none
        | _ => none) none
      | none => none
    | none => none
  | _, _, _ => none
def clearA (cf : Cfg) (s : St) (t : TypeId) (x : Value) : Option St :=
  match kd cf t, x with
  | some (.slice e), .slice (some ⟨b, o, none⟩) n _ => match cf.ty.get e with
    | some te => match s.h.get b with
      | some (.cells c g) => cond (Nat.beq n 0) (some s) (cond ((zerosA te n).all one && Nat.blt 0 te.size) ((storeN c o (zerosA te n)).map fun c' => s.put b (.cells c' g)) none)
      | _ => none
    | none => none
  | some (.slice e), .slice none _ _ => some s
  | _, _ => none
def lenA (cf : Cfg) (s : St) (t : TypeId) (x : Value) : Option Value :=
  match kd cf t, x with
  | some (.slice _), .slice _ n _ => some (.int .i64 n)
  | some (.array n _), _ => some (.int .i64 n)
  | some (.map _ _), .map (some b) => match s.h.get b with
    | some (.map es) => some (.int .i64 es.length)
    | _ => none
  | some .str, .string s => some (.int .i64 s.size)
  | _, _ => none
def capA (cf : Cfg) (t : TypeId) (x : Value) : Option Value :=
  match kd cf t, x with
  | some (.slice _), .slice _ _ n => cond (Nat.blt n UNK) (some (.int .i64 n)) none
  | _, _ => none
def max2A : Value → Value → Option Value
  | .int k x, .int _ y => some (.int k (if y > x then y else x))
  | _, _ => none
def min2A : Value → Value → Option Value
  | .int k x, .int _ y => some (.int k (if y < x then y else x))
  | _, _ => none
def foldA (f : Value → Value → Option Value) : Value → List Value → Option Value
  | x, [] => some x
  | x, y :: l => match f x y with
    | some z => foldA f z l
    | none => none
def makeSliceA (cf : Cfg) (s : St) (t : TypeId) (l c : Value) : Option (Value × St) :=
  match kd cf t, l, c with
  | some (.slice e), .int _ n, .int _ m => match cf.ty.get e with
    | some te => if 0 ≤ n ∧ n ≤ m ∧ m ≤ 10000 ∧ 0 < te.size ∧ te.bytes ≤ 1000 ∧ small s.n = true then
        some (.slice (some ⟨s.n, 0, none⟩) n.toNat m.toNat, s.new (.cells (zerosA te m.toNat) none)) else none
    | none => none
  | _, _, _ => none

/-! ### One operation -/
/-- what an operation comes to -/
inductive Got where
  | val (v : Value) (s : St)
  | call (f : FuncId) (args : List Value)
  | yield (l : Nat) (args : List Value)
def bAppend (cf : Cfg) (s : St) : List Value → List TypeId → Option Got
  | [x, y], [t, u] => (appendB cf s t u x y).map fun r => .val r.1 r.2
  | _, _ => none
def bCopy (cf : Cfg) (s : St) : List Value → List TypeId → Option Got
  | [x, y], t :: _ => (copyA cf s t x y).map fun r => .val r.1 r.2
  | _, _ => none
def bClear (cf : Cfg) (s : St) : List Value → List TypeId → Option Got
  | [x], t :: _ => (clearA cf s t x).map fun r => .val undef r
  | _, _ => none
def bDelete (cf : Cfg) (s : St) : List Value → List TypeId → Option Got
  | [m, k], t :: _ => (deleteA cf s t m k).map fun r => .val undef r
  | _, _ => none
def bLen (cf : Cfg) (s : St) : List Value → List TypeId → Option Got
  | [x], t :: _ => (lenA cf s t x).map fun r => .val r s
  | _, _ => none
def bCap (cf : Cfg) (s : St) : List Value → List TypeId → Option Got
  | [x], t :: _ => (capA cf t x).map fun r => .val r s
  | _, _ => none
def bFold (s : St) (f : Value → Value → Option Value) : List Value → Option Got
  | x :: l => (foldA f x l).map fun r => .val r s
  | _ => none
def builtinA (b : Builtin) : Cfg → St → List Value → List TypeId → Option Got :=
  match b with
  | .append => bAppend
  | .len => bLen
  | .copy => bCopy
  | .clear => bClear
  | .delete => bDelete
  | .cap => bCap
  | .max => fun _ s args _ => bFold s max2A args
  | .min => fun _ s args _ => bFold s min2A args
  | _ => fun _ _ _ _ => none
def callV (args : List Value) : Value → Option Got
  | .func fn first cap => match fn with
    | .func f => some (.call f (first.toList ++ args ++ cap.toList))
    | .yield l => some (.yield l (first.toList ++ args))
    | _ => none
  | _ => none
def callA (cf : Cfg) (s : St) (T : TR Value) (c : Call) : Option Got :=
  match evs c.args.toList cf T with
  | none => none
  | some args => match c.callee with
    | .invoke _ _ => none
    | .value f => (ev f cf T).bind (callV args)
    | .builtin b => builtinA b cf s args c.argTypes.toList
def vA (s : St) (v : Option Value) : Option Got := v.map fun v => .val v s
def uA (s : Option St) : Option Got := s.map fun s => .val undef s
def rA (r : Option (Value × St)) : Option Got := r.map fun r => .val r.1 r.2
/-- one, two, three operands -/
def on1 (cf : Cfg) (T : TR Value) (x : Operand) (f : Value → Option Got) : Option Got := (ev x cf T).bind f
def on2 (cf : Cfg) (T : TR Value) (x y : Operand) (f : Value → Value → Option Got) : Option Got := (ev x cf T).bind fun a => (ev y cf T).bind (f a)
def oPick (cf : Cfg) (s : St) (T : TR Value) (a b : Operand) : Value → Option Got
  | .bool t => vA s (cond t (ev a cf T) (ev b cf T))
  | _ => none
def oAlloc (cf : Cfg) (s : St) (e : TypeId) : Option Got := match cf.ty.get e with
  | some te => cond (small s.n) (some (.val (.pointer (some ⟨s.n, 0, none⟩)) (s.new (.cells te.zero none)))) none
  | none => none
def oBox (s : St) (v : Value) : Option Got := cond (small s.n) (some (.val (.pointer (some ⟨s.n, 0, none⟩)) (s.new (.cells v.cells.toList none)))) none
def oNil (s : St) (v : Value) : Option Got := match v with
  | .pointer (some _) => some (.val v s)
  | .func (.func _) _ _ => some (.val v s)
  | .func (.yield _) _ _ => some (.val v s)
  | .slice _ _ _ => some (.val v s)
  | _ => none
def oConv (cf : Cfg) (s : St) (a d : TypeId) : Value → Option Got
  | .int _ n => match kd cf a, kd cf d with
    | some (.int _), some (.int k) => some (.val (.int k (k.wrap n)) s)
    | _, _ => none
  | _ => none
def oFunc (cf : Cfg) (s : St) (T : TR Value) (first cap : List Operand) : Fn → Option Got
  | .func f => match evs first cf T, evs cap cf T with
    | some a, some b => some (.val (.func (.func f) ⟨a⟩ ⟨b⟩) s)
    | _, _ => none
  | _ => none
def oMap (s : St) : Option Operand → Option Got
  | none => cond (small s.n) (some (.val (.map (some s.n)) (s.new (.map [])))) none
  | some _ => none
def evo (cf : Cfg) (T : TR Value) : Option Operand → Option (Option Value)
  | none => some none
  | some x => (ev x cf T).map some
def oSlice (cf : Cfg) (s : St) (T : TR Value) (t : TypeId) (x : Operand) (lo hi mx : Option Operand) : Option Got :=
  match ev x cf T, evo cf T lo, evo cf T hi, evo cf T mx with
  | some x, some lo, some hi, some mx => vA s (sliceA cf s t x lo hi mx)
  | _, _, _, _ => none
def oExtract (s : St) (i : Nat) : Value → Option Got
  | .tuple vs => vA s vs.toList[i]?
  | _ => none
def oUpd (cf : Cfg) (s : St) (T : TR Value) (t : TypeId) (m k x : Operand) : Option Got :=
  on2 cf T m k fun m k => on1 cf T x fun x => uA (updA cf s t m k x)
def oBuild (cf : Cfg) (s : St) (T : TR Value) (t : TypeId) (ps : List (Nat × Operand)) : Option Got := (evp ps cf T).bind fun vs => vA s (buildA cf t vs)
def oBuildS (cf : Cfg) (s : St) (T : TR Value) (t : TypeId) (n : Nat) (ps : List (Nat × Operand)) : Option Got := (evp ps cf T).bind fun vs => rA (buildSliceA cf s t n vs)
def opA (o : Op) : Cfg → St → TR Value → Option Got :=
  match o with
  | .move x => fun cf s T => vA s (ev x cf T)
  | .assign x => fun cf s T => vA s (ev x cf T)
  | .pick c a b => fun cf s T => on1 cf T c (oPick cf s T a b)
  | .alloc e => fun cf s _ => oAlloc cf s e
  | .box _ x => fun cf s T => on1 cf T x (oBox s)
  | .build t ps => fun cf s T => oBuild cf s T t ps.toList
  | .buildSlice t n ps => fun cf s T => oBuildS cf s T t n ps.toList
  | .load t a => fun cf s T => on1 cf T a fun a => vA s (aload cf s t a)
  | .store t a x => fun cf s T => on2 cf T a x fun a v => uA (astore cf s t a v)
  | .nilCheck x => fun cf s T => on1 cf T x (oNil s)
  | .binOp op t x y _ => fun cf s T => on2 cf T x y fun a b => vA s (binA a b cf op t)
  | .unOp op _ x => fun cf s T => on1 cf T x fun a => vA s (unA op a)
  | .convert a d x => fun cf s T => on1 cf T x (oConv cf s a d)
  | .makeFunc fn first cap => fun cf s T => oFunc cf s T first.toList cap.toList fn
  | .makeMap _ r => fun _ s _ => oMap s r
  | .makeSlice t l c => fun cf s T => on2 cf T l c fun l c => rA (makeSliceA cf s t l c)
  | .slice t x lo hi mx => fun cf s T => oSlice cf s T t x lo hi mx
  | .fieldAddr t x f => fun cf s T => on1 cf T x fun x => vA s (fieldAddrA cf t x f)
  | .field t x f => fun cf s T => on1 cf T x fun x => vA s (fieldA cf t x f)
  | .indexAddr t x i => fun cf s T => on2 cf T x i fun x i => vA s (indexAddrA cf t x i)
  | .index t x i => fun cf s T => on2 cf T x i fun x i => vA s (indexA cf t x i)
  | .lookup t m k ok => fun cf s T => on2 cf T m k fun m k => vA s (lookupA cf s t m k ok)
  | .mapUpdate t m k x => fun cf s T => oUpd cf s T t m k x
  | .insert t m k x => fun cf s T => oUpd cf s T t m k x
  | .extract x i => fun cf s T => on1 cf T x (oExtract s i)
  | .call c => fun cf s T => callA cf s T c
  | _ => fun _ _ _ => none

/-! ### Code -/
inductive Task where
  | exec (c : Code) (fr : AF) (s : St)
  | call (f : FuncId) (args : List Value) (s : St)
inductive Out where
  | ex (e : Ex) (fr : AF) (s : St)
  | ret (v : Value) (s : St)

def AF.put (fr : AF) (d : Option Tmp) (v : Value) : Option AF :=
  match d with
  | none => some fr
  | some d => cond (Nat.blt d fr.sz && small d) (some ⟨fr.T.set FU d (some v), fr.sz, fr.marks, fr.round⟩) none
def argsT : TR Value → Nat → List Value → TR Value
  | t, _, [] => t
  | t, i, v :: l => argsT (t.set FU i (some v)) (i + 1) l
def bindT : TR Value → List Tmp → List Value → TR Value
  | t, p :: ps, v :: vs => bindT (t.set FU p (some v)) ps vs
  | t, _, _ => t
def resA (cf : Cfg) (T : TR Value) (s : St) : List ResultVar → Option (List Value)
  | [] => some []
  | .tmp t :: l => match T.get t, resA cf T s l with
    | some v, some vs => some (v :: vs)
    | _, _ => none
  | .cell a t :: l => match (T.get a).bind (aload cf s t), resA cf T s l with
    | some v, some vs => some (v :: vs)
    | _, _ => none
def tupA : List Value → Value
  | [v] => v
  | vs => .tuple ⟨vs⟩
def popA (s : St) : List Nat → Option St
  | [] => some s
  | m :: ms => match s.h.get m with
    | some .deferred => popA (s.kill m) ms
    | _ => none

/-! what is reached from values -/
def refsV : Nat → Value → List Nat
  | 0, _ => []
  | f + 1, v => match v with
    | .pointer (some a) => [a.block]
    | .slice (some a) _ _ => [a.block]
    | .map (some r) => [r]
    | .func fn first cap => (match fn with | .yield l => [l] | _ => []) ++ (first.toList ++ cap.toList).flatMap (refsV f)
    | .agg cs => cs.toList.flatMap (refsV f)
    | .tuple cs => cs.toList.flatMap (refsV f)
    | _ => []
def refsO : AObj → List Nat
  | .cells c _ => c.flatMap (refsV 4)
  | .map es => es.flatMap fun e => refsV 4 e.1 ++ refsV 4 e.2
  | _ => []
/-- a heap with those blocks besides that are reached from a list and are from n on; and which -/
def keepA (src : TR AObj) (n : Nat) : Nat → List Nat → TR AObj → List Nat → TR AObj × List Nat
  | 0, _, h, t => (h, t)
  | _ + 1, [], h, t => (h, t)
  | f + 1, b :: bs, h, t => cond (Nat.blt b n) (keepA src n f bs h t) (match h.get b with
    | some _ => keepA src n f bs h t
    | none => match src.get b with
      | none => keepA src n f bs h t
      | some o => keepA src n f (refsO o ++ bs) (h.set FU b (some o)) (b :: t))
/-- what was there and was touched, as it is now -/
def oldA (src : TR AObj) (n : Nat) : List Nat → TR AObj → TR AObj
  | [], h => h
  | b :: bs, h => cond (Nat.blt b n) (oldA src n bs (h.set FU b (src.get b))) (oldA src n bs h)
def dedup : List Nat → List Nat → List Nat
  | [], acc => acc
  | b :: bs, acc => dedup bs (cond (acc.any (Nat.beq b)) acc (b :: acc))
/-- the memory behind a call: what it made and nobody reaches is forgotten -/
def gcA (s s' : St) (v : Value) : St :=
  let old := dedup (s'.t.filter fun b => Nat.blt b s.n) []
  let h := oldA s'.h s.n old s.h
  let roots := refsV 4 v ++ old.flatMap fun b => match s'.h.get b with | some o => refsO o | none => []
  cond (old.isEmpty && scal v) ⟨s.h, s'.n, s.t⟩
  (let k := keepA s'.h s.n 100000 roots h (old ++ s.t)
  ⟨k.1, s'.n, k.2⟩)

/-- a round's end -/
def endR (l : Nat) (s : St) (L : ALoop) : Ex → Option (Value × St)
  | .normal => some (.bool true, s.put l (.loop { L with st := .ready, pend := none }))
  | .ret => some (.bool false, s.put l (.loop { L with st := .done, pend := some .ret }))
  | .exit id => some (.bool false, s.put l (.loop { L with st := .done, pend := some (.exit id) }))
def loopAt (s : St) (l : Nat) : Option ALoop := match s.h.get l with
  | some (.loop L) => some L
  | _ => none
def bodyR (rec : Task → Option Out) (l : Nat) (fr : AF) (s : St) (body : Code) (L : ALoop) : Option (Value × St) :=
  match L.st, fr.marks with
  | .ready, [] => match rec (.exec body fr (s.put l (.loop { L with st := .busy }))) with
    | some (.ex e fr2 s2) => match fr2.marks with
      | [] => (loopAt s2 l).bind fun L2 => endR l s2 L2 e
      | _ => none
    | _ => none
  | _, _ => none
def yieldR (rec : Task → Option Out) (l : Nat) (args : List Value) (s : St) (L : ALoop) : Option (Value × St) :=
  cond (Nat.beq args.length L.params.length && L.params.all (fun p => Nat.blt p L.sz && small p))
    (match rec (.exec L.assign ⟨bindT L.tmps L.params args, L.sz, [], some l⟩ s) with
      | some (.ex .normal fr1 s1) => (loopAt s1 l).bind (bodyR rec l fr1 s1 L.body)
      | _ => none) none
/-- an operation, to its end -/
def gotA (rec : Task → Option Out) (s : St) : Got → Option (Value × St)
  | .val v s => some (v, s)
  | .call f args => match rec (.call f args s) with
    | some (.ret v s) => some (v, s)
    | _ => none
  | .yield l args => (loopAt s l).bind (yieldR rec l args s)
def operA (cf : Cfg) (rec : Task → Option Out) (fr : AF) (s : St) (o : Op) : Option (Value × St) := (opA o cf s fr.T).bind (gotA rec s)

/-- does an operation come up? none: it can't be told -/
def wantB (T : TR Value) (w : Bool) : Option Tmp → Option Bool
  | none => none
  | some d => match T.get d with
    | some (.bool b) => some (b == w)
    | some (.tuple _) => some false
    | _ => none
def wantA (ops : List Oper) (T : TR Value) (o : Oper) : Option Bool :=
  match o.guard with
  | none => some true
  | some (j, w) => wantB T w ((ops[j]?).bind (·.dst))
def opGo (w : Option Bool) : Cfg → (Task → Option Out) → Oper → (AF → St → Option (AF × St)) → AF → St → Option (AF × St) :=
  match w with
  | none => fun _ _ _ _ _ _ => none
  | some false => fun _ _ o next fr s => (fr.put o.dst undef).bind fun fr => next fr s
  | some true => fun cf rec o next fr s => (operA cf rec fr s o.op).bind fun r => (fr.put o.dst r.1).bind fun fr => next fr r.2
def opsA (cf : Cfg) (rec : Task → Option Out) (all : List Oper) (l : List Oper) : AF → St → Option (AF × St) :=
  List.rec (motive := fun _ => AF → St → Option (AF × St)) (fun fr s => some (fr, s))
    (fun o _ ih fr s => opGo (wantA all fr.T o) cf rec o ih fr s) l

/-! ### Operations in whatever order -/
/-- what an operation came to: its value; the blocks that it touched; memory behind it; the next number ahead of it and behind it; what it knew of memory; the temporaries that it looks at or writes; the one that it writes; those ahead of it, a bit each -/
structure Did where
  v : Value
  t : List Nat
  h : TR AObj
  n0 : Nat
  n1 : Nat
  rv : TR AObj
  nm : List Tmp
  dst : Option Tmp
  m : Nat
def maskAt (ds : List Did) (i : Nat) : Nat := match ds[i]? with
  | some d => d.m
  | none => 0
/-- those ahead of an operation, a bit each -/
def befA (ds : List Did) (o : Oper) : Nat :=
  o.after.toList.foldl (fun m e => cond (Region.binds .any e) (m ||| (2 ^ e.on ||| maskAt ds e.on)) m) 0
/-- some operations' doings laid over what was there -/
def ov {α : Type} (tc : Did → Nat → Bool) (vl : Did → Nat → Option α) (S : Nat → Bool) : Nat → List Did → (Nat → Option α) → Nat → Option α
  | _, [], f => f
  | i, d :: ds, f => ov tc vl S (i + 1) ds (fun b => cond (S i && tc d b) (vl d b) (f b))
def tcT (d : Did) (t : Nat) : Bool := match d.dst with
  | some x => Nat.beq x t
  | none => false
def vlT (d : Did) (_ : Nat) : Option Value := some d.v
def tcH (d : Did) (b : Nat) : Bool := d.t.any (Nat.beq b)
def vlH (d : Did) (b : Nat) : Option AObj := d.h.get b
def setAll (src : TR AObj) : List Nat → TR AObj → TR AObj
  | [], h => h
  | b :: l, h => setAll src l (h.set FU b (src.get b))
def viewH (S : Nat → Bool) : Nat → List Did → TR AObj → TR AObj
  | _, [], h => h
  | i, d :: ds, h => viewH S (i + 1) ds (cond (S i) (setAll d.h d.t h) h)
def setD (v : Value) (T : TR Value) : Option Tmp → TR Value
  | some t => T.set FU t (some v)
  | none => T
def viewT (S : Nat → Bool) : Nat → List Did → TR Value → TR Value
  | _, [], T => T
  | i, d :: ds, T => viewT S (i + 1) ds (cond (S i) (setD d.v T d.dst) T)
def restr {α : Type} (f : Nat → Option α) : List Nat → TR α → TR α
  | [], acc => acc
  | b :: bs, acc => restr f bs (match f b with | some o => cond (small b) (acc.set FU b (some o)) acc | none => acc)
/-- of which blocks an operation knows -/
def domA (cf : Cfg) (T : TR Value) : Op → Option (List Nat)
  | .move _ | .assign _ | .pick .. | .build .. | .nilCheck _ | .binOp .. | .unOp .. | .convert .. | .makeFunc .. | .fieldAddr .. | .field .. | .indexAddr .. | .index .. | .extract .. => some []
  | .alloc _ | .box .. | .buildSlice .. | .makeMap .. | .makeSlice .. => some []
  | .load _ a | .store _ a _ => match ev a cf T with
    | some (.pointer (some ad)) => some [ad.block]
    | _ => none
  | _ => none
/-- temporaries that an operation looks at or writes -/
def namesA (all : List Oper) (o : Oper) : List Tmp :=
  o.dst.toList ++ (o.op.operands.toList.filterMap fun x => match x with | .tmp t => some t | _ => none) ++
    (match o.guard with | some (j, _) => ((all[j]?).bind (·.dst)).toList | none => [])
def okDst (sz : Nat) : Option Tmp → Bool
  | some d => Nat.blt d sz && small d
  | none => true
def okT (n n1 : Nat) (rv : TR AObj) (t : List Nat) : Bool := small n1 && t.all fun b => (Nat.ble n b && Nat.blt b n1) || (rv.get b).isSome
def knowsA (ds : List Did) (s : St) (m : Nat) : Option (List Nat) → TR AObj
  | none => viewH (Nat.testBit m) 0 ds s.h
  | some l => restr (ov tcH vlH (Nat.testBit m) 0 ds s.h.get) l .nil
def seesA (ds : List Did) (fr : AF) (m : Nat) (nm : List Tmp) : AF := { fr with T := restr (ov tcT vlT (Nat.testBit m) 0 ds fr.T.get) nm .nil }
def doneA (n : Nat) (rv : TR AObj) (nm : List Tmp) (dst : Option Tmp) (m : Nat) : Option (Value × St) → Option Did
  | none => none
  | some (v, s') => cond (okT n s'.n rv s'.t) (some ⟨v, s'.t, s'.h, n, s'.n, rv, nm, dst, m⟩) none
def oneA (cf : Cfg) (rec : Task → Option Out) (n : Nat) (fr : AF) (rv : TR AObj) (nm : List Tmp) (o : Oper) (m : Nat) : Option Bool → Option Did
  | none => none
  | some false => some ⟨undef, [], .nil, n, n, .nil, nm, o.dst, m⟩
  | some true => doneA n rv nm o.dst m (operA cf rec fr ⟨rv, n, []⟩ o.op)
def stepD (cf : Cfg) (rec : Task → Option Out) (all : List Oper) (fr : AF) (s : St) (i : Nat) (ds : List Did) (n : Nat) (o : Oper) : Option Did :=
  let m := befA ds o
  let nm := namesA all o
  let fr' := seesA ds fr m nm
  cond (Nat.blt m (2 ^ i) && okDst fr.sz o.dst) (oneA cf rec n fr' (knowsA ds s m (domA cf fr'.T o.op)) nm o m (wantA all fr'.T o)) none
def drawA (cf : Cfg) (rec : Task → Option Out) (all : List Oper) (fr : AF) (s : St) : List Oper → Nat → List Did → Nat → Option (List Did × Nat)
  | [], _, ds, n => some (ds, n)
  | o :: l, i, ds, n => match stepD cf rec all fr s i ds n o with
    | none => none
    | some d => drawA cf rec all fr s l (i + 1) (ds ++ [d]) d.n1
def offT (nm : List Tmp) : Option Tmp → Bool
  | some t => !nm.any (Nat.beq t)
  | none => true
/-- two operations of which neither is ahead of the other keep out of each other's way -/
def offA (di dj : Did) : Bool :=
  di.t.all (fun b => (dj.rv.get b).isNone && !dj.t.any (Nat.beq b)) && dj.t.all (fun b => (di.rv.get b).isNone) && offT di.nm dj.dst && offT dj.nm di.dst
def pairsA (di : Did) : Nat → List Did → Bool
  | _, [] => true
  | j, dj :: l => (di.m.testBit j || offA di dj) && pairsA di (j + 1) l
def apartA : List Did → List Did → Bool
  | _, [] => true
  | pre, d :: l => pairsA d 0 pre && apartA (pre ++ [d]) l
def endL : List Did → List Nat → List Nat
  | [], t => t
  | d :: ds, t => endL ds (d.t ++ t)
def regionA (cf : Cfg) (rec : Task → Option Out) (ops : List Oper) (fr : AF) (s : St) : Option (AF × St) :=
  match drawA cf rec ops fr s ops 0 [] s.n with
  | none => none
  | some (ds, n) => cond (apartA [] ds) (some ({ fr with T := viewT (fun _ => true) 0 ds fr.T }, ⟨viewH (fun _ => true) 0 ds s.h, n, endL ds s.t⟩)) none

def sameS : Value → Value → Bool
  | .bool a, .bool b => a == b
  | .int k a, .int k' b => decide (k = k') && a == b
  | .slice none n c, .slice none n' c' => Nat.beq n n' && Nat.beq c c'
  | .pointer none, .pointer none => true
  | .map none, .map none => true
  | .chan (some i), .chan (some j) => Nat.beq i j
  | .string a, .string b => sameBy a.data.toList b.data.toList
  | _, _ => false
def sameL : List Value → List Value → Bool
  | [], [] => true
  | c :: l, a :: m => sameS c a && sameL l m
  | _, _ => false
def sameP : Value → Value → Bool
  | .agg xs, .agg ys => sameL xs.toList ys.toList
  | a, b => sameS a b
def findR (b : Nat) : List (Nat × Nat) → Option Nat
  | [] => none
  | p :: l => cond (Nat.beq p.1 b) (some p.2) (findR b l)
/-- block b of the known call is b' here -/
def addR (b b' : Nat) (ρ : List (Nat × Nat)) : Option (List (Nat × Nat)) :=
  match findR b ρ with
  | some x => cond (Nat.beq x b') (some ρ) none
  | none => cond (Nat.blt b 1000 && !(ρ.any fun p => Nat.beq p.2 b')) (some ((b, b') :: ρ)) none
/-- a cell of the known call, and one here -/
def matS (c a : Value) (ρ : List (Nat × Nat)) : Option (List (Nat × Nat)) :=
  match c, a with
  | .slice (some ⟨b, o, none⟩) n k, .slice (some ⟨b', o', none⟩) n' k' => cond (Nat.beq o o' && Nat.beq n n' && Nat.beq k k') (addR b b' ρ) none
  | .pointer (some ⟨b, o, none⟩), .pointer (some ⟨b', o', none⟩) => cond (Nat.beq o o') (addR b b' ρ) none
  | c, a => cond (sameS c a) (some ρ) none
def matL : List Value → List Value → List (Nat × Nat) → Option (List (Nat × Nat))
  | [], [], ρ => some ρ
  | c :: l, a :: m, ρ => (matS c a ρ).bind (matL l m)
  | _, _, _ => none
def matV (c a : Value) (ρ : List (Nat × Nat)) : Option (List (Nat × Nat)) :=
  match c, a with
  | .agg xs, .agg ys => matL xs.toList ys.toList ρ
  | c, a => matS c a ρ
def matVs : List Value → List Value → List (Nat × Nat) → Option (List (Nat × Nat))
  | [], [], ρ => some ρ
  | c :: l, a :: m, ρ => (matV c a ρ).bind (matVs l m)
  | _, _, _ => none
def sameG : Option Nat → Option Nat → Bool
  | none, none => true
  | some a, some b => Nat.beq a b
  | _, _ => false
def matB (g : Option Nat) (c : List Value) (ρ : List (Nat × Nat)) : Option AObj → Option (List (Nat × Nat))
  | some (.cells c' g') => cond (sameG g g') (matL c c' ρ) none
  | _ => none
def matH (h : TR AObj) : List (Nat × List Value × Option Nat) → List (Nat × Nat) → Option (List (Nat × Nat))
  | [], ρ => some ρ
  | (b, c, g) :: l, ρ => ((findR b ρ).bind fun b' => matB g c ρ (h.get b')).bind (matH h l)
def memoA (f : FuncId) (args : List Value) (h : TR AObj) (gl : List Nat) : List Mem → Option Value
  | [] => none
  | m :: l => match cond (Nat.beq f m.f) ((matVs m.args args (gl.map fun g => (g, g))).bind (matH h m.h)) none with
    | some _ => some m.v
    | none => memoA f args h gl l
def heapM : List (Nat × List Value × Option Nat) → TR AObj
  | [] => .nil
  | (b, c, g) :: l => (heapM l).set FU b (some (.cells c g))
def xSeq (rec : Task → Option Out) (b : Code) : Option Out → Option Out
  | some (.ex .normal fr s) => rec (.exec b fr s)
  | r => r
def xCond (rec : Task → Option Out) (a b : Code) (fr : AF) (s : St) : Option Value → Option Out
  | some (.bool t) => rec (.exec (cond t a b) fr s)
  | _ => none
def xBlock (id : Nat) : Option Out → Option Out
  | some (.ex (.exit j) fr s) => some (.ex (cond (Nat.beq j id) .normal (.exit j)) fr s)
  | r => r
def xReg (r : Option (AF × St)) : Option Out := r.map fun r => .ex .normal r.1 r.2
/-- a loop's record is done: what is pending goes on -/
def rangeEnd (rec : Task → Option Out) (l : Nat) (fr : AF) (s : St) (L : ALoop) : Option Out :=
  match L.st with
  | .busy => none
  | _ => match L.pend with
    | none => some (.ex .normal fr (s.put l (.loop { L with st := .exhausted })))
    | some c => rec (.exec c fr (s.put l (.loop { L with st := .exhausted })))
def rangeGo (cf : Cfg) (rec : Task → Option Out) (ps : List Tmp) (assign body : Code) (T : TR Value) (sz : Nat) (x : Nat × St × AF) : Value → Option Out
  | .func (.func g) first cap => cond (small x.2.1.n)
      (match rec (.call g (first.toList ++ [.func (.yield x.2.1.n) #[] #[]] ++ cap.toList) (x.2.1.new (.loop ⟨.ready, none, T, sz, ps, assign, body, x.1⟩))) with
        | some (.ret _ s') => (loopAt s' x.2.1.n).bind (rangeEnd rec x.2.1.n x.2.2 s')
        | _ => none) none
  | _ => none
def rangeIn (fr : AF) (s : St) : Option (Nat × St × AF) :=
  match fr.round with
  | some l => (loopAt s l).map fun L => (L.defers, s, fr)
  | none => cond (small s.n) (some (s.n, s.new .deferred, { fr with marks := s.n :: fr.marks })) none
def xRange (cf : Cfg) (rec : Task → Option Out) (f : Operand) (ps : List Tmp) (assign body : Code) (fr : AF) (s : St) : Option Out :=
  (rangeIn fr s).bind fun x => (ev f cf fr.T).bind (rangeGo cf rec ps assign body fr.T fr.sz x)
def execA (c : Code) : Cfg → (Task → Option Out) → AF → St → Option Out :=
  match c with
  | .skip => fun _ _ fr s => some (.ex .normal fr s)
  | .label _ => fun _ _ fr s => some (.ex .normal fr s)
  | .region _ ops draw => fun cf rec fr s => cond draw (xReg (regionA cf rec ops.toList fr s)) (xReg (opsA cf rec ops.toList ops.toList fr s))
  | .seq a b => fun _ rec fr s => xSeq rec b (rec (.exec a fr s))
  | .cond c a b => fun cf rec fr s => xCond rec a b fr s (ev c cf fr.T)
  | .block id c => fun _ rec fr s => xBlock id (rec (.exec c fr s))
  | .loop c => fun _ rec fr s => xSeq rec (.loop c) (rec (.exec c fr s))
  | .exit id => fun _ _ fr s => some (.ex (.exit id) fr s)
  | .ret => fun _ _ fr s => some (.ex .ret fr s)
  | .rangeFunc f ps assign body => fun cf rec fr s => xRange cf rec f ps.toList assign body fr s
  | _ => fun _ _ _ _ => none
def fnEnd (cf : Cfg) (s : St) (rs : List ResultVar) (fr : AF) (s1 : St) : Option Out :=
  (popA s1 fr.marks).bind fun s2 => cond (small s2.n && s2.t.all fun b => Nat.blt b s2.n) ((resA cf fr.T s2 rs).bind fun vs => some (.ret (tupA vs) (gcA s s2 (tupA vs)))) none
def fnOut (cf : Cfg) (s : St) (rs : List ResultVar) : Option Out → Option Out
  | some (.ex .normal fr s1) => fnEnd cf s rs fr s1
  | some (.ex .ret fr s1) => fnEnd cf s rs fr s1
  | _ => none
def fnA (cf : Cfg) (rec : Task → Option Out) (f : FuncId) (args : List Value) (s : St) : Option Out :=
  match cf.ft.get f with
  | none => none
  | some fn => cond (small args.length) (fnOut cf s fn.results (rec (.exec fn.body ⟨argsT .nil 0 args, max args.length fn.ntmps, [], none⟩ ⟨s.h, s.n, []⟩))) none
def callT (m : Option Value) : Cfg → (Task → Option Out) → FuncId → List Value → St → Option Out :=
  match m with
  | some v => fun _ _ _ _ s => some (.ret v s)
  | none => fnA
def stepA (t : Task) : Cfg → (Task → Option Out) → Option Out :=
  match t with
  | .exec c fr s => fun cf rec => execA c cf rec fr s
  | .call f args s => fun cf rec => callT (memoA f args s.h cf.gl cf.memo) cf rec f args s
def runA (cf : Cfg) (f : Nat) : Task → Option Out :=
  Nat.rec (motive := fun _ => Task → Option Out) (fun _ => none) (fun _ ih t => stepA t cf ih) f
end
end Go.Proofs.YtecfnddaniphdaaGreatDoor.AM
