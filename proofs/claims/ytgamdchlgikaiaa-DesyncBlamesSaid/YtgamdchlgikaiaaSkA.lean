/- An evaluator over abstract values: type codes, values, states, the operations of the model as terms over a small free monad, segments of code as trees, and the limit of their runs. -/
import Derived.Calls
import Derived.Orders
import Derived.LoopN
set_option linter.unusedVariables false
namespace Go.Sk
open Go

/-! ### type codes -/
inductive Ty where
  | bool | int (k : IntKind) | str | unit | pair (a b : Ty) | slice (t : Ty)

@[reducible] def El : Ty → Type
  | .bool => Bool
  | .int _ => Int
  | .str => ByteArray
  | .unit => Unit
  | .pair a b => El a × El b
  | .slice t => List (El t)

def Ty.size : Ty → Nat
  | .unit => 0
  | .pair a b => a.size + b.size
  | _ => 1

def eqKind : (a b : IntKind) → Option (PLift (a = b))
  | .i8, .i8 => some ⟨rfl⟩ | .i16, .i16 => some ⟨rfl⟩ | .i32, .i32 => some ⟨rfl⟩ | .i64, .i64 => some ⟨rfl⟩
  | .u8, .u8 => some ⟨rfl⟩ | .u16, .u16 => some ⟨rfl⟩ | .u32, .u32 => some ⟨rfl⟩ | .u64, .u64 => some ⟨rfl⟩
  | _, _ => none

def Ty.eq? : (a b : Ty) → Option (PLift (a = b))
  | .bool, .bool => some ⟨rfl⟩
  | .int k, .int l => match eqKind k l with | some ⟨h⟩ => some ⟨by rw [h]⟩ | none => none
  | .str, .str => some ⟨rfl⟩
  | .unit, .unit => some ⟨rfl⟩
  | .pair a b, .pair c d => match Ty.eq? a c, Ty.eq? b d with | some ⟨h⟩, some ⟨g⟩ => some ⟨by rw [h, g]⟩ | _, _ => none
  | .slice a, .slice b => match Ty.eq? a b with | some ⟨h⟩ => some ⟨by rw [h]⟩ | none => none
  | _, _ => none

def castL {a b : Ty} (h : a = b) (xs : List (El a)) : List (El b) := h ▸ xs

def zeroE : (t : Ty) → El t
  | .bool => false
  | .int _ => 0
  | .str => ByteArray.empty
  | .unit => ()
  | .pair a b => (zeroE a, zeroE b)
  | .slice _ => []

/-! ### abstract values -/
inductive CV where
  | undef
  | bool (b : Bool)
  | int (k : IntKind) (n : Int)
  | str (s : ByteArray)
  | nils (t : Ty)
  | slc (t : Ty) (xs : List (El t))
  | clp (t : Ty) (xs : List (El t))
  | osl (i : Nat)
  | ovw (i off len : Nat)
  | cst (v : Value)          -- a constant of the model's, as it is
  | nilp
  | ptr (i off : Nat)
  | eptr (i idx off : Nat)
  | rptr (cs : List CV)
  | fn (f : FuncId) (caps : List CV)

def CV.isStr : CV → Bool
  | .str _ => true
  | _ => false

inductive V where
  | one (c : CV)
  | agg (cs : List CV)
  | tup (vs : List V)

inductive Obj where
  | dead
  | cells (cs : List CV)
  | row (t : Ty) (xs : List (El t))
  | frz (t : Ty) (xs : List (El t))
  | full (t : Ty) (xs : List (El t))     -- an owned row as long as its capacity
  | ghost (cs : List CV)                 -- no memory: what a call by reference was handed
  | map (kt vt : Ty) (g : Bool) (es : List (El kt × El vt)) (tidy : Bool)     -- a map: g, are its elements aggregates?; tidy: nothing was ever deleted

structure St where
  env : List V
  mem : List Obj

@[reducible] def uv : V := .one .undef
def V.cells : V → List CV
  | .one c => [c]
  | .agg cs => cs
  | .tup _ => []
/-- a value of which not even the number of cells is known, or several values -/
def V.isBad : V → Bool
  | .tup _ => true
  | .one .undef => true
  | _ => false
def V.isOne : V → Bool
  | .one _ => true
  | _ => false
def V.isTup : V → Bool
  | .tup _ => true
  | _ => false

def enc : (t : Ty) → El t → List CV
  | .bool, b => [.bool b]
  | .int k, n => [.int k n]
  | .str, s => [.str s]
  | .unit, _ => []
  | .pair a b, x => enc a x.1 ++ enc b x.2
  | .slice t, xs => [.slc t xs]

def decS (t t' : Ty) (xs : List (El t')) : Option (List (El t)) :=
  match Ty.eq? t' t with
  | some ⟨h⟩ => some (castL h xs)
  | none => none

def decB : List CV → Option (Bool × List CV)
  | .bool b :: r => some (b, r)
  | _ => none
def decI (k : IntKind) : List CV → Option (Int × List CV)
  | .int l n :: r => match eqKind l k with | some _ => some (n, r) | none => none
  | _ => none
def decT : List CV → Option (ByteArray × List CV)
  | .str s :: r => some (s, r)
  | _ => none
def decL (t : Ty) : List CV → Option (List (El t) × List CV)
  | .slc t' xs :: r => match decS t t' xs with | some ys => some (ys, r) | none => none
  | .clp t' xs :: r => match decS t t' xs with | some ys => some (ys, r) | none => none
  | .nils _ :: r => some ([], r)
  | _ => none
/-- reads a value of a code off the head of a list of cells -/
def dec : (t : Ty) → List CV → Option (El t × List CV)
  | .bool, cs => decB cs
  | .int k, cs => decI k cs
  | .str, cs => decT cs
  | .unit, r => some ((), r)
  | .pair a b, r => match dec a r with
    | some (x, r) => (match dec b r with | some (y, r) => some ((x, y), r) | none => none)
    | none => none
  | .slice t, cs => decL t cs

def decAll (t : Ty) (cs : List CV) : Option (El t) :=
  match dec t cs with
  | some (x, []) => some x
  | _ => none

/-! ### results of calls -/
inductive RT where
  | ty (t : Ty)
  | own (t : Ty)
  | cat (a b : RT)
  | nothing
  | keep (c : CV)      -- a cell that stays as it was (a pointer, a function value)
  | map (kt vt : Ty) (g tidy : Bool)
@[reducible] def RT.El : RT → Type
  | .ty t => Sk.El t
  | .own t => List (Sk.El t)
  | .cat a b => a.El × b.El
  | .nothing => Unit
  | .keep _ => Unit
  | .map kt vt _ _ => List (Sk.El kt × Sk.El vt)
inductive VD where      -- a result's form: one cell, or an aggregate
  | one (r : RT) | agg (r : RT)
def VD.rt : VD → RT
  | .one r => r
  | .agg r => r
@[reducible] def ElV : List VD → Type
  | [] => Unit
  | [v] => v.rt.El
  | v :: r => v.rt.El × ElV r
/-- the results' forms; the last ones are those of the objects that were handed over by reference -/
structure RD where
  vals : List VD
  roots : Nat
@[reducible] def RD.El (ρ : RD) : Type := ElV ρ.vals

/-! ### what an operation does, as a term -/
inductive Rd (α : Type) where
  | ret (a : α)
  | fail
  | get (i : Nat) (k : Obj → Rd α)
  | guard (c : Bool) (k : Rd α)
  | split (c : Bool) (x y : Rd α)
  | opt (t : Ty) (o : Option (El t)) (k : El t → Rd α)
  | call (f : FuncId) (args : List V) (mem : List Obj) (ρ : RD) (k : ρ.El → Rd α)

def Rd.bind {α β : Type} : Rd α → (α → Rd β) → Rd β
  | .ret a, f => f a
  | .fail, _ => .fail
  | .get i k, f => .get i fun o => (k o).bind f
  | .guard c k, f => .guard c (k.bind f)
  | .split c x y, f => .split c (x.bind f) (y.bind f)
  | .opt t o k, f => .opt t o fun x => (k x).bind f
  | .call g as m ρ k, f => .call g as m ρ fun x => (k x).bind f
instance : Monad Rd where
  pure := Rd.ret
  bind := Rd.bind

def Rd.ofOption {α : Type} : Option α → Rd α
  | some a => .ret a
  | none => .fail

/-- what an operation leaves: its value and the objects that it writes -/
structure Out where
  v : V
  ws : List (Nat × Obj)

/-! ### numbers of objects -/
def catL {α β : Type} (f : α → List β) : List α → List β
  | [] => []
  | a :: r => f a ++ catL f r
def idsC : Nat → CV → List Nat
  | 0, _ => []
  | d + 1, c =>
    match c with
    | .osl i => [i] | .ovw i _ _ => [i] | .ptr i _ => [i] | .eptr i _ _ => [i]
    | .fn _ cs => catL (idsC d) cs
    | _ => []
def idsCs (cs : List CV) : List Nat := catL (idsC 6) cs
def idsO : Obj → List Nat
  | .cells cs => idsCs cs
  | .ghost cs => idsCs cs
  | _ => []
def idsVs : List V → List Nat
  | [] => []
  | v :: r => idsCs v.cells ++ idsVs r
def hasNat : List Nat → Nat → Bool
  | [], _ => false
  | a :: r, b => Nat.beq a b || hasNat r b
def posOf : List Nat → Nat → Nat → Option Nat
  | [], _, _ => none
  | a :: r, i, n => bif Nat.beq a i then some n else posOf r i (n + 1)
def renC (g : Nat → Option Nat) : Nat → CV → CV
  | 0, _ => .undef
  | d + 1, c =>
    match c with
    | .osl i => match g i with | some j => .osl j | none => .undef
    | .ovw i o n => match g i with | some j => .ovw j o n | none => .undef
    | .ptr i o => match g i with | some j => .ptr j o | none => .undef
    | .eptr i k o => match g i with | some j => .eptr j k o | none => .undef
    | .fn f cs => .fn f (cs.map (renC g d))
    | .rptr cs => .rptr (cs.map (renC g d))
    | c => c
def renCs (g : Nat → Option Nat) (cs : List CV) : List CV := cs.map (renC g 6)
def renV (g : Nat → Option Nat) : V → V
  | .one c => .one (renC g 6 c)
  | .agg cs => .agg (renCs g cs)
  | .tup _ => uv
def renO (g : Nat → Option Nat) : Obj → Obj
  | .cells cs => .cells (renCs g cs)
  | .ghost cs => .ghost (renCs g cs)
  | o => o
def renVs (g : Nat → Option Nat) : List V → List V
  | [] => []
  | v :: r => renV g v :: renVs g r
def firsts : List (Nat × Obj) → List Nat
  | [] => []
  | (i, _) :: r => i :: firsts r
def renPs (g : Nat → Option Nat) : List (Nat × Obj) → List Obj
  | [] => []
  | (_, o) :: r => renO g o :: renPs g r

/-! ### facts of the program, in the form in which the evaluator asks them -/
def tyOf (P : Program) : Nat → TypeId → Option Ty
  | 0, _ => none
  | d + 1, t =>
    match P.underlying t with
    | some .bool => some .bool
    | some (.int k) => some (.int k)
    | some .string => some .str
    | some (.slice e) => (tyOf P d e).map .slice
    | some (.struct fs) => go (fs.toList.map fun f => tyOf P d f.type)
    | _ => none
where
  go : List (Option Ty) → Option Ty
    | [] => some .unit
    | [t] => t
    | some t :: r => (go r).map (.pair t)
    | none :: _ => none

def tyAt (P : Program) (t : TypeId) : Option Ty := tyOf P 12 t
def elemTy (P : Program) (t : TypeId) : Option Ty :=
  match P.underlying t with
  | some (.slice e) => tyAt P e
  | _ => none
def sizeAt (P : Program) (t : TypeId) : Option Nat := (P.info? t).map (·.size)
def bytesAt (P : Program) (t : TypeId) : Option Nat := (P.info? t).map (·.bytes)
def elemBytes (P : Program) (t : TypeId) : Option Nat :=
  match P.underlying t with
  | some (.slice e) => bytesAt P e
  | _ => none
def aggAt (P : Program) (t : TypeId) : Option Bool :=
  match P.underlying t with
  | some (.struct _) | some (.array _ _) => some true
  | some _ => some false
  | none => none

/-- the codes of the cells of a type: a code for a cell that can be told, none for another -/
def cellTys (P : Program) : Nat → TypeId → List (Option Ty)
  | 0, _ => []
  | d + 1, t =>
    match P.underlying t with
    | some (.struct fs) => go (fs.toList.map fun f => cellTys P d f.type)
    | some (.array n e) => go (List.replicate n (cellTys P d e))
    | some _ => [tyAt P t]
    | none => []
where
  go : List (List (Option Ty)) → List (Option Ty)
    | [] => []
    | x :: r => x ++ go r

/-- a constant of the model's, as an abstract cell; the code is that of its type, where it is known -/
def ofConst (t : Option Ty) : Value → CV
  | .bool b => .bool b
  | .int k n => .int k n
  | .string s => .str s
  | .slice none 0 0 => match t with | some (.slice e) => .nils e | _ => .undef
  | .pointer none => .nilp
  | .agg _ => .undef
  | .tuple _ => .undef
  | v => .cst v

def zeroCells (P : Program) (t : TypeId) : Option (List CV) :=
  match (P.info? t).bind (·.zero) with
  | some z => bif (cellTys P 12 t).length == z.cells.size then some (List.zipWith ofConst (cellTys P 12 t) z.cells.toList) else none
  | none => none

/-! ### operations -/
/-- what a function does to what its arguments lead to: it reads alone; it writes; it writes, and the rows are gone -/
inductive RefMode where
  | pure | keep | gone
structure Cfg where
  own : FuncId → Bool          -- are the slices that the function returns new ones, that the caller may write?
  ref : FuncId → RefMode := fun _ => .pure
  cut : FuncId → Bool := fun _ => false
  prim : FuncId → List V → List Obj → (ρ : RD) → Option ρ.El := fun _ _ _ _ => none

section
variable (P : Program) (C : Cfg)

def mapR {α β : Type} (f : α → Rd β) : List α → Rd (List β)
  | [] => .ret []
  | c :: r => (f c).bind fun c => (mapR f r).bind fun r => .ret (c :: r)
def catR {α β : Type} (f : α → Rd (List β)) : List α → Rd (List β)
  | [] => .ret []
  | c :: r => (f c).bind fun a => (catR f r).bind fun b => .ret (a ++ b)
/-- a cell as data alone: what is owned is read -/
def dataC : CV → Rd CV
  | .osl i => .get i fun
    | .row t xs => .ret (.slc t xs)
    | .frz t xs => .ret (.slc t xs)
    | _ => .fail
  | .ovw i o n => .get i fun
    | .row t xs => .guard (decide (o + n ≤ xs.length)) (.ret (.slc t ((xs.drop o).take n)))
    | .frz t xs => .guard (decide (o + n ≤ xs.length)) (.ret (.slc t ((xs.drop o).take n)))
    | _ => .fail
  | .bool b => .ret (.bool b)
  | .int k n => .ret (.int k n)
  | .str s => .ret (.str s)
  | .nils t => .ret (.nils t)
  | .slc t xs => .ret (.slc t xs)
  | .clp t xs => .ret (.clp t xs)
  | _ => .fail
def dataCs (cs : List CV) : Rd (List CV) := mapR dataC cs
/-- the rows that cells are -/
def rowsD : List CV → List Nat
  | [] => []
  | .osl i :: r => i :: rowsD r
  | .ovw i _ _ :: r => i :: rowsD r
  | _ :: r => rowsD r
/-- a cell that may be handed to a function that reads alone -/
def pureC : Nat → CV → Rd CV
  | 0, _ => .fail
  | d + 1, c =>
    match c with
    | .ptr i o => .get i fun
      | .cells cs => (mapR (pureC d) cs).bind fun cs => .ret (.rptr (cs.drop o))
      | _ => .fail
    | .eptr i k o => .get i fun
      | .row t xs => .opt t xs[k]? fun x => .ret (.rptr ((enc t x).drop o))
      | .frz t xs => .opt t xs[k]? fun x => .ret (.rptr ((enc t x).drop o))
      | _ => .fail
    | .fn f cs => (mapR (pureC d) cs).bind fun cs => .ret (.fn f cs)
    | .rptr cs => (mapR (pureC d) cs).bind fun cs => .ret (.rptr cs)
    | .cst v => .ret (.cst v)
    | .nilp => .ret .nilp
    | .undef => .ret .undef
    | c => dataC c

def pureCs (cs : List CV) : Rd (List CV) := mapR (pureC 6) cs
def pureV : V → Rd V
  | .one c => (pureC 6 c).bind fun c => .ret (.one c)
  | .agg cs => (pureCs cs).bind fun cs => .ret (.agg cs)
  | .tup _ => .fail
def pureVs : List V → Rd (List V)
  | [] => .ret []
  | v :: r => (pureV v).bind fun v => (pureVs r).bind fun r => .ret (v :: r)

/-- the rows that a cell leads to -/
def rowsC : Nat → CV → Rd (List Nat)
  | 0, _ => .fail
  | d + 1, c =>
    match c with
    | .osl i => .ret [i]
    | .ovw i _ _ => .ret [i]
    | .ptr i _ => .get i fun
      | .cells cs => catR (rowsC d) cs
      | _ => .fail
    | .eptr _ _ _ => .ret []
    | .rptr cs => catR (rowsC d) cs
    | .fn _ cs => catR (rowsC d) cs
    | _ => .ret []
def rowsCs (cs : List CV) : Rd (List Nat) := catR (rowsC 6) cs
def rowsVs : List V → Rd (List Nat)
  | [] => .ret []
  | v :: r => (rowsCs v.cells).bind fun a => (rowsVs r).bind fun b => .ret (a ++ b)
/-- rows that are frozen from here on -/
def freeze : List Nat → Rd (List (Nat × Obj))
  | [] => .ret []
  | i :: r => .get i fun
    | .row t xs => (freeze r).bind fun ws => .ret ((i, .frz t xs) :: ws)
    | .frz _ _ => freeze r
    | _ => .fail

def splice (cs : List CV) (off : Nat) (new : List CV) : List CV := cs.take off ++ new ++ cs.drop (off + new.length)

/-- the cells at an address -/
def loadC (n : Nat) : CV → Rd (List CV)
  | .ptr i o => .get i fun
    | .cells cs => .ret ((cs.drop o).take n)
    | _ => .fail
  | .eptr i k o => .get i fun
    | .row t xs => .opt t xs[k]? fun x => .ret (((enc t x).drop o).take n)
    | .frz t xs => .opt t xs[k]? fun x => .ret (((enc t x).drop o).take n)
    | _ => .fail
  | .rptr cs => .ret (cs.take n)
  | _ => .fail

def mkV (agg : Bool) (cs : List CV) : Rd V :=
  match agg, cs with
  | true, cs => .ret (.agg cs)
  | false, [c] => .ret (.one c)
  | _, _ => .fail

def idx {α : Type} (xs : List α) (i : Int) : Option α := if 0 ≤ i then xs[i.toNat]? else none
def byteAt (s : ByteArray) (i : Int) : Option Int := if 0 ≤ i then (s[i.toNat]?).map fun b => (b.toNat : Int) else none

def intOp (op : BinOp) (k : IntKind) (a b : Int) : Rd CV :=
  match op with
  | .add => .ret (.int k (k.wrap (a + b)))
  | .sub => .ret (.int k (k.wrap (a - b)))
  | .mul => .ret (.int k (k.wrap (a * b)))
  | .quo => .guard (!(b == 0)) (.ret (.int k (k.wrap (a.tdiv b))))
  | .rem => .guard (!(b == 0)) (.ret (.int k (a.tmod b)))
  | .and => .ret (.int k (k.wrap (BitVec.ofInt k.bits a &&& BitVec.ofInt k.bits b).toNat))
  | .or => .ret (.int k (k.wrap (BitVec.ofInt k.bits a ||| BitVec.ofInt k.bits b).toNat))
  | .xor => .ret (.int k (k.wrap (BitVec.ofInt k.bits a ^^^ BitVec.ofInt k.bits b).toNat))
  | .andNot => .ret (.int k (k.wrap (BitVec.ofInt k.bits a &&& ~~~ BitVec.ofInt k.bits b).toNat))
  | .eql => .ret (.bool (a == b))
  | .neq => .ret (.bool (a != b))
  | .lss => .ret (.bool (decide (a < b)))
  | .leq => .ret (.bool (decide (a ≤ b)))
  | .gtr => .ret (.bool (decide (a > b)))
  | .geq => .ret (.bool (decide (a ≥ b)))
  | _ => .fail

def shiftOp (op : BinOp) (k : IntKind) (a b : Int) : Rd CV :=
  match op with
  | .shl => .guard (decide (0 ≤ b)) (.ret (.int k (k.wrap (a * 2 ^ min b.toNat k.bits))))
  | .shr => .guard (decide (0 ≤ b)) (.ret (.int k (a.fdiv (2 ^ min b.toNat k.bits))))
  | _ => .fail

def strOp (op : BinOp) (a b : ByteArray) : Rd CV :=
  match op with
  | .add => .guard (decide (a.size + b.size ≤ 9223372036854775807)) (.ret (.str (a ++ b)))
  | .eql => .ret (.bool (a.toList == b.toList))
  | .neq => .ret (.bool (!(a.toList == b.toList)))
  | .lss => .ret (.bool (Op.bytesLess a.toList b.toList))
  | .leq => .ret (.bool (Op.bytesLess a.toList b.toList || a.toList == b.toList))
  | .gtr => .ret (.bool (!(Op.bytesLess a.toList b.toList || a.toList == b.toList)))
  | .geq => .ret (.bool (!Op.bytesLess a.toList b.toList))
  | _ => .fail

def isBoolT (t : TypeId) : Bool := match P.underlying t with | some .bool => true | _ => false
def binC (op : BinOp) (bt : Bool) (x y : CV) : Rd CV :=
  match x, y with
  | .int k a, .int l b =>
    match op with
    | .shl => shiftOp .shl k a b
    | .shr => shiftOp .shr k a b
    | op => match eqKind k l with | some _ => intOp op k a b | none => .fail
  | .str a, .str b => strOp op a b
  | .bool a, .bool b => match op, bt with | .eql, true => .ret (.bool (a == b)) | .neq, true => .ret (.bool (!(a == b))) | _, _ => .fail
  | _, _ => .fail

/-- '==' of structs of scalars -/
def eqC (P : Program) (t : TypeId) : Option CV → Option CV → Option Bool
  | some (.bool a), some (.bool b) => (match P.underlying t with | some .bool => some (a == b) | _ => none)
  | some (.int k a), some (.int l b) => (match P.underlying t, eqKind k l with | some (.int _), some _ => some (a == b) | _, _ => none)
  | some (.str a), some (.str b) => (match P.underlying t with | some .string => some (a.toList == b.toList) | _ => none)
  | _, _ => none
def eqF (P : Program) : List Field → List CV → List CV → Option Bool
  | [], _, _ => some true
  | [f], cs, ds => bif f.name == "_" then none else eqC P f.type cs[f.offset]? ds[f.offset]?
  | f :: g :: r, cs, ds => bif f.name == "_" then none else (match eqC P f.type cs[f.offset]? ds[f.offset]?, eqF P (g :: r) cs ds with
    | some a, some b => some (a && b)
    | _, _ => none)
def binA (P : Program) (op : BinOp) (t : TypeId) (cs ds : List CV) : Rd CV :=
  match P.underlying t with
  | some (.struct fs) => bif P.stoodInHeld t || P.eqGuardType P.depth t then .fail else
    (match eqF P fs.toList cs ds, op with
    | some b, .eql => .ret (.bool b)
    | some b, .neq => .ret (.bool (!b))
    | _, _ => .fail)
  | _ => .fail

def unC (op : UnOp) (x : CV) : Rd CV :=
  match op, x with
  | .not, .bool b => .ret (.bool (!b))
  | .neg, .int k n => .ret (.int k (k.wrap (0 - n)))
  | .xor, .int k n => .ret (.int k (k.wrap (BitVec.ofInt k.bits (if k.signed then -1 else k.max) ^^^ BitVec.ofInt k.bits n).toNat))
  | _, _ => .fail

/-- the elements of a slice -/
def elems (t : Ty) : CV → Rd (List (El t))
  | .nils _ => .ret []
  | .slc t' xs => .ofOption (decS t t' xs)
  | .clp t' xs => .ofOption (decS t t' xs)
  | .osl i => .get i fun
    | .row t' xs => .ofOption (decS t t' xs)
    | .frz t' xs => .ofOption (decS t t' xs)
    | _ => .fail
  | .ovw i o n => .get i fun
    | .row t' xs => (Rd.ofOption (decS t t' xs)).bind fun xs => .guard (decide (o + n ≤ xs.length)) (.ret ((xs.drop o).take n))
    | .frz t' xs => (Rd.ofOption (decS t t' xs)).bind fun xs => .guard (decide (o + n ≤ xs.length)) (.ret ((xs.drop o).take n))
    | _ => .fail
  | _ => .fail

def strElems (s : ByteArray) : (e : Ty) → Rd (List (El e))
  | .int .u8 => .ret (s.data.toList.map fun c => (c.toNat : Int))
  | _ => .fail
def srcElems (e : Ty) : CV → Rd (List (El e))
  | .str s => strElems s e
  | b => elems e b

def lenS : CV → Rd CV
  | .nils _ => .ret (.int .i64 0)
  | .slc _ xs => .ret (.int .i64 xs.length)
  | .clp _ xs => .ret (.int .i64 xs.length)
  | .osl i => .get i fun
    | .row _ xs => .ret (.int .i64 xs.length)
    | .frz _ xs => .ret (.int .i64 xs.length)
    | _ => .fail
  | .ovw i _ n => .get i fun
    | .row _ _ => .ret (.int .i64 n)
    | .frz _ _ => .ret (.int .i64 n)
    | _ => .fail
  | _ => .fail
def lenM : CV → Rd CV
  | .osl i => .get i fun
    | .map _ _ _ es _ => .ret (.int .i64 es.length)
    | _ => .fail
  | _ => .fail
def lenC (t : TypeId) : CV → Rd CV
  | .str s => match P.underlying t with
    | some .string => .ret (.int .i64 s.size)
    | _ => .fail
  | c => match P.underlying t with
    | some (.slice _) => lenS c
    | some (.map _ _) => lenM c
    | _ => .fail

def indexAddrC (sz : Nat) (x : CV) (i : Int) : Rd CV :=
  match x with
  | .slc t xs => bif t.size == sz then .opt t (idx xs i) fun e => .ret (.rptr (enc t e)) else .fail
  | .clp t xs => bif t.size == sz then .opt t (idx xs i) fun e => .ret (.rptr (enc t e)) else .fail
  | .osl j => .get j fun
    | .row t xs => bif t.size == sz then .guard (decide (0 ≤ i) && decide (i < xs.length)) (.ret (.eptr j i.toNat 0)) else .fail
    | .frz t xs => bif t.size == sz then .guard (decide (0 ≤ i) && decide (i < xs.length)) (.ret (.eptr j i.toNat 0)) else .fail
    | _ => .fail
  | .ovw j o n => .get j fun
    | .row t xs => bif t.size == sz then .guard (decide (0 ≤ i) && decide (i < n)) (.ret (.eptr j (o + i.toNat) 0)) else .fail
    | .frz t xs => bif t.size == sz then .guard (decide (0 ≤ i) && decide (i < n) && decide (o + i.toNat < xs.length)) (.ret (.eptr j (o + i.toNat) 0)) else .fail
    | _ => .fail
  | _ => .fail
def elemSize (t : TypeId) : Option Nat :=
  match P.underlying t with
  | some (.slice e) => sizeAt P e
  | _ => none

def fieldOff (t : TypeId) (f : Nat) : Option (Nat × Nat × Bool) :=
  match P.underlying t with
  | some (.struct fs) => match fs[f]? with
    | some f => match sizeAt P f.type, aggAt P f.type with
      | some n, some a => some (f.offset, n, a)
      | _, _ => none
    | none => none
  | _ => none

def fieldAddrC (off n : Nat) (x : CV) : Rd CV :=
  match n with
  | 0 => .fail
  | _ => match x with
    | .ptr i o => .get i fun
      | .cells _ => .ret (.ptr i (o + off))
      | _ => .fail
    | .eptr i k o => .get i fun
      | .row _ _ => .ret (.eptr i k (o + off))
      | .frz _ _ => .ret (.eptr i k (o + off))
      | _ => .fail
    | .rptr cs => .ret (.rptr (cs.drop off))
    | _ => .fail

/-- fills parts into the cells of a zero -/
def fillC (place : Nat → Option (Nat × Nat)) : List CV → List (Nat × V) → Rd (List CV)
  | cs, [] => .ret cs
  | cs, (i, v) :: r => match place i with
    | some (off, n) => bif v.cells.length == n && decide (off + n ≤ cs.length) then fillC place (splice cs off v.cells) r else .fail
    | none => .fail

def chunk (t : Ty) : Nat → List CV → Option (List (El t))
  | 0, [] => some []
  | 0, _ => none
  | n + 1, cs => match dec t cs with
    | some (x, r) => (match chunk t n r with | some xs => some (x :: xs) | none => none)
    | none => none

def placesL : List Field → Option (List (Nat × Nat))
  | [] => some []
  | f :: r => match sizeAt P f.type, placesL r with
    | some n, some l => some ((f.offset, n) :: l)
    | _, _ => none
def placesOf (t : TypeId) : Option (Nat → Option (Nat × Nat)) :=
  match P.underlying t with
  | some (.struct fs) => match placesL P fs.toList with
    | some l => some fun i => l[i]?
    | none => none
  | some (.array _ e) => match sizeAt P e with
    | some n => some fun i => some (i * n, n)
    | none => none
  | _ => none

def partTy (t : TypeId) (i : Nat) : Option Ty :=
  match P.underlying t with
  | some (.struct fs) => (fs[i]?).bind fun f => tyAt P f.type
  | some (.array _ e) => tyAt P e
  | _ => none
def known : List CV → Bool
  | [] => true
  | .undef :: _ => false
  | _ :: r => known r
def noTups : List V → Bool
  | [] => true
  | v :: r => !v.isBad && noTups r


def sliceS (s : ByteArray) (l : Int) (h m : Option Int) : Rd CV :=
  match m with
  | none => let h := h.getD s.size
    .guard (decide (0 ≤ l) && decide (l ≤ h) && decide (h ≤ s.size)) (.ret (.str (s.extract l.toNat h.toNat)))
  | some _ => .fail
/-- a slice expression over a slice; its capacity is at least its length -/
def sliceD (t : Ty) (xs : List (El t)) (l : Int) (h m : Option Int) : Rd CV :=
  match m with
  | none => let h := h.getD xs.length
    .guard (decide (0 ≤ l) && decide (l ≤ h) && decide (h ≤ xs.length)) (.ret (.slc t ((xs.take h.toNat).drop l.toNat)))
  | some m => match h with
    | some h => .guard (decide (0 ≤ l) && decide (l ≤ h) && decide (h = m) && decide (m ≤ xs.length)) (.ret (.clp t ((xs.take h.toNat).drop l.toNat)))
    | none => .fail
def sliceC (sz : Nat) (x : CV) (l : Int) (h m : Option Int) : Rd CV :=
  match x with
  | .slc t xs => bif t.size == sz then sliceD t xs l h m else .fail
  | .clp t xs => bif t.size == sz then sliceD t xs l h m else .fail
  | .nils t => bif m.isSome && !h.isSome then .fail else
    .guard (decide (l = 0) && decide (h.getD 0 = 0) && decide (m.getD 0 = 0)) (.ret (.nils t))
  | .osl i => .get i fun
    | .row t xs => bif t.size == sz && !m.isSome then
        let h := h.getD xs.length
        .guard (decide (0 ≤ l) && decide (l ≤ h) && decide (h ≤ xs.length)) (.ret (.ovw i l.toNat (h - l).toNat))
      else .fail
    | .frz t xs => bif t.size == sz then sliceD t xs l h m else .fail
    | _ => .fail
  | .ovw i o n => .get i fun
    | .row t _ => bif t.size == sz && !m.isSome then
        let h := h.getD n
        .guard (decide (0 ≤ l) && decide (l ≤ h) && decide (h ≤ n)) (.ret (.ovw i (o + l.toNat) (h - l).toNat))
      else .fail
    | .full t xs => bif t.size == sz && !m.isSome then
        let h := h.getD n
        .guard (decide (0 ≤ l) && decide (l ≤ h) && decide (o + h ≤ xs.length)) (.ret (.ovw i (o + l.toNat) (h - l).toNat))
      else .fail
    | _ => .fail
  | _ => .fail

def intOf? : V → Option Int
  | .one (.int _ n) => some n
  | _ => none
def optInt : Option V → Option (Option Int)
  | none => some none
  | some v => (intOf? v).map some

def isFlat : Ty → Bool
  | .slice _ => false
  | .pair a b => isFlat a && isFlat b
  | _ => true

/-! the form of a call's results -/
def rtCells : Bool → List (Option Ty) → Option RT
  | _, [] => some .nothing
  | own, some t :: r => match rtCells own r with
    | some q => some (.cat (match own, t with | true, .slice e => .own e | _, t => .ty t) q)
    | none => none
  | _, none :: _ => none
def rtOf (own : Bool) (t : TypeId) : Option VD :=
  match aggAt P t with
  | some true =>
    match own with
    | false => (tyAt P t).map fun c => .agg (.ty c)
    | true => match tyAt P t with
      | some c => if isFlat c then some (.agg (.ty c)) else (rtCells true (cellTys P 12 t)).map .agg
      | none => none
  | some false => match own, tyAt P t with
    | true, some (.slice e) => some (.one (.own e))
    | _, some c => some (.one (.ty c))
    | _, none => none
  | none => none
def rtsOf (own : Bool) : List TypeId → Option (List VD)
  | [] => some []
  | t :: r => match rtOf P own t, rtsOf own r with
    | some d, some ds => some (d :: ds)
    | _, _ => none
def resTypes (f : FuncId) : List TypeId := match P.funcs[f]? with | some fn => fn.resultTypes.toList | none => []
def RT.flat : RT → Bool
  | .ty t => isFlat t
  | .own _ => false
  | .cat a b => a.flat && b.flat
  | .nothing => true
  | .keep _ => false
  | .map .. => false
def flatVals : List VD → Bool
  | [] => true
  | v :: r => v.rt.flat && flatVals r

/-- a result's cells out of what it was told as, its new objects from an id on -/
def packRT : (r : RT) → r.El → Nat → List CV × List Obj
  | .ty t, x, _ => (enc t x, [])
  | .own t, xs, n => ([.osl n], [.row t xs])
  | .cat a b, x, n => let (c, o) := packRT a x.1 n; let (d, q) := packRT b x.2 (n + o.length); (c ++ d, o ++ q)
  | .nothing, _, _ => ([], [])
  | .keep c, _, _ => ([c], [])
  | .map kt vt g b, es, n => ([.osl n], [.map kt vt g es b])
def packVD (d : VD) (x : d.rt.El) (n : Nat) : V × List Obj :=
  match d, x with
  | .one r, x => match packRT r x n with | ([c], o) => (.one c, o) | (_, o) => (uv, o)
  | .agg r, x => let (cs, o) := packRT r x n; (.agg cs, o)
def packVs : (ds : List VD) → ElV ds → Nat → List V × List Obj
  | [], _, _ => ([], [])
  | [d], x, n => let (v, o) := packVD d x n; ([v], o)
  | d :: e :: r, x, n => let (v, o) := packVD d x.1 n; let (vs, q) := packVs (e :: r) x.2 (n + o.length); (v :: vs, o ++ q)
def tupV : List V → V
  | [v] => v
  | vs => .tup vs
def numbered : Nat → List Obj → List (Nat × Obj)
  | _, [] => []
  | n, o :: r => (n, o) :: numbered (n + 1) r

def ownCount : RT → Nat
  | .own _ => 1
  | .map .. => 1
  | .cat a b => ownCount a + ownCount b
  | _ => 0
def ownCounts : List VD → Nat
  | [] => 0
  | d :: r => ownCount d.rt + ownCounts r

/-- a call of a function that reads what it is handed -/
def callPure (f : FuncId) (args : List V) (id : Nat) : Rd Out :=
  match rtsOf P (C.own f) (resTypes P f) with
  | none => .fail
  | some ds =>
    (pureVs args).bind fun as =>
    (bif flatVals ds then .ret [] else (rowsVs args).bind freeze).bind fun ws =>
    .call f as [] ⟨ds, 0⟩ fun x =>
      let (vs, os) := packVs ds x id
      .ret ⟨tupV vs, ws ++ numbered id os⟩

def isGhost : Obj → Bool
  | .ghost _ => true
  | _ => false
/-- all objects that numbers lead to, in the order in which they are met -/
def grab : Nat → List Nat → List (Nat × Obj) → Rd (List (Nat × Obj))
  | 0, _, _ => .fail
  | _ + 1, [], acc => .ret acc
  | n + 1, i :: r, acc => bif hasNat (firsts acc) i then grab n r acc else .get i fun o => bif isGhost o then .fail else grab n (idsO o ++ r) (acc ++ [(i, o)])
def lookO : List (Nat × Obj) → Nat → Obj
  | [], _ => .dead
  | (i, o) :: r, j => bif Nat.beq i j then o else lookO r j
/-- the form of a cell of an object that is handed over -/
def cellRT (acc : List (Nat × Obj)) : CV → Option RT
  | .bool _ => some (.ty .bool)
  | .int k _ => some (.ty (.int k))
  | .str _ => some (.ty .str)
  | .slc t _ => some (.ty (.slice t))
  | .clp t _ => some (.ty (.slice t))
  | .nils t => some (.own t)
  | .osl i => match lookO acc i with
    | .row t _ => some (.own t)
    | .frz t _ => some (.ty (.slice t))
    | .full t _ => some (.own t)
    | .map kt vt g _ b => some (.map kt vt g b)
    | _ => none
  | .ovw i _ _ => match lookO acc i with
    | .row t _ => some (.own t)
    | .frz t _ => some (.ty (.slice t))
    | .full t _ => some (.own t)
    | _ => none
  | _ => none
def cellsRT (acc : List (Nat × Obj)) : List CV → Option RT
  | [] => some .nothing
  | [c] => cellRT acc c
  | c :: r => match cellRT acc c, cellsRT acc r with
    | some a, some b => some (.cat a b)
    | _, _ => none
/-- the objects that are handed over and come back: the cell that leads to them, and their forms -/
def rootsOf (mode : RefMode) (acc : List (Nat × Obj)) : List Nat → Option (List (Nat × CV × VD))
  | [] => some []
  | i :: r => match rootsOf mode acc r with
    | none => none
    | some l => bif hasNat r i then some l else
      match lookO acc i with
      | .cells [c] => (match cellRT acc c with | some t => some ((i, .ptr i 0, .one t) :: l) | none => none)
      | .cells cs => (match cellsRT acc cs with | some t => some ((i, .ptr i 0, .agg t) :: l) | none => none)
      | .row t _ => (match mode with | .keep => some ((i, .osl i, .one (.own t)) :: l) | _ => some l)
      | .full t _ => (match mode with | .keep => some ((i, .osl i, .one (.own t)) :: l) | _ => some l)
      | .map kt vt g _ b => some ((i, .osl i, .one (.map kt vt g b)) :: l)
      | _ => some l
def rootVDs : List (Nat × CV × VD) → List VD
  | [] => []
  | (_, _, d) :: r => d :: rootVDs r
def rootCVs : List (Nat × CV × VD) → List CV
  | [] => []
  | (_, c, _) :: r => c :: rootCVs r
/-- what was handed over is no more; what comes back is laid anew -/
def killed : List (Nat × Obj) → List (Nat × Obj)
  | [] => []
  | (i, o) :: r => match o with
    | .cells _ => (i, .dead) :: killed r
    | .row _ _ => (i, .dead) :: killed r
    | .full _ _ => (i, .dead) :: killed r
    | .map .. => (i, .dead) :: killed r
    | _ => killed r
def rootWs (os : List (Nat × Obj)) : List (Nat × CV × VD) → List V → List (Nat × Obj)
  | (i, .ptr _ _, _) :: r, v :: vs => (i, .cells v.cells) :: rootWs os r vs
  | (i, .osl _, _) :: r, .one (.osl n) :: vs => (i, lookO os n) :: (n, .dead) :: rootWs os r vs
  | _ :: r, _ :: vs => rootWs os r vs
  | _, _ => []
def refRoom : Nat := 16
/-- a call of a function that writes what it is handed -/
def callRef (mode : RefMode) (f : FuncId) (args : List V) (id : Nat) : Rd Out :=
  match rtsOf P (C.own f) (resTypes P f) with
  | none => .fail
  | some ds =>
    (grab 200 (idsVs args) []).bind fun acc =>
    bif hasNat (firsts acc) id then .fail else
    match rootsOf mode acc (idsVs args) with
    | none => .fail
    | some rs =>
      let g := fun i => posOf (id :: firsts acc) i 0
      bif decide (ownCounts (ds ++ rootVDs rs) ≤ ownCounts ds + refRoom) then
        .call f (renVs g args) (.ghost (renCs g (rootCVs rs)) :: renPs g acc) ⟨ds ++ rootVDs rs, rs.length⟩ fun x =>
          let (vs, os) := packVs (ds ++ rootVDs rs) x id
          .ret ⟨tupV (vs.take ds.length), killed acc ++ (numbered id os ++ rootWs (numbered id os) rs (vs.drop ds.length))⟩
      else .fail

def callee (c : Call) (f : V) : Option (FuncId × List CV) :=
  match c.callee, f with
  | .value _, .one (.fn g caps) => some (g, caps)
  | _, _ => none

def srcOk (tx : TypeId) (b : CV) : Bool :=
  match P.underlying tx, b.isStr with
  | some .string, true => true
  | some (.slice _), false => true
  | _, _ => false
/-- a slice type's element: its code, its bytes, its cells -/
def elemInfo (t : TypeId) : Option (Ty × Nat × Nat) :=
  match P.underlying t with
  | some (.slice e) => match tyAt P e, bytesAt P e, sizeAt P e, zeroCells P e with
    | some te, some b, some sz, some z => bif te.size == sz && decide (0 < b) && decide (0 < sz) && z.length == sz && (decAll te z).isSome then some (te, b, sz) else none
    | _, _, _, _ => none
  | _ => none
def elemZero (t : TypeId) : Option (List CV) :=
  match P.underlying t with
  | some (.slice e) => zeroCells P e
  | _ => none
def appendC (t tx : TypeId) (x y : V) (id : Nat) : Rd Out :=
  match elemInfo P t, x, y with
  | some (e, by_, _), .one a, .one b =>
    bif !srcOk P tx b then .fail else
    (srcElems e b).bind fun ys =>
    match a with
    | .nils _ => .guard (decide (ys.length * by_ ≤ 140737488355328)) (.ret ⟨.one (.osl id), [(id, .row e ys)]⟩)
    | .clp t' xs => (Rd.ofOption (decS e t' xs)).bind fun xs =>
      .guard ((decide (xs.length = 0) || decide (0 < ys.length)) && decide ((xs.length + ys.length) * by_ ≤ 140737488355328)) (.ret ⟨.one (.osl id), [(id, .row e (xs ++ ys))]⟩)
    | .osl i => .get i fun
      | .row t' xs => (Rd.ofOption (decS e t' xs)).bind fun xs =>
        .guard (decide ((xs.length + ys.length) * by_ ≤ 140737488355328)) (.ret ⟨.one (.osl id), [(i, .dead), (id, .row e (xs ++ ys))]⟩)
      | _ => .fail
    | .ovw i o n => .get i fun
      | .row t' xs => (Rd.ofOption (decS e t' xs)).bind fun xs => .guard (decide (o + n ≤ xs.length)) <|
        .split (decide (o + n + ys.length ≤ xs.length))
          (.ret ⟨.one (.ovw i o (n + ys.length)), [(i, .row e (xs.take (o + n) ++ ys ++ xs.drop (o + n + ys.length)))]⟩)
          (.guard (decide ((n + ys.length) * by_ ≤ 140737488355328)) (.ret ⟨.one (.osl id), [(i, .dead), (id, .row e ((xs.drop o).take n ++ ys))]⟩))
      | _ => .fail
    | _ => .fail
  | _, _, _ => .fail

def copyC (t tx : TypeId) (x y : V) : Rd Out :=
  match elemInfo P t, x, y with
  | some (e, _, _), .one a, .one b =>
    bif !srcOk P tx b then .fail else
    (srcElems e b).bind fun ys =>
    match a with
    | .osl i => .get i fun
      | .row t' xs => (Rd.ofOption (decS e t' xs)).bind fun xs =>
        .ret ⟨.one (.int .i64 (min ys.length xs.length : Nat)), [(i, .row e (ys.take xs.length ++ xs.drop ys.length))]⟩
      | _ => .fail
    | .ovw i o n => .get i fun
      | .row t' xs => (Rd.ofOption (decS e t' xs)).bind fun xs =>
        .guard (decide (o + n ≤ xs.length)) (.ret ⟨.one (.int .i64 (min ys.length n : Nat)), [(i, .row e (xs.take o ++ ys.take n ++ xs.drop (o + min ys.length n)))]⟩)
      | _ => .fail
    | .nils _ => .ret ⟨.one (.int .i64 0), []⟩
    | _ => .fail
  | _, _, _ => .fail

/-- the elements of a slice of the call's own become zero -/
def clearC (t : TypeId) (c : CV) : Rd Out :=
  match elemInfo P t, elemZero P t with
  | some (e, _, _), some z => match decAll e z, c with
    | some x, .osl i => .get i fun
      | .row t' xs => (Rd.ofOption (decS e t' xs)).bind fun xs => .ret ⟨.tup [], [(i, .row e (List.replicate xs.length x))]⟩
      | _ => .fail
    | some x, .ovw i o n => .get i fun
      | .row t' xs => (Rd.ofOption (decS e t' xs)).bind fun xs => .guard (decide (o + n ≤ xs.length)) (.ret ⟨.tup [], [(i, .row e (xs.take o ++ List.replicate n x ++ xs.drop (o + n)))]⟩)
      | _ => .fail
    | _, _ => .fail
  | _, _ => .fail
/-! maps -/
def isKeyT : Ty → Bool
  | .bool => true
  | .int _ => true
  | .str => true
  | _ => false
def eqE : (t : Ty) → El t → El t → Bool
  | .bool, a, b => a == b
  | .int _, a, b => a == b
  | .str, a, b => a == b
  | _, _, _ => false
section
variable (kt vt : Ty)
def mapFind : List (El kt × El vt) → El kt → Option (El vt)
  | [], _ => none
  | p :: r, k => bif eqE kt k p.1 then some p.2 else mapFind r k
def mapPos : List (El kt × El vt) → El kt → Nat
  | [], _ => 0
  | p :: r, k => bif eqE kt k p.1 then 0 else mapPos r k + 1
def mapSet : List (El kt × El vt) → El kt → El vt → List (El kt × El vt)
  | [], k, v => [(k, v)]
  | p :: r, k, v => bif eqE kt k p.1 then (p.1, v) :: r else p :: mapSet r k v
def mapDel : List (El kt × El vt) → El kt → List (El kt × El vt)
  | [], _ => []
  | p :: r, k => bif eqE kt k p.1 then r else p :: mapDel r k
def mapPut : List (El kt × El vt) → Nat → El vt → List (El kt × El vt)
  | [], _, _ => []
  | p :: r, 0, v => (p.1, v) :: r
  | p :: r, n + 1, v => p :: mapPut r n v
end
structure MapInfo where
  kt : Ty
  vt : Ty
  g : Bool
  key : TypeId
  elem : TypeId
  zero : El vt
/-- the zero's shape is as the type says -/
def zeroShape (t : TypeId) (g : Bool) : Bool :=
  match (P.info? t).bind (·.zero) with
  | some (.agg _) => g
  | some _ => !g
  | none => false
def mapInfo (t : TypeId) : Option MapInfo :=
  match P.underlying t with
  | some (.map k e) => match tyAt P k, aggAt P k, tyAt P e, aggAt P e, zeroCells P e with
    | some kt, some false, some vt, some g, some z => bif isKeyT kt && zeroShape P e g then (match decAll vt z with | some x => some ⟨kt, vt, g, k, e, x⟩ | none => none) else none
    | _, _, _, _, _ => none
  | _ => none
def decM (kt vt kt' vt' : Ty) (es : List (El kt' × El vt')) : Option (List (El kt × El vt)) :=
  match Ty.eq? kt' kt, Ty.eq? vt' vt with
  | some ⟨h⟩, some ⟨g⟩ => some (h ▸ g ▸ es)
  | _, _ => none
def keyOfV (kt : Ty) : V → Option (El kt)
  | .one c => decAll kt [c]
  | _ => none
/-- the map that a value leads to, and a key -/
def withMap (I : MapInfo) (m : V) (k : V) (f : Nat → List (El I.kt × El I.vt) → Bool → El I.kt → Rd Out) : Rd Out :=
  match m with
  | .one (.osl i) => .get i fun
    | .map kt' vt' g' es tidy => bif g' == I.g then (match decM I.kt I.vt kt' vt' es, keyOfV I.kt k with
      | some es, some key => f i es tidy key
      | _, _ => .fail) else .fail
    | _ => .fail
  | _ => .fail
/-- a map's element out of a value; the rows in it are frozen -/
def elemOf (I : MapInfo) (v : V) (f : El I.vt → List (Nat × Obj) → Rd Out) : Rd Out :=
  bif V.isBad v || !(V.isOne v == !I.g) then .fail else
  (dataCs v.cells).bind fun ncs => (freeze (rowsD v.cells)).bind fun ws =>
  match decAll I.vt ncs with
  | some x => f x ws
  | none => .fail
def lookupC (t : TypeId) (m k : V) (commaOk : Bool) : Rd Out :=
  match mapInfo P t with
  | some I => withMap I m k fun _ es _ key =>
    (mkV I.g (enc I.vt ((mapFind I.kt I.vt es key).getD I.zero))).bind fun v => .ret ⟨bif commaOk then .tup [v, .one (.bool (mapFind I.kt I.vt es key).isSome)] else v, []⟩
  | none => .fail
def updateC (t : TypeId) (m k v : V) : Rd Out :=
  match mapInfo P t with
  | some I => withMap I m k fun i es tidy key => elemOf I v fun x ws =>
    bif hasNat (rowsD v.cells) i then .fail else
    .ret ⟨.tup [], ws ++ [(i, .map I.kt I.vt I.g (mapSet I.kt I.vt es key x) tidy)]⟩
  | none => .fail
def entryC (t : TypeId) (m k : V) : Rd Out :=
  match mapInfo P t with
  | some I => withMap I m k fun i es tidy key => bif tidy then
      (mkV I.g (enc I.vt ((mapFind I.kt I.vt es key).getD I.zero))).bind fun v =>
      .ret ⟨.tup [v, .one (.int .i64 (mapPos I.kt I.vt es key : Nat))], [(i, .map I.kt I.vt I.g (mapSet I.kt I.vt es key ((mapFind I.kt I.vt es key).getD I.zero)) true)]⟩
    else .fail
  | none => .fail
def entryStoreC (t : TypeId) (m s v : V) : Rd Out :=
  match mapInfo P t, m, s with
  | some I, .one (.osl i), .one (.int .i64 n) => .get i fun
    | .map kt' vt' g' es tidy => bif (g' == I.g) && tidy then (match decM I.kt I.vt kt' vt' es with
      | some es => elemOf I v fun x ws => bif hasNat (rowsD v.cells) i then .fail else
        .guard (decide (0 ≤ n) && decide (n < es.length)) (.ret ⟨.tup [], ws ++ [(i, .map I.kt I.vt I.g (mapPut I.kt I.vt es n.toNat x) true)]⟩)
      | none => .fail) else .fail
    | _ => .fail
  | _, _, _ => .fail
def deleteC (t : TypeId) (m k : V) : Rd Out :=
  match mapInfo P t with
  | some I => withMap I m k fun i es _ key => .ret ⟨.tup [], [(i, .map I.kt I.vt I.g (mapDel I.kt I.vt es key) false)]⟩
  | none => .fail
def makeMapC (t : TypeId) (r : Option V) (id : Nat) : Rd Out :=
  match mapInfo P t with
  | some I => (match r with
    | none => .ret ⟨.one (.osl id), [(id, .map I.kt I.vt I.g [] true)]⟩
    | some (.one (.int _ _)) => .ret ⟨.one (.osl id), [(id, .map I.kt I.vt I.g [] true)]⟩
    | _ => .fail)
  | none => .fail
def mapElemTy (t : TypeId) : Option Ty :=
  match P.underlying t with
  | some (.map _ e) => tyAt P e
  | _ => none
def mapKeyTy (t : TypeId) : Option Ty :=
  match P.underlying t with
  | some (.map k _) => tyAt P k
  | _ => none

def builtinC (b : Builtin) (ts : List TypeId) (vs : List V) (id : Nat) : Rd Out :=
  match b with
  | .len => (match ts, vs with
    | t :: _, [.one c] => (lenC P t c).bind fun c => .ret ⟨.one c, []⟩
    | _, _ => .fail)
  | .append => (match ts, vs with
    | [t, tx], [x, y] => appendC P t tx x y id
    | _, _ => .fail)
  | .copy => (match ts, vs with
    | [t, tx], [x, y] => copyC P t tx x y
    | _, _ => .fail)
  | .delete => (match ts, vs with
    | [t, _], [m, k] => deleteC P t m k
    | _, _ => .fail)
  | .clear => (match ts, vs with
    | t :: _, [.one c] => clearC P t c
    | _, _ => .fail)
  | .min => (match vs with
    | [.one (.int k a), .one (.int l b)] => (match eqKind k l with
      | some _ => .ret ⟨.one (.int k (if b < a then b else a)), []⟩
      | none => .fail)
    | _ => .fail)
  | .max => (match vs with
    | [.one (.int k a), .one (.int l b)] => (match eqKind k l with
      | some _ => .ret ⟨.one (.int k (if b > a then b else a)), []⟩
      | none => .fail)
    | _ => .fail)
  | _ => .fail

def convC (src dst : TypeId) (x : CV) : Rd CV :=
  match P.underlying src, P.underlying dst, x with
  | some _, some (.int k), .int _ n => .ret (.int k (k.wrap n))
  | some _, some .string, .str s => .ret (.str s)
  | _, _, _ => .fail

/-- an operation's meaning: its operands are values already; id: the first of its own new objects -/
def semOp (o : Op) (ty : TypeId) (ev : Operand → Option Ty → V) (id : Nat) : Rd Out :=
  let one (c : Rd CV) : Rd Out := c.bind fun c => .ret ⟨.one c, []⟩
  match o with
  | .move x | .assign x => .ret ⟨ev x (tyAt P ty), []⟩
  | .pick c a b => match ev c none with
    | .one (.bool t) => .split t (.ret ⟨ev a (tyAt P ty), []⟩) (.ret ⟨ev b (tyAt P ty), []⟩)
    | _ => .fail
  | .alloc t => match zeroCells P t with
    | some cs => .ret ⟨.one (.ptr id 0), [(id, .cells cs)]⟩
    | none => .fail
  | .box t x => let v := ev x (tyAt P t); bif v.isBad then .fail else .ret ⟨.one (.ptr id 0), [(id, .cells v.cells)]⟩
  | .load t a => match ev a none, sizeAt P t, aggAt P t with
    | .one c, some n, some g => (loadC n c).bind fun cs => bif cs.length == n then (mkV g cs).bind fun v => .ret ⟨v, []⟩ else .fail
    | _, _, _ => .fail
  | .store t a x => match ev a none, sizeAt P t with
    | .one c, some n =>
      let v := ev x (tyAt P t)
      bif v.cells.length == n && !v.isBad then
        (match c with
        | .ptr i o => .get i fun
          | .cells cs => bif decide (o + n ≤ cs.length) && known v.cells then .ret ⟨.tup [], [(i, .cells (splice cs o v.cells))]⟩ else .fail
          | _ => .fail
        | .eptr i k o => .get i fun
          | .row t' xs => .opt t' xs[k]? fun e =>
            (dataCs v.cells).bind fun ncs => (freeze (rowsD v.cells)).bind fun ws =>
            match decAll t' (splice (enc t' e) o ncs) with
            | some e' => bif (rowsD v.cells).contains i || !decide (o + n ≤ t'.size) then .fail else .ret ⟨.tup [], ws ++ [(i, .row t' (xs.set k e'))]⟩
            | none => .fail
          | _ => .fail
        | _ => .fail)
      else .fail
    | _, _ => .fail
  | .nilCheck x => match ev x none with
    | .one (.ptr i o) => .get i fun
      | .cells _ => .ret ⟨.one (.ptr i o), []⟩
      | _ => .fail
    | .one (.eptr i k o) => .get i fun
      | .row _ _ => .ret ⟨.one (.eptr i k o), []⟩
      | .frz _ _ => .ret ⟨.one (.eptr i k o), []⟩
      | _ => .fail
    | .one (.rptr cs) => .ret ⟨.one (.rptr cs), []⟩
    | .one (.fn f cs) => .ret ⟨.one (.fn f cs), []⟩
    | _ => .fail
  | .binOp op t x y u => match ev x (tyAt P t), ev y (tyAt P u) with
    | .one a, .one b => one (binC op (isBoolT P t) a b)
    | .agg a, .agg b => one (binA P op t a b)
    | _, _ => .fail
  | .unOp op _ x => match ev x none with
    | .one a => one (unC op a)
    | _ => .fail
  | .convert s d x => match ev x (tyAt P s) with
    | .one a => one (convC P s d a)
    | _ => .fail
  | .makeFunc (.func f) first caps => let vs := caps.toList.map (ev · none)
    bif first.isEmpty && vs.all V.isOne then .ret ⟨.one (.fn f (vs.flatMap V.cells)), []⟩ else .fail
  | .slice t x l h m => match ev x (tyAt P t), optInt (l.map (ev · none)), optInt (h.map (ev · none)), optInt (m.map (ev · none)) with
    | .one c, some l, some h, some m => match P.underlying t, c with
      | some .string, .str s => one (sliceS s (l.getD 0) h m)
      | some (.slice e), c => match sizeAt P e with
        | some sz => one (sliceC sz c (l.getD 0) h m)
        | none => .fail
      | _, _ => .fail
    | _, _, _, _ => .fail
  | .fieldAddr t x f => match ev x none, fieldOff P t f with
    | .one c, some (o, n, _) => one (fieldAddrC o n c)
    | _, _ => .fail
  | .field t x f => match ev x none, fieldOff P t f with
    | .agg cs, some (o, n, g) => bif ((cs.drop o).take n).length == n then (mkV g ((cs.drop o).take n)).bind fun v => .ret ⟨v, []⟩ else .fail
    | _, _ => .fail
  | .indexAddr t x i => match ev x none, ev i none, elemSize P t with
    | .one c, .one (.int _ n), some sz => one (indexAddrC sz c n)
    | _, _, _ => .fail
  | .index t x i => match P.underlying t, ev x none, ev i none with
    | some .string, .one (.str s), .one (.int _ n) => .opt (.int .u8) (byteAt s n) fun b => .ret ⟨.one (.int .u8 b), []⟩
    | _, _, _ => .fail
  | .extract t i => match ev t none with
    | .tup vs => match vs[i]? with
      | some v => .ret ⟨v, []⟩
      | none => .fail
    | _ => .fail
  | .build t parts => match zeroCells P t, placesOf P t with
    | some z, some pl =>
      let ps := parts.toList.map fun p => (p.1, ev p.2 (partTy P t p.1))
      bif noTups (ps.map (·.2)) then (fillC pl z ps).bind fun cs => .ret ⟨.agg cs, []⟩ else .fail
    | _, _ => .fail
  | .buildSlice t n parts => match P.underlying t with
    | some (.slice e) => match zeroCells P e, sizeAt P e, tyAt P e with
      | some z, some sz, some te =>
        let ps := parts.toList.map fun p => (p.1, ev p.2 (some te))
        bif noTups (ps.map (·.2)) && decide (n * sz ≤ 16777216) && te.size == sz && decide (0 < sz) && z.length == sz then
          (fillC (fun i => some (i * sz, sz)) ((List.replicate n z).flatten) ps).bind fun cs =>
          (dataCs cs).bind fun cs' => (freeze (rowsD cs)).bind fun ws =>
          (match chunk te n cs' with
          | some xs => .ret ⟨.one (.osl id), ws ++ [(id, .row te xs)]⟩
          | none => .fail)
        else .fail
      | _, _, _ => .fail
    | _ => .fail
  | .makeSlice t n c => match elemInfo P t, elemZero P t with
    | some (e, b, _), some z => match decAll e z, ev n none, ev c none with
      | some x, .one (.int .i64 n), .one (.int .i64 c) =>
        .guard (decide (0 ≤ n) && decide (n ≤ c) && decide (c * b ≤ 140737488355328)) (.ret ⟨.one (.osl id), [(id, .row e (List.replicate n.toNat x))]⟩)
      | _, _, _ => .fail
    | _, _ => .fail
  | .makeMap t r => makeMapC P t (r.map (ev · none)) id
  | .lookup t m k ok => lookupC P t (ev m none) (ev k (mapKeyTy P t)) ok
  | .mapUpdate t m k v => updateC P t (ev m none) (ev k (mapKeyTy P t)) (ev v (mapElemTy P t))
  | .insert t m k v => updateC P t (ev m none) (ev k (mapKeyTy P t)) (ev v (mapElemTy P t))
  | .mapEntry t m k => entryC P t (ev m none) (ev k (mapKeyTy P t))
  | .entryStore t m s v => entryStoreC P t (ev m none) (ev s none) (ev v (mapElemTy P t))
  | .call c =>
    let vs := (List.range c.args.size).map fun i => ev (c.args.getD i (.const (.bool false))) ((c.argTypes[i]?).bind (tyAt P))
    match c.callee with
    | .builtin b => builtinC P b c.argTypes.toList vs id
    | .value f => match ev f none with
      | .one (.fn g caps) => match C.ref g with
        | .pure => callPure P C g (vs ++ caps.map V.one) id
        | m => callRef P C m g (vs ++ caps.map V.one) id
      | _ => .fail
    | _ => .fail
  | _ => .fail

/-- how many new objects an operation may make -/
def newOf (o : Op) (ev : Operand → Option Ty → V) : Nat :=
  match o with
  | .alloc _ | .box .. | .buildSlice .. | .makeSlice .. | .makeMap .. => 1
  | .call { callee := .builtin .append, .. } => 1
  | .call { callee := .builtin _, .. } => 0
  | .call { callee := .value f, .. } => match ev f none with
    | .one (.fn g _) => match rtsOf P (C.own g) (resTypes P g) with
      | some ds => (match C.ref g with | .pure => ownCounts ds | _ => ownCounts ds + refRoom)
      | none => 0
    | _ => 0
  | _ => 0
end
end Go.Sk
