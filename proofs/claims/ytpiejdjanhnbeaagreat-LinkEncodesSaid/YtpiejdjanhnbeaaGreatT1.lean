/- An evaluator over abstract values: type codes, values, states, the operations of the model as terms over a small free monad, segments of code as trees, and the limit of their runs. -/
import Derived.Calls
import Derived.Orders
import Derived.LoopN
import Derived.Deep.AppendSrc
import Derived.Laws.IdiomCopy
import Derived.Laws.Append
import Derived.Laws.NewBlocks
import Derived.WalkKit
import Derived.Laws.StructEq
set_option linter.unusedVariables false
namespace Go.Sk
open Go

/-! ### type codes -/
inductive Ty where
  | bool | int (k : IntKind) | str | unit | pair (a b : Ty) | slice (t : Ty)

@[reducible] def El : Ty → Type
  | .bool => Bool
  | .int _ => Int
  | .str => ByteArray
  | .unit => Unit
  | .pair a b => El a × El b
  | .slice t => List (El t)

def Ty.size : Ty → Nat
  | .unit => 0
  | .pair a b => a.size + b.size
  | _ => 1

def eqKind : (a b : IntKind) → Option (PLift (a = b))
  | .i8, .i8 => some ⟨rfl⟩ | .i16, .i16 => some ⟨rfl⟩ | .i32, .i32 => some ⟨rfl⟩ | .i64, .i64 => some ⟨rfl⟩
  | .u8, .u8 => some ⟨rfl⟩ | .u16, .u16 => some ⟨rfl⟩ | .u32, .u32 => some ⟨rfl⟩ | .u64, .u64 => some ⟨rfl⟩
  | _, _ => none

def Ty.eq? : (a b : Ty) → Option (PLift (a = b))
  | .bool, .bool => some ⟨rfl⟩
  | .int k, .int l => match eqKind k l with | some ⟨h⟩ => some ⟨by rw [h]⟩ | none => none
  | .str, .str => some ⟨rfl⟩
  | .unit, .unit => some ⟨rfl⟩
  | .pair a b, .pair c d => match Ty.eq? a c, Ty.eq? b d with | some ⟨h⟩, some ⟨g⟩ => some ⟨by rw [h, g]⟩ | _, _ => none
  | .slice a, .slice b => match Ty.eq? a b with | some ⟨h⟩ => some ⟨by rw [h]⟩ | none => none
  | _, _ => none

def castL {a b : Ty} (h : a = b) (xs : List (El a)) : List (El b) := h ▸ xs

def zeroE : (t : Ty) → El t
  | .bool => false
  | .int _ => 0
  | .str => ByteArray.empty
  | .unit => ()
  | .pair a b => (zeroE a, zeroE b)
  | .slice _ => []

/-! ### abstract values -/
inductive CV where
  | undef
  | bool (b : Bool)
  | int (k : IntKind) (n : Int)
  | str (s : ByteArray)
  | nils (t : Ty)
  | slc (t : Ty) (xs : List (El t))
  | clp (t : Ty) (xs : List (El t))
  | chk (b : Bool) (t : Ty) (xs : List (El t))     -- a slice; b: is it nil?
  | osl (i : Nat)
  | ovw (i off len : Nat)
  | cst (v : Value)          -- a constant of the model's, as it is
  | nilp
  | slf (t : TypeId)         -- a cell of a variable of a type: nil, or that variable's own address
  | ptr (i off : Nat)
  | eptr (i idx off : Nat)
  | rptr (cs : List CV)
  | fn (f : FuncId) (caps : List CV)

def CV.isStr : CV → Bool
  | .str _ => true
  | _ => false

inductive V where
  | one (c : CV)
  | agg (cs : List CV)
  | tup (vs : List V)

inductive Obj where
  | dead
  | cells (cs : List CV)
  | row (t : Ty) (xs : List (El t))
  | frz (t : Ty) (xs : List (El t))
  | full (t : Ty) (xs : List (El t))     -- an owned row as long as its capacity
  | ghost (cs : List CV)                 -- no memory: what a call by reference was handed
  | map (kt vt : Ty) (g : Bool) (es : List (El kt × El vt)) (tidy : Bool)     -- a map: g, are its elements aggregates?; tidy: nothing was ever deleted

structure St where
  env : List V
  mem : List Obj

@[reducible] def uv : V := .one .undef
def V.cells : V → List CV
  | .one c => [c]
  | .agg cs => cs
  | .tup _ => []
/-- a value of which not even the number of cells is known, or several values -/
def V.isBad : V → Bool
  | .tup _ => true
  | .one .undef => true
  | _ => false
def V.isOne : V → Bool
  | .one _ => true
  | _ => false
def V.isTup : V → Bool
  | .tup _ => true
  | _ => false

def enc : (t : Ty) → El t → List CV
  | .bool, b => [.bool b]
  | .int k, n => [.int k n]
  | .str, s => [.str s]
  | .unit, _ => []
  | .pair a b, x => enc a x.1 ++ enc b x.2
  | .slice t, xs => [.slc t xs]

def decS (t t' : Ty) (xs : List (El t')) : Option (List (El t)) :=
  match Ty.eq? t' t with
  | some ⟨h⟩ => some (castL h xs)
  | none => none

def decB : List CV → Option (Bool × List CV)
  | .bool b :: r => some (b, r)
  | _ => none
def decI (k : IntKind) : List CV → Option (Int × List CV)
  | .int l n :: r => match eqKind l k with | some _ => some (n, r) | none => none
  | _ => none
def decT : List CV → Option (ByteArray × List CV)
  | .str s :: r => some (s, r)
  | _ => none
def decL (t : Ty) : List CV → Option (List (El t) × List CV)
  | .slc t' xs :: r => match decS t t' xs with | some ys => some (ys, r) | none => none
  | .clp t' xs :: r => match decS t t' xs with | some ys => some (ys, r) | none => none
  | .nils _ :: r => some ([], r)
  | _ => none
/-- reads a value of a code off the head of a list of cells -/
def dec : (t : Ty) → List CV → Option (El t × List CV)
  | .bool, cs => decB cs
  | .int k, cs => decI k cs
  | .str, cs => decT cs
  | .unit, r => some ((), r)
  | .pair a b, r => match dec a r with
    | some (x, r) => (match dec b r with | some (y, r) => some ((x, y), r) | none => none)
    | none => none
  | .slice t, cs => decL t cs

def decAll (t : Ty) (cs : List CV) : Option (El t) :=
  match dec t cs with
  | some (x, []) => some x
  | _ => none

/-! ### results of calls -/
inductive RT where
  | ty (t : Ty)
  | own (t : Ty)
  | cat (a b : RT)
  | nothing
  | keep (c : CV)      -- a cell that stays as it was (a pointer, a function value)
  | map (kt vt : Ty) (g tidy : Bool)
@[reducible] def RT.El : RT → Type
  | .ty t => Sk.El t
  | .own t => List (Sk.El t)
  | .cat a b => a.El × b.El
  | .nothing => Unit
  | .keep _ => Unit
  | .map kt vt _ _ => List (Sk.El kt × Sk.El vt)
inductive VD where      -- a result's form: one cell, or an aggregate
  | one (r : RT) | agg (r : RT)
def VD.rt : VD → RT
  | .one r => r
  | .agg r => r
@[reducible] def ElV : List VD → Type
  | [] => Unit
  | [v] => v.rt.El
  | v :: r => v.rt.El × ElV r
/-- the results' forms; the last ones are those of the objects that were handed over by reference -/
structure RD where
  vals : List VD
  roots : Nat
@[reducible] def RD.El (ρ : RD) : Type := ElV ρ.vals

/-! ### what an operation does, as a term -/
inductive Rd (α : Type) where
  | ret (a : α)
  | fail
  | get (i : Nat) (k : Obj → Rd α)
  | guard (c : Bool) (k : Rd α)
  | split (c : Bool) (x y : Rd α)
  | opt (t : Ty) (o : Option (El t)) (k : El t → Rd α)
  | call (f : FuncId) (args : List V) (mem : List Obj) (ρ : RD) (k : ρ.El → Rd α)

def Rd.bind {α β : Type} : Rd α → (α → Rd β) → Rd β
  | .ret a, f => f a
  | .fail, _ => .fail
  | .get i k, f => .get i fun o => (k o).bind f
  | .guard c k, f => .guard c (k.bind f)
  | .split c x y, f => .split c (x.bind f) (y.bind f)
  | .opt t o k, f => .opt t o fun x => (k x).bind f
  | .call g asv m ρ k, f => .call g asv m ρ fun x => (k x).bind f
instance : Monad Rd where
  pure := Rd.ret
  bind := Rd.bind

def Rd.ofOption {α : Type} : Option α → Rd α
  | some a => .ret a
  | none => .fail

/-- what an operation leaves: its value and the objects that it writes -/
structure Out where
  v : V
  ws : List (Nat × Obj)

/-! ### numbers of objects -/
def catL {α β : Type} (f : α → List β) : List α → List β
  | [] => []
  | a :: r => f a ++ catL f r
def idsC : Nat → CV → List Nat
  | 0, _ => []
  | d + 1, c =>
    match c with
    | .osl i => [i] | .ovw i _ _ => [i] | .ptr i _ => [i] | .eptr i _ _ => [i]
    | .fn _ cs => catL (idsC d) cs
    | _ => []
def idsCs (cs : List CV) : List Nat := catL (idsC 6) cs
def idsO : Obj → List Nat
  | .cells cs => idsCs cs
  | .ghost cs => idsCs cs
  | _ => []
def idsVs : List V → List Nat
  | [] => []
  | v :: r => idsCs v.cells ++ idsVs r
def hasNat : List Nat → Nat → Bool
  | [], _ => false
  | a :: r, b => Nat.beq a b || hasNat r b
def posOf : List Nat → Nat → Nat → Option Nat
  | [], _, _ => none
  | a :: r, i, n => bif Nat.beq a i then some n else posOf r i (n + 1)
def renC (g : Nat → Option Nat) : Nat → CV → CV
  | 0, _ => .undef
  | d + 1, c =>
    match c with
    | .osl i => match g i with | some j => .osl j | none => .undef
    | .ovw i o n => match g i with | some j => .ovw j o n | none => .undef
    | .ptr i o => match g i with | some j => .ptr j o | none => .undef
    | .eptr i k o => match g i with | some j => .eptr j k o | none => .undef
    | .fn f cs => .fn f (cs.map (renC g d))
    | .rptr cs => .rptr (cs.map (renC g d))
    | c => c
def renCs (g : Nat → Option Nat) (cs : List CV) : List CV := cs.map (renC g 6)
def renV (g : Nat → Option Nat) : V → V
  | .one c => .one (renC g 6 c)
  | .agg cs => .agg (renCs g cs)
  | .tup _ => uv
def renO (g : Nat → Option Nat) : Obj → Obj
  | .cells cs => .cells (renCs g cs)
  | .ghost cs => .ghost (renCs g cs)
  | o => o
def renVs (g : Nat → Option Nat) : List V → List V
  | [] => []
  | v :: r => renV g v :: renVs g r
def firsts : List (Nat × Obj) → List Nat
  | [] => []
  | (i, _) :: r => i :: firsts r
def renPs (g : Nat → Option Nat) : List (Nat × Obj) → List Obj
  | [] => []
  | (_, o) :: r => renO g o :: renPs g r

/-! ### facts of the program, in the form in which the evaluator asks them -/
def tyOf (P : Program) : Nat → TypeId → Option Ty
  | 0, _ => none
  | d + 1, t =>
    match P.underlying t with
    | some .bool => some .bool
    | some (.int k) => some (.int k)
    | some .string => some .str
    | some (.slice e) => (tyOf P d e).map .slice
    | some (.struct fs) => go (fs.toList.map fun f => tyOf P d f.type)
    | some (.array n e) => go (List.replicate n (tyOf P d e))
    | _ => none
where
  go : List (Option Ty) → Option Ty
    | [] => some .unit
    | [t] => t
    | some t :: r => (go r).map (.pair t)
    | none :: _ => none

def tyAt (P : Program) (t : TypeId) : Option Ty := tyOf P 12 t
def elemTy (P : Program) (t : TypeId) : Option Ty :=
  match P.underlying t with
  | some (.slice e) => tyAt P e
  | _ => none
def sizeAt (P : Program) (t : TypeId) : Option Nat := (P.info? t).map (·.size)
def bytesAt (P : Program) (t : TypeId) : Option Nat := (P.info? t).map (·.bytes)
def elemBytes (P : Program) (t : TypeId) : Option Nat :=
  match P.underlying t with
  | some (.slice e) => bytesAt P e
  | _ => none
def aggAt (P : Program) (t : TypeId) : Option Bool :=
  match P.underlying t with
  | some (.struct _) | some (.array _ _) => some true
  | some _ => some false
  | none => none

/-- the codes of the cells of a type: a code for a cell that can be told, none for another -/
def cellTys (P : Program) : Nat → TypeId → List (Option Ty)
  | 0, _ => []
  | d + 1, t =>
    match P.underlying t with
    | some (.struct fs) => go (fs.toList.map fun f => cellTys P d f.type)
    | some (.array n e) => go (List.replicate n (cellTys P d e))
    | some _ => [tyAt P t]
    | none => []
where
  go : List (List (Option Ty)) → List (Option Ty)
    | [] => []
    | x :: r => x ++ go r

/-- a constant of the model's, as an abstract cell; the code is that of its type, where it is known -/
def ofConst (t : Option Ty) : Value → CV
  | .bool b => .bool b
  | .int k n => .int k n
  | .string s => .str s
  | .slice none 0 0 => match t with | some (.slice e) => .nils e | _ => .undef
  | .pointer none => .nilp
  | .agg _ => .undef
  | .tuple _ => .undef
  | v => .cst v

def zeroCells (P : Program) (t : TypeId) : Option (List CV) :=
  match (P.info? t).bind (·.zero) with
  | some z => bif (cellTys P 12 t).length == z.cells.size then some (List.zipWith ofConst (cellTys P 12 t) z.cells.toList) else none
  | none => none

/-! ### operations -/
/-- what a function does to what its arguments lead to: it reads alone; it writes; it writes, and the rows are gone -/
inductive RefMode where
  | pure | keep | gone
  | maps       -- only the maps that it was handed, however, are used again
  | spent      -- it writes, and nothing of what it was handed is used again
  | apart      -- no body: are two rows one memory? (slices.overlaps)
  | maker (g : FuncId)      -- it lays its argument into a new variable and hands back g over it
structure Cfg where
  own : FuncId → Bool          -- are the slices that the function returns new ones, that the caller may write?
  ref : FuncId → RefMode := fun _ => .pure
  cut : FuncId → Bool := fun _ => false
  flat : FuncId → Bool := fun _ => false     -- no segment ends where ways meet
  prim : FuncId → List V → List Obj → (ρ : RD) → Option ρ.El := fun _ _ _ _ => none
  self : TypeId → Bool := fun _ => false     -- a variable of this type begins with a pointer that is nil or its own address

section
variable (P : Program) (C : Cfg)

def mapR {α β : Type} (f : α → Rd β) : List α → Rd (List β)
  | [] => .ret []
  | c :: r => (f c).bind fun c => (mapR f r).bind fun r => .ret (c :: r)
def catR {α β : Type} (f : α → Rd (List β)) : List α → Rd (List β)
  | [] => .ret []
  | c :: r => (f c).bind fun a => (catR f r).bind fun b => .ret (a ++ b)
/-- a cell as data alone: what is owned is read -/
def dataC : CV → Rd CV
  | .osl i => .get i fun
    | .row t xs => .ret (.slc t xs)
    | .frz t xs => .ret (.slc t xs)
    | _ => .fail
  | .ovw i o n => .get i fun
    | .row t xs => .guard (decide (o + n ≤ xs.length)) (.ret (.slc t ((xs.drop o).take n)))
    | .frz t xs => .guard (decide (o + n ≤ xs.length)) (.ret (.slc t ((xs.drop o).take n)))
    | _ => .fail
  | .bool b => .ret (.bool b)
  | .int k n => .ret (.int k n)
  | .str s => .ret (.str s)
  | .nils t => .ret (.nils t)
  | .slc t xs => .ret (.slc t xs)
  | .clp t xs => .ret (.clp t xs)
  | _ => .fail
def dataCs (cs : List CV) : Rd (List CV) := mapR dataC cs
/-- the rows that cells are -/
def rowsD : List CV → List Nat
  | [] => []
  | .osl i :: r => i :: rowsD r
  | .ovw i _ _ :: r => i :: rowsD r
  | _ :: r => rowsD r
/-- a cell that may be handed to a function that reads alone -/
def pureC : Nat → CV → Rd CV
  | 0, _ => .fail
  | d + 1, c =>
    match c with
    | .ptr i o => .get i fun
      | .cells cs => (mapR (pureC d) cs).bind fun cs => .ret (.rptr (cs.drop o))
      | _ => .fail
    | .eptr i k o => .get i fun
      | .row t xs => .opt t xs[k]? fun x => .ret (.rptr ((enc t x).drop o))
      | .frz t xs => .opt t xs[k]? fun x => .ret (.rptr ((enc t x).drop o))
      | _ => .fail
    | .fn f cs => (mapR (pureC d) cs).bind fun cs => .ret (.fn f cs)
    | .rptr cs => (mapR (pureC d) cs).bind fun cs => .ret (.rptr cs)
    | .cst v => .ret (.cst v)
    | .nilp => .ret .nilp
    | .undef => .ret .undef
    | .nils t => .ret (.slc t [])
    | .clp t xs => .ret (.slc t xs)
    | c => dataC c

def pureCs (cs : List CV) : Rd (List CV) := mapR (pureC 6) cs
def pureV : V → Rd V
  | .one c => (pureC 6 c).bind fun c => .ret (.one c)
  | .agg cs => (pureCs cs).bind fun cs => .ret (.agg cs)
  | .tup _ => .fail
def pureVs : List V → Rd (List V)
  | [] => .ret []
  | v :: r => (pureV v).bind fun v => (pureVs r).bind fun r => .ret (v :: r)

/-- the rows that a cell leads to -/
def rowsC : Nat → CV → Rd (List Nat)
  | 0, _ => .fail
  | d + 1, c =>
    match c with
    | .osl i => .ret [i]
    | .ovw i _ _ => .ret [i]
    | .ptr i _ => .get i fun
      | .cells cs => catR (rowsC d) cs
      | _ => .fail
    | .eptr _ _ _ => .ret []
    | .rptr cs => catR (rowsC d) cs
    | .fn _ cs => catR (rowsC d) cs
    | _ => .ret []
def rowsCs (cs : List CV) : Rd (List Nat) := catR (rowsC 6) cs
def rowsVs : List V → Rd (List Nat)
  | [] => .ret []
  | v :: r => (rowsCs v.cells).bind fun a => (rowsVs r).bind fun b => .ret (a ++ b)
/-- rows that are frozen from here on -/
def freeze : List Nat → Rd (List (Nat × Obj))
  | [] => .ret []
  | i :: r => .get i fun
    | .row t xs => (freeze r).bind fun ws => .ret ((i, .frz t xs) :: ws)
    | .frz _ _ => freeze r
    | _ => .fail

def splice (cs : List CV) (off : Nat) (new : List CV) : List CV := cs.take off ++ new ++ cs.drop (off + new.length)

/-- the cells at an address -/
def loadC (n : Nat) : CV → Rd (List CV)
  | .ptr i o => .get i fun
    | .cells cs => .ret ((cs.drop o).take n)
    | _ => .fail
  | .eptr i k o => .get i fun
    | .row t xs => .opt t xs[k]? fun x => .ret (((enc t x).drop o).take n)
    | .frz t xs => .opt t xs[k]? fun x => .ret (((enc t x).drop o).take n)
    | _ => .fail
  | .rptr cs => .ret (cs.take n)
  | _ => .fail

def mkV (agg : Bool) (cs : List CV) : Rd V :=
  match agg, cs with
  | true, cs => .ret (.agg cs)
  | false, [c] => .ret (.one c)
  | _, _ => .fail

def idx {α : Type} (xs : List α) (i : Int) : Option α := if 0 ≤ i then xs[i.toNat]? else none
def byteAt (s : ByteArray) (i : Int) : Option Int := if 0 ≤ i then (s[i.toNat]?).map fun b => (b.toNat : Int) else none

def intOp (op : BinOp) (k : IntKind) (a b : Int) : Rd CV :=
  match op with
  | .add => .ret (.int k (k.wrap (a + b)))
  | .sub => .ret (.int k (k.wrap (a - b)))
  | .mul => .ret (.int k (k.wrap (a * b)))
  | .quo => .guard (!(b == 0)) (.ret (.int k (k.wrap (a.tdiv b))))
  | .rem => .guard (!(b == 0)) (.ret (.int k (a.tmod b)))
  | .and => .ret (.int k (k.wrap (BitVec.ofInt k.bits a &&& BitVec.ofInt k.bits b).toNat))
  | .or => .ret (.int k (k.wrap (BitVec.ofInt k.bits a ||| BitVec.ofInt k.bits b).toNat))
  | .xor => .ret (.int k (k.wrap (BitVec.ofInt k.bits a ^^^ BitVec.ofInt k.bits b).toNat))
  | .andNot => .ret (.int k (k.wrap (BitVec.ofInt k.bits a &&& ~~~ BitVec.ofInt k.bits b).toNat))
  | .eql => .ret (.bool (a == b))
  | .neq => .ret (.bool (a != b))
  | .lss => .ret (.bool (decide (a < b)))
  | .leq => .ret (.bool (decide (a ≤ b)))
  | .gtr => .ret (.bool (decide (a > b)))
  | .geq => .ret (.bool (decide (a ≥ b)))
  | _ => .fail

def shiftOp (op : BinOp) (k : IntKind) (a b : Int) : Rd CV :=
  match op with
  | .shl => .guard (decide (0 ≤ b)) (.ret (.int k (k.wrap (a * 2 ^ min b.toNat k.bits))))
  | .shr => .guard (decide (0 ≤ b)) (.ret (.int k (a.fdiv (2 ^ min b.toNat k.bits))))
  | _ => .fail

def strOp (op : BinOp) (a b : ByteArray) : Rd CV :=
  match op with
  | .add => .guard (decide (a.size + b.size ≤ 9223372036854775807)) (.ret (.str (a ++ b)))
  | .eql => .ret (.bool (a.toList == b.toList))
  | .neq => .ret (.bool (!(a.toList == b.toList)))
  | .lss => .ret (.bool (Op.bytesLess a.toList b.toList))
  | .leq => .ret (.bool (Op.bytesLess a.toList b.toList || a.toList == b.toList))
  | .gtr => .ret (.bool (!(Op.bytesLess a.toList b.toList || a.toList == b.toList)))
  | .geq => .ret (.bool (!Op.bytesLess a.toList b.toList))
  | _ => .fail

def isBoolT (t : TypeId) : Bool := match P.underlying t with | some .bool => true | _ => false
def isSliceT (t : TypeId) : Bool := match P.underlying t with | some (.slice _) => true | _ => false
def binC (op : BinOp) (bt st : Bool) (x y : CV) : Rd CV :=
  match x, y with
  | .chk b _ _, .nils _ => match op, st with | .eql, true => .ret (.bool b) | .neq, true => .ret (.bool (!b)) | _, _ => .fail
  | .int k a, .int l b =>
    match op with
    | .shl => shiftOp .shl k a b
    | .shr => shiftOp .shr k a b
    | op => match eqKind k l with | some _ => intOp op k a b | none => .fail
  | .str a, .str b => strOp op a b
  | .bool a, .bool b => match op, bt with | .eql, true => .ret (.bool (a == b)) | .neq, true => .ret (.bool (!(a == b))) | _, _ => .fail
  | _, _ => .fail

/-- '==' of structs of scalars -/
def eqC (P : Program) (t : TypeId) : Option CV → Option CV → Option Bool
  | some (.bool a), some (.bool b) => (match P.underlying t with | some .bool => some (a == b) | _ => none)
  | some (.int k a), some (.int l b) => (match P.underlying t, eqKind k l with | some (.int _), some _ => some (a == b) | _, _ => none)
  | some (.str a), some (.str b) => (match P.underlying t with | some .string => some (a.toList == b.toList) | _ => none)
  | _, _ => none
def eqF (P : Program) : List Field → List CV → List CV → Option Bool
  | [], _, _ => some true
  | [f], cs, ds => bif f.name == "_" then none else eqC P f.type cs[f.offset]? ds[f.offset]?
  | f :: g :: r, cs, ds => bif f.name == "_" then none else (match eqC P f.type cs[f.offset]? ds[f.offset]?, eqF P (g :: r) cs ds with
    | some a, some b => some (a && b)
    | _, _ => none)
def binA (P : Program) (op : BinOp) (t : TypeId) (cs ds : List CV) : Rd CV :=
  match P.underlying t with
  | some (.struct fs) => bif P.stoodInHeld t || P.eqGuardType P.depth t then .fail else
    (match eqF P fs.toList cs ds, op with
    | some b, .eql => .ret (.bool b)
    | some b, .neq => .ret (.bool (!b))
    | _, _ => .fail)
  | _ => .fail

def unC (op : UnOp) (x : CV) : Rd CV :=
  match op, x with
  | .not, .bool b => .ret (.bool (!b))
  | .neg, .int k n => .ret (.int k (k.wrap (0 - n)))
  | .xor, .int k n => .ret (.int k (k.wrap (BitVec.ofInt k.bits (if k.signed then -1 else k.max) ^^^ BitVec.ofInt k.bits n).toNat))
  | _, _ => .fail

/-- the elements of a slice -/
def elems (t : Ty) : CV → Rd (List (El t))
  | .nils _ => .ret []
  | .slc t' xs => .ofOption (decS t t' xs)
  | .clp t' xs => .ofOption (decS t t' xs)
  | .chk _ t' xs => .ofOption (decS t t' xs)
  | .osl i => .get i fun
    | .row t' xs => .ofOption (decS t t' xs)
    | .frz t' xs => .ofOption (decS t t' xs)
    | _ => .fail
  | .ovw i o n => .get i fun
    | .row t' xs => (Rd.ofOption (decS t t' xs)).bind fun xs => .guard (decide (o + n ≤ xs.length)) (.ret ((xs.drop o).take n))
    | .frz t' xs => (Rd.ofOption (decS t t' xs)).bind fun xs => .guard (decide (o + n ≤ xs.length)) (.ret ((xs.drop o).take n))
    | .full t' xs => (Rd.ofOption (decS t t' xs)).bind fun xs => .guard (decide (o + n ≤ xs.length)) (.ret ((xs.drop o).take n))
    | _ => .fail
  | _ => .fail

def strElems (s : ByteArray) : (e : Ty) → Rd (List (El e))
  | .int .u8 => .ret (s.data.toList.map fun c => (c.toNat : Int))
  | _ => .fail
def srcElems (e : Ty) : CV → Rd (List (El e))
  | .str s => strElems s e
  | b => elems e b

def lenS : CV → Rd CV
  | .nils _ => .ret (.int .i64 0)
  | .slc _ xs => .ret (.int .i64 xs.length)
  | .clp _ xs => .ret (.int .i64 xs.length)
  | .osl i => .get i fun
    | .row _ xs => .ret (.int .i64 xs.length)
    | .frz _ xs => .ret (.int .i64 xs.length)
    | _ => .fail
  | .ovw i _ n => .get i fun
    | .row _ _ => .ret (.int .i64 n)
    | .frz _ _ => .ret (.int .i64 n)
    | .full _ _ => .ret (.int .i64 n)
    | _ => .fail
  | _ => .fail
/-- the capacity, where it is known -/
def capS : CV → Rd CV
  | .ovw i o _ => .get i fun
    | .full _ xs => .ret (.int .i64 (xs.length - o : Nat))
    | _ => .fail
  | _ => .fail
def capC (t : TypeId) (c : CV) : Rd CV :=
  match P.underlying t with
  | some (.slice _) => capS c
  | _ => .fail
def lenM : CV → Rd CV
  | .osl i => .get i fun
    | .map _ _ _ es _ => .ret (.int .i64 es.length)
    | _ => .fail
  | _ => .fail
def lenC (t : TypeId) : CV → Rd CV
  | .str s => match P.underlying t with
    | some .string => .ret (.int .i64 s.size)
    | _ => .fail
  | c => match P.underlying t with
    | some (.slice _) => lenS c
    | some (.map _ _) => lenM c
    | _ => .fail

def indexAddrC (sz : Nat) (x : CV) (i : Int) : Rd CV :=
  match x with
  | .slc t xs => bif t.size == sz then .opt t (idx xs i) fun e => .ret (.rptr (enc t e)) else .fail
  | .clp t xs => bif t.size == sz then .opt t (idx xs i) fun e => .ret (.rptr (enc t e)) else .fail
  | .osl j => .get j fun
    | .row t xs => bif t.size == sz then .guard (decide (0 ≤ i) && decide (i < xs.length)) (.ret (.eptr j i.toNat 0)) else .fail
    | .frz t xs => bif t.size == sz then .guard (decide (0 ≤ i) && decide (i < xs.length)) (.ret (.eptr j i.toNat 0)) else .fail
    | _ => .fail
  | .ovw j o n => .get j fun
    | .row t xs => bif t.size == sz then .guard (decide (0 ≤ i) && decide (i < n)) (.ret (.eptr j (o + i.toNat) 0)) else .fail
    | .frz t xs => bif t.size == sz then .guard (decide (0 ≤ i) && decide (i < n) && decide (o + i.toNat < xs.length)) (.ret (.eptr j (o + i.toNat) 0)) else .fail
    | _ => .fail
  | _ => .fail
def elemSize (t : TypeId) : Option Nat :=
  match P.underlying t with
  | some (.slice e) => sizeAt P e
  | _ => none
def chunk (t : Ty) : Nat → List CV → Option (List (El t))
  | 0, [] => some []
  | 0, _ => none
  | n + 1, cs => match dec t cs with
    | some (x, r) => (match chunk t n r with | some xs => some (x :: xs) | none => none)
    | none => none
/-- one of the cells -/
def pickC : List CV → Nat → Int → Rd CV
  | [], _, _ => .fail
  | c :: r, j, k => .split (k == (j : Int)) (.ret c) (pickC r (j + 1) k)
/-- an element of an array that is a value: of data, or of cells that are no data -/
def indexA (te : Option Ty) (n sz : Nat) (g : Bool) (cs : List CV) (k : Int) : Rd Out :=
  match te with
  | some te => bif te.size == sz then (match chunk te n cs with
    | some xs => .opt te (idx xs k) fun e => (mkV g (enc te e)).bind fun v => .ret ⟨v, []⟩
    | none => .fail) else .fail
  | none => bif cs.length == n && !g && sz == 1 then (pickC cs 0 k).bind fun c => .ret ⟨.one c, []⟩ else .fail
/-- an element's address in an array at an address -/
def indexPtr (te : Option Ty) (n sz : Nat) (x : CV) (k : Int) : Rd CV :=
  match x with
  | .ptr i o => .get i fun
    | .cells _ => .guard (decide (0 ≤ k) && decide (k < n)) (.ret (.ptr i (o + k.toNat * sz)))
    | _ => .fail
  | .eptr i j o => .get i fun
    | .row _ _ => .guard (decide (0 ≤ k) && decide (k < n)) (.ret (.eptr i j (o + k.toNat * sz)))
    | .frz _ _ => .guard (decide (0 ≤ k) && decide (k < n)) (.ret (.eptr i j (o + k.toNat * sz)))
    | _ => .fail
  | .rptr cs => match te with
    | some te => bif te.size == sz then (match chunk te n (cs.take (n * sz)) with
      | some xs => .opt te (idx xs k) fun e => .ret (.rptr (enc te e))
      | none => .fail) else .fail
    | none => .fail
  | _ => .fail
/-- the type of an array's elements, their number, their cells -/
def arrayAt (t : TypeId) : Option (Nat × TypeId × Nat) :=
  match P.underlying t with
  | some (.array n e) => (match sizeAt P e with | some (sz + 1) => some (n, e, sz + 1) | _ => none)
  | _ => none
def bytesOf (xs : List Int) : ByteArray := ⟨(xs.map fun n => UInt8.ofNat n.toNat).toArray⟩

def fieldOff (t : TypeId) (f : Nat) : Option (Nat × Nat × Bool) :=
  match P.underlying t with
  | some (.struct fs) => match fs[f]? with
    | some f => match sizeAt P f.type, aggAt P f.type with
      | some n, some a => some (f.offset, n, a)
      | _, _ => none
    | none => none
  | _ => none

def fieldAddrC (off n : Nat) (x : CV) : Rd CV :=
  match n with
  | 0 => .fail
  | _ => match x with
    | .ptr i o => .get i fun
      | .cells _ => .ret (.ptr i (o + off))
      | _ => .fail
    | .eptr i k o => .get i fun
      | .row _ _ => .ret (.eptr i k (o + off))
      | .frz _ _ => .ret (.eptr i k (o + off))
      | _ => .fail
    | .rptr cs => .ret (.rptr (cs.drop off))
    | _ => .fail

/-- fills parts into the cells of a zero -/
def fillC (place : Nat → Option (Nat × Nat)) : List CV → List (Nat × V) → Rd (List CV)
  | cs, [] => .ret cs
  | cs, (i, v) :: r => match place i with
    | some (off, n) => bif v.cells.length == n && decide (off + n ≤ cs.length) then fillC place (splice cs off v.cells) r else .fail
    | none => .fail

def placesL : List Field → Option (List (Nat × Nat))
  | [] => some []
  | f :: r => match sizeAt P f.type, placesL r with
    | some n, some l => some ((f.offset, n) :: l)
    | _, _ => none
def placesOf (t : TypeId) : Option (Nat → Option (Nat × Nat)) :=
  match P.underlying t with
  | some (.struct fs) => match placesL P fs.toList with
    | some l => some fun i => l[i]?
    | none => none
  | some (.array _ e) => match sizeAt P e with
    | some n => some fun i => some (i * n, n)
    | none => none
  | _ => none

def partTy (t : TypeId) (i : Nat) : Option Ty :=
  match P.underlying t with
  | some (.struct fs) => (fs[i]?).bind fun f => tyAt P f.type
  | some (.array _ e) => tyAt P e
  | _ => none
def known : List CV → Bool
  | [] => true
  | .undef :: _ => false
  | .slf _ :: _ => false
  | _ :: r => known r
/-- the zero of a variable -/
def selfZero (b : Bool) (t : TypeId) : List CV → List CV
  | .nilp :: r => bif b then .slf t :: r else .nilp :: r
  | cs => cs
/-- no cell is one that is known in its own variable alone -/
def noSlf : List CV → Bool
  | [] => true
  | .slf _ :: _ => false
  | _ :: r => noSlf r
def noTups : List V → Bool
  | [] => true
  | v :: r => !v.isBad && noTups r


def sliceS (s : ByteArray) (l : Int) (h m : Option Int) : Rd CV :=
  match m with
  | none => let h := h.getD s.size
    .guard (decide (0 ≤ l) && decide (l ≤ h) && decide (h ≤ s.size)) (.ret (.str (s.extract l.toNat h.toNat)))
  | some _ => .fail
/-- a slice expression over a slice; its capacity is at least its length -/
def sliceD (t : Ty) (xs : List (El t)) (l : Int) (h m : Option Int) : Rd CV :=
  match m with
  | none => let h := h.getD xs.length
    .guard (decide (0 ≤ l) && decide (l ≤ h) && decide (h ≤ xs.length)) (.ret (.slc t ((xs.take h.toNat).drop l.toNat)))
  | some m => match h with
    | some h => .guard (decide (0 ≤ l) && decide (l ≤ h) && decide (h = m) && decide (m ≤ xs.length)) (.ret (.clp t ((xs.take h.toNat).drop l.toNat)))
    | none => .fail
def sliceC (sz : Nat) (x : CV) (l : Int) (h m : Option Int) : Rd CV :=
  match x with
  | .slc t xs => bif t.size == sz then sliceD t xs l h m else .fail
  | .clp t xs => bif t.size == sz then sliceD t xs l h m else .fail
  | .nils t => bif m.isSome && !h.isSome then .fail else
    .guard (decide (l = 0) && decide (h.getD 0 = 0) && decide (m.getD 0 = 0)) (.ret (.nils t))
  | .osl i => .get i fun
    | .row t xs => bif t.size == sz && !m.isSome then
        let h := h.getD xs.length
        .guard (decide (0 ≤ l) && decide (l ≤ h) && decide (h ≤ xs.length)) (.ret (.ovw i l.toNat (h - l).toNat))
      else .fail
    | .frz t xs => bif t.size == sz then sliceD t xs l h m else .fail
    | _ => .fail
  | .ovw i o n => .get i fun
    | .row t _ => bif t.size == sz && !m.isSome then
        let h := h.getD n
        .guard (decide (0 ≤ l) && decide (l ≤ h) && decide (h ≤ n)) (.ret (.ovw i (o + l.toNat) (h - l).toNat))
      else .fail
    | .full t xs => bif t.size == sz && !m.isSome then
        let h := h.getD n
        .guard (decide (0 ≤ l) && decide (l ≤ h) && decide (o + h ≤ xs.length)) (.ret (.ovw i (o + l.toNat) (h - l).toNat))
      else .fail
    | _ => .fail
  | _ => .fail

def intOf? : V → Option Int
  | .one (.int _ n) => some n
  | _ => none
def optInt : Option V → Option (Option Int)
  | none => some none
  | some v => (intOf? v).map some

def isFlat : Ty → Bool
  | .slice _ => false
  | .pair a b => isFlat a && isFlat b
  | _ => true

/-! the form of a call's results -/
def rtCells : Bool → List (Option Ty) → Option RT
  | _, [] => some .nothing
  | own, some t :: r => match rtCells own r with
    | some q => some (.cat (match own, t with | true, .slice e => .own e | _, t => .ty t) q)
    | none => none
  | _, none :: _ => none
/-- a new map: nothing was deleted in it -/
def rtMap (t : TypeId) : Option VD :=
  match P.underlying t with
  | some (.map k e) => match tyAt P k, tyAt P e, aggAt P e with
    | some kt, some vt, some g => some (.one (.map kt vt g true))
    | _, _, _ => none
  | _ => none
def rtOf (own : Bool) (t : TypeId) : Option VD :=
  match aggAt P t with
  | some true =>
    match own with
    | false => (tyAt P t).map fun c => .agg (.ty c)
    | true => match tyAt P t with
      | some c => if isFlat c then some (.agg (.ty c)) else (rtCells true (cellTys P 12 t)).map .agg
      | none => none
  | some false => match own, tyAt P t with
    | true, some (.slice e) => some (.one (.own e))
    | _, some c => some (.one (.ty c))
    | true, none => (match rtMap P t with | some d => some d | none => some (.one .nothing))
    | false, none => some (.one .nothing)
  | none => none
def rtsOf (own : Bool) : List TypeId → Option (List VD)
  | [] => some []
  | t :: r => match rtOf P own t, rtsOf own r with
    | some d, some ds => some (d :: ds)
    | _, _ => none
def resTypes (f : FuncId) : List TypeId := match P.funcs[f]? with | some fn => fn.resultTypes.toList | none => []
def RT.flat : RT → Bool
  | .ty t => isFlat t
  | .own _ => false
  | .cat a b => a.flat && b.flat
  | .nothing => true
  | .keep _ => false
  | .map .. => false
def flatVals : List VD → Bool
  | [] => true
  | v :: r => v.rt.flat && flatVals r

/-- a result's cells out of what it was told as, its new objects from an id on -/
def packRT : (r : RT) → r.El → Nat → List CV × List Obj
  | .ty t, x, _ => (enc t x, [])
  | .own t, xs, n => ([.osl n], [.row t xs])
  | .cat a b, x, n => let (c, o) := packRT a x.1 n; let (d, q) := packRT b x.2 (n + o.length); (c ++ d, o ++ q)
  | .nothing, _, _ => ([], [])
  | .keep c, _, _ => ([c], [])
  | .map kt vt g b, es, n => ([.osl n], [.map kt vt g es b])
def packVD (d : VD) (x : d.rt.El) (n : Nat) : V × List Obj :=
  match d, x with
  | .one r, x => match packRT r x n with | ([c], o) => (.one c, o) | (_, o) => (uv, o)
  | .agg r, x => let (cs, o) := packRT r x n; (.agg cs, o)
def packVs : (ds : List VD) → ElV ds → Nat → List V × List Obj
  | [], _, _ => ([], [])
  | [d], x, n => let (v, o) := packVD d x n; ([v], o)
  | d :: e :: r, x, n => let (v, o) := packVD d x.1 n; let (vs, q) := packVs (e :: r) x.2 (n + o.length); (v :: vs, o ++ q)
def tupV : List V → V
  | [v] => v
  | vs => .tup vs
def numbered : Nat → List Obj → List (Nat × Obj)
  | _, [] => []
  | n, o :: r => (n, o) :: numbered (n + 1) r

def ownCount : RT → Nat
  | .own _ => 1
  | .map .. => 1
  | .cat a b => ownCount a + ownCount b
  | _ => 0
def ownCounts : List VD → Nat
  | [] => 0
  | d :: r => ownCount d.rt + ownCounts r

/-- a call of a function that reads what it is handed -/
def callPure (f : FuncId) (args : List V) (id : Nat) : Rd Out :=
  match rtsOf P (C.own f) (resTypes P f) with
  | none => .fail
  | some ds =>
    (pureVs args).bind fun asv =>
    (bif flatVals ds then .ret [] else (rowsVs args).bind freeze).bind fun ws =>
    .call f asv [] ⟨ds, 0⟩ fun x =>
      let (vs, os) := packVs ds x id
      .ret ⟨tupV vs, ws ++ numbered id os⟩

def isGhost : Obj → Bool
  | .ghost _ => true
  | _ => false
/-- all objects that numbers lead to, in the order in which they are met -/
def grab : Nat → List Nat → List (Nat × Obj) → Rd (List (Nat × Obj))
  | 0, _, _ => .fail
  | _ + 1, [], acc => .ret acc
  | n + 1, i :: r, acc => bif hasNat (firsts acc) i then grab n r acc else .get i fun o => bif isGhost o then .fail else grab n (idsO o ++ r) (acc ++ [(i, o)])
def lookO : List (Nat × Obj) → Nat → Obj
  | [], _ => .dead
  | (i, o) :: r, j => bif Nat.beq i j then o else lookO r j
/-- the form of a cell of an object that is handed over -/
def cellRT (acc : List (Nat × Obj)) : CV → Option RT
  | .bool _ => some (.ty .bool)
  | .int k _ => some (.ty (.int k))
  | .str _ => some (.ty .str)
  | .slc t _ => some (.ty (.slice t))
  | .clp t _ => some (.ty (.slice t))
  | .nils t => some (.own t)
  | .slf t => some (.keep (.slf t))
  | .osl i => match lookO acc i with
    | .row t _ => some (.own t)
    | .frz t _ => some (.ty (.slice t))
    | .full t _ => some (.own t)
    | .map kt vt g _ b => some (.map kt vt g b)
    | _ => none
  | .ovw i _ _ => match lookO acc i with
    | .row t _ => some (.own t)
    | .frz t _ => some (.ty (.slice t))
    | .full t _ => some (.own t)
    | _ => none
  | _ => none
def cellsRT (acc : List (Nat × Obj)) : List CV → Option RT
  | [] => some .nothing
  | [c] => cellRT acc c
  | c :: r => match cellRT acc c, cellsRT acc r with
    | some a, some b => some (.cat a b)
    | _, _ => none
/-- the objects that are handed over and come back: the cell that leads to them, and their forms -/
def rootsOf (mode : RefMode) (acc : List (Nat × Obj)) : List Nat → Option (List (Nat × CV × VD))
  | [] => some []
  | i :: r => match rootsOf mode acc r with
    | none => none
    | some l => bif hasNat r i then some l else
      match lookO acc i with
      | .cells [c] => (match cellRT acc c with | some t => some ((i, .ptr i 0, .one t) :: l) | none => none)
      | .cells cs => (match cellsRT acc cs with | some t => some ((i, .ptr i 0, .agg t) :: l) | none => none)
      | .row t _ => (match mode with | .keep => some ((i, .osl i, .one (.own t)) :: l) | _ => some l)
      | .full t _ => (match mode with | .keep => some ((i, .osl i, .one (.own t)) :: l) | _ => some l)
      | .map kt vt g _ b => some ((i, .osl i, .one (.map kt vt g b)) :: l)
      | _ => some l
def mapIds : List (Nat × Obj) → List Nat
  | [] => []
  | (i, o) :: r => match o with
    | .map .. => i :: mapIds r
    | _ => mapIds r
def rootsFor (mode : RefMode) (acc : List (Nat × Obj)) (is : List Nat) : Option (List (Nat × CV × VD)) :=
  match mode with
  | .spent => some []
  | .maps => rootsOf .gone acc (mapIds acc)
  | m => rootsOf m acc is
def rootVDs : List (Nat × CV × VD) → List VD
  | [] => []
  | (_, _, d) :: r => d :: rootVDs r
def rootCVs : List (Nat × CV × VD) → List CV
  | [] => []
  | (_, c, _) :: r => c :: rootCVs r
/-- what was handed over is no more; what comes back is laid anew -/
def killed : List (Nat × Obj) → List (Nat × Obj)
  | [] => []
  | (i, o) :: r => match o with
    | .cells _ => (i, .dead) :: killed r
    | .row _ _ => (i, .dead) :: killed r
    | .full _ _ => (i, .dead) :: killed r
    | .map .. => (i, .dead) :: killed r
    | _ => killed r
def rootWs (os : List (Nat × Obj)) : List (Nat × CV × VD) → List V → List (Nat × Obj)
  | (i, .ptr _ _, _) :: r, v :: vs => (i, .cells v.cells) :: rootWs os r vs
  | (i, .osl _, _) :: r, .one (.osl n) :: vs => (i, lookO os n) :: (n, .dead) :: rootWs os r vs
  | _ :: r, _ :: vs => rootWs os r vs
  | _, _ => []
def refRoom : Nat := 16
/-- a call of a function that writes what it is handed -/
def callRef (mode : RefMode) (f : FuncId) (args : List V) (id : Nat) : Rd Out :=
  match rtsOf P (C.own f) (resTypes P f) with
  | none => .fail
  | some ds =>
    (grab 200 (idsVs args) []).bind fun acc =>
    bif hasNat (firsts acc) id then .fail else
    match rootsFor mode acc (idsVs args) with
    | none => .fail
    | some rs =>
      let g := fun i => posOf (id :: firsts acc) i 0
      bif decide (ownCounts (ds ++ rootVDs rs) ≤ ownCounts ds + refRoom) then
        .call f (renVs g args) (.ghost (renCs g (rootCVs rs)) :: renPs g acc) ⟨ds ++ rootVDs rs, rs.length⟩ fun x =>
          let (vs, os) := packVs (ds ++ rootVDs rs) x id
          .ret ⟨tupV (vs.take ds.length), killed acc ++ (numbered id os ++ rootWs (numbered id os) rs (vs.drop ds.length))⟩
      else .fail

/-- are two rows one memory? rows of different objects are not -/
def rowOf : CV → Option Nat
  | .osl i => some i
  | .ovw i _ _ => some i
  | _ => none
def isRow : Obj → Bool
  | .row t _ => decide (0 < t.size)
  | .full t _ => decide (0 < t.size)
  | _ => false
def apartC (args : List V) : Rd Out :=
  match args with
  | [.one a, .one b] => match rowOf a, rowOf b with
    | some i, some j => bif Nat.beq i j then .fail else .get i fun x => .get j fun y => bif isRow x && isRow y then .ret ⟨.one (.bool false), []⟩ else .fail
    | _, _ => .fail
  | _ => .fail

def CV.known : CV → Bool
  | .undef => false
  | _ => true
/-- a closure over one new variable -/
def makerC (g : FuncId) (args : List V) (id : Nat) : Rd Out :=
  match args with
  | [.one c] => bif noSlf [c] && c.known then .ret ⟨.one (.fn g [.ptr id 0]), [(id, .cells [c])]⟩ else .fail
  | _ => .fail
def callee (c : Call) (f : V) : Option (FuncId × List CV) :=
  match c.callee, f with
  | .value _, .one (.fn g caps) => some (g, caps)
  | _, _ => none

def srcOk (tx : TypeId) (b : CV) : Bool :=
  match P.underlying tx, b.isStr with
  | some .string, true => true
  | some (.slice _), false => true
  | _, _ => false
/-- rows of bytes have the element type 5 (uint8) -/
def rowTB : Ty → TypeId → Bool
  | .int .u8, e => e == 5
  | _, _ => true
/-- a slice type's element: its code, its bytes, its cells -/
def elemInfo (t : TypeId) : Option (Ty × Nat × Nat) :=
  match P.underlying t with
  | some (.slice e) => match tyAt P e, bytesAt P e, sizeAt P e, zeroCells P e with
    | some te, some b, some sz, some z => bif te.size == sz && decide (0 < b) && decide (0 < sz) && z.length == sz && (decAll te z).isSome && rowTB te e then some (te, b, sz) else none
    | _, _, _, _ => none
  | _ => none
def elemZero (t : TypeId) : Option (List CV) :=
  match P.underlying t with
  | some (.slice e) => zeroCells P e
  | _ => none
def appendC (t tx : TypeId) (x y : V) (id : Nat) : Rd Out :=
  match elemInfo P t, x, y with
  | some (e, by_, _), .one a, .one b =>
    bif !srcOk P tx b then .fail else
    (srcElems e b).bind fun ys =>
    match a with
    | .nils _ => .guard (decide (ys.length * by_ ≤ 140737488355328)) (.ret ⟨.one (.osl id), [(id, .row e ys)]⟩)
    | .clp t' xs => (Rd.ofOption (decS e t' xs)).bind fun xs =>
      .guard ((decide (xs.length = 0) || decide (0 < ys.length)) && decide ((xs.length + ys.length) * by_ ≤ 140737488355328)) (.ret ⟨.one (.osl id), [(id, .row e (xs ++ ys))]⟩)
    | .osl i => .get i fun
      | .row t' xs => (Rd.ofOption (decS e t' xs)).bind fun xs =>
        .guard (decide ((xs.length + ys.length) * by_ ≤ 140737488355328)) (.ret ⟨.one (.osl id), [(i, .dead), (id, .row e (xs ++ ys))]⟩)
      | _ => .fail
    | .ovw i o n => .get i fun
      | .row t' xs => (Rd.ofOption (decS e t' xs)).bind fun xs => .guard (decide (o + n ≤ xs.length)) <|
        .split (decide (o + n + ys.length ≤ xs.length))
          (.ret ⟨.one (.ovw i o (n + ys.length)), [(i, .row e (xs.take (o + n) ++ ys ++ xs.drop (o + n + ys.length)))]⟩)
          (.guard (decide ((n + ys.length) * by_ ≤ 140737488355328)) (.ret ⟨.one (.osl id), [(i, .dead), (id, .row e ((xs.drop o).take n ++ ys))]⟩))
      | .full t' xs => (Rd.ofOption (decS e t' xs)).bind fun xs => .guard (decide (o + n ≤ xs.length)) <|
        .split (decide (o + n + ys.length ≤ xs.length))
          (.ret ⟨.one (.ovw i o (n + ys.length)), [(i, .full e (xs.take (o + n) ++ ys ++ xs.drop (o + n + ys.length)))]⟩)
          (.guard (decide ((n + ys.length) * by_ ≤ 140737488355328)) (.ret ⟨.one (.osl id), [(id, .row e ((xs.drop o).take n ++ ys))]⟩))
      | _ => .fail
    | _ => .fail
  | _, _, _ => .fail

/-- append(xs, make([]T, n)...), where the room is too small -/
def isIntT (t : TypeId) : Bool := match P.underlying t with | some (.int _) => true | _ => false
def appendZ (t : TypeId) (x y : V) (id : Nat) : Rd Out :=
  match elemInfo P t, elemZero P t, x, y with
  | some (e, by_, _), some z, .one (.ovw i o n), .one (.int _ l) =>
    match decAll e z with
    | some zx => .get i fun
      | .full t' xs => (Rd.ofOption (decS e t' xs)).bind fun xs =>
        .guard (decide (0 ≤ l) && decide (o + n ≤ xs.length) && decide (xs.length < o + n + l.toNat) && decide ((n + l.toNat) * by_ ≤ 140737488355328)) (.ret ⟨.one (.osl id), [(id, .row e ((xs.drop o).take n ++ List.replicate l.toNat zx))]⟩)
      | _ => .fail
    | none => .fail
  | _, _, _, _ => .fail
def copyC (t tx : TypeId) (x y : V) : Rd Out :=
  match elemInfo P t, x, y with
  | some (e, _, _), .one a, .one b =>
    bif !srcOk P tx b then .fail else
    (srcElems e b).bind fun ys =>
    match a with
    | .osl i => .get i fun
      | .row t' xs => (Rd.ofOption (decS e t' xs)).bind fun xs =>
        .ret ⟨.one (.int .i64 (min ys.length xs.length : Nat)), [(i, .row e (ys.take xs.length ++ xs.drop ys.length))]⟩
      | _ => .fail
    | .ovw i o n => .get i fun
      | .row t' xs => (Rd.ofOption (decS e t' xs)).bind fun xs =>
        .guard (decide (o + n ≤ xs.length)) (.ret ⟨.one (.int .i64 (min ys.length n : Nat)), [(i, .row e (xs.take o ++ ys.take n ++ xs.drop (o + min ys.length n)))]⟩)
      | .full t' xs => (Rd.ofOption (decS e t' xs)).bind fun xs =>
        .guard (decide (o + n ≤ xs.length)) (.ret ⟨.one (.int .i64 (min ys.length n : Nat)), [(i, .full e (xs.take o ++ ys.take n ++ xs.drop (o + min ys.length n)))]⟩)
      | _ => .fail
    | .nils _ => .ret ⟨.one (.int .i64 0), []⟩
    | _ => .fail
  | _, _, _ => .fail

/-- the elements of a slice of the call's own become zero -/
def clearC (t : TypeId) (c : CV) : Rd Out :=
  match elemInfo P t, elemZero P t with
  | some (e, _, _), some z => match decAll e z, c with
    | some x, .osl i => .get i fun
      | .row t' xs => (Rd.ofOption (decS e t' xs)).bind fun xs => .ret ⟨.tup [], [(i, .row e (List.replicate xs.length x))]⟩
      | _ => .fail
    | some x, .ovw i o n => .get i fun
      | .row t' xs => (Rd.ofOption (decS e t' xs)).bind fun xs => .guard (decide (o + n ≤ xs.length)) (.ret ⟨.tup [], [(i, .row e (xs.take o ++ List.replicate n x ++ xs.drop (o + n)))]⟩)
      | _ => .fail
    | _, _ => .fail
  | _, _ => .fail
/-! maps -/
def isKeyT : Ty → Bool
  | .bool => true
  | .int _ => true
  | .str => true
  | _ => false
def eqE : (t : Ty) → El t → El t → Bool
  | .bool, a, b => a == b
  | .int _, a, b => a == b
  | .str, a, b => a == b
  | _, _, _ => false
section
variable (kt vt : Ty)
def mapFind : List (El kt × El vt) → El kt → Option (El vt)
  | [], _ => none
  | p :: r, k => bif eqE kt k p.1 then some p.2 else mapFind r k
def mapPos : List (El kt × El vt) → El kt → Nat
  | [], _ => 0
  | p :: r, k => bif eqE kt k p.1 then 0 else mapPos r k + 1
def mapSet : List (El kt × El vt) → El kt → El vt → List (El kt × El vt)
  | [], k, v => [(k, v)]
  | p :: r, k, v => bif eqE kt k p.1 then (p.1, v) :: r else p :: mapSet r k v
def mapDel : List (El kt × El vt) → El kt → List (El kt × El vt)
  | [], _ => []
  | p :: r, k => bif eqE kt k p.1 then r else p :: mapDel r k
def mapPut : List (El kt × El vt) → Nat → El vt → List (El kt × El vt)
  | [], _, _ => []
  | p :: r, 0, v => (p.1, v) :: r
  | p :: r, n + 1, v => p :: mapPut r n v
end
structure MapInfo where
  kt : Ty
  vt : Ty
  g : Bool
  key : TypeId
  elem : TypeId
  zero : El vt
/-- the zero's shape is as the type says -/
def zeroShape (t : TypeId) (g : Bool) : Bool :=
  match (P.info? t).bind (·.zero) with
  | some (.agg _) => g
  | some _ => !g
  | none => false
def mapInfo (t : TypeId) : Option MapInfo :=
  match P.underlying t with
  | some (.map k e) => match tyAt P k, aggAt P k, tyAt P e, aggAt P e, zeroCells P e with
    | some kt, some false, some vt, some g, some z => bif isKeyT kt && zeroShape P e g then (match decAll vt z with | some x => some ⟨kt, vt, g, k, e, x⟩ | none => none) else none
    | _, _, _, _, _ => none
  | _ => none
def decM (kt vt kt' vt' : Ty) (es : List (El kt' × El vt')) : Option (List (El kt × El vt)) :=
  match Ty.eq? kt' kt, Ty.eq? vt' vt with
  | some ⟨h⟩, some ⟨g⟩ => some (h ▸ g ▸ es)
  | _, _ => none
def keyOfV (kt : Ty) : V → Option (El kt)
  | .one c => decAll kt [c]
  | _ => none
/-- the map that a value leads to, and a key -/
def withMap (I : MapInfo) (m : V) (k : V) (f : Nat → List (El I.kt × El I.vt) → Bool → El I.kt → Rd Out) : Rd Out :=
  match m with
  | .one (.osl i) => .get i fun
    | .map kt' vt' g' es tidy => bif g' == I.g then (match decM I.kt I.vt kt' vt' es, keyOfV I.kt k with
      | some es, some key => f i es tidy key
      | _, _ => .fail) else .fail
    | _ => .fail
  | _ => .fail
/-- a map's element out of a value; the rows in it are frozen -/
def elemOf (I : MapInfo) (v : V) (f : El I.vt → List (Nat × Obj) → Rd Out) : Rd Out :=
  bif V.isBad v || !(V.isOne v == !I.g) then .fail else
  (dataCs v.cells).bind fun ncs => (freeze (rowsD v.cells)).bind fun ws =>
  match decAll I.vt ncs with
  | some x => f x ws
  | none => .fail
def lookupC (t : TypeId) (m k : V) (commaOk : Bool) : Rd Out :=
  match mapInfo P t with
  | some I => withMap I m k fun _ es _ key =>
    (mkV I.g (enc I.vt ((mapFind I.kt I.vt es key).getD I.zero))).bind fun v => .ret ⟨bif commaOk then .tup [v, .one (.bool (mapFind I.kt I.vt es key).isSome)] else v, []⟩
  | none => .fail
def updateC (t : TypeId) (m k v : V) : Rd Out :=
  match mapInfo P t with
  | some I => withMap I m k fun i es tidy key => elemOf I v fun x ws =>
    bif hasNat (rowsD v.cells) i then .fail else
    .ret ⟨.tup [], ws ++ [(i, .map I.kt I.vt I.g (mapSet I.kt I.vt es key x) tidy)]⟩
  | none => .fail
def entryC (t : TypeId) (m k : V) : Rd Out :=
  match mapInfo P t with
  | some I => withMap I m k fun i es tidy key => bif tidy then
      (mkV I.g (enc I.vt ((mapFind I.kt I.vt es key).getD I.zero))).bind fun v =>
      .ret ⟨.tup [v, .one (.int .i64 (mapPos I.kt I.vt es key : Nat))], [(i, .map I.kt I.vt I.g (mapSet I.kt I.vt es key ((mapFind I.kt I.vt es key).getD I.zero)) true)]⟩
    else .fail
  | none => .fail
def entryStoreC (t : TypeId) (m s v : V) : Rd Out :=
  match mapInfo P t, m, s with
  | some I, .one (.osl i), .one (.int .i64 n) => .get i fun
    | .map kt' vt' g' es tidy => bif (g' == I.g) && tidy then (match decM I.kt I.vt kt' vt' es with
      | some es => elemOf I v fun x ws => bif hasNat (rowsD v.cells) i then .fail else
        .guard (decide (0 ≤ n) && decide (n < es.length)) (.ret ⟨.tup [], ws ++ [(i, .map I.kt I.vt I.g (mapPut I.kt I.vt es n.toNat x) true)]⟩)
      | none => .fail) else .fail
    | _ => .fail
  | _, _, _ => .fail
def deleteC (t : TypeId) (m k : V) : Rd Out :=
  match mapInfo P t with
  | some I => withMap I m k fun i es _ key => .ret ⟨.tup [], [(i, .map I.kt I.vt I.g (mapDel I.kt I.vt es key) false)]⟩
  | none => .fail
def makeMapC (t : TypeId) (r : Option V) (id : Nat) : Rd Out :=
  match mapInfo P t with
  | some I => (match r with
    | none => .ret ⟨.one (.osl id), [(id, .map I.kt I.vt I.g [] true)]⟩
    | some (.one (.int _ _)) => .ret ⟨.one (.osl id), [(id, .map I.kt I.vt I.g [] true)]⟩
    | _ => .fail)
  | none => .fail
def mapElemTy (t : TypeId) : Option Ty :=
  match P.underlying t with
  | some (.map _ e) => tyAt P e
  | _ => none
def mapKeyTy (t : TypeId) : Option Ty :=
  match P.underlying t with
  | some (.map k _) => tyAt P k
  | _ => none

def builtinC (b : Builtin) (ts : List TypeId) (vs : List V) (id : Nat) : Rd Out :=
  match b with
  | .len => (match ts, vs with
    | t :: _, [.one c] => (lenC P t c).bind fun c => .ret ⟨.one c, []⟩
    | _, _ => .fail)
  | .cap => (match ts, vs with
    | t :: _, [.one c] => (capC P t c).bind fun c => .ret ⟨.one c, []⟩
    | _, _ => .fail)
  | .append => (match ts, vs with
    | [t, tx], [x, y] => bif isIntT P tx then appendZ P t x y id else appendC P t tx x y id
    | _, _ => .fail)
  | .copy => (match ts, vs with
    | [t, tx], [x, y] => copyC P t tx x y
    | _, _ => .fail)
  | .delete => (match ts, vs with
    | [t, _], [m, k] => deleteC P t m k
    | _, _ => .fail)
  | .clear => (match ts, vs with
    | t :: _, [.one c] => clearC P t c
    | _, _ => .fail)
  | .min => (match vs with
    | [.one (.int k a), .one (.int l b)] => (match eqKind k l with
      | some _ => .ret ⟨.one (.int k (if b < a then b else a)), []⟩
      | none => .fail)
    | _ => .fail)
  | .max => (match vs with
    | [.one (.int k a), .one (.int l b)] => (match eqKind k l with
      | some _ => .ret ⟨.one (.int k (if b > a then b else a)), []⟩
      | none => .fail)
    | _ => .fail)
  | _ => .fail

def isStrT (t : TypeId) : Bool := match P.underlying t with | some .string => true | _ => false
def isBytesT (t : TypeId) : Bool :=
  match P.underlying t with
  | some (.slice e) => (match P.underlying e with | some (.int .u8) => true | _ => false)
  | _ => false
def convC (src dst : TypeId) (x : CV) : Rd CV :=
  match P.underlying src, P.underlying dst, x with
  | some _, some (.int k), .int _ n => .ret (.int k (k.wrap n))
  | some _, some .string, .str s => .ret (.str s)
  | some (.slice _), some .string, c => bif isBytesT P src then (elems (.int .u8) c).bind fun xs => .ret (.str (bytesOf xs)) else .fail
  | _, _, _ => .fail

/-- an operation's meaning: its operands are values already; id: the first of its own new objects -/
def semOp (o : Op) (ty : TypeId) (ev : Operand → Option Ty → V) (id : Nat) : Rd Out :=
  let one (c : Rd CV) : Rd Out := c.bind fun c => .ret ⟨.one c, []⟩
  match o with
  | .move x | .assign x => .ret ⟨ev x (tyAt P ty), []⟩
  | .pick c a b => match ev c none with
    | .one (.bool t) => .split t (.ret ⟨ev a (tyAt P ty), []⟩) (.ret ⟨ev b (tyAt P ty), []⟩)
    | _ => .fail
  | .alloc t => match zeroCells P t with
    | some cs => .ret ⟨.one (.ptr id 0), [(id, .cells (selfZero (C.self t) t cs))]⟩
    | none => .fail
  | .box t x => let v := ev x (tyAt P t); bif v.isBad || !noSlf v.cells then .fail else .ret ⟨.one (.ptr id 0), [(id, .cells v.cells)]⟩
  | .load t a => match ev a none, sizeAt P t, aggAt P t with
    | .one c, some n, some g => (loadC n c).bind fun cs => bif cs.length == n then (mkV g cs).bind fun v => .ret ⟨v, []⟩ else .fail
    | _, _, _ => .fail
  | .store t a x => match ev a none, sizeAt P t with
    | .one c, some n =>
      let v := ev x (tyAt P t)
      bif v.cells.length == n && !v.isBad then
        (match c with
        | .ptr i o => .get i fun
          | .cells cs => bif decide (o + n ≤ cs.length) && known v.cells then .ret ⟨.tup [], [(i, .cells (splice cs o v.cells))]⟩ else .fail
          | _ => .fail
        | .eptr i k o => .get i fun
          | .row t' xs => .opt t' xs[k]? fun e =>
            (dataCs v.cells).bind fun ncs => (freeze (rowsD v.cells)).bind fun ws =>
            match decAll t' (splice (enc t' e) o ncs) with
            | some e' => bif (rowsD v.cells).contains i || !decide (o + n ≤ t'.size) then .fail else .ret ⟨.tup [], ws ++ [(i, .row t' (xs.set k e'))]⟩
            | none => .fail
          | _ => .fail
        | _ => .fail)
      else .fail
    | _, _ => .fail
  | .nilCheck x => match ev x none with
    | .one (.ptr i o) => .get i fun
      | .cells _ => .ret ⟨.one (.ptr i o), []⟩
      | _ => .fail
    | .one (.eptr i k o) => .get i fun
      | .row _ _ => .ret ⟨.one (.eptr i k o), []⟩
      | .frz _ _ => .ret ⟨.one (.eptr i k o), []⟩
      | _ => .fail
    | .one (.rptr cs) => .ret ⟨.one (.rptr cs), []⟩
    | .one (.fn f cs) => .ret ⟨.one (.fn f cs), []⟩
    | _ => .fail
  | .binOp op t x y u => match ev x (tyAt P t), ev y (tyAt P u) with
    | .one a, .one b => one (binC op (isBoolT P t) (isSliceT P t) a b)
    | .agg a, .agg b => one (binA P op t a b)
    | _, _ => .fail
  | .unOp op _ x => match ev x none with
    | .one a => one (unC op a)
    | _ => .fail
  | .convert s d x => match ev x (tyAt P s) with
    | .one (.str b) => bif isStrT P s && isBytesT P d then .ret ⟨.one (.slc (.int .u8) (b.data.toList.map fun b => (b.toNat : Int))), []⟩ else one (convC P s d (.str b))
    | .one a => one (convC P s d a)
    | _ => .fail
  | .makeFunc (.func f) first caps => let vs := caps.toList.map (ev · none)
    bif first.isEmpty && vs.all V.isOne then .ret ⟨.one (.fn f (vs.flatMap V.cells)), []⟩ else .fail
  | .slice t x l h m => match ev x (tyAt P t), optInt (l.map (ev · none)), optInt (h.map (ev · none)), optInt (m.map (ev · none)) with
    | .one c, some l, some h, some m => match P.underlying t, c with
      | some .string, .str s => one (sliceS s (l.getD 0) h m)
      | some (.slice e), c => match sizeAt P e with
        | some sz => match c, m with
          | .osl i, some m => (freeze [i]).bind fun ws => .get i fun
            | .row t xs => bif t.size == sz then (sliceD t xs (l.getD 0) h (some m)).bind fun c => .ret ⟨.one c, ws⟩ else .fail
            | .frz t xs => bif t.size == sz then (sliceD t xs (l.getD 0) h (some m)).bind fun c => .ret ⟨.one c, ws⟩ else .fail
            | _ => .fail
          | c, m => one (sliceC sz c (l.getD 0) h m)
        | none => .fail
      | _, _ => .fail
    | _, _, _, _ => .fail
  | .fieldAddr t x f => match ev x none, fieldOff P t f with
    | .one c, some (o, n, _) => one (fieldAddrC o n c)
    | _, _ => .fail
  | .field t x f => match ev x none, fieldOff P t f with
    | .agg cs, some (o, n, g) => bif ((cs.drop o).take n).length == n then (mkV g ((cs.drop o).take n)).bind fun v => .ret ⟨v, []⟩ else .fail
    | _, _ => .fail
  | .indexAddr t x i => match ev x none, ev i none, elemSize P t, arrayAt P t with
    | .one c, .one (.int _ n), some sz, _ => one (indexAddrC sz c n)
    | .one c, .one (.int _ k), none, some (n, e, sz) => one (indexPtr (tyAt P e) n sz c k)
    | _, _, _, _ => .fail
  | .index t x i => match P.underlying t, ev x none, ev i none with
    | some .string, .one (.str s), .one (.int _ n) => .opt (.int .u8) (byteAt s n) fun b => .ret ⟨.one (.int .u8 b), []⟩
    | some (.array n e), .agg cs, .one (.int _ k) => (match sizeAt P e, aggAt P e with
      | some sz, some g => indexA (tyAt P e) n sz g cs k
      | _, _ => .fail)
    | _, _, _ => .fail
  | .extract t i => match ev t none with
    | .tup vs => match vs[i]? with
      | some v => .ret ⟨v, []⟩
      | none => .fail
    | _ => .fail
  | .build t parts => match zeroCells P t, placesOf P t with
    | some z, some pl =>
      let ps := parts.toList.map fun p => (p.1, ev p.2 (partTy P t p.1))
      bif noTups (ps.map (·.2)) then (fillC pl z ps).bind fun cs => .ret ⟨.agg cs, []⟩ else .fail
    | _, _ => .fail
  | .buildSlice t n parts => match P.underlying t with
    | some (.slice e) => match zeroCells P e, sizeAt P e, tyAt P e with
      | some z, some sz, some te =>
        let ps := parts.toList.map fun p => (p.1, ev p.2 (some te))
        bif noTups (ps.map (·.2)) && decide (n * sz ≤ 16777216) && te.size == sz && decide (0 < sz) && z.length == sz && rowTB te e then
          (fillC (fun i => some (i * sz, sz)) ((List.replicate n z).flatten) ps).bind fun cs =>
          (dataCs cs).bind fun cs' => (freeze (rowsD cs)).bind fun ws =>
          (match chunk te n cs' with
          | some xs => .ret ⟨.one (.osl id), ws ++ [(id, .row te xs)]⟩
          | none => .fail)
        else .fail
      | _, _, _ => .fail
    | _ => .fail
  | .makeSlice t n c => match elemInfo P t, elemZero P t with
    | some (e, b, _), some z => match decAll e z, ev n none, ev c none with
      | some x, .one (.int .i64 n), .one (.int .i64 c) =>
        .guard (decide (0 ≤ n) && decide (n ≤ c) && decide (c * b ≤ 140737488355328)) (.ret ⟨.one (.osl id), [(id, .row e (List.replicate n.toNat x))]⟩)
      | _, _, _ => .fail
    | _, _ => .fail
  | .makeMap t r => makeMapC P t (r.map (ev · none)) id
  | .lookup t m k ok => lookupC P t (ev m none) (ev k (mapKeyTy P t)) ok
  | .mapUpdate t m k v => updateC P t (ev m none) (ev k (mapKeyTy P t)) (ev v (mapElemTy P t))
  | .insert t m k v => updateC P t (ev m none) (ev k (mapKeyTy P t)) (ev v (mapElemTy P t))
  | .mapEntry t m k => entryC P t (ev m none) (ev k (mapKeyTy P t))
  | .entryStore t m s v => entryStoreC P t (ev m none) (ev s none) (ev v (mapElemTy P t))
  | .call c =>
    let vs := (List.range c.args.size).map fun i => ev (c.args.getD i (.const (.bool false))) ((c.argTypes[i]?).bind (tyAt P))
    match c.callee with
    | .builtin b => builtinC P b c.argTypes.toList vs id
    | .value f => match ev f none with
      | .one (.fn g caps) => match C.ref g with
        | .pure => callPure P C g (vs ++ caps.map V.one) id
        | .apart => apartC (vs ++ caps.map V.one)
        | .maker g' => makerC g' (vs ++ caps.map V.one) id
        | m => callRef P C m g (vs ++ caps.map V.one) id
      | _ => .fail
    | _ => .fail
  | _ => .fail

/-- how many new objects an operation may make -/
def newOf (o : Op) (ev : Operand → Option Ty → V) : Nat :=
  match o with
  | .alloc _ | .box .. | .buildSlice .. | .makeSlice .. | .makeMap .. => 1
  | .call { callee := .builtin .append, .. } => 1
  | .call { callee := .builtin _, .. } => 0
  | .call { callee := .value f, .. } => match ev f none with
    | .one (.fn g _) => match C.ref g with
      | .maker _ => 1
      | .pure => (match rtsOf P (C.own g) (resTypes P g) with | some ds => ownCounts ds | none => 0)
      | _ => (match rtsOf P (C.own g) (resTypes P g) with | some ds => ownCounts ds + refRoom | none => 0)
    | _ => 0
  | _ => 0
end
end Go.Sk

/- The evaluator: regions, segments of code as trees, their runs and the limit of these. -/
namespace Go.Sk
open Go

/-! ### trees -/
inductive KI where      -- what is still to be done, as the model's own list of items
  | code (c : Code) | blk (id : Nat) | lp (b : Code) | scp (b : Code) | jn

inductive Tree where
  | fail
  | leaf (ks : List KI) (s : St)
  | fin (v : V) (m : List Obj)
  | br (c : Bool) (x y : Tree)
  | opt (t : Ty) (o : Option (El t)) (k : El t → Tree)
  | call (f : FuncId) (args : List V) (mem : List Obj) (ρ : RD) (k : ρ.El → Tree)

def Tree.interp {R : Type} (call : (f : FuncId) → List V → List Obj → (ρ : RD) → Option ρ.El) (leaf : List KI → St → Option R) (fin : V → List Obj → Option R) : Tree → Option R
  | .fail => none
  | .leaf ks s => leaf ks s
  | .fin v m => fin v m
  | .br c x y => bif c then x.interp call leaf fin else y.interp call leaf fin
  | .opt _ o k => o.bind fun x => (k x).interp call leaf fin
  | .call f asv m ρ k => (call f asv m ρ).bind fun x => (k x).interp call leaf fin

def Rd.toTree {α : Type} (m : List Obj) : Rd α → List Nat → (α → List Nat → Tree) → Tree
  | .ret a, l, k => k a l
  | .fail, _, _ => .fail
  | .get i f, l, k => (f (m.getD i .dead)).toTree m (i :: l) k
  | .guard c x, l, k => .br c (x.toTree m l k) .fail
  | .split c x y, l, k => .br c (x.toTree m l k) (y.toTree m l k)
  | .opt t o f, l, k => .opt t o fun x => (f x).toTree m l k
  | .call f asv me ρ g, l, k => .call f asv me ρ fun x => (g x).toTree m l k

/-- without calls: what it comes to -/
def Rd.run1 {α : Type} (m : List Obj) : Rd α → Option α
  | .ret a => some a
  | .fail => none
  | .get i f => (f (m.getD i .dead)).run1 m
  | .guard c x => bif c then x.run1 m else none
  | .split c x y => bif c then x.run1 m else y.run1 m
  | .opt _ o f => o.bind fun x => (f x).run1 m
  | .call .. => none

/-! ### states -/
def St.ev (s : St) : Operand → Option Ty → V
  | .tmp t, _ => s.env.getD t uv
  | .const (.agg cs), _ => .agg (cs.toList.map (ofConst none))
  | .const (.tuple _), _ => uv
  | .const v, t => .one (ofConst t v)
  | .func f, _ => .one (.fn f [])
  | .global _, _ => uv
def St.set (s : St) (t : Nat) (v : V) : St := { s with env := s.env.set t v }
def St.put (s : St) (d : Option Tmp) (v : V) : St :=
  match d with
  | some t => s.set t v
  | none => s
def wr : List Obj → Nat → Obj → List Obj
  | [], 0, o => [o]
  | [], n + 1, o => .dead :: wr [] n o
  | _ :: r, 0, o => o :: r
  | x :: r, n + 1, o => x :: wr r n o
def wrs : List Obj → List (Nat × Obj) → List Obj
  | m, [] => m
  | m, (i, o) :: r => wrs (wr m i o) r
def St.write (s : St) (ws : List (Nat × Obj)) : St := { s with mem := wrs s.mem ws }

/-! ### which temporaries are still read -/
def bit (t : Nat) : Nat := 2 ^ t
def clear (L t : Nat) : Nat := Nat.xor (Nat.lor L (bit t)) (bit t)
def opMask : Operand → Nat
  | .tmp t => bit t
  | _ => 0
def opsMask : List Operand → Nat
  | [] => 0
  | x :: r => Nat.lor (opMask x) (opsMask r)
def guardTmp (ops : Array Oper) (j : Nat) : Option Tmp := (ops[j]?).bind (·.dst)
def liveOp (ops : Array Oper) (o : Oper) (L : Nat) : Nat :=
  let L := match o.dst with | some d => clear L d | none => L
  let L := Nat.lor L (opsMask o.op.operands.toList)
  match o.guard with
  | some (j, _) => (match guardTmp ops j with | some d => Nat.lor L (bit d) | none => L)
  | none => L
def liveOps (ops : Array Oper) : List Oper → Nat → Nat
  | [], L => L
  | o :: r, L => liveOp ops o (liveOps ops r L)
def lookL : List (Nat × Nat) → Nat → Nat
  | [], _ => 0
  | (i, L) :: r, j => bif i == j then L else lookL r j
def liveIn (ret all : Nat) : Code → Nat → List (Nat × Nat) → Nat
  | .skip, L, _ => L
  | .label _, L, _ => L
  | .region _ ops _, L, _ => liveOps ops ops.toList L
  | .seq a b, L, e => liveIn ret all a (liveIn ret all b L e) e
  | .cond c x y, L, e => Nat.lor (opMask c) (Nat.lor (liveIn ret all x L e) (liveIn ret all y L e))
  | .block id b, L, e => liveIn ret all b L ((id, L) :: e)
  | .loop b, _, e => liveIn ret all b (liveIn ret all b (liveIn ret all b 0 e) e) e
  | .scope b, L, e => liveIn ret all b L e
  | .exit id, _, e => lookL e id
  | .goto _, _, _ => all
  | .ret, _, _ => ret
  | _, _, _ => all
def liveKs (ret all : Nat) : List KI → Nat × List (Nat × Nat)
  | [] => (ret, [])
  | .code c :: k => let (L, e) := liveKs ret all k; (liveIn ret all c L e, e)
  | .blk id :: k => let (L, e) := liveKs ret all k; (L, (id, L) :: e)
  | .lp b :: k => let (_, e) := liveKs ret all k; (liveIn ret all (.loop b) 0 e, e)
  | .scp _ :: k => liveKs ret all k
  | .jn :: k => liveKs ret all k

/-! ### the form of a state at a cut: what is dead is forgotten, objects are numbered anew -/
def maskEnv (L : Nat) : Nat → List V → List V
  | _, [] => []
  | i, v :: r => (bif Nat.testBit L i then v else uv) :: maskEnv L (i + 1) r
/-- a nil slice becomes an owned row of no element -/
def ownCs : Nat → List CV → List CV × List Obj
  | _, [] => ([], [])
  | n, .nils t :: r => let (cs, os) := ownCs (n + 1) r; (.osl n :: cs, .row t [] :: os)
  | n, c :: r => let (cs, os) := ownCs n r; (c :: cs, os)
def ownVs : Nat → List V → List V × List Obj
  | _, [] => ([], [])
  | n, .one (.nils t) :: r => let (vs, os) := ownVs (n + 1) r; (.one (.osl n) :: vs, .row t [] :: os)
  | n, v :: r => let (vs, os) := ownVs n r; (v :: vs, os)
def ownOs : Nat → List Obj → List Obj × List Obj
  | _, [] => ([], [])
  | n, .cells cs :: r => let (cs, o) := ownCs n cs; let (os, q) := ownOs (n + o.length) r; (.cells cs :: os, o ++ q)
  | n, x :: r => let (os, q) := ownOs n r; (x :: os, q)
def Obj.isDead : Obj → Bool
  | .dead => true
  | _ => false
def reach (m : List Obj) : Nat → List Nat → List Nat → List Nat
  | 0, _, acc => acc
  | _ + 1, [], acc => acc
  | n + 1, i :: r, acc => bif hasNat acc i || (m.getD i .dead).isDead then reach m n r acc else reach m n (idsO (m.getD i .dead) ++ r) (acc ++ [i])
def renOs (g : Nat → Option Nat) (m : List Obj) : List Nat → List Obj
  | [] => []
  | i :: r => renO g (m.getD i .dead) :: renOs g m r
def gRoot (m : List Obj) : List Nat :=
  match m.getD 0 .dead with
  | .ghost _ => [0]
  | _ => []
def norm (L : Nat) (s : St) : St :=
  let e := maskEnv L 0 s.env
  let n := s.mem.length
  let (e, os) := ownVs n e
  let (m, q) := ownOs (n + os.length) s.mem
  let m := m ++ os ++ q
  let ids := reach m 400 (gRoot m ++ idsVs e) []
  let g := fun i => posOf ids i 0
  ⟨renVs g e, renOs g m ids⟩

/-! ### regions -/
section
variable (P : Program) (C : Cfg)

/-- an operation as the order's check sees it: the objects that it reads and writes; the temporaries that it looks at and yields -/
structure En where
  reads : List Nat
  writes : List Nat
  looks : Nat
  dst : Nat
def padTo (n : Nat) (m : List Obj) : List Obj := m ++ List.replicate (n - m.length) .dead
def dstMask (o : Oper) : Nat := match o.dst with | some d => bit d | none => 0
def looksMask (ops : Array Oper) (o : Oper) : Nat :=
  match o.guard with
  | some (j, _) => (match guardTmp ops j with | some d => Nat.lor (opsMask o.op.operands.toList) (bit d) | none => opsMask o.op.operands.toList)
  | none => opsMask o.op.operands.toList
def enOf (ops : Array Oper) (o : Oper) (rs ws : List Nat) : En := ⟨rs, ws, looksMask ops o, dstMask o⟩

def evOps (ops : Array Oper) : List Oper → Nat → St → List En → (St → List En → Tree) → Tree
  | [], nx, s, lg, k => k { s with mem := padTo nx s.mem } lg
  | o :: r, nx, s, lg, k =>
    let go (s : St) : Tree := (semOp P C o.op o.type s.ev nx).toTree s.mem [] fun out rs =>
      evOps ops r (nx + newOf P C o.op s.ev) ((s.put o.dst out.v).write out.ws) (enOf ops o rs (out.ws.map (·.1)) :: lg) k
    let skip (s : St) : Tree := evOps ops r nx (s.put o.dst (.tup [])) (enOf ops o [] [] :: lg) k
    match o.guard with
    | none => go s
    | some (j, want) =>
      match guardTmp ops j with
      | none => .fail
      | some d =>
        match s.env.getD d uv with
        | .one (.bool b) => .br b (let s := s.set d (.one (.bool true)); bif want then go s else skip s) (let s := s.set d (.one (.bool false)); bif want then skip s else go s)
        | .tup [] => skip s
        | _ => .fail

def meets : List Nat → List Nat → Bool
  | [], _ => false
  | a :: r, b => hasNat b a || meets r b
/-- two operations, the earlier one first, that may be done in any order -/
def apart (a b : En) : Bool :=
  Nat.beq (Nat.land a.dst (Nat.lor b.looks b.dst)) 0 && Nat.beq (Nat.land a.looks b.dst) 0 &&
  (!meets a.writes b.reads && !meets a.writes b.writes && !meets a.reads b.writes)
/-- the numbers of those before an operation; nums: those of the operations so far, the last first; j: how many -/
def look (nums : List Nat) (j i : Nat) : Nat := bif Nat.blt i j then nums.getD (j - 1 - i) 0 else 0
def befOf (nums : List Nat) (j : Nat) : List Edge → Nat
  | [] => 0
  | e :: r => bif Region.binds .any e then Nat.lor (Nat.lor (bit e.on) (look nums j e.on)) (befOf nums j r) else befOf nums j r
/-- against the operations before it, the last first; i: how many -/
def against (b : Nat) (e : En) : Nat → List En → Bool
  | i + 1, a :: r => (Nat.testBit b i || apart a e) && against b e i r
  | _, _ => true
def force {α : Type} (n : Nat) (k : Nat → α) : α := match n with | 0 => k 0 | m + 1 => k (m + 1)
def edgesOk (j : Nat) : List Edge → Bool
  | [] => true
  | e :: r => (!Region.binds .any e || Nat.blt e.on j) && edgesOk j r
/-- operations that no order binds do not meet -/
def orderOk : List Oper → List En → Nat → List Nat → List En → Bool
  | o :: r, e :: es, j, nums, ens => force (befOf nums j o.after.toList) fun b => against b e j ens && edgesOk j o.after.toList && orderOk r es (j + 1) (b :: nums) (e :: ens)
  | [], [], _, _, _ => true
  | _, _, _, _, _ => false
def hasGuard : List Oper → Bool
  | [] => false
  | o :: r => o.guard.isSome || hasGuard r

def falls : Code → Bool
  | .seq a b => falls a && falls b
  | .cond _ x y => falls x || falls y
  | .exit _ | .ret | .goto _ | .refuse _ => false
  | .loop _ => false
  | _ => true

def exitK (id : Nat) : List KI → Option (List KI)
  | [] => none
  | .blk i :: k => bif i == id then some k else exitK id k
  | _ :: k => exitK id k
def gotoK (l : Nat) : List KI → Option (List KI)
  | [] => none
  | .scp b :: k => match findLabel b l with
    | some c => some (.code c :: .scp b :: k)
    | none => gotoK l k
  | _ :: k => gotoK l k

/-! ### segments -/
structure Fx where      -- what is asked of the function
  results : List ResultVar
  ntmps : Nat
  ret : Nat
  all : Nat
  fid : FuncId

def resMask : List ResultVar → Nat
  | [] => 0
  | .tmp t :: r => Nat.lor (bit t) (resMask r)
  | .cell t _ :: r => Nat.lor (bit t) (resMask r)
def fxOf (f : FuncId) : Fx :=
  match P.funcs[f]? with
  | some fn => ⟨fn.results.toList, fn.ntmps, resMask fn.results.toList, 2 ^ fn.ntmps - 1, f⟩
  | none => ⟨[], 0, 0, 0, f⟩
def resV (s : St) : List ResultVar → Option (List V)
  | [] => some []
  | .tmp t :: r => (resV s r).map (s.env.getD t uv :: ·)
  | .cell t ty :: r => match s.env.getD t uv, sizeAt P ty, aggAt P ty with
    | .one (.ptr i o), some n, some g => match s.mem.getD i .dead, resV s r with
      | .cells cs, some vs => bif ((cs.drop o).take n).length == n then (match (mkV g ((cs.drop o).take n)).run1 [] with
        | some v => some (v :: vs)
        | none => none) else none
      | _, _ => none
    | _, _, _ => none
/-- views of owned rows become rows before they are handed back -/
def settleC (c : CV) (m : List Obj) (k : CV → List Obj → Tree) : Tree :=
  match c with
  | .ovw i o n => match m.getD i .dead with
    | .row t xs => .br (decide (o + n ≤ xs.length)) (k (.osl m.length) (wr (wr m i .dead) m.length (.row t ((xs.drop o).take n)))) .fail
    | .full t xs => .br (decide (o + n ≤ xs.length)) (k (.osl m.length) (wr (wr m i .dead) m.length (.row t ((xs.drop o).take n)))) .fail
    | _ => k c m
  | c => k c m
def settleCs : List CV → List Obj → (List CV → List Obj → Tree) → Tree
  | [], m, k => k [] m
  | c :: r, m, k => settleC c m fun c m => settleCs r m fun r m => k (c :: r) m
def settleV (v : V) (m : List Obj) (k : V → List Obj → Tree) : Tree :=
  match v with
  | .one c => settleC c m fun c m => k (.one c) m
  | .agg cs => settleCs cs m fun cs m => k (.agg cs) m
  | v => k v m
def settleVs : List V → List Obj → (List V → List Obj → Tree) → Tree
  | [], m, k => k [] m
  | v :: r, m, k => settleV v m fun v m => settleVs r m fun r m => k (v :: r) m
def finT (fx : Fx) (s : St) : Tree :=
  match resV P s fx.results with
  | some vs => settleVs vs s.mem fun vs m => .fin (tupV vs) m
  | none => .fail
def hasCall : List Oper → Bool
  | [] => false
  | o :: r => (match o.op with | .call { callee := .value _, .. } => true | _ => false) || hasCall r
/-- is the segment to end behind this region? -/
def cutHere (fx : Fx) (ops : List Oper) : Bool := (!C.flat fx.fid && hasGuard ops) || (C.cut fx.fid && hasCall ops)
def cutAt (fx : Fx) (ks : List KI) (s : St) : Tree := force (liveKs fx.ret fx.all ks).1 fun L => .leaf ks (norm L s)

def seg (fx : Fx) : Nat → List KI → St → Tree
  | 0, _, _ => .fail
  | n + 1, ks, s =>
    match ks with
    | [] => finT P fx s
    | .jn :: k => bif C.flat fx.fid then seg fx n k s else cutAt fx k s
    | .blk _ :: k => seg fx n k s
    | .scp _ :: k => seg fx n k s
    | .lp b :: k => cutAt fx (.lp b :: k) s
    | .code c :: k =>
      match c with
      | .skip => seg fx n k s
      | .label _ => seg fx n k s
      | .seq a b => seg fx n (.code a :: .code b :: k) s
      | .region _ ops draw => evOps P C ops ops.toList s.mem.length s [] fun s lg =>
        bif !draw || orderOk ops.toList lg.reverse 0 [] [] then (bif cutHere C fx ops.toList then cutAt fx k s else seg fx n k s) else .fail
      | .cond c x y => match s.ev c none with
        | .one (.bool b) =>
          let k := bif falls x && falls y then .jn :: k else k
          .br b (seg fx n (.code x :: k) s) (seg fx n (.code y :: k) s)
        | _ => .fail
      | .block id b => seg fx n (.code b :: .blk id :: k) s
      | .loop b => cutAt fx (.lp b :: k) s
      | .scope b => seg fx n (.code b :: .scp b :: k) s
      | .exit id => match exitK id k with
        | some k => seg fx n k s
        | none => .fail
      | .goto l => match gotoK l k with
        | some k => cutAt fx k s
        | none => .fail
      | .ret => finT P fx s
      | _ => .fail
def segFuel : Nat := 100000
def seg0 (fx : Fx) : List KI → St → Tree
  | .lp b :: k, s => seg P C fx segFuel (.code b :: .lp b :: k) s
  | ks, s => seg P C fx segFuel ks s

/-! ### how a function begins and ends -/
def bodyOf (f : FuncId) : Code := match P.funcs[f]? with
  | some fn => (match fn.body with | some c => c | none => .refuse "")
  | none => .refuse ""
def entry (f : FuncId) : List KI := [.code (bodyOf P f)]
def padV : Nat → List V → List V
  | 0, vs => vs
  | n + 1, [] => uv :: padV n []
  | n + 1, v :: r => v :: padV n r
def initS (f : FuncId) (args : List V) (mem : List Obj) : St := ⟨padV (fxOf P f).ntmps args, mem⟩
end

/-! ### words of the printed texts -/
def mkE (n : Nat) (l : List (Nat × V)) : List V := go (List.replicate n uv) l
where
  go : List V → List (Nat × V) → List V
    | e, [] => e
    | e, (i, v) :: r => go (e.set i v) r
def sub : Code → List Nat → Code
  | c, [] => c
  | .seq a b, i :: r => match i with | 0 => sub a r | _ => sub b r
  | .cond _ x y, i :: r => match i with | 0 => sub x r | _ => sub y r
  | .block _ b, _ :: r => sub b r
  | .loop b, _ :: r => sub b r
  | .scope b, _ :: r => sub b r
  | c, _ => c
def cdIn (P : Program) (f : FuncId) (p : List Nat) : KI := .code (sub (bodyOf P f) p)
def lpIn (P : Program) (f : FuncId) (p : List Nat) : KI := .lp (sub (bodyOf P f) p)
def scIn (P : Program) (f : FuncId) (p : List Nat) : KI := .scp (sub (bodyOf P f) p)

/-! ### results -/
def takeOwn (m : List Obj) (t : Ty) : CV → Option (List (El t) × List Nat)
  | .nils _ => some ([], [])
  | .osl i => match m.getD i .dead with
    | .row t' xs => match decS t t' xs with | some ys => some (ys, [i]) | none => none
    | _ => none
  | .ovw i o n => match m.getD i .dead with
    | .row t' xs => match decS t t' xs with | some ys => bif decide (o + n ≤ ys.length) then some ((ys.drop o).take n, [i]) else none | none => none
    | _ => none
  | _ => none
def takeMap (m : List Obj) (kt vt : Ty) (g b : Bool) : CV → Option (List (El kt × El vt) × List Nat)
  | .osl i => match m.getD i .dead with
    | .map kt' vt' g' es tidy => bif (g' == g) && (tidy == b) then (match decM kt vt kt' vt' es with | some es => some (es, [i]) | none => none) else none
    | _ => none
  | _ => none
structure Got (α : Type) where
  x : α
  rest : List CV
  owned : List Nat
  read : List Nat
def unpackK : CV → List CV → Option (List CV)
  | .slf t, .slf t' :: r => if t = t' then some r else none
  | _, _ => none
theorem unpackK_spec {q : CV} {cs r : List CV} (h : unpackK q cs = some r) : ∃ t, q = .slf t ∧ cs = .slf t :: r := by
  unfold unpackK at h
  split at h
  · rename_i t t' r'
    split at h
    · rename_i e
      subst e
      cases h
      exact ⟨t, rfl, rfl⟩
    · cases h
  · cases h
def unpack (m : List Obj) : (r : RT) → List CV → Option (Got r.El)
  | .ty t, cs => match (dataCs (cs.take t.size)).run1 m with
    | some ps => match decAll t ps with
      | some x => some ⟨x, cs.drop t.size, [], rowsD (cs.take t.size)⟩
      | none => none
    | none => none
  | .own t, c :: cs => match takeOwn m t c with
    | some (xs, is) => some ⟨xs, cs, is, []⟩
    | none => none
  | .own _, [] => none
  | .cat a b, cs => match unpack m a cs with
    | some g => match unpack m b g.rest with
      | some h => some ⟨(g.x, h.x), h.rest, g.owned ++ h.owned, g.read ++ h.read⟩
      | none => none
    | none => none
  | .nothing, cs => some ⟨(), cs, [], []⟩
  | .keep q, cs => match unpackK q cs with
    | some r => some ⟨(), r, [], []⟩
    | none => none
  | .map kt vt g b, c :: cs => match takeMap m kt vt g b c with
    | some (es, is) => some ⟨es, cs, is, []⟩
    | none => none
  | .map .., [] => none
/-- what has no code is not handed on -/
def dropC : RT → List CV → List CV
  | .nothing, _ => []
  | _, cs => cs
theorem dropC_cases (r : RT) (cs : List CV) : (r = .nothing ∧ dropC r cs = []) ∨ dropC r cs = cs := by
  cases r <;> first | exact .inl ⟨rfl, rfl⟩ | exact .inr rfl
def unpackVD (m : List Obj) : (d : VD) → V → Option (Got d.rt.El)
  | .one r, .one c => match unpack m r (dropC r [c]) with
    | some ⟨x, [], a, b⟩ => some ⟨x, [], a, b⟩
    | _ => none
  | .agg r, .agg cs => match unpack m r cs with
    | some ⟨x, [], a, b⟩ => some ⟨x, [], a, b⟩
    | _ => none
  | _, _ => none
def unpackVs (m : List Obj) : (ds : List VD) → List V → Option (Got (ElV ds))
  | [], [] => some ⟨(), [], [], []⟩
  | [d], [v] => unpackVD m d v
  | d :: e :: r, v :: vs => match unpackVD m d v, unpackVs m (e :: r) vs with
    | some g, some h => some ⟨(g.x, h.x), [], g.owned ++ h.owned, g.read ++ h.read⟩
    | _, _ => none
  | _, _ => none
def nodupB : List Nat → Bool
  | [] => true
  | a :: r => !hasNat r a && nodupB r
def valsOf (n : Nat) (v : V) : List V :=
  match n, v with
  | 1, v => [v]
  | _, .tup vs => vs
  | _, v => [v]
/-- what the roots lead to -/
def rootVs (m : List Obj) : List CV → Option (List V × List Nat)
  | [] => some ([], [])
  | .ptr j 0 :: r => match m.getD j .dead, rootVs m r with
    | .cells [c], some (vs, is) => some (.one c :: vs, j :: is)
    | .cells cs, some (vs, is) => some (.agg cs :: vs, j :: is)
    | _, _ => none
  | .osl j :: r => match m.getD j .dead, rootVs m r with
    | .row _ _, some (vs, is) => some (.one (.osl j) :: vs, is)
    | .map .., some (vs, is) => some (.one (.osl j) :: vs, is)
    | _, _ => none
  | _ => none
def ghostCs (m : List Obj) : List CV :=
  match m.getD 0 .dead with
  | .ghost cs => cs
  | _ => []
def finR (ρ : RD) (v : V) (m : List Obj) : Option ρ.El :=
  match rootVs m (match ρ.roots with | 0 => [] | _ => ghostCs m) with
  | some (rvs, is) => match unpackVs m ρ.vals (valsOf (ρ.vals.length - ρ.roots) v ++ rvs) with
    | some g => bif nodupB g.owned && !meets g.owned g.read && !meets is g.owned && !meets is g.read && rvs.length == ρ.roots then some g.x else none
    | none => none
  | none => none

/-! ### runs and their limit -/
/-- a call: what is told of it, or what it comes to -/
def orPrim (C : Cfg) (call : (f : FuncId) → List V → List Obj → (ρ : RD) → Option ρ.El) (f : FuncId) (args : List V) (m : List Obj) (ρ : RD) : Option ρ.El :=
  match C.prim f args m ρ with
  | some x => some x
  | none => call f args m ρ
def run (P : Program) (C : Cfg) : Nat → FuncId → (ρ : RD) → List KI → St → Option ρ.El
  | 0, _, _, _, _ => none
  | n + 1, f, ρ, ks, s => (seg0 P C (fxOf P f) ks s).interp (orPrim C fun g asv m σ => run P C n g σ (entry P g) (initS P g asv m)) (fun ks s => run P C n f ρ ks s) (finR ρ)

open Classical in
noncomputable def lim (P : Program) (C : Cfg) (f : FuncId) (ρ : RD) (ks : List KI) (s : St) : Option ρ.El :=
  if h : ∃ x n, run P C n f ρ ks s = some x then some h.choose else none
noncomputable def callF (P : Program) (C : Cfg) (f : FuncId) (args : List V) (mem : List Obj) (ρ : RD) : Option ρ.El := lim P C f ρ (entry P f) (initS P f args mem)
noncomputable def callX (P : Program) (C : Cfg) := orPrim C (callF P C)

section mono
variable {R : Type}
theorem interp_mono {c c' : (f : FuncId) → List V → List Obj → (ρ : RD) → Option ρ.El} {l l' : List KI → St → Option R} {fin : V → List Obj → Option R}
    (hc : ∀ f asv m ρ x, c f asv m ρ = some x → c' f asv m ρ = some x) (hl : ∀ ks s x, l ks s = some x → l' ks s = some x) :
    ∀ (T : Tree) (x : R), T.interp c l fin = some x → T.interp c' l' fin = some x := by
  intro T
  induction T with
  | fail => intro x h; simp [Tree.interp] at h
  | leaf ks s => intro x h; exact hl _ _ _ h
  | fin v m => intro x h; exact h
  | br b p q ihp ihq => intro x h; cases b <;> simp only [Tree.interp, cond] at h ⊢ <;> first | exact ihq _ h | exact ihp _ h
  | opt t o k ih =>
    intro x h
    simp only [Tree.interp] at h ⊢
    cases o with
    | none => simp at h
    | some y => simp only [Option.bind_some] at h ⊢; exact ih _ _ h
  | call f asv m ρ k ih =>
    intro x h
    simp only [Tree.interp] at h ⊢
    cases hy : c f asv m ρ with
    | none => rw [hy] at h; simp at h
    | some y => rw [hy] at h; rw [hc _ _ _ _ _ hy]; simp only [Option.bind_some] at h ⊢; exact ih _ _ h

theorem orPrim_mono {C : Cfg} {c c' : (f : FuncId) → List V → List Obj → (ρ : RD) → Option ρ.El} (hc : ∀ f asv m ρ x, c f asv m ρ = some x → c' f asv m ρ = some x) :
    ∀ f asv m ρ x, orPrim C c f asv m ρ = some x → orPrim C c' f asv m ρ = some x := by
  intro f asv m ρ x h
  unfold orPrim at h ⊢
  split <;> rename_i hp <;> rw [hp] at h
  · exact h
  · exact hc _ _ _ _ _ h
theorem run_mono (P : Program) (C : Cfg) : ∀ (n : Nat) (f : FuncId) (ρ : RD) (ks : List KI) (s : St) (x : ρ.El), run P C n f ρ ks s = some x → run P C (n + 1) f ρ ks s = some x
  | 0, _, _, _, _, _, h => by simp [run] at h
  | n + 1, f, ρ, ks, s, x, h => by
    rw [run] at h ⊢
    exact interp_mono (orPrim_mono fun g asv m σ y hy => run_mono P C n g σ _ _ y hy) (fun ks s y hy => run_mono P C n f ρ ks s y hy) _ _ h
theorem run_le (P : Program) (C : Cfg) {n m : Nat} (hnm : n ≤ m) (f : FuncId) (ρ : RD) (ks : List KI) (s : St) (x : ρ.El) (h : run P C n f ρ ks s = some x) : run P C m f ρ ks s = some x := by
  induction hnm with
  | refl => exact h
  | step _ ih => exact run_mono P C _ f ρ ks s x ih
theorem lim_of_run {P : Program} {C : Cfg} {n : Nat} {f : FuncId} {ρ : RD} {ks : List KI} {s : St} {x : ρ.El} (h : run P C n f ρ ks s = some x) : lim P C f ρ ks s = some x := by
  have hx : ∃ x n, run P C n f ρ ks s = some x := ⟨x, n, h⟩
  unfold lim
  rw [dif_pos hx]
  obtain ⟨m, hm⟩ := hx.choose_spec
  have h1 := run_le P C (Nat.le_max_left n m) f ρ ks s _ h
  have h2 := run_le P C (Nat.le_max_right n m) f ρ ks s _ hm
  rw [h1] at h2
  exact h2.symm
theorem run_of_lim {P : Program} {C : Cfg} {f : FuncId} {ρ : RD} {ks : List KI} {s : St} {x : ρ.El} (h : lim P C f ρ ks s = some x) : ∃ n, run P C n f ρ ks s = some x := by
  unfold lim at h
  by_cases hx : ∃ x n, run P C n f ρ ks s = some x
  · rw [dif_pos hx] at h
    obtain ⟨m, hm⟩ := hx.choose_spec
    exact ⟨m, hm.trans h⟩
  · rw [dif_neg hx] at h; simp at h

theorem interp_lim {P : Program} {C : Cfg} {f : FuncId} {ρ : RD} : ∀ (T : Tree) (x : ρ.El),
    T.interp (callX P C) (lim P C f ρ) (finR ρ) = some x →
    ∃ n, T.interp (orPrim C fun g asv m σ => run P C n g σ (entry P g) (initS P g asv m)) (fun ks s => run P C n f ρ ks s) (finR ρ) = some x := by
  intro T
  induction T with
  | fail => intro x h; simp [Tree.interp] at h
  | leaf ks s => intro x h; exact run_of_lim h
  | fin v m => intro x h; exact ⟨0, h⟩
  | br b p q ihp ihq => intro x h; cases b <;> simp only [Tree.interp, cond] at h ⊢ <;> first | exact ihq _ h | exact ihp _ h
  | opt t o k ih =>
    intro x h
    simp only [Tree.interp] at h ⊢
    cases o with
    | none => simp at h
    | some y => simp only [Option.bind_some] at h ⊢; exact ih _ _ h
  | call g asv m σ k ih =>
    intro x h
    simp only [Tree.interp] at h ⊢
    cases hy : callX P C g asv m σ with
    | none => rw [hy] at h; simp at h
    | some y =>
      rw [hy] at h; simp only [Option.bind_some] at h
      obtain ⟨n, hn⟩ := ih _ _ h
      obtain ⟨n', hn'⟩ : ∃ n', orPrim C (fun g asv m σ => run P C n' g σ (entry P g) (initS P g asv m)) g asv m σ = some y := by
        unfold callX orPrim at hy
        unfold orPrim
        split at hy
        · exact ⟨0, hy⟩
        · exact run_of_lim hy
      refine ⟨max n n', ?_⟩
      rw [orPrim_mono (fun g asv m σ y hy => run_le P C (Nat.le_max_right n n') _ _ _ _ _ hy) _ _ _ _ _ hn']
      simp only [Option.bind_some]
      exact interp_mono (orPrim_mono fun g asv m σ y hy => run_le P C (Nat.le_max_left n n') _ _ _ _ _ hy) (fun ks s y hy => run_le P C (Nat.le_max_left n n') _ _ _ _ _ hy) _ _ hn

/-- the limit is a fixed point: one segment, then the limit again -/
theorem lim_step (P : Program) (C : Cfg) (f : FuncId) (ρ : RD) (ks : List KI) (s : St) :
    lim P C f ρ ks s = (seg0 P C (fxOf P f) ks s).interp (callX P C) (lim P C f ρ) (finR ρ) := by
  apply Option.ext
  intro x
  constructor
  · intro h
    obtain ⟨n, hn⟩ := run_of_lim h
    cases n with
    | zero => simp [run] at hn
    | succ n => exact interp_mono (orPrim_mono fun g asv m σ y hy => lim_of_run hy) (fun ks s y hy => lim_of_run hy) _ _ hn
  · intro h
    obtain ⟨n, hn⟩ := interp_lim _ _ h
    exact lim_of_run (n := n + 1) hn
end mono
end Go.Sk

/- What abstract values and states stand for: the relations, and how they last. -/
set_option linter.unusedSimpArgs false
set_option linter.unusedVariables false
namespace Go.Sk
open Go

/-! ### data in memory -/
/-- the elements xs lie from A on -/
def RowAt (w : World) (ok : Nat → Prop) {α : Type} (R : α → List Value → Prop) (size : Nat) (A : Option Addr) (xs : List α) : Prop :=
  xs = [] ∨ ∃ b o, A = some ⟨b, o, none⟩ ∧ ok b ∧ ∀ k x, xs[k]? = some x → ∃ us, us.length = size ∧ R x us ∧ ∀ j u, us[j]? = some u → w.cell? ⟨b, o + k * size + j, none⟩ = some u

def RepE (w : World) (ok : Nat → Prop) : (t : Ty) → El t → List Value → Prop
  | .bool, b, vs => vs = [.bool b]
  | .int k, n, vs => vs = [.int k n]
  | .str, s, vs => vs = [.string s]
  | .unit, _, vs => vs = []
  | .pair a b, x, vs => ∃ us ws, vs = us ++ ws ∧ RepE w ok a x.1 us ∧ RepE w ok b x.2 ws
  | .slice t, xs, vs => ∃ A c, vs = [.slice A (List.length (α := El t) xs) c] ∧ List.length (α := El t) xs ≤ c ∧ RowAt w ok (RepE w ok t) t.size A xs

theorem RepE.length {w : World} {ok : Nat → Prop} : ∀ {t : Ty} {x : El t} {vs : List Value}, RepE w ok t x vs → vs.length = t.size
  | .bool, _, _, h => by rw [show _ = _ from h]; rfl
  | .int _, _, _, h => by rw [show _ = _ from h]; rfl
  | .str, _, _, h => by rw [show _ = _ from h]; rfl
  | .unit, _, _, h => by rw [show _ = _ from h]; rfl
  | .pair a b, _, _, ⟨us, ws, e, h1, h2⟩ => by rw [e, List.length_append, RepE.length h1, RepE.length h2]; rfl
  | .slice t, _, _, ⟨A, c, e, _⟩ => by rw [e]; rfl

theorem RepE.one {w : World} {ok : Nat → Prop} : ∀ {t : Ty} {x : El t} {vs : List Value}, RepE w ok t x vs → ∀ u ∈ vs, u.oneCell' = true
  | .bool, _, _, h, u, hu => by rw [show _ = _ from h] at hu; simp at hu; subst hu; rfl
  | .int _, _, _, h, u, hu => by rw [show _ = _ from h] at hu; simp at hu; subst hu; rfl
  | .str, _, _, h, u, hu => by rw [show _ = _ from h] at hu; simp at hu; subst hu; rfl
  | .unit, _, _, h, u, hu => by rw [show _ = _ from h] at hu; simp at hu
  | .pair a b, _, _, ⟨us, ws, e, h1, h2⟩, u, hu => by
    rw [e] at hu
    rcases List.mem_append.1 hu with hu | hu
    · exact RepE.one h1 u hu
    · exact RepE.one h2 u hu
  | .slice t, _, _, ⟨A, c, e, _⟩, u, hu => by rw [e] at hu; simp at hu; subst hu; rfl

theorem RowAt.mono {w w' : World} {ok ok' : Nat → Prop} {α : Type} {R R' : α → List Value → Prop} {size : Nat} {A : Option Addr} {xs : List α}
    (h : RowAt w ok R size A xs) (hc : ∀ b, ok b → w'.heap[b]? = w.heap[b]?) (ho : ∀ b, ok b → ok' b) (hR : ∀ x us, R x us → R' x us) : RowAt w' ok' R' size A xs := by
  rcases h with h | ⟨b, o, e, hb, h⟩
  · exact .inl h
  · refine .inr ⟨b, o, e, ho b hb, fun k x hk => ?_⟩
    obtain ⟨us, hl, hr, hc'⟩ := h k x hk
    exact ⟨us, hl, hR _ _ hr, fun j u hj => by rw [World.cell?_of_block (w := w) (hc b hb)]; exact hc' j u hj⟩

theorem RepE.mono {w w' : World} {ok ok' : Nat → Prop} (hc : ∀ b, ok b → w'.heap[b]? = w.heap[b]?) (ho : ∀ b, ok b → ok' b) :
    ∀ {t : Ty} {x : El t} {vs : List Value}, RepE w ok t x vs → RepE w' ok' t x vs
  | .bool, _, _, h => h
  | .int _, _, _, h => h
  | .str, _, _, h => h
  | .unit, _, _, h => h
  | .pair a b, _, _, ⟨us, ws, e, h1, h2⟩ => ⟨us, ws, e, RepE.mono hc ho h1, RepE.mono hc ho h2⟩
  | .slice t, _, _, ⟨A, c, e, hl, hr⟩ => ⟨A, c, e, hl, hr.mono hc ho fun _ _ h => RepE.mono hc ho h⟩

/-! ### cells and values -/
inductive KD where
  | none | cells | row (t : Ty) | ghost | map
def Obj.kd : Obj → KD
  | .dead => .none
  | .cells _ => .cells
  | .row t _ => .row t
  | .frz t _ => .row t
  | .full t _ => .row t
  | .ghost _ => .ghost
  | .map .. => .map

/-- what a cell stands for. w: the world; ok: where data may lie; β: the objects' handles; kd: their kinds; al: the numbers that have been given out -/
inductive RelC (w : World) (ok : Nat → Prop) (rd : Nat → Prop) (β : Nat → Value) (kd : Nat → KD) (al : Nat → Prop) : CV → Value → Prop
  | undef (v : Value) : RelC w ok rd β kd al .undef v
  | bool (b : Bool) : RelC w ok rd β kd al (.bool b) (.bool b)
  | int (k : IntKind) (n : Int) : RelC w ok rd β kd al (.int k n) (.int k n)
  | str (s : ByteArray) : RelC w ok rd β kd al (.str s) (.string s)
  | cst (v : Value) (h : v.oneCell' = true) : RelC w ok rd β kd al (.cst v) v
  | nils (t : Ty) : RelC w ok rd β kd al (.nils t) (.slice none 0 0)
  | slc (t : Ty) (xs : List (El t)) (A : Option Addr) (c : Nat) (hc : xs.length ≤ c) (h : RowAt w ok (RepE w ok t) t.size A xs) : RelC w ok rd β kd al (.slc t xs) (.slice A xs.length c)
  | clp (t : Ty) (xs : List (El t)) (A : Option Addr) (h : RowAt w ok (RepE w ok t) t.size A xs) : RelC w ok rd β kd al (.clp t xs) (.slice A xs.length xs.length)
  | chk (b : Bool) (t : Ty) (xs : List (El t)) (A : Option Addr) (c : Nat) (hb : A.isNone = b) (hc : xs.length ≤ c) (h : RowAt w ok (RepE w ok t) t.size A xs) : RelC w ok rd β kd al (.chk b t xs) (.slice A xs.length c)
  | osl (i : Nat) (v : Value) (hi : al i) (h : kd i ≠ .none → v = β i) (h1 : v.oneCell' = true) : RelC w ok rd β kd al (.osl i) v
  | ovw (i off len : Nat) (v : Value) (hi : al i) (h : ∀ t, kd i = .row t → ∃ A n c A', β i = .slice A n c ∧ v = .slice A' len (c - off) ∧ off + len ≤ c ∧
      (∀ b o, A = some ⟨b, o, none⟩ → c ≠ off → A' = some ⟨b, o + off * t.size, none⟩)) (h1 : v.oneCell' = true) : RelC w ok rd β kd al (.ovw i off len) v
  | nilp : RelC w ok rd β kd al .nilp (.pointer none)
  | slf (t : TypeId) (v : Value) (h1 : v.oneCell' = true) : RelC w ok rd β kd al (.slf t) v
  | ptr (i off : Nat) (v : Value) (hi : al i) (h : kd i = .cells → ∃ b, β i = .pointer (some ⟨b, 0, none⟩) ∧ v = .pointer (some ⟨b, off, none⟩)) (h1 : v.oneCell' = true) : RelC w ok rd β kd al (.ptr i off) v
  | eptr (i k off : Nat) (v : Value) (hi : al i) (h : ∀ t, kd i = .row t → ∃ b o n c, β i = .slice (some ⟨b, o, none⟩) n c ∧ v = .pointer (some ⟨b, o + k * t.size + off, none⟩)) (h1 : v.oneCell' = true) : RelC w ok rd β kd al (.eptr i k off) v
  | rptr (cs : List CV) (b o : Nat) (us : List Value) (hb : ok b ∨ rd b) (hl : us.length = cs.length) (hu : ∀ (j : Nat) u, us[j]? = some u → w.cell? ⟨b, o + j, none⟩ = some u) (h : ∀ (j : Nat) c u, cs[j]? = some c → us[j]? = some u → RelC w ok rd β kd al c u) : RelC w ok rd β kd al (.rptr cs) (.pointer (some ⟨b, o, none⟩))
  | fn (f : FuncId) (cs : List CV) (us : List Value) (hl : us.length = cs.length) (h : ∀ (j : Nat) c u, cs[j]? = some c → us[j]? = some u → RelC w ok rd β kd al c u) : RelC w ok rd β kd al (.fn f cs) (.func (.func f) #[] us.toArray)

inductive RelV (w : World) (ok : Nat → Prop) (rd : Nat → Prop) (β : Nat → Value) (kd : Nat → KD) (al : Nat → Prop) : V → Value → Prop
  | one (c : CV) (v : Value) (h : RelC w ok rd β kd al c v) : RelV w ok rd β kd al (.one c) v
  | agg (cs : List CV) (us : List Value) (hl : us.length = cs.length) (h : ∀ (j : Nat) c u, cs[j]? = some c → us[j]? = some u → RelC w ok rd β kd al c u) : RelV w ok rd β kd al (.agg cs) (.agg us.toArray)
  | tup (vs : List V) (us : List Value) (hl : us.length = vs.length) (h : ∀ (j : Nat) v u, vs[j]? = some v → us[j]? = some u → RelV w ok rd β kd al v u) : RelV w ok rd β kd al (.tup vs) (.tuple us.toArray)

/-- a list of cells against a list of values -/
def RelL (w : World) (ok : Nat → Prop) (rd : Nat → Prop) (β : Nat → Value) (kd : Nat → KD) (al : Nat → Prop) (cs : List CV) (us : List Value) : Prop :=
  us.length = cs.length ∧ ∀ (j : Nat) c u, cs[j]? = some c → us[j]? = some u → RelC w ok rd β kd al c u

theorem RelC.one {w : World} {ok : Nat → Prop} {rd : Nat → Prop} {β : Nat → Value} {kd : Nat → KD} {al : Nat → Prop} {c : CV} {v : Value} (h : RelC w ok rd β kd al c v) (hc : c ≠ .undef) : v.oneCell' = true := by
  cases h <;> first | exact absurd rfl hc | assumption | rfl

/-- from one context to a later one -/
structure Ext (w : World) (ok : Nat → Prop) (rd : Nat → Prop) (β : Nat → Value) (kd : Nat → KD) (al : Nat → Prop) (w' : World) (ok' : Nat → Prop) (β' : Nat → Value) (kd' : Nat → KD) (al' : Nat → Prop) : Prop where
  cells : ∀ b, ok b → w'.heap[b]? = w.heap[b]?
  cellsR : ∀ b, rd b → w'.heap[b]? = w.heap[b]?
  ok : ∀ b, ok b → ok' b
  kd : ∀ i, al i → kd' i = kd i ∨ kd' i = .none
  β : ∀ i, al i → kd' i ≠ .none → β' i = β i
  sub : ∀ i, al i → al' i

section
variable {w : World} {ok : Nat → Prop} {rd : Nat → Prop} {β : Nat → Value} {kd : Nat → KD} {al : Nat → Prop} {w' : World} {ok' : Nat → Prop} {β' : Nat → Value} {kd' : Nat → KD} {al' : Nat → Prop}
theorem Ext.refl (w : World) (ok : Nat → Prop) (rd : Nat → Prop) (β : Nat → Value) (kd : Nat → KD) (al : Nat → Prop) : Ext w ok rd β kd al w ok β kd al :=
  ⟨fun _ _ => rfl, fun _ _ => rfl, fun _ h => h, fun _ _ => .inl rfl, fun _ _ _ => rfl, fun _ h => h⟩
theorem RelC.mono (e : Ext w ok rd β kd al w' ok' β' kd' al') {c : CV} {v : Value} (h : RelC w ok rd β kd al c v) : RelC w' ok' rd β' kd' al' c v := by
  have hcell : ∀ b, ok b ∨ rd b → ∀ o, w'.cell? ⟨b, o, none⟩ = w.cell? ⟨b, o, none⟩ := fun b hb o => World.cell?_of_block (w := w) (hb.elim (e.cells b) (e.cellsR b))
  induction h with
  | undef v => exact .undef v
  | bool b => exact .bool b
  | int k n => exact .int k n
  | str s => exact .str s
  | cst v h => exact .cst v h
  | nils t => exact .nils t
  | slc t xs A c hc h => exact .slc t xs A c hc (h.mono e.cells e.ok fun _ _ h => RepE.mono e.cells e.ok h)
  | chk b t xs A c hb hc h => exact .chk b t xs A c hb hc (h.mono e.cells e.ok fun _ _ h => RepE.mono e.cells e.ok h)
  | clp t xs A h => exact .clp t xs A (h.mono e.cells e.ok fun _ _ h => RepE.mono e.cells e.ok h)
  | osl i v hi h h1 =>
    refine .osl i v (e.sub i hi) (fun hk => ?_) h1
    rw [e.β i hi hk]
    rcases e.kd i hi with hk' | hk'
    · exact h (by rwa [← hk'])
    · exact absurd hk' hk
  | ovw i off len v hi h h1 =>
    refine .ovw i off len v (e.sub i hi) (fun t hk => ?_) h1
    rw [e.β i hi (by rw [hk]; simp)]
    rcases e.kd i hi with hk' | hk'
    · exact h t (by rwa [← hk'])
    · rw [hk] at hk'; cases hk'
  | nilp => exact .nilp
  | slf t v h1 => exact .slf t v h1
  | ptr i off v hi h h1 =>
    refine .ptr i off v (e.sub i hi) (fun hk => ?_) h1
    rw [e.β i hi (by rw [hk]; simp)]
    rcases e.kd i hi with hk' | hk'
    · exact h (by rwa [← hk'])
    · rw [hk] at hk'; cases hk'
  | eptr i k off v hi h h1 =>
    refine .eptr i k off v (e.sub i hi) (fun t hk => ?_) h1
    rw [e.β i hi (by rw [hk]; simp)]
    rcases e.kd i hi with hk' | hk'
    · exact h t (by rwa [← hk'])
    · rw [hk] at hk'; cases hk'
  | rptr cs b o us hb hl hu h ih => exact .rptr cs b o us (hb.imp (e.ok b) id) hl (fun j u hj => by rw [hcell b hb]; exact hu j u hj) ih
  | fn f cs us hl h ih => exact .fn f cs us hl ih
theorem RelL.mono (e : Ext w ok rd β kd al w' ok' β' kd' al') {cs : List CV} {us : List Value} (h : RelL w ok rd β kd al cs us) : RelL w' ok' rd β' kd' al' cs us :=
  ⟨h.1, fun j c u hj hu => (h.2 j c u hj hu).mono e⟩
theorem RelV.mono (e : Ext w ok rd β kd al w' ok' β' kd' al') {c : V} {v : Value} (h : RelV w ok rd β kd al c v) : RelV w' ok' rd β' kd' al' c v := by
  induction h with
  | one c v h => exact .one c v (h.mono e)
  | agg cs us hl h => exact .agg cs us hl fun j c u hj hu => (h j c u hj hu).mono e
  | tup vs us hl h ih => exact .tup vs us hl ih

theorem RelL.nil : RelL w ok rd β kd al [] [] := ⟨rfl, fun j c u h => by simp at h⟩
theorem RelL.cons {c : CV} {v : Value} {cs : List CV} {us : List Value} (h : RelC w ok rd β kd al c v) (hs : RelL w ok rd β kd al cs us) : RelL w ok rd β kd al (c :: cs) (v :: us) := by
  refine ⟨by simp [hs.1], fun j d u hj hu => ?_⟩
  cases j with
  | zero => simp at hj hu; subst hj; subst hu; exact h
  | succ j => exact hs.2 j d u (by simpa using hj) (by simpa using hu)
theorem RelL.head {c : CV} {cs : List CV} {us : List Value} (h : RelL w ok rd β kd al (c :: cs) us) : ∃ v r, us = v :: r ∧ RelC w ok rd β kd al c v ∧ RelL w ok rd β kd al cs r := by
  cases us with
  | nil => have := h.1; simp at this
  | cons v r => exact ⟨v, r, rfl, h.2 0 c v rfl rfl, by simpa using h.1, fun j d u hj hu => h.2 (j + 1) d u (by simpa using hj) (by simpa using hu)⟩
theorem RelL.append {cs ds : List CV} {us vs : List Value} (h : RelL w ok rd β kd al cs us) (g : RelL w ok rd β kd al ds vs) : RelL w ok rd β kd al (cs ++ ds) (us ++ vs) := by
  refine ⟨by simp [h.1, g.1], fun j d u hj hu => ?_⟩
  by_cases hlt : j < cs.length
  · rw [List.getElem?_append_left hlt] at hj
    rw [List.getElem?_append_left (by rw [h.1]; exact hlt)] at hu
    exact h.2 j d u hj hu
  · have hge : cs.length ≤ j := Nat.le_of_not_lt hlt
    rw [List.getElem?_append_right hge] at hj
    rw [List.getElem?_append_right (by rw [h.1]; exact hge), h.1] at hu
    exact g.2 _ d u hj hu
theorem RelL.take {cs : List CV} {us : List Value} (h : RelL w ok rd β kd al cs us) (n : Nat) : RelL w ok rd β kd al (cs.take n) (us.take n) := by
  refine ⟨by simp [h.1], fun j d u hj hu => ?_⟩
  rw [List.getElem?_take] at hj hu
  split at hj
  · rename_i hlt; rw [if_pos hlt] at hu; exact h.2 j d u hj hu
  · cases hj
theorem RelL.drop {cs : List CV} {us : List Value} (h : RelL w ok rd β kd al cs us) (n : Nat) : RelL w ok rd β kd al (cs.drop n) (us.drop n) := by
  refine ⟨by simp [h.1], fun j d u hj hu => ?_⟩
  rw [List.getElem?_drop] at hj hu
  exact h.2 _ d u hj hu
theorem RelL.split {cs ds : List CV} {us : List Value} (h : RelL w ok rd β kd al (cs ++ ds) us) : ∃ a b, us = a ++ b ∧ RelL w ok rd β kd al cs a ∧ RelL w ok rd β kd al ds b := by
  refine ⟨us.take cs.length, us.drop cs.length, (List.take_append_drop _ _).symm, ?_, ?_⟩
  · have := h.take cs.length; rwa [List.take_left'] at this; rfl
  · have := h.drop cs.length; rwa [List.drop_left'] at this; rfl

/-- data in memory, as cells -/
theorem rel_enc : ∀ {t : Ty} {x : El t} {us : List Value}, RepE w ok t x us → RelL w ok rd β kd al (enc t x) us
  | .bool, b, _, h => by rw [show _ = _ from h]; exact .cons (.bool _) .nil
  | .int k, n, _, h => by rw [show _ = _ from h]; exact .cons (.int _ _) .nil
  | .str, s, _, h => by rw [show _ = _ from h]; exact .cons (.str _) .nil
  | .unit, _, _, h => by rw [show _ = _ from h]; exact .nil
  | .pair a b, x, _, ⟨us, ws, e, h1, h2⟩ => by rw [e]; exact (rel_enc h1).append (rel_enc h2)
  | .slice t, xs, _, ⟨A, c, e, hl, hr⟩ => by rw [e]; exact .cons (.slc t xs A c hl hr) .nil

theorem enc_length : ∀ (t : Ty) (x : El t), (enc t x).length = t.size
  | .bool, _ => rfl
  | .int _, _ => rfl
  | .str, _ => rfl
  | .unit, _ => rfl
  | .pair a b, x => by simp [enc, Ty.size, enc_length]
  | .slice _, _ => rfl

theorem castL_eq {a b : Ty} (h : a = b) (xs : List (El a)) : HEq (castL h xs) xs := by subst h; rfl
theorem decS_spec {t t' : Ty} {xs : List (El t')} {ys : List (El t)} (h : decS t t' xs = some ys) : ∃ e : t' = t, ys = castL e xs := by
  unfold decS at h
  split at h
  · rename_i e _; simp at h; exact ⟨e, h.symm⟩
  · cases h
theorem eqKind_spec {k l : IntKind} {p : PLift (k = l)} (_ : eqKind k l = some p) : k = l := p.down

theorem rel_decB {cs : List CV} {x : Bool} {r : List CV} {us : List Value} (h : decB cs = some (x, r)) (hr : RelL w ok rd β kd al cs us) :
    ∃ a b, us = a ++ b ∧ RepE w ok .bool x a ∧ RelL w ok rd β kd al r b := by
  unfold decB at h
  split at h
  · simp at h
    obtain ⟨rfl, rfl⟩ := h
    obtain ⟨v, q, rfl, hc, hq⟩ := hr.head
    cases hc
    exact ⟨[_], q, rfl, rfl, hq⟩
  · cases h
theorem rel_decI {k : IntKind} {cs : List CV} {x : Int} {r : List CV} {us : List Value} (h : decI k cs = some (x, r)) (hr : RelL w ok rd β kd al cs us) :
    ∃ a b, us = a ++ b ∧ RepE w ok (.int k) x a ∧ RelL w ok rd β kd al r b := by
  unfold decI at h
  split at h
  · split at h
    · rename_i p hp
      obtain rfl := eqKind_spec hp
      simp at h
      obtain ⟨rfl, rfl⟩ := h
      obtain ⟨v, q, rfl, hc, hq⟩ := hr.head
      cases hc
      exact ⟨[_], q, rfl, rfl, hq⟩
    · cases h
  · cases h
theorem rel_decT {cs : List CV} {x : ByteArray} {r : List CV} {us : List Value} (h : decT cs = some (x, r)) (hr : RelL w ok rd β kd al cs us) :
    ∃ a b, us = a ++ b ∧ RepE w ok .str x a ∧ RelL w ok rd β kd al r b := by
  unfold decT at h
  split at h
  · simp at h
    obtain ⟨rfl, rfl⟩ := h
    obtain ⟨v, q, rfl, hc, hq⟩ := hr.head
    cases hc
    exact ⟨[_], q, rfl, rfl, hq⟩
  · cases h
theorem rel_decL {t : Ty} {cs : List CV} {x : List (El t)} {r : List CV} {us : List Value} (h : decL t cs = some (x, r)) (hr : RelL w ok rd β kd al cs us) :
    ∃ a b, us = a ++ b ∧ RepE w ok (.slice t) x a ∧ RelL w ok rd β kd al r b := by
  unfold decL at h
  split at h
  · split at h
    · rename_i ys hy
      simp at h
      obtain ⟨rfl, rfl⟩ := h
      obtain ⟨rfl, rfl⟩ := decS_spec hy
      obtain ⟨v, q, rfl, hc, hq⟩ := hr.head
      cases hc
      rename_i A c hl hrow
      exact ⟨[_], q, rfl, ⟨A, c, rfl, hl, hrow⟩, hq⟩
    · cases h
  · split at h
    · rename_i ys hy
      simp at h
      obtain ⟨rfl, rfl⟩ := h
      obtain ⟨rfl, rfl⟩ := decS_spec hy
      obtain ⟨v, q, rfl, hc, hq⟩ := hr.head
      cases hc
      rename_i A hrow
      exact ⟨[_], q, rfl, ⟨A, _, rfl, Nat.le_refl _, hrow⟩, hq⟩
    · cases h
  · simp at h
    obtain ⟨rfl, rfl⟩ := h
    obtain ⟨v, q, rfl, hc, hq⟩ := hr.head
    cases hc
    exact ⟨[_], q, rfl, ⟨none, 0, rfl, Nat.le_refl _, .inl rfl⟩, hq⟩
  · cases h
/-- what is read off cells stands where these stand -/
theorem rel_dec : ∀ (t : Ty) (cs : List CV) {x : El t} {r : List CV} {us : List Value}, dec t cs = some (x, r) → RelL w ok rd β kd al cs us →
    ∃ a b, us = a ++ b ∧ RepE w ok t x a ∧ RelL w ok rd β kd al r b
  | .bool, cs, x, r, us, h, hr => rel_decB h hr
  | .int k, cs, x, r, us, h, hr => rel_decI h hr
  | .str, cs, x, r, us, h, hr => rel_decT h hr
  | .slice t, cs, x, r, us, h, hr => rel_decL h hr
  | .unit, cs, x, r, us, h, hr => by
    simp [dec] at h
    subst h
    exact ⟨[], us, rfl, rfl, hr⟩
  | .pair a b, cs, x, r, us, h, hr => by
    unfold dec at h
    split at h
    · rename_i y r1 h1
      split at h
      · rename_i z r2 h2
        simp at h
        obtain ⟨rfl, rfl⟩ := h
        obtain ⟨a1, b1, rfl, ha, hb⟩ := rel_dec a cs h1 hr
        obtain ⟨a2, b2, rfl, ha2, hb2⟩ := rel_dec b _ h2 hb
        exact ⟨a1 ++ a2, b2, by simp, ⟨a1, a2, rfl, ha, ha2⟩, hb2⟩
      · cases h
    · cases h
theorem rel_decAll {t : Ty} {cs : List CV} {x : El t} {us : List Value} (h : decAll t cs = some x) (hr : RelL w ok rd β kd al cs us) : RepE w ok t x us := by
  unfold decAll at h
  split at h
  · rename_i y hy
    simp at h; subst h
    obtain ⟨a, b, rfl, ha, hb⟩ := rel_dec t cs hy hr
    have : b = [] := by have := hb.1; simpa using this
    subst this
    simpa using ha
  · cases h
end

/-! ### objects and states -/
/-- an owned row: its elements, and others of the same code up to its capacity -/
def Lies (w : World) (ok : Nat → Prop) (t : Ty) (xs : List (El t)) (c o : Nat) (arr : Array Value) : Prop :=
  ∃ sp : List (El t), xs.length + sp.length = c ∧ ∀ (k : Nat) x, (xs ++ sp)[k]? = some x → ∃ us, us.length = t.size ∧ RepE w ok t x us ∧ ∀ (j : Nat) u, us[j]? = some u → arr[o + k * t.size + j]? = some u
section
variable {w : World} {ok : Nat → Prop} {t : Ty} {xs : List (El t)} {c o : Nat} {arr : Array Value}
theorem Lies.at_ (h : Lies w ok t xs c o arr) : ∀ (k : Nat) x, xs[k]? = some x → ∃ us, us.length = t.size ∧ RepE w ok t x us ∧ ∀ (j : Nat) u, us[j]? = some u → arr[o + k * t.size + j]? = some u := by
  obtain ⟨sp, h1, h2⟩ := h
  intro k x hk
  exact h2 k x (by rw [List.getElem?_append_left (List.getElem?_eq_some_iff.1 hk).1]; exact hk)
instance : CoeFun (Lies w ok t xs c o arr) (fun _ => ∀ (k : Nat) x, xs[k]? = some x → ∃ us, us.length = t.size ∧ RepE w ok t x us ∧ ∀ (j : Nat) u, us[j]? = some u → arr[o + k * t.size + j]? = some u) := ⟨Lies.at_⟩
theorem Lies.spare (h : Lies w ok t xs c o arr) : ∃ sp : List (El t), xs.length + sp.length = c ∧ ∀ (k : Nat) x, sp[k]? = some x → ∃ us, us.length = t.size ∧ RepE w ok t x us ∧ ∀ (j : Nat) u, us[j]? = some u → arr[o + (xs.length + k) * t.size + j]? = some u := by
  obtain ⟨sp, h1, h2⟩ := h
  exact ⟨sp, h1, fun k x hk => h2 _ x (by rw [List.getElem?_append_right (by omega)]; simpa using hk)⟩
theorem Lies.tail (h : Lies w ok t xs c o arr) {m q : Nat} (hm : m ≤ c) {arr' : Array Value} (hq : q ≤ o + m * t.size) (ha : ∀ j, q ≤ j → arr'[j]? = arr[j]?) :
    ∃ sp : List (El t), m + sp.length = c ∧ ∀ (k : Nat) x, sp[k]? = some x → ∃ us, us.length = t.size ∧ RepE w ok t x us ∧ ∀ (j : Nat) u, us[j]? = some u → arr'[o + (m + k) * t.size + j]? = some u := by
  obtain ⟨sp, h1, h2⟩ := h
  refine ⟨(xs ++ sp).drop m, by simp; omega, fun k x hk => ?_⟩
  rw [List.getElem?_drop] at hk
  obtain ⟨us, a1, a2, a3⟩ := h2 _ x hk
  refine ⟨us, a1, a2, fun j u hj => ?_⟩
  rw [ha _ (by rw [Nat.add_mul]; omega)]
  exact a3 j u hj
theorem lies_of (h1 : ∀ (k : Nat) x, xs[k]? = some x → ∃ us, us.length = t.size ∧ RepE w ok t x us ∧ ∀ (j : Nat) u, us[j]? = some u → arr[o + k * t.size + j]? = some u)
    (h2 : ∃ sp : List (El t), xs.length + sp.length = c ∧ ∀ (k : Nat) x, sp[k]? = some x → ∃ us, us.length = t.size ∧ RepE w ok t x us ∧ ∀ (j : Nat) u, us[j]? = some u → arr[o + (xs.length + k) * t.size + j]? = some u) : Lies w ok t xs c o arr := by
  obtain ⟨sp, h3, h4⟩ := h2
  refine ⟨sp, h3, fun k x hk => ?_⟩
  by_cases hlt : k < xs.length
  · rw [List.getElem?_append_left hlt] at hk
    exact h1 k x hk
  · rw [List.getElem?_append_right (by omega)] at hk
    have := h4 _ x hk
    rwa [show xs.length + (k - xs.length) = k by omega] at this
theorem Lies.mono {w' : World} {ok' : Nat → Prop} (h : Lies w ok t xs c o arr) (hc : ∀ b, ok b → w'.heap[b]? = w.heap[b]?) (ho : ∀ b, ok b → ok' b) : Lies w' ok' t xs c o arr := by
  obtain ⟨sp, h1, h2⟩ := h
  exact ⟨sp, h1, fun k x hk => let ⟨us, a, b, e⟩ := h2 k x hk; ⟨us, a, RepE.mono hc ho b, e⟩⟩
end
/-- a value against its cells; g: is it an aggregate? -/
def ValIs : Bool → Value → List Value → Prop
  | true, v, us => v = .agg us.toArray
  | false, v, us => us = [v]
/-- when a map's entries were made: none at one time, all before now -/
def Born (arr : Array MapEntry) (clock : Nat) : Prop := (∀ x ∈ arr.toList, x.born < clock) ∧ (arr.toList.map (·.born)).Nodup
/-- a map's entries -/
def MapIs (w : World) (ok : Nat → Prop) (kt vt : Ty) (g : Bool) (es : List (El kt × El vt)) (tidy : Bool) (arr : Array MapEntry) (clock : Nat) : Prop :=
  arr.size = es.length ∧ (∀ (k : Nat) p e, es[k]? = some p → arr[k]? = some e → RepE w ok kt p.1 [e.key] ∧ ∃ us, RepE w ok vt p.2 us ∧ ValIs g e.val us) ∧
  (tidy = true → clock = es.length ∧ ∀ (k : Nat) e, arr[k]? = some e → e.born = k) ∧ Born arr clock
theorem MapIs.mono {w w' : World} {ok ok' : Nat → Prop} {kt vt : Ty} {g : Bool} {es : List (El kt × El vt)} {tidy : Bool} {arr : Array MapEntry} {clock : Nat} (h : MapIs w ok kt vt g es tidy arr clock)
    (hc : ∀ b, ok b → w'.heap[b]? = w.heap[b]?) (ho : ∀ b, ok b → ok' b) : MapIs w' ok' kt vt g es tidy arr clock :=
  ⟨h.1, fun k p e h1 h2 => let ⟨a, us, b, c⟩ := h.2.1 k p e h1 h2; ⟨RepE.mono hc ho a, us, RepE.mono hc ho b, c⟩, h.2.2⟩
/-- cells that are nil or their own variable's address -/
def Self (cs : List CV) (us : List Value) (b : Nat) (T : TypeId) : Prop := ∀ (j : Nat) t u, cs[j]? = some (.slf t) → us[j]? = some u → T = t ∧ (u = .pointer none ∨ u = .pointer (some ⟨b, 0, none⟩))
theorem Self.of {cs : List CV} {us : List Value} {b : Nat} {T : TypeId} (h : noSlf cs = true) : Self cs us b T := by
  intro j t u hj _
  exfalso
  have : ∀ (cs : List CV) (j : Nat), noSlf cs = true → cs[j]? ≠ some (.slf t) := by
    intro cs
    induction cs with
    | nil => intro j _; simp
    | cons c r ih =>
      intro j h
      cases j with
      | zero =>
        cases c <;> simp [noSlf] at h ⊢
      | succ j =>
        rw [List.getElem?_cons_succ]
        exact ih j (by cases c <;> simp [noSlf] at h <;> exact h)
  exact this cs j h hj
theorem renC_slf {g : Nat → Option Nat} {d : Nat} {c : CV} {t : TypeId} (h : renC g d c = .slf t) : c = .slf t := by
  cases d with
  | zero => cases h
  | succ d => cases c <;> simp only [renC] at h <;> first | exact h | (cases h; done) | (split at h <;> cases h)
theorem Self.ren {g : Nat → Option Nat} {cs : List CV} {us : List Value} {b : Nat} {T : TypeId} (h : Self cs us b T) : Self (renCs g cs) us b T := fun j t u hj hu => by
  simp only [renCs, List.getElem?_map] at hj
  cases hc : cs[j]? with
  | none => rw [hc] at hj; cases hj
  | some c0 =>
    rw [hc, Option.map_some, Option.some.injEq] at hj
    exact h j t u (by rw [hc, renC_slf hj]) hu
/-- a row's element type -/
abbrev RowT (t : Ty) := {T : TypeId // t = .int .u8 → T = 5}
theorem rowTB_spec {t : Ty} {T : TypeId} (h : rowTB t T = true) : t = .int .u8 → T = 5 := by
  rintro rfl
  exact of_decide_eq_true h
def ObjRel (w : World) (ok : Nat → Prop) (rd : Nat → Prop) (β : Nat → Value) (kd : Nat → KD) (al : Nat → Prop) (i : Nat) : Obj → Prop
  | .dead => True
  | .cells cs => ∃ b us T, β i = .pointer (some ⟨b, 0, none⟩) ∧ w.heap[b]? = some (.cells us.toArray T (0, 0)) ∧ RelL w ok rd β kd al cs us ∧ Self cs us b T
  | .row t xs => ∃ A c, β i = .slice A xs.length c ∧ ((xs = [] ∧ c = 0) ∨ ∃ (b o : Nat) (arr : Array Value) (T : RowT t), A = some ⟨b, o, none⟩ ∧ w.heap[b]? = some (.cells arr T.1 (0, 0)) ∧ 0 < c ∧ xs.length ≤ c ∧ o + c * t.size ≤ arr.size ∧ Lies w ok t xs c o arr)
  | .frz t xs => RepE w ok (.slice t) xs [β i]
  | .full t xs => ∃ A, β i = .slice A xs.length xs.length ∧ (xs = [] ∨ ∃ (b o : Nat) (arr : Array Value) (T : RowT t), A = some ⟨b, o, none⟩ ∧ w.heap[b]? = some (.cells arr T.1 (0, 0)) ∧ o + xs.length * t.size ≤ arr.size ∧ Lies w ok t xs xs.length o arr)
  | .ghost cs => ∃ us : List Value, β i = .tuple us.toArray ∧ RelL w ok rd β kd al cs us
  | .map kt vt g es tidy => ∃ r arr clock, β i = .map (some r) ∧ w.heap[r]? = some (.map arr clock) ∧ MapIs w ok kt vt g es tidy arr clock
/-- the block that an object owns -/
def ownB (o : Obj) (v : Value) : Option Nat :=
  match o, v with
  | .cells _, .pointer (some a) => some a.block
  | .row _ _, .slice (some a) _ c => if c = 0 then none else some a.block
  | .full _ _, .slice (some a) _ c => if c = 0 then none else some a.block
  | .map .., .map (some r) => some r
  | _, _ => none

/-- what holds where a function began: its world, where its data may lie, what it was handed to own -/
structure Fr where
  w0 : World
  ok0 : Nat → Prop
  own0 : Nat → Prop
  rd : Nat → Prop          -- what pointers that were handed in alone may point at
  gh : Value               -- what the ghost's roots are

@[reducible] def kds (mem : List Obj) : Nat → KD := fun i => (mem.getD i .dead).kd
structure Inv (X : Fr) (env : List V) (mem : List Obj) (al : Nat → Prop) (tmps : Array Value) (w : World) (β : Nat → Value) (ok : Nat → Prop) : Prop where
  size : tmps.size = env.length
  env : ∀ t v, env[t]? = some v → RelV w ok X.rd β (fun i => (mem.getD i .dead).kd) al v (tmps.getD t undef)
  obj : ∀ i, ObjRel w ok X.rd β (fun i => (mem.getD i .dead).kd) al i (mem.getD i .dead)
  len : ∀ i, (mem.getD i .dead).kd ≠ .none → al i
  inj : ∀ i j b, ownB (mem.getD i .dead) (β i) = some b → ownB (mem.getD j .dead) (β j) = some b → i = j
  apart : ∀ i b, ownB (mem.getD i .dead) (β i) = some b → ¬ ok b
  apartR : ∀ i b, ownB (mem.getD i .dead) (β i) = some b → ¬ X.rd b
  gh : ∀ i, kds mem i = .ghost → β i = X.gh
  rdLt : ∀ b, X.rd b → b < X.w0.heap.size
  okLt : ∀ b, ok b → b < w.heap.size
  okOld : ∀ b, ok b → b < X.w0.heap.size → X.ok0 b ∨ X.own0 b
  ownOld : ∀ i b, ownB (mem.getD i .dead) (β i) = some b → b < X.w0.heap.size → X.own0 b
  keep : ∀ b, b < X.w0.heap.size → ¬ X.own0 b → w.heap[b]? = X.w0.heap[b]?
  grow : X.w0.heap.size ≤ w.heap.size
  os : w.os = X.w0.os
  out : w.output = X.w0.output
  tape : w.tape = X.w0.tape

theorem ownB_lt {w : World} {ok : Nat → Prop} {rd : Nat → Prop} {β : Nat → Value} {kd : Nat → KD} {al : Nat → Prop} {i : Nat} {o : Obj} {b : Nat} (h : ObjRel w ok rd β kd al i o) (hb : ownB o (β i) = some b) : b < w.heap.size := by
  have key : ∀ {x : Go.Obj}, w.heap[b]? = some x → b < w.heap.size := fun hx => by
    rcases Nat.lt_or_ge b w.heap.size with h | h
    · exact h
    · rw [Array.getElem?_eq_none h] at hx; cases hx
  cases o with
  | dead => simp [ownB] at hb
  | frz t xs => simp [ownB] at hb
  | ghost cs => simp [ownB] at hb
  | map kt vt g es tidy =>
    obtain ⟨r, arr, clock, e, hh, _⟩ := h
    rw [e] at hb
    simp [ownB] at hb
    subst hb
    exact key hh
  | full t xs =>
    obtain ⟨A, e, h⟩ := h
    rw [e] at hb
    rcases h with rfl | ⟨b', o, arr, T, rfl, hh, _⟩
    · cases A <;> simp [ownB] at hb
    · simp [ownB] at hb
      obtain ⟨_, rfl⟩ := hb
      exact key hh
  | cells cs =>
    obtain ⟨b', us, T, e, hh, _⟩ := h
    rw [e] at hb
    simp [ownB] at hb
    subst hb
    exact key hh
  | row t xs =>
    obtain ⟨A, c, e, h⟩ := h
    rw [e] at hb
    rcases h with ⟨_, rfl⟩ | ⟨b', o, arr, T, rfl, hh, _⟩
    · cases A <;> simp [ownB] at hb
    · simp [ownB] at hb
      obtain ⟨_, rfl⟩ := hb
      exact key hh
end Go.Sk

/- Operations that read: what the model's own do where the evaluator's come to a value. -/
set_option linter.unusedSimpArgs false
set_option linter.unusedVariables false
namespace Go.Sk
open Go

section
variable {P : Program} {w : World}
theorem run_sizeAt {t : TypeId} {n : Nat} (h : sizeAt P t = some n) : (sizeOf t).run P w = .ok n w := by
  unfold sizeAt at h
  cases hi : P.info? t with
  | none => rw [hi] at h; cases h
  | some i => rw [hi] at h; simp at h; simp [sizeOf, typeInfo, hi, h]
theorem run_aggAt {t : TypeId} {g : Bool} (h : aggAt P t = some g) : (isAgg t).run P w = .ok g w := by
  unfold aggAt at h
  unfold isAgg
  simp only [Sem.run_bind]
  split at h <;> simp at h <;> subst h
  · rename_i fs hu; simp [run_underlying hu]
  · rename_i n e hu; simp [run_underlying hu]
  · rename_i d h1 h2 hu
    simp only [run_underlying hu, Result.andThen_ok]
    cases d <;> first | rfl | exact absurd rfl (h1 _) | exact absurd rfl (h2 _ _)
theorem run_info {t : TypeId} {i : TypeInfo} (h : P.info? t = some i) : (typeInfo t).run P w = .ok i w := by simp [typeInfo, h]
end

theorem Rd.run1_bind {α β : Type} (m : List Obj) (x : Rd α) (f : α → Rd β) : (x.bind f).run1 m = (x.run1 m).bind fun a => (f a).run1 m := by
  induction x with
  | ret a => rfl
  | fail => rfl
  | get i k ih => simp only [Rd.bind, Rd.run1, ih]
  | guard c k ih => cases c <;> simp [Rd.bind, Rd.run1, ih]
  | split c p q ihp ihq => cases c <;> simp [Rd.bind, Rd.run1, ihp, ihq]
  | opt t o k ih => cases o <;> simp [Rd.bind, Rd.run1, ih]
  | call f asv me ρ k ih => rfl
theorem Rd.run1_ret {α : Type} (m : List Obj) (a : α) : (Rd.ret a).run1 m = some a := rfl
theorem Rd.run1_fail {α : Type} (m : List Obj) : (Rd.fail : Rd α).run1 m = none := rfl
theorem Rd.run1_get {α : Type} (m : List Obj) (i : Nat) (k : Obj → Rd α) : (Rd.get i k).run1 m = (k (m.getD i .dead)).run1 m := rfl
theorem Rd.run1_guard {α : Type} (m : List Obj) (c : Bool) (k : Rd α) : (Rd.guard c k).run1 m = bif c then k.run1 m else none := rfl
theorem Rd.run1_split {α : Type} (m : List Obj) (c : Bool) (k q : Rd α) : (Rd.split c k q).run1 m = bif c then k.run1 m else q.run1 m := rfl
theorem Rd.run1_opt {α : Type} (m : List Obj) (t : Ty) (o : Option (El t)) (k : El t → Rd α) : (Rd.opt t o k).run1 m = o.bind fun x => (k x).run1 m := rfl
theorem Rd.run1_ofOption {α : Type} (m : List Obj) (o : Option α) : (Rd.ofOption o).run1 m = o := by cases o <;> rfl

/-- the relations of one context -/
structure Ct where
  w : World
  ok : Nat → Prop
  rd : Nat → Prop
  β : Nat → Value
  mem : List Obj
  al : Nat → Prop
@[reducible] def Ct.kd (c : Ct) : Nat → KD := fun i => (c.mem.getD i .dead).kd
@[reducible] def Ct.C (c : Ct) : CV → Value → Prop := RelC c.w c.ok c.rd c.β c.kd c.al
@[reducible] def Ct.V (c : Ct) : V → Value → Prop := RelV c.w c.ok c.rd c.β c.kd c.al
@[reducible] def Ct.L (c : Ct) : List CV → List Value → Prop := RelL c.w c.ok c.rd c.β c.kd c.al
/-- every object stands -/
def Ct.objs (c : Ct) : Prop := ∀ i, ObjRel c.w c.ok c.rd c.β c.kd c.al i (c.mem.getD i .dead)

theorem RelV.agg' {w : World} {ok : Nat → Prop} {rd : Nat → Prop} {β : Nat → Value} {kd : Nat → KD} {al : Nat → Prop} {cs : List CV} {v : Value} (h : RelV w ok rd β kd al (.agg cs) v) : ∃ us, v = .agg us.toArray ∧ RelL w ok rd β kd al cs us := by
  cases h with
  | agg _ us hl h => exact ⟨us, rfl, hl, h⟩
theorem RelV.one' {w : World} {ok : Nat → Prop} {rd : Nat → Prop} {β : Nat → Value} {kd : Nat → KD} {al : Nat → Prop} {c : CV} {v : Value} (h : RelV w ok rd β kd al (.one c) v) : RelC w ok rd β kd al c v := by cases h; assumption
theorem RelV.ofL {w : World} {ok : Nat → Prop} {rd : Nat → Prop} {β : Nat → Value} {kd : Nat → KD} {al : Nat → Prop} {cs : List CV} {us : List Value} (h : RelL w ok rd β kd al cs us) : RelV w ok rd β kd al (.agg cs) (.agg us.toArray) := .agg cs us h.1 h.2

section
variable {c : Ct} {P : Program}
theorem rel_ofConst (t : Option Ty) (v : Value) : c.C (ofConst t v) v := by
  unfold ofConst
  split <;> first | constructor | (split <;> constructor) | skip
  rename_i h1 h2 h3 h4 h5 h6 h7
  cases v <;> first | rfl | exact absurd rfl (h6 _) | exact absurd rfl (h7 _)

/-- an address that a cell is -/
theorem rel_load (ho : c.objs) {n : Nat} {x : CV} {v : Value} {cs : List CV} (h : (loadC n x).run1 c.mem = some cs) (hv : c.C x v) :
    ∃ b o us, v = .pointer (some ⟨b, o, none⟩) ∧ c.L cs us ∧ ∀ (j : Nat) u, us[j]? = some u → c.w.cell? ⟨b, o + j, none⟩ = some u := by
  cases x <;> simp only [loadC, Rd.run1_fail] at h <;> try (cases h; done)
  case ptr i off =>
    obtain ⟨hi, hp, h1⟩ : c.al i ∧ (c.kd i = .cells → ∃ b, c.β i = .pointer (some ⟨b, 0, none⟩) ∧ v = .pointer (some ⟨b, off, none⟩)) ∧ v.oneCell' = true := by
      cases hv; exact ⟨by assumption, by assumption, by assumption⟩
    have hob := ho i
    simp only [Rd.run1_get] at h
    cases hm : c.mem.getD i .dead <;> rw [hm] at h hob <;> simp only [Rd.run1_fail, Rd.run1_ret] at h <;> try (cases h; done)
    rename_i cs0
    simp at h
    subst h
    obtain ⟨b, us, T, hb, hh, hl, _⟩ := hob
    obtain ⟨b', hb', rfl⟩ := hp (by show (c.mem.getD i .dead).kd = _; rw [hm]; rfl)
    rw [hb] at hb'
    simp at hb'
    subst hb'
    refine ⟨b, off, (us.drop off).take n, rfl, (hl.drop off).take n, fun j u hj => ?_⟩
    rw [List.getElem?_take] at hj
    split at hj
    · rw [List.getElem?_drop] at hj
      simp [World.cell?, hh, hj]
    · cases hj
  case eptr i k off =>
    obtain ⟨hi, hp, h1⟩ : c.al i ∧ (∀ t, c.kd i = .row t → ∃ b o n c1, c.β i = .slice (some ⟨b, o, none⟩) n c1 ∧ v = .pointer (some ⟨b, o + k * t.size + off, none⟩)) ∧ v.oneCell' = true := by
      cases hv; exact ⟨by assumption, by assumption, by assumption⟩
    have hob := ho i
    simp only [Rd.run1_get] at h
    cases hm : c.mem.getD i .dead <;> rw [hm] at h hob <;> simp only [Rd.run1_fail, Rd.run1_ret, Rd.run1_opt] at h <;> try (cases h; done)
    · rename_i t xs
      cases hx : xs[k]? <;> rw [hx] at h <;> simp at h
      rename_i e
      subst h
      obtain ⟨A, c0, hb, hob⟩ := hob
      obtain ⟨b, o, n0, c1, hb', rfl⟩ := hp t (by show (c.mem.getD i .dead).kd = _; rw [hm]; rfl)
      rw [hb] at hb'
      simp at hb'
      obtain ⟨rfl, rfl, rfl⟩ := hb'
      rcases hob with ⟨rfl, _⟩ | ⟨b', o', arr, T, e1, hh, hc0, hle, hsz, hrows⟩
      · simp at hx
      · simp at e1
        obtain ⟨rfl, rfl⟩ := e1
        obtain ⟨us, hul, hre, hcell⟩ := hrows k e hx
        refine ⟨b, _, (us.drop off).take n, rfl, ((rel_enc hre).drop off).take n, fun j u hj => ?_⟩
        rw [List.getElem?_take] at hj
        split at hj
        · rw [List.getElem?_drop] at hj
          have := hcell _ _ hj
          simp [World.cell?, hh, Nat.add_assoc] at this ⊢
          exact this
        · cases hj
    · rename_i t xs
      cases hx : xs[k]? <;> rw [hx] at h <;> simp at h
      rename_i e
      subst h
      obtain ⟨A, c0, hb, hle, hrow⟩ := hob
      obtain ⟨b, o, n0, c1, hb', rfl⟩ := hp t (by show (c.mem.getD i .dead).kd = _; rw [hm]; rfl)
      simp at hb
      rw [hb] at hb'
      simp at hb'
      obtain ⟨rfl, rfl, rfl⟩ := hb'
      rcases hrow with rfl | ⟨b', o', e1, hok, hrows⟩
      · simp at hx
      · simp at e1
        obtain ⟨rfl, rfl⟩ := e1
        obtain ⟨us, hul, hre, hcell⟩ := hrows k e hx
        refine ⟨b, _, (us.drop off).take n, rfl, ((rel_enc hre).drop off).take n, fun j u hj => ?_⟩
        rw [List.getElem?_take] at hj
        split at hj
        · rw [List.getElem?_drop] at hj
          have := hcell _ _ hj
          simpa [Nat.add_assoc] using this
        · cases hj
  case rptr cs0 =>
    simp only [Rd.run1_ret] at h
    simp at h
    subst h
    obtain ⟨b, o, us, rfl, hb, hl, hu, hr⟩ : ∃ (b o : Nat) (us : List Value), v = .pointer (some ⟨b, o, none⟩) ∧ (c.ok b ∨ c.rd b) ∧ us.length = cs0.length ∧ (∀ (j : Nat) u, us[j]? = some u → c.w.cell? ⟨b, o + j, none⟩ = some u) ∧
        (∀ (j : Nat) d u, cs0[j]? = some d → us[j]? = some u → c.C d u) := by
      cases hv; exact ⟨_, _, _, rfl, by assumption, by assumption, by assumption, by assumption⟩
    refine ⟨b, o, us.take n, rfl, RelL.take ⟨hl, hr⟩ n, fun j u hj => ?_⟩
    rw [List.getElem?_take] at hj
    split at hj
    · exact hu j u hj
    · cases hj

theorem rel_mkV {g : Bool} {cs : List CV} {v : V} {us : List Value} {m : List Obj} (h : (mkV g cs).run1 m = some v) (hl : c.L cs us) :
    (g = true ∧ c.V v (.agg us.toArray)) ∨ (g = false ∧ ∃ u, us = [u] ∧ c.V v u) := by
  unfold mkV at h
  split at h
  · simp [Rd.run1] at h; subst h; exact .inl ⟨rfl, .ofL hl⟩
  · rename_i x
    simp [Rd.run1] at h; subst h
    obtain ⟨u, r, rfl, hc, hr⟩ := hl.head
    have : r = [] := by have := hr.1; simpa using this
    subst this
    exact .inr ⟨rfl, u, rfl, .one _ _ hc⟩
  · simp [Rd.run1] at h

theorem addr_add (b o n : Nat) : (⟨b, o, none⟩ : Addr).add n = ⟨b, o + n, none⟩ := by
  unfold Addr.add; split <;> simp_all

/-- a load -/
theorem run_loadVar {t : TypeId} {n : Nat} {g : Bool} {b o : Nat} {us : List Value} {v : Value} (hn : sizeAt P t = some n) (hg : aggAt P t = some g) (hl : us.length = n)
    (hu : ∀ (j : Nat) u, us[j]? = some u → c.w.cell? ⟨b, o + j, none⟩ = some u) (hv : (g = true ∧ v = .agg us.toArray) ∨ (g = false ∧ us = [v])) :
    (Go.loadVar t ⟨b, o, none⟩).run P c.w = .ok v c.w := by
  unfold Go.loadVar
  rcases hv with ⟨rfl, rfl⟩ | ⟨rfl, rfl⟩
  · have := run_loadCells_list (P := P) c.w ⟨b, o, none⟩ us (fun j u hj => by rw [addr_add]; exact hu j u hj)
    rw [hl] at this
    simp [run_aggAt hg, run_sizeAt hn, this]
  · have := hu 0 v rfl
    simp at this
    simp [run_aggAt hg, this]

theorem rel_intOp {op : BinOp} {k : IntKind} {x y : Int} {z : CV} (h : (intOp op k x y).run1 c.mem = some z) :
    ∃ v, ((match op with
      | .add | .sub | .mul => Op.intArith op k x y
      | .quo | .rem => Op.intDiv op k x y
      | .and | .or | .xor | .andNot => Op.intBits op k x y
      | _ => Op.intCmp op x y) : Sem Value).run P c.w = .ok v c.w ∧ c.C z v := by
  cases op <;> simp only [intOp, Rd.run1_ret, Rd.run1_fail, Rd.run1_guard, Option.some.injEq] at h <;> first
    | (cases h; done)
    | (subst h; exact ⟨_, rfl, .int _ _⟩)
    | (subst h; exact ⟨_, rfl, .bool _⟩)
    | skip
  all_goals
    cases hy : (y == 0) with
    | true => rw [hy] at h; simp at h
    | false =>
      rw [hy] at h
      simp at h
      have hy' : ¬ y = 0 := by simpa using hy
      subst h
      exact ⟨_, by simp [Op.intDiv, hy'], .int _ _⟩

theorem rel_shiftOp {op : BinOp} {k l : IntKind} {x y : Int} {z : CV} (h : (shiftOp op k x y).run1 c.mem = some z) :
    ∃ v, (Op.shift op k x l y).run P c.w = .ok v c.w ∧ c.C z v := by
  cases op <;> simp only [shiftOp, Rd.run1_ret, Rd.run1_fail, Rd.run1_guard] at h <;> try (cases h; done)
  all_goals
    cases hy : decide (0 ≤ y) with
    | false => rw [hy] at h; simp at h
    | true =>
      rw [hy] at h
      simp at h hy
      have hy' : ¬ y < 0 := by omega
      subst h
      exact ⟨_, by simp [Op.shift, hy'], .int _ _⟩

theorem i64_max : IntKind.i64.max = 9223372036854775807 := by decide
theorem rel_strOp {op : BinOp} {x y : ByteArray} {z : CV} (h : (strOp op x y).run1 c.mem = some z) :
    ∃ v, (Op.stringOp op x y).run P c.w = .ok v c.w ∧ c.C z v := by
  cases op <;> simp only [strOp, Rd.run1_ret, Rd.run1_fail, Rd.run1_guard, Option.some.injEq] at h <;> first
    | (cases h; done)
    | (subst h; exact ⟨_, rfl, .bool _⟩)
    | skip
  cases hy : decide (x.size + y.size ≤ 9223372036854775807) with
  | false => rw [hy] at h; simp at h
  | true =>
    rw [hy] at h
    simp at h hy
    subst h
    have hy' : ¬ (((x.size + y.size : Nat) : Int) > IntKind.i64.max) := by rw [i64_max]; omega
    exact ⟨.string (x ++ y), by unfold Op.stringOp; simp only [if_neg hy']; rfl, .str _⟩

theorem run_equal_bool {t : TypeId} (hu : P.underlying t = some .bool) (p q : Bool) (w : World) : (Op.equal t (.bool p) (.bool q)).run P w = .ok (p == q) w := by
  show (Op.equalIn (9999 + 1) t (.bool p) (.bool q)).run P w = _
  rw [Op.equalIn, Sem.run_bind, run_underlying hu]
  rfl
theorem rel_binC {op : BinOp} {x y z : CV} {a b : Value} {t : TypeId} (h : (binC op (isBoolT P t) (isSliceT P t) x y).run1 c.mem = some z) (ha : c.C x a) (hb : c.C y b) :
    ∃ v, (Go.binOp op t a b).run P c.w = .ok v c.w ∧ c.C z v := by
  cases x <;> cases y <;> simp only [binC, Rd.run1_fail] at h <;> try (cases h; done)
  · -- bools
    cases ha; cases hb
    rename_i p q
    cases hu : isBoolT P t with
    | false => rw [hu] at h; cases op <;> simp [Rd.run1] at h
    | true =>
      rw [hu] at h
      have hu' : P.underlying t = some .bool := by
        unfold isBoolT at hu
        split at hu
        · assumption
        · cases hu
      cases op <;> simp only [Rd.run1_fail, Rd.run1_ret, Option.some.injEq] at h <;> try (cases h; done)
      · subst h
        exact ⟨.bool (p == q), by
          show ((do pure (Value.bool (← Op.equal t (.bool p) (.bool q)))) : Sem Value).run P c.w = _
          rw [Sem.run_bind, run_equal_bool hu']; rfl, .bool _⟩
      · subst h
        exact ⟨.bool (!(p == q)), by
          show ((do pure (Value.bool (!(← Op.equal t (.bool p) (.bool q))))) : Sem Value).run P c.w = _
          rw [Sem.run_bind, run_equal_bool hu']; rfl, .bool _⟩
  · -- numbers
    cases ha; cases hb
    rename_i k p l q
    by_cases hs : op = .shl
    · subst hs; obtain ⟨v, hr, hv⟩ := rel_shiftOp (P := P) (l := l) h; exact ⟨v, hr, hv⟩
    by_cases hs2 : op = .shr
    · subst hs2; obtain ⟨v, hr, hv⟩ := rel_shiftOp (P := P) (l := l) h; exact ⟨v, hr, hv⟩
    have h' : (match eqKind k l with | some _ => intOp op k p q | none => .fail).run1 c.mem = some z := by
      cases op <;> first | exact absurd rfl hs | exact absurd rfl hs2 | exact h
    split at h'
    · rename_i e he
      obtain rfl := eqKind_spec he
      obtain ⟨v, hr, hv⟩ := rel_intOp (P := P) h'
      refine ⟨v, ?_, hv⟩
      cases op <;> first | exact absurd rfl hs | exact absurd rfl hs2 | (simp only [Go.binOp, ne_eq, not_true_eq_false, if_false]; exact hr)
    · simp [Rd.run1] at h'
  · -- texts
    cases ha; cases hb
    obtain ⟨v, hr, hv⟩ := rel_strOp (P := P) h
    exact ⟨v, by cases op <;> exact hr, hv⟩
  · -- is a slice nil?
    rename_i b t' xs t''
    cases hb
    obtain ⟨A, cp, rfl, rfl⟩ : ∃ A cp, a = .slice A xs.length cp ∧ A.isNone = b := by cases ha; exact ⟨_, _, rfl, by assumption⟩
    cases hu : isSliceT P t with
    | false => rw [hu] at h; cases op <;> simp [Rd.run1] at h
    | true =>
      rw [hu] at h
      obtain ⟨e, hu'⟩ : ∃ e, P.underlying t = some (.slice e) := by
        unfold isSliceT at hu
        split at hu
        · exact ⟨_, by assumption⟩
        · cases hu
      have heq : (Op.equal t (.slice A xs.length cp) (.slice none 0 0)).run P c.w = .ok A.isNone c.w := by
        show (Op.equalIn (9999 + 1) t _ _).run P c.w = _
        rw [Op.equalIn, Sem.run_bind, run_underlying hu']
        cases A <;> rfl
      cases op <;> simp only [Rd.run1_fail, Rd.run1_ret, Option.some.injEq] at h <;> try (cases h; done)
      · subst h
        exact ⟨.bool A.isNone, by
          show ((do pure (Value.bool (← Op.equal t (.slice A xs.length cp) (.slice none 0 0)))) : Sem Value).run P c.w = _
          rw [Sem.run_bind, heq]; rfl, .bool _⟩
      · subst h
        exact ⟨.bool (!A.isNone), by
          show ((do pure (Value.bool (!(← Op.equal t (.slice A xs.length cp) (.slice none 0 0))))) : Sem Value).run P c.w = _
          rw [Sem.run_bind, heq]; rfl, .bool _⟩

theorem rel_unC {op : UnOp} {x z : CV} {a : Value} (h : (unC op x).run1 c.mem = some z) (ha : c.C x a) :
    ∃ v, (Op.unary op a).run P c.w = .ok v c.w ∧ c.C z v := by
  unfold unC at h
  split at h <;> simp only [Rd.run1_ret, Rd.run1_fail, Option.some.injEq] at h <;> try (cases h; done)
  · subst h; cases ha; exact ⟨_, rfl, .bool _⟩
  · subst h; cases ha; exact ⟨_, rfl, .int _ _⟩
  · subst h; cases ha; exact ⟨_, rfl, .int _ _⟩

theorem row_drop {w : World} {ok : Nat → Prop} {α : Type} {R : α → List Value → Prop} {size l h c : Nat} {A : Option Addr} {xs : List α} (hr : RowAt w ok R size A xs) (hlh : l ≤ h) (hh : h ≤ xs.length) (hc : xs.length ≤ c) :
    RowAt w ok R size (if c = l then A else A.map (·.add (l * size))) ((xs.take h).drop l) := by
  rcases hr with rfl | ⟨b, o, rfl, hb, hr⟩
  · exact .inl (by simp)
  · by_cases hcl : c = l
    · exact .inl (by rw [List.drop_eq_nil_iff]; simp; omega)
    · refine .inr ⟨b, o + l * size, by rw [if_neg hcl]; simp [addr_add], hb, fun k x hk => ?_⟩
      have hk' : xs[l + k]? = some x := by
        rw [List.getElem?_drop, List.getElem?_take] at hk
        split at hk
        · exact hk
        · cases hk
      obtain ⟨us, hl, hx, hu⟩ := hr _ _ hk'
      exact ⟨us, hl, hx, fun j u hj => by have := hu j u hj; rw [Nat.add_mul] at this; simpa [Nat.add_assoc] using this⟩

theorem cast_len {a b : Ty} (h : a = b) (xs : List (El a)) : (castL h xs).length = xs.length := by subst h; rfl

/-- an element's address -/
theorem rel_indexAddr (ho : c.objs) {t : TypeId} {sz : Nat} (hu : elemSize P t = some sz) {k : IntKind} {i : Int} {x z : CV} {a : Value}
    (h : (indexAddrC sz x i).run1 c.mem = some z) (ha : c.C x a) :
    ∃ v, (Instr.indexAt t a (.int k i)).run P c.w = .ok v c.w ∧ c.C z v := by
  obtain ⟨e, hu, hsz⟩ : ∃ e, P.underlying t = some (.slice e) ∧ sizeAt P e = some sz := by
    unfold elemSize at hu
    split at hu
    · exact ⟨_, by assumption, hu⟩
    · cases hu
  have base : ∀ (A : Option Addr) (n cp : Nat) (ad : Addr), A = some ad → 0 ≤ i → i < n → (Instr.indexAt t (.slice A n cp) (.int k i)).run P c.w = .ok (.pointer (some (ad.add (i.toNat * sz)))) c.w := by
    intro A n cp ad hA h0 h1
    subst hA
    simp [Instr.indexAt, run_underlying hu, asIntOf, run_sizeAt hsz, h0, h1]
  have data : ∀ (t' : Ty) (xs : List (El t')) (A : Option Addr) (cp : Nat), t'.size = sz → RowAt c.w c.ok (RepE c.w c.ok t') t'.size A xs →
      ((Rd.opt t' (idx xs i) fun e => .ret (.rptr (enc t' e))) : Rd CV).run1 c.mem = some z → ∃ v, (Instr.indexAt t (.slice A xs.length cp) (.int k i)).run P c.w = .ok v c.w ∧ c.C z v := by
    intro t' xs A cp hs hrow h
    simp only [Rd.run1_opt, Rd.run1_ret] at h
    cases hx : idx xs i <;> rw [hx] at h <;> simp at h
    rename_i e
    subst h
    unfold idx at hx
    split at hx
    · rename_i h0
      rcases hrow with rfl | ⟨b, o, rfl, hb, hr⟩
      · simp at hx
      · obtain ⟨us, hl, hre, hu'⟩ := hr _ _ hx
        have hlt : i.toNat < xs.length := by
          rcases Nat.lt_or_ge i.toNat xs.length with h | h
          · exact h
          · rw [List.getElem?_eq_none h] at hx; cases hx
        refine ⟨_, base _ _ _ _ rfl h0 (by omega), ?_⟩
        rw [addr_add, ← hs]
        have hle := rel_enc (rd := c.rd) (β := c.β) (kd := c.kd) (al := c.al) hre
        exact .rptr _ _ _ us (.inl hb) hle.1 (fun j u hj => by have := hu' j u hj; simpa [Nat.add_assoc] using this) hle.2
    · cases hx
  cases x <;> simp only [indexAddrC, Rd.run1_fail] at h <;> try (cases h; done)
  case slc t' xs =>
    cases hs : (t'.size == sz) <;> rw [hs] at h <;> simp only [cond, Rd.run1_fail] at h
    · cases h
    obtain ⟨A, cp, rfl, hrow⟩ : ∃ A cp, a = .slice A xs.length cp ∧ RowAt c.w c.ok (RepE c.w c.ok t') t'.size A xs := by cases ha; exact ⟨_, _, rfl, by assumption⟩
    exact data t' xs A cp (by simpa using hs) hrow h
  case clp t' xs =>
    cases hs : (t'.size == sz) <;> rw [hs] at h <;> simp only [cond, Rd.run1_fail] at h
    · cases h
    obtain ⟨A, rfl, hrow⟩ : ∃ A, a = .slice A xs.length xs.length ∧ RowAt c.w c.ok (RepE c.w c.ok t') t'.size A xs := by cases ha; exact ⟨_, rfl, by assumption⟩
    exact data t' xs A _ (by simpa using hs) hrow h
  case osl j =>
    obtain ⟨hj, hv⟩ : c.al j ∧ (c.kd j ≠ .none → a = c.β j) := by cases ha; exact ⟨by assumption, by assumption⟩
    have hob := ho j
    simp only [Rd.run1_get] at h
    cases hm : c.mem.getD j .dead <;> rw [hm] at h hob <;> simp only [Rd.run1_fail] at h <;> try (cases h; done)
    all_goals
      rename_i t' xs
      have hkd : c.kd j = .row t' := by show (c.mem.getD j .dead).kd = _; rw [hm]; rfl
      cases hs : (t'.size == sz) <;> rw [hs] at h <;> simp only [cond, Rd.run1_fail] at h
      · cases h
      replace hs : t'.size = sz := by simpa using hs
      simp only [Rd.run1_guard, Rd.run1_ret] at h
      cases hg : (decide (0 ≤ i) && decide (i < xs.length)) <;> rw [hg] at h <;> simp at h
      subst h
      simp at hg
      rw [hv (by rw [hkd]; simp)]
    · obtain ⟨A, cp, hb, hob⟩ := hob
      rw [hb]
      rcases hob with ⟨rfl, _⟩ | ⟨b, o, arr, T, rfl, _⟩
      · simp at hg; omega
      · exact ⟨_, base _ _ _ _ rfl hg.1 (by omega), by
          rw [addr_add]
          exact .eptr _ _ _ _ hj (fun t2 h2 => by rw [hkd] at h2; cases h2; exact ⟨b, o, _, _, hb, by rw [hs]; rfl⟩) rfl⟩
    · obtain ⟨A, cp, hb, _, hob⟩ := hob
      simp at hb
      rw [hb]
      rcases hob with rfl | ⟨b, o, rfl, _⟩
      · simp at hg; omega
      · exact ⟨_, base _ _ _ _ rfl hg.1 (by omega), by
          rw [addr_add]
          exact .eptr _ _ _ _ hj (fun t2 h2 => by rw [hkd] at h2; cases h2; exact ⟨b, o, _, _, hb, by rw [hs]; rfl⟩) rfl⟩
  case ovw j of n =>
    obtain ⟨hj, hv⟩ : c.al j ∧ (∀ t, c.kd j = .row t → ∃ A n' cp A', c.β j = .slice A n' cp ∧ a = .slice A' n (cp - of) ∧ of + n ≤ cp ∧ (∀ b o, A = some ⟨b, o, none⟩ → cp ≠ of → A' = some ⟨b, o + of * t.size, none⟩)) := by
      cases ha; exact ⟨by assumption, by assumption⟩
    have hob := ho j
    simp only [Rd.run1_get] at h
    cases hm : c.mem.getD j .dead <;> rw [hm] at h hob <;> simp only [Rd.run1_fail] at h <;> try (cases h; done)
    all_goals
      rename_i t' xs
      have hkd : c.kd j = .row t' := by show (c.mem.getD j .dead).kd = _; rw [hm]; rfl
      cases hs : (t'.size == sz) <;> rw [hs] at h <;> simp only [cond, Rd.run1_fail] at h
      · cases h
      replace hs : t'.size = sz := by simpa using hs
      simp only [Rd.run1_guard, Rd.run1_ret] at h
      obtain ⟨A, n', cp, A', hb, rfl, hle, hA⟩ := hv t' hkd
    · cases hg : (decide (0 ≤ i) && decide (i < n)) <;> rw [hg] at h <;> simp at h
      subst h
      simp at hg
      obtain ⟨A2, c2, hb2, hob⟩ := hob
      rw [hb] at hb2
      cases hb2
      rcases hob with ⟨rfl, rfl⟩ | ⟨b, o, arr, T, rfl, _⟩
      · omega
      · refine ⟨_, base _ _ _ _ (hA b o rfl (by omega)) hg.1 (by omega), ?_⟩
        rw [addr_add]
        exact .eptr _ _ _ _ hj (fun t2 h2 => by rw [hkd] at h2; cases h2; exact ⟨b, o, _, _, hb, by rw [hs, Nat.add_mul, ← Nat.add_assoc]; rfl⟩) rfl
    · cases hg : (decide (0 ≤ i) && decide (i < n) && decide (of + i.toNat < xs.length)) <;> rw [hg] at h <;> simp at h
      subst h
      simp at hg
      obtain ⟨A2, c2, hb2, _, hob⟩ := hob
      simp at hb2
      rw [hb] at hb2
      cases hb2
      rcases hob with rfl | ⟨b, o, rfl, _⟩
      · simp at hg
      · refine ⟨_, base _ _ _ _ (hA b o rfl (by omega)) hg.1.1 (by omega), ?_⟩
        rw [addr_add]
        exact .eptr _ _ _ _ hj (fun t2 h2 => by rw [hkd] at h2; cases h2; exact ⟨b, o, _, _, hb, by rw [hs, Nat.add_mul, ← Nat.add_assoc]; rfl⟩) rfl

theorem run_fieldOff {t : TypeId} {f o n : Nat} {g : Bool} (h : fieldOff P t f = some (o, n, g)) :
    ∃ fs fd, P.underlying t = some (.struct fs) ∧ fs[f]? = some fd ∧ fd.offset = o ∧ sizeAt P fd.type = some n ∧ aggAt P fd.type = some g := by
  unfold fieldOff at h
  split at h
  · split at h
    · split at h
      · simp at h
        obtain ⟨rfl, rfl, rfl⟩ := h
        exact ⟨_, _, by assumption, by assumption, rfl, by assumption, by assumption⟩
      · cases h
    · cases h
  · cases h

theorem rel_fieldAddr {t : TypeId} {f o n : Nat} {g : Bool} {x z : CV} {a : Value} (hf : fieldOff P t f = some (o, n, g)) (h : (fieldAddrC o n x).run1 c.mem = some z) (ha : c.C x a) :
    ∃ v, (Instr.fieldAt t a f).run P c.w = .ok v c.w ∧ c.C z v := by
  obtain ⟨fs, fd, hu, hfd, ho, hn, hg⟩ := run_fieldOff hf
  unfold fieldAddrC at h
  split at h
  · simp [Rd.run1] at h
  · rename_i n0
    have hn0 : ¬ n = 0 := by assumption
    have base : ∀ b q, (Instr.fieldAt t (.pointer (some ⟨b, q, none⟩)) f).run P c.w = .ok (.pointer (some ⟨b, q + o, none⟩)) c.w := by
      intro b q
      simp [Instr.fieldAt, run_underlying hu, hfd, Instr.sureAddr, fieldPlace, run_sizeAt hn, hn0, addr_add, ho]
    cases x <;> simp only [Rd.run1_ret, Rd.run1_fail, Option.some.injEq] at h <;> try (cases h; done)
    case ptr i off =>
      obtain ⟨hi, hp, h1⟩ : c.al i ∧ (c.kd i = .cells → ∃ b, c.β i = .pointer (some ⟨b, 0, none⟩) ∧ a = .pointer (some ⟨b, off, none⟩)) ∧ a.oneCell' = true := by
        cases ha; exact ⟨by assumption, by assumption, by assumption⟩
      simp only [Rd.run1_get] at h
      cases hm : c.mem.getD i .dead <;> rw [hm] at h <;> simp only [Rd.run1_fail, Rd.run1_ret, Option.some.injEq] at h <;> try (cases h; done)
      subst h
      have hk : c.kd i = .cells := by show (c.mem.getD i .dead).kd = _; rw [hm]; rfl
      obtain ⟨b, hb, rfl⟩ := hp hk
      exact ⟨_, base b off, .ptr _ _ _ hi (fun _ => ⟨b, hb, rfl⟩) rfl⟩
    case eptr i k off =>
      obtain ⟨hi, hp, h1⟩ : c.al i ∧ (∀ t, c.kd i = .row t → ∃ b o n c1, c.β i = .slice (some ⟨b, o, none⟩) n c1 ∧ a = .pointer (some ⟨b, o + k * t.size + off, none⟩)) ∧ a.oneCell' = true := by
        cases ha; exact ⟨by assumption, by assumption, by assumption⟩
      simp only [Rd.run1_get] at h
      cases hm : c.mem.getD i .dead <;> rw [hm] at h <;> simp only [Rd.run1_fail, Rd.run1_ret, Option.some.injEq] at h <;> try (cases h; done)
      all_goals
        rename_i t' xs'
        subst h
        have hk : c.kd i = .row t' := by show (c.mem.getD i .dead).kd = _; rw [hm]; rfl
        obtain ⟨b, q, n1, c1, hb, rfl⟩ := hp t' hk
        exact ⟨_, base b _, .eptr _ _ _ _ hi (fun t2 h2 => by rw [hk] at h2; cases h2; exact ⟨b, q, n1, c1, hb, by rw [Nat.add_assoc]⟩) rfl⟩
    case rptr cs =>
      subst h
      obtain ⟨b, q, us, rfl, hb, hl, hu', hr⟩ : ∃ (b q : Nat) (us : List Value), a = .pointer (some ⟨b, q, none⟩) ∧ (c.ok b ∨ c.rd b) ∧ us.length = cs.length ∧ (∀ (j : Nat) u, us[j]? = some u → c.w.cell? ⟨b, q + j, none⟩ = some u) ∧
        (∀ (j : Nat) d u, cs[j]? = some d → us[j]? = some u → c.C d u) := by
        cases ha; exact ⟨_, _, _, rfl, by assumption, by assumption, by assumption, by assumption⟩
      refine ⟨_, base b q, ?_⟩
      have hd := RelL.drop (w := c.w) (ok := c.ok) (rd := c.rd) (β := c.β) (kd := c.kd) (al := c.al) ⟨hl, hr⟩ o
      exact .rptr _ _ _ (us.drop o) hb hd.1 (fun j u hj => by rw [List.getElem?_drop] at hj; rw [Nat.add_assoc]; exact hu' _ _ hj) hd.2

theorem rel_lenS (ho : c.objs) {t : TypeId} {ty e : TypeId} {ts : List TypeId} {x z : CV} {a : Value} (hu : P.underlying t = some (.slice e)) (h : (lenS x).run1 c.mem = some z) (ha : c.C x a) :
    ∃ v, (Builtin.len_ (t :: ts).toArray ty #[a]).run P c.w = .ok v c.w ∧ c.C z v := by
  have sl : ∀ (A : Option Addr) (n cp : Nat), (Builtin.len_ (t :: ts).toArray ty #[.slice A n cp]).run P c.w = .ok (.int .i64 n) c.w := by
    intro A n cp
    simp [Builtin.len_, run_underlying hu, goInt]
  cases x <;> simp only [lenS, Rd.run1_fail, Rd.run1_ret, Option.some.injEq] at h <;> try (cases h; done)
  case nils t' => subst h; cases ha; exact ⟨_, sl _ _ _, .int _ _⟩
  case slc t' xs => subst h; cases ha; exact ⟨_, sl _ _ _, .int _ _⟩
  case clp t' xs => subst h; cases ha; exact ⟨_, sl _ _ _, .int _ _⟩
  case osl j =>
    obtain ⟨hj, hv⟩ : c.al j ∧ (c.kd j ≠ .none → a = c.β j) := by cases ha; exact ⟨by assumption, by assumption⟩
    have hob := ho j
    simp only [Rd.run1_get] at h
    cases hm : c.mem.getD j .dead <;> rw [hm] at h hob <;> simp only [Rd.run1_fail, Rd.run1_ret, Option.some.injEq] at h <;> try (cases h; done)
    all_goals
      rename_i t' xs
      have hkd : c.kd j = .row t' := by show (c.mem.getD j .dead).kd = _; rw [hm]; rfl
      subst h
      rw [hv (by rw [hkd]; simp)]
    · obtain ⟨A, cp, hb, _⟩ := hob
      rw [hb]
      exact ⟨_, sl _ _ _, .int _ _⟩
    · obtain ⟨A, cp, hb, _⟩ := hob
      simp at hb
      rw [hb]
      exact ⟨_, sl _ _ _, .int _ _⟩
  case ovw j o n =>
    obtain ⟨hj, hv⟩ : c.al j ∧ (∀ t, c.kd j = .row t → ∃ A n' cp A', c.β j = .slice A n' cp ∧ a = .slice A' n (cp - o) ∧ o + n ≤ cp ∧ (∀ b q, A = some ⟨b, q, none⟩ → cp ≠ o → A' = some ⟨b, q + o * t.size, none⟩)) := by
      cases ha; exact ⟨by assumption, by assumption⟩
    simp only [Rd.run1_get] at h
    cases hm : c.mem.getD j .dead <;> rw [hm] at h <;> simp only [Rd.run1_fail, Rd.run1_ret, Option.some.injEq] at h <;> try (cases h; done)
    all_goals
      rename_i t' xs
      have hkd : c.kd j = .row t' := by show (c.mem.getD j .dead).kd = _; rw [hm]; rfl
      obtain ⟨A, n', cp, A', hb, rfl, _⟩ := hv t' hkd
      subst h
      exact ⟨_, sl _ _ _, .int _ _⟩
theorem rel_capC (ho : c.objs) {t : TypeId} {ty : TypeId} {ts : List TypeId} {x z : CV} {a : Value} (h : (capC P t x).run1 c.mem = some z) (ha : c.C x a) :
    ∃ v, (Builtin.cap_ (t :: ts).toArray ty #[a]).run P c.w = .ok v c.w ∧ c.C z v := by
  unfold capC at h
  split at h
  · rename_i e hu
    have sl : ∀ (A : Option Addr) (n cp : Nat), (Builtin.cap_ (t :: ts).toArray ty #[.slice A n cp]).run P c.w = .ok (.int .i64 cp) c.w := by
      intro A n cp
      simp [Builtin.cap_, run_underlying hu, goInt]
    cases x <;> simp only [capS, Rd.run1_fail] at h <;> try (cases h; done)
    case ovw j o n =>
      obtain ⟨hj, hv⟩ : c.al j ∧ (∀ t, c.kd j = .row t → ∃ A n' cp A', c.β j = .slice A n' cp ∧ a = .slice A' n (cp - o) ∧ o + n ≤ cp ∧ (∀ b q, A = some ⟨b, q, none⟩ → cp ≠ o → A' = some ⟨b, q + o * t.size, none⟩)) := by
        cases ha; exact ⟨by assumption, by assumption⟩
      simp only [Rd.run1_get] at h
      have hob := ho j
      cases hm : c.mem.getD j .dead <;> rw [hm] at h hob <;> simp only [Rd.run1_fail, Rd.run1_ret, Option.some.injEq] at h <;> try (cases h; done)
      rename_i t' xs
      have hkd : c.kd j = .row t' := by show (c.mem.getD j .dead).kd = _; rw [hm]; rfl
      obtain ⟨A, n', cp, A', hb, rfl, _⟩ := hv t' hkd
      obtain ⟨A2, hb2, _⟩ := hob
      rw [hb] at hb2
      cases hb2
      subst h
      exact ⟨_, sl _ _ _, .int _ _⟩
  · cases h

theorem rel_lenM (ho : c.objs) {t : TypeId} {ty k e : TypeId} {ts : List TypeId} {x z : CV} {a : Value} (hu : P.underlying t = some (.map k e)) (h : (lenM x).run1 c.mem = some z) (ha : c.C x a) :
    ∃ v, (Builtin.len_ (t :: ts).toArray ty #[a]).run P c.w = .ok v c.w ∧ c.C z v := by
  cases x <;> simp only [lenM, Rd.run1_fail, Rd.run1_ret, Option.some.injEq] at h <;> try (cases h; done)
  case osl j =>
    obtain ⟨hj, hv⟩ : c.al j ∧ (c.kd j ≠ .none → a = c.β j) := by cases ha; exact ⟨by assumption, by assumption⟩
    have hob := ho j
    simp only [Rd.run1_get] at h
    cases hm : c.mem.getD j .dead <;> rw [hm] at h hob <;> simp only [Rd.run1_fail, Rd.run1_ret, Option.some.injEq] at h <;> try (cases h; done)
    rename_i kt vt g es tidy
    have hkd : c.kd j = .map := by show (c.mem.getD j .dead).kd = _; rw [hm]; rfl
    subst h
    rw [hv (by rw [hkd]; simp)]
    obtain ⟨r, arr, clock, hb, hh, hs, _⟩ := hob
    rw [hb]
    refine ⟨.int .i64 es.length, ?_, .int _ _⟩
    simp [Builtin.len_, run_underlying hu, goInt, Go.MapKept.run_getObj_map hh, hs]
theorem rel_lenC (ho : c.objs) {t : TypeId} {ty : TypeId} {ts : List TypeId} {x z : CV} {a : Value} (h : (lenC P t x).run1 c.mem = some z) (ha : c.C x a) :
    ∃ v, (Builtin.len_ (t :: ts).toArray ty #[a]).run P c.w = .ok v c.w ∧ c.C z v := by
  have key : x.isStr = false → (lenC P t x).run1 c.mem = some z → (∃ e, P.underlying t = some (.slice e) ∧ (lenS x).run1 c.mem = some z) ∨ ∃ k e, P.underlying t = some (.map k e) ∧ (lenM x).run1 c.mem = some z := by
    intro hx h
    cases hu : P.underlying t with
    | none => cases x <;> simp [lenC, hu, Rd.run1] at h
    | some d => cases d <;> cases x <;> simp [lenC, hu, Rd.run1, CV.isStr] at h hx ⊢ <;> exact h
  cases hx : x.isStr with
  | false =>
    rcases key hx h with ⟨e, hu, h⟩ | ⟨k, e, hu, h⟩
    · exact rel_lenS ho hu h ha
    · exact rel_lenM ho hu h ha
  | true =>
    cases x <;> simp [CV.isStr] at hx
    rename_i s
    cases ha
    have hu : P.underlying t = some .string := by
      cases hu : P.underlying t with
      | none => simp [lenC, hu, Rd.run1] at h
      | some d => cases d <;> simp [lenC, hu, Rd.run1] at h ⊢
    simp [lenC, hu, Rd.run1] at h
    subst h
    exact ⟨.int .i64 s.size, by simp [Builtin.len_, run_underlying hu, goInt], .int _ _⟩

/-! ### slice expressions -/
theorem run_sliceBound {k : IntKind} {i : Int} {y : Nat} {cd : BoundsCode} (h0 : 0 ≤ i) (h1 : i ≤ y) : (Instr.sliceBound (.int k i) y cd).run P c.w = .ok i.toNat c.w := by
  simp [Instr.sliceBound, asIntOf, h0, h1]
/-- the bounds of a slice expression, as values -/
def BV (o : Option Value) (x : Option Int) : Prop :=
  match o, x with
  | none, none => True
  | some (.int _ n), some m => n = m
  | _, _ => False
theorem run_sliceBounds {sl : Bool} {len cap : Nat} {lv hv mv : Option Value} {l h m : Option Int} (el : BV lv l) (eh : BV hv h) (em : BV mv m)
    (hl0 : 0 ≤ l.getD 0) (hlh : l.getD 0 ≤ h.getD len) (hhm : h.getD len ≤ m.getD cap) (hm : m.getD cap ≤ cap) (hmh : m.isSome → h.isSome) :
    (Instr.sliceBounds sl len cap lv hv mv).run P c.w = .ok ((l.getD 0).toNat, (h.getD len).toNat, (m.getD cap).toNat) c.w := by
  have e1 : ∀ {o : Option Value} {x : Option Int}, BV o x → (o = none ∧ x = none) ∨ ∃ k n, o = some (.int k n) ∧ x = some n := by
    intro o x hb
    unfold BV at hb
    split at hb
    · exact .inl ⟨rfl, rfl⟩
    · subst hb; exact .inr ⟨_, _, rfl, rfl⟩
    · exact hb.elim
  rcases e1 em with ⟨rfl, rfl⟩ | ⟨km, nm, rfl, rfl⟩
  · rcases e1 eh with ⟨rfl, rfl⟩ | ⟨kh, nh, rfl, rfl⟩
    · rcases e1 el with ⟨rfl, rfl⟩ | ⟨kl, nl, rfl, rfl⟩
      · simp [Instr.sliceBounds]
      · simp at *
        simp [Instr.sliceBounds, run_sliceBound hl0 hlh]
    · rcases e1 el with ⟨rfl, rfl⟩ | ⟨kl, nl, rfl, rfl⟩
      · simp at *
        simp [Instr.sliceBounds, run_sliceBound hlh hhm]
      · simp at *
        have h0 : (0 : Int) ≤ nh := by omega
        have hh : nl ≤ (nh.toNat : Int) := by omega
        simp [Instr.sliceBounds, run_sliceBound h0 hhm, run_sliceBound hl0 hh]
  · rcases e1 eh with ⟨rfl, rfl⟩ | ⟨kh, nh, rfl, rfl⟩
    · simp at hmh
    · rcases e1 el with ⟨rfl, rfl⟩ | ⟨kl, nl, rfl, rfl⟩
      · simp at *
        have h0 : (0 : Int) ≤ nm := by omega
        have hh : nh ≤ (nm.toNat : Int) := by omega
        simp [Instr.sliceBounds, run_sliceBound h0 hm, run_sliceBound hlh hh]
      · simp at *
        have h0 : (0 : Int) ≤ nm := by omega
        have h1 : (0 : Int) ≤ nh := by omega
        have hh : nh ≤ (nm.toNat : Int) := by omega
        have hh2 : nl ≤ (nh.toNat : Int) := by omega
        simp [Instr.sliceBounds, run_sliceBound h0 hm, run_sliceBound h1 hh, run_sliceBound hl0 hh2]

theorem run_slice {t e : TypeId} {sz : Nat} (hu : P.underlying t = some (.slice e)) (hsz : sizeAt P e = some sz) {A : Option Addr} {len cap : Nat} {lv hv mv : Option Value} {l h m : Option Int} (el : BV lv l) (eh : BV hv h) (em : BV mv m)
    (hl0 : 0 ≤ l.getD 0) (hlh : l.getD 0 ≤ h.getD len) (hhm : h.getD len ≤ m.getD cap) (hm : m.getD cap ≤ cap) (hmh : m.isSome → h.isSome) :
    (Instr.sliceAt t (.slice A len cap) lv hv mv).run P c.w = .ok (.slice (if (m.getD cap).toNat = (l.getD 0).toNat then A else A.map (·.add ((l.getD 0).toNat * sz))) ((h.getD len).toNat - (l.getD 0).toNat) ((m.getD cap).toNat - (l.getD 0).toNat)) c.w := by
  have hb := run_sliceBounds (P := P) (c := c) (sl := true) (len := len) (cap := cap) el eh em hl0 hlh hhm hm hmh
  simp [Instr.sliceAt, run_underlying hu, Instr.slice, hb, run_sizeAt hsz]

theorem rel_sliceD {t e : TypeId} {sz : Nat} (hu : P.underlying t = some (.slice e)) (hsz : sizeAt P e = some sz) {t' : Ty} {xs : List (El t')} (hs : t'.size = sz) {A : Option Addr} {cap : Nat} (hcap : xs.length ≤ cap)
    (hrow : RowAt c.w c.ok (RepE c.w c.ok t') t'.size A xs) {lv hv mv : Option Value} {l h m : Option Int} (el : BV lv l) (eh : BV hv h) (em : BV mv m) {z : CV} (hz : (sliceD t' xs (l.getD 0) h m).run1 c.mem = some z) :
    ∃ v, (Instr.sliceAt t (.slice A xs.length cap) lv hv mv).run P c.w = .ok v c.w ∧ c.C z v := by
  unfold sliceD at hz
  subst hs
  cases m with
  | none =>
    simp only [Rd.run1_guard, Rd.run1_ret] at hz
    cases hg : (decide (0 ≤ l.getD 0) && decide (l.getD 0 ≤ h.getD xs.length) && decide (h.getD xs.length ≤ xs.length)) <;> rw [hg] at hz <;> simp at hz
    subst hz
    simp at hg
    obtain ⟨⟨h0, h1⟩, h2⟩ := hg
    refine ⟨_, run_slice hu hsz el eh em h0 h1 (by simp; omega) (by simp) (by simp), ?_⟩
    simp only [Option.getD_none, Int.toNat_natCast]
    have hd := row_drop (l := (l.getD 0).toNat) (h := (h.getD xs.length).toNat) (c := cap) hrow (by omega) (by omega) hcap
    have hlen : ((xs.take (h.getD xs.length).toNat).drop (l.getD 0).toNat).length = (h.getD xs.length).toNat - (l.getD 0).toNat := by simp; omega
    rw [← hlen]
    exact .slc _ _ _ _ (by rw [hlen]; omega) hd
  | some m =>
    cases h with
    | none => simp [Rd.run1] at hz
    | some h =>
      simp only [Rd.run1_guard, Rd.run1_ret] at hz
      cases hg : (decide (0 ≤ l.getD 0) && decide (l.getD 0 ≤ h) && decide (h = m) && decide (m ≤ xs.length)) <;> rw [hg] at hz <;> simp at hz
      subst hz
      simp at hg
      obtain ⟨⟨⟨h0, h1⟩, rfl⟩, h2⟩ := hg
      refine ⟨_, run_slice hu hsz el eh em h0 h1 (by simp) (by simp; omega) (by simp), ?_⟩
      simp only [Option.getD_some]
      have hlen : ((xs.take h.toNat).drop (l.getD 0).toNat).length = h.toNat - (l.getD 0).toNat := by simp; omega
      rw [← hlen]
      refine .clp _ _ _ ?_
      rcases hrow with rfl | ⟨b, o, rfl, hb, hr⟩
      · exact .inl (by simp)
      · by_cases hcl : h.toNat = (l.getD 0).toNat
        · exact .inl (by rw [List.drop_eq_nil_iff]; simp; omega)
        · have := row_drop (w := c.w) (ok := c.ok) (R := RepE c.w c.ok t') (size := t'.size) (l := (l.getD 0).toNat) (h := h.toNat) (c := xs.length) (A := some ⟨b, o, none⟩) (xs := xs) (.inr ⟨b, o, rfl, hb, hr⟩) (by omega) (by omega) (Nat.le_refl _)
          rw [if_neg (by omega)] at this
          rw [if_neg hcl]
          exact this

theorem rel_sliceS {t : TypeId} (hu : P.underlying t = some .string) {s : ByteArray} {lv hv mv : Option Value} {l h m : Option Int} (el : BV lv l) (eh : BV hv h) (em : BV mv m) {z : CV} (hz : (sliceS s (l.getD 0) h m).run1 c.mem = some z) :
    ∃ v, (Instr.sliceAt t (.string s) lv hv mv).run P c.w = .ok v c.w ∧ c.C z v := by
  unfold sliceS at hz
  cases m with
  | some m => simp [Rd.run1] at hz
  | none =>
    simp only [Rd.run1_guard, Rd.run1_ret] at hz
    cases hg : (decide (0 ≤ l.getD 0) && decide (l.getD 0 ≤ h.getD s.size) && decide (h.getD s.size ≤ s.size)) <;> rw [hg] at hz <;> simp at hz
    subst hz
    simp at hg
    obtain ⟨⟨h0, h1⟩, h2⟩ := hg
    have em' : mv = none := by cases mv <;> simp_all [BV]
    subst em'
    have hb := run_sliceBounds (P := P) (c := c) (sl := false) (len := s.size) (cap := s.size) el eh em h0 h1 (by simp; omega) (by simp) (by simp)
    exact ⟨_, by simp [Instr.sliceAt, run_underlying hu, Instr.slice, hb], .str _⟩

theorem rel_sliceC (ho : c.objs) {t e : TypeId} {sz : Nat} (hu : P.underlying t = some (.slice e)) (hsz : sizeAt P e = some sz) {x z : CV} {a : Value} {lv hv mv : Option Value} {l h m : Option Int} (el : BV lv l) (eh : BV hv h) (em : BV mv m)
    (hz : (sliceC sz x (l.getD 0) h m).run1 c.mem = some z) (ha : c.C x a) :
    ∃ v, (Instr.sliceAt t a lv hv mv).run P c.w = .ok v c.w ∧ c.C z v := by
  cases x <;> simp only [sliceC, Rd.run1_fail] at hz <;> try (cases hz; done)
  case slc t' xs =>
    cases hs : (t'.size == sz) <;> rw [hs] at hz <;> simp only [cond, Rd.run1_fail] at hz
    · cases hz
    obtain ⟨A, cp, rfl, hle, hrow⟩ : ∃ A cp, a = .slice A xs.length cp ∧ xs.length ≤ cp ∧ RowAt c.w c.ok (RepE c.w c.ok t') t'.size A xs := by cases ha; exact ⟨_, _, rfl, by assumption, by assumption⟩
    exact rel_sliceD hu hsz (by simpa using hs) hle hrow el eh em hz
  case clp t' xs =>
    cases hs : (t'.size == sz) <;> rw [hs] at hz <;> simp only [cond, Rd.run1_fail] at hz
    · cases hz
    obtain ⟨A, rfl, hrow⟩ : ∃ A, a = .slice A xs.length xs.length ∧ RowAt c.w c.ok (RepE c.w c.ok t') t'.size A xs := by cases ha; exact ⟨_, rfl, by assumption⟩
    exact rel_sliceD hu hsz (by simpa using hs) (Nat.le_refl _) hrow el eh em hz
  case nils t' =>
    cases ha
    cases hb : (m.isSome && !h.isSome) <;> rw [hb] at hz <;> simp only [cond, Rd.run1_fail] at hz
    · simp only [Rd.run1_guard, Rd.run1_ret] at hz
      cases hg : (decide (l.getD 0 = 0) && decide (h.getD 0 = 0) && decide (m.getD 0 = 0)) <;> rw [hg] at hz <;> simp at hz
      subst hz
      simp at hg
      obtain ⟨⟨h0, h1⟩, h2⟩ := hg
      have hz : ((0 : Nat) : Int) = 0 := rfl
      have := run_slice (c := c) hu hsz (A := none) (len := 0) (cap := 0) el eh em (by omega) (by rw [hz]; omega) (by rw [hz]; omega) (by rw [hz]; omega) (by
        intro hm
        cases h with
        | none => simp [hm] at hb
        | some _ => rfl)
      rw [hz, h0, h1, h2] at this
      exact ⟨_, this, by simpa using RelC.nils t'⟩
    · cases hz
  case osl j =>
    obtain ⟨hj, hv'⟩ : c.al j ∧ (c.kd j ≠ .none → a = c.β j) := by cases ha; exact ⟨by assumption, by assumption⟩
    have hob := ho j
    simp only [Rd.run1_get] at hz
    cases hm : c.mem.getD j .dead <;> rw [hm] at hz hob <;> simp only [Rd.run1_fail] at hz <;> try (cases hz; done)
    · rename_i t' xs
      have hkd : c.kd j = .row t' := by show (c.mem.getD j .dead).kd = _; rw [hm]; rfl
      cases hs : (t'.size == sz && !m.isSome) <;> rw [hs] at hz <;> simp only [cond, Rd.run1_fail] at hz
      · cases hz
      simp at hs
      obtain ⟨hs, rfl⟩ := hs
      simp only [Rd.run1_guard, Rd.run1_ret] at hz
      cases hg : (decide (0 ≤ l.getD 0) && decide (l.getD 0 ≤ h.getD xs.length) && decide (h.getD xs.length ≤ xs.length)) <;> rw [hg] at hz <;> simp at hz
      subst hz
      simp at hg
      obtain ⟨⟨h0, h1⟩, h2⟩ := hg
      obtain ⟨A, cp, hb, hob⟩ := hob
      rw [hv' (by rw [hkd]; simp), hb]
      have hle : xs.length ≤ cp := by rcases hob with ⟨rfl, rfl⟩ | ⟨_, _, _, _, _, _, _, h, _⟩ <;> simp_all
      refine ⟨_, run_slice hu hsz el eh em h0 h1 (by simp; omega) (by simp) (by simp), ?_⟩
      simp only [Option.getD_none, Int.toNat_natCast]
      rw [show (h.getD xs.length).toNat - (l.getD 0).toNat = (h.getD xs.length - l.getD 0).toNat by omega]
      refine .ovw _ _ _ _ hj (fun t2 h2 => ?_) rfl
      rw [hkd] at h2; cases h2
      refine ⟨A, _, cp, _, hb, rfl, by omega, fun b o hA hne => ?_⟩
      rw [if_neg (by omega), hA, hs]
      simp [addr_add]
    · rename_i t' xs
      have hkd : c.kd j = .row t' := by show (c.mem.getD j .dead).kd = _; rw [hm]; rfl
      cases hs : (t'.size == sz) <;> rw [hs] at hz <;> simp only [cond, Rd.run1_fail] at hz
      · cases hz
      obtain ⟨A, cp, hb, hle, hrow⟩ := hob
      simp at hb
      rw [hv' (by rw [hkd]; simp), hb]
      exact rel_sliceD hu hsz (by simpa using hs) hle hrow el eh em hz
  case ovw j of n =>
    obtain ⟨hj, hv'⟩ : c.al j ∧ (∀ t, c.kd j = .row t → ∃ A n' cp A', c.β j = .slice A n' cp ∧ a = .slice A' n (cp - of) ∧ of + n ≤ cp ∧ (∀ b o, A = some ⟨b, o, none⟩ → cp ≠ of → A' = some ⟨b, o + of * t.size, none⟩)) := by
      cases ha; exact ⟨by assumption, by assumption⟩
    simp only [Rd.run1_get] at hz
    cases hm : c.mem.getD j .dead <;> rw [hm] at hz <;> simp only [Rd.run1_fail] at hz <;> try (cases hz; done)
    · rename_i t' xs
      have hkd : c.kd j = .row t' := by show (c.mem.getD j .dead).kd = _; rw [hm]; rfl
      cases hs : (t'.size == sz && !m.isSome) <;> rw [hs] at hz <;> simp only [cond, Rd.run1_fail] at hz
      · cases hz
      simp at hs
      obtain ⟨hs, rfl⟩ := hs
      simp only [Rd.run1_guard, Rd.run1_ret] at hz
      cases hg : (decide (0 ≤ l.getD 0) && decide (l.getD 0 ≤ h.getD n) && decide (h.getD n ≤ n)) <;> rw [hg] at hz <;> simp at hz
      subst hz
      simp at hg
      obtain ⟨⟨h0, h1⟩, h2⟩ := hg
      obtain ⟨A, n', cp, A', hb, rfl, hle, hA⟩ := hv' t' hkd
      refine ⟨_, run_slice hu hsz el eh em h0 h1 (by simp; omega) (by simp) (by simp), ?_⟩
      simp only [Option.getD_none, Int.toNat_natCast]
      rw [show (h.getD n).toNat - (l.getD 0).toNat = (h.getD n - l.getD 0).toNat by omega, Nat.sub_sub]
      refine .ovw _ _ _ _ hj (fun t2 h2 => ?_) rfl
      rw [hkd] at h2; cases h2
      refine ⟨A, n', cp, _, hb, rfl, by omega, fun b o hA' hne => ?_⟩
      rw [if_neg (by omega), hA b o hA' (by omega), hs]
      simp [addr_add, Nat.add_mul, Nat.add_assoc]
    · rename_i t' xs
      have hkd : c.kd j = .row t' := by show (c.mem.getD j .dead).kd = _; rw [hm]; rfl
      cases hs : (t'.size == sz && !m.isSome) <;> rw [hs] at hz <;> simp only [cond, Rd.run1_fail] at hz
      · cases hz
      simp at hs
      obtain ⟨hs, rfl⟩ := hs
      simp only [Rd.run1_guard, Rd.run1_ret] at hz
      cases hg : (decide (0 ≤ l.getD 0) && decide (l.getD 0 ≤ h.getD n) && decide (of + h.getD n ≤ xs.length)) <;> rw [hg] at hz <;> simp at hz
      subst hz
      simp at hg
      obtain ⟨⟨h0, h1⟩, h2⟩ := hg
      obtain ⟨A, n', cp, A', hb, rfl, hle, hA⟩ := hv' t' hkd
      have hob := ho j
      rw [hm] at hob
      obtain ⟨A2, hb2, _⟩ := hob
      rw [hb] at hb2
      cases hb2
      refine ⟨_, run_slice hu hsz el eh em h0 h1 (by simp; omega) (by simp) (by simp), ?_⟩
      simp only [Option.getD_none, Int.toNat_natCast]
      rw [show (h.getD n).toNat - (l.getD 0).toNat = (h.getD n - l.getD 0).toNat by omega, Nat.sub_sub]
      refine .ovw _ _ _ _ hj (fun t2 h2 => ?_) rfl
      rw [hkd] at h2; cases h2
      refine ⟨A, _, _, _, hb, rfl, by omega, fun b o hA' hne => ?_⟩
      rw [if_neg (by omega), hA b o hA' (by omega), hs]
      simp [addr_add, Nat.add_mul, Nat.add_assoc]
end
end Go.Sk

/- How a state changes: the one lemma on updates, and the operations that make or write memory. -/
set_option linter.unusedSimpArgs false
set_option linter.unusedVariables false
namespace Go.Sk
open Go

@[reducible] def own (mem : List Obj) (β : Nat → Value) (i : Nat) : Option Nat := ownB (mem.getD i .dead) (β i)

theorem ObjRel.mono {w : World} {ok : Nat → Prop} {rd : Nat → Prop} {β : Nat → Value} {kd : Nat → KD} {al : Nat → Prop} {w' : World} {ok' : Nat → Prop} {β' : Nat → Value} {kd' : Nat → KD} {al' : Nat → Prop}
    (e : Ext w ok rd β kd al w' ok' β' kd' al') {i : Nat} {o : Obj} (hb : β' i = β i) (ho : ∀ b, ownB o (β i) = some b → w'.heap[b]? = w.heap[b]?) (h : ObjRel w ok rd β kd al i o) : ObjRel w' ok' rd β' kd' al' i o := by
  cases o with
  | dead => trivial
  | cells cs =>
    obtain ⟨b, us, T, e1, hh, hl, hsf⟩ := h
    exact ⟨b, us, T, by rw [hb, e1], by rw [ho b (by rw [e1]; rfl)]; exact hh, hl.mono e, hsf⟩
  | row t xs =>
    obtain ⟨A, c, e1, h⟩ := h
    refine ⟨A, c, by rw [hb, e1], ?_⟩
    rcases h with h | ⟨b, o, arr, T, rfl, hh, h0, h1, h2, h3⟩
    · exact .inl h
    · refine .inr ⟨b, o, arr, T, rfl, ?_, h0, h1, h2, h3.mono e.cells e.ok⟩
      rw [ho b (by rw [e1]; simp [ownB]; omega)]; exact hh
  | frz t xs =>
    show RepE w' ok' (.slice t) xs [β' i]
    rw [hb]
    exact RepE.mono e.cells e.ok h
  | full t xs =>
    obtain ⟨A, e1, h⟩ := h
    refine ⟨A, by rw [hb, e1], ?_⟩
    rcases h with h | ⟨b, o, arr, T, rfl, hh, h2, h3⟩
    · exact .inl h
    · by_cases hx : xs = []
      · exact .inl hx
      · have hne : xs.length ≠ 0 := fun hl => hx (List.eq_nil_of_length_eq_zero hl)
        refine .inr ⟨b, o, arr, T, rfl, ?_, h2, h3.mono e.cells e.ok⟩
        rw [ho b (by rw [e1]; simp [ownB, hne])]; exact hh
  | ghost cs =>
    obtain ⟨us, e1, h⟩ := h
    exact ⟨us, by rw [hb, e1], h.mono e⟩
  | map kt vt g es tidy =>
    obtain ⟨r, arr, clock, e1, hh, h⟩ := h
    exact ⟨r, arr, clock, by rw [hb, e1], by rw [ho r (by rw [e1]; rfl)]; exact hh, h.mono e.cells e.ok⟩

theorem Inv.update {X : Fr} {env : List V} {mem : List Obj} {al : Nat → Prop} {tmps : Array Value} {w : World} {β : Nat → Value} {ok : Nat → Prop} (h : Inv X env mem al tmps w β ok)
    {mem' : List Obj} {al' : Nat → Prop} {w' : World} {β' : Nat → Value} {ok' : Nat → Prop} (S : Nat → Prop)
    (hal : ∀ i, al i → al' i) (hlen : ∀ i, S i → kds mem' i ≠ .none → al' i)
    (hm : ∀ i, ¬ S i → mem'.getD i .dead = mem.getD i .dead) (hβ : ∀ i, ¬ S i → β' i = β i)
    (hS : ∀ i, S i → al i → (kds mem' i = kds mem i ∧ β' i = β i) ∨ kds mem' i = .none)
    (hng : ∀ i, S i → kds mem' i = .ghost → kds mem i = .ghost ∧ β' i = β i)
    (hheap : ∀ b, b < w.heap.size → (∀ i, S i → own mem β i ≠ some b) → w'.heap[b]? = w.heap[b]?) (hgrow : w.heap.size ≤ w'.heap.size)
    (hok : ∀ b, ok b → ok' b) (hok' : ∀ b, ok' b → ok b ∨ (∃ i, S i ∧ own mem β i = some b) ∨ (w.heap.size ≤ b ∧ b < w'.heap.size))
    (hnew : Ext w ok X.rd β (kds mem) al w' ok' β' (kds mem') al' → ∀ i, S i → ObjRel w' ok' X.rd β' (kds mem') al' i (mem'.getD i .dead))
    (hown : ∀ i b, S i → own mem' β' i = some b → (∃ j, S j ∧ own mem β j = some b) ∨ w.heap.size ≤ b)
    (hinj : ∀ i j b, S i → S j → own mem' β' i = some b → own mem' β' j = some b → i = j)
    (hap : ∀ i b, S i → own mem' β' i = some b → ¬ ok' b)
    (os : w'.os = w.os) (out : w'.output = w.output) (tape : w'.tape = w.tape) :
    Ext w ok X.rd β (kds mem) al w' ok' β' (kds mem') al' ∧ Inv X env mem' al' tmps w' β' ok' := by
  have hbS : ∀ i j b, ¬ S i → S j → own mem β i = some b → own mem β j ≠ some b := fun i j b hi hj h1 h2 => hi (by rw [h.inj i j b h1 h2]; exact hj)
  have ext : Ext w ok X.rd β (kds mem) al w' ok' β' (kds mem') al' := by
    refine ⟨fun b hb => hheap b (h.okLt b hb) fun i _ h2 => h.apart i b h2 hb, fun b hb => hheap b (by have := h.rdLt b hb; have := h.grow; omega) fun i _ h2 => h.apartR i b h2 hb, hok, fun i hi => ?_, fun i hi hk => ?_, hal⟩
    · by_cases hs : S i
      · exact (hS i hs hi).imp (·.1) id
      · left; show (mem'.getD i .dead).kd = _; rw [hm i hs]
    · by_cases hs : S i
      · rcases hS i hs hi with h1 | h1
        · exact h1.2
        · exact absurd h1 hk
      · exact hβ i hs
  have ownN : ∀ i, ¬ S i → own mem' β' i = own mem β i := fun i hi => by unfold own; rw [hm i hi, hβ i hi]
  have lt : ∀ i b, own mem β i = some b → b < w.heap.size := fun i b hb => ownB_lt (h.obj i) hb
  refine ⟨ext, ?_⟩
  exact {
    size := h.size
    env := fun t v ht => (h.env t v ht).mono ext
    obj := fun i => by
      by_cases hs : S i
      · exact hnew ext i hs
      · have := ObjRel.mono ext (hβ i hs) (fun b hb => hheap b (lt i b hb) fun j hj => hbS i j b hs hj hb) (h.obj i)
        rw [hm i hs]; exact this
    len := fun i hi => by
      by_cases hs : S i
      · exact hlen i hs hi
      · exact hal i (h.len i (by rwa [hm i hs] at hi))
    inj := fun i j b h1 h2 => by
      by_cases hs : S i <;> by_cases ht : S j
      · exact hinj i j b hs ht h1 h2
      · have h2' : own mem β j = some b := by rw [← ownN j ht]; exact h2
        rcases hown i b hs h1 with ⟨k, hk, hk'⟩ | hk
        · exact absurd hk' (hbS j k b ht hk h2')
        · have := lt j b h2'; omega
      · have h1' : own mem β i = some b := by rw [← ownN i hs]; exact h1
        rcases hown j b ht h2 with ⟨k, hk, hk'⟩ | hk
        · exact absurd hk' (hbS i k b hs hk h1')
        · have := lt i b h1'; omega
      · exact h.inj i j b (by have := ownN i hs; unfold own at this; rw [← this]; exact h1) (by have := ownN j ht; unfold own at this; rw [← this]; exact h2)
    apart := fun i b h1 h2 => by
      by_cases hs : S i
      · exact hap i b hs h1 h2
      · have h1' : own mem β i = some b := by rw [← ownN i hs]; exact h1
        rcases hok' b h2 with h3 | ⟨j, hj, h3⟩ | h3
        · exact h.apart i b h1' h3
        · exact hbS i j b hs hj h1' h3
        · have := lt i b h1'; omega
    apartR := fun i b h1 h2 => by
      by_cases hs : S i
      · rcases hown i b hs h1 with ⟨k, hk, hk'⟩ | hk
        · exact h.apartR k b hk' h2
        · have := h.rdLt b h2; have := h.grow; omega
      · exact h.apartR i b (by have := ownN i hs; unfold own at this; rw [← this]; exact h1) h2
    gh := fun i hg => by
      by_cases hs : S i
      · obtain ⟨h1, h2⟩ := hng i hs hg
        rw [h2]; exact h.gh i h1
      · rw [hβ i hs]
        exact h.gh i (by rwa [show kds mem' i = kds mem i by show (mem'.getD i .dead).kd = _; rw [hm i hs]] at hg)
    rdLt := h.rdLt
    okLt := fun b hb => by
      rcases hok' b hb with h3 | ⟨j, hj, h3⟩ | h3
      · have := h.okLt b h3; omega
      · have := lt j b h3; omega
      · exact h3.2
    okOld := fun b hb hlt => by
      rcases hok' b hb with h3 | ⟨j, hj, h3⟩ | h3
      · exact h.okOld b h3 hlt
      · exact .inr (h.ownOld j b h3 hlt)
      · have := h.grow; omega
    ownOld := fun i b hb hlt => by
      by_cases hs : S i
      · rcases hown i b hs hb with ⟨k, hk, hk'⟩ | hk
        · exact h.ownOld k b hk' hlt
        · have := h.grow; omega
      · exact h.ownOld i b (by have := ownN i hs; unfold own at this; rw [← this]; exact hb) hlt
    keep := fun b hb hno => by
      rw [hheap b (by have := h.grow; omega) fun i _ h2 => hno (h.ownOld i b h2 hb)]
      exact h.keep b hb hno
    grow := Nat.le_trans h.grow hgrow
    os := os.trans h.os
    out := out.trans h.out
    tape := tape.trans h.tape }

theorem Inv.put {X : Fr} {env : List V} {mem : List Obj} {al : Nat → Prop} {tmps : Array Value} {w : World} {β : Nat → Value} {ok : Nat → Prop} (h : Inv X env mem al tmps w β ok)
    (t : Nat) {v : V} {cv : Value} (hv : RelV w ok X.rd β (kds mem) al v cv) : Inv X (env.set t v) mem al (tmps.setIfInBounds t cv) w β ok :=
  { h with
    size := by simp [h.size]
    env := fun i u hi => by
      have hsz := h.size
      rw [List.getElem?_set] at hi
      split at hi
      · rename_i hti
        subst hti
        split at hi
        · rename_i hlt
          simp at hi; subst hi
          have : (tmps.setIfInBounds t cv).getD t undef = cv := by simp [Array.getD_eq_getD_getElem?, hsz, hlt]
          rw [this]; exact hv
        · cases hi
      · rename_i hti
        have : (tmps.setIfInBounds t cv).getD i undef = tmps.getD i undef := by simp [Array.getD_eq_getD_getElem?, Array.getElem?_setIfInBounds, hti]
        rw [this]; exact h.env i u hi }

/-- the world may have drawn -/
theorem Inv.heap {X : Fr} {env : List V} {mem : List Obj} {al : Nat → Prop} {tmps : Array Value} {w w' : World} {β : Nat → Value} {ok : Nat → Prop} (h : Inv X env mem al tmps w β ok)
    (hh : w'.heap = w.heap) (os : w'.os = w.os) (out : w'.output = w.output) (tape : w'.tape = w.tape) : Inv X env mem al tmps w' β ok :=
  (h.update (mem' := mem) (al' := al) (β' := β) (ok' := ok) (fun _ => False) (fun _ h => h) (fun _ h => h.elim) (fun _ _ => rfl) (fun _ _ => rfl) (fun _ h => h.elim) (fun _ h => h.elim) (fun b _ _ => by rw [hh]) (by rw [hh]; exact Nat.le_refl _)
    (fun _ h => h) (fun _ h => .inl h) (fun _ _ h => h.elim) (fun _ _ h => h.elim) (fun _ _ _ h => h.elim) (fun _ _ h => h.elim) os out tape).2

/-! ### the store of objects, by number -/
theorem wr_getD : ∀ (m : List Obj) (i : Nat) (o : Obj) (j : Nat), (wr m i o).getD j .dead = if j = i then o else m.getD j .dead
  | [], 0, o, j => by cases j <;> simp [wr]
  | [], i + 1, o, j => by
    cases j with
    | zero => simp [wr]
    | succ j => simp only [wr, List.getD_cons_succ, wr_getD [] i o j]; simp
  | x :: r, 0, o, j => by cases j <;> simp [wr]
  | x :: r, i + 1, o, j => by
    cases j with
    | zero => simp [wr]
    | succ j => simp only [wr, List.getD_cons_succ, wr_getD r i o j]; simp

/-! ### a new variable -/
section
variable {X : Fr} {env : List V} {mem : List Obj} {al : Nat → Prop} {tmps : Array Value} {w : World} {β : Nat → Value} {ok : Nat → Prop}
def setβ (β : Nat → Value) (i : Nat) (v : Value) : Nat → Value := fun j => if j = i then v else β j
theorem setβ_same (β : Nat → Value) (i : Nat) (v : Value) : setβ β i v i = v := by simp [setβ]
theorem setβ_other (β : Nat → Value) {i j : Nat} (v : Value) (h : j ≠ i) : setβ β i v j = β j := by simp [setβ, h]
theorem heap_alloc_old (w : World) (o : Go.Obj) {b : Nat} (h : b < w.heap.size) : (w.alloc o).heap[b]? = w.heap[b]? := by
  show (w.heap.push o)[b]? = _
  rw [Array.getElem?_push, if_neg (by omega)]
theorem heap_alloc_at (w : World) (o : Go.Obj) : (w.alloc o).heap[w.heap.size]? = some o := by
  show (w.heap.push o)[w.heap.size]? = _
  simp
theorem size_alloc (w : World) (o : Go.Obj) : (w.alloc o).heap.size = w.heap.size + 1 := by
  show (w.heap.push o).size = _
  simp

theorem Inv.newCells (h : Inv X env mem al tmps w β ok) {id : Nat} (hid : ¬ al id) {cs : List CV} {us : List Value} (hl : RelL w ok X.rd β (kds mem) al cs us) (T : TypeId) (hsf : Self cs us w.heap.size T) :
    let w' := w.alloc (.cells us.toArray T)
    let β' := setβ β id (.pointer (some ⟨w.heap.size, 0, none⟩))
    let al' := fun i => al i ∨ i = id
    Inv X env (wr mem id (.cells cs)) al' tmps w' β' ok ∧ RelC w' ok X.rd β' (kds (wr mem id (.cells cs))) al' (.ptr id 0) (.pointer (some ⟨w.heap.size, 0, none⟩)) := by
  intro w' β' al'
  have hd : mem.getD id .dead = .dead := by
    cases hm : mem.getD id .dead with
    | dead => rfl
    | _ => exact absurd (h.len id (by rw [hm]; simp [Obj.kd])) hid
  have hkd : kds (wr mem id (.cells cs)) id = .cells := by show ((wr mem id (.cells cs)).getD id .dead).kd = _; rw [wr_getD]; simp [Obj.kd]
  have key := h.update (mem' := wr mem id (.cells cs)) (al' := al') (w' := w') (β' := β') (ok' := ok) (fun i => i = id) (fun i hi => .inl hi) (fun i hi _ => .inr hi)
    (fun i hi => by rw [wr_getD, if_neg hi]) (fun i hi => setβ_other _ _ hi) (fun i hi ha => absurd (by rw [← hi]; exact ha) hid) (fun i hi hg => by subst hi; rw [hkd] at hg; cases hg)
    (fun b hb _ => heap_alloc_old _ _ hb) (by rw [size_alloc]; omega) (fun _ h => h) (fun _ h => .inl h)
    (fun ext i hi => by
      subst hi
      rw [wr_getD, if_pos rfl]
      exact ⟨w.heap.size, us, T, setβ_same _ _ _, heap_alloc_at _ _, hl.mono ext, hsf⟩)
    (fun i b hi hb => by
      subst hi
      simp only [own, wr_getD, if_true, β', setβ_same, ownB, Option.some.injEq] at hb
      exact .inr (by omega))
    (fun i j b hi hj _ _ => by rw [hi, hj])
    (fun i b hi hb hok => by
      subst hi
      simp only [own, wr_getD, if_true, β', setβ_same, ownB, Option.some.injEq] at hb
      have := h.okLt b hok
      omega) rfl rfl rfl
  exact ⟨key.2, .ptr _ _ _ (.inr rfl) (fun _ => ⟨_, setβ_same _ _ _, rfl⟩) rfl⟩

/-! ### rows -/
/-- the cells of rows, one behind the other -/
theorem cells_of_rows {α : Type} {R : α → List Value → Prop} {size : Nat} : ∀ (xs : List α) (rd : Nat → Option Value),
    (∀ k x, xs[k]? = some x → ∃ us, us.length = size ∧ R x us ∧ ∀ j u, us[j]? = some u → rd (k * size + j) = some u) →
    ∃ news : List Value, news.length = xs.length * size ∧ (∀ (i : Nat) u, news[i]? = some u → rd i = some u) ∧
      (∀ k x, xs[k]? = some x → ∃ us, us.length = size ∧ R x us ∧ ∀ j u, us[j]? = some u → news[k * size + j]? = some u) ∧ (∀ u ∈ news, ∃ x us, R x us ∧ u ∈ us)
  | [], rd, _ => ⟨[], by simp, by simp, by simp, by simp⟩
  | x :: r, rd, h => by
    obtain ⟨us, hl, hR, hu⟩ := h 0 x rfl
    obtain ⟨news, h1, h2, h3, h4⟩ := cells_of_rows r (fun i => rd (size + i)) (fun k y hk => by
      obtain ⟨us, hl, hR, hu⟩ := h (k + 1) y (by simpa using hk)
      exact ⟨us, hl, hR, fun j u hj => by have := hu j u hj; rw [Nat.add_mul, Nat.one_mul] at this; rw [← this]; congr 1; omega⟩)
    refine ⟨us ++ news, by simp [h1, hl, Nat.add_mul, Nat.add_comm], fun i u hi => ?_, fun k y hk => ?_, fun u hu' => ?_⟩
    · by_cases hlt : i < us.length
      · rw [List.getElem?_append_left hlt] at hi
        simpa using hu i u hi
      · have hge : us.length ≤ i := Nat.le_of_not_lt hlt
        rw [List.getElem?_append_right hge] at hi
        have := h2 _ _ hi
        rw [hl] at this
        rw [← this]; congr 1; omega
    · cases k with
      | zero =>
        simp at hk; subst hk
        exact ⟨us, hl, hR, fun j u hj => by
          have : j < us.length := by
            rcases Nat.lt_or_ge j us.length with h | h
            · exact h
            · rw [List.getElem?_eq_none h] at hj; cases hj
          rw [Nat.zero_mul, Nat.zero_add, List.getElem?_append_left this]; exact hj⟩
      | succ k =>
        obtain ⟨vs, hvl, hvR, hv⟩ := h3 k y (by simpa using hk)
        refine ⟨vs, hvl, hvR, fun j u hj => ?_⟩
        rw [List.getElem?_append_right (by rw [hl, Nat.add_mul, Nat.one_mul]; omega), hl]
        have := hv j u hj
        rw [← this]; congr 1; rw [Nat.add_mul, Nat.one_mul]; omega
    · rcases List.mem_append.1 hu' with h5 | h5
      · exact ⟨x, us, hR, h5⟩
      · exact h4 u h5

/-- the elements ys stand as the cells news -/
structure Cells (w : World) (ok : Nat → Prop) (t : Ty) (ys : List (El t)) (news : List Value) : Prop where
  length : news.length = ys.length * t.size
  at_ : ∀ k x, ys[k]? = some x → ∃ us, us.length = t.size ∧ RepE w ok t x us ∧ ∀ j u, us[j]? = some u → news[k * t.size + j]? = some u
  one : ∀ u ∈ news, u.oneCell' = true
theorem Cells.mono {w' : World} {ok' : Nat → Prop} {t : Ty} {ys : List (El t)} {news : List Value} (hc : ∀ b, ok b → w'.heap[b]? = w.heap[b]?) (ho : ∀ b, ok b → ok' b) (h : Cells w ok t ys news) : Cells w' ok' t ys news :=
  ⟨h.length, fun k x hk => let ⟨us, hl, hr, hu⟩ := h.at_ k x hk; ⟨us, hl, RepE.mono hc ho hr, hu⟩, h.one⟩
theorem Cells.append {t : Ty} {xs ys : List (El t)} {us vs : List Value} (h : Cells w ok t xs us) (g : Cells w ok t ys vs) : Cells w ok t (xs ++ ys) (us ++ vs) := by
  refine ⟨by rw [List.length_append, List.length_append, Nat.add_mul, h.length, g.length], fun k x hk => ?_, fun u hu => ?_⟩
  · by_cases hlt : k < xs.length
    · rw [List.getElem?_append_left hlt] at hk
      obtain ⟨a, hl, hr, ha⟩ := h.at_ k x hk
      refine ⟨a, hl, hr, fun j u hj => ?_⟩
      have hj' : j < t.size := by
        rcases Nat.lt_or_ge j a.length with h | h
        · omega
        · rw [List.getElem?_eq_none h] at hj; cases hj
      have : k * t.size + j < us.length := by
        rw [h.length]
        have : (k + 1) * t.size ≤ xs.length * t.size := Nat.mul_le_mul_right _ hlt
        rw [Nat.add_mul, Nat.one_mul] at this
        omega
      rw [List.getElem?_append_left this]; exact ha j u hj
    · have hge : xs.length ≤ k := Nat.le_of_not_lt hlt
      rw [List.getElem?_append_right hge] at hk
      obtain ⟨a, hl, hr, ha⟩ := g.at_ _ x hk
      refine ⟨a, hl, hr, fun j u hj => ?_⟩
      have hmul : xs.length * t.size ≤ k * t.size := Nat.mul_le_mul_right _ hge
      rw [List.getElem?_append_right (by rw [h.length]; omega), h.length]
      have := ha j u hj
      rw [Nat.sub_mul] at this
      rw [← this]; congr 1; omega
  · rcases List.mem_append.1 hu with h1 | h1
    · exact h.one u h1
    · exact g.one u h1

/-- a new row; the objects of D are given up -/
theorem Inv.newRow (h : Inv X env mem al tmps w β ok) {id : Nat} (hid : ¬ al id) {t : Ty} {xs : List (El t)} {arr : Array Value} {c : Nat} {T : RowT t} {w1 : World} (hw1 : w1.heap = w.heap) (os : w1.os = w.os) (out : w1.output = w.output) (tape : w1.tape = w.tape)
    (D : Nat → Bool) (hD : ∀ i, D i = true → al i)
    {news : List Value} (hn : Cells w ok t xs news) (ha : ∀ (i : Nat) u, news[i]? = some u → arr[i]? = some u) (hc : xs.length ≤ c) (h0 : 0 < c) (hsz : c * t.size ≤ arr.size)
    (hsp : ∃ sp : List (El t), xs.length + sp.length = c ∧ ∀ (k : Nat) x, sp[k]? = some x → ∃ us, us.length = t.size ∧ RepE w ok t x us ∧ ∀ (j : Nat) u, us[j]? = some u → arr[(xs.length + k) * t.size + j]? = some u)
    {mem' : List Obj} (hm : ∀ i, mem'.getD i .dead = if i = id then .row t xs else if D i = true then .dead else mem.getD i .dead) :
    let w' := w1.alloc (.cells arr T.1)
    let β' := setβ β id (.slice (some ⟨w.heap.size, 0, none⟩) xs.length c)
    let al' := fun i => al i ∨ i = id
    Inv X env mem' al' tmps w' β' ok ∧ RelC w' ok X.rd β' (kds mem') al' (.osl id) (.slice (some ⟨w.heap.size, 0, none⟩) xs.length c) := by
  intro w' β' al'
  have hsz1 : w1.heap.size = w.heap.size := by rw [hw1]
  have hidm : mem'.getD id .dead = .row t xs := by rw [hm, if_pos rfl]
  have hDm : ∀ i, i ≠ id → D i = true → mem'.getD i .dead = .dead := fun i h1 h2 => by rw [hm, if_neg h1, if_pos h2]
  have hβid : β' id = .slice (some ⟨w.heap.size, 0, none⟩) xs.length c := setβ_same _ _ _
  have hownid : ∀ b, own mem' β' id = some b → b = w.heap.size := fun b hb => by
    unfold own at hb
    rw [hidm, hβid] at hb
    simp only [ownB] at hb
    rw [if_neg (by omega)] at hb
    simpa using hb.symm
  have hownD : ∀ i b, i ≠ id → D i = true → own mem' β' i ≠ some b := fun i b h1 h2 hb => by
    unfold own at hb
    rw [hDm i h1 h2] at hb
    simp [ownB] at hb
  have key := h.update (mem' := mem') (al' := al') (w' := w') (β' := β') (ok' := ok) (fun i => i = id ∨ D i = true) (fun i hi => .inl hi)
    (fun i hi hk => by
      rcases hi with hi | hi
      · exact .inr hi
      · exact .inl (hD i hi))
    (fun i hi => by
      have h1 : i ≠ id := fun e => hi (.inl e)
      have h2 : ¬ D i = true := fun e => hi (.inr e)
      rw [hm, if_neg h1, if_neg h2])
    (fun i hi => setβ_other _ _ fun e => hi (.inl e))
    (fun i hi ha => by
      rcases hi with hi | hi
      · exact absurd (by rw [← hi]; exact ha) hid
      · by_cases e : i = id
        · exact absurd (by rw [← e]; exact ha) hid
        · right; show (mem'.getD i .dead).kd = _; rw [hDm i e hi]; rfl)
    (fun i hi hg => by
      by_cases e : i = id
      · have : (mem'.getD i .dead).kd = .ghost := hg
        rw [e, hidm] at this; cases this
      · have : (mem'.getD i .dead).kd = .ghost := hg
        rw [hDm i e (hi.resolve_left e)] at this; cases this)
    (fun b hb _ => by rw [show w'.heap[b]? = w1.heap[b]? from heap_alloc_old _ _ (by omega), hw1])
    (by rw [size_alloc]; omega) (fun _ h => h) (fun _ h => .inl h)
    (fun ext i hi => by
      by_cases e : i = id
      · subst e
        rw [hidm]
        refine ⟨some ⟨w.heap.size, 0, none⟩, c, hβid, .inr ⟨w.heap.size, 0, arr, T, rfl, ?_, h0, hc, by omega, lies_of (fun k x hk => ?_) ?_⟩⟩
        · rw [← hsz1]; exact heap_alloc_at _ _
        rotate_left
        · obtain ⟨sp, s1, s2⟩ := hsp
          exact ⟨sp, s1, fun k x hk => let ⟨us, a, b, e⟩ := s2 k x hk; ⟨us, a, RepE.mono ext.cells ext.ok b, fun j u hj => by rw [Nat.zero_add]; exact e j u hj⟩⟩
        · obtain ⟨us, hl, hr, hu⟩ := hn.at_ k x hk
          exact ⟨us, hl, RepE.mono ext.cells ext.ok hr, fun j u hj => by rw [Nat.zero_add]; exact ha _ _ (hu j u hj)⟩
      · rw [hDm i e (hi.resolve_left e)]; trivial)
    (fun i b hi hb => by
      by_cases e : i = id
      · subst e; right; rw [hownid b hb]; exact Nat.le_refl _
      · exact absurd hb (hownD i b e (hi.resolve_left e)))
    (fun i j b hi hj h1 h2 => by
      by_cases e : i = id <;> by_cases e2 : j = id
      · rw [e, e2]
      · exact absurd h2 (hownD j b e2 (hj.resolve_left e2))
      · exact absurd h1 (hownD i b e (hi.resolve_left e))
      · exact absurd h1 (hownD i b e (hi.resolve_left e)))
    (fun i b hi hb hok => by
      by_cases e : i = id
      · subst e
        have := hownid b hb
        have := h.okLt b hok
        omega
      · exact absurd hb (hownD i b e (hi.resolve_left e))) os out tape
  exact ⟨key.2, .osl _ _ (.inr rfl) (fun _ => hβid.symm) rfl⟩

/-- a new row without memory: nil, or what has no capacity -/
theorem Inv.newRow0 (h : Inv X env mem al tmps w β ok) {id : Nat} (hid : ¬ al id) {t : Ty} {A : Option Addr} (D : Nat → Bool) (hD : ∀ i, D i = true → al i)
    {mem' : List Obj} (hm : ∀ i, mem'.getD i .dead = if i = id then .row t [] else if D i = true then .dead else mem.getD i .dead) :
    let β' := setβ β id (.slice A 0 0)
    let al' := fun i => al i ∨ i = id
    Inv X env mem' al' tmps w β' ok ∧ RelC w ok X.rd β' (kds mem') al' (.osl id) (.slice A 0 0) := by
  intro β' al'
  have hidm : mem'.getD id .dead = .row t [] := by rw [hm, if_pos rfl]
  have hDm : ∀ i, i ≠ id → D i = true → mem'.getD i .dead = .dead := fun i h1 h2 => by rw [hm, if_neg h1, if_pos h2]
  have hβid : β' id = .slice A 0 0 := setβ_same _ _ _
  have hno : ∀ i b, (i = id ∨ D i = true) → own mem' β' i ≠ some b := fun i b hi hb => by
    unfold own at hb
    by_cases e : i = id
    · rw [e, hidm, hβid] at hb
      cases A <;> simp [ownB] at hb
    · rw [hDm i e (hi.resolve_left e)] at hb
      simp [ownB] at hb
  have key := h.update (mem' := mem') (al' := al') (w' := w) (β' := β') (ok' := ok) (fun i => i = id ∨ D i = true) (fun i hi => .inl hi)
    (fun i hi hk => by
      rcases hi with hi | hi
      · exact .inr hi
      · exact .inl (hD i hi))
    (fun i hi => by
      have h1 : i ≠ id := fun e => hi (.inl e)
      have h2 : ¬ D i = true := fun e => hi (.inr e)
      rw [hm, if_neg h1, if_neg h2])
    (fun i hi => setβ_other _ _ fun e => hi (.inl e))
    (fun i hi ha => by
      rcases hi with hi | hi
      · exact absurd (by rw [← hi]; exact ha) hid
      · by_cases e : i = id
        · exact absurd (by rw [← e]; exact ha) hid
        · right; show (mem'.getD i .dead).kd = _; rw [hDm i e hi]; rfl)
    (fun i hi hg => by
      by_cases e : i = id
      · have : (mem'.getD i .dead).kd = .ghost := hg
        rw [e, hidm] at this; cases this
      · have : (mem'.getD i .dead).kd = .ghost := hg
        rw [hDm i e (hi.resolve_left e)] at this; cases this)
    (fun b hb _ => rfl) (Nat.le_refl _) (fun _ h => h) (fun _ h => .inl h)
    (fun ext i hi => by
      by_cases e : i = id
      · subst e; rw [hidm]; exact ⟨A, 0, hβid, .inl ⟨rfl, rfl⟩⟩
      · rw [hDm i e (hi.resolve_left e)]; trivial)
    (fun i b hi hb => absurd hb (hno i b hi)) (fun i j b hi hj h1 h2 => absurd h1 (hno i b hi)) (fun i b hi hb => absurd hb (hno i b hi)) rfl rfl rfl
  exact ⟨key.2, .osl _ _ (.inr rfl) (fun _ => hβid.symm) rfl⟩

/-- an owned row goes over into another number, its handle and its elements changed, in the block that it has -/
theorem Inv.moveRow (h : Inv X env mem al tmps w β ok) {i id : Nat} (hid : ¬ al id) {t : Ty} {xs ys : List (El t)} (hi : mem.getD i .dead = .row t xs) {b o c c' : Nat} {arr : Array Value} {T : RowT t} {n : Nat} {w' : World} {arr' : Array Value}
    (hβ : β i = .slice (some ⟨b, o, none⟩) n c) (h0 : 0 < c') (hc : ys.length ≤ c') (hne : c ≠ 0)
    (hheap : ∀ b', b' ≠ b → w'.heap[b']? = w.heap[b']?) (hb : w'.heap[b]? = some (.cells arr' T.1 (0, 0))) (hsize : w'.heap.size = w.heap.size) (os : w'.os = w.os) (out : w'.output = w.output) (tape : w'.tape = w.tape)
    {o' : Nat} {news : List Value} (hn : Cells w ok t ys news) (ha : ∀ (j : Nat) u, news[j]? = some u → arr'[o' + j]? = some u) (hsz : o' + c' * t.size ≤ arr'.size)
    (hsp : ∃ sp : List (El t), ys.length + sp.length = c' ∧ ∀ (k : Nat) x, sp[k]? = some x → ∃ us, us.length = t.size ∧ RepE w ok t x us ∧ ∀ (j : Nat) u, us[j]? = some u → arr'[o' + (ys.length + k) * t.size + j]? = some u)
    {mem' : List Obj} (hm : ∀ j, mem'.getD j .dead = if j = id then .row t ys else if j = i then .dead else mem.getD j .dead) :
    let β' := setβ β id (.slice (some ⟨b, o', none⟩) ys.length c')
    let al' := fun i => al i ∨ i = id
    Inv X env mem' al' tmps w' β' ok ∧ RelC w' ok X.rd β' (kds mem') al' (.osl id) (.slice (some ⟨b, o', none⟩) ys.length c') := by
  intro β' al'
  have hi_al : al i := h.len i (by rw [hi]; simp [Obj.kd])
  have hine : i ≠ id := fun e => hid (e ▸ hi_al)
  have hidm : mem'.getD id .dead = .row t ys := by rw [hm, if_pos rfl]
  have him : mem'.getD i .dead = .dead := by rw [hm, if_neg hine, if_pos rfl]
  have hβid : β' id = .slice (some ⟨b, o', none⟩) ys.length c' := setβ_same _ _ _
  have hold : own mem β i = some b := by unfold own; rw [hi, hβ]; simp [ownB, hne]
  have hownid : ∀ b', own mem' β' id = some b' → b' = b := fun b' hb' => by
    unfold own at hb'
    rw [hidm, hβid] at hb'
    simp only [ownB] at hb'
    rw [if_neg (by omega)] at hb'
    simpa using hb'.symm
  have hnoi : ∀ b', own mem' β' i ≠ some b' := fun b' hb' => by
    unfold own at hb'; rw [him] at hb'; simp [ownB] at hb'
  have key := h.update (mem' := mem') (al' := al') (w' := w') (β' := β') (ok' := ok) (fun j => j = id ∨ j = i) (fun i hi => .inl hi)
    (fun j hj hk => by
      rcases hj with hj | hj
      · exact .inr hj
      · exact .inl (hj ▸ hi_al))
    (fun j hj => by rw [hm, if_neg fun e => hj (.inl e), if_neg fun e => hj (.inr e)])
    (fun j hj => setβ_other _ _ fun e => hj (.inl e))
    (fun j hj ha => by
      rcases hj with hj | hj
      · exact absurd (by rw [← hj]; exact ha) hid
      · right; show (mem'.getD j .dead).kd = _; rw [hj, him]; rfl)
    (fun j hj hg => by
      have hg : (mem'.getD j .dead).kd = .ghost := hg
      by_cases e : j = id
      · rw [e, hidm] at hg; cases hg
      · rw [hj.resolve_left e, him] at hg; cases hg)
    (fun b' _ hb' => hheap b' fun e => hb' i (.inr rfl) (by rw [e]; exact hold))
    (by omega) (fun _ h => h) (fun _ h => .inl h)
    (fun ext j hj => by
      by_cases e : j = id
      · subst e
        rw [hidm]
        refine ⟨some ⟨b, o', none⟩, c', hβid, .inr ⟨b, o', arr', T, rfl, hb, h0, hc, hsz, lies_of (fun k x hk => ?_) ?_⟩⟩
        rotate_left
        · obtain ⟨sp, s1, s2⟩ := hsp
          exact ⟨sp, s1, fun k x hk => let ⟨us, a, b, e⟩ := s2 k x hk; ⟨us, a, RepE.mono ext.cells ext.ok b, e⟩⟩
        obtain ⟨us, hl, hr, hu⟩ := hn.at_ k x hk
        exact ⟨us, hl, RepE.mono ext.cells ext.ok hr, fun j u hj => by rw [Nat.add_assoc]; exact ha _ _ (hu j u hj)⟩
      · rw [hj.resolve_left e, him]; trivial)
    (fun j b' hj hb' => by
      by_cases e : j = id
      · subst e; left; exact ⟨i, .inr rfl, by rw [hownid b' hb']; exact hold⟩
      · rw [hj.resolve_left e] at hb'; exact absurd hb' (hnoi b'))
    (fun j k b' hj hk h1 h2 => by
      by_cases e : j = id <;> by_cases e2 : k = id
      · rw [e, e2]
      · rw [hk.resolve_left e2] at h2; exact absurd h2 (hnoi b')
      · rw [hj.resolve_left e] at h1; exact absurd h1 (hnoi b')
      · rw [hj.resolve_left e] at h1; exact absurd h1 (hnoi b'))
    (fun j b' hj hb' hok => by
      by_cases e : j = id
      · subst e
        rw [hownid b' hb'] at hok
        exact h.apart i b hold hok
      · rw [hj.resolve_left e] at hb'; exact absurd hb' (hnoi b')) os out tape
  exact ⟨key.2, .osl _ _ (.inr rfl) (fun _ => hβid.symm) rfl⟩
end
end Go.Sk

/- Operations that make or write memory: what the model's own do. -/
set_option linter.unusedSimpArgs false
set_option linter.unusedVariables false
namespace Go.Sk
open Go
section
variable {X : Fr} {env : List V} {mem : List Obj} {al : Nat → Prop} {tmps : Array Value} {w : World} {β : Nat → Value} {ok : Nat → Prop}

/-- an object is changed in its place -/
theorem Inv.modify (h : Inv X env mem al tmps w β ok) {i : Nat} {o' : Obj} {mem' : List Obj} (hm : ∀ j, mem'.getD j .dead = if j = i then o' else mem.getD j .dead) (hk : o'.kd = kds mem i) (hal : al i)
    {w' : World} (hheap : ∀ b, own mem β i ≠ some b → w'.heap[b]? = w.heap[b]?) (hsize : w'.heap.size = w.heap.size) (hown : ∀ b, ownB o' (β i) = some b → own mem β i = some b)
    (hnew : Ext w ok X.rd β (kds mem) al w' ok β (kds mem') al → ObjRel w' ok X.rd β (kds mem') al i o') (os : w'.os = w.os) (out : w'.output = w.output) (tape : w'.tape = w.tape) :
    Ext w ok X.rd β (kds mem) al w' ok β (kds mem') al ∧ Inv X env mem' al tmps w' β ok := by
  have him : mem'.getD i .dead = o' := by rw [hm, if_pos rfl]
  have ho : ∀ b, own mem' β i = some b → own mem β i = some b := fun b hb => by unfold own at hb; rw [him] at hb; exact hown b hb
  refine h.update (mem' := mem') (al' := al) (w' := w') (β' := β) (ok' := ok) (fun j => j = i) (fun _ h => h) (fun j hj _ => hj ▸ hal) (fun j hj => by rw [hm, if_neg hj]) (fun _ _ => rfl)
    (fun j hj _ => .inl ⟨by subst hj; show (mem'.getD j .dead).kd = _; rw [him, hk], rfl⟩) (fun j hj hg => ⟨by subst hj; rw [← hk, ← him]; exact hg, rfl⟩) (fun b _ hb => hheap b (hb i rfl)) (by omega) (fun _ h => h) (fun _ h => .inl h)
    (fun ext j hj => by subst hj; rw [him]; exact hnew ext) (fun j b hj hb => by subst hj; exact .inl ⟨_, rfl, ho b hb⟩) (fun j k _ hj hk _ _ => by rw [hj, hk])
    (fun j b hj hb => by subst hj; exact h.apart _ b (ho b hb)) os out tape

/-- an owned row becomes data -/
theorem Inv.freeze1 (h : Inv X env mem al tmps w β ok) {i : Nat} {t : Ty} {xs : List (El t)} (hi : mem.getD i .dead = .row t xs) {mem' : List Obj} (hm : ∀ j, mem'.getD j .dead = if j = i then .frz t xs else mem.getD j .dead) :
    let ok' := fun b => ok b ∨ own mem β i = some b
    Ext w ok X.rd β (kds mem) al w ok' β (kds mem') al ∧ Inv X env mem' al tmps w β ok' := by
  intro ok'
  have him : mem'.getD i .dead = .frz t xs := by rw [hm, if_pos rfl]
  have hno : ∀ b, own mem' β i ≠ some b := fun b hb => by unfold own at hb; rw [him] at hb; simp [ownB] at hb
  have hal : al i := h.len i (by rw [hi]; simp [Obj.kd])
  refine h.update (mem' := mem') (al' := al) (w' := w) (β' := β) (ok' := ok') (fun j => j = i) (fun _ h => h) (fun j hj _ => hj ▸ hal) (fun j hj => by rw [hm, if_neg hj]) (fun _ _ => rfl)
    (fun j hj _ => .inl ⟨by subst hj; show (mem'.getD j .dead).kd = (mem.getD j .dead).kd; rw [him, hi]; rfl, rfl⟩) (fun j hj hg => by subst hj; have hg : (mem'.getD j .dead).kd = .ghost := hg; rw [him] at hg; cases hg) (fun _ _ _ => rfl) (Nat.le_refl _) (fun _ h => .inl h)
    (fun b hb => by
      rcases hb with hb | hb
      · exact .inl hb
      · exact .inr (.inl ⟨i, rfl, hb⟩))
    (fun ext j hj => by
      subst hj
      rw [him]
      have hob := h.obj j
      rw [hi] at hob
      obtain ⟨A, c, hb, hob⟩ := hob
      show RepE w ok' (.slice t) xs [β j]
      rw [hb]
      rcases hob with ⟨rfl, rfl⟩ | ⟨b, o, arr, T, rfl, hh, h0, hle, hsz, hr⟩
      · exact ⟨A, 0, rfl, Nat.le_refl _, .inl rfl⟩
      · refine ⟨_, c, rfl, hle, .inr ⟨b, o, rfl, .inr ?_, fun k x hk => ?_⟩⟩
        · unfold own; rw [hi, hb]; simp [ownB]; omega
        · obtain ⟨us, hl, hre, hu⟩ := hr k x hk
          exact ⟨us, hl, RepE.mono ext.cells ext.ok hre, fun j u hj => by simp [World.cell?, hh, hu j u hj]⟩)
    (fun j b hj hb => by subst hj; exact absurd hb (hno b)) (fun j k _ hj hk _ _ => by rw [hj, hk]) (fun j b hj hb => by subst hj; exact absurd hb (hno b)) rfl rfl rfl

/-! ### what is written cell by cell -/
theorem heap_setCells (b : Nat) : ∀ (vs : List Value) (o : Nat) (w : World) {arr : Array Value} {T : TypeId}, w.heap[b]? = some (.cells arr T (0, 0)) → o + vs.length ≤ arr.size →
    ∃ arr', (w.setCells b o vs).heap[b]? = some (.cells arr' T (0, 0)) ∧ arr'.size = arr.size ∧ (∀ j, (j < o ∨ o + vs.length ≤ j) → arr'[j]? = arr[j]?) ∧ ∀ (j : Nat) u, vs[j]? = some u → arr'[o + j]? = some u
  | [], o, w, arr, T, h, _ => ⟨arr, h, rfl, fun _ _ => rfl, fun j u hj => by simp at hj⟩
  | v :: r, o, w, arr, T, h, hl => by
    simp at hl
    have h1 : (w.setCell ⟨b, o, none⟩ v).heap[b]? = some (.cells (arr.setIfInBounds o v) T (0, 0)) := by
      simp [World.setCell, Array.getElem?_modify, h]
    obtain ⟨arr', h2, h3, h4, h5⟩ := heap_setCells b r (o + 1) (w.setCell ⟨b, o, none⟩ v) h1 (by simp; omega)
    refine ⟨arr', h2, by simpa using h3, fun j hj => ?_, fun j u hj => ?_⟩
    · rw [h4 j (by simp at hj; omega)]
      rw [Array.getElem?_setIfInBounds]
      rw [if_neg (by simp at hj; omega)]
    · cases j with
      | zero =>
        simp at hj; subst hj
        rw [Nat.add_zero, h4 o (by omega), Array.getElem?_setIfInBounds]
        simp; omega
      | succ j =>
        have := h5 j u (by simpa using hj)
        rw [← this]; congr 1; omega
theorem heap_setCells_other (b : Nat) : ∀ (vs : List Value) (o : Nat) (w : World) (b' : Nat), b' ≠ b → (w.setCells b o vs).heap[b']? = w.heap[b']?
  | [], _, _, _, _ => rfl
  | v :: r, o, w, b', h => by
    rw [World.setCells, heap_setCells_other b r (o + 1) _ b' h]
    simp [World.setCell, Array.getElem?_modify]
    intro e; exact absurd e.symm h
theorem setCells_facts (b : Nat) : ∀ (vs : List Value) (o : Nat) (w : World), (w.setCells b o vs).heap.size = w.heap.size ∧ (w.setCells b o vs).os = w.os ∧ (w.setCells b o vs).output = w.output ∧ (w.setCells b o vs).tape = w.tape
  | [], _, _ => ⟨rfl, rfl, rfl, rfl⟩
  | v :: r, o, w => by
    obtain ⟨h1, h2, h3, h4⟩ := setCells_facts b r (o + 1) (w.setCell ⟨b, o, none⟩ v)
    exact ⟨by rw [World.setCells, h1]; simp [World.setCell], h2, h3, h4⟩

theorem run_storeVar {P : Program} {t : TypeId} {n b o : Nat} {v : Value} {us : List Value} {arr : Array Value} {T : TypeId} (hn : sizeAt P t = some n) (hv : v.cells.toList = us) (hl : us.length = n) (h1 : ∀ u ∈ us, u.oneCell' = true)
    (hb : w.heap[b]? = some (.cells arr T (0, 0))) (hsz : o + us.length ≤ arr.size) : (Go.storeVar t ⟨b, o, none⟩ v).run P w = .ok () (w.setCells b o us) := by
  have hs := run_storeCells_cells (P := P) b o us 0 w (fun j hj => by simp [World.cell?, hb]; omega) (fun j hj => by simp [World.frozen?, hb]) h1
  have hsize : v.cells.size = n := by rw [← hl, ← hv]; simp
  unfold Go.storeVar
  simp only [Sem.run_bind, run_sizeAt hn, Result.andThen_ok]
  simp only [hsize, ne_eq, not_true_eq_false, if_false, hv]
  simpa using hs

theorem splice_length {cs new : List CV} {o : Nat} (h : o + new.length ≤ cs.length) : (splice cs o new).length = cs.length := by
  unfold splice; simp; omega
theorem splice_get {cs new : List CV} {o : Nat} (h : o + new.length ≤ cs.length) (j : Nat) : (splice cs o new)[j]? = if j < o then cs[j]? else if j < o + new.length then new[j - o]? else cs[j]? := by
  unfold splice
  by_cases h1 : j < o
  · rw [if_pos h1, List.append_assoc, List.getElem?_append_left (by simp; omega), List.getElem?_take, if_pos h1]
  · rw [if_neg h1, List.append_assoc, List.getElem?_append_right (by simp; omega)]
    have e : (cs.take o).length = o := by simp; omega
    rw [e]
    by_cases h2 : j < o + new.length
    · rw [if_pos h2, List.getElem?_append_left (by omega)]
    · rw [if_neg h2, List.getElem?_append_right (by omega), List.getElem?_drop]
      congr 1; omega

theorem known_spec : ∀ {cs : List CV}, known cs = true → ∀ c ∈ cs, c ≠ .undef ∧ ∀ t, c ≠ .slf t
  | [], _, c, hc => by simp at hc
  | x :: r, h, c, hc => by
    have hx : (x ≠ .undef ∧ ∀ t, x ≠ .slf t) ∧ known r = true := by cases x <;> simp_all [known]
    rcases List.mem_cons.1 hc with rfl | hc
    · exact hx.1
    · exact known_spec hx.2 c hc

theorem relV_cells {v : V} {cv : Value} {kd : Nat → KD} (h : RelV w ok X.rd β kd al v cv) (ht : v.isTup = false) (h1 : ∀ c, v = .one c → cv.oneCell' = true) : RelL w ok X.rd β kd al v.cells cv.cells.toList := by
  cases h with
  | one c _ h =>
    have : cv.cells.toList = [cv] := by
      have := h1 c rfl
      cases cv <;> first | rfl | (simp [Value.oneCell'] at this)
    rw [this]
    exact .cons h .nil
  | agg cs us hl h => exact ⟨hl, h⟩
  | tup => simp [V.isTup] at ht

/-- a store into a variable of the call's own -/
theorem Inv.storeCells {P : Program} (h : Inv X env mem al tmps w β ok) {i off : Nat} {cs new : List CV} (hi : mem.getD i .dead = .cells cs) {t : TypeId} {n : Nat} (hn : sizeAt P t = some n) {v : Value} (hl : RelL w ok X.rd β (kds mem) al new v.cells.toList) (hlen : new.length = n)
    (hknown : ∀ c ∈ new, c ≠ .undef ∧ ∀ t, c ≠ .slf t) (hoff : off + n ≤ cs.length) {b : Nat} (hb : β i = .pointer (some ⟨b, 0, none⟩)) :
    ∃ w', (Go.storeVar t ⟨b, off, none⟩ v).run P w = .ok () w' ∧ Inv X env (wr mem i (.cells (splice cs off new))) al tmps w' β ok := by
  have hob := h.obj i
  rw [hi] at hob
  obtain ⟨b', us, T, hb', hh, hus, hsf⟩ := hob
  rw [hb] at hb'
  simp at hb'
  subst hb'
  have hvl : v.cells.toList.length = n := by rw [hl.1, hlen]
  have hone : ∀ u ∈ v.cells.toList, u.oneCell' = true := fun u hu => by
    obtain ⟨j, hj⟩ := List.getElem?_of_mem hu
    have hjlt : j < new.length := by
      rw [← hl.1]
      rcases Nat.lt_or_ge j v.cells.toList.length with h | h
      · exact h
      · rw [List.getElem?_eq_none h] at hj; cases hj
    exact (hl.2 j _ u (List.getElem?_eq_getElem hjlt) hj).one (hknown _ (List.getElem_mem hjlt)).1
  have hsz : off + v.cells.toList.length ≤ us.toArray.size := by simp only [List.size_toArray, hus.1]; omega
  refine ⟨_, run_storeVar hn rfl hvl hone hh hsz, ?_⟩
  obtain ⟨arr', h2, h3, h4, h5⟩ := heap_setCells b v.cells.toList off w hh hsz
  obtain ⟨f1, f2, f3, f4⟩ := setCells_facts b v.cells.toList off w
  have hown : own mem β i = some b := by unfold own; rw [hi, hb]; rfl
  refine (h.modify (o' := .cells (splice cs off new)) (fun j => wr_getD _ _ _ j) (by show KD.cells = (mem.getD i .dead).kd; rw [hi]; rfl) (h.len i (by rw [hi]; simp [Obj.kd]))
    (fun b' hb' => heap_setCells_other b _ _ _ b' fun e => hb' (by rw [e]; exact hown)) f1 (fun b' hb' => by rw [hb] at hb'; rw [hown]; simpa [ownB] using hb') (fun ext => ?_) f2 f3 f4).2
  refine ⟨b, arr'.toList, T, hb, by simpa using h2, ⟨by rw [splice_length (by omega)]; simp only [Array.length_toList, h3, List.size_toArray, hus.1], fun j c u hj hu => ?_⟩, fun j t u hj hu => ?_⟩
  case refine_2 =>
    rw [splice_get (by omega)] at hj
    simp only [Array.getElem?_toList] at hu
    by_cases h6 : j < off
    · rw [if_pos h6] at hj
      rw [h4 j (.inl h6)] at hu
      exact hsf j t u hj (by simpa using hu)
    · rw [if_neg h6] at hj
      by_cases h7 : j < off + new.length
      · rw [if_pos h7] at hj
        exact absurd rfl ((hknown _ (List.mem_of_getElem? hj)).2 t)
      · rw [if_neg h7] at hj
        rw [h4 j (.inr (by omega))] at hu
        exact hsf j t u hj (by simpa using hu)
  rw [splice_get (by omega)] at hj
  simp only [Array.getElem?_toList] at hu
  by_cases h6 : j < off
  · rw [if_pos h6] at hj
    rw [h4 j (.inl h6)] at hu
    exact (hus.2 j c u hj (by simpa using hu)).mono ext
  · rw [if_neg h6] at hj
    by_cases h7 : j < off + new.length
    · rw [if_pos h7] at hj
      have hlt : j - off < v.cells.toList.length := by omega
      have := h5 (j - off) _ (List.getElem?_eq_getElem hlt)
      rw [show off + (j - off) = j by omega, hu] at this
      exact (hl.2 (j - off) c u hj (by rw [List.getElem?_eq_getElem hlt, ← this])).mono ext
    · rw [if_neg h7] at hj
      rw [h4 j (.inr (by omega))] at hu
      exact (hus.2 j c u hj (by simpa using hu)).mono ext

/-- cells of an owned row's block, written: the row's elements turn -/
theorem Inv.rowWrite (h : Inv X env mem al tmps w β ok) {i : Nat} {t : Ty} {xs ys : List (El t)} (hi : mem.getD i .dead = .row t xs) (hxy : ys.length = xs.length) {b o c n : Nat} (hb : β i = .slice (some ⟨b, o, none⟩) n c) (hc : c ≠ 0)
    {p : Nat} {vs : List Value} {arr : Array Value} {T : TypeId} (hh : w.heap[b]? = some (.cells arr T (0, 0))) (hp : p + vs.length ≤ arr.size) (hp2 : p + vs.length ≤ o + xs.length * t.size)
    (hys : ∀ (arr' : Array Value), arr'.size = arr.size → (∀ j, (j < p ∨ p + vs.length ≤ j) → arr'[j]? = arr[j]?) → (∀ (j : Nat) u, vs[j]? = some u → arr'[p + j]? = some u) →
      ∀ k x, ys[k]? = some x → ∃ us, us.length = t.size ∧ RepE w ok t x us ∧ ∀ j u, us[j]? = some u → arr'[o + k * t.size + j]? = some u) :
    Inv X env (wr mem i (.row t ys)) al tmps (w.setCells b p vs) β ok := by
  have hob := h.obj i
  rw [hi] at hob
  obtain ⟨A, c2, hb2, hob⟩ := hob
  rw [hb] at hb2
  cases hb2
  obtain ⟨arr', h2, h3, h4, h5⟩ := heap_setCells b vs p w hh hp
  obtain ⟨f1, f2, f3, f4⟩ := setCells_facts b vs p w
  have hown : own mem β i = some b := by unfold own; rw [hi, hb]; simp [ownB, hc]
  refine (h.modify (o' := .row t ys) (fun j => wr_getD _ _ _ j) (by show KD.row t = (mem.getD i .dead).kd; rw [hi]; rfl) (h.len i (by rw [hi]; simp [Obj.kd]))
    (fun b' hb' => heap_setCells_other b _ _ _ b' fun e => hb' (by rw [e]; exact hown)) f1 (fun b' hb' => by rw [hb] at hb'; rw [hown]; simp only [ownB, if_neg hc] at hb'; exact hb') (fun ext => ?_) f2 f3 f4).2
  refine ⟨_, c, by rw [hb, hxy], .inr ?_⟩
  rcases hob with ⟨_, rfl⟩ | ⟨b', o', arr0, T0, e1, hh0, h0, hle, hsz, hr⟩
  · exact absurd rfl hc
  · simp at e1
    obtain ⟨rfl, rfl⟩ := e1
    rw [hh] at hh0
    cases hh0
    refine ⟨b, o, arr', T0, rfl, h2, h0, by omega, by omega, lies_of (fun k x hk => ?_) ?_⟩
    · obtain ⟨us, hl, hre, hu⟩ := hys arr' h3 h4 h5 k x hk
      exact ⟨us, hl, RepE.mono ext.cells ext.ok hre, hu⟩
    · obtain ⟨sp, s1, s2⟩ := hr.spare
      refine ⟨sp, by omega, fun k x hk => ?_⟩
      obtain ⟨us, a1, a2, a3⟩ := s2 k x hk
      refine ⟨us, a1, RepE.mono ext.cells ext.ok a2, fun j u hj => ?_⟩
      have := a3 j u hj
      rw [hxy]
      have hm := Nat.mul_le_mul_right t.size (show xs.length ≤ xs.length + k by omega)
      rw [h4 _ (.inr (by omega))]
      exact this
end
end Go.Sk

/- '==' of structs of scalars. -/
set_option linter.unusedSimpArgs false
set_option linter.unusedVariables false
namespace Go.Sk
open Go
section
variable {P : Program} {c : Ct}
theorem rel_eqC {t : TypeId} {cs ds : List CV} {us vs : List Value} {o : Nat} {b : Bool} {d : Nat} (h : eqC P t cs[o]? ds[o]? = some b) (hc : c.L cs us) (hd : c.L ds vs) :
    ∃ u v, (part t us.toArray o).run P c.w = .ok u c.w ∧ (part t vs.toArray o).run P c.w = .ok v c.w ∧ (Op.equalIn (d + 1) t u v).run P c.w = .ok b c.w := by
  have get : ∀ {cs : List CV} {us : List Value} {x : CV}, c.L cs us → cs[o]? = some x → ∃ u, us[o]? = some u ∧ c.C x u := by
    intro cs us x hl hx
    have hlt : o < us.length := by rw [hl.1]; exact (List.getElem?_eq_some_iff.1 hx).1
    exact ⟨_, List.getElem?_eq_getElem hlt, hl.2 o x _ hx (List.getElem?_eq_getElem hlt)⟩
  have pt : ∀ {us : List Value} {u : Value}, aggAt P t = some false → us[o]? = some u → (part t us.toArray o).run P c.w = .ok u c.w := by
    intro us u hg hu
    unfold part
    simp [run_aggAt hg, hu]
  unfold eqC at h
  split at h
  · rename_i x y hx hy
    split at h
    · rename_i hu
      simp at h
      subst h
      obtain ⟨u, h1, h2⟩ := get hc hx
      obtain ⟨v, h3, h4⟩ := get hd hy
      cases h2
      cases h4
      have hg : aggAt P t = some false := by unfold aggAt; rw [hu]
      exact ⟨_, _, pt hg h1, pt hg h3, run_equalIn_bool' c.w d t _ _ hu⟩
    · cases h
  · rename_i k x l y hx hy
    split at h
    · rename_i k' p hu hp
      obtain rfl := eqKind_spec hp
      simp at h
      subst h
      obtain ⟨u, h1, h2⟩ := get hc hx
      obtain ⟨v, h3, h4⟩ := get hd hy
      cases h2
      cases h4
      have hg : aggAt P t = some false := by unfold aggAt; rw [hu]
      exact ⟨_, _, pt hg h1, pt hg h3, run_equalIn_int c.w d t _ _ _ _ hu⟩
    · cases h
  · rename_i x y hx hy
    split at h
    · rename_i hu
      simp at h
      subst h
      obtain ⟨u, h1, h2⟩ := get hc hx
      obtain ⟨v, h3, h4⟩ := get hd hy
      cases h2
      cases h4
      have hg : aggAt P t = some false := by unfold aggAt; rw [hu]
      exact ⟨_, _, pt hg h1, pt hg h3, run_equalIn_string c.w d t _ _ hu⟩
    · cases h
  · cases h
theorem rel_eqF {d : Nat} {cs ds : List CV} {us vs : List Value} (hc : c.L cs us) (hd : c.L ds vs) : ∀ (fs : List Field) {b : Bool}, eqF P fs cs ds = some b → (Op.eqFields (d + 1) us.toArray vs.toArray fs).run P c.w = .ok b c.w
  | [], b, h => by
    simp [eqF] at h
    subst h
    rfl
  | [f], b, h => by
    simp only [eqF] at h
    cases hn : f.name == "_" with
    | true => rw [hn] at h; cases h
    | false =>
      rw [hn] at h
      have hn' : f.name ≠ "_" := by simpa using hn
      obtain ⟨u, v, h1, h2, h3⟩ := rel_eqC (d := d) h hc hd
      simp only [Op.eqFields, if_pos hn', Sem.run_bind, h1, h2, h3, Result.andThen_ok]
      cases b <;> simp
  | f :: g :: r, b, h => by
    simp only [eqF] at h
    cases hn : f.name == "_" with
    | true => rw [hn] at h; cases h
    | false =>
      rw [hn] at h
      simp only [cond] at h
      split at h
      · rename_i x y hx hy
        simp at h
        subst h
        have hn' : f.name ≠ "_" := by simpa using hn
        obtain ⟨u, v, h1, h2, h3⟩ := rel_eqC (d := d) hx hc hd
        have ih := rel_eqF (d := d) hc hd (g :: r) hy
        rw [Op.eqFields]
        simp only [if_pos hn', Sem.run_bind, h1, h2, h3, Result.andThen_ok]
        cases x
        · simp
        · simpa using ih
      · cases h
theorem rel_binA {op : BinOp} {t : TypeId} {x y : Operand} {cs ds : List CV} {us vs : List Value} {z : CV} (h : (binA P op t cs ds).run1 c.mem = some z) (hc : c.L cs us) (hd : c.L ds vs) :
    ∃ v, (eqGuard op t x y (.agg us.toArray) (.agg vs.toArray)).run P c.w = .ok () c.w ∧ (Go.binOp op t (.agg us.toArray) (.agg vs.toArray)).run P c.w = .ok v c.w ∧ c.C z v := by
  unfold binA at h
  split at h
  · rename_i fs hu
    cases hb : (P.stoodInHeld t || P.eqGuardType P.depth t) with
    | true => rw [hb] at h; cases h
    | false =>
      rw [hb] at h
      simp only [Bool.or_eq_false_iff] at hb
      simp only [cond] at h
      have hf : P.fieldsOf t = fs := by simp [Program.fieldsOf, hu]
      have eq : ∀ b, eqF P fs.toList cs ds = some b → (Op.equalIn 10000 t (.agg us.toArray) (.agg vs.toArray)).run P c.w = .ok b c.w := fun b he => by
        rw [run_equalIn_struct (P := P) c.w 9999 t _ _ (by rw [hf]; exact hu) hb.1, hf]
        exact rel_eqF (d := 9998) hc hd fs.toList he
      split at h
      · rename_i b he
        simp [Rd.run1] at h
        subst h
        exact ⟨.bool b, run_eqGuard_agg c.w _ t x y _ _ hb.2, by rw [run_eql_struct, eq b he]; rfl, .bool b⟩
      · rename_i b he
        simp [Rd.run1] at h
        subst h
        exact ⟨.bool (!b), run_eqGuard_agg c.w _ t x y _ _ hb.2, by rw [run_neq_struct, eq b he]; rfl, .bool _⟩
      · cases h
  · cases h
end
end Go.Sk

/- Every operation but a call of a function: where the evaluator comes to a value, the model's own does, and the state stands on. -/
set_option linter.unusedSimpArgs false
set_option linter.unusedVariables false
set_option linter.unusedSectionVars false
namespace Go.Sk
open Go
section
variable {P : Program} {X : Fr} {env : List V} {mem : List Obj} {al : Nat → Prop} {tmps : Array Value} {w : World} {β : Nat → Value} {ok : Nat → Prop}

theorem _root_.Go.Sk.RelC.int_inv {kd : Nat → KD} {k : IntKind} {n : Int} {v : Value} (h : RelC w ok X.rd β kd al (.int k n) v) : v = .int k n := by cases h; rfl
theorem _root_.Go.Sk.RelC.chk_inv {kd : Nat → KD} {b : Bool} {t : Ty} {xs : List (El t)} {v : Value} (h : RelC w ok X.rd β kd al (.chk b t xs) v) : ∃ A n c, v = .slice A n c := by cases h; exact ⟨_, _, _, rfl⟩
theorem _root_.Go.Sk.RelC.bool_inv {kd : Nat → KD} {b : Bool} {v : Value} (h : RelC w ok X.rd β kd al (.bool b) v) : v = .bool b := by cases h; rfl
theorem _root_.Go.Sk.RelC.str_inv {kd : Nat → KD} {s : ByteArray} {v : Value} (h : RelC w ok X.rd β kd al (.str s) v) : v = .string s := by cases h; rfl
theorem _root_.Go.Sk.RelC.ptr_inv {kd : Nat → KD} {i off : Nat} {v : Value} (h : RelC w ok X.rd β kd al (.ptr i off) v) (hk : kd i = .cells) : ∃ b, β i = .pointer (some ⟨b, 0, none⟩) ∧ v = .pointer (some ⟨b, off, none⟩) := by
  cases h with
  | ptr _ _ _ hi hp h1 => exact hp hk
theorem _root_.Go.Sk.RelC.eptr_inv {kd : Nat → KD} {i k off : Nat} {v : Value} (h : RelC w ok X.rd β kd al (.eptr i k off) v) (t : Ty) (hk : kd i = .row t) : ∃ b o n c, β i = .slice (some ⟨b, o, none⟩) n c ∧ v = .pointer (some ⟨b, o + k * t.size + off, none⟩) := by
  cases h with
  | eptr _ _ _ _ hi hp h1 => exact hp t hk
theorem _root_.Go.Sk.RelC.osl_inv {kd : Nat → KD} {i : Nat} {v : Value} (h : RelC w ok X.rd β kd al (.osl i) v) (hk : kd i ≠ .none) : v = β i := by
  cases h with
  | osl _ _ hi hp h1 => exact hp hk
theorem Inv.objs (h : Inv X env mem al tmps w β ok) : (⟨w, ok, X.rd, β, mem, al⟩ : Ct).objs := h.obj

/-- operands -/
theorem Inv.ev (h : Inv X env mem al tmps w β ok) (ds : List Deferred) (x : Operand) (t : Option Ty) : RelV w ok X.rd β (kds mem) al ((⟨env, mem⟩ : St).ev x t) ((⟨tmps, ds⟩ : Act).eval x) := by
  cases x with
  | tmp i =>
    show RelV _ _ _ _ _ _ (env.getD i uv) (tmps.getD i undef)
    cases he : env[i]? with
    | none => rw [List.getD_eq_getElem?_getD, he]; exact .one _ _ (.undef _)
    | some v => rw [List.getD_eq_getElem?_getD, he]; exact h.env i v he
  | const v =>
    cases v <;> first
      | exact .one _ _ (rel_ofConst (c := ⟨w, ok, X.rd, β, mem, al⟩) _ _)
      | skip
    · rename_i cs
      show RelV _ _ _ _ _ _ (.agg (cs.toList.map (ofConst none))) (.agg cs)
      have : RelL w ok X.rd β (kds mem) al (cs.toList.map (ofConst none)) cs.toList :=
        ⟨by simp, fun j c u hj hu => by
          simp only [List.getElem?_map] at hj
          rw [hu] at hj
          simp at hj
          subst hj
          exact rel_ofConst (c := ⟨w, ok, X.rd, β, mem, al⟩) _ _⟩
      have h2 := RelV.ofL this
      simpa using h2
    · rename_i vs
      exact .one _ _ (.undef _)
  | global g => exact .one _ _ (.undef _)
  | func f => exact .one _ _ (.fn f [] [] rfl (fun j c u hj => by simp at hj))

/-- what an operation is to leave -/
structure Left (P : Program) (X : Fr) (env : List V) (mem : List Obj) (al : Nat → Prop) (tmps : Array Value) (w : World) (new : Nat → Prop) (s : Sem Next) (out : Out) : Prop where
  run : ∃ (r : Next) (cv : Value) (w' : World) (β' : Nat → Value) (ok' : Nat → Prop), s.run P w = .ok r w' ∧ (r = .value cv ∨ (r = .skip ∧ cv = undef)) ∧
    Inv X env (wrs mem out.ws) (fun i => al i ∨ new i) tmps w' β' ok' ∧ RelV w' ok' X.rd β' (kds (wrs mem out.ws)) (fun i => al i ∨ new i) out.v cv

theorem Left.value {new : Nat → Prop} {s : Sem Value} {cv : Value} {w' : World} {β' : Nat → Value} {ok' : Nat → Prop} {out : Out} (hs : s.run P w = .ok cv w') (hI : Inv X env (wrs mem out.ws) (fun i => al i ∨ new i) tmps w' β' ok')
    (hR : RelV w' ok' X.rd β' (kds (wrs mem out.ws)) (fun i => al i ∨ new i) out.v cv) : Left P X env mem al tmps w new (do pure (.value (← s))) out :=
  ⟨.value cv, cv, w', β', ok', by simp [hs], .inl rfl, hI, hR⟩
theorem Left.read {new : Nat → Prop} (h : Inv X env mem al tmps w β ok) {s : Sem Value} {v : Value} (hr : s.run P w = .ok v w) {c : V} (hv : RelV w ok X.rd β (kds mem) al c v) :
    Left P X env mem al tmps w new (do pure (.value (← s))) ⟨c, []⟩ := by
  have key := h.update (mem' := mem) (al' := fun i => al i ∨ new i) (β' := β) (ok' := ok) (fun _ => False) (fun _ h => .inl h) (fun _ h => h.elim) (fun _ _ => rfl) (fun _ _ => rfl) (fun _ h => h.elim) (fun _ h => h.elim) (fun b _ _ => rfl) (Nat.le_refl _)
    (fun _ h => h) (fun _ h => .inl h) (fun _ _ h => h.elim) (fun _ _ h => h.elim) (fun _ _ _ h => h.elim) (fun _ _ h => h.elim) rfl rfl rfl
  exact ⟨.value v, v, w, β, ok, by simp [hr], .inl rfl, key.2, hv.mono key.1⟩

theorem bind_run1 {α β' : Type} {m : List Obj} {x : Rd α} {f : α → Rd β'} {b : β'} (h : (x.bind f).run1 m = some b) : ∃ a, x.run1 m = some a ∧ (f a).run1 m = some b := by
  rw [Rd.run1_bind] at h
  cases hx : x.run1 m with
  | none => rw [hx] at h; cases h
  | some a => rw [hx] at h; exact ⟨a, rfl, h⟩
theorem bif_fail {α : Type} {m : List Obj} {c : Bool} {x : Rd α} {a : α} (h : (bif c then x else .fail).run1 m = some a) : c = true ∧ x.run1 m = some a := by
  cases c with
  | true => exact ⟨rfl, h⟩
  | false => cases h
theorem guard_run1 {α : Type} {m : List Obj} {c : Bool} {x : Rd α} {a : α} (h : (Rd.guard c x).run1 m = some a) : c = true ∧ x.run1 m = some a := by
  cases c with
  | true => exact ⟨rfl, h⟩
  | false => cases h
theorem ret_run1 {α : Type} {m : List Obj} {x a : α} (h : (Rd.ret x).run1 m = some a) : x = a := by simpa [Rd.run1] using h
theorem fail_run1 {α : Type} {m : List Obj} {a : α} {p : Prop} (h : (Rd.fail : Rd α).run1 m = some a) : p := by cases h

variable (ds : List Deferred)
theorem left_one (h : Inv X env mem al tmps w β ok) {new : Nat → Prop} {r : Rd CV} {out : Out} (hr : (r.bind fun c => .ret ⟨.one c, []⟩).run1 mem = some out) {s : Sem Value}
    (key : ∀ z, r.run1 mem = some z → ∃ v, s.run P w = .ok v w ∧ RelC w ok X.rd β (kds mem) al z v) : Left P X env mem al tmps w new (do pure (.value (← s))) out := by
  obtain ⟨z, hz, ho⟩ := bind_run1 hr
  obtain rfl := ret_run1 ho
  obtain ⟨v, hv, hc⟩ := key z hz
  exact .read h hv (.one _ _ hc)

/-- a value cell's relation, of an operand -/
theorem ev_one (h : Inv X env mem al tmps w β ok) {x : Operand} {t : Option Ty} {c : CV} (e : (⟨env, mem⟩ : St).ev x t = .one c) : RelC w ok X.rd β (kds mem) al c ((⟨tmps, ds⟩ : Act).eval x) := by
  have := h.ev ds x t
  rw [e] at this
  exact this.one'
theorem ev_int (h : Inv X env mem al tmps w β ok) {x : Operand} {t : Option Ty} {k : IntKind} {n : Int} (e : (⟨env, mem⟩ : St).ev x t = .one (.int k n)) : (⟨tmps, ds⟩ : Act).eval x = .int k n := by
  exact (ev_one ds h e).int_inv

theorem BV_of (h : Inv X env mem al tmps w β ok) {l : Option Operand} {x : Option Int} (e : optInt (l.map fun o => (⟨env, mem⟩ : St).ev o none) = some x) : BV (l.map (⟨tmps, ds⟩ : Act).eval) x := by
  cases l with
  | none => simp [optInt] at e; subst e; exact trivial
  | some o =>
    simp only [Option.map_some, optInt] at e
    cases ho : (⟨env, mem⟩ : St).ev o none with
    | one c =>
      rw [ho] at e
      cases c <;> simp [intOf?] at e
      rename_i k n
      subst e
      have := (ev_one ds h ho).int_inv
      show BV (some ((⟨tmps, ds⟩ : Act).eval o)) (some n)
      rw [this]
      rfl
    | agg cs => rw [ho] at e; simp [intOf?] at e
    | tup vs => rw [ho] at e; simp [intOf?] at e

section ops
variable (C : Cfg) (h : Inv X env mem al tmps w β ok) {new : Nat → Prop} {out : Out} {ty : TypeId} {id : Nat} {dst : Option Tmp} {pos : String} {aft : Array Edge} {gd : Option (Nat × Bool)}
include h
theorem left_move {x : Operand} (hr : (semOp P C (.move x) ty (⟨env, mem⟩ : St).ev id).run1 mem = some out) : Left P X env mem al tmps w new (execOp (⟨tmps, ds⟩ : Act).eval ⟨dst, .move x, ty, pos, aft, gd⟩) out := by
  obtain rfl := ret_run1 hr
  exact .read (s := pure ((⟨tmps, ds⟩ : Act).eval x)) h rfl (h.ev ds x _)
theorem left_assign {x : Operand} (hr : (semOp P C (.assign x) ty (⟨env, mem⟩ : St).ev id).run1 mem = some out) : Left P X env mem al tmps w new (execOp (⟨tmps, ds⟩ : Act).eval ⟨dst, .assign x, ty, pos, aft, gd⟩) out := by
  obtain rfl := ret_run1 hr
  exact .read (s := pure ((⟨tmps, ds⟩ : Act).eval x)) h rfl (h.ev ds x _)
theorem left_pick {x a b : Operand} (hr : (semOp P C (.pick x a b) ty (⟨env, mem⟩ : St).ev id).run1 mem = some out) : Left P X env mem al tmps w new (execOp (⟨tmps, ds⟩ : Act).eval ⟨dst, .pick x a b, ty, pos, aft, gd⟩) out := by
  simp only [semOp] at hr
  split at hr
  · rename_i t he
    have hb := (ev_one ds h he).bool_inv
    have hs : execOp (⟨tmps, ds⟩ : Act).eval ⟨dst, .pick x a b, ty, pos, aft, gd⟩ = (do pure (.value (← (do let c ← asBool ((⟨tmps, ds⟩ : Act).eval x); pure (if c then (⟨tmps, ds⟩ : Act).eval a else (⟨tmps, ds⟩ : Act).eval b)))) : Sem Next) := by
      simp [execOp]
    rw [hs]
    cases t with
    | true => simp only [Rd.run1_split, cond, Rd.run1_ret, Option.some.injEq] at hr; subst hr; exact .read h (by rw [hb]; rfl) (h.ev ds a _)
    | false => simp only [Rd.run1_split, cond, Rd.run1_ret, Option.some.injEq] at hr; subst hr; exact .read h (by rw [hb]; rfl) (h.ev ds b _)
  · cases hr
theorem left_load {t : TypeId} {x : Operand} (hr : (semOp P C (.load t x) ty (⟨env, mem⟩ : St).ev id).run1 mem = some out) : Left P X env mem al tmps w new (execOp (⟨tmps, ds⟩ : Act).eval ⟨dst, .load t x, ty, pos, aft, gd⟩) out := by
  simp only [semOp] at hr
  split at hr
  · rename_i c n g he hn hg
    obtain ⟨cs, hcs, hr⟩ := bind_run1 hr
    obtain ⟨hlen, hr⟩ := bif_fail hr
    obtain ⟨v, hv, hr⟩ := bind_run1 hr
    obtain rfl := ret_run1 hr
    obtain ⟨b, o, us, hp, hl, hu⟩ := rel_load (c := ⟨w, ok, X.rd, β, mem, al⟩) h.objs hcs (ev_one ds h he)
    have hul : us.length = n := by rw [hl.1]; simpa using hlen
    rcases rel_mkV (c := ⟨w, ok, X.rd, β, mem, al⟩) hv hl with ⟨rfl, hv'⟩ | ⟨rfl, u, rfl, hv'⟩
    · exact .read h (s := Instr.loadAt t ((⟨tmps, ds⟩ : Act).eval x)) (by rw [hp]; exact run_loadVar (c := ⟨w, ok, X.rd, β, mem, al⟩) hn hg hul hu (.inl ⟨rfl, rfl⟩)) hv'
    · exact .read h (s := Instr.loadAt t ((⟨tmps, ds⟩ : Act).eval x)) (by rw [hp]; exact run_loadVar (c := ⟨w, ok, X.rd, β, mem, al⟩) hn hg hul hu (.inr ⟨rfl, rfl⟩)) hv'
  · cases hr
theorem left_binOp {op : BinOp} {t u : TypeId} {x y : Operand} (hr : (semOp P C (.binOp op t x y u) ty (⟨env, mem⟩ : St).ev id).run1 mem = some out) : Left P X env mem al tmps w new (execOp (⟨tmps, ds⟩ : Act).eval ⟨dst, .binOp op t x y u, ty, pos, aft, gd⟩) out := by
  simp only [semOp] at hr
  split at hr
  · rename_i a b ha hb
    refine left_one h hr fun z hz => ?_
    have ra := ev_one ds h ha
    have rb := ev_one ds h hb
    obtain ⟨v, hv, hc⟩ := rel_binC (P := P) (c := ⟨w, ok, X.rd, β, mem, al⟩) (t := t) hz ra rb
    refine ⟨v, ?_, hc⟩
    have hg : (Go.eqGuard op t x y ((⟨tmps, ds⟩ : Act).eval x) ((⟨tmps, ds⟩ : Act).eval y)).run P w = .ok () w := by
      unfold Go.eqGuard
      have hax : (∃ k n, (⟨tmps, ds⟩ : Act).eval x = .int k n) ∨ (∃ s, (⟨tmps, ds⟩ : Act).eval x = .string s) ∨ (∃ b, (⟨tmps, ds⟩ : Act).eval x = .bool b) ∨ (∃ A n c, (⟨tmps, ds⟩ : Act).eval x = .slice A n c) := by
        cases a <;> cases b <;> simp only [binC] at hz <;> first
          | (cases hz; done)
          | exact .inl ⟨_, _, ra.int_inv⟩
          | exact .inr (.inl ⟨_, ra.str_inv⟩)
          | exact .inr (.inr (.inl ⟨_, ra.bool_inv⟩))
          | exact .inr (.inr (.inr ra.chk_inv))
      rcases hax with ⟨k, n, e⟩ | ⟨s, e⟩ | ⟨s, e⟩ | ⟨A, n', c', e⟩ <;> rw [e] <;> cases op <;> rfl
    simp only [Sem.run_bind, hg, Result.andThen_ok]
    exact hv
  · rename_i a b ha hb
    have ra := h.ev ds x (tyAt P t)
    have rb := h.ev ds y (tyAt P u)
    rw [ha] at ra
    rw [hb] at rb
    generalize hx : (⟨tmps, ds⟩ : Act).eval x = xv at ra
    generalize hy : (⟨tmps, ds⟩ : Act).eval y = yv at rb
    cases ra with
    | agg _ us hl1 hr1 =>
      cases rb with
      | agg _ vs hl2 hr2 =>
        refine left_one h hr fun z hz => ?_
        obtain ⟨v, hg, hv, hc⟩ := rel_binA (P := P) (c := ⟨w, ok, X.rd, β, mem, al⟩) (x := x) (y := y) hz ⟨hl1, hr1⟩ ⟨hl2, hr2⟩
        refine ⟨v, ?_, hc⟩
        rw [hx, hy]
        simp only [Sem.run_bind, hg, Result.andThen_ok]
        exact hv
  · cases hr
theorem left_unOp {op : UnOp} {t : TypeId} {x : Operand} (hr : (semOp P C (.unOp op t x) ty (⟨env, mem⟩ : St).ev id).run1 mem = some out) : Left P X env mem al tmps w new (execOp (⟨tmps, ds⟩ : Act).eval ⟨dst, .unOp op t x, ty, pos, aft, gd⟩) out := by
  simp only [semOp] at hr
  split at hr
  · rename_i a ha
    exact left_one h hr fun z hz => rel_unC (P := P) (c := ⟨w, ok, X.rd, β, mem, al⟩) hz (ev_one ds h ha)
  · cases hr
theorem left_fieldAddr {t : TypeId} {x : Operand} {f : Nat} (hr : (semOp P C (.fieldAddr t x f) ty (⟨env, mem⟩ : St).ev id).run1 mem = some out) : Left P X env mem al tmps w new (execOp (⟨tmps, ds⟩ : Act).eval ⟨dst, .fieldAddr t x f, ty, pos, aft, gd⟩) out := by
  simp only [semOp] at hr
  split at hr
  · rename_i a o n g ha hf
    exact left_one h hr fun z hz => rel_fieldAddr (P := P) (c := ⟨w, ok, X.rd, β, mem, al⟩) hf hz (ev_one ds h ha)
  · cases hr
theorem left_extract {x : Operand} {i : Nat} (hr : (semOp P C (.extract x i) ty (⟨env, mem⟩ : St).ev id).run1 mem = some out) : Left P X env mem al tmps w new (execOp (⟨tmps, ds⟩ : Act).eval ⟨dst, .extract x i, ty, pos, aft, gd⟩) out := by
  simp only [semOp] at hr
  split at hr
  · rename_i vs ha
    split at hr
    · rename_i v hv
      obtain rfl := ret_run1 hr
      have := h.ev ds x none
      rw [ha] at this
      obtain ⟨us, e, hl, hrel⟩ : ∃ us : List Value, (⟨tmps, ds⟩ : Act).eval x = .tuple us.toArray ∧ us.length = vs.length ∧ (∀ (j : Nat) v u, vs[j]? = some v → us[j]? = some u → RelV w ok X.rd β (kds mem) al v u) := by
        generalize (⟨tmps, ds⟩ : Act).eval x = cv at this
        cases this
        exact ⟨_, rfl, by assumption, by assumption⟩
      have hlt : i < vs.length := by
        rcases Nat.lt_or_ge i vs.length with h | h
        · exact h
        · rw [List.getElem?_eq_none h] at hv; cases hv
      have hu : us[i]? = some us[i] := List.getElem?_eq_getElem (by omega)
      refine .read h (s := Instr.extract ((⟨tmps, ds⟩ : Act).eval x) i) (v := us[i]) ?_ (hrel i v _ hv hu)
      rw [e]
      simp [Instr.extract, hu]
    · cases hr
  · cases hr
theorem left_nilCheck {x : Operand} (hr : (semOp P C (.nilCheck x) ty (⟨env, mem⟩ : St).ev id).run1 mem = some out) : Left P X env mem al tmps w new (execOp (⟨tmps, ds⟩ : Act).eval ⟨dst, .nilCheck x, ty, pos, aft, gd⟩) out := by
  have base : ∀ c, (⟨env, mem⟩ : St).ev x none = .one c → (∃ ad, (⟨tmps, ds⟩ : Act).eval x = .pointer (some ad)) ∨ (∃ f us, (⟨tmps, ds⟩ : Act).eval x = .func (.func f) #[] us) → Left P X env mem al tmps w new (execOp (⟨tmps, ds⟩ : Act).eval ⟨dst, .nilCheck x, ty, pos, aft, gd⟩) ⟨.one c, []⟩ := by
    intro c hc hv
    have hs : execOp (⟨tmps, ds⟩ : Act).eval ⟨dst, .nilCheck x, ty, pos, aft, gd⟩ = (do pure (.value (← (pure ((⟨tmps, ds⟩ : Act).eval x) : Sem Value))) : Sem Next) := by
      rcases hv with ⟨ad, hv⟩ | ⟨f, us, hv⟩ <;> simp [execOp, hv]
    rw [hs]
    exact .read h rfl (.one _ _ (ev_one ds h hc))
  simp only [semOp] at hr
  split at hr
  · rename_i i o he
    simp only [Rd.run1_get] at hr
    cases hm : mem.getD i .dead <;> rw [hm] at hr <;> try (cases hr; done)
    obtain rfl := ret_run1 hr
    have he' := ev_one ds h he
    refine base _ he (.inl ?_)
    generalize (⟨tmps, ds⟩ : Act).eval x = cv at he'
    obtain ⟨b, _, rfl⟩ := he'.ptr_inv (by show (mem.getD i .dead).kd = _; rw [hm]; rfl)
    exact ⟨_, rfl⟩
  · rename_i i k o he
    simp only [Rd.run1_get] at hr
    cases hm : mem.getD i .dead <;> rw [hm] at hr <;> try (cases hr; done)
    all_goals
      rename_i t' xs'
      obtain rfl := ret_run1 hr
      have he' := ev_one ds h he
      refine base _ he (.inl ?_)
      generalize (⟨tmps, ds⟩ : Act).eval x = cv at he'
      obtain ⟨b, q, n, c1, _, rfl⟩ := he'.eptr_inv t' (by show (mem.getD i .dead).kd = _; rw [hm]; rfl)
      exact ⟨_, rfl⟩
  · rename_i cs he
    obtain rfl := ret_run1 hr
    have he' := ev_one ds h he
    refine base _ he (.inl ?_)
    generalize (⟨tmps, ds⟩ : Act).eval x = cv at he'
    cases he'
    exact ⟨_, rfl⟩
  · rename_i f cs he
    obtain rfl := ret_run1 hr
    have he' := ev_one ds h he
    refine base _ he (.inr ?_)
    generalize (⟨tmps, ds⟩ : Act).eval x = cv at he'
    cases he'
    exact ⟨_, _, rfl⟩
  · cases hr
end ops
end
end Go.Sk
