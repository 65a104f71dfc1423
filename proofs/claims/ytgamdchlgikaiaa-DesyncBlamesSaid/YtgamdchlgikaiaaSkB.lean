/- The evaluator: regions, segments of code as trees, their runs and the limit of these. -/
import Derived.Test.YtgamdchlgikaiaaSkA
namespace Go.Sk
open Go

/-! ### trees -/
inductive KI where      -- what is still to be done, as the model's own list of items
  | code (c : Code) | blk (id : Nat) | lp (b : Code) | scp (b : Code) | jn

inductive Tree where
  | fail
  | leaf (ks : List KI) (s : St)
  | fin (v : V) (m : List Obj)
  | br (c : Bool) (x y : Tree)
  | opt (t : Ty) (o : Option (El t)) (k : El t → Tree)
  | call (f : FuncId) (args : List V) (mem : List Obj) (ρ : RD) (k : ρ.El → Tree)

def Tree.interp {R : Type} (call : (f : FuncId) → List V → List Obj → (ρ : RD) → Option ρ.El) (leaf : List KI → St → Option R) (fin : V → List Obj → Option R) : Tree → Option R
  | .fail => none
  | .leaf ks s => leaf ks s
  | .fin v m => fin v m
  | .br c x y => bif c then x.interp call leaf fin else y.interp call leaf fin
  | .opt _ o k => o.bind fun x => (k x).interp call leaf fin
  | .call f as m ρ k => (call f as m ρ).bind fun x => (k x).interp call leaf fin

def Rd.toTree {α : Type} (m : List Obj) : Rd α → List Nat → (α → List Nat → Tree) → Tree
  | .ret a, l, k => k a l
  | .fail, _, _ => .fail
  | .get i f, l, k => (f (m.getD i .dead)).toTree m (i :: l) k
  | .guard c x, l, k => .br c (x.toTree m l k) .fail
  | .split c x y, l, k => .br c (x.toTree m l k) (y.toTree m l k)
  | .opt t o f, l, k => .opt t o fun x => (f x).toTree m l k
  | .call f as me ρ g, l, k => .call f as me ρ fun x => (g x).toTree m l k

/-- without calls: what it comes to -/
def Rd.run1 {α : Type} (m : List Obj) : Rd α → Option α
  | .ret a => some a
  | .fail => none
  | .get i f => (f (m.getD i .dead)).run1 m
  | .guard c x => bif c then x.run1 m else none
  | .split c x y => bif c then x.run1 m else y.run1 m
  | .opt _ o f => o.bind fun x => (f x).run1 m
  | .call .. => none

/-! ### states -/
def St.ev (s : St) : Operand → Option Ty → V
  | .tmp t, _ => s.env.getD t uv
  | .const (.agg cs), _ => .agg (cs.toList.map (ofConst none))
  | .const (.tuple _), _ => uv
  | .const v, t => .one (ofConst t v)
  | .func f, _ => .one (.fn f [])
  | .global _, _ => uv
def St.set (s : St) (t : Nat) (v : V) : St := { s with env := s.env.set t v }
def St.put (s : St) (d : Option Tmp) (v : V) : St :=
  match d with
  | some t => s.set t v
  | none => s
def wr : List Obj → Nat → Obj → List Obj
  | [], 0, o => [o]
  | [], n + 1, o => .dead :: wr [] n o
  | _ :: r, 0, o => o :: r
  | x :: r, n + 1, o => x :: wr r n o
def wrs : List Obj → List (Nat × Obj) → List Obj
  | m, [] => m
  | m, (i, o) :: r => wrs (wr m i o) r
def St.write (s : St) (ws : List (Nat × Obj)) : St := { s with mem := wrs s.mem ws }

/-! ### which temporaries are still read -/
def bit (t : Nat) : Nat := 2 ^ t
def clear (L t : Nat) : Nat := Nat.xor (Nat.lor L (bit t)) (bit t)
def opMask : Operand → Nat
  | .tmp t => bit t
  | _ => 0
def opsMask : List Operand → Nat
  | [] => 0
  | x :: r => Nat.lor (opMask x) (opsMask r)
def guardTmp (ops : Array Oper) (j : Nat) : Option Tmp := (ops[j]?).bind (·.dst)
def liveOp (ops : Array Oper) (o : Oper) (L : Nat) : Nat :=
  let L := match o.dst with | some d => clear L d | none => L
  let L := Nat.lor L (opsMask o.op.operands.toList)
  match o.guard with
  | some (j, _) => (match guardTmp ops j with | some d => Nat.lor L (bit d) | none => L)
  | none => L
def liveOps (ops : Array Oper) : List Oper → Nat → Nat
  | [], L => L
  | o :: r, L => liveOp ops o (liveOps ops r L)
def lookL : List (Nat × Nat) → Nat → Nat
  | [], _ => 0
  | (i, L) :: r, j => bif i == j then L else lookL r j
def liveIn (ret all : Nat) : Code → Nat → List (Nat × Nat) → Nat
  | .skip, L, _ => L
  | .label _, L, _ => L
  | .region _ ops _, L, _ => liveOps ops ops.toList L
  | .seq a b, L, e => liveIn ret all a (liveIn ret all b L e) e
  | .cond c x y, L, e => Nat.lor (opMask c) (Nat.lor (liveIn ret all x L e) (liveIn ret all y L e))
  | .block id b, L, e => liveIn ret all b L ((id, L) :: e)
  | .loop b, _, e => liveIn ret all b (liveIn ret all b (liveIn ret all b 0 e) e) e
  | .scope b, L, e => liveIn ret all b L e
  | .exit id, _, e => lookL e id
  | .goto _, _, _ => all
  | .ret, _, _ => ret
  | _, _, _ => all
def liveKs (ret all : Nat) : List KI → Nat × List (Nat × Nat)
  | [] => (ret, [])
  | .code c :: k => let (L, e) := liveKs ret all k; (liveIn ret all c L e, e)
  | .blk id :: k => let (L, e) := liveKs ret all k; (L, (id, L) :: e)
  | .lp b :: k => let (_, e) := liveKs ret all k; (liveIn ret all (.loop b) 0 e, e)
  | .scp _ :: k => liveKs ret all k
  | .jn :: k => liveKs ret all k

/-! ### the form of a state at a cut: what is dead is forgotten, objects are numbered anew -/
def maskEnv (L : Nat) : Nat → List V → List V
  | _, [] => []
  | i, v :: r => (bif Nat.testBit L i then v else uv) :: maskEnv L (i + 1) r
/-- a nil slice becomes an owned row of no element -/
def ownCs : Nat → List CV → List CV × List Obj
  | _, [] => ([], [])
  | n, .nils t :: r => let (cs, os) := ownCs (n + 1) r; (.osl n :: cs, .row t [] :: os)
  | n, c :: r => let (cs, os) := ownCs n r; (c :: cs, os)
def ownVs : Nat → List V → List V × List Obj
  | _, [] => ([], [])
  | n, .one (.nils t) :: r => let (vs, os) := ownVs (n + 1) r; (.one (.osl n) :: vs, .row t [] :: os)
  | n, v :: r => let (vs, os) := ownVs n r; (v :: vs, os)
def ownOs : Nat → List Obj → List Obj × List Obj
  | _, [] => ([], [])
  | n, .cells cs :: r => let (cs, o) := ownCs n cs; let (os, q) := ownOs (n + o.length) r; (.cells cs :: os, o ++ q)
  | n, x :: r => let (os, q) := ownOs n r; (x :: os, q)
def Obj.isDead : Obj → Bool
  | .dead => true
  | _ => false
def reach (m : List Obj) : Nat → List Nat → List Nat → List Nat
  | 0, _, acc => acc
  | _ + 1, [], acc => acc
  | n + 1, i :: r, acc => bif hasNat acc i || (m.getD i .dead).isDead then reach m n r acc else reach m n (idsO (m.getD i .dead) ++ r) (acc ++ [i])
def renOs (g : Nat → Option Nat) (m : List Obj) : List Nat → List Obj
  | [] => []
  | i :: r => renO g (m.getD i .dead) :: renOs g m r
def gRoot (m : List Obj) : List Nat :=
  match m.getD 0 .dead with
  | .ghost _ => [0]
  | _ => []
def norm (L : Nat) (s : St) : St :=
  let e := maskEnv L 0 s.env
  let n := s.mem.length
  let (e, os) := ownVs n e
  let (m, q) := ownOs (n + os.length) s.mem
  let m := m ++ os ++ q
  let ids := reach m 400 (gRoot m ++ idsVs e) []
  let g := fun i => posOf ids i 0
  ⟨renVs g e, renOs g m ids⟩

/-! ### regions -/
section
variable (P : Program) (C : Cfg)

/-- an operation as the order's check sees it: the objects that it reads and writes; the temporaries that it looks at and yields -/
structure En where
  reads : List Nat
  writes : List Nat
  looks : Nat
  dst : Nat
def padTo (n : Nat) (m : List Obj) : List Obj := m ++ List.replicate (n - m.length) .dead
def dstMask (o : Oper) : Nat := match o.dst with | some d => bit d | none => 0
def looksMask (ops : Array Oper) (o : Oper) : Nat :=
  match o.guard with
  | some (j, _) => (match guardTmp ops j with | some d => Nat.lor (opsMask o.op.operands.toList) (bit d) | none => opsMask o.op.operands.toList)
  | none => opsMask o.op.operands.toList
def enOf (ops : Array Oper) (o : Oper) (rs ws : List Nat) : En := ⟨rs, ws, looksMask ops o, dstMask o⟩

def evOps (ops : Array Oper) : List Oper → Nat → St → List En → (St → List En → Tree) → Tree
  | [], nx, s, lg, k => k { s with mem := padTo nx s.mem } lg
  | o :: r, nx, s, lg, k =>
    let go (s : St) : Tree := (semOp P C o.op o.type s.ev nx).toTree s.mem [] fun out rs =>
      evOps ops r (nx + newOf P C o.op s.ev) ((s.put o.dst out.v).write out.ws) (enOf ops o rs (out.ws.map (·.1)) :: lg) k
    let skip (s : St) : Tree := evOps ops r nx (s.put o.dst (.tup [])) (enOf ops o [] [] :: lg) k
    match o.guard with
    | none => go s
    | some (j, want) =>
      match guardTmp ops j with
      | none => .fail
      | some d =>
        match s.env.getD d uv with
        | .one (.bool b) => .br b (let s := s.set d (.one (.bool true)); bif want then go s else skip s) (let s := s.set d (.one (.bool false)); bif want then skip s else go s)
        | .tup [] => skip s
        | _ => .fail

def meets : List Nat → List Nat → Bool
  | [], _ => false
  | a :: r, b => hasNat b a || meets r b
/-- two operations, the earlier one first, that may be done in any order -/
def apart (a b : En) : Bool :=
  Nat.beq (Nat.land a.dst (Nat.lor b.looks b.dst)) 0 && Nat.beq (Nat.land a.looks b.dst) 0 &&
  (!meets a.writes b.reads && !meets a.writes b.writes && !meets a.reads b.writes)
/-- the numbers of those before an operation; nums: those of the operations so far, the last first; j: how many -/
def look (nums : List Nat) (j i : Nat) : Nat := bif Nat.blt i j then nums.getD (j - 1 - i) 0 else 0
def befOf (nums : List Nat) (j : Nat) : List Edge → Nat
  | [] => 0
  | e :: r => bif Region.binds .any e then Nat.lor (Nat.lor (bit e.on) (look nums j e.on)) (befOf nums j r) else befOf nums j r
/-- against the operations before it, the last first; i: how many -/
def against (b : Nat) (e : En) : Nat → List En → Bool
  | i + 1, a :: r => (Nat.testBit b i || apart a e) && against b e i r
  | _, _ => true
def force {α : Type} (n : Nat) (k : Nat → α) : α := match n with | 0 => k 0 | m + 1 => k (m + 1)
def edgesOk (j : Nat) : List Edge → Bool
  | [] => true
  | e :: r => (!Region.binds .any e || Nat.blt e.on j) && edgesOk j r
/-- operations that no order binds do not meet -/
def orderOk : List Oper → List En → Nat → List Nat → List En → Bool
  | o :: r, e :: es, j, nums, ens => force (befOf nums j o.after.toList) fun b => against b e j ens && edgesOk j o.after.toList && orderOk r es (j + 1) (b :: nums) (e :: ens)
  | [], [], _, _, _ => true
  | _, _, _, _, _ => false
def hasGuard : List Oper → Bool
  | [] => false
  | o :: r => o.guard.isSome || hasGuard r

def falls : Code → Bool
  | .seq a b => falls a && falls b
  | .cond _ x y => falls x || falls y
  | .exit _ | .ret | .goto _ | .refuse _ => false
  | .loop _ => false
  | _ => true

def exitK (id : Nat) : List KI → Option (List KI)
  | [] => none
  | .blk i :: k => bif i == id then some k else exitK id k
  | _ :: k => exitK id k
def gotoK (l : Nat) : List KI → Option (List KI)
  | [] => none
  | .scp b :: k => match findLabel b l with
    | some c => some (.code c :: .scp b :: k)
    | none => gotoK l k
  | _ :: k => gotoK l k

/-! ### segments -/
structure Fx where      -- what is asked of the function
  results : List ResultVar
  ntmps : Nat
  ret : Nat
  all : Nat

def resMask : List ResultVar → Nat
  | [] => 0
  | .tmp t :: r => Nat.lor (bit t) (resMask r)
  | .cell t _ :: r => Nat.lor (bit t) (resMask r)
def fxOf (f : FuncId) : Fx :=
  match P.funcs[f]? with
  | some fn => ⟨fn.results.toList, fn.ntmps, resMask fn.results.toList, 2 ^ fn.ntmps - 1⟩
  | none => ⟨[], 0, 0, 0⟩
def resV (s : St) : List ResultVar → Option (List V)
  | [] => some []
  | .tmp t :: r => (resV s r).map (s.env.getD t uv :: ·)
  | .cell t ty :: r => match s.env.getD t uv, sizeAt P ty, aggAt P ty with
    | .one (.ptr i o), some n, some g => match s.mem.getD i .dead, resV s r with
      | .cells cs, some vs => bif ((cs.drop o).take n).length == n then (match (mkV g ((cs.drop o).take n)).run1 [] with
        | some v => some (v :: vs)
        | none => none) else none
      | _, _ => none
    | _, _, _ => none
/-- views of owned rows become rows before they are handed back -/
def settleC (c : CV) (m : List Obj) (k : CV → List Obj → Tree) : Tree :=
  match c with
  | .ovw i o n => match m.getD i .dead with
    | .row t xs => .br (decide (o + n ≤ xs.length)) (k (.osl m.length) (wr (wr m i .dead) m.length (.row t ((xs.drop o).take n)))) .fail
    | .full t xs => .br (decide (o + n ≤ xs.length)) (k (.osl m.length) (wr (wr m i .dead) m.length (.row t ((xs.drop o).take n)))) .fail
    | _ => k c m
  | c => k c m
def settleCs : List CV → List Obj → (List CV → List Obj → Tree) → Tree
  | [], m, k => k [] m
  | c :: r, m, k => settleC c m fun c m => settleCs r m fun r m => k (c :: r) m
def settleV (v : V) (m : List Obj) (k : V → List Obj → Tree) : Tree :=
  match v with
  | .one c => settleC c m fun c m => k (.one c) m
  | .agg cs => settleCs cs m fun cs m => k (.agg cs) m
  | v => k v m
def settleVs : List V → List Obj → (List V → List Obj → Tree) → Tree
  | [], m, k => k [] m
  | v :: r, m, k => settleV v m fun v m => settleVs r m fun r m => k (v :: r) m
def finT (fx : Fx) (s : St) : Tree :=
  match resV P s fx.results with
  | some vs => settleVs vs s.mem fun vs m => .fin (tupV vs) m
  | none => .fail
def cutAt (fx : Fx) (ks : List KI) (s : St) : Tree := .leaf ks (norm (liveKs fx.ret fx.all ks).1 s)

def seg (fx : Fx) : Nat → List KI → St → Tree
  | 0, _, _ => .fail
  | n + 1, ks, s =>
    match ks with
    | [] => finT P fx s
    | .jn :: k => cutAt fx k s
    | .blk _ :: k => seg fx n k s
    | .scp _ :: k => seg fx n k s
    | .lp b :: k => cutAt fx (.lp b :: k) s
    | .code c :: k =>
      match c with
      | .skip => seg fx n k s
      | .label _ => seg fx n k s
      | .seq a b => seg fx n (.code a :: .code b :: k) s
      | .region _ ops draw => evOps P C ops ops.toList s.mem.length s [] fun s lg =>
        bif !draw || orderOk ops.toList lg.reverse 0 [] [] then (bif hasGuard ops.toList then cutAt fx k s else seg fx n k s) else .fail
      | .cond c x y => match s.ev c none with
        | .one (.bool b) =>
          let k := bif falls x && falls y then .jn :: k else k
          .br b (seg fx n (.code x :: k) s) (seg fx n (.code y :: k) s)
        | _ => .fail
      | .block id b => seg fx n (.code b :: .blk id :: k) s
      | .loop b => cutAt fx (.lp b :: k) s
      | .scope b => seg fx n (.code b :: .scp b :: k) s
      | .exit id => match exitK id k with
        | some k => seg fx n k s
        | none => .fail
      | .goto l => match gotoK l k with
        | some k => cutAt fx k s
        | none => .fail
      | .ret => finT P fx s
      | _ => .fail
def segFuel : Nat := 100000
def seg0 (fx : Fx) : List KI → St → Tree
  | .lp b :: k, s => seg P C fx segFuel (.code b :: .lp b :: k) s
  | ks, s => seg P C fx segFuel ks s

/-! ### how a function begins and ends -/
def bodyOf (f : FuncId) : Code := match P.funcs[f]? with
  | some fn => (match fn.body with | some c => c | none => .refuse "")
  | none => .refuse ""
def entry (f : FuncId) : List KI := [.code (bodyOf P f)]
def padV : Nat → List V → List V
  | 0, vs => vs
  | n + 1, [] => uv :: padV n []
  | n + 1, v :: r => v :: padV n r
def initS (f : FuncId) (args : List V) (mem : List Obj) : St := ⟨padV (fxOf P f).ntmps args, mem⟩
end

/-! ### words of the printed texts -/
def mkE (n : Nat) (l : List (Nat × V)) : List V := go (List.replicate n uv) l
where
  go : List V → List (Nat × V) → List V
    | e, [] => e
    | e, (i, v) :: r => go (e.set i v) r
def sub : Code → List Nat → Code
  | c, [] => c
  | .seq a b, i :: r => match i with | 0 => sub a r | _ => sub b r
  | .cond _ x y, i :: r => match i with | 0 => sub x r | _ => sub y r
  | .block _ b, _ :: r => sub b r
  | .loop b, _ :: r => sub b r
  | .scope b, _ :: r => sub b r
  | c, _ => c
def cdIn (P : Program) (f : FuncId) (p : List Nat) : KI := .code (sub (bodyOf P f) p)
def lpIn (P : Program) (f : FuncId) (p : List Nat) : KI := .lp (sub (bodyOf P f) p)
def scIn (P : Program) (f : FuncId) (p : List Nat) : KI := .scp (sub (bodyOf P f) p)

/-! ### results -/
def takeOwn (m : List Obj) (t : Ty) : CV → Option (List (El t) × List Nat)
  | .nils _ => some ([], [])
  | .osl i => match m.getD i .dead with
    | .row t' xs => match decS t t' xs with | some ys => some (ys, [i]) | none => none
    | _ => none
  | .ovw i o n => match m.getD i .dead with
    | .row t' xs => match decS t t' xs with | some ys => bif decide (o + n ≤ ys.length) then some ((ys.drop o).take n, [i]) else none | none => none
    | _ => none
  | _ => none
def takeMap (m : List Obj) (kt vt : Ty) (g b : Bool) : CV → Option (List (El kt × El vt) × List Nat)
  | .osl i => match m.getD i .dead with
    | .map kt' vt' g' es tidy => bif (g' == g) && (tidy == b) then (match decM kt vt kt' vt' es with | some es => some (es, [i]) | none => none) else none
    | _ => none
  | _ => none
structure Got (α : Type) where
  x : α
  rest : List CV
  owned : List Nat
  read : List Nat
def unpack (m : List Obj) : (r : RT) → List CV → Option (Got r.El)
  | .ty t, cs => match (dataCs (cs.take t.size)).run1 m with
    | some ps => match decAll t ps with
      | some x => some ⟨x, cs.drop t.size, [], rowsD (cs.take t.size)⟩
      | none => none
    | none => none
  | .own t, c :: cs => match takeOwn m t c with
    | some (xs, is) => some ⟨xs, cs, is, []⟩
    | none => none
  | .own _, [] => none
  | .cat a b, cs => match unpack m a cs with
    | some g => match unpack m b g.rest with
      | some h => some ⟨(g.x, h.x), h.rest, g.owned ++ h.owned, g.read ++ h.read⟩
      | none => none
    | none => none
  | .nothing, cs => some ⟨(), cs, [], []⟩
  | .keep _, _ => none
  | .map kt vt g b, c :: cs => match takeMap m kt vt g b c with
    | some (es, is) => some ⟨es, cs, is, []⟩
    | none => none
  | .map .., [] => none
def unpackVD (m : List Obj) : (d : VD) → V → Option (Got d.rt.El)
  | .one r, .one c => match unpack m r [c] with
    | some ⟨x, [], a, b⟩ => some ⟨x, [], a, b⟩
    | _ => none
  | .agg r, .agg cs => match unpack m r cs with
    | some ⟨x, [], a, b⟩ => some ⟨x, [], a, b⟩
    | _ => none
  | _, _ => none
def unpackVs (m : List Obj) : (ds : List VD) → List V → Option (Got (ElV ds))
  | [], [] => some ⟨(), [], [], []⟩
  | [d], [v] => unpackVD m d v
  | d :: e :: r, v :: vs => match unpackVD m d v, unpackVs m (e :: r) vs with
    | some g, some h => some ⟨(g.x, h.x), [], g.owned ++ h.owned, g.read ++ h.read⟩
    | _, _ => none
  | _, _ => none
def nodupB : List Nat → Bool
  | [] => true
  | a :: r => !hasNat r a && nodupB r
def valsOf (n : Nat) (v : V) : List V :=
  match n, v with
  | 1, v => [v]
  | _, .tup vs => vs
  | _, v => [v]
/-- what the roots lead to -/
def rootVs (m : List Obj) : List CV → Option (List V × List Nat)
  | [] => some ([], [])
  | .ptr j 0 :: r => match m.getD j .dead, rootVs m r with
    | .cells [c], some (vs, is) => some (.one c :: vs, j :: is)
    | .cells cs, some (vs, is) => some (.agg cs :: vs, j :: is)
    | _, _ => none
  | .osl j :: r => match m.getD j .dead, rootVs m r with
    | .row _ _, some (vs, is) => some (.one (.osl j) :: vs, is)
    | .map .., some (vs, is) => some (.one (.osl j) :: vs, is)
    | _, _ => none
  | _ => none
def ghostCs (m : List Obj) : List CV :=
  match m.getD 0 .dead with
  | .ghost cs => cs
  | _ => []
def finR (ρ : RD) (v : V) (m : List Obj) : Option ρ.El :=
  match rootVs m (match ρ.roots with | 0 => [] | _ => ghostCs m) with
  | some (rvs, is) => match unpackVs m ρ.vals (valsOf (ρ.vals.length - ρ.roots) v ++ rvs) with
    | some g => bif nodupB g.owned && !meets g.owned g.read && !meets is g.owned && !meets is g.read && rvs.length == ρ.roots then some g.x else none
    | none => none
  | none => none

/-! ### runs and their limit -/
/-- a call: what is told of it, or what it comes to -/
def orPrim (C : Cfg) (call : (f : FuncId) → List V → List Obj → (ρ : RD) → Option ρ.El) (f : FuncId) (args : List V) (m : List Obj) (ρ : RD) : Option ρ.El :=
  match C.prim f args m ρ with
  | some x => some x
  | none => call f args m ρ
def run (P : Program) (C : Cfg) : Nat → FuncId → (ρ : RD) → List KI → St → Option ρ.El
  | 0, _, _, _, _ => none
  | n + 1, f, ρ, ks, s => (seg0 P C (fxOf P f) ks s).interp (orPrim C fun g as m σ => run P C n g σ (entry P g) (initS P g as m)) (fun ks s => run P C n f ρ ks s) (finR ρ)

open Classical in
noncomputable def lim (P : Program) (C : Cfg) (f : FuncId) (ρ : RD) (ks : List KI) (s : St) : Option ρ.El :=
  if h : ∃ x n, run P C n f ρ ks s = some x then some h.choose else none
noncomputable def callF (P : Program) (C : Cfg) (f : FuncId) (args : List V) (mem : List Obj) (ρ : RD) : Option ρ.El := lim P C f ρ (entry P f) (initS P f args mem)
noncomputable def callX (P : Program) (C : Cfg) := orPrim C (callF P C)

section mono
variable {R : Type}
theorem interp_mono {c c' : (f : FuncId) → List V → List Obj → (ρ : RD) → Option ρ.El} {l l' : List KI → St → Option R} {fin : V → List Obj → Option R}
    (hc : ∀ f as m ρ x, c f as m ρ = some x → c' f as m ρ = some x) (hl : ∀ ks s x, l ks s = some x → l' ks s = some x) :
    ∀ (T : Tree) (x : R), T.interp c l fin = some x → T.interp c' l' fin = some x := by
  intro T
  induction T with
  | fail => intro x h; simp [Tree.interp] at h
  | leaf ks s => intro x h; exact hl _ _ _ h
  | fin v m => intro x h; exact h
  | br b p q ihp ihq => intro x h; cases b <;> simp only [Tree.interp, cond] at h ⊢ <;> first | exact ihq _ h | exact ihp _ h
  | opt t o k ih =>
    intro x h
    simp only [Tree.interp] at h ⊢
    cases o with
    | none => simp at h
    | some y => simp only [Option.bind_some] at h ⊢; exact ih _ _ h
  | call f as m ρ k ih =>
    intro x h
    simp only [Tree.interp] at h ⊢
    cases hy : c f as m ρ with
    | none => rw [hy] at h; simp at h
    | some y => rw [hy] at h; rw [hc _ _ _ _ _ hy]; simp only [Option.bind_some] at h ⊢; exact ih _ _ h

theorem orPrim_mono {C : Cfg} {c c' : (f : FuncId) → List V → List Obj → (ρ : RD) → Option ρ.El} (hc : ∀ f as m ρ x, c f as m ρ = some x → c' f as m ρ = some x) :
    ∀ f as m ρ x, orPrim C c f as m ρ = some x → orPrim C c' f as m ρ = some x := by
  intro f as m ρ x h
  unfold orPrim at h ⊢
  split <;> rename_i hp <;> rw [hp] at h
  · exact h
  · exact hc _ _ _ _ _ h
theorem run_mono (P : Program) (C : Cfg) : ∀ (n : Nat) (f : FuncId) (ρ : RD) (ks : List KI) (s : St) (x : ρ.El), run P C n f ρ ks s = some x → run P C (n + 1) f ρ ks s = some x
  | 0, _, _, _, _, _, h => by simp [run] at h
  | n + 1, f, ρ, ks, s, x, h => by
    rw [run] at h ⊢
    exact interp_mono (orPrim_mono fun g as m σ y hy => run_mono P C n g σ _ _ y hy) (fun ks s y hy => run_mono P C n f ρ ks s y hy) _ _ h
theorem run_le (P : Program) (C : Cfg) {n m : Nat} (hnm : n ≤ m) (f : FuncId) (ρ : RD) (ks : List KI) (s : St) (x : ρ.El) (h : run P C n f ρ ks s = some x) : run P C m f ρ ks s = some x := by
  induction hnm with
  | refl => exact h
  | step _ ih => exact run_mono P C _ f ρ ks s x ih
theorem lim_of_run {P : Program} {C : Cfg} {n : Nat} {f : FuncId} {ρ : RD} {ks : List KI} {s : St} {x : ρ.El} (h : run P C n f ρ ks s = some x) : lim P C f ρ ks s = some x := by
  have hx : ∃ x n, run P C n f ρ ks s = some x := ⟨x, n, h⟩
  unfold lim
  rw [dif_pos hx]
  obtain ⟨m, hm⟩ := hx.choose_spec
  have h1 := run_le P C (Nat.le_max_left n m) f ρ ks s _ h
  have h2 := run_le P C (Nat.le_max_right n m) f ρ ks s _ hm
  rw [h1] at h2
  exact h2.symm
theorem run_of_lim {P : Program} {C : Cfg} {f : FuncId} {ρ : RD} {ks : List KI} {s : St} {x : ρ.El} (h : lim P C f ρ ks s = some x) : ∃ n, run P C n f ρ ks s = some x := by
  unfold lim at h
  by_cases hx : ∃ x n, run P C n f ρ ks s = some x
  · rw [dif_pos hx] at h
    obtain ⟨m, hm⟩ := hx.choose_spec
    exact ⟨m, hm.trans h⟩
  · rw [dif_neg hx] at h; simp at h

theorem interp_lim {P : Program} {C : Cfg} {f : FuncId} {ρ : RD} : ∀ (T : Tree) (x : ρ.El),
    T.interp (callX P C) (lim P C f ρ) (finR ρ) = some x →
    ∃ n, T.interp (orPrim C fun g as m σ => run P C n g σ (entry P g) (initS P g as m)) (fun ks s => run P C n f ρ ks s) (finR ρ) = some x := by
  intro T
  induction T with
  | fail => intro x h; simp [Tree.interp] at h
  | leaf ks s => intro x h; exact run_of_lim h
  | fin v m => intro x h; exact ⟨0, h⟩
  | br b p q ihp ihq => intro x h; cases b <;> simp only [Tree.interp, cond] at h ⊢ <;> first | exact ihq _ h | exact ihp _ h
  | opt t o k ih =>
    intro x h
    simp only [Tree.interp] at h ⊢
    cases o with
    | none => simp at h
    | some y => simp only [Option.bind_some] at h ⊢; exact ih _ _ h
  | call g as m σ k ih =>
    intro x h
    simp only [Tree.interp] at h ⊢
    cases hy : callX P C g as m σ with
    | none => rw [hy] at h; simp at h
    | some y =>
      rw [hy] at h; simp only [Option.bind_some] at h
      obtain ⟨n, hn⟩ := ih _ _ h
      obtain ⟨n', hn'⟩ : ∃ n', orPrim C (fun g as m σ => run P C n' g σ (entry P g) (initS P g as m)) g as m σ = some y := by
        unfold callX orPrim at hy
        unfold orPrim
        split at hy
        · exact ⟨0, hy⟩
        · exact run_of_lim hy
      refine ⟨max n n', ?_⟩
      rw [orPrim_mono (fun g as m σ y hy => run_le P C (Nat.le_max_right n n') _ _ _ _ _ hy) _ _ _ _ _ hn']
      simp only [Option.bind_some]
      exact interp_mono (orPrim_mono fun g as m σ y hy => run_le P C (Nat.le_max_left n n') _ _ _ _ _ hy) (fun ks s y hy => run_le P C (Nat.le_max_left n n') _ _ _ _ _ hy) _ _ hn

/-- the limit is a fixed point: one segment, then the limit again -/
theorem lim_step (P : Program) (C : Cfg) (f : FuncId) (ρ : RD) (ks : List KI) (s : St) :
    lim P C f ρ ks s = (seg0 P C (fxOf P f) ks s).interp (callX P C) (lim P C f ρ) (finR ρ) := by
  apply Option.ext
  intro x
  constructor
  · intro h
    obtain ⟨n, hn⟩ := run_of_lim h
    cases n with
    | zero => simp [run] at hn
    | succ n => exact interp_mono (orPrim_mono fun g as m σ y hy => lim_of_run hy) (fun ks s y hy => lim_of_run hy) _ _ hn
  · intro h
    obtain ⟨n, hn⟩ := interp_lim _ _ h
    exact lim_of_run (n := n + 1) hn
end mono
end Go.Sk
