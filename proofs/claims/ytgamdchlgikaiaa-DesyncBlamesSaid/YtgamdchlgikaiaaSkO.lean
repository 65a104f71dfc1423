/- Runs of operations with their calls and their reads, and all operations but calls of functions at once. -/
import Derived.Test.YtgamdchlgikaiaaSkN
set_option linter.unusedSimpArgs false
set_option linter.unusedVariables false
set_option linter.unusedSectionVars false
namespace Go.Sk
open Go

@[reducible] def CallF := (f : FuncId) → List V → List Obj → (ρ : RD) → Option ρ.El
/-- with calls, and what is read -/
def Rd.runL {α : Type} (call : CallF) (m : List Obj) : Rd α → List Nat → Option (α × List Nat)
  | .ret a, l => some (a, l)
  | .fail, _ => none
  | .get i f, l => (f (m.getD i .dead)).runL call m (i :: l)
  | .guard c x, l => bif c then x.runL call m l else none
  | .split c x y, l => bif c then x.runL call m l else y.runL call m l
  | .opt _ o f, l => o.bind fun x => (f x).runL call m l
  | .call f as me ρ g, l => (call f as me ρ).bind fun x => (g x).runL call m l
/-- with calls -/
def Rd.runC {α : Type} (call : CallF) (m : List Obj) : Rd α → Option α
  | .ret a => some a
  | .fail => none
  | .get i f => (f (m.getD i .dead)).runC call m
  | .guard c x => bif c then x.runC call m else none
  | .split c x y => bif c then x.runC call m else y.runC call m
  | .opt _ o f => o.bind fun x => (f x).runC call m
  | .call f as me ρ g => (call f as me ρ).bind fun x => (g x).runC call m
/-- no call -/
def Rd.CF {α : Type} : Rd α → Prop
  | .ret _ => True
  | .fail => True
  | .get _ f => ∀ o, (f o).CF
  | .guard _ x => x.CF
  | .split _ x y => x.CF ∧ y.CF
  | .opt _ _ f => ∀ x, (f x).CF
  | .call .. => False

section
variable {call : CallF} {m : List Obj}
theorem toTree_interp {α R : Type} {leaf : List KI → St → Option R} {fin : V → List Obj → Option R} (r : Rd α) : ∀ (l : List Nat) (k : α → List Nat → Tree),
    (r.toTree m l k).interp call leaf fin = (r.runL call m l).bind fun p => (k p.1 p.2).interp call leaf fin := by
  induction r with
  | ret a => intro l k; rfl
  | fail => intro l k; rfl
  | get i f ih => intro l k; exact ih _ _ _
  | guard c x ih => intro l k; cases c <;> simp [Rd.toTree, Tree.interp, Rd.runL, ih]
  | split c x y ihx ihy => intro l k; cases c <;> simp [Rd.toTree, Tree.interp, Rd.runL, ihx, ihy]
  | opt t o f ih => intro l k; cases o <;> simp [Rd.toTree, Tree.interp, Rd.runL, ih]
  | call f as me ρ g ih =>
    intro l k
    simp only [Rd.toTree, Tree.interp, Rd.runL]
    cases call f as me ρ <;> simp [ih]
theorem runL_runC {α : Type} (r : Rd α) : ∀ {l l' : List Nat} {a : α}, r.runL call m l = some (a, l') → r.runC call m = some a := by
  induction r with
  | ret a => intro l l' b h; simp [Rd.runL] at h; simp [Rd.runC, h.1]
  | fail => intro l l' b h; cases h
  | get i f ih => intro l l' b h; exact ih _ h
  | guard c x ih => intro l l' b h; cases c <;> simp [Rd.runL, Rd.runC] at h ⊢; exact ih h
  | split c x y ihx ihy => intro l l' b h; cases c <;> simp [Rd.runL, Rd.runC] at h ⊢ <;> first | exact ihy h | exact ihx h
  | opt t o f ih => intro l l' b h; cases o <;> simp [Rd.runL, Rd.runC] at h ⊢; exact ih _ h
  | call f as me ρ g ih =>
    intro l l' b h
    simp only [Rd.runL, Rd.runC] at h ⊢
    cases hc : call f as me ρ with
    | none => rw [hc] at h; cases h
    | some x => rw [hc] at h; exact ih _ h
theorem runC_bind {α β : Type} (x : Rd α) (f : α → Rd β) : (x.bind f).runC call m = (x.runC call m).bind fun a => (f a).runC call m := by
  induction x with
  | ret a => rfl
  | fail => rfl
  | get i k ih => exact ih _
  | guard c k ih => cases c <;> simp [Rd.bind, Rd.runC, ih]
  | split c p q ihp ihq => cases c <;> simp [Rd.bind, Rd.runC, ihp, ihq]
  | opt t o k ih => cases o <;> simp [Rd.bind, Rd.runC, ih]
  | call f as me ρ g ih => simp only [Rd.bind, Rd.runC]; cases call f as me ρ <;> simp [ih]
theorem runC_CF {α : Type} (r : Rd α) : r.CF → r.runC call m = r.run1 m := by
  induction r with
  | ret a => intro _; rfl
  | fail => intro _; rfl
  | get i f ih => intro h; exact ih _ (h _)
  | guard c x ih => intro h; cases c <;> simp [Rd.runC, Rd.run1]; exact ih h
  | split c x y ihx ihy => intro h; cases c <;> simp [Rd.runC, Rd.run1] <;> first | exact ihy h.2 | exact ihx h.1
  | opt t o f ih => intro h; cases o <;> simp [Rd.runC, Rd.run1]; exact ih _ (h _)
  | call f as me ρ g ih => intro h; exact h.elim
/-- what is not read does not matter -/
theorem runL_sub {α : Type} (r : Rd α) : ∀ {l l' : List Nat} {a : α}, r.runL call m l = some (a, l') → ∀ i ∈ l, i ∈ l' := by
  induction r with
  | ret a => intro l l' b h; simp [Rd.runL] at h; rw [h.2]; exact fun _ h => h
  | fail => intro l l' b h; cases h
  | get i f ih => intro l l' b h j hj; exact ih _ h j (by simp [hj])
  | guard c x ih => intro l l' b h; cases c <;> simp [Rd.runL] at h; exact ih h
  | split c x y ihx ihy => intro l l' b h; cases c <;> simp [Rd.runL] at h <;> first | exact ihy h | exact ihx h
  | opt t o f ih => intro l l' b h; cases o <;> simp [Rd.runL] at h; exact ih _ h
  | call f as me ρ g ih =>
    intro l l' b h
    simp only [Rd.runL] at h
    cases hc : call f as me ρ with
    | none => rw [hc] at h; cases h
    | some x => rw [hc] at h; exact ih _ h
theorem runL_congr {α : Type} {m' : List Obj} (r : Rd α) : ∀ {l l' : List Nat} {a : α}, r.runL call m l = some (a, l') → (∀ i ∈ l', m'.getD i .dead = m.getD i .dead) → r.runL call m' l = some (a, l') := by
  induction r with
  | ret a => intro l l' b h _; exact h
  | fail => intro l l' b h; cases h
  | get i f ih =>
    intro l l' b h hm
    simp only [Rd.runL] at h ⊢
    rw [hm i (runL_sub _ h i (by simp))]
    exact ih _ h hm
  | guard c x ih => intro l l' b h hm; cases c <;> simp [Rd.runL] at h ⊢; exact ih h hm
  | split c x y ihx ihy => intro l l' b h hm; cases c <;> simp [Rd.runL] at h ⊢ <;> first | exact ihy h hm | exact ihx h hm
  | opt t o f ih => intro l l' b h hm; cases o <;> simp [Rd.runL] at h ⊢; exact ih _ h hm
  | call f as me ρ g ih =>
    intro l l' b h hm
    simp only [Rd.runL] at h ⊢
    cases hc : call f as me ρ with
    | none => rw [hc] at h; cases h
    | some x => rw [hc] at h; exact ih _ h hm

theorem CF_bind {α β : Type} {x : Rd α} {f : α → Rd β} (hx : x.CF) (hf : ∀ a, (f a).CF) : (x.bind f).CF := by
  induction x with
  | ret a => exact hf a
  | fail => trivial
  | get i k ih => exact fun o => ih o (hx o)
  | guard c k ih => exact ih hx
  | split c p q ihp ihq => exact ⟨ihp hx.1, ihq hx.2⟩
  | opt t o k ih => exact fun x => ih x (hx x)
  | call f as me ρ g ih => exact hx.elim
theorem CF_ret {α : Type} (a : α) : (Rd.ret a).CF := trivial
theorem CF_fail {α : Type} : (Rd.fail : Rd α).CF := trivial
theorem CF_get {α : Type} {i : Nat} {f : Obj → Rd α} (h : ∀ o, (f o).CF) : (Rd.get i f).CF := h
theorem CF_guard {α : Type} {c : Bool} {x : Rd α} (h : x.CF) : (Rd.guard c x).CF := h
theorem CF_split {α : Type} {c : Bool} {x y : Rd α} (h : x.CF) (g : y.CF) : (Rd.split c x y).CF := ⟨h, g⟩
theorem CF_opt {α : Type} {t : Ty} {o : Option (El t)} {f : El t → Rd α} (h : ∀ x, (f x).CF) : (Rd.opt t o f).CF := h
theorem CF_ofOption {α : Type} (o : Option α) : (Rd.ofOption o).CF := by cases o <;> trivial
theorem CF_bif {α : Type} {c : Bool} {x y : Rd α} (h : x.CF) (g : y.CF) : (bif c then x else y).CF := by cases c <;> assumption

theorem CF_mapR {α β : Type} {f : α → Rd β} (h : ∀ a, (f a).CF) : ∀ l, (mapR f l).CF
  | [] => trivial
  | a :: r => CF_bind (h a) fun _ => CF_bind (CF_mapR h r) fun _ => trivial
theorem CF_catR {α β : Type} {f : α → Rd (List β)} (h : ∀ a, (f a).CF) : ∀ l, (catR f l).CF
  | [] => trivial
  | a :: r => CF_bind (h a) fun _ => CF_bind (CF_catR h r) fun _ => trivial
theorem CF_dataC (c : CV) : (dataC c).CF := by
  cases c <;> simp only [dataC] <;> try trivial
  · exact fun o => by cases o <;> trivial
  · exact fun o => by cases o <;> first | trivial | exact CF_bif (CF_ret _) CF_fail
theorem CF_dataCs (cs : List CV) : (dataCs cs).CF := CF_mapR CF_dataC cs
theorem CF_pureC : ∀ (d : Nat) (c : CV), (pureC d c).CF
  | 0, _ => trivial
  | d + 1, c => by
    cases c <;> simp only [pureC] <;> try first | trivial | exact CF_dataC _
    · exact fun o => by cases o <;> first | trivial | exact CF_bind (CF_mapR (CF_pureC d) _) fun _ => trivial
    · exact fun o => by cases o <;> first | trivial | exact fun _ => trivial
    · exact CF_bind (CF_mapR (CF_pureC d) _) fun _ => trivial
    · exact CF_bind (CF_mapR (CF_pureC d) _) fun _ => trivial
theorem CF_pureV (v : V) : (pureV v).CF := by
  cases v <;> simp only [pureV, pureCs]
  · exact CF_bind (CF_pureC 6 _) fun _ => trivial
  · exact CF_bind (CF_mapR (CF_pureC 6) _) fun _ => trivial
  · trivial
theorem CF_pureVs : ∀ vs, (pureVs vs).CF
  | [] => trivial
  | v :: r => CF_bind (CF_pureV v) fun _ => CF_bind (CF_pureVs r) fun _ => trivial
theorem CF_rowsC : ∀ (d : Nat) (c : CV), (rowsC d c).CF
  | 0, _ => trivial
  | d + 1, c => by
    cases c <;> simp only [rowsC] <;> try trivial
    · exact fun o => by cases o <;> first | trivial | exact CF_catR (CF_rowsC d) _
    · exact CF_catR (CF_rowsC d) _
    · exact CF_catR (CF_rowsC d) _
theorem CF_rowsVs : ∀ vs, (rowsVs vs).CF
  | [] => trivial
  | v :: r => CF_bind (CF_catR (CF_rowsC 6) _) fun _ => CF_bind (CF_rowsVs r) fun _ => trivial
theorem CF_freeze : ∀ is, (freeze is).CF
  | [] => trivial
  | i :: r => fun o => by cases o <;> first | trivial | exact CF_freeze r | exact CF_bind (CF_freeze r) fun _ => trivial
theorem CF_loadC (n : Nat) (c : CV) : (loadC n c).CF := by
  cases c <;> simp only [loadC] <;> try trivial
  · exact fun o => by cases o <;> trivial
  · exact fun o => by cases o <;> first | trivial | exact fun _ => trivial
theorem CF_mkV (g : Bool) (cs : List CV) : (mkV g cs).CF := by
  unfold mkV; split <;> trivial
theorem CF_intOp (op : BinOp) (k : IntKind) (a b : Int) : (intOp op k a b).CF := by cases op <;> trivial
theorem CF_shiftOp (op : BinOp) (k : IntKind) (a b : Int) : (shiftOp op k a b).CF := by cases op <;> trivial
theorem CF_strOp (op : BinOp) (a b : ByteArray) : (strOp op a b).CF := by cases op <;> trivial
theorem CF_binC (op : BinOp) (bt : Bool) (x y : CV) : (binC op bt x y).CF := by
  unfold binC
  split
  · split
    · exact CF_shiftOp _ _ _ _
    · exact CF_shiftOp _ _ _ _
    · split
      · exact CF_intOp _ _ _ _
      · trivial
  · exact CF_strOp _ _ _
  · split <;> trivial
  · trivial
theorem CF_binA (P : Program) (op : BinOp) (t : TypeId) (cs ds : List CV) : (binA P op t cs ds).CF := by
  unfold binA
  split
  · refine CF_bif CF_fail ?_
    split <;> trivial
  · trivial
theorem CF_unC (op : UnOp) (x : CV) : (unC op x).CF := by unfold unC; split <;> trivial
theorem CF_elems (t : Ty) (c : CV) : (elems t c).CF := by
  cases c <;> simp only [elems] <;> try first | trivial | exact CF_ofOption _
  · exact fun o => by cases o <;> first | trivial | exact CF_ofOption _
  · exact fun o => by cases o <;> first | trivial | exact CF_bind (CF_ofOption _) fun _ => CF_guard (CF_ret _)
theorem CF_srcElems (t : Ty) (c : CV) : (srcElems t c).CF := by
  cases c <;> simp only [srcElems] <;> try exact CF_elems _ _
  unfold strElems; split <;> trivial
theorem CF_lenS (c : CV) : (lenS c).CF := by
  cases c <;> simp only [lenS] <;> try trivial
  · exact fun o => by cases o <;> trivial
  · exact fun o => by cases o <;> trivial
theorem CF_lenM (c : CV) : (lenM c).CF := by
  cases c <;> simp only [lenM] <;> try trivial
  exact fun o => by cases o <;> trivial
theorem CF_lenC (P : Program) (t : TypeId) (c : CV) : (lenC P t c).CF := by
  unfold lenC
  split
  · split <;> trivial
  · split
    · exact CF_lenS _
    · exact CF_lenM _
    · trivial
theorem CF_indexAddrC (sz : Nat) (x : CV) (i : Int) : (indexAddrC sz x i).CF := by
  cases x <;> simp only [indexAddrC] <;> try trivial
  · exact CF_bif (fun _ => trivial) CF_fail
  · exact CF_bif (fun _ => trivial) CF_fail
  · exact fun o => by cases o <;> first | trivial | exact CF_bif (CF_guard (CF_ret _)) CF_fail
  · exact fun o => by cases o <;> first | trivial | exact CF_bif (CF_guard (CF_ret _)) CF_fail
theorem CF_fieldAddrC (off n : Nat) (x : CV) : (fieldAddrC off n x).CF := by
  unfold fieldAddrC
  split
  · trivial
  · split
    · exact fun o => by cases o <;> trivial
    · exact fun o => by cases o <;> trivial
    · trivial
    · trivial
theorem CF_fillC (pl : Nat → Option (Nat × Nat)) : ∀ (ps : List (Nat × V)) (cs : List CV), (fillC pl cs ps).CF
  | [], _ => trivial
  | (i, v) :: r, cs => by
    unfold fillC
    split
    · exact CF_bif (CF_fillC pl r _) CF_fail
    · trivial
theorem CF_sliceS (s : ByteArray) (l : Int) (h m : Option Int) : (sliceS s l h m).CF := by unfold sliceS; split <;> trivial
theorem CF_sliceD (t : Ty) (xs : List (El t)) (l : Int) (h m : Option Int) : (sliceD t xs l h m).CF := by
  unfold sliceD
  split
  · trivial
  · split <;> trivial
theorem CF_sliceC (sz : Nat) (x : CV) (l : Int) (h m : Option Int) : (sliceC sz x l h m).CF := by
  cases x <;> simp only [sliceC] <;> try trivial
  · exact CF_bif CF_fail (CF_guard (CF_ret _))
  · exact CF_bif (CF_sliceD _ _ _ _ _) CF_fail
  · exact CF_bif (CF_sliceD _ _ _ _ _) CF_fail
  · exact fun o => by
      cases o <;> try trivial
      · exact CF_bif (CF_guard (CF_ret _)) CF_fail
      · exact CF_bif (CF_sliceD _ _ _ _ _) CF_fail
  · exact fun o => by
      cases o <;> first | trivial | exact CF_bif (CF_guard (CF_ret _)) CF_fail
theorem CF_convC (P : Program) (s d : TypeId) (x : CV) : (convC P s d x).CF := by unfold convC; split <;> trivial
theorem CF_appendC (P : Program) (t tx : TypeId) (x y : V) (id : Nat) : (appendC P t tx x y id).CF := by
  unfold appendC
  split
  · refine CF_bif CF_fail (CF_bind (CF_srcElems _ _) fun ys => ?_)
    split
    · trivial
    · exact CF_bind (CF_ofOption _) fun _ => trivial
    · exact fun o => by cases o <;> first | trivial | exact CF_bind (CF_ofOption _) fun _ => trivial
    · exact fun o => by cases o <;> first | trivial | exact CF_bind (CF_ofOption _) fun _ => CF_guard (CF_split (CF_ret _) (CF_guard (CF_ret _)))
    · trivial
  · trivial
theorem CF_copyC (P : Program) (t tx : TypeId) (x y : V) : (copyC P t tx x y).CF := by
  unfold copyC
  split
  · refine CF_bif CF_fail (CF_bind (CF_srcElems _ _) fun ys => ?_)
    split
    · exact fun o => by cases o <;> first | trivial | exact CF_bind (CF_ofOption _) fun _ => trivial
    · exact fun o => by cases o <;> first | trivial | exact CF_bind (CF_ofOption _) fun _ => trivial
    · trivial
    · trivial
  · trivial
theorem CF_withMap {I : MapInfo} {m k : V} {f : Nat → List (El I.kt × El I.vt) → Bool → El I.kt → Rd Out} (h : ∀ i es t key, (f i es t key).CF) : (withMap I m k f).CF := by
  unfold withMap
  split
  · exact fun o => by
      cases o <;> try trivial
      refine CF_bif ?_ CF_fail
      split
      · exact h _ _ _ _
      · trivial
  · trivial
theorem CF_elemOf {I : MapInfo} {v : V} {f : El I.vt → List (Nat × Obj) → Rd Out} (h : ∀ x ws, (f x ws).CF) : (elemOf I v f).CF := by
  unfold elemOf
  refine CF_bif CF_fail (CF_bind (CF_dataCs _) fun _ => CF_bind (CF_freeze _) fun _ => ?_)
  split
  · exact h _ _
  · trivial
theorem CF_lookupC (P : Program) (t : TypeId) (m k : V) (c : Bool) : (lookupC P t m k c).CF := by
  unfold lookupC
  split
  · exact CF_withMap fun _ _ _ _ => CF_bind (CF_mkV _ _) fun _ => trivial
  · trivial
theorem CF_updateC (P : Program) (t : TypeId) (m k v : V) : (updateC P t m k v).CF := by
  unfold updateC
  split
  · exact CF_withMap fun _ _ _ _ => CF_elemOf fun _ _ => CF_bif CF_fail (CF_ret _)
  · trivial
theorem CF_entryC (P : Program) (t : TypeId) (m k : V) : (entryC P t m k).CF := by
  unfold entryC
  split
  · exact CF_withMap fun _ _ _ _ => CF_bif (CF_bind (CF_mkV _ _) fun _ => trivial) CF_fail
  · trivial
theorem CF_entryStoreC (P : Program) (t : TypeId) (m s v : V) : (entryStoreC P t m s v).CF := by
  unfold entryStoreC
  split
  · exact fun o => by
      cases o <;> try trivial
      refine CF_bif ?_ CF_fail
      split
      · exact CF_elemOf fun _ _ => CF_bif CF_fail (CF_guard (CF_ret _))
      · trivial
  · trivial
theorem CF_deleteC (P : Program) (t : TypeId) (m k : V) : (deleteC P t m k).CF := by
  unfold deleteC
  split
  · exact CF_withMap fun _ _ _ _ => trivial
  · trivial
theorem CF_makeMapC (P : Program) (t : TypeId) (r : Option V) (id : Nat) : (makeMapC P t r id).CF := by
  unfold makeMapC
  split
  · split <;> trivial
  · trivial
theorem CF_clearC (P : Program) (t : TypeId) (c : CV) : (clearC P t c).CF := by
  unfold clearC
  split
  · split
    · exact fun o => by cases o <;> first | trivial | exact CF_bind (CF_ofOption _) fun _ => trivial
    · exact fun o => by cases o <;> first | trivial | exact CF_bind (CF_ofOption _) fun _ => CF_guard (CF_ret _)
    · trivial
  · trivial
theorem CF_builtinC (P : Program) (b : Builtin) (ts : List TypeId) (vs : List V) (id : Nat) : (builtinC P b ts vs id).CF := by
  cases b <;> simp only [builtinC] <;> try trivial
  case len =>
    split
    · exact CF_bind (CF_lenC _ _ _) fun _ => trivial
    · trivial
  case append =>
    split
    · exact CF_appendC _ _ _ _ _ _
    · trivial
  case copy =>
    split
    · exact CF_copyC _ _ _ _ _
    · trivial
  case clear =>
    split
    · exact CF_clearC _ _ _
    · trivial
  case delete =>
    split
    · exact CF_deleteC _ _ _ _
    · trivial
  all_goals
    split
    · split <;> trivial
    · trivial

/-- a call of a function -/
def Op.isCall : Op → Bool
  | .call { callee := .value _, .. } => true
  | _ => false

theorem CF_semOp (P : Program) (C : Cfg) (o : Op) (ty : TypeId) (ev : Operand → Option Ty → V) (id : Nat) (h : Op.isCall o = false) : (semOp P C o ty ev id).CF := by
  cases o
  case makeFunc fn first caps => cases fn <;> simp only [semOp] <;> first | trivial | exact CF_bif (CF_ret _) CF_fail
  all_goals simp only [semOp]
  all_goals try trivial
  all_goals try (split <;> first | trivial | exact CF_bind (CF_binC _ _ _ _) fun _ => trivial | exact CF_bind (CF_binA _ _ _ _ _) fun _ => trivial | exact CF_bind (CF_unC _ _) fun _ => trivial | exact CF_bind (CF_convC _ _ _ _) fun _ => trivial | exact CF_bind (CF_fieldAddrC _ _ _) fun _ => trivial | exact CF_bind (CF_indexAddrC _ _ _) fun _ => trivial | exact CF_split (CF_ret _) (CF_ret _))
  all_goals try exact CF_bif CF_fail (CF_ret _)
  all_goals try exact CF_bif (CF_ret _) CF_fail
  case «load» =>
    split
    · exact CF_bind (CF_loadC _ _) fun _ => CF_bif (CF_bind (CF_mkV _ _) fun _ => trivial) CF_fail
    · trivial
  case store =>
    split
    · refine CF_bif ?_ CF_fail
      split
      · exact fun o => by cases o <;> first | trivial | exact CF_bif (CF_ret _) CF_fail
      · exact fun o => by
          cases o <;> try trivial
          exact fun e => CF_bind (CF_dataCs _) fun ncs => CF_bind (CF_freeze _) fun ws => by
            split
            · exact CF_bif CF_fail (CF_ret _)
            · trivial
      · trivial
    · trivial
  case nilCheck =>
    split
    · exact fun o => by cases o <;> trivial
    · exact fun o => by cases o <;> trivial
    · trivial
    · trivial
    · trivial
  case slice =>
    split
    · split
      · exact CF_bind (CF_sliceS _ _ _ _) fun _ => trivial
      · split
        · exact CF_bind (CF_sliceC _ _ _ _ _) fun _ => trivial
        · trivial
      · trivial
    · trivial
  case field =>
    split
    · exact CF_bif (CF_bind (CF_mkV _ _) fun _ => trivial) CF_fail
    · trivial
  case index =>
    split
    · exact fun _ => trivial
    · trivial
  case extract =>
    split
    · split <;> trivial
    · trivial
  case build =>
    split
    · exact CF_bif (CF_bind (CF_fillC _ _ _) fun _ => trivial) CF_fail
    · trivial
  case buildSlice =>
    split
    · split
      · refine CF_bif (CF_bind (CF_fillC _ _ _) fun _ => CF_bind (CF_dataCs _) fun _ => CF_bind (CF_freeze _) fun _ => ?_) CF_fail
        split <;> trivial
      · trivial
    · trivial
  case makeMap => exact CF_makeMapC _ _ _ _
  case lookup => exact CF_lookupC _ _ _ _ _
  case mapUpdate => exact CF_updateC _ _ _ _ _
  case insert => exact CF_updateC _ _ _ _ _
  case mapEntry => exact CF_entryC _ _ _ _
  case entryStore => exact CF_entryStoreC _ _ _ _ _
  case makeSlice =>
    split
    · split <;> trivial
    · trivial
  case call c =>
    split
    · exact CF_builtinC _ _ _ _ _
    · rename_i f hf
      obtain ⟨callee, _, _⟩ := c
      simp at hf
      subst hf
      simp [Op.isCall] at h
    · trivial
end
end Go.Sk
