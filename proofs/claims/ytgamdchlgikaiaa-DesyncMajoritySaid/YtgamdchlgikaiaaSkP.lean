/- Calls of functions: what is handed over, what comes back; all operations at once. -/
import Derived.Test.YtgamdchlgikaiaaSkO
set_option linter.unusedSimpArgs false
set_option linter.unusedVariables false
set_option linter.unusedSectionVars false
namespace Go.Sk
open Go
section
variable {P : Program} {X : Fr} {env : List V} {mem : List Obj} {al : Nat → Prop} {tmps : Array Value} {w : World} {β : Nat → Value} {ok : Nat → Prop}

theorem _root_.Go.Sk.Inv.alMono (h : Inv X env mem al tmps w β ok) {al' : Nat → Prop} (hal : ∀ i, al i → al' i) : Ext w ok X.rd β (kds mem) al w ok β (kds mem) al' ∧ Inv X env mem al' tmps w β ok :=
  h.update (mem' := mem) (al' := al') (β' := β) (ok' := ok) (fun _ => False) hal (fun _ h => h.elim) (fun _ _ => rfl) (fun _ _ => rfl) (fun _ h => h.elim) (fun _ h => h.elim) (fun b _ _ => rfl) (Nat.le_refl _)
    (fun _ h => h) (fun _ h => .inl h) (fun _ _ h => h.elim) (fun _ _ h => h.elim) (fun _ _ _ h => h.elim) (fun _ _ h => h.elim) rfl rfl rfl
theorem Left.weaken {new new' : Nat → Prop} {s : Sem Next} {out : Out} (h : Left P X env mem al tmps w new s out) (hn : ∀ i, new i → new' i) : Left P X env mem al tmps w new' s out := by
  obtain ⟨r, cv, w', β', ok', h1, h2, h3, h4⟩ := h.run
  obtain ⟨e, hI⟩ := h3.alMono (al' := fun i => al i ∨ new' i) fun i hi => hi.imp id (hn i)
  exact ⟨r, cv, w', β', ok', h1, h2, hI, h4.mono e⟩

/-- every operation but a call of a function -/
theorem sem_left (C : Cfg) (ds : List Deferred) (h : Inv X env mem al tmps w β ok) (o : Oper) {id : Nat} (hid : ∀ j, id ≤ j → j < id + newOf P C o.op (⟨env, mem⟩ : St).ev → ¬ al j) (hc : Op.isCall o.op = false) {out : Out}
    (hr : (semOp P C o.op o.type (⟨env, mem⟩ : St).ev id).run1 mem = some out) :
    Left P X env mem al tmps w (fun j => id ≤ j ∧ j < id + newOf P C o.op (⟨env, mem⟩ : St).ev) (execOp (⟨tmps, ds⟩ : Act).eval o) out := by
  obtain ⟨dst, op, ty, pos, aft, gd⟩ := o
  have one : ∀ {new : Nat → Prop} {s : Sem Next}, newOf P C op (⟨env, mem⟩ : St).ev = 1 → Left P X env mem al tmps w (fun j => j = id) s out → Left P X env mem al tmps w (fun j => id ≤ j ∧ j < id + newOf P C op (⟨env, mem⟩ : St).ev) s out :=
    fun e hl => hl.weaken fun i hi => by rw [e]; omega
  have fresh : newOf P C op (⟨env, mem⟩ : St).ev = 1 → ¬ al id := fun e => hid id (Nat.le_refl _) (by show id < id + newOf P C op _; rw [e]; omega)
  cases op
  case move x => exact left_move ds C h hr
  case assign x => exact left_assign ds C h hr
  case pick c a b => exact left_pick ds C h hr
  case alloc t => exact one (new := fun _ => False) rfl (left_alloc ds C h (fresh rfl) hr)
  case box t x => exact one (new := fun _ => False) rfl (left_box ds C h (fresh rfl) hr)
  case «load» t x => exact left_load ds C h hr
  case store t a x => exact left_store ds C h hr
  case nilCheck x => exact left_nilCheck ds C h hr
  case binOp op t x y u => exact left_binOp ds C h hr
  case unOp op t x => exact left_unOp ds C h hr
  case convert s d x => exact left_convert ds C h hr
  case makeFunc fn first caps => exact left_makeFunc ds C h hr
  case slice t x l hi m => exact left_slice ds C h hr
  case fieldAddr t x f => exact left_fieldAddr ds C h hr
  case field t x f => exact left_field ds C h hr
  case indexAddr t x i => exact left_indexAddr ds C h hr
  case index t x i => exact left_index ds C h hr
  case extract t i => exact left_extract ds C h hr
  case build t parts => exact left_build ds C h hr
  case buildSlice t n parts => exact one (new := fun _ => False) rfl (left_buildSlice ds C h (fresh rfl) hr)
  case makeMap t r => exact one (new := fun _ => False) rfl (left_makeMap ds C h (fresh rfl) hr)
  case lookup t m k c => exact left_lookup ds C h hr
  case mapUpdate t m k v => exact left_mapUpdate ds C h hr
  case insert t m k v => exact left_insert ds C h hr
  case mapEntry t m k => exact left_mapEntry ds C h hr
  case entryStore t m s v => exact left_entryStore ds C h hr
  case makeSlice t n c => exact one (new := fun _ => False) rfl (left_makeSlice ds C h (fresh rfl) hr)
  case call c =>
    obtain ⟨callee, args, ats⟩ := c
    cases callee with
    | builtin b =>
      refine (left_builtin ds C h (b := b) rfl (fun e => fresh (by subst e; rfl)) hr).weaken fun i hi => ?_
      obtain ⟨rfl, rfl⟩ := hi
      exact ⟨Nat.le_refl _, by show i < i + 1; omega⟩
    | value f => simp [Op.isCall] at hc
    | invoke r n => cases hr
  all_goals (cases hr; done)

/-! ### what is handed over -/
/-- the rows that a cell leads to are all in Lp -/
def Reach (m : List Obj) (Lp : Nat → Prop) {α : Type} (f : α → Rd (List Nat)) (c : α) : Prop := (∀ i, Lp i) ∨ ∃ L, (f c).run1 m = some L ∧ ∀ i ∈ L, Lp i
theorem Reach.cat {m : List Obj} {Lp : Nat → Prop} {α : Type} {f : α → Rd (List Nat)} {c : α} {r : List α} (h : Reach m Lp (catR f) (c :: r)) : Reach m Lp f c ∧ Reach m Lp (catR f) r := by
  rcases h with h | ⟨L, h1, h2⟩
  · exact ⟨.inl h, .inl h⟩
  · obtain ⟨a, ha, h1⟩ := bind_run1 h1
    obtain ⟨b, hb, h1⟩ := bind_run1 h1
    obtain rfl := ret_run1 h1
    exact ⟨.inr ⟨a, ha, fun i hi => h2 i (by simp [hi])⟩, .inr ⟨b, hb, fun i hi => h2 i (by simp [hi])⟩⟩

/-- from the caller's state to the callee's: m, the memory that was read; m', the memory as it stands -/
structure Hand (w : World) (ok rd : Nat → Prop) (β : Nat → Value) (m m' : List Obj) (al : Nat → Prop) (okx rdx Lp : Nat → Prop) : Prop where
  obj : ∀ i, ObjRel w ok rd β (kds m') al i (m'.getD i .dead)
  froze : Froze m m'
  hok : ∀ b, ok b → okx b
  hrd : ∀ b, rd b → rdx b
  own : ∀ i b, own m' β i = some b → rdx b
  rows : ∀ i, Lp i → ∀ t xs, (m'.getD i .dead = .row t xs ∨ m'.getD i .dead = .frz t xs) → RepE w okx (.slice t) xs [β i]

@[reducible] def noKd : Nat → KD := fun _ => .none
@[reducible] def noAl : Nat → Prop := fun _ => False
variable {rd : Nat → Prop} {m m' : List Obj} {okx rdx Lp : Nat → Prop} {β0 : Nat → Value}

theorem RelC.osl_inv' {kd : Nat → KD} {i : Nat} {v : Value} (h : RelC w ok rd β kd al (.osl i) v) (hk : kd i ≠ .none) : v = β i := by
  cases h with
  | osl _ _ hi hp h1 => exact hp hk
theorem hand_data (H : Hand w ok rd β m m' al okx rdx Lp) {c c' : CV} {v : Value} (hr : (dataC c).run1 m = some c') (hrow : ∀ i ∈ rowsD [c], Lp i) (hv : RelC w ok rd β (kds m') al c v) : RelC w okx rdx β0 noKd noAl c' v := by
  have mono : ∀ {t : Ty} {xs : List (El t)} {A : Option Addr}, RowAt w ok (RepE w ok t) t.size A xs → RowAt w okx (RepE w okx t) t.size A xs :=
    fun h => h.mono (fun _ _ => rfl) H.hok fun _ _ h => RepE.mono (fun _ _ => rfl) H.hok h
  cases c <;> simp only [dataC, Rd.run1_fail, Rd.run1_ret, Option.some.injEq] at hr <;> try (cases hr; done)
  case bool b => subst hr; cases hv; exact .bool b
  case int k n => subst hr; cases hv; exact .int k n
  case str s => subst hr; cases hv; exact .str s
  case nils t => subst hr; cases hv; exact .nils t
  case slc t xs =>
    subst hr
    obtain ⟨A, c, rfl, hl, hrow⟩ : ∃ A c, v = .slice A xs.length c ∧ xs.length ≤ c ∧ RowAt w ok (RepE w ok t) t.size A xs := by cases hv; exact ⟨_, _, rfl, by assumption, by assumption⟩
    exact .slc t xs A c hl (mono hrow)
  case clp t xs =>
    subst hr
    obtain ⟨A, rfl, hrow⟩ : ∃ A, v = .slice A xs.length xs.length ∧ RowAt w ok (RepE w ok t) t.size A xs := by cases hv; exact ⟨_, rfl, by assumption⟩
    exact .clp t xs A (mono hrow)
  case osl i =>
    simp only [Rd.run1_get] at hr
    have key : ∀ t xs, (m'.getD i .dead = .row t xs ∨ m'.getD i .dead = .frz t xs) → c' = .slc t xs → RelC w okx rdx β0 noKd noAl c' v := by
      intro t xs hx hc'
      subst hc'
      rw [hv.osl_inv' (by show (m'.getD i .dead).kd ≠ _; rcases hx with hx | hx <;> rw [hx] <;> simp [Obj.kd])]
      obtain ⟨A, c, hb, hl, hr'⟩ := H.rows i (hrow i (by simp [rowsD])) t xs hx
      simp at hb
      rw [hb]
      exact .slc t xs A c hl hr'
    rcases H.froze i with h1 | ⟨t, xs, h1, h2⟩
    · cases hm : m.getD i .dead <;> rw [hm] at hr h1 <;> first | (cases hr; done) | skip
      · exact key _ _ (.inl h1) (ret_run1 hr).symm
      · exact key _ _ (.inr h1) (ret_run1 hr).symm
    · rw [h1] at hr
      exact key t xs (.inr h2) (ret_run1 hr).symm
  case ovw i o n =>
    simp only [Rd.run1_get] at hr
    have key : ∀ t xs, (m'.getD i .dead = .row t xs ∨ m'.getD i .dead = .frz t xs) → o + n ≤ xs.length → c' = .slc t ((xs.drop o).take n) → RelC w okx rdx β0 noKd noAl c' v := by
      intro t xs hx hle hc'
      subst hc'
      obtain ⟨A, n', cp, A', hb, rfl, hcp, hA⟩ : ∃ A n' c A', β i = .slice A n' c ∧ v = .slice A' n (c - o) ∧ o + n ≤ c ∧ (∀ b q, A = some ⟨b, q, none⟩ → c ≠ o → A' = some ⟨b, q + o * t.size, none⟩) := by
        cases hv with
        | ovw _ _ _ _ hi hp h1 => exact hp t (by show (m'.getD i .dead).kd = _; rcases hx with hx | hx <;> rw [hx] <;> rfl)
      obtain ⟨A2, c, hb2, hl, hr'⟩ := H.rows i (hrow i (by simp [rowsD])) t xs hx
      simp at hb2
      rw [hb] at hb2
      cases hb2
      have hlen : ((xs.drop o).take n).length = n := by simp; omega
      have := RelC.slc (w := w) (ok := okx) (rd := rdx) (β := β0) (kd := noKd) (al := noAl) t ((xs.drop o).take n) A' (cp - o) (by rw [hlen]; omega) ?_
      · rw [hlen] at this; exact this
      · rcases hr' with rfl | ⟨b, q, rfl, hok, hr'⟩
        · exact .inl (by simp)
        · by_cases hn : n = 0
          · exact .inl (by simp [hn])
          · refine .inr ⟨b, q + o * t.size, hA b q rfl (by omega), hok, fun k x hk => ?_⟩
            have hk' : xs[o + k]? = some x := by
              rw [List.getElem?_take] at hk
              split at hk
              · rwa [List.getElem?_drop] at hk
              · cases hk
            obtain ⟨us, h1, h2, h3⟩ := hr' _ _ hk'
            exact ⟨us, h1, h2, fun j u hj => by have := h3 j u hj; rw [Nat.add_mul] at this; simpa [Nat.add_assoc] using this⟩
    have fin : ∀ t xs, (m'.getD i .dead = .row t xs ∨ m'.getD i .dead = .frz t xs) → (Rd.guard (decide (o + n ≤ xs.length)) (Rd.ret (CV.slc t ((xs.drop o).take n)))).run1 m = some c' → RelC w okx rdx β0 noKd noAl c' v := by
      intro t xs hx hb
      obtain ⟨h1, h2⟩ := guard_run1 hb
      exact key t xs hx (by simpa using h1) (ret_run1 h2).symm
    rcases H.froze i with h1 | ⟨t, xs, h1, h2⟩
    · cases hm : m.getD i .dead <;> rw [hm] at hr h1 <;> first | (cases hr; done) | skip
      · exact fin _ _ (.inl h1) hr
      · exact fin _ _ (.inr h1) hr
    · rw [h1] at hr
      exact fin t xs (.inr h2) hr
end
end Go.Sk
