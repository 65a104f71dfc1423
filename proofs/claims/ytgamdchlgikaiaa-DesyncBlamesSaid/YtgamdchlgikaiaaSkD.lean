/- Operations that read: what the model's own do where the evaluator's come to a value. -/
import Derived.Test.YtgamdchlgikaiaaSkC
set_option linter.unusedSimpArgs false
set_option linter.unusedVariables false
namespace Go.Sk
open Go

section
variable {P : Program} {w : World}
theorem run_sizeAt {t : TypeId} {n : Nat} (h : sizeAt P t = some n) : (sizeOf t).run P w = .ok n w := by
  unfold sizeAt at h
  cases hi : P.info? t with
  | none => rw [hi] at h; cases h
  | some i => rw [hi] at h; simp at h; simp [sizeOf, typeInfo, hi, h]
theorem run_aggAt {t : TypeId} {g : Bool} (h : aggAt P t = some g) : (isAgg t).run P w = .ok g w := by
  unfold aggAt at h
  unfold isAgg
  simp only [Sem.run_bind]
  split at h <;> simp at h <;> subst h
  · rename_i fs hu; simp [run_underlying hu]
  · rename_i n e hu; simp [run_underlying hu]
  · rename_i d h1 h2 hu
    simp only [run_underlying hu, Result.andThen_ok]
    cases d <;> first | rfl | exact absurd rfl (h1 _) | exact absurd rfl (h2 _ _)
theorem run_info {t : TypeId} {i : TypeInfo} (h : P.info? t = some i) : (typeInfo t).run P w = .ok i w := by simp [typeInfo, h]
end

theorem Rd.run1_bind {α β : Type} (m : List Obj) (x : Rd α) (f : α → Rd β) : (x.bind f).run1 m = (x.run1 m).bind fun a => (f a).run1 m := by
  induction x with
  | ret a => rfl
  | fail => rfl
  | get i k ih => simp only [Rd.bind, Rd.run1, ih]
  | guard c k ih => cases c <;> simp [Rd.bind, Rd.run1, ih]
  | split c p q ihp ihq => cases c <;> simp [Rd.bind, Rd.run1, ihp, ihq]
  | opt t o k ih => cases o <;> simp [Rd.bind, Rd.run1, ih]
  | call f as me ρ k ih => rfl
theorem Rd.run1_ret {α : Type} (m : List Obj) (a : α) : (Rd.ret a).run1 m = some a := rfl
theorem Rd.run1_fail {α : Type} (m : List Obj) : (Rd.fail : Rd α).run1 m = none := rfl
theorem Rd.run1_get {α : Type} (m : List Obj) (i : Nat) (k : Obj → Rd α) : (Rd.get i k).run1 m = (k (m.getD i .dead)).run1 m := rfl
theorem Rd.run1_guard {α : Type} (m : List Obj) (c : Bool) (k : Rd α) : (Rd.guard c k).run1 m = bif c then k.run1 m else none := rfl
theorem Rd.run1_split {α : Type} (m : List Obj) (c : Bool) (k q : Rd α) : (Rd.split c k q).run1 m = bif c then k.run1 m else q.run1 m := rfl
theorem Rd.run1_opt {α : Type} (m : List Obj) (t : Ty) (o : Option (El t)) (k : El t → Rd α) : (Rd.opt t o k).run1 m = o.bind fun x => (k x).run1 m := rfl
theorem Rd.run1_ofOption {α : Type} (m : List Obj) (o : Option α) : (Rd.ofOption o).run1 m = o := by cases o <;> rfl

/-- the relations of one context -/
structure Ct where
  w : World
  ok : Nat → Prop
  rd : Nat → Prop
  β : Nat → Value
  mem : List Obj
  al : Nat → Prop
@[reducible] def Ct.kd (c : Ct) : Nat → KD := fun i => (c.mem.getD i .dead).kd
@[reducible] def Ct.C (c : Ct) : CV → Value → Prop := RelC c.w c.ok c.rd c.β c.kd c.al
@[reducible] def Ct.V (c : Ct) : V → Value → Prop := RelV c.w c.ok c.rd c.β c.kd c.al
@[reducible] def Ct.L (c : Ct) : List CV → List Value → Prop := RelL c.w c.ok c.rd c.β c.kd c.al
/-- every object stands -/
def Ct.objs (c : Ct) : Prop := ∀ i, ObjRel c.w c.ok c.rd c.β c.kd c.al i (c.mem.getD i .dead)

theorem RelV.agg' {w : World} {ok : Nat → Prop} {rd : Nat → Prop} {β : Nat → Value} {kd : Nat → KD} {al : Nat → Prop} {cs : List CV} {v : Value} (h : RelV w ok rd β kd al (.agg cs) v) : ∃ us, v = .agg us.toArray ∧ RelL w ok rd β kd al cs us := by
  cases h with
  | agg _ us hl h => exact ⟨us, rfl, hl, h⟩
theorem RelV.one' {w : World} {ok : Nat → Prop} {rd : Nat → Prop} {β : Nat → Value} {kd : Nat → KD} {al : Nat → Prop} {c : CV} {v : Value} (h : RelV w ok rd β kd al (.one c) v) : RelC w ok rd β kd al c v := by cases h; assumption
theorem RelV.ofL {w : World} {ok : Nat → Prop} {rd : Nat → Prop} {β : Nat → Value} {kd : Nat → KD} {al : Nat → Prop} {cs : List CV} {us : List Value} (h : RelL w ok rd β kd al cs us) : RelV w ok rd β kd al (.agg cs) (.agg us.toArray) := .agg cs us h.1 h.2

section
variable {c : Ct} {P : Program}
theorem rel_ofConst (t : Option Ty) (v : Value) : c.C (ofConst t v) v := by
  unfold ofConst
  split <;> first | constructor | (split <;> constructor) | skip
  rename_i h1 h2 h3 h4 h5 h6 h7
  cases v <;> first | rfl | exact absurd rfl (h6 _) | exact absurd rfl (h7 _)

/-- an address that a cell is -/
theorem rel_load (ho : c.objs) {n : Nat} {x : CV} {v : Value} {cs : List CV} (h : (loadC n x).run1 c.mem = some cs) (hv : c.C x v) :
    ∃ b o us, v = .pointer (some ⟨b, o, none⟩) ∧ c.L cs us ∧ ∀ (j : Nat) u, us[j]? = some u → c.w.cell? ⟨b, o + j, none⟩ = some u := by
  cases x <;> simp only [loadC, Rd.run1_fail] at h <;> try (cases h; done)
  case ptr i off =>
    obtain ⟨hi, hp, h1⟩ : c.al i ∧ (c.kd i = .cells → ∃ b, c.β i = .pointer (some ⟨b, 0, none⟩) ∧ v = .pointer (some ⟨b, off, none⟩)) ∧ v.oneCell' = true := by
      cases hv; exact ⟨by assumption, by assumption, by assumption⟩
    have hob := ho i
    simp only [Rd.run1_get] at h
    cases hm : c.mem.getD i .dead <;> rw [hm] at h hob <;> simp only [Rd.run1_fail, Rd.run1_ret] at h <;> try (cases h; done)
    rename_i cs0
    simp at h
    subst h
    obtain ⟨b, us, T, hb, hh, hl⟩ := hob
    obtain ⟨b', hb', rfl⟩ := hp (by show (c.mem.getD i .dead).kd = _; rw [hm]; rfl)
    rw [hb] at hb'
    simp at hb'
    subst hb'
    refine ⟨b, off, (us.drop off).take n, rfl, (hl.drop off).take n, fun j u hj => ?_⟩
    rw [List.getElem?_take] at hj
    split at hj
    · rw [List.getElem?_drop] at hj
      simp [World.cell?, hh, hj]
    · cases hj
  case eptr i k off =>
    obtain ⟨hi, hp, h1⟩ : c.al i ∧ (∀ t, c.kd i = .row t → ∃ b o n c1, c.β i = .slice (some ⟨b, o, none⟩) n c1 ∧ v = .pointer (some ⟨b, o + k * t.size + off, none⟩)) ∧ v.oneCell' = true := by
      cases hv; exact ⟨by assumption, by assumption, by assumption⟩
    have hob := ho i
    simp only [Rd.run1_get] at h
    cases hm : c.mem.getD i .dead <;> rw [hm] at h hob <;> simp only [Rd.run1_fail, Rd.run1_ret, Rd.run1_opt] at h <;> try (cases h; done)
    · rename_i t xs
      cases hx : xs[k]? <;> rw [hx] at h <;> simp at h
      rename_i e
      subst h
      obtain ⟨A, c0, hb, hob⟩ := hob
      obtain ⟨b, o, n0, c1, hb', rfl⟩ := hp t (by show (c.mem.getD i .dead).kd = _; rw [hm]; rfl)
      rw [hb] at hb'
      simp at hb'
      obtain ⟨rfl, rfl, rfl⟩ := hb'
      rcases hob with ⟨rfl, _⟩ | ⟨b', o', arr, T, e1, hh, hc0, hle, hsz, hrows⟩
      · simp at hx
      · simp at e1
        obtain ⟨rfl, rfl⟩ := e1
        obtain ⟨us, hul, hre, hcell⟩ := hrows k e hx
        refine ⟨b, _, (us.drop off).take n, rfl, ((rel_enc hre).drop off).take n, fun j u hj => ?_⟩
        rw [List.getElem?_take] at hj
        split at hj
        · rw [List.getElem?_drop] at hj
          have := hcell _ _ hj
          simp [World.cell?, hh, Nat.add_assoc] at this ⊢
          exact this
        · cases hj
    · rename_i t xs
      cases hx : xs[k]? <;> rw [hx] at h <;> simp at h
      rename_i e
      subst h
      obtain ⟨A, c0, hb, hle, hrow⟩ := hob
      obtain ⟨b, o, n0, c1, hb', rfl⟩ := hp t (by show (c.mem.getD i .dead).kd = _; rw [hm]; rfl)
      simp at hb
      rw [hb] at hb'
      simp at hb'
      obtain ⟨rfl, rfl, rfl⟩ := hb'
      rcases hrow with rfl | ⟨b', o', e1, hok, hrows⟩
      · simp at hx
      · simp at e1
        obtain ⟨rfl, rfl⟩ := e1
        obtain ⟨us, hul, hre, hcell⟩ := hrows k e hx
        refine ⟨b, _, (us.drop off).take n, rfl, ((rel_enc hre).drop off).take n, fun j u hj => ?_⟩
        rw [List.getElem?_take] at hj
        split at hj
        · rw [List.getElem?_drop] at hj
          have := hcell _ _ hj
          simpa [Nat.add_assoc] using this
        · cases hj
  case rptr cs0 =>
    simp only [Rd.run1_ret] at h
    simp at h
    subst h
    obtain ⟨b, o, us, rfl, hb, hl, hu, hr⟩ : ∃ (b o : Nat) (us : List Value), v = .pointer (some ⟨b, o, none⟩) ∧ (c.ok b ∨ c.rd b) ∧ us.length = cs0.length ∧ (∀ (j : Nat) u, us[j]? = some u → c.w.cell? ⟨b, o + j, none⟩ = some u) ∧
        (∀ (j : Nat) d u, cs0[j]? = some d → us[j]? = some u → c.C d u) := by
      cases hv; exact ⟨_, _, _, rfl, by assumption, by assumption, by assumption, by assumption⟩
    refine ⟨b, o, us.take n, rfl, RelL.take ⟨hl, hr⟩ n, fun j u hj => ?_⟩
    rw [List.getElem?_take] at hj
    split at hj
    · exact hu j u hj
    · cases hj

theorem rel_mkV {g : Bool} {cs : List CV} {v : V} {us : List Value} {m : List Obj} (h : (mkV g cs).run1 m = some v) (hl : c.L cs us) :
    (g = true ∧ c.V v (.agg us.toArray)) ∨ (g = false ∧ ∃ u, us = [u] ∧ c.V v u) := by
  unfold mkV at h
  split at h
  · simp [Rd.run1] at h; subst h; exact .inl ⟨rfl, .ofL hl⟩
  · rename_i x
    simp [Rd.run1] at h; subst h
    obtain ⟨u, r, rfl, hc, hr⟩ := hl.head
    have : r = [] := by have := hr.1; simpa using this
    subst this
    exact .inr ⟨rfl, u, rfl, .one _ _ hc⟩
  · simp [Rd.run1] at h

theorem addr_add (b o n : Nat) : (⟨b, o, none⟩ : Addr).add n = ⟨b, o + n, none⟩ := by
  unfold Addr.add; split <;> simp_all

/-- a load -/
theorem run_loadVar {t : TypeId} {n : Nat} {g : Bool} {b o : Nat} {us : List Value} {v : Value} (hn : sizeAt P t = some n) (hg : aggAt P t = some g) (hl : us.length = n)
    (hu : ∀ (j : Nat) u, us[j]? = some u → c.w.cell? ⟨b, o + j, none⟩ = some u) (hv : (g = true ∧ v = .agg us.toArray) ∨ (g = false ∧ us = [v])) :
    (Go.loadVar t ⟨b, o, none⟩).run P c.w = .ok v c.w := by
  unfold Go.loadVar
  rcases hv with ⟨rfl, rfl⟩ | ⟨rfl, rfl⟩
  · have := run_loadCells_list (P := P) c.w ⟨b, o, none⟩ us (fun j u hj => by rw [addr_add]; exact hu j u hj)
    rw [hl] at this
    simp [run_aggAt hg, run_sizeAt hn, this]
  · have := hu 0 v rfl
    simp at this
    simp [run_aggAt hg, this]

theorem rel_intOp {op : BinOp} {k : IntKind} {x y : Int} {z : CV} (h : (intOp op k x y).run1 c.mem = some z) :
    ∃ v, ((match op with
      | .add | .sub | .mul => Op.intArith op k x y
      | .quo | .rem => Op.intDiv op k x y
      | .and | .or | .xor | .andNot => Op.intBits op k x y
      | _ => Op.intCmp op x y) : Sem Value).run P c.w = .ok v c.w ∧ c.C z v := by
  cases op <;> simp only [intOp, Rd.run1_ret, Rd.run1_fail, Rd.run1_guard, Option.some.injEq] at h <;> first
    | (cases h; done)
    | (subst h; exact ⟨_, rfl, .int _ _⟩)
    | (subst h; exact ⟨_, rfl, .bool _⟩)
    | skip
  all_goals
    cases hy : (y == 0) with
    | true => rw [hy] at h; simp at h
    | false =>
      rw [hy] at h
      simp at h
      have hy' : ¬ y = 0 := by simpa using hy
      subst h
      exact ⟨_, by simp [Op.intDiv, hy'], .int _ _⟩

theorem rel_shiftOp {op : BinOp} {k l : IntKind} {x y : Int} {z : CV} (h : (shiftOp op k x y).run1 c.mem = some z) :
    ∃ v, (Op.shift op k x l y).run P c.w = .ok v c.w ∧ c.C z v := by
  cases op <;> simp only [shiftOp, Rd.run1_ret, Rd.run1_fail, Rd.run1_guard] at h <;> try (cases h; done)
  all_goals
    cases hy : decide (0 ≤ y) with
    | false => rw [hy] at h; simp at h
    | true =>
      rw [hy] at h
      simp at h hy
      have hy' : ¬ y < 0 := by omega
      subst h
      exact ⟨_, by simp [Op.shift, hy'], .int _ _⟩

theorem i64_max : IntKind.i64.max = 9223372036854775807 := by decide
theorem rel_strOp {op : BinOp} {x y : ByteArray} {z : CV} (h : (strOp op x y).run1 c.mem = some z) :
    ∃ v, (Op.stringOp op x y).run P c.w = .ok v c.w ∧ c.C z v := by
  cases op <;> simp only [strOp, Rd.run1_ret, Rd.run1_fail, Rd.run1_guard, Option.some.injEq] at h <;> first
    | (cases h; done)
    | (subst h; exact ⟨_, rfl, .bool _⟩)
    | skip
  cases hy : decide (x.size + y.size ≤ 9223372036854775807) with
  | false => rw [hy] at h; simp at h
  | true =>
    rw [hy] at h
    simp at h hy
    subst h
    have hy' : ¬ (((x.size + y.size : Nat) : Int) > IntKind.i64.max) := by rw [i64_max]; omega
    exact ⟨.string (x ++ y), by unfold Op.stringOp; simp only [if_neg hy']; rfl, .str _⟩

theorem run_equal_bool {t : TypeId} (hu : P.underlying t = some .bool) (p q : Bool) (w : World) : (Op.equal t (.bool p) (.bool q)).run P w = .ok (p == q) w := by
  show (Op.equalIn (9999 + 1) t (.bool p) (.bool q)).run P w = _
  rw [Op.equalIn, Sem.run_bind, run_underlying hu]
  rfl
theorem rel_binC {op : BinOp} {x y z : CV} {a b : Value} {t : TypeId} (h : (binC op (isBoolT P t) x y).run1 c.mem = some z) (ha : c.C x a) (hb : c.C y b) :
    ∃ v, (Go.binOp op t a b).run P c.w = .ok v c.w ∧ c.C z v := by
  cases x <;> cases y <;> simp only [binC, Rd.run1_fail] at h <;> try (cases h; done)
  · -- bools
    cases ha; cases hb
    rename_i p q
    cases hu : isBoolT P t with
    | false => rw [hu] at h; cases op <;> simp [Rd.run1] at h
    | true =>
      rw [hu] at h
      have hu' : P.underlying t = some .bool := by
        unfold isBoolT at hu
        split at hu
        · assumption
        · cases hu
      cases op <;> simp only [Rd.run1_fail, Rd.run1_ret, Option.some.injEq] at h <;> try (cases h; done)
      · subst h
        exact ⟨.bool (p == q), by
          show ((do pure (Value.bool (← Op.equal t (.bool p) (.bool q)))) : Sem Value).run P c.w = _
          rw [Sem.run_bind, run_equal_bool hu']; rfl, .bool _⟩
      · subst h
        exact ⟨.bool (!(p == q)), by
          show ((do pure (Value.bool (!(← Op.equal t (.bool p) (.bool q))))) : Sem Value).run P c.w = _
          rw [Sem.run_bind, run_equal_bool hu']; rfl, .bool _⟩
  · -- numbers
    cases ha; cases hb
    rename_i k p l q
    by_cases hs : op = .shl
    · subst hs; obtain ⟨v, hr, hv⟩ := rel_shiftOp (P := P) (l := l) h; exact ⟨v, hr, hv⟩
    by_cases hs2 : op = .shr
    · subst hs2; obtain ⟨v, hr, hv⟩ := rel_shiftOp (P := P) (l := l) h; exact ⟨v, hr, hv⟩
    have h' : (match eqKind k l with | some _ => intOp op k p q | none => .fail).run1 c.mem = some z := by
      cases op <;> first | exact absurd rfl hs | exact absurd rfl hs2 | exact h
    split at h'
    · rename_i e he
      obtain rfl := eqKind_spec he
      obtain ⟨v, hr, hv⟩ := rel_intOp (P := P) h'
      refine ⟨v, ?_, hv⟩
      cases op <;> first | exact absurd rfl hs | exact absurd rfl hs2 | (simp only [Go.binOp, ne_eq, not_true_eq_false, if_false]; exact hr)
    · simp [Rd.run1] at h'
  · -- texts
    cases ha; cases hb
    obtain ⟨v, hr, hv⟩ := rel_strOp (P := P) h
    exact ⟨v, by cases op <;> exact hr, hv⟩

theorem rel_unC {op : UnOp} {x z : CV} {a : Value} (h : (unC op x).run1 c.mem = some z) (ha : c.C x a) :
    ∃ v, (Op.unary op a).run P c.w = .ok v c.w ∧ c.C z v := by
  unfold unC at h
  split at h <;> simp only [Rd.run1_ret, Rd.run1_fail, Option.some.injEq] at h <;> try (cases h; done)
  · subst h; cases ha; exact ⟨_, rfl, .bool _⟩
  · subst h; cases ha; exact ⟨_, rfl, .int _ _⟩
  · subst h; cases ha; exact ⟨_, rfl, .int _ _⟩

theorem rel_convC {s d : TypeId} {x z : CV} {a : Value} (h : (convC P s d x).run1 c.mem = some z) (ha : c.C x a) :
    ∃ v, (Go.convert s d a).run P c.w = .ok v c.w ∧ c.C z v := by
  unfold convC at h
  split at h <;> simp only [Rd.run1_ret, Rd.run1_fail, Option.some.injEq] at h <;> try (cases h; done)
  · rename_i d0 k k0 n hs hd
    subst h; cases ha
    exact ⟨_, by simp [Go.convert, run_underlying hs, run_underlying hd, Conv.intToInt], .int _ _⟩
  · rename_i d0 st hs hd
    subst h; cases ha
    exact ⟨_, by simp [Go.convert, run_underlying hs, run_underlying hd], .str _⟩

theorem row_drop {w : World} {ok : Nat → Prop} {α : Type} {R : α → List Value → Prop} {size l h c : Nat} {A : Option Addr} {xs : List α} (hr : RowAt w ok R size A xs) (hlh : l ≤ h) (hh : h ≤ xs.length) (hc : xs.length ≤ c) :
    RowAt w ok R size (if c = l then A else A.map (·.add (l * size))) ((xs.take h).drop l) := by
  rcases hr with rfl | ⟨b, o, rfl, hb, hr⟩
  · exact .inl (by simp)
  · by_cases hcl : c = l
    · exact .inl (by rw [List.drop_eq_nil_iff]; simp; omega)
    · refine .inr ⟨b, o + l * size, by rw [if_neg hcl]; simp [addr_add], hb, fun k x hk => ?_⟩
      have hk' : xs[l + k]? = some x := by
        rw [List.getElem?_drop, List.getElem?_take] at hk
        split at hk
        · exact hk
        · cases hk
      obtain ⟨us, hl, hx, hu⟩ := hr _ _ hk'
      exact ⟨us, hl, hx, fun j u hj => by have := hu j u hj; rw [Nat.add_mul] at this; simpa [Nat.add_assoc] using this⟩

theorem cast_len {a b : Ty} (h : a = b) (xs : List (El a)) : (castL h xs).length = xs.length := by subst h; rfl

/-- an element's address -/
theorem rel_indexAddr (ho : c.objs) {t : TypeId} {sz : Nat} (hu : elemSize P t = some sz) {k : IntKind} {i : Int} {x z : CV} {a : Value}
    (h : (indexAddrC sz x i).run1 c.mem = some z) (ha : c.C x a) :
    ∃ v, (Instr.indexAt t a (.int k i)).run P c.w = .ok v c.w ∧ c.C z v := by
  obtain ⟨e, hu, hsz⟩ : ∃ e, P.underlying t = some (.slice e) ∧ sizeAt P e = some sz := by
    unfold elemSize at hu
    split at hu
    · exact ⟨_, by assumption, hu⟩
    · cases hu
  have base : ∀ (A : Option Addr) (n cp : Nat) (ad : Addr), A = some ad → 0 ≤ i → i < n → (Instr.indexAt t (.slice A n cp) (.int k i)).run P c.w = .ok (.pointer (some (ad.add (i.toNat * sz)))) c.w := by
    intro A n cp ad hA h0 h1
    subst hA
    simp [Instr.indexAt, run_underlying hu, asIntOf, run_sizeAt hsz, h0, h1]
  have data : ∀ (t' : Ty) (xs : List (El t')) (A : Option Addr) (cp : Nat), t'.size = sz → RowAt c.w c.ok (RepE c.w c.ok t') t'.size A xs →
      ((Rd.opt t' (idx xs i) fun e => .ret (.rptr (enc t' e))) : Rd CV).run1 c.mem = some z → ∃ v, (Instr.indexAt t (.slice A xs.length cp) (.int k i)).run P c.w = .ok v c.w ∧ c.C z v := by
    intro t' xs A cp hs hrow h
    simp only [Rd.run1_opt, Rd.run1_ret] at h
    cases hx : idx xs i <;> rw [hx] at h <;> simp at h
    rename_i e
    subst h
    unfold idx at hx
    split at hx
    · rename_i h0
      rcases hrow with rfl | ⟨b, o, rfl, hb, hr⟩
      · simp at hx
      · obtain ⟨us, hl, hre, hu'⟩ := hr _ _ hx
        have hlt : i.toNat < xs.length := by
          rcases Nat.lt_or_ge i.toNat xs.length with h | h
          · exact h
          · rw [List.getElem?_eq_none h] at hx; cases hx
        refine ⟨_, base _ _ _ _ rfl h0 (by omega), ?_⟩
        rw [addr_add, ← hs]
        have hle := rel_enc (rd := c.rd) (β := c.β) (kd := c.kd) (al := c.al) hre
        exact .rptr _ _ _ us (.inl hb) hle.1 (fun j u hj => by have := hu' j u hj; simpa [Nat.add_assoc] using this) hle.2
    · cases hx
  cases x <;> simp only [indexAddrC, Rd.run1_fail] at h <;> try (cases h; done)
  case slc t' xs =>
    cases hs : (t'.size == sz) <;> rw [hs] at h <;> simp only [cond, Rd.run1_fail] at h
    · cases h
    obtain ⟨A, cp, rfl, hrow⟩ : ∃ A cp, a = .slice A xs.length cp ∧ RowAt c.w c.ok (RepE c.w c.ok t') t'.size A xs := by cases ha; exact ⟨_, _, rfl, by assumption⟩
    exact data t' xs A cp (by simpa using hs) hrow h
  case clp t' xs =>
    cases hs : (t'.size == sz) <;> rw [hs] at h <;> simp only [cond, Rd.run1_fail] at h
    · cases h
    obtain ⟨A, rfl, hrow⟩ : ∃ A, a = .slice A xs.length xs.length ∧ RowAt c.w c.ok (RepE c.w c.ok t') t'.size A xs := by cases ha; exact ⟨_, rfl, by assumption⟩
    exact data t' xs A _ (by simpa using hs) hrow h
  case osl j =>
    obtain ⟨hj, hv⟩ : c.al j ∧ (c.kd j ≠ .none → a = c.β j) := by cases ha; exact ⟨by assumption, by assumption⟩
    have hob := ho j
    simp only [Rd.run1_get] at h
    cases hm : c.mem.getD j .dead <;> rw [hm] at h hob <;> simp only [Rd.run1_fail] at h <;> try (cases h; done)
    all_goals
      rename_i t' xs
      have hkd : c.kd j = .row t' := by show (c.mem.getD j .dead).kd = _; rw [hm]; rfl
      cases hs : (t'.size == sz) <;> rw [hs] at h <;> simp only [cond, Rd.run1_fail] at h
      · cases h
      replace hs : t'.size = sz := by simpa using hs
      simp only [Rd.run1_guard, Rd.run1_ret] at h
      cases hg : (decide (0 ≤ i) && decide (i < xs.length)) <;> rw [hg] at h <;> simp at h
      subst h
      simp at hg
      rw [hv (by rw [hkd]; simp)]
    · obtain ⟨A, cp, hb, hob⟩ := hob
      rw [hb]
      rcases hob with ⟨rfl, _⟩ | ⟨b, o, arr, T, rfl, _⟩
      · simp at hg; omega
      · exact ⟨_, base _ _ _ _ rfl hg.1 (by omega), by
          rw [addr_add]
          exact .eptr _ _ _ _ hj (fun t2 h2 => by rw [hkd] at h2; cases h2; exact ⟨b, o, _, _, hb, by rw [hs]; rfl⟩) rfl⟩
    · obtain ⟨A, cp, hb, _, hob⟩ := hob
      simp at hb
      rw [hb]
      rcases hob with rfl | ⟨b, o, rfl, _⟩
      · simp at hg; omega
      · exact ⟨_, base _ _ _ _ rfl hg.1 (by omega), by
          rw [addr_add]
          exact .eptr _ _ _ _ hj (fun t2 h2 => by rw [hkd] at h2; cases h2; exact ⟨b, o, _, _, hb, by rw [hs]; rfl⟩) rfl⟩
  case ovw j of n =>
    obtain ⟨hj, hv⟩ : c.al j ∧ (∀ t, c.kd j = .row t → ∃ A n' cp A', c.β j = .slice A n' cp ∧ a = .slice A' n (cp - of) ∧ of + n ≤ cp ∧ (∀ b o, A = some ⟨b, o, none⟩ → cp ≠ of → A' = some ⟨b, o + of * t.size, none⟩)) := by
      cases ha; exact ⟨by assumption, by assumption⟩
    have hob := ho j
    simp only [Rd.run1_get] at h
    cases hm : c.mem.getD j .dead <;> rw [hm] at h hob <;> simp only [Rd.run1_fail] at h <;> try (cases h; done)
    all_goals
      rename_i t' xs
      have hkd : c.kd j = .row t' := by show (c.mem.getD j .dead).kd = _; rw [hm]; rfl
      cases hs : (t'.size == sz) <;> rw [hs] at h <;> simp only [cond, Rd.run1_fail] at h
      · cases h
      replace hs : t'.size = sz := by simpa using hs
      simp only [Rd.run1_guard, Rd.run1_ret] at h
      obtain ⟨A, n', cp, A', hb, rfl, hle, hA⟩ := hv t' hkd
    · cases hg : (decide (0 ≤ i) && decide (i < n)) <;> rw [hg] at h <;> simp at h
      subst h
      simp at hg
      obtain ⟨A2, c2, hb2, hob⟩ := hob
      rw [hb] at hb2
      cases hb2
      rcases hob with ⟨rfl, rfl⟩ | ⟨b, o, arr, T, rfl, _⟩
      · omega
      · refine ⟨_, base _ _ _ _ (hA b o rfl (by omega)) hg.1 (by omega), ?_⟩
        rw [addr_add]
        exact .eptr _ _ _ _ hj (fun t2 h2 => by rw [hkd] at h2; cases h2; exact ⟨b, o, _, _, hb, by rw [hs, Nat.add_mul, ← Nat.add_assoc]; rfl⟩) rfl
    · cases hg : (decide (0 ≤ i) && decide (i < n) && decide (of + i.toNat < xs.length)) <;> rw [hg] at h <;> simp at h
      subst h
      simp at hg
      obtain ⟨A2, c2, hb2, _, hob⟩ := hob
      simp at hb2
      rw [hb] at hb2
      cases hb2
      rcases hob with rfl | ⟨b, o, rfl, _⟩
      · simp at hg
      · refine ⟨_, base _ _ _ _ (hA b o rfl (by omega)) hg.1.1 (by omega), ?_⟩
        rw [addr_add]
        exact .eptr _ _ _ _ hj (fun t2 h2 => by rw [hkd] at h2; cases h2; exact ⟨b, o, _, _, hb, by rw [hs, Nat.add_mul, ← Nat.add_assoc]; rfl⟩) rfl

theorem run_fieldOff {t : TypeId} {f o n : Nat} {g : Bool} (h : fieldOff P t f = some (o, n, g)) :
    ∃ fs fd, P.underlying t = some (.struct fs) ∧ fs[f]? = some fd ∧ fd.offset = o ∧ sizeAt P fd.type = some n ∧ aggAt P fd.type = some g := by
  unfold fieldOff at h
  split at h
  · split at h
    · split at h
      · simp at h
        obtain ⟨rfl, rfl, rfl⟩ := h
        exact ⟨_, _, by assumption, by assumption, rfl, by assumption, by assumption⟩
      · cases h
    · cases h
  · cases h

theorem rel_fieldAddr {t : TypeId} {f o n : Nat} {g : Bool} {x z : CV} {a : Value} (hf : fieldOff P t f = some (o, n, g)) (h : (fieldAddrC o n x).run1 c.mem = some z) (ha : c.C x a) :
    ∃ v, (Instr.fieldAt t a f).run P c.w = .ok v c.w ∧ c.C z v := by
  obtain ⟨fs, fd, hu, hfd, ho, hn, hg⟩ := run_fieldOff hf
  unfold fieldAddrC at h
  split at h
  · simp [Rd.run1] at h
  · rename_i n0
    have hn0 : ¬ n = 0 := by assumption
    have base : ∀ b q, (Instr.fieldAt t (.pointer (some ⟨b, q, none⟩)) f).run P c.w = .ok (.pointer (some ⟨b, q + o, none⟩)) c.w := by
      intro b q
      simp [Instr.fieldAt, run_underlying hu, hfd, Instr.sureAddr, fieldPlace, run_sizeAt hn, hn0, addr_add, ho]
    cases x <;> simp only [Rd.run1_ret, Rd.run1_fail, Option.some.injEq] at h <;> try (cases h; done)
    case ptr i off =>
      obtain ⟨hi, hp, h1⟩ : c.al i ∧ (c.kd i = .cells → ∃ b, c.β i = .pointer (some ⟨b, 0, none⟩) ∧ a = .pointer (some ⟨b, off, none⟩)) ∧ a.oneCell' = true := by
        cases ha; exact ⟨by assumption, by assumption, by assumption⟩
      simp only [Rd.run1_get] at h
      cases hm : c.mem.getD i .dead <;> rw [hm] at h <;> simp only [Rd.run1_fail, Rd.run1_ret, Option.some.injEq] at h <;> try (cases h; done)
      subst h
      have hk : c.kd i = .cells := by show (c.mem.getD i .dead).kd = _; rw [hm]; rfl
      obtain ⟨b, hb, rfl⟩ := hp hk
      exact ⟨_, base b off, .ptr _ _ _ hi (fun _ => ⟨b, hb, rfl⟩) rfl⟩
    case eptr i k off =>
      obtain ⟨hi, hp, h1⟩ : c.al i ∧ (∀ t, c.kd i = .row t → ∃ b o n c1, c.β i = .slice (some ⟨b, o, none⟩) n c1 ∧ a = .pointer (some ⟨b, o + k * t.size + off, none⟩)) ∧ a.oneCell' = true := by
        cases ha; exact ⟨by assumption, by assumption, by assumption⟩
      simp only [Rd.run1_get] at h
      cases hm : c.mem.getD i .dead <;> rw [hm] at h <;> simp only [Rd.run1_fail, Rd.run1_ret, Option.some.injEq] at h <;> try (cases h; done)
      all_goals
        rename_i t' xs'
        subst h
        have hk : c.kd i = .row t' := by show (c.mem.getD i .dead).kd = _; rw [hm]; rfl
        obtain ⟨b, q, n1, c1, hb, rfl⟩ := hp t' hk
        exact ⟨_, base b _, .eptr _ _ _ _ hi (fun t2 h2 => by rw [hk] at h2; cases h2; exact ⟨b, q, n1, c1, hb, by rw [Nat.add_assoc]⟩) rfl⟩
    case rptr cs =>
      subst h
      obtain ⟨b, q, us, rfl, hb, hl, hu', hr⟩ : ∃ (b q : Nat) (us : List Value), a = .pointer (some ⟨b, q, none⟩) ∧ (c.ok b ∨ c.rd b) ∧ us.length = cs.length ∧ (∀ (j : Nat) u, us[j]? = some u → c.w.cell? ⟨b, q + j, none⟩ = some u) ∧
        (∀ (j : Nat) d u, cs[j]? = some d → us[j]? = some u → c.C d u) := by
        cases ha; exact ⟨_, _, _, rfl, by assumption, by assumption, by assumption, by assumption⟩
      refine ⟨_, base b q, ?_⟩
      have hd := RelL.drop (w := c.w) (ok := c.ok) (rd := c.rd) (β := c.β) (kd := c.kd) (al := c.al) ⟨hl, hr⟩ o
      exact .rptr _ _ _ (us.drop o) hb hd.1 (fun j u hj => by rw [List.getElem?_drop] at hj; rw [Nat.add_assoc]; exact hu' _ _ hj) hd.2

theorem rel_lenS (ho : c.objs) {t : TypeId} {ty e : TypeId} {ts : List TypeId} {x z : CV} {a : Value} (hu : P.underlying t = some (.slice e)) (h : (lenS x).run1 c.mem = some z) (ha : c.C x a) :
    ∃ v, (Builtin.len_ (t :: ts).toArray ty #[a]).run P c.w = .ok v c.w ∧ c.C z v := by
  have sl : ∀ (A : Option Addr) (n cp : Nat), (Builtin.len_ (t :: ts).toArray ty #[.slice A n cp]).run P c.w = .ok (.int .i64 n) c.w := by
    intro A n cp
    simp [Builtin.len_, run_underlying hu, goInt]
  cases x <;> simp only [lenS, Rd.run1_fail, Rd.run1_ret, Option.some.injEq] at h <;> try (cases h; done)
  case nils t' => subst h; cases ha; exact ⟨_, sl _ _ _, .int _ _⟩
  case slc t' xs => subst h; cases ha; exact ⟨_, sl _ _ _, .int _ _⟩
  case clp t' xs => subst h; cases ha; exact ⟨_, sl _ _ _, .int _ _⟩
  case osl j =>
    obtain ⟨hj, hv⟩ : c.al j ∧ (c.kd j ≠ .none → a = c.β j) := by cases ha; exact ⟨by assumption, by assumption⟩
    have hob := ho j
    simp only [Rd.run1_get] at h
    cases hm : c.mem.getD j .dead <;> rw [hm] at h hob <;> simp only [Rd.run1_fail, Rd.run1_ret, Option.some.injEq] at h <;> try (cases h; done)
    all_goals
      rename_i t' xs
      have hkd : c.kd j = .row t' := by show (c.mem.getD j .dead).kd = _; rw [hm]; rfl
      subst h
      rw [hv (by rw [hkd]; simp)]
    · obtain ⟨A, cp, hb, _⟩ := hob
      rw [hb]
      exact ⟨_, sl _ _ _, .int _ _⟩
    · obtain ⟨A, cp, hb, _⟩ := hob
      simp at hb
      rw [hb]
      exact ⟨_, sl _ _ _, .int _ _⟩
  case ovw j o n =>
    obtain ⟨hj, hv⟩ : c.al j ∧ (∀ t, c.kd j = .row t → ∃ A n' cp A', c.β j = .slice A n' cp ∧ a = .slice A' n (cp - o) ∧ o + n ≤ cp ∧ (∀ b q, A = some ⟨b, q, none⟩ → cp ≠ o → A' = some ⟨b, q + o * t.size, none⟩)) := by
      cases ha; exact ⟨by assumption, by assumption⟩
    simp only [Rd.run1_get] at h
    cases hm : c.mem.getD j .dead <;> rw [hm] at h <;> simp only [Rd.run1_fail, Rd.run1_ret, Option.some.injEq] at h <;> try (cases h; done)
    all_goals
      rename_i t' xs
      have hkd : c.kd j = .row t' := by show (c.mem.getD j .dead).kd = _; rw [hm]; rfl
      obtain ⟨A, n', cp, A', hb, rfl, _⟩ := hv t' hkd
      subst h
      exact ⟨_, sl _ _ _, .int _ _⟩
theorem rel_lenM (ho : c.objs) {t : TypeId} {ty k e : TypeId} {ts : List TypeId} {x z : CV} {a : Value} (hu : P.underlying t = some (.map k e)) (h : (lenM x).run1 c.mem = some z) (ha : c.C x a) :
    ∃ v, (Builtin.len_ (t :: ts).toArray ty #[a]).run P c.w = .ok v c.w ∧ c.C z v := by
  cases x <;> simp only [lenM, Rd.run1_fail, Rd.run1_ret, Option.some.injEq] at h <;> try (cases h; done)
  case osl j =>
    obtain ⟨hj, hv⟩ : c.al j ∧ (c.kd j ≠ .none → a = c.β j) := by cases ha; exact ⟨by assumption, by assumption⟩
    have hob := ho j
    simp only [Rd.run1_get] at h
    cases hm : c.mem.getD j .dead <;> rw [hm] at h hob <;> simp only [Rd.run1_fail, Rd.run1_ret, Option.some.injEq] at h <;> try (cases h; done)
    rename_i kt vt g es tidy
    have hkd : c.kd j = .map := by show (c.mem.getD j .dead).kd = _; rw [hm]; rfl
    subst h
    rw [hv (by rw [hkd]; simp)]
    obtain ⟨r, arr, clock, hb, hh, hs, _⟩ := hob
    rw [hb]
    refine ⟨.int .i64 es.length, ?_, .int _ _⟩
    simp [Builtin.len_, run_underlying hu, goInt, Go.MapKept.run_getObj_map hh, hs]
theorem rel_lenC (ho : c.objs) {t : TypeId} {ty : TypeId} {ts : List TypeId} {x z : CV} {a : Value} (h : (lenC P t x).run1 c.mem = some z) (ha : c.C x a) :
    ∃ v, (Builtin.len_ (t :: ts).toArray ty #[a]).run P c.w = .ok v c.w ∧ c.C z v := by
  have key : x.isStr = false → (lenC P t x).run1 c.mem = some z → (∃ e, P.underlying t = some (.slice e) ∧ (lenS x).run1 c.mem = some z) ∨ ∃ k e, P.underlying t = some (.map k e) ∧ (lenM x).run1 c.mem = some z := by
    intro hx h
    cases hu : P.underlying t with
    | none => cases x <;> simp [lenC, hu, Rd.run1] at h
    | some d => cases d <;> cases x <;> simp [lenC, hu, Rd.run1, CV.isStr] at h hx ⊢ <;> exact h
  cases hx : x.isStr with
  | false =>
    rcases key hx h with ⟨e, hu, h⟩ | ⟨k, e, hu, h⟩
    · exact rel_lenS ho hu h ha
    · exact rel_lenM ho hu h ha
  | true =>
    cases x <;> simp [CV.isStr] at hx
    rename_i s
    cases ha
    have hu : P.underlying t = some .string := by
      cases hu : P.underlying t with
      | none => simp [lenC, hu, Rd.run1] at h
      | some d => cases d <;> simp [lenC, hu, Rd.run1] at h ⊢
    simp [lenC, hu, Rd.run1] at h
    subst h
    exact ⟨.int .i64 s.size, by simp [Builtin.len_, run_underlying hu, goInt], .int _ _⟩

/-! ### slice expressions -/
theorem run_sliceBound {k : IntKind} {i : Int} {y : Nat} {cd : BoundsCode} (h0 : 0 ≤ i) (h1 : i ≤ y) : (Instr.sliceBound (.int k i) y cd).run P c.w = .ok i.toNat c.w := by
  simp [Instr.sliceBound, asIntOf, h0, h1]
/-- the bounds of a slice expression, as values -/
def BV (o : Option Value) (x : Option Int) : Prop :=
  match o, x with
  | none, none => True
  | some (.int _ n), some m => n = m
  | _, _ => False
theorem run_sliceBounds {sl : Bool} {len cap : Nat} {lv hv mv : Option Value} {l h m : Option Int} (el : BV lv l) (eh : BV hv h) (em : BV mv m)
    (hl0 : 0 ≤ l.getD 0) (hlh : l.getD 0 ≤ h.getD len) (hhm : h.getD len ≤ m.getD cap) (hm : m.getD cap ≤ cap) (hmh : m.isSome → h.isSome) :
    (Instr.sliceBounds sl len cap lv hv mv).run P c.w = .ok ((l.getD 0).toNat, (h.getD len).toNat, (m.getD cap).toNat) c.w := by
  have e1 : ∀ {o : Option Value} {x : Option Int}, BV o x → (o = none ∧ x = none) ∨ ∃ k n, o = some (.int k n) ∧ x = some n := by
    intro o x hb
    unfold BV at hb
    split at hb
    · exact .inl ⟨rfl, rfl⟩
    · subst hb; exact .inr ⟨_, _, rfl, rfl⟩
    · exact hb.elim
  rcases e1 em with ⟨rfl, rfl⟩ | ⟨km, nm, rfl, rfl⟩
  · rcases e1 eh with ⟨rfl, rfl⟩ | ⟨kh, nh, rfl, rfl⟩
    · rcases e1 el with ⟨rfl, rfl⟩ | ⟨kl, nl, rfl, rfl⟩
      · simp [Instr.sliceBounds]
      · simp at *
        simp [Instr.sliceBounds, run_sliceBound hl0 hlh]
    · rcases e1 el with ⟨rfl, rfl⟩ | ⟨kl, nl, rfl, rfl⟩
      · simp at *
        simp [Instr.sliceBounds, run_sliceBound hlh hhm]
      · simp at *
        have h0 : (0 : Int) ≤ nh := by omega
        have hh : nl ≤ (nh.toNat : Int) := by omega
        simp [Instr.sliceBounds, run_sliceBound h0 hhm, run_sliceBound hl0 hh]
  · rcases e1 eh with ⟨rfl, rfl⟩ | ⟨kh, nh, rfl, rfl⟩
    · simp at hmh
    · rcases e1 el with ⟨rfl, rfl⟩ | ⟨kl, nl, rfl, rfl⟩
      · simp at *
        have h0 : (0 : Int) ≤ nm := by omega
        have hh : nh ≤ (nm.toNat : Int) := by omega
        simp [Instr.sliceBounds, run_sliceBound h0 hm, run_sliceBound hlh hh]
      · simp at *
        have h0 : (0 : Int) ≤ nm := by omega
        have h1 : (0 : Int) ≤ nh := by omega
        have hh : nh ≤ (nm.toNat : Int) := by omega
        have hh2 : nl ≤ (nh.toNat : Int) := by omega
        simp [Instr.sliceBounds, run_sliceBound h0 hm, run_sliceBound h1 hh, run_sliceBound hl0 hh2]

theorem run_slice {t e : TypeId} {sz : Nat} (hu : P.underlying t = some (.slice e)) (hsz : sizeAt P e = some sz) {A : Option Addr} {len cap : Nat} {lv hv mv : Option Value} {l h m : Option Int} (el : BV lv l) (eh : BV hv h) (em : BV mv m)
    (hl0 : 0 ≤ l.getD 0) (hlh : l.getD 0 ≤ h.getD len) (hhm : h.getD len ≤ m.getD cap) (hm : m.getD cap ≤ cap) (hmh : m.isSome → h.isSome) :
    (Instr.sliceAt t (.slice A len cap) lv hv mv).run P c.w = .ok (.slice (if (m.getD cap).toNat = (l.getD 0).toNat then A else A.map (·.add ((l.getD 0).toNat * sz))) ((h.getD len).toNat - (l.getD 0).toNat) ((m.getD cap).toNat - (l.getD 0).toNat)) c.w := by
  have hb := run_sliceBounds (P := P) (c := c) (sl := true) (len := len) (cap := cap) el eh em hl0 hlh hhm hm hmh
  simp [Instr.sliceAt, run_underlying hu, Instr.slice, hb, run_sizeAt hsz]

theorem rel_sliceD {t e : TypeId} {sz : Nat} (hu : P.underlying t = some (.slice e)) (hsz : sizeAt P e = some sz) {t' : Ty} {xs : List (El t')} (hs : t'.size = sz) {A : Option Addr} {cap : Nat} (hcap : xs.length ≤ cap)
    (hrow : RowAt c.w c.ok (RepE c.w c.ok t') t'.size A xs) {lv hv mv : Option Value} {l h m : Option Int} (el : BV lv l) (eh : BV hv h) (em : BV mv m) {z : CV} (hz : (sliceD t' xs (l.getD 0) h m).run1 c.mem = some z) :
    ∃ v, (Instr.sliceAt t (.slice A xs.length cap) lv hv mv).run P c.w = .ok v c.w ∧ c.C z v := by
  unfold sliceD at hz
  subst hs
  cases m with
  | none =>
    simp only [Rd.run1_guard, Rd.run1_ret] at hz
    cases hg : (decide (0 ≤ l.getD 0) && decide (l.getD 0 ≤ h.getD xs.length) && decide (h.getD xs.length ≤ xs.length)) <;> rw [hg] at hz <;> simp at hz
    subst hz
    simp at hg
    obtain ⟨⟨h0, h1⟩, h2⟩ := hg
    refine ⟨_, run_slice hu hsz el eh em h0 h1 (by simp; omega) (by simp) (by simp), ?_⟩
    simp only [Option.getD_none, Int.toNat_natCast]
    have hd := row_drop (l := (l.getD 0).toNat) (h := (h.getD xs.length).toNat) (c := cap) hrow (by omega) (by omega) hcap
    have hlen : ((xs.take (h.getD xs.length).toNat).drop (l.getD 0).toNat).length = (h.getD xs.length).toNat - (l.getD 0).toNat := by simp; omega
    rw [← hlen]
    exact .slc _ _ _ _ (by rw [hlen]; omega) hd
  | some m =>
    cases h with
    | none => simp [Rd.run1] at hz
    | some h =>
      simp only [Rd.run1_guard, Rd.run1_ret] at hz
      cases hg : (decide (0 ≤ l.getD 0) && decide (l.getD 0 ≤ h) && decide (h = m) && decide (m ≤ xs.length)) <;> rw [hg] at hz <;> simp at hz
      subst hz
      simp at hg
      obtain ⟨⟨⟨h0, h1⟩, rfl⟩, h2⟩ := hg
      refine ⟨_, run_slice hu hsz el eh em h0 h1 (by simp) (by simp; omega) (by simp), ?_⟩
      simp only [Option.getD_some]
      have hlen : ((xs.take h.toNat).drop (l.getD 0).toNat).length = h.toNat - (l.getD 0).toNat := by simp; omega
      rw [← hlen]
      refine .clp _ _ _ ?_
      rcases hrow with rfl | ⟨b, o, rfl, hb, hr⟩
      · exact .inl (by simp)
      · by_cases hcl : h.toNat = (l.getD 0).toNat
        · exact .inl (by rw [List.drop_eq_nil_iff]; simp; omega)
        · have := row_drop (w := c.w) (ok := c.ok) (R := RepE c.w c.ok t') (size := t'.size) (l := (l.getD 0).toNat) (h := h.toNat) (c := xs.length) (A := some ⟨b, o, none⟩) (xs := xs) (.inr ⟨b, o, rfl, hb, hr⟩) (by omega) (by omega) (Nat.le_refl _)
          rw [if_neg (by omega)] at this
          rw [if_neg hcl]
          exact this

theorem rel_sliceS {t : TypeId} (hu : P.underlying t = some .string) {s : ByteArray} {lv hv mv : Option Value} {l h m : Option Int} (el : BV lv l) (eh : BV hv h) (em : BV mv m) {z : CV} (hz : (sliceS s (l.getD 0) h m).run1 c.mem = some z) :
    ∃ v, (Instr.sliceAt t (.string s) lv hv mv).run P c.w = .ok v c.w ∧ c.C z v := by
  unfold sliceS at hz
  cases m with
  | some m => simp [Rd.run1] at hz
  | none =>
    simp only [Rd.run1_guard, Rd.run1_ret] at hz
    cases hg : (decide (0 ≤ l.getD 0) && decide (l.getD 0 ≤ h.getD s.size) && decide (h.getD s.size ≤ s.size)) <;> rw [hg] at hz <;> simp at hz
    subst hz
    simp at hg
    obtain ⟨⟨h0, h1⟩, h2⟩ := hg
    have em' : mv = none := by cases mv <;> simp_all [BV]
    subst em'
    have hb := run_sliceBounds (P := P) (c := c) (sl := false) (len := s.size) (cap := s.size) el eh em h0 h1 (by simp; omega) (by simp) (by simp)
    exact ⟨_, by simp [Instr.sliceAt, run_underlying hu, Instr.slice, hb], .str _⟩

theorem rel_sliceC (ho : c.objs) {t e : TypeId} {sz : Nat} (hu : P.underlying t = some (.slice e)) (hsz : sizeAt P e = some sz) {x z : CV} {a : Value} {lv hv mv : Option Value} {l h m : Option Int} (el : BV lv l) (eh : BV hv h) (em : BV mv m)
    (hz : (sliceC sz x (l.getD 0) h m).run1 c.mem = some z) (ha : c.C x a) :
    ∃ v, (Instr.sliceAt t a lv hv mv).run P c.w = .ok v c.w ∧ c.C z v := by
  cases x <;> simp only [sliceC, Rd.run1_fail] at hz <;> try (cases hz; done)
  case slc t' xs =>
    cases hs : (t'.size == sz) <;> rw [hs] at hz <;> simp only [cond, Rd.run1_fail] at hz
    · cases hz
    obtain ⟨A, cp, rfl, hle, hrow⟩ : ∃ A cp, a = .slice A xs.length cp ∧ xs.length ≤ cp ∧ RowAt c.w c.ok (RepE c.w c.ok t') t'.size A xs := by cases ha; exact ⟨_, _, rfl, by assumption, by assumption⟩
    exact rel_sliceD hu hsz (by simpa using hs) hle hrow el eh em hz
  case clp t' xs =>
    cases hs : (t'.size == sz) <;> rw [hs] at hz <;> simp only [cond, Rd.run1_fail] at hz
    · cases hz
    obtain ⟨A, rfl, hrow⟩ : ∃ A, a = .slice A xs.length xs.length ∧ RowAt c.w c.ok (RepE c.w c.ok t') t'.size A xs := by cases ha; exact ⟨_, rfl, by assumption⟩
    exact rel_sliceD hu hsz (by simpa using hs) (Nat.le_refl _) hrow el eh em hz
  case nils t' =>
    cases ha
    cases hb : (m.isSome && !h.isSome) <;> rw [hb] at hz <;> simp only [cond, Rd.run1_fail] at hz
    · simp only [Rd.run1_guard, Rd.run1_ret] at hz
      cases hg : (decide (l.getD 0 = 0) && decide (h.getD 0 = 0) && decide (m.getD 0 = 0)) <;> rw [hg] at hz <;> simp at hz
      subst hz
      simp at hg
      obtain ⟨⟨h0, h1⟩, h2⟩ := hg
      have hz : ((0 : Nat) : Int) = 0 := rfl
      have := run_slice (c := c) hu hsz (A := none) (len := 0) (cap := 0) el eh em (by omega) (by rw [hz]; omega) (by rw [hz]; omega) (by rw [hz]; omega) (by
        intro hm
        cases h with
        | none => simp [hm] at hb
        | some _ => rfl)
      rw [hz, h0, h1, h2] at this
      exact ⟨_, this, by simpa using RelC.nils t'⟩
    · cases hz
  case osl j =>
    obtain ⟨hj, hv'⟩ : c.al j ∧ (c.kd j ≠ .none → a = c.β j) := by cases ha; exact ⟨by assumption, by assumption⟩
    have hob := ho j
    simp only [Rd.run1_get] at hz
    cases hm : c.mem.getD j .dead <;> rw [hm] at hz hob <;> simp only [Rd.run1_fail] at hz <;> try (cases hz; done)
    · rename_i t' xs
      have hkd : c.kd j = .row t' := by show (c.mem.getD j .dead).kd = _; rw [hm]; rfl
      cases hs : (t'.size == sz && !m.isSome) <;> rw [hs] at hz <;> simp only [cond, Rd.run1_fail] at hz
      · cases hz
      simp at hs
      obtain ⟨hs, rfl⟩ := hs
      simp only [Rd.run1_guard, Rd.run1_ret] at hz
      cases hg : (decide (0 ≤ l.getD 0) && decide (l.getD 0 ≤ h.getD xs.length) && decide (h.getD xs.length ≤ xs.length)) <;> rw [hg] at hz <;> simp at hz
      subst hz
      simp at hg
      obtain ⟨⟨h0, h1⟩, h2⟩ := hg
      obtain ⟨A, cp, hb, hob⟩ := hob
      rw [hv' (by rw [hkd]; simp), hb]
      have hle : xs.length ≤ cp := by rcases hob with ⟨rfl, rfl⟩ | ⟨_, _, _, _, _, _, _, h, _⟩ <;> simp_all
      refine ⟨_, run_slice hu hsz el eh em h0 h1 (by simp; omega) (by simp) (by simp), ?_⟩
      simp only [Option.getD_none, Int.toNat_natCast]
      rw [show (h.getD xs.length).toNat - (l.getD 0).toNat = (h.getD xs.length - l.getD 0).toNat by omega]
      refine .ovw _ _ _ _ hj (fun t2 h2 => ?_) rfl
      rw [hkd] at h2; cases h2
      refine ⟨A, _, cp, _, hb, rfl, by omega, fun b o hA hne => ?_⟩
      rw [if_neg (by omega), hA, hs]
      simp [addr_add]
    · rename_i t' xs
      have hkd : c.kd j = .row t' := by show (c.mem.getD j .dead).kd = _; rw [hm]; rfl
      cases hs : (t'.size == sz) <;> rw [hs] at hz <;> simp only [cond, Rd.run1_fail] at hz
      · cases hz
      obtain ⟨A, cp, hb, hle, hrow⟩ := hob
      simp at hb
      rw [hv' (by rw [hkd]; simp), hb]
      exact rel_sliceD hu hsz (by simpa using hs) hle hrow el eh em hz
  case ovw j of n =>
    obtain ⟨hj, hv'⟩ : c.al j ∧ (∀ t, c.kd j = .row t → ∃ A n' cp A', c.β j = .slice A n' cp ∧ a = .slice A' n (cp - of) ∧ of + n ≤ cp ∧ (∀ b o, A = some ⟨b, o, none⟩ → cp ≠ of → A' = some ⟨b, o + of * t.size, none⟩)) := by
      cases ha; exact ⟨by assumption, by assumption⟩
    simp only [Rd.run1_get] at hz
    cases hm : c.mem.getD j .dead <;> rw [hm] at hz <;> simp only [Rd.run1_fail] at hz <;> try (cases hz; done)
    · rename_i t' xs
      have hkd : c.kd j = .row t' := by show (c.mem.getD j .dead).kd = _; rw [hm]; rfl
      cases hs : (t'.size == sz && !m.isSome) <;> rw [hs] at hz <;> simp only [cond, Rd.run1_fail] at hz
      · cases hz
      simp at hs
      obtain ⟨hs, rfl⟩ := hs
      simp only [Rd.run1_guard, Rd.run1_ret] at hz
      cases hg : (decide (0 ≤ l.getD 0) && decide (l.getD 0 ≤ h.getD n) && decide (h.getD n ≤ n)) <;> rw [hg] at hz <;> simp at hz
      subst hz
      simp at hg
      obtain ⟨⟨h0, h1⟩, h2⟩ := hg
      obtain ⟨A, n', cp, A', hb, rfl, hle, hA⟩ := hv' t' hkd
      refine ⟨_, run_slice hu hsz el eh em h0 h1 (by simp; omega) (by simp) (by simp), ?_⟩
      simp only [Option.getD_none, Int.toNat_natCast]
      rw [show (h.getD n).toNat - (l.getD 0).toNat = (h.getD n - l.getD 0).toNat by omega, Nat.sub_sub]
      refine .ovw _ _ _ _ hj (fun t2 h2 => ?_) rfl
      rw [hkd] at h2; cases h2
      refine ⟨A, n', cp, _, hb, rfl, by omega, fun b o hA' hne => ?_⟩
      rw [if_neg (by omega), hA b o hA' (by omega), hs]
      simp [addr_add, Nat.add_mul, Nat.add_assoc]
    · rename_i t' xs
      have hkd : c.kd j = .row t' := by show (c.mem.getD j .dead).kd = _; rw [hm]; rfl
      cases hs : (t'.size == sz && !m.isSome) <;> rw [hs] at hz <;> simp only [cond, Rd.run1_fail] at hz
      · cases hz
      simp at hs
      obtain ⟨hs, rfl⟩ := hs
      simp only [Rd.run1_guard, Rd.run1_ret] at hz
      cases hg : (decide (0 ≤ l.getD 0) && decide (l.getD 0 ≤ h.getD n) && decide (of + h.getD n ≤ xs.length)) <;> rw [hg] at hz <;> simp at hz
      subst hz
      simp at hg
      obtain ⟨⟨h0, h1⟩, h2⟩ := hg
      obtain ⟨A, n', cp, A', hb, rfl, hle, hA⟩ := hv' t' hkd
      have hob := ho j
      rw [hm] at hob
      obtain ⟨A2, hb2, _⟩ := hob
      rw [hb] at hb2
      cases hb2
      refine ⟨_, run_slice hu hsz el eh em h0 h1 (by simp; omega) (by simp) (by simp), ?_⟩
      simp only [Option.getD_none, Int.toNat_natCast]
      rw [show (h.getD n).toNat - (l.getD 0).toNat = (h.getD n - l.getD 0).toNat by omega, Nat.sub_sub]
      refine .ovw _ _ _ _ hj (fun t2 h2 => ?_) rfl
      rw [hkd] at h2; cases h2
      refine ⟨A, _, _, _, hb, rfl, by omega, fun b o hA' hne => ?_⟩
      rw [if_neg (by omega), hA b o hA' (by omega), hs]
      simp [addr_add, Nat.add_mul, Nat.add_assoc]
end
end Go.Sk
