/- Every operation but a call of a function: where the evaluator comes to a value, the model's own does, and the state stands on. -/
import Derived.Test.YtgamdchlgikaiaaSkFA
set_option linter.unusedSimpArgs false
set_option linter.unusedVariables false
set_option linter.unusedSectionVars false
namespace Go.Sk
open Go
section
variable {P : Program} {X : Fr} {env : List V} {mem : List Obj} {al : Nat → Prop} {tmps : Array Value} {w : World} {β : Nat → Value} {ok : Nat → Prop}

theorem _root_.Go.Sk.RelC.int_inv {kd : Nat → KD} {k : IntKind} {n : Int} {v : Value} (h : RelC w ok X.rd β kd al (.int k n) v) : v = .int k n := by cases h; rfl
theorem _root_.Go.Sk.RelC.bool_inv {kd : Nat → KD} {b : Bool} {v : Value} (h : RelC w ok X.rd β kd al (.bool b) v) : v = .bool b := by cases h; rfl
theorem _root_.Go.Sk.RelC.str_inv {kd : Nat → KD} {s : ByteArray} {v : Value} (h : RelC w ok X.rd β kd al (.str s) v) : v = .string s := by cases h; rfl
theorem _root_.Go.Sk.RelC.ptr_inv {kd : Nat → KD} {i off : Nat} {v : Value} (h : RelC w ok X.rd β kd al (.ptr i off) v) (hk : kd i = .cells) : ∃ b, β i = .pointer (some ⟨b, 0, none⟩) ∧ v = .pointer (some ⟨b, off, none⟩) := by
  cases h with
  | ptr _ _ _ hi hp h1 => exact hp hk
theorem _root_.Go.Sk.RelC.eptr_inv {kd : Nat → KD} {i k off : Nat} {v : Value} (h : RelC w ok X.rd β kd al (.eptr i k off) v) (t : Ty) (hk : kd i = .row t) : ∃ b o n c, β i = .slice (some ⟨b, o, none⟩) n c ∧ v = .pointer (some ⟨b, o + k * t.size + off, none⟩) := by
  cases h with
  | eptr _ _ _ _ hi hp h1 => exact hp t hk
theorem _root_.Go.Sk.RelC.osl_inv {kd : Nat → KD} {i : Nat} {v : Value} (h : RelC w ok X.rd β kd al (.osl i) v) (hk : kd i ≠ .none) : v = β i := by
  cases h with
  | osl _ _ hi hp h1 => exact hp hk
theorem Inv.objs (h : Inv X env mem al tmps w β ok) : (⟨w, ok, X.rd, β, mem, al⟩ : Ct).objs := h.obj

/-- operands -/
theorem Inv.ev (h : Inv X env mem al tmps w β ok) (ds : List Deferred) (x : Operand) (t : Option Ty) : RelV w ok X.rd β (kds mem) al ((⟨env, mem⟩ : St).ev x t) ((⟨tmps, ds⟩ : Act).eval x) := by
  cases x with
  | tmp i =>
    show RelV _ _ _ _ _ _ (env.getD i uv) (tmps.getD i undef)
    cases he : env[i]? with
    | none => rw [List.getD_eq_getElem?_getD, he]; exact .one _ _ (.undef _)
    | some v => rw [List.getD_eq_getElem?_getD, he]; exact h.env i v he
  | const v =>
    cases v <;> first
      | exact .one _ _ (rel_ofConst (c := ⟨w, ok, X.rd, β, mem, al⟩) _ _)
      | skip
    · rename_i cs
      show RelV _ _ _ _ _ _ (.agg (cs.toList.map (ofConst none))) (.agg cs)
      have : RelL w ok X.rd β (kds mem) al (cs.toList.map (ofConst none)) cs.toList :=
        ⟨by simp, fun j c u hj hu => by
          simp only [List.getElem?_map] at hj
          rw [hu] at hj
          simp at hj
          subst hj
          exact rel_ofConst (c := ⟨w, ok, X.rd, β, mem, al⟩) _ _⟩
      have h2 := RelV.ofL this
      simpa using h2
    · rename_i vs
      exact .one _ _ (.undef _)
  | global g => exact .one _ _ (.undef _)
  | func f => exact .one _ _ (.fn f [] [] rfl (fun j c u hj => by simp at hj))

/-- what an operation is to leave -/
structure Left (P : Program) (X : Fr) (env : List V) (mem : List Obj) (al : Nat → Prop) (tmps : Array Value) (w : World) (new : Nat → Prop) (s : Sem Next) (out : Out) : Prop where
  run : ∃ (r : Next) (cv : Value) (w' : World) (β' : Nat → Value) (ok' : Nat → Prop), s.run P w = .ok r w' ∧ (r = .value cv ∨ (r = .skip ∧ cv = undef)) ∧
    Inv X env (wrs mem out.ws) (fun i => al i ∨ new i) tmps w' β' ok' ∧ RelV w' ok' X.rd β' (kds (wrs mem out.ws)) (fun i => al i ∨ new i) out.v cv

theorem Left.value {new : Nat → Prop} {s : Sem Value} {cv : Value} {w' : World} {β' : Nat → Value} {ok' : Nat → Prop} {out : Out} (hs : s.run P w = .ok cv w') (hI : Inv X env (wrs mem out.ws) (fun i => al i ∨ new i) tmps w' β' ok')
    (hR : RelV w' ok' X.rd β' (kds (wrs mem out.ws)) (fun i => al i ∨ new i) out.v cv) : Left P X env mem al tmps w new (do pure (.value (← s))) out :=
  ⟨.value cv, cv, w', β', ok', by simp [hs], .inl rfl, hI, hR⟩
theorem Left.read {new : Nat → Prop} (h : Inv X env mem al tmps w β ok) {s : Sem Value} {v : Value} (hr : s.run P w = .ok v w) {c : V} (hv : RelV w ok X.rd β (kds mem) al c v) :
    Left P X env mem al tmps w new (do pure (.value (← s))) ⟨c, []⟩ := by
  have key := h.update (mem' := mem) (al' := fun i => al i ∨ new i) (β' := β) (ok' := ok) (fun _ => False) (fun _ h => .inl h) (fun _ h => h.elim) (fun _ _ => rfl) (fun _ _ => rfl) (fun _ h => h.elim) (fun _ h => h.elim) (fun b _ _ => rfl) (Nat.le_refl _)
    (fun _ h => h) (fun _ h => .inl h) (fun _ _ h => h.elim) (fun _ _ h => h.elim) (fun _ _ _ h => h.elim) (fun _ _ h => h.elim) rfl rfl rfl
  exact ⟨.value v, v, w, β, ok, by simp [hr], .inl rfl, key.2, hv.mono key.1⟩

theorem bind_run1 {α β' : Type} {m : List Obj} {x : Rd α} {f : α → Rd β'} {b : β'} (h : (x.bind f).run1 m = some b) : ∃ a, x.run1 m = some a ∧ (f a).run1 m = some b := by
  rw [Rd.run1_bind] at h
  cases hx : x.run1 m with
  | none => rw [hx] at h; cases h
  | some a => rw [hx] at h; exact ⟨a, rfl, h⟩
theorem bif_fail {α : Type} {m : List Obj} {c : Bool} {x : Rd α} {a : α} (h : (bif c then x else .fail).run1 m = some a) : c = true ∧ x.run1 m = some a := by
  cases c with
  | true => exact ⟨rfl, h⟩
  | false => cases h
theorem guard_run1 {α : Type} {m : List Obj} {c : Bool} {x : Rd α} {a : α} (h : (Rd.guard c x).run1 m = some a) : c = true ∧ x.run1 m = some a := by
  cases c with
  | true => exact ⟨rfl, h⟩
  | false => cases h
theorem ret_run1 {α : Type} {m : List Obj} {x a : α} (h : (Rd.ret x).run1 m = some a) : x = a := by simpa [Rd.run1] using h
theorem fail_run1 {α : Type} {m : List Obj} {a : α} {p : Prop} (h : (Rd.fail : Rd α).run1 m = some a) : p := by cases h

variable (ds : List Deferred)
theorem left_one (h : Inv X env mem al tmps w β ok) {new : Nat → Prop} {r : Rd CV} {out : Out} (hr : (r.bind fun c => .ret ⟨.one c, []⟩).run1 mem = some out) {s : Sem Value}
    (key : ∀ z, r.run1 mem = some z → ∃ v, s.run P w = .ok v w ∧ RelC w ok X.rd β (kds mem) al z v) : Left P X env mem al tmps w new (do pure (.value (← s))) out := by
  obtain ⟨z, hz, ho⟩ := bind_run1 hr
  obtain rfl := ret_run1 ho
  obtain ⟨v, hv, hc⟩ := key z hz
  exact .read h hv (.one _ _ hc)

/-- a value cell's relation, of an operand -/
theorem ev_one (h : Inv X env mem al tmps w β ok) {x : Operand} {t : Option Ty} {c : CV} (e : (⟨env, mem⟩ : St).ev x t = .one c) : RelC w ok X.rd β (kds mem) al c ((⟨tmps, ds⟩ : Act).eval x) := by
  have := h.ev ds x t
  rw [e] at this
  exact this.one'
theorem ev_int (h : Inv X env mem al tmps w β ok) {x : Operand} {t : Option Ty} {k : IntKind} {n : Int} (e : (⟨env, mem⟩ : St).ev x t = .one (.int k n)) : (⟨tmps, ds⟩ : Act).eval x = .int k n := by
  exact (ev_one ds h e).int_inv

theorem BV_of (h : Inv X env mem al tmps w β ok) {l : Option Operand} {x : Option Int} (e : optInt (l.map fun o => (⟨env, mem⟩ : St).ev o none) = some x) : BV (l.map (⟨tmps, ds⟩ : Act).eval) x := by
  cases l with
  | none => simp [optInt] at e; subst e; exact trivial
  | some o =>
    simp only [Option.map_some, optInt] at e
    cases ho : (⟨env, mem⟩ : St).ev o none with
    | one c =>
      rw [ho] at e
      cases c <;> simp [intOf?] at e
      rename_i k n
      subst e
      have := (ev_one ds h ho).int_inv
      show BV (some ((⟨tmps, ds⟩ : Act).eval o)) (some n)
      rw [this]
      rfl
    | agg cs => rw [ho] at e; simp [intOf?] at e
    | tup vs => rw [ho] at e; simp [intOf?] at e

section ops
variable (C : Cfg) (h : Inv X env mem al tmps w β ok) {new : Nat → Prop} {out : Out} {ty : TypeId} {id : Nat} {dst : Option Tmp} {pos : String} {aft : Array Edge} {gd : Option (Nat × Bool)}
include h
theorem left_move {x : Operand} (hr : (semOp P C (.move x) ty (⟨env, mem⟩ : St).ev id).run1 mem = some out) : Left P X env mem al tmps w new (execOp (⟨tmps, ds⟩ : Act).eval ⟨dst, .move x, ty, pos, aft, gd⟩) out := by
  obtain rfl := ret_run1 hr
  exact .read (s := pure ((⟨tmps, ds⟩ : Act).eval x)) h rfl (h.ev ds x _)
theorem left_assign {x : Operand} (hr : (semOp P C (.assign x) ty (⟨env, mem⟩ : St).ev id).run1 mem = some out) : Left P X env mem al tmps w new (execOp (⟨tmps, ds⟩ : Act).eval ⟨dst, .assign x, ty, pos, aft, gd⟩) out := by
  obtain rfl := ret_run1 hr
  exact .read (s := pure ((⟨tmps, ds⟩ : Act).eval x)) h rfl (h.ev ds x _)
theorem left_pick {x a b : Operand} (hr : (semOp P C (.pick x a b) ty (⟨env, mem⟩ : St).ev id).run1 mem = some out) : Left P X env mem al tmps w new (execOp (⟨tmps, ds⟩ : Act).eval ⟨dst, .pick x a b, ty, pos, aft, gd⟩) out := by
  simp only [semOp] at hr
  split at hr
  · rename_i t he
    have hb := (ev_one ds h he).bool_inv
    have hs : execOp (⟨tmps, ds⟩ : Act).eval ⟨dst, .pick x a b, ty, pos, aft, gd⟩ = (do pure (.value (← (do let c ← asBool ((⟨tmps, ds⟩ : Act).eval x); pure (if c then (⟨tmps, ds⟩ : Act).eval a else (⟨tmps, ds⟩ : Act).eval b)))) : Sem Next) := by
      simp [execOp]
    rw [hs]
    cases t with
    | true => simp only [Rd.run1_split, cond, Rd.run1_ret, Option.some.injEq] at hr; subst hr; exact .read h (by rw [hb]; rfl) (h.ev ds a _)
    | false => simp only [Rd.run1_split, cond, Rd.run1_ret, Option.some.injEq] at hr; subst hr; exact .read h (by rw [hb]; rfl) (h.ev ds b _)
  · cases hr
theorem left_load {t : TypeId} {x : Operand} (hr : (semOp P C (.load t x) ty (⟨env, mem⟩ : St).ev id).run1 mem = some out) : Left P X env mem al tmps w new (execOp (⟨tmps, ds⟩ : Act).eval ⟨dst, .load t x, ty, pos, aft, gd⟩) out := by
  simp only [semOp] at hr
  split at hr
  · rename_i c n g he hn hg
    obtain ⟨cs, hcs, hr⟩ := bind_run1 hr
    obtain ⟨hlen, hr⟩ := bif_fail hr
    obtain ⟨v, hv, hr⟩ := bind_run1 hr
    obtain rfl := ret_run1 hr
    obtain ⟨b, o, us, hp, hl, hu⟩ := rel_load (c := ⟨w, ok, X.rd, β, mem, al⟩) h.objs hcs (ev_one ds h he)
    have hul : us.length = n := by rw [hl.1]; simpa using hlen
    rcases rel_mkV (c := ⟨w, ok, X.rd, β, mem, al⟩) hv hl with ⟨rfl, hv'⟩ | ⟨rfl, u, rfl, hv'⟩
    · exact .read h (s := Instr.loadAt t ((⟨tmps, ds⟩ : Act).eval x)) (by rw [hp]; exact run_loadVar (c := ⟨w, ok, X.rd, β, mem, al⟩) hn hg hul hu (.inl ⟨rfl, rfl⟩)) hv'
    · exact .read h (s := Instr.loadAt t ((⟨tmps, ds⟩ : Act).eval x)) (by rw [hp]; exact run_loadVar (c := ⟨w, ok, X.rd, β, mem, al⟩) hn hg hul hu (.inr ⟨rfl, rfl⟩)) hv'
  · cases hr
theorem left_binOp {op : BinOp} {t u : TypeId} {x y : Operand} (hr : (semOp P C (.binOp op t x y u) ty (⟨env, mem⟩ : St).ev id).run1 mem = some out) : Left P X env mem al tmps w new (execOp (⟨tmps, ds⟩ : Act).eval ⟨dst, .binOp op t x y u, ty, pos, aft, gd⟩) out := by
  simp only [semOp] at hr
  split at hr
  · rename_i a b ha hb
    refine left_one h hr fun z hz => ?_
    have ra := ev_one ds h ha
    have rb := ev_one ds h hb
    obtain ⟨v, hv, hc⟩ := rel_binC (P := P) (c := ⟨w, ok, X.rd, β, mem, al⟩) (t := t) hz ra rb
    refine ⟨v, ?_, hc⟩
    have hg : (Go.eqGuard op t x y ((⟨tmps, ds⟩ : Act).eval x) ((⟨tmps, ds⟩ : Act).eval y)).run P w = .ok () w := by
      unfold Go.eqGuard
      have hax : (∃ k n, (⟨tmps, ds⟩ : Act).eval x = .int k n) ∨ (∃ s, (⟨tmps, ds⟩ : Act).eval x = .string s) ∨ (∃ b, (⟨tmps, ds⟩ : Act).eval x = .bool b) := by
        cases a <;> cases b <;> simp only [binC] at hz <;> first
          | (cases hz; done)
          | exact .inl ⟨_, _, ra.int_inv⟩
          | exact .inr (.inl ⟨_, ra.str_inv⟩)
          | exact .inr (.inr ⟨_, ra.bool_inv⟩)
      rcases hax with ⟨k, n, e⟩ | ⟨s, e⟩ | ⟨s, e⟩ <;> rw [e] <;> cases op <;> rfl
    simp only [Sem.run_bind, hg, Result.andThen_ok]
    exact hv
  · rename_i a b ha hb
    have ra := h.ev ds x (tyAt P t)
    have rb := h.ev ds y (tyAt P u)
    rw [ha] at ra
    rw [hb] at rb
    generalize hx : (⟨tmps, ds⟩ : Act).eval x = xv at ra
    generalize hy : (⟨tmps, ds⟩ : Act).eval y = yv at rb
    cases ra with
    | agg _ us hl1 hr1 =>
      cases rb with
      | agg _ vs hl2 hr2 =>
        refine left_one h hr fun z hz => ?_
        obtain ⟨v, hg, hv, hc⟩ := rel_binA (P := P) (c := ⟨w, ok, X.rd, β, mem, al⟩) (x := x) (y := y) hz ⟨hl1, hr1⟩ ⟨hl2, hr2⟩
        refine ⟨v, ?_, hc⟩
        rw [hx, hy]
        simp only [Sem.run_bind, hg, Result.andThen_ok]
        exact hv
  · cases hr
theorem left_unOp {op : UnOp} {t : TypeId} {x : Operand} (hr : (semOp P C (.unOp op t x) ty (⟨env, mem⟩ : St).ev id).run1 mem = some out) : Left P X env mem al tmps w new (execOp (⟨tmps, ds⟩ : Act).eval ⟨dst, .unOp op t x, ty, pos, aft, gd⟩) out := by
  simp only [semOp] at hr
  split at hr
  · rename_i a ha
    exact left_one h hr fun z hz => rel_unC (P := P) (c := ⟨w, ok, X.rd, β, mem, al⟩) hz (ev_one ds h ha)
  · cases hr
theorem left_convert {s d : TypeId} {x : Operand} (hr : (semOp P C (.convert s d x) ty (⟨env, mem⟩ : St).ev id).run1 mem = some out) : Left P X env mem al tmps w new (execOp (⟨tmps, ds⟩ : Act).eval ⟨dst, .convert s d x, ty, pos, aft, gd⟩) out := by
  simp only [semOp] at hr
  split at hr
  · rename_i a ha
    exact left_one h hr fun z hz => rel_convC (P := P) (c := ⟨w, ok, X.rd, β, mem, al⟩) hz (ev_one ds h ha)
  · cases hr
theorem left_fieldAddr {t : TypeId} {x : Operand} {f : Nat} (hr : (semOp P C (.fieldAddr t x f) ty (⟨env, mem⟩ : St).ev id).run1 mem = some out) : Left P X env mem al tmps w new (execOp (⟨tmps, ds⟩ : Act).eval ⟨dst, .fieldAddr t x f, ty, pos, aft, gd⟩) out := by
  simp only [semOp] at hr
  split at hr
  · rename_i a o n g ha hf
    exact left_one h hr fun z hz => rel_fieldAddr (P := P) (c := ⟨w, ok, X.rd, β, mem, al⟩) hf hz (ev_one ds h ha)
  · cases hr
theorem left_indexAddr {t : TypeId} {x i : Operand} (hr : (semOp P C (.indexAddr t x i) ty (⟨env, mem⟩ : St).ev id).run1 mem = some out) : Left P X env mem al tmps w new (execOp (⟨tmps, ds⟩ : Act).eval ⟨dst, .indexAddr t x i, ty, pos, aft, gd⟩) out := by
  simp only [semOp] at hr
  split at hr
  · rename_i a k n sz ha hi hsz
    refine left_one h hr (s := Instr.indexAt t ((⟨tmps, ds⟩ : Act).eval x) ((⟨tmps, ds⟩ : Act).eval i)) fun z hz => ?_
    rw [ev_int ds h hi]
    exact rel_indexAddr (P := P) (c := ⟨w, ok, X.rd, β, mem, al⟩) h.objs hsz hz (ev_one ds h ha)
  · cases hr
theorem left_slice {t : TypeId} {x : Operand} {l hi m : Option Operand} (hr : (semOp P C (.slice t x l hi m) ty (⟨env, mem⟩ : St).ev id).run1 mem = some out) : Left P X env mem al tmps w new (execOp (⟨tmps, ds⟩ : Act).eval ⟨dst, .slice t x l hi m, ty, pos, aft, gd⟩) out := by
  simp only [semOp] at hr
  split at hr
  · rename_i a lx hx mx ha hl hh hm
    have bl := BV_of ds h hl
    have bh := BV_of ds h hh
    have bm := BV_of ds h hm
    split at hr
    · rename_i s hu
      refine left_one h hr (s := Instr.sliceAt t ((⟨tmps, ds⟩ : Act).eval x) (l.map (⟨tmps, ds⟩ : Act).eval) (hi.map (⟨tmps, ds⟩ : Act).eval) (m.map (⟨tmps, ds⟩ : Act).eval)) fun z hz => ?_
      rw [(ev_one ds h ha).str_inv]
      exact rel_sliceS (P := P) (c := ⟨w, ok, X.rd, β, mem, al⟩) hu bl bh bm hz
    · rename_i e c hu
      split at hr
      · rename_i sz hsz
        exact left_one h hr (s := Instr.sliceAt t ((⟨tmps, ds⟩ : Act).eval x) (l.map (⟨tmps, ds⟩ : Act).eval) (hi.map (⟨tmps, ds⟩ : Act).eval) (m.map (⟨tmps, ds⟩ : Act).eval)) fun z hz =>
          rel_sliceC (P := P) (c := ⟨w, ok, X.rd, β, mem, al⟩) h.objs hu hsz bl bh bm hz (ev_one ds h ha)
      · cases hr
    · cases hr
  · cases hr
theorem left_index {t : TypeId} {x i : Operand} (hr : (semOp P C (.index t x i) ty (⟨env, mem⟩ : St).ev id).run1 mem = some out) : Left P X env mem al tmps w new (execOp (⟨tmps, ds⟩ : Act).eval ⟨dst, .index t x i, ty, pos, aft, gd⟩) out := by
  simp only [semOp] at hr
  split at hr
  · rename_i s k n hu ha hi
    simp only [Rd.run1_opt] at hr
    cases hb : byteAt s n with
    | none => rw [hb] at hr; cases hr
    | some b =>
      rw [hb] at hr
      simp only [Option.bind_some, Rd.run1_ret, Option.some.injEq] at hr
      subst hr
      refine .read h (s := Instr.index t ((⟨tmps, ds⟩ : Act).eval x) ((⟨tmps, ds⟩ : Act).eval i)) (v := .int .u8 b) ?_ (.one _ _ (.int _ _))
      rw [ev_int ds h hi, (ev_one ds h ha).str_inv]
      unfold byteAt at hb
      split at hb
      · rename_i h0
        cases hs : s[n.toNat]? with
        | none => rw [hs] at hb; cases hb
        | some q =>
          rw [hs] at hb
          simp at hb
          subst hb
          simp [Instr.index, run_underlying hu, asIntOf, h0, hs]
      · cases hb
  · cases hr
theorem left_extract {x : Operand} {i : Nat} (hr : (semOp P C (.extract x i) ty (⟨env, mem⟩ : St).ev id).run1 mem = some out) : Left P X env mem al tmps w new (execOp (⟨tmps, ds⟩ : Act).eval ⟨dst, .extract x i, ty, pos, aft, gd⟩) out := by
  simp only [semOp] at hr
  split at hr
  · rename_i vs ha
    split at hr
    · rename_i v hv
      obtain rfl := ret_run1 hr
      have := h.ev ds x none
      rw [ha] at this
      obtain ⟨us, e, hl, hrel⟩ : ∃ us : List Value, (⟨tmps, ds⟩ : Act).eval x = .tuple us.toArray ∧ us.length = vs.length ∧ (∀ (j : Nat) v u, vs[j]? = some v → us[j]? = some u → RelV w ok X.rd β (kds mem) al v u) := by
        generalize (⟨tmps, ds⟩ : Act).eval x = cv at this
        cases this
        exact ⟨_, rfl, by assumption, by assumption⟩
      have hlt : i < vs.length := by
        rcases Nat.lt_or_ge i vs.length with h | h
        · exact h
        · rw [List.getElem?_eq_none h] at hv; cases hv
      have hu : us[i]? = some us[i] := List.getElem?_eq_getElem (by omega)
      refine .read h (s := Instr.extract ((⟨tmps, ds⟩ : Act).eval x) i) (v := us[i]) ?_ (hrel i v _ hv hu)
      rw [e]
      simp [Instr.extract, hu]
    · cases hr
  · cases hr
theorem left_nilCheck {x : Operand} (hr : (semOp P C (.nilCheck x) ty (⟨env, mem⟩ : St).ev id).run1 mem = some out) : Left P X env mem al tmps w new (execOp (⟨tmps, ds⟩ : Act).eval ⟨dst, .nilCheck x, ty, pos, aft, gd⟩) out := by
  have base : ∀ c, (⟨env, mem⟩ : St).ev x none = .one c → (∃ ad, (⟨tmps, ds⟩ : Act).eval x = .pointer (some ad)) ∨ (∃ f us, (⟨tmps, ds⟩ : Act).eval x = .func (.func f) #[] us) → Left P X env mem al tmps w new (execOp (⟨tmps, ds⟩ : Act).eval ⟨dst, .nilCheck x, ty, pos, aft, gd⟩) ⟨.one c, []⟩ := by
    intro c hc hv
    have hs : execOp (⟨tmps, ds⟩ : Act).eval ⟨dst, .nilCheck x, ty, pos, aft, gd⟩ = (do pure (.value (← (pure ((⟨tmps, ds⟩ : Act).eval x) : Sem Value))) : Sem Next) := by
      rcases hv with ⟨ad, hv⟩ | ⟨f, us, hv⟩ <;> simp [execOp, hv]
    rw [hs]
    exact .read h rfl (.one _ _ (ev_one ds h hc))
  simp only [semOp] at hr
  split at hr
  · rename_i i o he
    simp only [Rd.run1_get] at hr
    cases hm : mem.getD i .dead <;> rw [hm] at hr <;> try (cases hr; done)
    obtain rfl := ret_run1 hr
    have he' := ev_one ds h he
    refine base _ he (.inl ?_)
    generalize (⟨tmps, ds⟩ : Act).eval x = cv at he'
    obtain ⟨b, _, rfl⟩ := he'.ptr_inv (by show (mem.getD i .dead).kd = _; rw [hm]; rfl)
    exact ⟨_, rfl⟩
  · rename_i i k o he
    simp only [Rd.run1_get] at hr
    cases hm : mem.getD i .dead <;> rw [hm] at hr <;> try (cases hr; done)
    all_goals
      rename_i t' xs'
      obtain rfl := ret_run1 hr
      have he' := ev_one ds h he
      refine base _ he (.inl ?_)
      generalize (⟨tmps, ds⟩ : Act).eval x = cv at he'
      obtain ⟨b, q, n, c1, _, rfl⟩ := he'.eptr_inv t' (by show (mem.getD i .dead).kd = _; rw [hm]; rfl)
      exact ⟨_, rfl⟩
  · rename_i cs he
    obtain rfl := ret_run1 hr
    have he' := ev_one ds h he
    refine base _ he (.inl ?_)
    generalize (⟨tmps, ds⟩ : Act).eval x = cv at he'
    cases he'
    exact ⟨_, rfl⟩
  · rename_i f cs he
    obtain rfl := ret_run1 hr
    have he' := ev_one ds h he
    refine base _ he (.inr ?_)
    generalize (⟨tmps, ds⟩ : Act).eval x = cv at he'
    cases he'
    exact ⟨_, _, rfl⟩
  · cases hr
end ops
end
end Go.Sk
