/- One operation as the machine does it; regions in text order. -/
import Derived.Test.YtgamdchlgikaiaaSkRB
set_option linter.unusedSimpArgs false
set_option linter.unusedVariables false
set_option linter.unusedSectionVars false
namespace Go.Sk
open Go

def Enters (P : Program) (g : FuncId) : Prop := ∃ fn c, P.funcs[g]? = some fn ∧ fn.body = some c ∧ (fn.name == "runtime.NumGoroutine") = false
def CallOk (P : Program) (call : CallF) : Prop := ∀ (g : FuncId) (as : List V) (m : List Obj) (ρ : RD) (x : ρ.El), call g as m ρ = some x → FnSpec P g as m ρ x ∧ Enters P g

section
variable {P : Program} {C : Cfg} {X : Fr} {env : List V} {mem : List Obj} {al : Nat → Prop} {tmps : Array Value} {w : World} {β : Nat → Value} {ok : Nat → Prop}

theorem put_eq (s : St) (dst : Option Tmp) (v : V) : s.put dst v = ⟨match dst with | some t => s.env.set t v | none => s.env, s.mem⟩ := by cases dst <;> rfl
/-- a value laid into its temporary -/
theorem _root_.Go.Sk.Inv.putD (h : Inv X env mem al tmps w β ok) (dst : Option Tmp) (ds : List Deferred) {v : V} {cv : Value} (hv : RelV w ok X.rd β (kds mem) al v cv) :
    Inv X ((⟨env, mem⟩ : St).put dst v).env mem al (((⟨tmps, ds⟩ : Act).put dst cv).tmps) w β ok := by
  cases dst with
  | none => exact h
  | some t => exact h.put t hv
theorem put_defers (a : Act) (dst : Option Tmp) (cv : Value) : (a.put dst cv).defers = a.defers := by cases dst <;> rfl
theorem act_eta (a : Act) {ds : List Deferred} (h : a.defers = ds) : a = ⟨a.tmps, ds⟩ := by cases a; cases h; rfl

theorem callPure_enters {call : CallF} {g : FuncId} {args : List V} {id : Nat} {out : Out} (hr : (callPure P C g args id).runC call mem = some out) (hcall : CallOk P call) : Enters P g := by
  unfold callPure at hr
  split at hr
  · cases hr
  · rename_i ds' hds
    rw [runC_bind] at hr
    cases ha : (pureVs args).runC call mem with
    | none => rw [ha] at hr; cases hr
    | some as =>
      rw [ha, Option.bind_some, runC_bind] at hr
      cases hw : Rd.runC call mem (bif flatVals ds' then Rd.ret [] else (rowsVs args).bind freeze) with
      | none => rw [hw] at hr; cases hr
      | some ws =>
        rw [hw, Option.bind_some] at hr
        simp only [Rd.runC] at hr
        cases hx : call g as [] ⟨ds', 0⟩ with
        | none => rw [hx] at hr; cases hr
        | some x => exact (hcall g as [] ⟨ds', 0⟩ x hx).2
theorem callRef_enters {call : CallF} {mode : RefMode} {g : FuncId} {args : List V} {id : Nat} {out : Out} (hr : (callRef P C mode g args id).runC call mem = some out) (hcall : CallOk P call) : Enters P g := by
  unfold callRef at hr
  split at hr
  · cases hr
  · rename_i ds' hds
    rw [runC_bind] at hr
    cases ha : (grab 200 (idsVs args) []).runC call mem with
    | none => rw [ha] at hr; cases hr
    | some acc =>
      rw [ha, Option.bind_some] at hr
      cases hn : hasNat (firsts acc) id with
      | true => rw [hn] at hr; cases hr
      | false =>
        rw [hn] at hr
        simp only [cond] at hr
        split at hr
        · cases hr
        · rename_i rs _
          cases hd : decide (ownCounts (ds' ++ rootVDs rs) ≤ ownCounts ds' + refRoom) with
          | false => rw [hd] at hr; cases hr
          | true =>
            rw [hd] at hr
            simp only [Rd.runC] at hr
            cases hx : call g (renVs (fun i => posOf (id :: firsts acc) i 0) args) (.ghost (renCs (fun i => posOf (id :: firsts acc) i 0) (rootCVs rs)) :: renPs (fun i => posOf (id :: firsts acc) i 0) acc) ⟨ds' ++ rootVDs rs, rs.length⟩ with
            | none => rw [hx] at hr; cases hr
            | some x => exact (hcall g _ _ _ x hx).2

theorem op_wp {call : CallF} (hcall : CallOk P call) (ds : List Deferred) (h : Inv X env mem al tmps w β ok) (o : Oper) {id : Nat} (hid : ∀ j, id ≤ j → j < id + newOf P C o.op (⟨env, mem⟩ : St).ev → ¬ al j) {out : Out}
    (hr : (semOp P C o.op o.type (⟨env, mem⟩ : St).ev id).runC call mem = some out) {K : Act → World → Prop} {Q : Exit → Act → World → Prop}
    (hK : ∀ (tmps' : Array Value) (w' : World) (β' : Nat → Value) (ok' : Nat → Prop),
      Inv X ((⟨env, mem⟩ : St).put o.dst out.v).env (wrs mem out.ws) (fun i => al i ∨ (id ≤ i ∧ i < id + newOf P C o.op (⟨env, mem⟩ : St).ev)) tmps' w' β' ok' → K ⟨tmps', ds⟩ w') :
    o.wp P ⟨tmps, ds⟩ w K Q := by
  generalize hnn : newOf P C o.op (⟨env, mem⟩ : St).ev = nn at hid hK
  have fin : ∀ (cv : Value) (w' : World) (β' : Nat → Value) (ok' : Nat → Prop), Inv X env (wrs mem out.ws) (fun i => al i ∨ (id ≤ i ∧ i < id + nn)) tmps w' β' ok' →
      RelV w' ok' X.rd β' (kds (wrs mem out.ws)) (fun i => al i ∨ (id ≤ i ∧ i < id + nn)) out.v cv → K ((⟨tmps, ds⟩ : Act).put o.dst cv) w' := by
    intro cv w' β' ok' hI hv
    rw [act_eta ((⟨tmps, ds⟩ : Act).put o.dst cv) (put_defers _ _ _)]
    refine hK _ w' β' ok' ?_
    have := hI.putD o.dst ds hv
    rw [put_eq] at this ⊢
    exact this
  cases hc : Op.isCall o.op with
  | false =>
    subst hnn
    rw [runC_CF _ (CF_semOp P C o.op o.type _ id hc)] at hr
    obtain ⟨r, cv, w', β', ok', h1, h2, h3, h4⟩ := (sem_left C ds h o hid hc hr).run
    unfold Oper.wp
    rw [h1]
    rcases h2 with rfl | ⟨rfl, rfl⟩
    · exact fin cv w' β' ok' h3 h4
    · exact fin undef w' β' ok' h3 h4
  | true =>
    obtain ⟨dst, op, ty, pos, aft, gd⟩ := o
    cases op <;> first | (cases hc; done) | skip
    rename_i c
    obtain ⟨callee, args, ats⟩ := c
    cases callee <;> first | (cases hc; done) | skip
    rename_i f
    simp only [semOp] at hr
    split at hr
    · rename_i g caps hf
      have hev := ev_one ds h hf
      obtain ⟨us, hfu, hul, hur⟩ : ∃ us : List Value, (⟨tmps, ds⟩ : Act).eval f = .func (.func g) #[] us.toArray ∧ us.length = caps.length ∧ ∀ (j : Nat) c u, caps[j]? = some c → us[j]? = some u → RelC w ok X.rd β (kds mem) al c u := by
        generalize (⟨tmps, ds⟩ : Act).eval f = fv at hev
        cases hev with
        | fn _ _ us hl h => exact ⟨us, rfl, hl, h⟩
      obtain ⟨hal, harel⟩ := args_rel ds h (P := P) ⟨.value f, args, ats⟩
      have hexec : (execOp (⟨tmps, ds⟩ : Act).eval ⟨dst, .call ⟨.value f, args, ats⟩, ty, pos, aft, gd⟩).run P w = (callFunc g (args.map (⟨tmps, ds⟩ : Act).eval ++ us.toArray)).run P w := by
        simp only [execOp, resolve, hfu, Deferred.ofValue, Sem.run_bind, Sem.run_pure, Result.andThen_ok, invoke, Array.empty_append]
      have hl0 : (args.map (⟨tmps, ds⟩ : Act).eval ++ us.toArray).size = (argVs P ⟨env, mem⟩ ⟨.value f, args, ats⟩ ++ caps.map V.one).length := by simp [hal, hul]
      have ha0 : ∀ (j : Nat) v u, (argVs P ⟨env, mem⟩ ⟨.value f, args, ats⟩ ++ caps.map V.one)[j]? = some v → (args.map (⟨tmps, ds⟩ : Act).eval ++ us.toArray).toList[j]? = some u → RelV w ok X.rd β (kds mem) al v u := fun j v u hj hu => by
          simp only [Array.toList_append] at hu
          by_cases hlt : j < (argVs P ⟨env, mem⟩ ⟨.value f, args, ats⟩).length
          · rw [List.getElem?_append_left hlt] at hj
            rw [List.getElem?_append_left (by rw [← hal]; exact hlt)] at hu
            exact harel j v u hj hu
          · rw [List.getElem?_append_right (by omega)] at hj
            rw [List.getElem?_append_right (by rw [← hal]; omega), ← hal] at hu
            rw [List.getElem?_map] at hj
            cases hcj : caps[j - (argVs P ⟨env, mem⟩ ⟨.value f, args, ats⟩).length]? with
            | none => rw [hcj] at hj; cases hj
            | some c =>
              rw [hcj] at hj
              simp at hj
              subst hj
              exact .one _ _ (hur _ c u hcj (by simpa using hu))
      have main : Enters P g ∧ Calls P g (args.map (⟨tmps, ds⟩ : Act).eval ++ us.toArray) w fun e w' => ∃ v β' ok', e = .returned v ∧ Inv X env (wrs mem out.ws) (fun i => al i ∨ (id ≤ i ∧ i < id + nn)) tmps w' β' ok' ∧
          RelV w' ok' X.rd β' (kds (wrs mem out.ws)) (fun i => al i ∨ (id ≤ i ∧ i < id + nn)) out.v v := by
        cases hm : C.ref g with
        | pure =>
          have hn : newOf P C (.call ⟨.value f, args, ats⟩) (⟨env, mem⟩ : St).ev = newCount P C g := by
            simp only [newOf, hf, hm]
            unfold newCount
            cases rtsOf P (C.own g) (resTypes P g) <;> rfl
          obtain rfl : newCount P C g = nn := hn.symm.trans hnn
          simp only [hm] at hr
          exact ⟨callPure_enters hr hcall, call_left C h hl0 ha0 hid hr fun as ds x hx => (hcall g as [] ⟨ds, 0⟩ x hx).1.pure⟩
        | keep =>
          have hn : newOf P C (.call ⟨.value f, args, ats⟩) (⟨env, mem⟩ : St).ev = newCountR P C g := by
            simp only [newOf, hf, hm]
            unfold newCountR
            cases rtsOf P (C.own g) (resTypes P g) <;> rfl
          obtain rfl : newCountR P C g = nn := hn.symm.trans hnn
          simp only [hm] at hr
          exact ⟨callRef_enters hr hcall, callRef_left C h hl0 ha0 hid hr fun as m ρ x hx => (hcall g as m ρ x hx).1⟩
        | gone =>
          have hn : newOf P C (.call ⟨.value f, args, ats⟩) (⟨env, mem⟩ : St).ev = newCountR P C g := by
            simp only [newOf, hf, hm]
            unfold newCountR
            cases rtsOf P (C.own g) (resTypes P g) <;> rfl
          obtain rfl : newCountR P C g = nn := hn.symm.trans hnn
          simp only [hm] at hr
          exact ⟨callRef_enters hr hcall, callRef_left C h hl0 ha0 hid hr fun as m ρ x hx => (hcall g as m ρ x hx).1⟩
      obtain ⟨hE, hcalls⟩ := main
      obtain ⟨fn, body, hfn, hbody, hname⟩ := hE
      unfold Oper.wp
      rw [hexec]
      have h1 : fn.name ≠ "runtime.NumGoroutine" := by simpa using hname
      have hrun : (callFunc g (args.map (⟨tmps, ds⟩ : Act).eval ++ us.toArray)).run P w = .ok (.enter g (args.map (⟨tmps, ds⟩ : Act).eval ++ us.toArray)) w := by simp [callFunc, hfn, h1, hbody]
      rw [hrun]
      refine Calls.mono hcalls fun e w' he => ?_
      obtain ⟨v, β', ok', rfl, hI, hv⟩ := he
      exact fin v w' β' ok' hI hv
    · cases hr

/-! ### regions: what was done, in text order -/
structure Rec where
  id : Nat
  n : Nat
  o : Oper
  res : Option Out
  rs : List Nat
def apply1 (s : St) (r : Rec) : St :=
  match r.res with
  | none => s.put r.o.dst (.tup [])
  | some out => (s.put r.o.dst out.v).write out.ws
def wantedA (ops : Array Oper) (s : St) (o : Oper) : Option Bool :=
  match o.guard with
  | none => some true
  | some (j, want) => match guardTmp ops j with
    | none => none
    | some d => match s.env.getD d uv with
      | .one (.bool b) => some (b == want)
      | .tup [] => some false
      | _ => none
def trace (P : Program) (C : Cfg) (call : CallF) (ops : Array Oper) : List Oper → Nat → St → Option (List Rec)
  | [], _, _ => some []
  | o :: r, nx, s =>
    match wantedA ops s o with
    | none => none
    | some false => (trace P C call ops r nx (s.put o.dst (.tup []))).map (⟨nx, 0, o, none, []⟩ :: ·)
    | some true => ((semOp P C o.op o.type s.ev nx).runL call s.mem []).bind fun p =>
      (trace P C call ops r (nx + newOf P C o.op s.ev) ((s.put o.dst p.1.v).write p.1.ws)).map (⟨nx, newOf P C o.op s.ev, o, some p.1, p.2⟩ :: ·)
def Rec.en (ops : Array Oper) (r : Rec) : En := enOf ops r.o r.rs (match r.res with | some out => out.ws.map (·.1) | none => [])
def lastId : Nat → List Rec → Nat
  | nx, [] => nx
  | _, r :: rs => lastId (r.id + r.n) rs
def foldR (s : St) (tr : List Rec) : St := tr.foldl apply1 s

theorem set_same {env : List V} {d : Nat} {v : V} (h : env.getD d uv = v) (hv : v ≠ uv) : env.set d v = env := by
  apply List.ext_getElem?
  intro i
  rw [List.getElem?_set]
  split
  · rename_i e
    subst e
    rw [List.getD_eq_getElem?_getD] at h
    cases hd : env[d]? with
    | none => rw [hd] at h; exact absurd h.symm hv
    | some u =>
      rw [hd] at h
      simp at h
      subst h
      have := (List.getElem?_eq_some_iff.1 hd).1
      simp [this]
  · rfl

theorem evOps_interp {call : CallF} {R : Type} {leaf : List KI → St → Option R} {fin : V → List Obj → Option R} (ops : Array Oper) (k : St → List En → Tree) : ∀ (l : List Oper) (nx : Nat) (s : St) (lg : List En),
    (evOps P C ops l nx s lg k).interp call leaf fin = (trace P C call ops l nx s).bind fun tr =>
      (k { foldR s tr with mem := padTo (lastId nx tr) (foldR s tr).mem } ((tr.map (Rec.en ops)).reverse ++ lg)).interp call leaf fin
  | [], nx, s, lg => by simp [evOps, trace, foldR, lastId]
  | o :: r, nx, s, lg => by
    have hgo : ((semOp P C o.op o.type s.ev nx).toTree s.mem [] fun out rs => evOps P C ops r (nx + newOf P C o.op s.ev) ((s.put o.dst out.v).write out.ws) (enOf ops o rs (out.ws.map (·.1)) :: lg) k).interp call leaf fin =
        (((semOp P C o.op o.type s.ev nx).runL call s.mem []).bind fun p =>
          (trace P C call ops r (nx + newOf P C o.op s.ev) ((s.put o.dst p.1.v).write p.1.ws)).map (⟨nx, newOf P C o.op s.ev, o, some p.1, p.2⟩ :: ·)).bind fun tr =>
          (k { foldR s tr with mem := padTo (lastId nx tr) (foldR s tr).mem } ((tr.map (Rec.en ops)).reverse ++ lg)).interp call leaf fin := by
      rw [toTree_interp]
      cases hp : (semOp P C o.op o.type s.ev nx).runL call s.mem [] with
      | none => rfl
      | some p =>
        simp only [Option.bind_some]
        rw [evOps_interp ops k r]
        cases ht : trace P C call ops r (nx + newOf P C o.op s.ev) ((s.put o.dst p.1.v).write p.1.ws) with
        | none => rfl
        | some tr => simp [foldR, apply1, lastId, Rec.en]
    have hskip : (evOps P C ops r nx (s.put o.dst (.tup [])) (enOf ops o [] [] :: lg) k).interp call leaf fin =
        ((trace P C call ops r nx (s.put o.dst (.tup []))).map (⟨nx, 0, o, none, []⟩ :: ·)).bind fun tr =>
          (k { foldR s tr with mem := padTo (lastId nx tr) (foldR s tr).mem } ((tr.map (Rec.en ops)).reverse ++ lg)).interp call leaf fin := by
      rw [evOps_interp ops k r]
      cases ht : trace P C call ops r nx (s.put o.dst (.tup [])) with
      | none => rfl
      | some tr => simp [foldR, apply1, lastId, Rec.en]
    unfold evOps trace wantedA
    cases hg : o.guard with
    | none => exact hgo
    | some gw =>
      obtain ⟨j, want⟩ := gw
      simp only
      cases hd : guardTmp ops j with
      | none => rfl
      | some d =>
        simp only
        cases hv : s.env.getD d uv with
        | one c =>
          cases c <;> try rfl
          rename_i b
          have hs : s.set d (.one (.bool b)) = s := by
            unfold St.set
            rw [set_same hv (by simp)]
          cases b <;> cases want <;> simp only [Tree.interp, cond, hs] <;> first | exact hgo | exact hskip
        | agg cs => rfl
        | tup vs =>
          cases vs with
          | nil => exact hskip
          | cons _ _ => rfl

theorem wanted_of (h : Inv X env mem al tmps w β ok) {ops : Array Oper} {o : Oper} {b : Bool} (hw : wantedA ops ⟨env, mem⟩ o = some b) : Region.wanted o (yielded ops tmps) = b := by
  unfold wantedA at hw
  unfold Region.wanted
  cases hg : o.guard with
  | none => rw [hg] at hw; simpa using hw
  | some gw =>
    obtain ⟨j, want⟩ := gw
    rw [hg] at hw
    simp only at hw ⊢
    cases hd : guardTmp ops j with
    | none => rw [hd] at hw; cases hw
    | some d =>
      rw [hd] at hw
      simp only at hw
      have hin : ∀ v, env.getD d uv = v → v ≠ uv → env[d]? = some v ∧ d < tmps.size := by
        intro v hv hne
        rw [List.getD_eq_getElem?_getD] at hv
        cases he : env[d]? with
        | none => rw [he] at hv; exact absurd hv.symm hne
        | some u =>
          rw [he] at hv
          simp at hv
          subst hv
          have := (List.getElem?_eq_some_iff.1 he).1
          exact ⟨rfl, by rw [h.size]; exact this⟩
      have hy : ∀ v, env.getD d uv = v → v ≠ uv → ∃ u, tmps[d]? = some u ∧ RelV w ok X.rd β (kds mem) al v u := by
        intro v hv hne
        obtain ⟨h1, h2⟩ := hin v hv hne
        have := h.env d v h1
        rw [Array.getD_eq_getD_getElem?, Array.getElem?_eq_getElem h2] at this
        exact ⟨_, Array.getElem?_eq_getElem h2, this⟩
      unfold guardTmp at hd
      cases hv : env.getD d uv with
      | one c =>
        rw [hv] at hw
        cases c <;> try (cases hw; done)
        rename_i b'
        simp at hw
        obtain ⟨u, hu, hr⟩ := hy _ hv (by simp)
        have := hr.one'.bool_inv
        subst this
        unfold yielded
        rw [hd, Option.bind_some, hu, ← hw]
        simp
      | agg cs => rw [hv] at hw; cases hw
      | tup vs =>
        rw [hv] at hw
        cases vs with
        | cons _ _ => cases hw
        | nil =>
          simp at hw
          subst hw
          obtain ⟨u, hu, hr⟩ := hy _ hv (by simp)
          have hu' : u = .tuple #[] := by
            cases hr with
            | tup _ us hl _ => simp at hl; subst hl; rfl
          subst hu'
          unfold yielded
          rw [hd, Option.bind_some, hu]
          rfl

theorem undef_rel {kd : Nat → KD} : RelV w ok X.rd β kd al (.tup []) undef := .tup [] [] rfl (fun j v u hj => by simp at hj)

/-- a region in text order -/
theorem ops_wp {call : CallF} (hcall : CallOk P call) (ds : List Deferred) {ops : Array Oper} {Q : Exit → Act → World → Prop} : ∀ (l : List Oper) (i : Nat) (nx : Nat) (s : St) (tr : List Rec) {al : Nat → Prop} {tmps : Array Value} {w : World} {β : Nat → Value} {ok : Nat → Prop},
    (∀ k, ops[i + k]? = l[k]?) → Inv X s.env s.mem al tmps w β ok → (∀ j, nx ≤ j → ¬ al j) → trace P C call ops l nx s = some tr →
    (∀ (tmps' : Array Value) (w' : World) (β' : Nat → Value) (ok' al' : Nat → Prop), Inv X (foldR s tr).env (foldR s tr).mem al' tmps' w' β' ok' → (∀ j, lastId nx tr ≤ j → ¬ al' j) → Q .normal ⟨tmps', ds⟩ w') →
    wpOps P ops Q (List.range' i l.length) ⟨tmps, ds⟩ w
  | [], i, nx, s, tr, al, tmps, w, β, ok, _, h, hal, ht, hQ => by
    simp [trace] at ht
    subst ht
    simp only [List.length_nil, List.range'_zero, wpOps]
    exact hQ _ _ _ _ al h hal
  | o :: r, i, nx, s, tr, al, tmps, w, β, ok, hops, h, hal, ht, hQ => by
    have ho : ops[i]? = some o := by have := hops 0; simpa using this
    rw [List.length_cons, List.range'_succ]
    simp only [wpOps, ho]
    unfold trace at ht
    cases hw : wantedA ops s o with
    | none => rw [hw] at ht; cases ht
    | some b =>
      rw [hw] at ht
      have hwm := wanted_of h hw
      have hops' : ∀ k, ops[i + 1 + k]? = r[k]? := fun k => by have := hops (k + 1); rw [Nat.add_assoc, Nat.add_comm 1 k]; simpa using this
      cases b with
      | false =>
        rw [if_neg (by simp [hwm])]
        cases ht2 : trace P C call ops r nx (s.put o.dst (.tup [])) with
        | none => simp only [ht2] at ht; cases ht
        | some tr2 =>
          simp only [ht2, Option.map_some, Option.some.injEq] at ht
          subst ht
          rw [act_eta ((⟨tmps, ds⟩ : Act).put o.dst undef) (put_defers _ _ _)]
          have hI := h.putD o.dst ds (undef_rel (X := X))
          refine ops_wp hcall ds r (i + 1) nx (s.put o.dst (.tup [])) tr2 (β := β) (ok := ok) hops' ?_ hal ht2 hQ
          rw [put_eq] at hI ⊢
          exact hI
      | true =>
        rw [if_pos hwm]
        cases hp : (semOp P C o.op o.type s.ev nx).runL call s.mem [] with
        | none => simp only [hp] at ht; cases ht
        | some p =>
          simp only [hp, Option.bind_some] at ht
          cases ht2 : trace P C call ops r (nx + newOf P C o.op s.ev) ((s.put o.dst p.1.v).write p.1.ws) with
          | none => rw [ht2] at ht; cases ht
          | some tr2 =>
            rw [ht2] at ht
            simp only [Option.map_some, Option.some.injEq] at ht
            subst ht
            refine .inl (op_wp (C := C) hcall ds h o (id := nx) (out := p.1) (fun j hj _ => hal j hj) (runL_runC _ hp) fun tmps' w' β' ok' hI => ?_)
            refine ops_wp hcall ds r (i + 1) (nx + newOf P C o.op s.ev) ((s.put o.dst p.1.v).write p.1.ws) tr2 (β := β') (ok := ok') hops' (al := fun j => al j ∨ (nx ≤ j ∧ j < nx + newOf P C o.op s.ev)) ?_ (fun j hj hx => ?_) ht2 hQ
            · rw [put_eq] at hI ⊢
              exact hI
            · rcases hx with hx | hx
              · exact hal j (by omega) hx
              · omega
end
end Go.Sk
