/- Operations that make or write memory, as the evaluator's. -/
import Derived.Test.YtpiejdjanhnbeaaGreatT1
import Derived.Deep.Upon
import Derived.Laws.MakeOwn
import Derived.Laws.BytesArg
import Derived.Lib.ConvBytes
set_option linter.unusedSimpArgs false
set_option linter.unusedVariables false
set_option linter.unusedSectionVars false
namespace Go.Sk
open Go
section
variable {P : Program} {X : Fr} {env : List V} {mem : List Obj} {al : Nat → Prop} {tmps : Array Value} {w : World} {β : Nat → Value} {ok : Nat → Prop}

theorem wrs_one (m : List Obj) (i : Nat) (o : Obj) : wrs m [(i, o)] = wr m i o := rfl
theorem wrs_append : ∀ (m : List Obj) (a b : List (Nat × Obj)), wrs m (a ++ b) = wrs (wrs m a) b
  | m, [], b => rfl
  | m, (i, o) :: a, b => by simp only [List.cons_append, wrs]; exact wrs_append _ a b

theorem zero_rel {t : TypeId} {cs : List CV} (hz : zeroCells P t = some cs) : ∃ (i : TypeInfo) (z : Value), P.info? t = some i ∧ i.zero = some z ∧ ∀ kd, RelL w ok X.rd β kd al cs z.cells.toList := by
  unfold zeroCells at hz
  split at hz
  · rename_i z hz'
    cases hi : P.info? t with
    | none => rw [hi] at hz'; cases hz'
    | some i =>
      rw [hi] at hz'
      simp at hz'
      cases hl : ((cellTys P 12 t).length == z.cells.size) with
      | false => rw [hl] at hz; cases hz
      | true =>
        rw [hl] at hz
        simp at hz hl
        subst hz
        refine ⟨i, z, rfl, hz', fun kd => ⟨by simp [hl], fun j c u hj hu => ?_⟩⟩
        rw [List.getElem?_zipWith] at hj
        simp only [hu] at hj
        cases ht : (cellTys P 12 t)[j]? with
        | none => rw [ht] at hj; cases hj
        | some ty =>
          rw [ht] at hj
          simp at hj
          subst hj
          unfold ofConst
          split <;> first | constructor | (split <;> constructor) | skip
          rename_i h1 h2 h3 h4 h5 h6 h7
          cases u <;> first | rfl | exact absurd rfl (h6 _) | exact absurd rfl (h7 _)
  · cases hz

theorem noSlf_all : ∀ {cs : List CV}, (∀ c ∈ cs, ∀ t, c ≠ .slf t) → noSlf cs = true
  | [], _ => rfl
  | c :: r, h => by
    have h1 := h c List.mem_cons_self
    have h2 := noSlf_all fun d hd => h d (List.mem_cons_of_mem _ hd)
    cases c <;> first | exact h2 | exact absurd rfl (h1 _)
theorem ofConst_noSlf (t : Option Ty) (v : Value) (T : TypeId) : ofConst t v ≠ .slf T := by
  unfold ofConst
  split <;> first | (intro e; cases e; done) | (split <;> intro e <;> cases e)
theorem zero_noSlf {t : TypeId} {cs : List CV} (hz : zeroCells P t = some cs) : noSlf cs = true := by
  unfold zeroCells at hz
  split at hz
  · rename_i z hz'
    cases hl : ((cellTys P 12 t).length == z.cells.size) with
    | false => rw [hl] at hz; cases hz
    | true =>
      rw [hl] at hz
      simp at hz
      subst hz
      refine noSlf_all fun c hc => ?_
      obtain ⟨j, hj⟩ := List.getElem?_of_mem hc
      rw [List.getElem?_zipWith] at hj
      split at hj
      · simp at hj
        subst hj
        exact ofConst_noSlf _ _
      · cases hj
  · cases hz
theorem selfZero_rel {kd : Nat → KD} {b : Bool} {t : TypeId} {bb : Nat} {cs : List CV} {us : List Value} (h : RelL w ok X.rd β kd al cs us) (hn : noSlf cs = true) : RelL w ok X.rd β kd al (selfZero b t cs) us ∧ Self (selfZero b t cs) us bb t := by
  unfold selfZero
  split
  · rename_i r
    cases b with
    | false => exact ⟨h, .of hn⟩
    | true =>
      obtain ⟨v, q, rfl, hc, hq⟩ := h.head
      cases hc
      refine ⟨.cons (.slf t _ rfl) hq, fun j t' u hj hu => ?_⟩
      cases j with
      | zero =>
        simp at hj hu
        exact ⟨hj, .inl hu.symm⟩
      | succ j =>
        have := Self.of (us := q) (b := bb) (T := t) (cs := r) hn
        exact this j t' u (by simpa using hj) (by simpa using hu)
  · exact ⟨h, .of hn⟩
theorem relV_box {v : V} {cv : Value} {kd : Nat → KD} (h : RelV w ok X.rd β kd al v cv) (hb : v.isBad = false) : RelL w ok X.rd β kd al v.cells cv.cells.toList := by
  refine relV_cells h (by cases v <;> simp_all [V.isBad, V.isTup]) fun c hc => ?_
  subst hc
  exact h.one'.one (by intro e; subst e; simp [V.isBad] at hb)

variable (ds : List Deferred) (C : Cfg) (h : Inv X env mem al tmps w β ok) {out : Out} {ty : TypeId} {id : Nat} {dst : Option Tmp} {pos : String} {aft : Array Edge} {gd : Option (Nat × Bool)}
include h

theorem left_newCells (hid : ¬ al id) {cs : List CV} {v : Value} {T : TypeId} (hl : RelL w ok X.rd β (kds mem) al cs v.cells.toList) (hsf : noSlf cs = true) {s : Sem Next} (hs : s = do pure (.value (.pointer (some (← newVar T v))))) :
    Left P X env mem al tmps w (fun i => i = id) s ⟨.one (.ptr id 0), [(id, .cells cs)]⟩ := by
  subst hs
  obtain ⟨hI, hR⟩ := h.newCells hid hl T (.of hsf)
  have e : v.cells.toList.toArray = v.cells := by simp
  rw [e] at hI hR
  exact ⟨_, _, _, _, _, by simp [newVar, newRow]; try exact ⟨rfl, rfl⟩, .inl rfl, hI, .one _ _ hR⟩

theorem left_alloc (hid : ¬ al id) {t : TypeId} (hr : (semOp P C (.alloc t) ty (⟨env, mem⟩ : St).ev id).run1 mem = some out) : Left P X env mem al tmps w (fun i => i = id) (execOp (⟨tmps, ds⟩ : Act).eval ⟨dst, .alloc t, ty, pos, aft, gd⟩) out := by
  simp only [semOp] at hr
  split at hr
  · rename_i cs hz
    obtain rfl := ret_run1 hr
    obtain ⟨i, z, hi, hz', hl⟩ := zero_rel (w := w) (ok := ok) (β := β) (al := al) hz
    obtain ⟨hl2, hsf⟩ := selfZero_rel (b := C.self t) (t := t) (bb := w.heap.size) (hl (kds mem)) (zero_noSlf hz)
    obtain ⟨hI, hR⟩ := h.newCells hid hl2 t hsf
    have e : z.cells.toList.toArray = z.cells := by simp
    rw [e] at hI hR
    exact ⟨_, _, _, _, _, by simp [execOp, Instr.alloc, zeroValue, typeInfo, hi, hz', newVar, newRow]; try exact ⟨rfl, rfl⟩, .inl rfl, hI, .one _ _ hR⟩
  · cases hr
theorem left_box (hid : ¬ al id) {t : TypeId} {x : Operand} (hr : (semOp P C (.box t x) ty (⟨env, mem⟩ : St).ev id).run1 mem = some out) : Left P X env mem al tmps w (fun i => i = id) (execOp (⟨tmps, ds⟩ : Act).eval ⟨dst, .box t x, ty, pos, aft, gd⟩) out := by
  simp only [semOp] at hr
  cases hb : ((⟨env, mem⟩ : St).ev x (tyAt P t)).isBad with
  | true => rw [hb] at hr; cases hr
  | false =>
    cases hb2 : noSlf ((⟨env, mem⟩ : St).ev x (tyAt P t)).cells with
    | false => rw [hb, hb2] at hr; cases hr
    | true =>
    rw [hb, hb2] at hr
    obtain rfl := ret_run1 (m := mem) hr
    have hl := relV_box (h.ev ds x (tyAt P t)) hb
    obtain ⟨hI, hR⟩ := h.newCells hid hl t (.of hb2)
    have e : ((⟨tmps, ds⟩ : Act).eval x).cells.toList.toArray = ((⟨tmps, ds⟩ : Act).eval x).cells := by simp
    rw [e] at hI hR
    exact ⟨_, _, _, _, _, by simp [execOp, Instr.box, newVar, newRow]; try exact ⟨rfl, rfl⟩, .inl rfl, hI, .one _ _ hR⟩

theorem left_makeFunc {fn : Fn} {first caps : Array Operand} {new : Nat → Prop} (hr : (semOp P C (.makeFunc fn first caps) ty (⟨env, mem⟩ : St).ev id).run1 mem = some out) : Left P X env mem al tmps w new (execOp (⟨tmps, ds⟩ : Act).eval ⟨dst, .makeFunc fn first caps, ty, pos, aft, gd⟩) out := by
  cases fn with
  | func f =>
    simp only [semOp] at hr
    obtain ⟨hb, hr⟩ := bif_fail hr
    obtain rfl := ret_run1 hr
    simp only [Bool.and_eq_true, Array.isEmpty_iff, List.all_eq_true, List.mem_map, forall_exists_index, and_imp, forall_apply_eq_imp_iff₂] at hb
    obtain ⟨rfl, hone⟩ := hb
    refine .read h (s := Instr.makeFunc (.func f) (#[].map (⟨tmps, ds⟩ : Act).eval) (caps.map (⟨tmps, ds⟩ : Act).eval)) (v := .func (.func f) #[] (caps.toList.map (⟨tmps, ds⟩ : Act).eval).toArray) ?_ (.one _ _ ?_)
    · simp only [Instr.makeFunc, Sem.run_pure]
      congr 2
      all_goals (apply Array.ext'; simp)
    · have key : ∀ (l : List Operand), (∀ a ∈ l, ((⟨env, mem⟩ : St).ev a none).isOne = true) → RelL w ok X.rd β (kds mem) al ((l.map fun o => (⟨env, mem⟩ : St).ev o none).flatMap V.cells) (l.map (⟨tmps, ds⟩ : Act).eval) := by
        intro l
        induction l with
        | nil => intro _; exact .nil
        | cons a r ih =>
          intro hl
          have ha := hl a (by simp)
          cases he : (⟨env, mem⟩ : St).ev a none with
          | one c =>
            simp only [List.map_cons, List.flatMap_cons, he, V.cells, List.singleton_append]
            exact .cons (ev_one ds h he) (ih fun b hb => hl b (by simp [hb]))
          | agg cs => rw [he] at ha; cases ha
          | tup vs => rw [he] at ha; cases ha
      have hl := key caps.toList hone
      exact .fn f _ _ hl.1 hl.2
  | method _ => cases hr
  | methodOf _ _ => cases hr
  | via _ _ _ _ => cases hr
  | yield _ => cases hr

theorem left_field {t : TypeId} {x : Operand} {f : Nat} {new : Nat → Prop} (hr : (semOp P C (.field t x f) ty (⟨env, mem⟩ : St).ev id).run1 mem = some out) : Left P X env mem al tmps w new (execOp (⟨tmps, ds⟩ : Act).eval ⟨dst, .field t x f, ty, pos, aft, gd⟩) out := by
  simp only [semOp] at hr
  split at hr
  · rename_i cs o n g he hf
    obtain ⟨hlen, hr⟩ := bif_fail hr
    obtain ⟨v, hv, hr⟩ := bind_run1 hr
    obtain rfl := ret_run1 hr
    obtain ⟨fs, fd, hu, hfd, rfl, hn, hg⟩ := run_fieldOff hf
    have hr := h.ev ds x none
    rw [he] at hr
    obtain ⟨us, hx, hl⟩ := hr.agg'
    have hl2 := (hl.drop fd.offset).take n
    have hul : ((us.drop fd.offset).take n).length = n := by rw [hl2.1]; simpa using hlen
    refine .read h (s := Instr.field t ((⟨tmps, ds⟩ : Act).eval x) f) (v := if g then .agg ((us.drop fd.offset).take n).toArray else (us.getD fd.offset undef)) ?_ ?_
    · rw [hx]
      cases g with
      | true =>
        simp only [Instr.field, Sem.run_bind, run_underlying hu, Result.andThen_ok, hfd, asAgg, Sem.run_pure, part, run_aggAt hg, run_sizeAt hn, if_true]
        congr 2
        simp [List.extract_eq_take_drop, List.take_drop]
      | false =>
        have hn1 : n = 1 := by
          rcases rel_mkV (c := ⟨w, ok, X.rd, β, mem, al⟩) hv hl2 with ⟨hf, _⟩ | ⟨_, u, hu', _⟩
          · cases hf
          · rw [hu'] at hul; simpa using hul.symm
        subst hn1
        have hlt : fd.offset < us.length := by simp at hul; omega
        simp only [Instr.field, Sem.run_bind, run_underlying hu, Result.andThen_ok, hfd, asAgg, Sem.run_pure, part, run_aggAt hg]
        simp [hlt]
    · rcases rel_mkV (c := ⟨w, ok, X.rd, β, mem, al⟩) hv hl2 with ⟨rfl, hv'⟩ | ⟨rfl, u, hu', hv'⟩
      · simpa using hv'
      · have : us[fd.offset]?.getD undef = u := by
          have h0 : ((us.drop fd.offset).take n)[0]? = some u := by rw [hu']; rfl
          rw [List.getElem?_take] at h0
          split at h0
          · rw [List.getElem?_drop] at h0
            simp at h0
            simp [h0]
          · cases h0
        simpa [this] using hv'
  · cases hr

/-! ### stores -/

theorem left_skip {new : Nat → Prop} {s : Sem Unit} {w' : World} {ws : List (Nat × Obj)} {β' : Nat → Value} {ok' : Nat → Prop} (hs : s.run P w = .ok () w') (hI : Inv X env (wrs mem ws) al tmps w' β' ok') :
    Left P X env mem al tmps w new (do s; pure .skip) ⟨.tup [], ws⟩ := by
  have key := hI.update (mem' := wrs mem ws) (al' := fun i => al i ∨ new i) (β' := β') (ok' := ok') (fun _ => False) (fun _ h => .inl h) (fun _ h => h.elim) (fun _ _ => rfl) (fun _ _ => rfl) (fun _ h => h.elim) (fun _ h => h.elim) (fun b _ _ => rfl) (Nat.le_refl _)
    (fun _ h => h) (fun _ h => .inl h) (fun _ _ h => h.elim) (fun _ _ h => h.elim) (fun _ _ _ h => h.elim) (fun _ _ h => h.elim) rfl rfl rfl
  exact ⟨.skip, undef, w', β', ok', by simp [hs], .inr ⟨rfl, rfl⟩, key.2, .tup [] [] rfl (fun j v u hj => by simp at hj)⟩

theorem _root_.Go.Sk.Inv.congr {mem2 : List Obj} (hm : ∀ j, mem2.getD j .dead = mem.getD j .dead) : Ext w ok X.rd β (kds mem) al w ok β (kds mem2) al ∧ Inv X env mem2 al tmps w β ok :=
  h.update (mem' := mem2) (al' := al) (β' := β) (ok' := ok) (fun _ => False) (fun _ h => h) (fun _ h => h.elim) (fun i _ => hm i) (fun _ _ => rfl) (fun _ h => h.elim) (fun _ h => h.elim) (fun b _ _ => rfl) (Nat.le_refl _)
    (fun _ h => h) (fun _ h => .inl h) (fun _ _ h => h.elim) (fun _ _ h => h.elim) (fun _ _ _ h => h.elim) (fun _ _ h => h.elim) rfl rfl rfl
omit h
theorem Ext.trans {w1 w2 w3 : World} {ok1 ok2 ok3 : Nat → Prop} {β1 β2 β3 : Nat → Value} {kd1 kd2 kd3 : Nat → KD} {al1 al2 al3 : Nat → Prop}
    {rd : Nat → Prop} (e : Ext w1 ok1 rd β1 kd1 al1 w2 ok2 β2 kd2 al2) (f : Ext w2 ok2 rd β2 kd2 al2 w3 ok3 β3 kd3 al3) : Ext w1 ok1 rd β1 kd1 al1 w3 ok3 β3 kd3 al3 :=
  ⟨fun b hb => (f.cells b (e.ok b hb)).trans (e.cells b hb), fun b hb => (f.cellsR b hb).trans (e.cellsR b hb), fun b hb => f.ok b (e.ok b hb), fun i hi => by
    rcases f.kd i (e.sub i hi) with h1 | h1
    · rcases e.kd i hi with h2 | h2
      · exact .inl (h1.trans h2)
      · exact .inr (h1.trans h2)
    · exact .inr h1, fun i hi hk => by
    have hk2 : kd2 i ≠ .none := by
      rcases f.kd i (e.sub i hi) with h1 | h1
      · rwa [← h1]
      · exact absurd h1 hk
    rw [f.β i (e.sub i hi) hk, e.β i hi hk2], fun i hi => f.sub i (e.sub i hi)⟩

/-- some rows of m are frozen in m' -/
def Froze (m m' : List Obj) : Prop := ∀ j, m'.getD j .dead = m.getD j .dead ∨ ∃ t xs, m.getD j .dead = .row t xs ∧ m'.getD j .dead = .frz t xs
theorem Froze.refl (m : List Obj) : Froze m m := fun _ => .inl rfl
/-- freezing rows -/
theorem freeze_sound {m : List Obj} : ∀ (is : List Nat) (m' : List Obj) {ok0 : Nat → Prop} {ws : List (Nat × Obj)}, Froze m m' → Inv X env m' al tmps w β ok0 → (freeze is).run1 m = some ws →
    ∃ ok', Ext w ok0 X.rd β (kds m') al w ok' β (kds (wrs m' ws)) al ∧ Inv X env (wrs m' ws) al tmps w β ok' ∧ Froze m (wrs m' ws) ∧
      (∀ i ∈ is, ∃ t xs, (wrs m' ws).getD i .dead = .frz t xs) ∧ (∀ j, j ∉ is → (wrs m' ws).getD j .dead = m'.getD j .dead)
  | [], m', ok0, ws, hf, h, hr => by
    obtain rfl := ret_run1 hr
    exact ⟨ok0, Ext.refl _ _ _ _ _ _, h, hf, by simp, fun _ _ => rfl⟩
  | i :: r, m', ok0, ws, hf, h, hr => by
    simp only [freeze, Rd.run1_get] at hr
    cases hm : m.getD i .dead <;> rw [hm] at hr <;> try (cases hr; done)
    · rename_i t xs
      obtain ⟨ws', hw, hr⟩ := bind_run1 hr
      obtain rfl := ret_run1 hr
      have hf2 : Froze m (wr m' i (.frz t xs)) := fun j => by
        rw [wr_getD]
        by_cases e : j = i
        · subst e; rw [if_pos rfl]; exact .inr ⟨t, xs, hm, rfl⟩
        · rw [if_neg e]; exact hf j
      have step : ∃ ok1, Ext w ok0 X.rd β (kds m') al w ok1 β (kds (wr m' i (.frz t xs))) al ∧ Inv X env (wr m' i (.frz t xs)) al tmps w β ok1 := by
        rcases hf i with h1 | ⟨t', xs', h1, h2⟩
        · rw [hm] at h1
          exact ⟨_, h.freeze1 h1 fun j => wr_getD _ _ _ _⟩
        · rw [hm] at h1
          cases h1
          exact ⟨ok0, h.congr fun j => by
            rw [wr_getD]
            split
            · rename_i e; rw [e, h2]
            · rfl⟩
      obtain ⟨ok1, e1, hI1⟩ := step
      obtain ⟨ok2, e2, hI2, hf3, hall, hout⟩ := freeze_sound r (wr m' i (.frz t xs)) hf2 hI1 hw
      refine ⟨ok2, Ext.trans e1 e2, hI2, hf3, fun j hj => ?_, fun j hj => ?_⟩
      · rcases List.mem_cons.1 hj with rfl | hj
        · by_cases hjr : j ∈ r
          · exact hall j hjr
          · refine ⟨t, xs, ?_⟩
            show (wrs (wr m' j (.frz t xs)) ws').getD j .dead = _
            rw [hout j hjr, wr_getD, if_pos rfl]
        · exact hall j hj
      · have h1 : j ≠ i := fun e => hj (by simp [e])
        have h2 : j ∉ r := fun e => hj (by simp [e])
        show (wrs (wr m' i (.frz t xs)) ws').getD j .dead = _
        rw [hout j h2, wr_getD, if_neg h1]
    · rename_i t xs
      obtain ⟨ok2, e2, hI2, hf3, hall, hout⟩ := freeze_sound r m' hf h hr
      refine ⟨ok2, e2, hI2, hf3, fun j hj => ?_, fun j hj => hout j fun e => hj (by simp [e])⟩
      rcases List.mem_cons.1 hj with rfl | hj
      · by_cases hjr : j ∈ r
        · exact hall j hjr
        · refine ⟨t, xs, ?_⟩
          rw [hout j hjr]
          rcases hf j with h1 | ⟨t', xs', h1, h2⟩
          · rw [h1, hm]
          · rw [hm] at h1; cases h1
      · exact hall j hj
end
end Go.Sk

/- Stores, composites and slices of the call's own, as the evaluator's. -/
set_option linter.unusedSimpArgs false
set_option linter.unusedVariables false
set_option linter.unusedSectionVars false
namespace Go.Sk
open Go
section
variable {P : Program} {X : Fr} {env : List V} {mem : List Obj} {al : Nat → Prop} {tmps : Array Value} {w : World} {β : Nat → Value} {ok : Nat → Prop}

/-- data cells, read behind the freezing of their rows -/
theorem data_rel {m m' : List Obj} {w' : World} {ok' : Nat → Prop} (ho : ∀ i, ObjRel w' ok' X.rd β (kds m') al i (m'.getD i .dead)) (hf : Froze m m') {c c' : CV} {v : Value} (hr : (dataC c).run1 m = some c')
    (hrow : ∀ i ∈ rowsD [c], ∃ t xs, m'.getD i .dead = .frz t xs) (hv : RelC w' ok' X.rd β (kds m') al c v) : RelC w' ok' X.rd β (kds m') al c' v := by
  have frz : ∀ i t xs, m'.getD i .dead = .frz t xs → m.getD i .dead = .row t xs ∨ m.getD i .dead = .frz t xs := by
    intro i t xs h
    rcases hf i with h1 | ⟨t', xs', h1, h2⟩
    · right; rw [← h1, h]
    · left; rw [h] at h2; cases h2; exact h1
  cases c <;> simp only [dataC, Rd.run1_fail, Rd.run1_ret, Option.some.injEq] at hr <;> try (cases hr; done)
  case osl i =>
    obtain ⟨t, xs, hx⟩ := hrow i (by simp [rowsD])
    simp only [Rd.run1_get] at hr
    have hc' : c' = .slc t xs := by
      rcases frz i t xs hx with h1 | h1 <;> rw [h1] at hr <;> simpa using (ret_run1 hr).symm
    subst hc'
    rw [hv.osl_inv (by show (m'.getD i .dead).kd ≠ _; rw [hx]; simp [Obj.kd])]
    have hob := ho i
    rw [hx] at hob
    obtain ⟨A, c, hb, hl, hr'⟩ := hob
    simp at hb
    rw [hb]
    exact .slc t xs A c hl hr'
  case ovw i o n =>
    obtain ⟨t, xs, hx⟩ := hrow i (by simp [rowsD])
    simp only [Rd.run1_get] at hr
    have hc' : o + n ≤ xs.length ∧ c' = .slc t ((xs.drop o).take n) := by
      rcases frz i t xs hx with h1 | h1 <;> rw [h1] at hr
      · obtain ⟨h2, h3⟩ := guard_run1 (x := Rd.ret (CV.slc t ((xs.drop o).take n))) hr
        exact ⟨by simpa using h2, (ret_run1 h3).symm⟩
      · obtain ⟨h2, h3⟩ := guard_run1 (x := Rd.ret (CV.slc t ((xs.drop o).take n))) hr
        exact ⟨by simpa using h2, (ret_run1 h3).symm⟩
    obtain ⟨hle, rfl⟩ := hc'
    obtain ⟨A, n', cp, A', hb, rfl, hcp, hA⟩ : ∃ A n' c A', β i = .slice A n' c ∧ v = .slice A' n (c - o) ∧ o + n ≤ c ∧ (∀ b q, A = some ⟨b, q, none⟩ → c ≠ o → A' = some ⟨b, q + o * t.size, none⟩) := by
      cases hv with
      | ovw _ _ _ _ hi hp h1 => exact hp t (by show (m'.getD i .dead).kd = _; rw [hx]; rfl)
    have hob := ho i
    rw [hx] at hob
    obtain ⟨A2, c, hb2, hl, hr'⟩ := hob
    simp at hb2
    rw [hb] at hb2
    cases hb2
    have hlen : ((xs.drop o).take n).length = n := by simp; omega
    have := RelC.slc (w := w') (ok := ok') (rd := X.rd) (β := β) (kd := kds m') (al := al) t ((xs.drop o).take n) A' (cp - o) (by rw [hlen]; omega) ?_
    · rw [hlen] at this; exact this
    · rcases hr' with rfl | ⟨b, q, rfl, hok, hr'⟩
      · exact .inl (by simp)
      · by_cases hn : n = 0
        · exact .inl (by simp [hn])
        · refine .inr ⟨b, q + o * t.size, hA b q rfl (by omega), hok, fun k x hk => ?_⟩
          have hk' : xs[o + k]? = some x := by
            rw [List.getElem?_take] at hk
            split at hk
            · rwa [List.getElem?_drop] at hk
            · cases hk
          obtain ⟨us, h1, h2, h3⟩ := hr' _ _ hk'
          exact ⟨us, h1, h2, fun j u hj => by have := h3 j u hj; rw [Nat.add_mul] at this; simpa [Nat.add_assoc] using this⟩
  all_goals (subst hr; exact hv)

theorem data_rels {m m' : List Obj} {w' : World} {ok' : Nat → Prop} (ho : ∀ i, ObjRel w' ok' X.rd β (kds m') al i (m'.getD i .dead)) (hf : Froze m m') : ∀ {cs cs' : List CV} {us : List Value}, (dataCs cs).run1 m = some cs' →
    (∀ i ∈ rowsD cs, ∃ t xs, m'.getD i .dead = .frz t xs) → RelL w' ok' X.rd β (kds m') al cs us → RelL w' ok' X.rd β (kds m') al cs' us
  | [], cs', us, hr, _, hl => by
    obtain rfl := ret_run1 hr
    exact hl
  | c :: r, cs', us, hr, hrow, hl => by
    obtain ⟨c1, h1, hr⟩ := bind_run1 hr
    obtain ⟨r1, h2, hr⟩ := bind_run1 hr
    obtain rfl := ret_run1 hr
    obtain ⟨v, q, rfl, hc, hq⟩ := hl.head
    have hsub : ∀ i, (i ∈ rowsD [c] ∨ i ∈ rowsD r) → i ∈ rowsD (c :: r) := by
      intro i hi
      cases c <;> simp_all [rowsD]
    exact .cons (data_rel ho hf h1 (fun i hi => hrow i (hsub i (.inl hi))) hc) (data_rels ho hf h2 (fun i hi => hrow i (hsub i (.inr hi))) hq)

theorem dataC_one {m : List Obj} {c c' : CV} (hr : (dataC c).run1 m = some c') : c' ≠ .undef := by
  cases c <;> simp only [dataC, Rd.run1_fail, Rd.run1_ret, Option.some.injEq, Rd.run1_get] at hr <;> try (cases hr; done)
  all_goals first
    | (subst hr; simp; done)
    | skip
  · rename_i i
    cases hm : m.getD i .dead <;> rw [hm] at hr <;> first | (cases hr; done) | (obtain rfl := ret_run1 hr; simp)
  · rename_i i o n
    cases hm : m.getD i .dead <;> rw [hm] at hr <;> first | (cases hr; done) | (obtain ⟨_, hr⟩ := guard_run1 hr; obtain rfl := ret_run1 hr; simp)
theorem dataCs_one {m : List Obj} : ∀ {cs cs' : List CV}, (dataCs cs).run1 m = some cs' → ∀ c ∈ cs', c ≠ .undef
  | [], cs', hr, c, hc => by obtain rfl := ret_run1 hr; simp at hc
  | c0 :: r, cs', hr, c, hc => by
    obtain ⟨c1, h1, hr⟩ := bind_run1 hr
    obtain ⟨r1, h2, hr⟩ := bind_run1 hr
    obtain rfl := ret_run1 hr
    rcases List.mem_cons.1 hc with rfl | hc
    · exact dataC_one h1
    · exact dataCs_one h2 c hc
theorem dataCs_len {m : List Obj} : ∀ {cs cs' : List CV}, (dataCs cs).run1 m = some cs' → cs'.length = cs.length
  | [], cs', hr => by obtain rfl := ret_run1 hr; rfl
  | c0 :: r, cs', hr => by
    obtain ⟨c1, h1, hr⟩ := bind_run1 hr
    obtain ⟨r1, h2, hr⟩ := bind_run1 hr
    obtain rfl := ret_run1 hr
    simp [dataCs_len h2]
theorem RelL.one {kd : Nat → KD} {cs : List CV} {us : List Value} (hl : RelL w ok X.rd β kd al cs us) (hu : ∀ c ∈ cs, c ≠ .undef) : ∀ u ∈ us, u.oneCell' = true := by
  intro u hu'
  obtain ⟨j, hj⟩ := List.getElem?_of_mem hu'
  have hjlt : j < cs.length := by
    rw [← hl.1]
    rcases Nat.lt_or_ge j us.length with h | h
    · exact h
    · rw [List.getElem?_eq_none h] at hj; cases hj
  exact (hl.2 j _ u (List.getElem?_eq_getElem hjlt) hj).one (hu _ (List.getElem_mem hjlt))
theorem RelL.splice {kd : Nat → KD} {cs new : List CV} {us vs : List Value} {o : Nat} (hl : RelL w ok X.rd β kd al cs us) (hn : RelL w ok X.rd β kd al new vs) : RelL w ok X.rd β kd al (splice cs o new) (us.take o ++ vs ++ us.drop (o + vs.length)) := by
  unfold Sk.splice
  rw [hn.1]
  exact ((hl.take o).append hn).append (hl.drop _)

theorem left_storeE (h : Inv X env mem al tmps w β ok) {t : TypeId} {a x : Operand} {new : Nat → Prop} {n i k o : Nat} (hn : sizeAt P t = some n) {vc : List CV} {cv : Value} {av : Value} (hl : RelL w ok X.rd β (kds mem) al vc cv.cells.toList) (hlen : vc.length = n)
    (hp : RelC w ok X.rd β (kds mem) al (.eptr i k o) av) {t' : Ty} {xs : List (El t')} (hm : mem.getD i .dead = .row t' xs) {e e' : El t'} (hx : xs[k]? = some e) {ncs : List CV} (hncs : (dataCs vc).run1 mem = some ncs) {ws : List (Nat × Obj)} (hws : (freeze (rowsD vc)).run1 mem = some ws)
    (hd : decAll t' (Sk.splice (enc t' e) o ncs) = some e') (hg : i ∉ rowsD vc) (hon : o + n ≤ t'.size) :
    ∃ w' ok', (Instr.storeAt t av cv).run P w = .ok () w' ∧ Inv X env (wrs mem (ws ++ [(i, .row t' (xs.set k e'))])) al tmps w' β ok' := by
  obtain ⟨ok', ext, hI, hf, hfr, hout⟩ := freeze_sound (rowsD vc) mem (Froze.refl _) h hws
  have hmi : (wrs mem ws).getD i .dead = .row t' xs := by rw [hout i hg, hm]
  have hl' := data_rels hI.obj hf hncs hfr (hl.mono ext)
  have hob := hI.obj i
  rw [hmi] at hob
  obtain ⟨A, c, hβ, hob⟩ := hob
  obtain ⟨b, q, n1, c1, hb1, hv⟩ := hp.eptr_inv t' (by show (mem.getD i .dead).kd = _; rw [hm]; rfl)
  rw [hβ] at hb1
  cases hb1
  have hk : k < xs.length := by
    rcases Nat.lt_or_ge k xs.length with h | h
    · exact h
    · rw [List.getElem?_eq_none h] at hx; cases hx
  rcases hob with ⟨rfl, _⟩ | ⟨b', q', arr, T, e1, hh, h0, hle, hsz, hrows⟩
  · simp at hx
  · simp at e1
    obtain ⟨rfl, rfl⟩ := e1
    have hvl : cv.cells.toList.length = n := by rw [hl.1, hlen]
    have hkc : k * t'.size + t'.size ≤ c * t'.size := by
      have : (k + 1) * t'.size ≤ c * t'.size := Nat.mul_le_mul_right _ (by omega)
      rwa [Nat.add_mul, Nat.one_mul] at this
    have hone := RelL.one hl' (dataCs_one hncs)
    have hsz2 : q + k * t'.size + o + cv.cells.toList.length ≤ arr.size := by omega
    have hst := run_storeVar (P := P) (w := w) (T := T) hn rfl hvl hone hh hsz2
    refine ⟨_, ok', by rw [hv]; exact hst, ?_⟩
    rw [wrs_append]
    show Inv X env (wr (wrs mem ws) i (.row t' (xs.set k e'))) al tmps _ β ok'
    have hkx : k * t'.size + t'.size ≤ xs.length * t'.size := by
      have : (k + 1) * t'.size ≤ xs.length * t'.size := Nat.mul_le_mul_right _ (by omega)
      rwa [Nat.add_mul, Nat.one_mul] at this
    refine hI.rowWrite hmi (by simp) hβ (by omega) hh hsz2 (by omega) fun arr' hs1 hs2 hs3 j y hj => ?_
    rw [List.getElem?_set] at hj
    by_cases hjk : k = j
    · subst hjk
      rw [if_pos rfl, if_pos hk] at hj
      simp at hj
      subst hj
      obtain ⟨us, hul, hre, hu⟩ := hrows k e hx
      have hsp := RelL.splice (o := o) (rel_enc (rd := X.rd) (β := β) (kd := kds (wrs mem ws)) (al := al) hre) hl'
      have hre' := rel_decAll hd hsp
      refine ⟨_, hre'.length, hre', fun j u hj => ?_⟩
      by_cases h1 : j < o
      · rw [List.append_assoc, List.getElem?_append_left (by simp; omega), List.getElem?_take, if_pos h1] at hj
        rw [hs2 _ (.inl (by omega))]
        exact hu j u hj
      · rw [List.append_assoc, List.getElem?_append_right (by simp; omega)] at hj
        have ht : (us.take o).length = o := by simp; omega
        rw [ht] at hj
        by_cases h2 : j < o + n
        · rw [List.getElem?_append_left (by omega)] at hj
          have := hs3 _ _ hj
          rw [← this]; congr 1; omega
        · rw [List.getElem?_append_right (by omega), List.getElem?_drop] at hj
          rw [hs2 _ (.inr (by omega))]
          have := hu _ _ hj
          rw [← this]; congr 1; omega
    · rw [if_neg hjk] at hj
      obtain ⟨us, hul, hre, hu⟩ := hrows j y hj
      refine ⟨us, hul, hre, fun j2 u hj2 => ?_⟩
      have hj2' : j2 < t'.size := by
        rcases Nat.lt_or_ge j2 us.length with h | h
        · omega
        · rw [List.getElem?_eq_none h] at hj2; cases hj2
      rw [hs2]
      · exact hu j2 u hj2
      · rcases Nat.lt_or_gt_of_ne hjk with h3 | h3
        · right
          have : (k + 1) * t'.size ≤ j * t'.size := Nat.mul_le_mul_right _ h3
          rw [Nat.add_mul, Nat.one_mul] at this
          omega
        · left
          have : (j + 1) * t'.size ≤ k * t'.size := Nat.mul_le_mul_right _ h3
          rw [Nat.add_mul, Nat.one_mul] at this
          omega
end
end Go.Sk

/- Composites, slices of the call's own, append and copy, as the evaluator's. -/
set_option linter.unusedSimpArgs false
set_option linter.unusedVariables false
set_option linter.unusedSectionVars false
namespace Go.Sk
open Go

theorem spl_get {α : Type} {cs new : List α} {o : Nat} (h : o + new.length ≤ cs.length) (j : Nat) : (cs.take o ++ new ++ cs.drop (o + new.length))[j]? = if j < o then cs[j]? else if j < o + new.length then new[j - o]? else cs[j]? := by
  by_cases h1 : j < o
  · rw [if_pos h1, List.append_assoc, List.getElem?_append_left (by simp; omega), List.getElem?_take, if_pos h1]
  · rw [if_neg h1, List.append_assoc, List.getElem?_append_right (by simp; omega)]
    have e : (cs.take o).length = o := by simp; omega
    rw [e]
    by_cases h2 : j < o + new.length
    · rw [if_pos h2, List.getElem?_append_left (by omega)]
    · rw [if_neg h2, List.getElem?_append_right (by omega), List.getElem?_drop]
      congr 1; omega
theorem fold_get : ∀ (vs : List Value) (k off : Nat) (arr : Array Value), off + k + vs.length ≤ arr.size →
    ∀ j, ((vs.zipIdx k).foldl (fun (cs : Array Value) (x : Value × Nat) => cs.setIfInBounds (off + x.2) x.1) arr)[j]? = if j < off + k then arr[j]? else if j < off + k + vs.length then vs[j - (off + k)]? else arr[j]?
  | [], k, off, arr, h, j => by simp; omega
  | v :: r, k, off, arr, h, j => by
    simp only [List.length_cons] at h
    simp only [List.zipIdx_cons, List.foldl_cons]
    rw [fold_get r (k + 1) off _ (by simp; omega)]
    simp only [Array.getElem?_setIfInBounds, List.length_cons]
    by_cases h1 : j < off + k
    · rw [if_pos (by omega), if_neg (by omega), if_pos h1]
    · by_cases h2 : j = off + k
      · subst h2
        rw [if_pos (by omega), if_pos rfl, if_pos (by omega), if_neg (by omega), if_pos (by omega)]
        simp
      · rw [if_neg (by omega), if_neg h1]
        by_cases h3 : j < off + k + (r.length + 1)
        · rw [if_pos (by omega), if_pos h3, show j - (off + k) = (j - (off + (k + 1))) + 1 by omega]
          simp
        · rw [if_neg (by omega), if_neg h3, if_neg (by omega)]
theorem fold_splice (vs : List Value) (off : Nat) (arr : Array Value) (h : off + vs.length ≤ arr.size) :
    ((vs.zipIdx).foldl (fun (cs : Array Value) (x : Value × Nat) => cs.setIfInBounds (off + x.2) x.1) arr).toList = arr.toList.take off ++ vs ++ arr.toList.drop (off + vs.length) := by
  apply List.ext_getElem?
  intro j
  rw [spl_get (by simpa using h), Array.getElem?_toList, fold_get vs 0 off arr (by omega)]
  simp

section
variable {P : Program} {X : Fr} {env : List V} {mem : List Obj} {al : Nat → Prop} {tmps : Array Value} {w : World} {β : Nat → Value} {ok : Nat → Prop}

/-- the parts of a composite -/
def RelPs (w : World) (ok rd : Nat → Prop) (β : Nat → Value) (kd : Nat → KD) (al : Nat → Prop) : List (Nat × V) → List (Nat × Value) → Prop
  | [], [] => True
  | (i, v) :: r, (j, u) :: q => i = j ∧ RelL w ok rd β kd al v.cells u.cells.toList ∧ RelPs w ok rd β kd al r q
  | _, _ => False
theorem fill_rel {kd : Nat → KD} {pl : Nat → Option (Nat × Nat)} : ∀ (ps : List (Nat × V)) (qs : List (Nat × Value)) {cs cs' : List CV} {us : List Value}, RelPs w ok X.rd β kd al ps qs → RelL w ok X.rd β kd al cs us → (fillC pl cs ps).run1 mem = some cs' →
    ∃ us', Instr.fill pl us.toArray qs = some us'.toArray ∧ RelL w ok X.rd β kd al cs' us' ∧ us'.length = us.length
  | [], [], cs, cs', us, _, hl, hr => by
    obtain rfl := ret_run1 hr
    exact ⟨us, rfl, hl, rfl⟩
  | (i, v) :: r, (j, u) :: q, cs, cs', us, ⟨e, hv, hq⟩, hl, hr => by
    subst e
    unfold fillC at hr
    split at hr
    · rename_i off n hp
      obtain ⟨hb, hr⟩ := bif_fail hr
      simp only [Bool.and_eq_true, beq_iff_eq, decide_eq_true_eq] at hb
      have hs := RelL.splice (o := off) hl hv
      obtain ⟨us', hf, hl', hlen⟩ := fill_rel r q hq hs hr
      have hul : u.cells.size = n := by have := hv.1; simpa [hb.1] using this
      have hus : us.length = cs.length := hl.1
      refine ⟨us', ?_, hl', by rw [hlen]; simp; omega⟩
      unfold Instr.fill
      rw [hp]
      simp only []
      rw [if_neg (by simp [hul]; omega), ← hf]
      congr 1
      apply Array.ext'
      have := fold_splice u.cells.toList off us.toArray (by simp [hul]; omega)
      rw [← Array.foldl_toList, Array.toList_zipIdx]
      simpa [hul] using this
    · cases hr

theorem run_placesL (f : Field → Sem (Nat × Nat)) (hf : ∀ fd n, sizeAt P fd.type = some n → (f fd).run P w = .ok (fd.offset, n) w) : ∀ (fs : List Field) {l : List (Nat × Nat)}, placesL P fs = some l → (fs.mapM f).run P w = .ok l w
  | [], l, h => by simp [placesL] at h; subst h; rfl
  | fd :: r, l, h => by
    unfold placesL at h
    split at h
    · rename_i n l' hn hl
      simp at h
      subst h
      simp [List.mapM_cons, hf fd n hn, run_placesL f hf r hl]
    · cases h
theorem run_places (fs : Array Field) {l : List (Nat × Nat)} (h : placesL P fs.toList = some l) : (fs.mapM fun f => (do pure (f.offset, ← sizeOf f.type) : Sem (Nat × Nat))).run P w = .ok l.toArray w := by
  have := run_placesL (w := w) (fun f => do pure (f.offset, ← sizeOf f.type)) (fun fd n hn => by simp [run_sizeAt hn]) fs.toList h
  rw [Array.mapM_eq_mapM_toList]
  simp only [Sem.run_map, this, Result.andThen_ok]

variable (ds : List Deferred)
theorem relPs_of (h : Inv X env mem al tmps w β ok) (ty : Nat → Option Ty) : ∀ (l : List (Nat × Operand)), noTups (l.map fun p => (⟨env, mem⟩ : St).ev p.2 (ty p.1)) = true →
    RelPs w ok X.rd β (kds mem) al (l.map fun p => (p.1, (⟨env, mem⟩ : St).ev p.2 (ty p.1))) (l.map fun p => (p.1, (⟨tmps, ds⟩ : Act).eval p.2))
  | [], _ => trivial
  | (i, x) :: r, hn => by
    simp only [List.map_cons, noTups, Bool.and_eq_true, Bool.not_eq_true'] at hn
    exact ⟨rfl, relV_box (h.ev ds x (ty i)) hn.1, relPs_of h ty r hn.2⟩

variable (C : Cfg) (h : Inv X env mem al tmps w β ok) {out : Out} {ty : TypeId} {id : Nat} {dst : Option Tmp} {pos : String} {aft : Array Edge} {gd : Option (Nat × Bool)}
include h

theorem left_store {t : TypeId} {a x : Operand} {new : Nat → Prop} (hr : (semOp P C (.store t a x) ty (⟨env, mem⟩ : St).ev id).run1 mem = some out) : Left P X env mem al tmps w new (execOp (⟨tmps, ds⟩ : Act).eval ⟨dst, .store t a x, ty, pos, aft, gd⟩) out := by
  simp only [semOp] at hr
  split at hr
  · rename_i c n he hn
    obtain ⟨hb, hr⟩ := bif_fail hr
    simp only [Bool.and_eq_true, beq_iff_eq, Bool.not_eq_true'] at hb
    have hl := relV_box (h.ev ds x (tyAt P t)) hb.2
    have hp := ev_one ds h he
    cases c with
    | ptr i o =>
      simp only [Rd.run1_get] at hr
      cases hm : mem.getD i .dead <;> rw [hm] at hr <;> try (cases hr; done)
      rename_i cs
      obtain ⟨h2, hr⟩ := bif_fail hr
      obtain rfl := ret_run1 hr
      simp only [Bool.and_eq_true, decide_eq_true_eq] at h2
      obtain ⟨b, hbb, hv⟩ := hp.ptr_inv (by show (mem.getD i .dead).kd = _; rw [hm]; rfl)
      obtain ⟨w', hw, hI⟩ := h.storeCells hm hn hl hb.1 (known_spec h2.2) h2.1 hbb
      exact left_skip (s := Instr.storeAt t ((⟨tmps, ds⟩ : Act).eval a) ((⟨tmps, ds⟩ : Act).eval x)) (ws := [(i, .cells (splice cs o ((⟨env, mem⟩ : St).ev x (tyAt P t)).cells))]) h (by rw [hv]; exact hw) hI
    | eptr i k o =>
      simp only [Rd.run1_get] at hr
      cases hm : mem.getD i .dead <;> rw [hm] at hr <;> try (cases hr; done)
      rename_i t' xs
      simp only [Rd.run1_opt] at hr
      cases hx : xs[k]? with
      | none => rw [hx] at hr; cases hr
      | some e =>
        rw [hx, Option.bind_some] at hr
        obtain ⟨ncs, hncs, hr⟩ := bind_run1 hr
        obtain ⟨ws, hws, hr⟩ := bind_run1 hr
        cases hd : decAll t' (splice (enc t' e) o ncs) with
        | none => rw [hd] at hr; cases hr
        | some e' =>
          rw [hd] at hr
          cases hg : ((rowsD ((⟨env, mem⟩ : St).ev x (tyAt P t)).cells).contains i || !decide (o + n ≤ t'.size)) with
          | true => rw [hg] at hr; cases hr
          | false =>
            rw [hg] at hr
            obtain rfl := ret_run1 (m := mem) hr
            simp only [Bool.or_eq_false_iff, List.contains_eq_mem, decide_eq_false_iff_not, Bool.not_eq_false', decide_eq_true_eq] at hg
            obtain ⟨w', ok', hw, hI⟩ := left_storeE (P := P) (a := a) (x := x) (new := new) h hn hl hb.1 hp hm hx hncs hws hd hg.1 hg.2
            exact left_skip (s := Instr.storeAt t ((⟨tmps, ds⟩ : Act).eval a) ((⟨tmps, ds⟩ : Act).eval x)) (ws := ws ++ [(i, .row t' (xs.set k e'))]) h hw hI
    | _ => cases hr
  · cases hr

theorem left_build {t : TypeId} {parts : Array (Nat × Operand)} {new : Nat → Prop} (hr : (semOp P C (.build t parts) ty (⟨env, mem⟩ : St).ev id).run1 mem = some out) : Left P X env mem al tmps w new (execOp (⟨tmps, ds⟩ : Act).eval ⟨dst, .build t parts, ty, pos, aft, gd⟩) out := by
  simp only [semOp] at hr
  split at hr
  · rename_i z pl hz hpl
    obtain ⟨hb, hr⟩ := bif_fail hr
    obtain ⟨cs, hcs, hr⟩ := bind_run1 hr
    obtain rfl := ret_run1 hr
    obtain ⟨i, zv, hi, hz', hl⟩ := zero_rel (X := X) (w := w) (ok := ok) (β := β) (al := al) hz
    have hps := relPs_of ds h (partTy P t) parts.toList (by rw [List.map_map] at hb; exact hb)
    obtain ⟨us', hf, hl', _⟩ := fill_rel _ _ hps (hl (kds mem)) hcs
    refine .read h (s := Instr.build t (parts.map fun (i, x) => (i, (⟨tmps, ds⟩ : Act).eval x))) (v := .agg us'.toArray) ?_ (.ofL hl')
    have e1 : (parts.map fun (i, x) => (i, (⟨tmps, ds⟩ : Act).eval x)).toList = parts.toList.map fun p => (p.1, (⟨tmps, ds⟩ : Act).eval p.2) := by simp
    have hzv : (zeroValue t).run P w = .ok zv w := by simp [zeroValue, typeInfo, hi, hz']
    have e2 : zv.cells.toList.toArray = zv.cells := by simp
    rw [e2] at hf
    unfold placesOf at hpl
    split at hpl
    · rename_i fs hu
      split at hpl
      · rename_i l hpL
        simp at hpl
        subst hpl
        unfold Instr.build
        simp only [Sem.run_bind, hzv, Result.andThen_ok, run_underlying hu, run_places fs hpL, e1]
        have : (fun x : Nat => (l.toArray)[x]?) = (fun i : Nat => l[i]?) := by funext i; simp
        rw [this, hf]
        rfl
      · cases hpl
    · rename_i n e hu
      split at hpl
      · rename_i sz hsz
        simp at hpl
        subst hpl
        unfold Instr.build
        simp only [Sem.run_bind, hzv, Result.andThen_ok, run_underlying hu, run_sizeAt hsz, e1, hf]
        rfl
      · cases hpl
    · cases hpl
  · cases hr

/-! ### slices of the call's own -/
omit h in
theorem chunk_rel {kd : Nat → KD} {t : Ty} : ∀ (n : Nat) {cs : List CV} {xs : List (El t)} {us : List Value}, chunk t n cs = some xs → RelL w ok X.rd β kd al cs us → xs.length = n ∧
    ∀ k x, xs[k]? = some x → ∃ vs, vs.length = t.size ∧ RepE w ok t x vs ∧ ∀ j u, vs[j]? = some u → us[k * t.size + j]? = some u
  | 0, cs, xs, us, hc, hl => by
    cases cs with
    | nil => simp [chunk] at hc; subst hc; exact ⟨rfl, by simp⟩
    | cons c r => simp [chunk] at hc
  | n + 1, cs, xs, us, hc, hl => by
    unfold chunk at hc
    split at hc
    · rename_i x r hd
      split at hc
      · rename_i ys hy
        simp at hc
        subst hc
        obtain ⟨a, b, rfl, ha, hb⟩ := rel_dec t cs hd hl
        obtain ⟨hlen, hrows⟩ := chunk_rel n hy hb
        refine ⟨by simp [hlen], fun k y hk => ?_⟩
        have hal := ha.length
        cases k with
        | zero =>
          simp at hk; subst hk
          exact ⟨a, hal, ha, fun j u hj => by
            have : j < a.length := by
              rcases Nat.lt_or_ge j a.length with h | h
              · exact h
              · rw [List.getElem?_eq_none h] at hj; cases hj
            rw [Nat.zero_mul, Nat.zero_add, List.getElem?_append_left this]; exact hj⟩
        | succ k =>
          obtain ⟨vs, h1, h2, h3⟩ := hrows k y (by simpa using hk)
          refine ⟨vs, h1, h2, fun j u hj => ?_⟩
          rw [Nat.add_mul, Nat.one_mul, List.getElem?_append_right (by omega), hal]
          have := h3 j u hj
          rw [← this]; congr 1; omega
      · cases hc
    · cases hc

omit h in
theorem range_zero (z : Array Value) (n sz : Nat) (hz : z.size = sz) : ((Array.range (n * sz)).map fun x => z[x % z.size]!).toList = (List.replicate n z.toList).flatten := by
  induction n with
  | zero => simp
  | succ n ih =>
    rw [List.replicate_succ', List.flatten_append, ← ih]
    simp only [List.flatten_cons, List.flatten_nil, List.append_nil]
    apply List.ext_getElem?
    intro j
    simp only [Array.toList_map, Array.toList_range, List.getElem?_map]
    by_cases h1 : j < n * sz
    · rw [List.getElem?_append_left (by simpa using h1)]
      simp [List.getElem?_range, h1, show j < (n + 1) * sz by rw [Nat.add_mul]; omega]
    · rw [List.getElem?_append_right (by simp; omega)]
      simp only [List.length_map, List.length_range]
      by_cases h2 : j < (n + 1) * sz
      · have h3 : j - n * sz < sz := by rw [Nat.add_mul] at h2; omega
        have h4 : j % sz = j - n * sz := by
          have : j = (j - n * sz) + sz * n := by rw [Nat.mul_comm sz n]; omega
          rw [this, Nat.add_mul_mod_self_left, Nat.mod_eq_of_lt (by omega)]
          rw [Nat.mul_comm sz n]; omega
        simp [List.getElem?_range, h2, hz, h4, Array.getElem!_eq_getD, Array.getD_eq_getD_getElem?, show j - n * sz < z.size by omega]
        rw [Array.getElem?_eq_getElem (show j - n * sz < z.size by omega)]
        rfl
      · have h3 : sz ≤ j - n * sz := by rw [Nat.add_mul] at h2; omega
        simp [List.getElem?_range, h2, hz, h3]

omit h in
theorem zero_reps {kd : Nat → KD} {cs : List CV} {us : List Value} (hl : RelL w ok X.rd β kd al cs us) : ∀ n, RelL w ok X.rd β kd al (List.replicate n cs).flatten (List.replicate n us).flatten
  | 0 => .nil
  | n + 1 => by rw [List.replicate_succ, List.replicate_succ, List.flatten_cons, List.flatten_cons]; exact hl.append (zero_reps hl n)

omit h in
/-- a block that nothing leads to -/
theorem _root_.Go.Sk.Inv.junk {mem : List Obj} {ok : Nat → Prop} (h : Inv X env mem al tmps w β ok) {o : Go.Obj} : Inv X env mem al tmps (w.alloc o) β ok :=
  (h.update (mem' := mem) (al' := al) (w' := w.alloc o) (β' := β) (ok' := ok) (fun _ => False) (fun _ h => h) (fun _ h => h.elim) (fun _ _ => rfl) (fun _ _ => rfl) (fun _ h => h.elim) (fun _ h => h.elim) (fun b hb _ => heap_alloc_old _ _ hb) (by rw [size_alloc]; omega)
    (fun _ h => h) (fun _ h => .inl h) (fun _ _ h => h.elim) (fun _ _ h => h.elim) (fun _ _ _ h => h.elim) (fun _ _ h => h.elim) rfl rfl rfl).2

omit h in
theorem run_buildSlice {t e : TypeId} {n sz : Nat} (hu : P.underlying t = some (.slice e)) (hsz : sizeAt P e = some sz) (h0 : 0 < sz) (h24 : n * sz ≤ 16777216) {zv : Value} (hzv : (zeroValue e).run P w = .ok zv w) (hisz : zv.cells.size = sz) {parts : Array (Nat × Value)} {us' : List Value}
    (hf : Instr.fill (fun i => some (i * sz, sz)) ((List.replicate n zv.cells.toList).flatten).toArray parts.toList = some us'.toArray) :
    (Instr.buildSlice t n parts).run P w = .ok (.slice (some ⟨w.heap.size, 0, none⟩) n n) (w.alloc (.cells us'.toArray e)) := by
  unfold Instr.buildSlice
  have h24' : ¬ (n * sz > 2 ^ 24) := by omega
  simp only [Sem.run_bind, run_underlying hu, Result.andThen_ok, run_sizeAt hsz, if_neg h24', Sem.run_pure]
  by_cases hn0 : n = 0
  · subst hn0
    have e2 : ((List.replicate 0 zv.cells.toList).flatten).toArray = #[] := by simp
    rw [e2] at hf
    have e3 : ∀ f : Nat → Value, (Array.range (0 * sz)).map f = #[] := fun f => by simp
    have e4 : (0 * sz = 0) = True := by simp
    simp only [e4, if_true, Sem.run_pure, Result.andThen_ok, e3, hf]
    rfl
  · have hne : ¬ n * sz = 0 := by
      intro e3
      rcases Nat.mul_eq_zero.1 e3 with h | h <;> omega
    simp only [if_neg hne, Sem.run_bind, hzv, Result.andThen_ok, Sem.run_pure]
    have e2 : ((Array.range (n * sz)).map fun x => zv.cells[x % zv.cells.size]!) = ((List.replicate n zv.cells.toList).flatten).toArray := by
      apply Array.ext'
      rw [range_zero zv.cells n sz hisz]
    rw [e2, hf]
    rfl

omit h in
/-- a new row behind some frozen ones -/
theorem newRow_left {ok' : Nat → Prop} {ws : List (Nat × Obj)} (hI : Inv X env (wrs mem ws) al tmps w β ok') (hid : ¬ al id) {te : Ty} {xs : List (El te)} {us : List Value} {n : Nat} {T : RowT te} (hc : Cells w ok' te xs us) (hxl : xs.length = n) {arr : Array Value} (ha : ∀ (i : Nat) u, us[i]? = some u → arr[i]? = some u) {cp : Nat} (hcp : n ≤ cp) (hsz : cp * te.size ≤ arr.size)
    (hsp : ∃ sp : List (El te), xs.length + sp.length = cp ∧ ∀ (k : Nat) x, sp[k]? = some x → ∃ us, us.length = te.size ∧ RepE w ok' te x us ∧ ∀ (j : Nat) u, us[j]? = some u → arr[(xs.length + k) * te.size + j]? = some u)
    {w1 : World} (hw1 : w1.heap = w.heap) (os : w1.os = w.os) (out : w1.output = w.output) (tape : w1.tape = w.tape) :
    ∃ β', Inv X env (wrs mem (ws ++ [(id, .row te xs)])) (fun i => al i ∨ i = id) tmps (w1.alloc (.cells arr T.1)) β' ok' ∧
      RelV (w1.alloc (.cells arr T.1)) ok' X.rd β' (kds (wrs mem (ws ++ [(id, .row te xs)]))) (fun i => al i ∨ i = id) (.one (.osl id)) (.slice (some ⟨w.heap.size, 0, none⟩) n cp) := by
  have e5 : wrs mem (ws ++ [(id, .row te xs)]) = wr (wrs mem ws) id (.row te xs) := by rw [wrs_append]; rfl
  rw [e5]
  by_cases hn0 : cp = 0
  · subst hn0
    have hx0 : xs = [] := List.eq_nil_of_length_eq_zero (by omega)
    subst hx0
    have hn : n = 0 := by omega
    subst hn
    have hJ := (hI.heap hw1 os out tape).junk (o := .cells arr T.1)
    obtain ⟨hN, hR⟩ := hJ.newRow0 (t := te) (A := some ⟨w.heap.size, 0, none⟩) hid (fun _ => false) (by simp) (mem' := wr (wrs mem ws) id (.row te [])) (fun i => by rw [wr_getD]; simp)
    exact ⟨_, hN, .one _ _ hR⟩
  · obtain ⟨hN, hR⟩ := hI.newRow (t := te) (xs := xs) (arr := arr) (c := cp) (T := T) (w1 := w1) hid hw1 os out tape (fun _ => false) (by simp) hc ha (by omega) (by omega) hsz hsp
      (mem' := wr (wrs mem ws) id (.row te xs)) (fun i => by rw [wr_getD]; simp)
    rw [hxl] at hN hR
    exact ⟨_, hN, .one _ _ hR⟩

theorem left_buildSlice (hid : ¬ al id) {t : TypeId} {n : Nat} {parts : Array (Nat × Operand)} (hr : (semOp P C (.buildSlice t n parts) ty (⟨env, mem⟩ : St).ev id).run1 mem = some out) : Left P X env mem al tmps w (fun i => i = id) (execOp (⟨tmps, ds⟩ : Act).eval ⟨dst, .buildSlice t n parts, ty, pos, aft, gd⟩) out := by
  simp only [semOp] at hr
  split at hr
  · rename_i e hu
    split at hr
    · rename_i z sz te hz hsz hte
      obtain ⟨hb, hr⟩ := bif_fail hr
      simp only [Bool.and_eq_true, decide_eq_true_eq, beq_iff_eq] at hb
      obtain ⟨⟨⟨⟨⟨hn, h24⟩, hts⟩, h0⟩, hzl⟩, hrt⟩ := hb
      obtain ⟨cs, hcs, hr⟩ := bind_run1 hr
      obtain ⟨cs', hcs', hr⟩ := bind_run1 hr
      obtain ⟨ws, hws, hr⟩ := bind_run1 hr
      cases hch : chunk te n cs' with
      | none => rw [hch] at hr; cases hr
      | some xs =>
        rw [hch] at hr
        obtain rfl := ret_run1 (m := mem) hr
        obtain ⟨i, zv, hi, hz', hl⟩ := zero_rel (X := X) (w := w) (ok := ok) (β := β) (al := al) hz
        have hisz : zv.cells.size = sz := by have := (hl (kds mem)).1; simpa [hzl] using this
        have hps := relPs_of ds h (fun _ => some te) parts.toList (by rw [List.map_map] at hn; exact hn)
        obtain ⟨us', hf, hl', hlen⟩ := fill_rel _ _ hps (zero_reps (hl (kds mem)) n) hcs
        obtain ⟨ok', ext, hI, hfz, hfr, hout⟩ := freeze_sound (rowsD cs) mem (Froze.refl _) h hws
        have hl2 := data_rels hI.obj hfz hcs' hfr (hl'.mono ext)
        obtain ⟨hxl, hrows⟩ := chunk_rel n hch hl2
        have husl : us'.length = n * te.size := by rw [hlen]; simp [hisz, hts]
        have hzv : (zeroValue e).run P w = .ok zv w := by simp [zeroValue, typeInfo, hi, hz']
        have e1 : (parts.map fun (i, x) => (i, (⟨tmps, ds⟩ : Act).eval x)).toList = parts.toList.map fun p => (p.1, (⟨tmps, ds⟩ : Act).eval p.2) := by simp
        rw [← e1] at hf
        have hrun := run_buildSlice (P := P) (w := w) hu hsz h0 h24 hzv hisz hf
        have hc : Cells w ok' te xs us' := ⟨by rw [husl, hxl], hrows, RelL.one hl2 (dataCs_one hcs')⟩
        obtain ⟨β', hN, hR⟩ := newRow_left (T := ⟨e, rowTB_spec hrt⟩) (w1 := w) hI hid hc hxl (arr := us'.toArray) (fun i u hu => by simpa using hu) (Nat.le_refl _) (by simp [husl]) ⟨[], by simp [hxl], by simp⟩ rfl rfl rfl rfl
        exact Left.value (s := Instr.buildSlice t n (parts.map fun (i, x) => (i, (⟨tmps, ds⟩ : Act).eval x))) (out := ⟨.one (.osl id), ws ++ [(id, .row te xs)]⟩) hrun hN hR
    · cases hr
  · cases hr
end
end Go.Sk

/- Rows whose capacity is known, as rows. -/
set_option linter.unusedSimpArgs false
set_option linter.unusedVariables false
set_option linter.unusedSectionVars false
namespace Go.Sk
open Go
section
variable {X : Fr} {env : List V} {mem : List Obj} {al : Nat → Prop} {tmps : Array Value} {w : World} {β : Nat → Value} {ok : Nat → Prop}
theorem objFull {rd : Nat → Prop} {kd kd' : Nat → KD} {al' : Nat → Prop} {i : Nat} {t : Ty} {xs : List (El t)} (h : ObjRel w ok rd β kd al i (.full t xs)) : ObjRel w ok rd β kd' al' i (.row t xs) := by
  obtain ⟨A, e, h⟩ := h
  refine ⟨A, xs.length, e, ?_⟩
  by_cases hx : xs = []
  · exact .inl ⟨hx, by rw [hx]; rfl⟩
  · rcases h with h | ⟨b, o, arr, T, e1, hh, hs, hl⟩
    · exact absurd h hx
    · have : xs.length ≠ 0 := fun hl => hx (List.eq_nil_of_length_eq_zero hl)
      exact .inr ⟨b, o, arr, T, e1, hh, by omega, Nat.le_refl _, hs, hl⟩
theorem objRow {rd : Nat → Prop} {kd kd' : Nat → KD} {al' : Nat → Prop} {i : Nat} {t : Ty} {xs : List (El t)} (h : ObjRel w ok rd β kd al i (.row t xs)) {A : Option Addr} {n : Nat} (hb : β i = .slice A n xs.length) : ObjRel w ok rd β kd' al' i (.full t xs) := by
  obtain ⟨A', c, e, h⟩ := h
  rw [hb] at e
  cases e
  refine ⟨A, hb, ?_⟩
  rcases h with ⟨h, _⟩ | ⟨b, o, arr, T, e1, hh, h0, hle, hs, hl⟩
  · exact .inl h
  · exact .inr ⟨b, o, arr, T, e1, hh, hs, hl⟩
theorem ownB_rf {t t' : Ty} (xs : List (El t)) (ys : List (El t')) (v : Value) : ownB (.row t xs) v = ownB (.full t' ys) v := by
  cases v <;> try rfl
  rename_i A _ _
  cases A <;> rfl
theorem kds_wr {k : Nat} {o : Obj} (h : o.kd = kds mem k) : kds (wr mem k o) = kds mem := by
  funext j
  show ((wr mem k o).getD j .dead).kd = _
  rw [wr_getD]
  split
  · rename_i e
    rw [e]
    exact h
  · rfl
theorem Inv.toRow (h : Inv X env mem al tmps w β ok) {k : Nat} {t : Ty} {xs : List (El t)} (hm : mem.getD k .dead = .full t xs) : Inv X env (wr mem k (.row t xs)) al tmps w β ok := by
  have hk : kds mem k = .row t := by show (mem.getD k .dead).kd = _; rw [hm]; rfl
  refine (h.modify (o' := .row t xs) (w' := w) (fun j => wr_getD _ _ _ j) (by rw [hk]; rfl) (h.len k (by rw [hm]; simp [Obj.kd])) (fun _ _ => rfl) rfl (fun b hb => ?_) (fun _ => ?_) rfl rfl rfl).2
  · unfold own
    rw [hm, ← ownB_rf xs xs]
    exact hb
  · have := h.obj k
    rw [hm] at this
    exact objFull this
theorem Inv.toFull (h : Inv X env mem al tmps w β ok) {k : Nat} {t : Ty} {xs : List (El t)} (hm : mem.getD k .dead = .row t xs) {A : Option Addr} {n : Nat} (hb : β k = .slice A n xs.length) : Inv X env (wr mem k (.full t xs)) al tmps w β ok := by
  have hk : kds mem k = .row t := by show (mem.getD k .dead).kd = _; rw [hm]; rfl
  refine (h.modify (o' := .full t xs) (w' := w) (fun j => wr_getD _ _ _ j) (by rw [hk]; rfl) (h.len k (by rw [hm]; simp [Obj.kd])) (fun _ _ => rfl) rfl (fun b hb => ?_) (fun _ => ?_) rfl rfl rfl).2
  · unfold own
    rw [hm, ownB_rf xs xs]
    exact hb
  · have := h.obj k
    rw [hm] at this
    exact objRow this hb
end
end Go.Sk

/- make, append and copy, as the evaluator's. -/
set_option linter.unusedSimpArgs false
set_option linter.unusedVariables false
set_option linter.unusedSectionVars false
namespace Go.Sk
open Go
section
variable {P : Program} {X : Fr} {env : List V} {mem : List Obj} {al : Nat → Prop} {tmps : Array Value} {w : World} {β : Nat → Value} {ok : Nat → Prop}

theorem RepE.sizeL {t : Ty} {x : El t} {us : List Value} (h : RepE w ok t x us) : us.length = t.size := h.length

theorem wrap_id {n : Int} (h0 : 0 ≤ n) (h1 : n ≤ 140737488355328) : IntKind.i64.wrap n = n := by
  have e : IntKind.i64.wrap n = (if (n % 18446744073709551616 : Int) ≥ 9223372036854775808 then n % 18446744073709551616 - 18446744073709551616 else n % 18446744073709551616) := by
    unfold IntKind.wrap
    simp [IntKind.bits, IntKind.signed]
  rw [e]
  split <;> omega

/-- the row of a slice that reads, as the cells of a source -/
theorem src_of {t tx : TypeId} {te : Ty} {A : Option Addr} {c sz : Nat} {ys : List (El te)} (hk : ∃ e', P.underlying tx = some (.slice e')) (hs : te.size = sz)
    (h : ys = [] ∨ ∃ b o, A = some ⟨b, o, none⟩ ∧ ∀ k x, ys[k]? = some x → ∃ us, us.length = te.size ∧ RepE w ok te x us ∧ ∀ j u, us[j]? = some u → w.cell? ⟨b, o + k * te.size + j, none⟩ = some u) :
    ∃ news, Src P sz tx (.slice A ys.length c) ys.length news w ∧ Cells w ok te ys news := by
  subst hs
  obtain ⟨e', hk⟩ := hk
  rcases h with rfl | ⟨b, o, rfl, h⟩
  · refine ⟨[], ?_, ⟨by simp, by simp, by simp⟩⟩
    cases A with
    | none => exact Src.ofNil w hk c
    | some a => exact Src.ofSlice w hk a 0 c [] (by simp) (by simp) (by simp)
  · obtain ⟨news, h1, h2, h3, h4⟩ := cells_of_rows (R := fun x us => RepE w ok te x us) ys (fun i => w.cell? ⟨b, o + i, none⟩) (fun k x hk => by
      obtain ⟨us, a1, a2, a3⟩ := h k x hk
      exact ⟨us, a1, a2, fun j u hj => by have := a3 j u hj; rwa [Nat.add_assoc] at this⟩)
    have one : ∀ u ∈ news, u.oneCell' = true := fun u hu => by
      obtain ⟨x, us, hr, hm⟩ := h4 u hu
      exact hr.one u hm
    exact ⟨news, Src.ofSlice w hk _ _ c news h1 (fun j u hj => by rw [addr_add]; exact h2 j u hj) one, ⟨h1, h3, one⟩⟩

theorem rel_src (ho : ∀ i, ObjRel w ok X.rd β (kds mem) al i (mem.getD i .dead)) {tx : TypeId} {te : Ty} {sz : Nat} {b : CV} {bv : Value} (hs : te.size = sz) (hok : srcOk P tx b = true) {ys : List (El te)} (hr : (srcElems te b).run1 mem = some ys) (hv : RelC w ok X.rd β (kds mem) al b bv) :
    ∃ news, Src P sz tx bv ys.length news w ∧ Cells w ok te ys news := by
  have hsl : b.isStr = false → ∃ e', P.underlying tx = some (.slice e') := by
    intro hb
    unfold srcOk at hok
    rw [hb] at hok
    cases hu : P.underlying tx with
    | none => rw [hu] at hok; cases hok
    | some d => rw [hu] at hok; cases d <;> first | (cases hok; done) | exact ⟨_, rfl⟩
  cases b <;> simp only [srcElems, elems, Rd.run1_fail, Rd.run1_ret, Option.some.injEq, Rd.run1_ofOption] at hr <;> try (cases hr; done)
  case str s =>
    cases hv
    have hst : P.underlying tx = some .string := by
      unfold srcOk at hok
      simp only [CV.isStr] at hok
      cases hu : P.underlying tx with
      | none => rw [hu] at hok; cases hok
      | some d => rw [hu] at hok; cases d <;> first | (cases hok; done) | rfl
    cases te <;> simp only [strElems, Rd.run1_fail, Rd.run1_ret, Option.some.injEq] at hr <;> try (cases hr; done)
    rename_i k
    cases k <;> simp only [strElems, Rd.run1_fail, Rd.run1_ret, Option.some.injEq] at hr <;> try (cases hr; done)
    subst hr
    have hs1 : sz = 1 := hs.symm
    subst hs1
    have hlen : (s.data.toList.map fun c => (c.toNat : Int)).length = s.size := by simp
    refine ⟨byteCells s, by rw [hlen]; exact Src.ofString w hst s, ⟨by rw [byteCells_length, hlen]; simp [Ty.size], fun k x hk => ?_, fun u hu => ?_⟩⟩
    · simp only [List.getElem?_map] at hk
      cases hq : s.data.toList[k]? with
      | none => rw [hq] at hk; cases hk
      | some q =>
        rw [hq] at hk
        simp at hk
        refine ⟨[.int .u8 x], rfl, rfl, fun j u hj => ?_⟩
        cases j with
        | zero =>
          simp at hj
          subst hj
          simp only [Ty.size, Nat.mul_one, Nat.add_zero, byteCells, List.getElem?_map, hq, Option.map_some, hk]
        | succ j => simp at hj
    · obtain ⟨q, _, rfl⟩ := List.mem_map.1 hu
      rfl
  case nils t' =>
    subst hr
    cases hv
    exact src_of (t := tx) (hsl rfl) hs (.inl rfl)
  case slc t' xs =>
    obtain ⟨rfl, rfl⟩ := decS_spec hr
    obtain ⟨A, c, rfl, hrow⟩ : ∃ A c, bv = .slice A ys.length c ∧ RowAt w ok (RepE w ok t') t'.size A ys := by cases hv; exact ⟨_, _, rfl, by assumption⟩
    refine src_of (t := tx) (ys := ys) (hsl rfl) hs ?_
    rcases hrow with h | ⟨b, o, e, _, h⟩
    · exact .inl h
    · exact .inr ⟨b, o, e, h⟩
  case clp t' xs =>
    obtain ⟨rfl, rfl⟩ := decS_spec hr
    obtain ⟨A, rfl, hrow⟩ : ∃ A, bv = .slice A ys.length ys.length ∧ RowAt w ok (RepE w ok t') t'.size A ys := by cases hv; exact ⟨_, rfl, by assumption⟩
    refine src_of (t := tx) (ys := ys) (hsl rfl) hs ?_
    rcases hrow with h | ⟨b, o, e, _, h⟩
    · exact .inl h
    · exact .inr ⟨b, o, e, h⟩
  case chk b' t' xs =>
    obtain ⟨rfl, rfl⟩ := decS_spec hr
    obtain ⟨A, c, rfl, hrow⟩ : ∃ A c, bv = .slice A ys.length c ∧ RowAt w ok (RepE w ok t') t'.size A ys := by cases hv; exact ⟨_, _, rfl, by assumption⟩
    refine src_of (t := tx) (ys := ys) (hsl rfl) hs ?_
    rcases hrow with h | ⟨b, o, e, _, h⟩
    · exact .inl h
    · exact .inr ⟨b, o, e, h⟩
  case osl i =>
    simp only [Rd.run1_get] at hr
    have hob := ho i
    cases hm : mem.getD i .dead <;> rw [hm] at hr hob <;> simp only [Rd.run1_fail, Rd.run1_ofOption] at hr <;> try (cases hr; done)
    all_goals
      rename_i t' xs
      obtain ⟨rfl, rfl⟩ := decS_spec hr
      rw [hv.osl_inv (by show (mem.getD i .dead).kd ≠ _; rw [hm]; simp [Obj.kd])]
    · obtain ⟨A, c, hb, hob⟩ := hob
      rw [hb]
      refine src_of (t := tx) (ys := ys) (hsl rfl) hs ?_
      rcases hob with ⟨h, _⟩ | ⟨b, o, arr, T, rfl, hh, h0, hle, hsz, h⟩
      · exact .inl h
      · exact .inr ⟨b, o, rfl, fun k x hk => let ⟨us, h1, h2, h3⟩ := h k x hk; ⟨us, h1, h2, fun j u hj => by simp [World.cell?, hh, h3 j u hj]⟩⟩
    · obtain ⟨A, c, hb, hle, hob⟩ := hob
      simp at hb
      rw [hb]
      refine src_of (t := tx) (ys := ys) (hsl rfl) hs ?_
      rcases hob with h | ⟨b, o, e, _, h⟩
      · exact .inl h
      · exact .inr ⟨b, o, e, h⟩
  case ovw i of n =>
    simp only [Rd.run1_get] at hr
    have hob := ho i
    cases hm : mem.getD i .dead <;> rw [hm] at hr hob <;> try (cases hr; done)
    all_goals
      rename_i t' xs
      obtain ⟨xs', hx, hr2⟩ := bind_run1 hr
      clear hr
      rw [Rd.run1_ofOption] at hx
      obtain ⟨e0, hx⟩ := decS_spec hx
      subst e0
      replace hx : xs' = xs := hx
      subst hx
      obtain ⟨hle, hr2⟩ := guard_run1 hr2
      obtain rfl := ret_run1 hr2
      replace hle : of + n ≤ xs'.length := by simpa using hle
      obtain ⟨A, n', cp, A', hb, rfl, hcp, hA⟩ : ∃ A n' c A', β i = .slice A n' c ∧ bv = .slice A' n (c - of) ∧ of + n ≤ c ∧ (∀ b q, A = some ⟨b, q, none⟩ → c ≠ of → A' = some ⟨b, q + of * t'.size, none⟩) := by
        cases hv with
        | ovw _ _ _ _ hi hp h1 => exact hp t' (by show (mem.getD i .dead).kd = _; rw [hm]; rfl)
      have hlen : ((xs'.drop of).take n).length = n := by simp; omega
      have hget : ∀ k x, ((xs'.drop of).take n)[k]? = some x → xs'[of + k]? = some x := fun k x hk => by
        rw [List.getElem?_take] at hk
        split at hk
        · rwa [List.getElem?_drop] at hk
        · cases hk
      have key := src_of (w := w) (ok := ok) (P := P) (t := tx) (tx := tx) (te := t') (A := A') (c := cp - of) (sz := sz) (ys := (xs'.drop of).take n) (hsl rfl) hs
      rw [hlen] at key
      show ∃ news, Src P sz tx (.slice A' n (cp - of)) ((xs'.drop of).take n).length news w ∧ Cells w ok t' ((xs'.drop of).take n) news
      rw [hlen]
      refine key ?_
    · obtain ⟨A2, c2, hb2, hob⟩ := hob
      rw [hb] at hb2
      cases hb2
      by_cases hn : n = 0
      · exact .inl (by simp [hn])
      rcases hob with ⟨h, rfl⟩ | ⟨b, o, arr, T, rfl, hh, h0, hle, hsz, h⟩
      · omega
      · exact .inr ⟨b, _, hA b o rfl (by omega), fun k x hk => let ⟨us, h1, h2, h3⟩ := h _ x (hget k x hk); ⟨us, h1, h2, fun j u hj => by
          have := h3 j u hj
          rw [Nat.add_mul] at this
          simp [World.cell?, hh, ← this, Nat.add_assoc]⟩⟩
    · obtain ⟨A2, c2, hb2, hle2, hob⟩ := hob
      simp at hb2
      rw [hb] at hb2
      cases hb2
      by_cases hn : n = 0
      · exact .inl (by simp [hn])
      rcases hob with h | ⟨b, o, rfl, _, h⟩
      · subst h; simp at hle; omega
      · exact .inr ⟨b, _, hA b o rfl (by omega), fun k x hk => let ⟨us, h1, h2, h3⟩ := h _ x (hget k x hk); ⟨us, h1, h2, fun j u hj => by
          have := h3 j u hj
          rw [Nat.add_mul] at this
          rw [← this]
          simp [Nat.add_assoc]⟩⟩
    · obtain ⟨A2, c2, hb2, hob⟩ := objFull (kd' := kds mem) (al' := al) hob
      rw [hb] at hb2
      cases hb2
      by_cases hn : n = 0
      · exact .inl (by simp [hn])
      rcases hob with ⟨h, rfl⟩ | ⟨b, o, arr, T, rfl, hh, h0, hle, hsz, h⟩
      · omega
      · exact .inr ⟨b, _, hA b o rfl (by omega), fun k x hk => let ⟨us, h1, h2, h3⟩ := h _ x (hget k x hk); ⟨us, h1, h2, fun j u hj => by
          have := h3 j u hj
          rw [Nat.add_mul] at this
          simp [World.cell?, hh, ← this, Nat.add_assoc]⟩⟩
end
end Go.Sk

/- append, copy and make, as the evaluator's. -/
set_option linter.unusedSimpArgs false
set_option linter.unusedVariables false
set_option linter.unusedSectionVars false
namespace Go.Sk
open Go
section
variable {P : Program} {X : Fr} {env : List V} {mem : List Obj} {al : Nat → Prop} {tmps : Array Value} {w : World} {β : Nat → Value} {ok : Nat → Prop}

theorem Cells.replicate {te : Ty} {x : El te} {us : List Value} (h : RepE w ok te x us) : ∀ n, Cells w ok te (List.replicate n x) (List.replicate n us).flatten
  | 0 => ⟨by simp, by simp, by simp⟩
  | n + 1 => by
    rw [List.replicate_succ, List.replicate_succ, List.flatten_cons]
    exact Cells.append (xs := [x]) ⟨by simp [h.length], fun k y hk => by
      cases k with
      | zero => simp at hk; subst hk; exact ⟨us, h.length, h, fun j u hj => by simpa using hj⟩
      | succ k => simp at hk, h.one⟩ (Cells.replicate h n)


/-- what is asked of an element type -/
structure EI (P : Program) (t : TypeId) (te : Ty) (bytes sz : Nat) : Prop where
  ex : ∃ (e : RowT te) (i : TypeInfo) (z : Value), P.underlying t = some (.slice e.1) ∧ P.info? e.1 = some i ∧ i.zero = some z ∧ i.size = sz ∧ i.bytes = bytes ∧ z.cells.size = sz ∧ ∀ (w : World) (ok : Nat → Prop), ∃ zx : El te, RepE w ok te zx z.cells.toList
  size : te.size = sz
  b0 : 0 < bytes
  s0 : 0 < sz
theorem elemInfo_spec {t : TypeId} {te : Ty} {bytes sz : Nat} (h : elemInfo P t = some (te, bytes, sz)) : EI P t te bytes sz := by
  unfold elemInfo at h
  split at h
  · rename_i e hu
    split at h
    · rename_i te' b' sz' z hte hb hs hz
      cases hc : (te'.size == sz' && decide (0 < b') && decide (0 < sz') && z.length == sz' && (decAll te' z).isSome && rowTB te' e) with
      | false => rw [hc] at h; cases h
      | true =>
        rw [hc] at h
        simp at h hc
        obtain ⟨rfl, rfl, rfl⟩ := h
        obtain ⟨i, zv, hi, hz', hl⟩ := zero_rel (X := { w0 := default, ok0 := fun _ => False, own0 := fun _ => False, rd := fun _ => False, gh := undef }) (w := default) (ok := fun _ => False) (β := fun _ => undef) (al := fun _ => False) hz
        have h1 : i.size = sz' := by unfold sizeAt at hs; rw [hi] at hs; simpa using hs
        have h2 : i.bytes = b' := by unfold bytesAt at hb; rw [hi] at hb; simpa using hb
        have h3 : zv.cells.size = sz' := by have := (hl fun _ => .none).1; simp at this; omega
        refine ⟨⟨⟨e, rowTB_spec hc.2⟩, i, zv, hu, hi, hz', h1, h2, h3, fun w ok => ?_⟩, hc.1.1.1.1.1, hc.1.1.1.1.2, hc.1.1.1.2⟩
        obtain ⟨zx, hzx⟩ := Option.isSome_iff_exists.1 hc.1.2
        obtain ⟨i2, zv2, hi2, hz2, hl2⟩ := zero_rel (X := { w0 := default, ok0 := fun _ => False, own0 := fun _ => False, rd := fun _ => False, gh := undef }) (w := w) (ok := ok) (β := fun _ => undef) (al := fun _ => False) hz
        rw [hi] at hi2
        cases hi2
        rw [hz'] at hz2
        cases hz2
        exact ⟨zx, rel_decAll hzx (hl2 fun _ => .none)⟩
    · cases h
  · cases h

/-- the arm that grows -/
theorem grow_core (h : Inv X env mem al tmps w β ok) {te : Ty} {bytes sz : Nat} {t : TypeId} (hE : EI P t te bytes sz) {id : Nat} (hid : ¬ al id) {sLen cp : Nat} {olds : List Value} {xs ys : List (El te)} {news : List Value}
    (hx : Cells w ok te xs olds) (hxl : xs.length = sLen) (hy : Cells w ok te ys news) (hcap : sLen + ys.length ≤ cp) (hpos : 0 < sLen + ys.length) {e : RowT te} {z : Value} (hzs : z.cells.size = sz) (hzr : ∀ (w : World) (ok : Nat → Prop), ∃ zx : El te, RepE w ok te zx z.cells.toList) (D : Nat → Bool) (hD : ∀ i, D i = true → al i)
    {mem' : List Obj} (hm : ∀ i, mem'.getD i .dead = if i = id then .row te (xs ++ ys) else if D i = true then .dead else mem.getD i .dead) :
    ∃ β', Inv X env mem' (fun i => al i ∨ i = id) tmps (w.drew.alloc (.cells ((olds ++ news).toArray ++ Builtin.zeroCells z.cells (cp - (sLen + ys.length))) e)) β' ok ∧
      RelC (w.drew.alloc (.cells ((olds ++ news).toArray ++ Builtin.zeroCells z.cells (cp - (sLen + ys.length))) e)) ok X.rd β' (kds mem') (fun i => al i ∨ i = id) (.osl id) (.slice (some ⟨w.heap.size, 0, none⟩) (sLen + ys.length) cp) := by
  have hcs := hx.append hy
  have hlen : (olds ++ news).length = (sLen + ys.length) * te.size := by rw [hcs.length, List.length_append, hxl]
  obtain ⟨hN, hR⟩ := h.newRow (id := id) hid (t := te) (xs := xs ++ ys) (arr := (olds ++ news).toArray ++ Builtin.zeroCells z.cells (cp - (sLen + ys.length))) (c := cp) (T := e) (w1 := w.drew) rfl rfl rfl rfl D hD hcs
    (fun j u hj => by
      have : j < (olds ++ news).length := by
        rcases Nat.lt_or_ge j (olds ++ news).length with h | h
        · exact h
        · rw [List.getElem?_eq_none h] at hj; cases hj
      rw [Array.getElem?_append, if_pos (by simpa using this)]
      simpa using hj)
    (by rw [List.length_append, hxl]; exact hcap) (by omega)
    (by
      have hz2 : (Builtin.zeroCells z.cells (cp - (sLen + ys.length))).size = (cp - (sLen + ys.length)) * te.size := by simp [Builtin.zeroCells, hzs, hE.size]
      rw [Array.size_append, hz2, List.size_toArray, hlen, ← Nat.add_mul]
      exact Nat.mul_le_mul_right _ (by omega))
    (by
      obtain ⟨zx, hzx⟩ := hzr w ok
      have hzl : (Builtin.zeroCells z.cells (cp - (sLen + ys.length))).toList = (List.replicate (cp - (sLen + ys.length)) z.cells.toList).flatten := range_zero z.cells _ _ rfl
      refine ⟨List.replicate (cp - (sLen + ys.length)) zx, by simp [hxl]; omega, fun k x hk => ?_⟩
      obtain ⟨us, a1, a2, a3⟩ := (Cells.replicate hzx _).at_ k x hk
      refine ⟨us, a1, a2, fun j u hj => ?_⟩
      have h3 := a3 j u hj
      rw [← hzl] at h3
      have hge : ((olds ++ news).toArray).size ≤ ((xs ++ ys).length + k) * te.size + j := by
        rw [List.size_toArray, hlen, List.length_append, hxl, Nat.add_mul (sLen + ys.length)]
        omega
      rw [Array.getElem?_append_right hge, ← Array.getElem?_toList]
      rw [← h3]
      congr 1
      rw [List.size_toArray, hlen, List.length_append, hxl, Nat.add_mul (sLen + ys.length)]
      omega) hm
  have hl2 : (xs ++ ys).length = sLen + ys.length := by rw [List.length_append, hxl]
  rw [hl2] at hN hR
  exact ⟨_, hN, hR⟩

theorem grow_left (h : Inv X env mem al tmps w β ok) {t tx ty : TypeId} {te : Ty} {bytes sz : Nat} (hE : EI P t te bytes sz) {id : Nat} (hid : ¬ al id) {base : Option Addr} {sLen sCap : Nat} {olds : List Value} {xs ys : List (El te)} {news : List Value}
    (hold : (Builtin.firstCells sz sLen (.slice base sLen sCap)).run P w.drew = .ok olds.toArray w.drew) (hx : Cells w ok te xs olds) (hxl : xs.length = sLen) {x : Value} (hs : Src P sz tx x ys.length news w) (hy : Cells w ok te ys news)
    (hg : sCap < sLen + ys.length) (hb : (sLen + ys.length) * bytes ≤ 140737488355328) (D : Nat → Bool) (hD : ∀ i, D i = true → al i)
    {mem' : List Obj} (hm : ∀ i, mem'.getD i .dead = if i = id then .row te (xs ++ ys) else if D i = true then .dead else mem.getD i .dead) :
    ∃ v w' β', (Builtin.append_ #[t, tx] ty #[.slice base sLen sCap, x]).run P w = .ok v w' ∧ Inv X env mem' (fun i => al i ∨ i = id) tmps w' β' ok ∧ RelC w' ok X.rd β' (kds mem') (fun i => al i ∨ i = id) (.osl id) v := by
  obtain ⟨e, i, z, hu, hi, hz, hsz, hby, hzs, hzr⟩ := hE.ex
  subst hsz
  subst hby
  have hmul : sLen + ys.length ≤ (sLen + ys.length) * i.bytes := Nat.le_mul_of_pos_right _ hE.b0
  have h63 : ((sLen + ys.length : Nat) : Int) ≤ 9223372036854775807 := by omega
  have hfit : Builtin.nextslicecap (sLen + ys.length) sCap * i.bytes ≤ 281474976710656 := by
    have h1 := Nat.mul_le_mul_right i.bytes (nextslicecap_le hg)
    rw [Nat.mul_assoc] at h1
    omega
  have hrun := run_append_grow_src (P := P) w t tx ty e i z hu hi hz base sLen sCap olds hold x ys.length news hs hg h63 hfit
  have hcap := grownCap_ge w (sLen + ys.length) sCap e
  generalize hc : grownCap w (sLen + ys.length) sCap e = cp at hrun hcap
  obtain ⟨β', hN, hR⟩ := grow_core (tmps := tmps) (env := env) h hE hid (cp := cp) hx hxl hy hcap (by omega) (e := e) hzs hzr D hD hm
  exact ⟨_, _, β', hrun, hN, hR⟩

/-- the cells of a row that is owned or read, as the head of an append's result -/
theorem olds_of {te : Ty} {xs : List (El te)} {A : Option Addr} {c sz : Nat} (hs : te.size = sz)
    (h : xs = [] ∨ ∃ b o, A = some ⟨b, o, none⟩ ∧ ∀ k x, xs[k]? = some x → ∃ us, us.length = te.size ∧ RepE w ok te x us ∧ ∀ j u, us[j]? = some u → w.cell? ⟨b, o + k * te.size + j, none⟩ = some u) :
    ∃ olds, (Builtin.firstCells sz xs.length (.slice A xs.length c)).run P w.drew = .ok olds.toArray w.drew ∧ Cells w ok te xs olds := by
  subst hs
  have hbase : ∀ {A : Option Addr}, xs = [] → ∃ olds, (Builtin.firstCells te.size xs.length (.slice A xs.length c)).run P w.drew = .ok olds.toArray w.drew ∧ Cells w ok te xs olds := by
    intro A hx
    subst hx
    refine ⟨[], ?_, ⟨by simp, by simp, by simp⟩⟩
    cases A with
    | none => rfl
    | some a => exact run_firstCells_some (P := P) w.drew te.size 0 a 0 c [] (by simp) (by simp)
  rcases h with h | ⟨b, o, rfl, h⟩
  · exact hbase h
  · obtain ⟨news, h1, h2, h3, h4⟩ := cells_of_rows (R := fun x us => RepE w ok te x us) xs (fun i => w.cell? ⟨b, o + i, none⟩) (fun k x hk => by
      obtain ⟨us, a1, a2, a3⟩ := h k x hk
      exact ⟨us, a1, a2, fun j u hj => by have := a3 j u hj; rwa [Nat.add_assoc] at this⟩)
    exact ⟨news, run_firstCells_some (P := P) w.drew te.size xs.length ⟨b, o, none⟩ xs.length c news h1 (fun j u hj => by rw [addr_add]; exact h2 j u hj), ⟨h1, h3, fun u hu => by
      obtain ⟨x, us, hr, hm⟩ := h4 u hu
      exact hr.one u hm⟩⟩
end
end Go.Sk

/- append and copy: all arms. -/
set_option linter.unusedSimpArgs false
set_option linter.unusedVariables false
set_option linter.unusedSectionVars false
namespace Go.Sk
open Go
section
variable {P : Program} {X : Fr} {env : List V} {mem : List Obj} {al : Nat → Prop} {tmps : Array Value} {w : World} {β : Nat → Value} {ok : Nat → Prop}

theorem append_in (h : Inv X env mem al tmps w β ok) {t tx ty e : TypeId} {i : TypeInfo} (hu : P.underlying t = some (.slice e)) (hi : P.info? e = some i) {t' : Ty} {sz : Nat} (hsz : i.size = sz) (hst : t'.size = sz) {ys : List (El t')} {news : List Value} {bv : Value} (hs : Src P sz tx bv ys.length news w) (hy : Cells w ok t' ys news)
    {k of n : Nat} {xs : List (El t')} (hm : mem.getD k .dead = .row t' xs) (hon : of + n ≤ xs.length) (hin : of + n + ys.length ≤ xs.length) {A A' : Option Addr} {n' cp : Nat} (hβ : β k = .slice A n' cp) (hcp : of + n ≤ cp) (hA : ∀ b q, A = some ⟨b, q, none⟩ → cp ≠ of → A' = some ⟨b, q + of * t'.size, none⟩) :
    ∃ w', (Builtin.append_ #[t, tx] ty #[.slice A' n (cp - of), bv]).run P w = .ok (.slice A' (n + ys.length) (cp - of)) w' ∧ Inv X env (wr mem k (.row t' (xs.take (of + n) ++ ys ++ xs.drop (of + n + ys.length)))) al tmps w' β ok ∧ of + (n + ys.length) ≤ cp := by
  have hob := h.obj k
  rw [hm] at hob
  obtain ⟨A2, c2, hb2, hob⟩ := hob
  rw [hβ] at hb2
  cases hb2
  have hlen : (xs.take (of + n) ++ ys ++ xs.drop (of + n + ys.length)).length = xs.length := by simp; omega
  by_cases hy0 : ys = []
  · subst hy0
    have hn0 : news = [] := List.eq_nil_of_length_eq_zero (by rw [hy.length]; simp)
    subst hn0
    have hrun := run_append_nothing w t tx ty e i hu hi A' n (cp - of) (by omega) bv (by rw [hsz]; exact hs)
    have hsame : xs.take (of + n) ++ [] ++ xs.drop (of + n + 0) = xs := by simp
    have hI : Inv X env (wr mem k (.row t' (xs.take (of + n) ++ [] ++ xs.drop (of + n + 0)))) al tmps w β ok := (h.congr (fun j => by
      rw [wr_getD]
      split
      · rename_i e; rw [e, hm, hsame]
      · rfl)).2
    exact ⟨w, hrun, hI, by simpa using hcp⟩
  · have hpos : 0 < ys.length := by
      cases ys with
      | nil => exact absurd rfl hy0
      | cons _ _ => simp
    rcases hob with ⟨rfl, rfl⟩ | ⟨bb, o, arr, T, rfl, hh, h0, hle, hsz2, hrows⟩
    · simp only [List.length_nil] at hin; omega
    · have hAe := hA bb o rfl (by omega)
      subst hAe
      have hmul : (of + n + ys.length) * t'.size ≤ cp * t'.size := Nat.mul_le_mul_right _ (by omega)
      have hnl : o + of * t'.size + n * i.size + news.length ≤ arr.size := by
        rw [hy.length, hsz, ← hst]
        rw [Nat.add_mul, Nat.add_mul] at hmul
        omega
      have hrun := run_append_room_src (P := P) w t tx ty e i hu hi bb (o + of * t'.size) n (cp - of) bv ys.length news (by rw [hsz]; exact hs) (by omega)
        (fun j hj => by simp [World.cell?, hh]; omega) (fun j hj => by simp [World.frozen?, hh])
      have hI := h.rowWrite (ys := xs.take (of + n) ++ ys ++ xs.drop (of + n + ys.length)) hm hlen hβ (by omega) hh hnl (by
        have := Nat.mul_le_mul_right t'.size hin
        rw [Nat.add_mul, Nat.add_mul] at this
        rw [hy.length, hsz, ← hst]
        omega) fun arr' hs1 hs2 hs3 j x hj => by
        rw [spl_get hin] at hj
        have e6 : o + of * t'.size + n * i.size = o + (of + n) * t'.size := by rw [hsz, ← hst, Nat.add_mul]; omega
        by_cases h1 : j < of + n
        · rw [if_pos h1] at hj
          obtain ⟨us, a1, a2, a3⟩ := hrows j x hj
          refine ⟨us, a1, a2, fun q u hq => ?_⟩
          have hq' : q < t'.size := by
            rcases Nat.lt_or_ge q us.length with h | h
            · omega
            · rw [List.getElem?_eq_none h] at hq; cases hq
          rw [hs2 _ (.inl (by
            have : (j + 1) * t'.size ≤ (of + n) * t'.size := Nat.mul_le_mul_right _ h1
            rw [Nat.add_mul, Nat.one_mul] at this
            omega))]
          exact a3 q u hq
        · rw [if_neg h1] at hj
          by_cases h2 : j < of + n + ys.length
          · rw [if_pos h2] at hj
            obtain ⟨us, a1, a2, a3⟩ := hy.at_ _ x hj
            refine ⟨us, a1, a2, fun q u hq => ?_⟩
            have := hs3 _ u (a3 q u hq)
            rw [← this]
            congr 1
            rw [e6]
            have h3 : (of + n) * t'.size + (j - (of + n)) * t'.size = j * t'.size := by rw [← Nat.add_mul]; congr 1; omega
            omega
          · rw [if_neg h2] at hj
            obtain ⟨us, a1, a2, a3⟩ := hrows j x hj
            refine ⟨us, a1, a2, fun q u hq => ?_⟩
            rw [hs2 _ (.inr (by
              have : (of + n + ys.length) * t'.size ≤ j * t'.size := Nat.mul_le_mul_right _ (by omega)
              rw [hy.length, e6]
              rw [Nat.add_mul] at this
              omega))]
            exact a3 q u hq
      exact ⟨_, hrun, hI, by omega⟩

theorem ovw_fin {mem' : List Obj} {w' : World} (hI : Inv X env mem' al tmps w' β ok) {k of m : Nat} {t' : Ty} (hk : kds mem' k = .row t') (hkal : al k) (id : Nat) {A A' : Option Addr} {n' cp : Nat} (hβ : β k = .slice A n' cp) (hle : of + m ≤ cp) (hA : ∀ b q, A = some ⟨b, q, none⟩ → cp ≠ of → A' = some ⟨b, q + of * t'.size, none⟩) :
    ∃ β' ok', Inv X env mem' (fun i => al i ∨ i = id) tmps w' β' ok' ∧ RelV w' ok' X.rd β' (kds mem') (fun i => al i ∨ i = id) (.one (.ovw k of m)) (.slice A' m (cp - of)) := by
  have key := hI.update (mem' := mem') (al' := fun i => al i ∨ i = id) (β' := β) (ok' := ok) (fun _ => False) (fun _ h => .inl h) (fun _ h => h.elim) (fun _ _ => rfl) (fun _ _ => rfl) (fun _ h => h.elim) (fun _ h => h.elim) (fun b _ _ => rfl) (Nat.le_refl _)
    (fun _ h => h) (fun _ h => .inl h) (fun _ _ h => h.elim) (fun _ _ h => h.elim) (fun _ _ _ h => h.elim) (fun _ _ h => h.elim) rfl rfl rfl
  refine ⟨β, ok, key.2, .one _ _ (.ovw _ _ _ _ (.inl hkal) (fun t2 h2 => ?_) rfl)⟩
  rw [hk] at h2
  cases h2
  exact ⟨A, _, cp, A', hβ, rfl, hle, hA⟩

theorem append_sound (h : Inv X env mem al tmps w β ok) {t tx ty : TypeId} {id : Nat} (hid : ¬ al id) {a b : CV} {av bv : Value} (ha : RelC w ok X.rd β (kds mem) al a av) (hb : RelC w ok X.rd β (kds mem) al b bv) {out : Out}
    (hr : (appendC P t tx (.one a) (.one b) id).run1 mem = some out) :
    ∃ v w' β' ok', (Builtin.append_ #[t, tx] ty #[av, bv]).run P w = .ok v w' ∧ Inv X env (wrs mem out.ws) (fun i => al i ∨ i = id) tmps w' β' ok' ∧ RelV w' ok' X.rd β' (kds (wrs mem out.ws)) (fun i => al i ∨ i = id) out.v v := by
  unfold appendC at hr
  split at hr
  · rename_i te bytes sz a' b' hE e1 e2
    cases e1
    cases e2
    have hE := elemInfo_spec hE
    cases hok : srcOk P tx b with
    | false => rw [hok] at hr; cases hr
    | true =>
    rw [hok] at hr
    obtain ⟨ys, hys, hr⟩ := bind_run1 (x := srcElems te b) hr
    obtain ⟨news, hs, hy⟩ := rel_src h.obj hE.size hok hys hb
    obtain ⟨e, i, z, hu, hi, hz, hsz, hby, hzs, hzr⟩ := hE.ex
    cases a with
    | nils t' =>
      cases ha
      obtain ⟨hg, hr⟩ := guard_run1 hr
      obtain rfl := ret_run1 hr
      simp only [decide_eq_true_eq] at hg
      have e3 : wrs mem [(id, Obj.row te ys)] = wr mem id (.row te ys) := rfl
      by_cases hy0 : ys = []
      · subst hy0
        have hn0 : news = [] := List.eq_nil_of_length_eq_zero (by rw [hy.length]; simp)
        subst hn0
        obtain ⟨hN, hR⟩ := h.newRow0 (t := te) (A := none) hid (fun _ => false) (by simp) (mem' := wr mem id (.row te [])) (fun i => by rw [wr_getD]; simp)
        exact ⟨_, _, _, _, run_append_nothing w t tx ty e i hu hi none 0 0 (Nat.le_refl _) bv (by rw [hsz]; exact hs), hN, .one _ _ hR⟩
      · have hpos : 0 < ys.length := by
          cases ys with
          | nil => exact absurd rfl hy0
          | cons _ _ => simp
        obtain ⟨v, w', β', hrun, hN, hR⟩ := grow_left (ty := ty) h hE hid (base := none) (sLen := 0) (sCap := 0) (olds := []) (xs := []) (ys := ys) rfl ⟨by simp, by simp, by simp⟩ rfl hs hy (by omega) (by simpa using hg) (fun _ => false) (by simp)
          (mem' := wr mem id (.row te ys)) (fun i => by rw [wr_getD]; simp)
        exact ⟨v, w', β', ok, hrun, hN, .one _ _ hR⟩
    | clp t' xs0 =>
      obtain ⟨xs, hx, hr2⟩ := bind_run1 hr
      clear hr
      rw [Rd.run1_ofOption] at hx
      obtain ⟨e0, hx⟩ := decS_spec hx
      subst e0
      replace hx : xs = xs0 := hx
      subst hx
      obtain ⟨A, rfl, hrow⟩ : ∃ A, av = .slice A xs.length xs.length ∧ RowAt w ok (RepE w ok t') t'.size A xs := by cases ha; exact ⟨_, rfl, by assumption⟩
      obtain ⟨hg, hr2⟩ := guard_run1 hr2
      obtain rfl := ret_run1 hr2
      simp only [Bool.and_eq_true, Bool.or_eq_true, decide_eq_true_eq] at hg
      by_cases hy0 : ys = []
      · subst hy0
        have hx0 : xs = [] := List.eq_nil_of_length_eq_zero (by rcases hg.1 with h | h <;> simp_all)
        subst hx0
        have hn0 : news = [] := List.eq_nil_of_length_eq_zero (by rw [hy.length]; simp)
        subst hn0
        obtain ⟨hN, hR⟩ := h.newRow0 (t := t') (A := A) hid (fun _ => false) (by simp) (mem' := wr mem id (.row t' [])) (fun i => by rw [wr_getD]; simp)
        exact ⟨_, _, _, _, run_append_nothing w t tx ty e i hu hi A 0 0 (Nat.le_refl _) bv (by rw [hsz]; exact hs), hN, .one _ _ hR⟩
      · have hpos : 0 < ys.length := by
          cases ys with
          | nil => exact absurd rfl hy0
          | cons _ _ => simp
        obtain ⟨olds, hold, hox⟩ := olds_of (P := P) (w := w) (ok := ok) (A := A) (c := xs.length) (xs := xs) hE.size (by
          rcases hrow with h | ⟨b, o, e, _, h⟩
          · exact .inl h
          · exact .inr ⟨b, o, e, h⟩)
        obtain ⟨v, w', β', hrun, hN, hR⟩ := grow_left (ty := ty) h hE hid (base := A) (sLen := xs.length) (sCap := xs.length) (olds := olds) (xs := xs) (ys := ys) hold hox rfl hs hy (by omega) hg.2 (fun _ => false) (by simp)
          (mem' := wr mem id (.row t' (xs ++ ys))) (fun i => by rw [wr_getD]; simp)
        exact ⟨v, w', β', ok, hrun, hN, .one _ _ hR⟩
    | osl k =>
      simp only [Rd.run1_get] at hr
      have hob := h.obj k
      cases hm : mem.getD k .dead <;> rw [hm] at hr hob <;> try (cases hr; done)
      rename_i t' xs0
      obtain ⟨xs, hx, hr2⟩ := bind_run1 hr
      clear hr
      rw [Rd.run1_ofOption] at hx
      obtain ⟨e0, hx⟩ := decS_spec hx
      subst e0
      replace hx : xs = xs0 := hx
      subst hx
      obtain ⟨hg, hr2⟩ := guard_run1 hr2
      obtain rfl := ret_run1 hr2
      simp only [decide_eq_true_eq] at hg
      have hkal : al k := h.len k (by rw [hm]; simp [Obj.kd])
      have hkid : k ≠ id := fun e => hid (e ▸ hkal)
      have hm' : ∀ j, (wrs mem [(k, .dead), (id, .row t' (xs ++ ys))]).getD j .dead = if j = id then .row t' (xs ++ ys) else if j = k then .dead else mem.getD j .dead := fun j => by
        show (wr (wr mem k .dead) id _).getD j .dead = _
        rw [wr_getD, wr_getD]
      have hm2 : ∀ j, (wrs mem [(k, .dead), (id, .row t' (xs ++ ys))]).getD j .dead = if j = id then .row t' (xs ++ ys) else if (j == k) = true then .dead else mem.getD j .dead := fun j => by
        rw [hm' j]; simp
      rw [ha.osl_inv (by show (mem.getD k .dead).kd ≠ _; rw [hm]; simp [Obj.kd])]
      obtain ⟨A, c, hβ, hob⟩ := hob
      rw [hβ]
      by_cases hroom : xs.length + ys.length ≤ c
      · rcases hob with ⟨rfl, rfl⟩ | ⟨bb, o, arr, T, rfl, hh, h0, hle, hsz2, hrows⟩
        · have hy0 : ys = [] := List.eq_nil_of_length_eq_zero (by simp at hroom; simp [hroom])
          subst hy0
          have hn0 : news = [] := List.eq_nil_of_length_eq_zero (by rw [hy.length]; simp)
          subst hn0
          obtain ⟨hN, hR⟩ := h.newRow0 (t := t') (A := A) hid (fun j => j == k) (fun j hj => by simp at hj; rw [hj]; exact hkal) (mem' := wrs mem [(k, .dead), (id, .row t' ([] ++ []))]) (fun j => by rw [hm2 j]; rfl)
          exact ⟨_, _, _, _, run_append_nothing w t tx ty e i hu hi A 0 0 (Nat.le_refl _) bv (by rw [hsz]; exact hs), hN, .one _ _ hR⟩
        · have hst := hE.size
          have hnl : o + xs.length * i.size + news.length ≤ arr.size := by
            rw [hy.length, hsz, ← hst, Nat.add_assoc, ← Nat.add_mul]
            have := Nat.mul_le_mul_right t'.size hroom
            omega
          have hrun := run_append_room_src (P := P) w t tx ty e i hu hi bb o xs.length c bv ys.length news (by rw [hsz]; exact hs) hroom
            (fun j hj => by simp [World.cell?, hh]; omega) (fun j hj => by simp [World.frozen?, hh])
          obtain ⟨arr', g1, g2, g3, g4⟩ := heap_setCells bb news (o + xs.length * i.size) w hh hnl
          obtain ⟨f1, f2, f3, f4⟩ := setCells_facts bb news (o + xs.length * i.size) w
          -- the cells of both
          obtain ⟨olds, k1, k2, k3, k4⟩ := cells_of_rows (R := fun x us => RepE w ok t' x us) xs (fun j => arr[o + j]?) (fun k x hk => by
            obtain ⟨us, a1, a2, a3⟩ := hrows k x hk
            exact ⟨us, a1, a2, fun j u hj => by have := a3 j u hj; rwa [Nat.add_assoc] at this⟩)
          have hcs : Cells w ok t' xs olds := ⟨k1, k3, fun u hu => by
            obtain ⟨x, us, hr, hm⟩ := k4 u hu
            exact hr.one u hm⟩
          obtain ⟨hN, hR⟩ := h.moveRow (arr := arr) hid hm hβ (ys := xs ++ ys) (c' := c) (by omega) (by rw [List.length_append]; exact hroom) (by omega)
            (fun b' hb' => heap_setCells_other bb news _ w b' hb') g1 f1 f2 f3 f4 (o' := o) (hcs.append hy) (fun j u hj => by
              by_cases hlt : j < olds.length
              · rw [List.getElem?_append_left hlt] at hj
                rw [g3 _ (.inl (by rw [k1, hst] at hlt; rw [hsz]; omega))]
                exact k2 j u hj
              · rw [List.getElem?_append_right (by omega)] at hj
                have := g4 _ u hj
                rw [k1, hst] at this
                rw [k1, hst] at hlt
                rw [← this, hsz]; congr 1; omega) (by omega)
            (hrows.tail (m := (xs ++ ys).length) (q := o + xs.length * i.size + news.length) (by rw [List.length_append]; exact hroom) (by rw [hy.length, List.length_append, hsz, ← hst, Nat.add_mul]; omega) fun j hj => g3 _ (.inr hj)) hm'
          rw [List.length_append] at hN hR
          exact ⟨_, _, _, _, hrun, hN, .one _ _ hR⟩
      · obtain ⟨olds, hold, hox⟩ := olds_of (P := P) (w := w) (ok := ok) (A := A) (c := c) (xs := xs) hE.size (by
          rcases hob with ⟨h, _⟩ | ⟨b, o, arr, T, rfl, hh, h0, hle, hsz, h⟩
          · exact .inl h
          · exact .inr ⟨b, o, rfl, fun k x hk => let ⟨us, h1, h2, h3⟩ := h k x hk; ⟨us, h1, h2, fun j u hj => by simp [World.cell?, hh, h3 j u hj]⟩⟩)
        obtain ⟨v, w', β', hrun, hN, hR⟩ := grow_left (ty := ty) h hE hid (base := A) (sLen := xs.length) (sCap := c) (olds := olds) (xs := xs) (ys := ys) (by
            have : ∀ c1 c2, Builtin.firstCells sz xs.length (.slice A xs.length c1) = Builtin.firstCells sz xs.length (.slice A xs.length c2) := fun c1 c2 => by cases A <;> rfl
            exact hold) hox rfl hs hy (by omega) hg (fun j => j == k) (fun j hj => by simp at hj; rw [hj]; exact hkal)
          hm2
        exact ⟨v, w', β', ok, hrun, hN, .one _ _ hR⟩
    | ovw k of n =>
      simp only [Rd.run1_get] at hr
      have hob := h.obj k
      cases hm : mem.getD k .dead <;> rw [hm] at hr hob <;> try (cases hr; done)
      rename_i t' xs0
      obtain ⟨xs, hx, hr2⟩ := bind_run1 hr
      clear hr
      rw [Rd.run1_ofOption] at hx
      obtain ⟨e0, hx⟩ := decS_spec hx
      subst e0
      replace hx : xs = xs0 := hx
      subst hx
      obtain ⟨hon, hr2⟩ := guard_run1 hr2
      replace hon : of + n ≤ xs.length := by simpa using hon
      have hkal : al k := h.len k (by rw [hm]; simp [Obj.kd])
      have hkid : k ≠ id := fun e => hid (e ▸ hkal)
      have hkk : kds mem k = .row t' := by show (mem.getD k .dead).kd = _; rw [hm]; rfl
      obtain ⟨A, n', cp, A', hβ, rfl, hcp, hA⟩ : ∃ A n' c A', β k = .slice A n' c ∧ av = .slice A' n (c - of) ∧ of + n ≤ c ∧ (∀ b q, A = some ⟨b, q, none⟩ → c ≠ of → A' = some ⟨b, q + of * t'.size, none⟩) := by
        cases ha with
        | ovw _ _ _ _ hi hp h1 => exact hp t' hkk
      obtain ⟨A2, c2, hb2, hob⟩ := hob
      rw [hβ] at hb2
      cases hb2
      have hst := hE.size
      rw [Rd.run1_split] at hr2
      cases hin : decide (of + n + ys.length ≤ xs.length) with
      | true =>
        rw [hin] at hr2
        obtain rfl := ret_run1 (m := mem) hr2
        replace hin : of + n + ys.length ≤ xs.length := by simpa using hin
        show ∃ v w' β' ok', _ ∧ Inv X env (wr mem k _) _ _ _ _ _ ∧ RelV _ _ _ _ (kds (wr mem k _)) _ _ _
        obtain ⟨w', hrun, hI, hle⟩ := append_in (ty := ty) h hu hi hsz hst hs hy hm hon hin hβ hcp hA
        obtain ⟨β', ok', h1, h2⟩ := ovw_fin hI (k := k) (by show ((wr mem k _).getD k .dead).kd = _; rw [wr_getD, if_pos rfl]; rfl) hkal id hβ hle hA
        exact ⟨_, w', β', ok', hrun, h1, h2⟩
      | false =>
        rw [hin] at hr2
        obtain ⟨hg, hr2⟩ := guard_run1 (m := mem) hr2
        obtain rfl := ret_run1 hr2
        simp only [decide_eq_true_eq] at hg
        have hin' : ¬ of + n + ys.length ≤ xs.length := by simpa using hin
        have hpos : 0 < ys.length := by omega
        have hm' : ∀ j, (wrs mem [(k, .dead), (id, .row t' ((xs.drop of).take n ++ ys))]).getD j .dead = if j = id then .row t' ((xs.drop of).take n ++ ys) else if j = k then .dead else mem.getD j .dead := fun j => by
          show (wr (wr mem k .dead) id _).getD j .dead = _
          rw [wr_getD, wr_getD]
        have hxl : ((xs.drop of).take n).length = n := by simp; omega
        have hget : ∀ q x, ((xs.drop of).take n)[q]? = some x → xs[of + q]? = some x := fun q x hk => by
          rw [List.getElem?_take] at hk
          split at hk
          · rwa [List.getElem?_drop] at hk
          · cases hk
        by_cases hroom : n + ys.length ≤ cp - of
        · rcases hob with ⟨rfl, rfl⟩ | ⟨bb, o, arr, T, rfl, hh, h0, hle, hsz2, hrows⟩
          · omega
          · have hAe := hA bb o rfl (by omega)
            subst hAe
            have hmul : (of + n + ys.length) * t'.size ≤ cp * t'.size := Nat.mul_le_mul_right _ (by omega)
            have hnl : o + of * t'.size + n * i.size + news.length ≤ arr.size := by
              rw [hy.length, hsz, ← hst]
              rw [Nat.add_mul, Nat.add_mul] at hmul
              omega
            have hrun := run_append_room_src (P := P) w t tx ty e i hu hi bb (o + of * t'.size) n (cp - of) bv ys.length news (by rw [hsz]; exact hs) hroom
              (fun j hj => by simp [World.cell?, hh]; omega) (fun j hj => by simp [World.frozen?, hh])
            obtain ⟨arr', g1, g2, g3, g4⟩ := heap_setCells bb news (o + of * t'.size + n * i.size) w hh hnl
            obtain ⟨f1, f2, f3, f4⟩ := setCells_facts bb news (o + of * t'.size + n * i.size) w
            obtain ⟨olds, k1, k2, k3, k4⟩ := cells_of_rows (R := fun x us => RepE w ok t' x us) ((xs.drop of).take n) (fun j => arr[o + of * t'.size + j]?) (fun q x hk => by
              obtain ⟨us, a1, a2, a3⟩ := hrows _ x (hget q x hk)
              exact ⟨us, a1, a2, fun j u hj => by have := a3 j u hj; rw [Nat.add_mul] at this; rw [← this]; congr 1; omega⟩)
            have hcs : Cells w ok t' ((xs.drop of).take n) olds := ⟨k1, k3, fun u hu => by
              obtain ⟨x, us, hr, hm⟩ := k4 u hu
              exact hr.one u hm⟩
            have hol : olds.length = n * t'.size := by rw [k1, hxl]
            obtain ⟨hN, hR⟩ := h.moveRow (arr := arr) hid hm hβ (ys := (xs.drop of).take n ++ ys) (c' := cp - of) (by omega) (by rw [List.length_append, hxl]; exact hroom) (by omega)
              (fun b' hb' => heap_setCells_other bb news _ w b' hb') g1 f1 f2 f3 f4 (o' := o + of * t'.size) (hcs.append hy) (fun j u hj => by
                by_cases hlt : j < olds.length
                · rw [List.getElem?_append_left hlt] at hj
                  rw [g3 _ (.inl (by rw [hol] at hlt; rw [hsz, ← hst]; omega))]
                  exact k2 j u hj
                · rw [List.getElem?_append_right (by omega)] at hj
                  have := g4 _ u hj
                  rw [hol] at this hlt
                  rw [← this, hsz, ← hst]; congr 1; omega) (by rw [g2, Nat.sub_mul]; have := Nat.mul_le_mul_right t'.size (show of ≤ cp by omega); omega)
              (by
                obtain ⟨sp, s1, s2⟩ := hrows.tail (m := of + n + ys.length) (q := o + of * t'.size + n * i.size + news.length) (arr' := arr') (by omega) (by rw [hy.length, hsz, ← hst, Nat.add_mul, Nat.add_mul]; omega) fun j hj => g3 _ (.inr hj)
                have hyl : ((xs.drop of).take n ++ ys).length = n + ys.length := by rw [List.length_append, hxl]
                refine ⟨sp, by rw [hyl]; omega, fun k x hk => ?_⟩
                obtain ⟨us, a1, a2, a3⟩ := s2 k x hk
                refine ⟨us, a1, a2, fun j u hj => ?_⟩
                have := a3 j u hj
                rw [← this, hyl]
                congr 1
                have e1 : (of + n + ys.length + k) * t'.size = of * t'.size + (n + ys.length + k) * t'.size := by rw [← Nat.add_mul]; congr 1; omega
                omega) hm'
            rw [List.length_append, hxl] at hN hR
            exact ⟨_, _, _, _, hrun, hN, .one _ _ hR⟩
        · obtain ⟨olds, hold, hox⟩ := olds_of (P := P) (w := w) (ok := ok) (A := A') (c := cp - of) (xs := (xs.drop of).take n) hE.size (by
            by_cases hn : n = 0
            · exact .inl (by simp [hn])
            rcases hob with ⟨rfl, rfl⟩ | ⟨b, o, arr, T, rfl, hh, h0, hle, hsz, h⟩
            · omega
            · exact .inr ⟨b, _, hA b o rfl (by omega), fun q x hk => let ⟨us, h1, h2, h3⟩ := h _ x (hget q x hk); ⟨us, h1, h2, fun j u hj => by
                have := h3 j u hj
                rw [Nat.add_mul] at this
                simp [World.cell?, hh, ← this, Nat.add_assoc]⟩⟩)
          rw [hxl] at hold
          obtain ⟨v, w', β', hrun, hN, hR⟩ := grow_left (ty := ty) h hE hid (base := A') (sLen := n) (sCap := cp - of) (olds := olds) (xs := (xs.drop of).take n) (ys := ys) hold hox hxl hs hy (by omega) hg (fun j => j == k) (fun j hj => by simp at hj; rw [hj]; exact hkal)
            (mem' := wrs mem [(k, .dead), (id, .row t' ((xs.drop of).take n ++ ys))]) (fun j => by rw [hm' j]; simp)
          exact ⟨v, w', β', ok, hrun, hN, .one _ _ hR⟩
      rename_i t' xs0
      obtain ⟨xs, hx, hr2⟩ := bind_run1 hr
      clear hr
      rw [Rd.run1_ofOption] at hx
      obtain ⟨e0, hx⟩ := decS_spec hx
      subst e0
      replace hx : xs = xs0 := hx
      subst hx
      obtain ⟨hon, hr2⟩ := guard_run1 hr2
      replace hon : of + n ≤ xs.length := by simpa using hon
      have hkal : al k := h.len k (by rw [hm]; simp [Obj.kd])
      have hkk : kds mem k = .row t' := by show (mem.getD k .dead).kd = _; rw [hm]; rfl
      obtain ⟨A, n', cp, A', hβ, rfl, hcp, hA⟩ : ∃ A n' c A', β k = .slice A n' c ∧ av = .slice A' n (c - of) ∧ of + n ≤ c ∧ (∀ b q, A = some ⟨b, q, none⟩ → c ≠ of → A' = some ⟨b, q + of * t'.size, none⟩) := by
        cases ha with
        | ovw _ _ _ _ hi hp h1 => exact hp t' hkk
      obtain ⟨A2, hb2, hob⟩ := hob
      rw [hβ] at hb2
      cases hb2
      have hst := hE.size
      rw [Rd.run1_split] at hr2
      cases hin : decide (of + n + ys.length ≤ xs.length) with
      | true =>
        rw [hin] at hr2
        obtain rfl := ret_run1 (m := mem) hr2
        replace hin : of + n + ys.length ≤ xs.length := by simpa using hin
        show ∃ v w' β' ok', _ ∧ Inv X env (wr mem k _) _ _ _ _ _ ∧ RelV _ _ _ _ (kds (wr mem k _)) _ _ _
        have hlen : (xs.take (of + n) ++ ys ++ xs.drop (of + n + ys.length)).length = xs.length := by simp; omega
        obtain ⟨w', hrun, hI, hle⟩ := append_in (ty := ty) (h.toRow hm) hu hi hsz hst hs hy (by rw [wr_getD, if_pos rfl]) hon hin hβ hcp hA
        have hI2 := hI.toFull (k := k) (by rw [wr_getD, if_pos rfl]) (by rw [hlen]; exact hβ)
        have hI3 : Inv X env (wr mem k (.full t' (xs.take (of + n) ++ ys ++ xs.drop (of + n + ys.length)))) al tmps w' β ok := (hI2.congr (fun j => by
          rw [wr_getD, wr_getD, wr_getD, wr_getD]
          split <;> rfl)).2
        obtain ⟨β', ok', h1, h2⟩ := ovw_fin hI3 (k := k) (by show ((wr mem k _).getD k .dead).kd = _; rw [wr_getD, if_pos rfl]; rfl) hkal id hβ hle hA
        exact ⟨_, w', β', ok', hrun, h1, h2⟩
      | false =>
        rw [hin] at hr2
        obtain ⟨hg, hr2⟩ := guard_run1 (m := mem) hr2
        obtain rfl := ret_run1 hr2
        simp only [decide_eq_true_eq] at hg
        have hin' : ¬ of + n + ys.length ≤ xs.length := by simpa using hin
        have hxl : ((xs.drop of).take n).length = n := by simp; omega
        have hget : ∀ q x, ((xs.drop of).take n)[q]? = some x → xs[of + q]? = some x := fun q x hk => by
          rw [List.getElem?_take] at hk
          split at hk
          · rwa [List.getElem?_drop] at hk
          · cases hk
        obtain ⟨olds, hold, hox⟩ := olds_of (P := P) (w := w) (ok := ok) (A := A') (c := xs.length - of) (xs := (xs.drop of).take n) hE.size (by
          by_cases hn : n = 0
          · exact .inl (by simp [hn])
          rcases hob with rfl | ⟨b, o, arr, T, rfl, hh, hsz, h⟩
          · simp at hon; omega
          · exact .inr ⟨b, _, hA b o rfl (by omega), fun q x hk => let ⟨us, h1, h2, h3⟩ := h _ x (hget q x hk); ⟨us, h1, h2, fun j u hj => by
              have := h3 j u hj
              rw [Nat.add_mul] at this
              simp [World.cell?, hh, ← this, Nat.add_assoc]⟩⟩)
        rw [hxl] at hold
        obtain ⟨v, w', β', hrun, hN, hR⟩ := grow_left (ty := ty) h hE hid (base := A') (sLen := n) (sCap := xs.length - of) (olds := olds) (xs := (xs.drop of).take n) (ys := ys) hold hox hxl hs hy (by omega) hg (fun _ => false) (by simp)
          (mem' := wr mem id (.row t' ((xs.drop of).take n ++ ys))) (fun j => by rw [wr_getD]; simp)
        exact ⟨v, w', β', ok, hrun, hN, .one _ _ hR⟩
    | _ => cases hr
  · cases hr
end
end Go.Sk

/- Maps, as the evaluator's. -/
set_option linter.unusedSimpArgs false
set_option linter.unusedVariables false
set_option linter.unusedSectionVars false
namespace Go.Sk
open Go Go.MapKept

/-! ### keys -/
def KeyD (d : TypeDesc) (kt : Ty) : Prop := ∀ (w : World) (ok : Nat → Prop) (x : El kt) (v : Value), RepE w ok kt x [v] → IsKey d v
theorem eqE_iff {kt : Ty} (hk : isKeyT kt = true) {w w' : World} {ok ok' : Nat → Prop} {x y : El kt} {a b : Value} (hx : RepE w ok kt x [a]) (hy : RepE w' ok' kt y [b]) : eqE kt x y = true ↔ a = b := by
  cases kt <;> simp [isKeyT] at hk
  · simp [RepE] at hx hy; subst hx; subst hy; simp [eqE]
  · simp [RepE] at hx hy; subst hx; subst hy; simp [eqE]
  · simp [RepE] at hx hy; subst hx; subst hy
    rw [Value.string.injEq]
    exact bytes_beq x y
theorem rep_key {kt : Ty} (hk : isKeyT kt = true) {w : World} {ok : Nat → Prop} {x y : El kt} {a : Value} (hx : RepE w ok kt x [a]) (hy : RepE w ok kt y [a]) : x = y := by
  cases kt <;> simp [isKeyT] at hk
  · simp [RepE] at hx hy; subst hx; simpa using hy
  · simp [RepE] at hx hy; subst hx; simpa using hy
  · simp [RepE] at hx hy; subst hx; simpa using hy

theorem mapInfo_spec {P : Program} {t : TypeId} {I : MapInfo} (h : mapInfo P t = some I) : P.underlying t = some (.map I.key I.elem) ∧ isKeyT I.kt = true ∧ (∃ d, P.underlying I.key = some d ∧ KeyD d I.kt) ∧
    zeroShape P I.elem I.g = true ∧ ∃ z, zeroCells P I.elem = some z ∧ decAll I.vt z = some I.zero := by
  unfold mapInfo at h
  split at h
  · rename_i k e hu
    split at h
    · rename_i kt vt g z h1 h2 h3 h4 h5
      cases hc : (isKeyT kt && zeroShape P e g) with
      | false => rw [hc] at h; cases h
      | true =>
        rw [hc] at h
        simp only [cond] at h
        simp only [Bool.and_eq_true] at hc
        split at h
        · rename_i x hx
          simp at h
          subst h
          refine ⟨hu, hc.1, ?_, hc.2, z, h5, hx⟩
          have hk : isKeyT kt = true := hc.1
          unfold aggAt at h2
          unfold tyAt at h1
          unfold tyOf at h1
          cases hd : P.underlying k with
          | none => rw [hd] at h2; cases h2
          | some d =>
            rw [hd] at h1 h2
            refine ⟨d, rfl, fun w ok x v hv => ?_⟩
            cases d <;> simp at h1 h2 <;> first
              | (subst h1; rw [show _ = _ from hv] ; trivial)
              | (subst h1; simp [RepE] at hv; subst hv; simp [IsKey])
              | (obtain ⟨a, _, rfl⟩ := h1; simp [isKeyT] at hk)
        · cases h
    · cases h
  · cases h

/-! ### entries -/
section
variable {kt vt : Ty} {w : World} {ok : Nat → Prop}
theorem find_rel (hk : isKeyT kt = true) {d : TypeDesc} (hd : KeyD d kt) {x : El kt} {kv : Value} (hx : RepE w ok kt x [kv]) : ∀ (es : List (El kt × El vt)) (l : List MapEntry) (n : Nat), l.length = es.length →
    (∀ (k : Nat) p e, es[k]? = some p → l[k]? = some e → RepE w ok kt p.1 [e.key]) →
    (Instr.findNow d kv l n = some none ∧ mapFind _ _ es x = none ∧ mapPos _ _ es x = es.length ∧ (∀ v, mapSet _ _ es x v = es ++ [(x, v)]) ∧ mapDel _ _ es x = es) ∨
    ∃ j e p, Instr.findNow d kv l n = some (some (n + j, e.val)) ∧ l[j]? = some e ∧ es[j]? = some p ∧ e.key = kv ∧ mapFind _ _ es x = some p.2 ∧ mapPos _ _ es x = j ∧ (∀ v, mapSet _ _ es x v = es.set j (p.1, v)) ∧ mapDel _ _ es x = es.eraseIdx j
  | [], [], n, _, _ => .inl ⟨rfl, rfl, rfl, fun _ => rfl, rfl⟩
  | [], _ :: _, n, h, _ => by simp at h
  | _ :: _, [], n, h, _ => by simp at h
  | p :: es, e :: l, n, h, hr => by
    have hp := hr 0 p e rfl rfl
    obtain ⟨r, h1, h2⟩ := sameNow_of_keys (hd w ok x kv hx) (hd w ok p.1 e.key hp)
    have h3 := eqE_iff hk hx hp
    cases r with
    | true =>
      have hkv : kv = e.key := h2.1 rfl
      have he : eqE kt x p.1 = true := h3.2 hkv
      refine .inr ⟨0, e, p, ?_, rfl, rfl, hkv.symm, ?_, ?_, fun v => ?_, ?_⟩
      · simp [Instr.findNow, h1]
      · simp [mapFind, he]
      · simp [mapPos, he]
      · simp [mapSet, he]
      · simp [mapDel, he]
    | false =>
      have he : eqE kt x p.1 = false := by
        cases hb : eqE kt x p.1 with
        | false => rfl
        | true => have := h2.2 (h3.1 hb); cases this
      rcases find_rel hk hd hx es l (n + 1) (by simpa using h) (fun k q e hk he => hr (k + 1) q e (by simpa using hk) (by simpa using he)) with ⟨a1, a2, a3, a4, a5⟩ | ⟨j, e', p', a1, a2, a3, a4, a5, a6, a7, a8⟩
      · refine .inl ⟨by simp [Instr.findNow, h1, a1], by simp [mapFind, he, a2], by simp [mapPos, he, a3], fun v => by simp [mapSet, he, a4], by simp [mapDel, he, a5]⟩
      · refine .inr ⟨j + 1, e', p', ?_, by simpa using a2, by simpa using a3, a4, by simp [mapFind, he, a5], by simp [mapPos, he, a6], fun v => by simp [mapSet, he, a7], by simp [mapDel, he, a8]⟩
        simp [Instr.findNow, h1, a1]
        omega
theorem mapPut_set : ∀ (es : List (El kt × El vt)) (n : Nat) (v : El vt) (p : El kt × El vt), es[n]? = some p → mapPut _ _ es n v = es.set n (p.1, v)
  | [], n, v, p, h => by simp at h
  | q :: r, 0, v, p, h => by simp at h; subst h; rfl
  | q :: r, n + 1, v, p, h => by simp [mapPut, mapPut_set r n v p (by simpa using h)]

variable {g tidy : Bool} {es : List (El kt × El vt)} {arr : Array MapEntry} {clock : Nat}
theorem MapIs.push (h : MapIs w ok kt vt g es tidy arr clock) {x : El kt} {kv : Value} (hx : RepE w ok kt x [kv]) {v : El vt} {us : List Value} {val : Value} (hv : RepE w ok vt v us) (hs : ValIs g val us) :
    MapIs w ok kt vt g (es ++ [(x, v)]) tidy (arr.push { key := kv, val, born := clock }) (clock + 1) := by
  obtain ⟨h1, h2, h3, hB⟩ := h
  refine ⟨by simp [h1], fun k p e hp he => ?_, fun ht => ?_, ?_⟩
  · rw [Array.getElem?_push] at he
    by_cases hlt : k < es.length
    · rw [List.getElem?_append_left hlt] at hp
      rw [if_neg (by omega)] at he
      exact h2 k p e hp he
    · rw [List.getElem?_append_right (by omega)] at hp
      have hk : k = es.length := by
        rcases Nat.lt_or_ge k (es.length + 1) with h | h
        · omega
        · rw [List.getElem?_eq_none (by simp; omega)] at hp; cases hp
      subst hk
      simp at hp
      subst hp
      rw [if_pos h1.symm] at he
      simp at he
      subst he
      exact ⟨hx, us, hv, hs⟩
  · obtain ⟨h4, h5⟩ := h3 ht
    refine ⟨by simp [h4], fun k e he => ?_⟩
    rw [Array.getElem?_push] at he
    split at he
    · rename_i hk
      simp at he
      subst he
      simp [hk, h4, h1]
    · exact h5 k e he
  · refine ⟨fun x hx => ?_, ?_⟩
    · simp only [Array.toList_push, List.mem_append, List.mem_singleton] at hx
      rcases hx with hx | rfl
      · have := hB.1 x hx; omega
      · exact Nat.lt_succ_self _
    · simp only [Array.toList_push, List.map_append, List.map_cons, List.map_nil]
      refine List.nodup_append.2 ⟨hB.2, by simp, fun a ha b hb e => ?_⟩
      obtain ⟨x, hx, rfl⟩ := List.mem_map.1 ha
      simp only [List.mem_singleton] at hb
      have := hB.1 x hx
      omega
theorem MapIs.set (h : MapIs w ok kt vt g es tidy arr clock) {j : Nat} {e : MapEntry} {p : El kt × El vt} (he : arr[j]? = some e) (hp : es[j]? = some p) {v : El vt} {us : List Value} {val : Value} (hv : RepE w ok vt v us) (hs : ValIs g val us) (f : MapEntry → MapEntry)
    (hf : f e = { e with val := val }) : MapIs w ok kt vt g (es.set j (p.1, v)) tidy (arr.modify j f) clock := by
  obtain ⟨h1, h2, h3, hB⟩ := h
  refine ⟨by simp [h1], fun k q e' hq he' => ?_, fun ht => ⟨by simp [(h3 ht).1], fun k e' he' => ?_⟩, ?_⟩
  · rw [Array.getElem?_modify] at he'
    rw [List.getElem?_set] at hq
    by_cases hjk : j = k
    · subst hjk
      rw [if_pos rfl, he] at he'
      have hjl : j < es.length := (List.getElem?_eq_some_iff.1 hp).1
      rw [if_pos rfl, if_pos hjl] at hq
      simp at he' hq
      subst he'
      subst hq
      rw [hf]
      exact ⟨(h2 j p e hp he).1, us, hv, hs⟩
    · rw [if_neg hjk] at he' hq
      exact h2 k q e' hq he'
  · rw [Array.getElem?_modify] at he'
    by_cases hjk : j = k
    · subst hjk
      rw [if_pos rfl, he] at he'
      simp at he'
      subst he'
      rw [hf]
      exact (h3 ht).2 j e he
    · rw [if_neg hjk] at he'
      exact (h3 ht).2 k e' he'
  · have hmap : (arr.modify j f).toList.map (·.born) = arr.toList.map (·.born) := by
      apply List.ext_getElem?
      intro k
      simp only [List.getElem?_map, Array.getElem?_toList, Array.getElem?_modify]
      by_cases hjk : j = k
      · subst hjk
        rw [if_pos rfl, he]
        simp [hf]
      · rw [if_neg hjk]
    refine ⟨fun x hx => ?_, by rw [hmap]; exact hB.2⟩
    have : x.born ∈ (arr.modify j f).toList.map (·.born) := List.mem_map.2 ⟨x, hx, rfl⟩
    rw [hmap] at this
    obtain ⟨y, hy, hyx⟩ := List.mem_map.1 this
    rw [← hyx]
    exact hB.1 y hy
theorem MapIs.erase (h : MapIs w ok kt vt g es tidy arr clock) {j : Nat} (hj : j < es.length) : MapIs w ok kt vt g (es.eraseIdx j) false (arr.eraseIdxIfInBounds j) clock := by
  obtain ⟨h1, h2, h3, hB⟩ := h
  have e : (arr.eraseIdxIfInBounds j).toList = arr.toList.eraseIdx j := by
    unfold Array.eraseIdxIfInBounds
    rw [dif_pos (by omega)]
    simp
  refine ⟨?_, fun k p e' hp he => ?_, (fun h => by cases h), ?_⟩
  · rw [← Array.length_toList, e, List.length_eraseIdx, List.length_eraseIdx]
    simp [h1]
  · rw [← Array.getElem?_toList, e, List.getElem?_eraseIdx] at he
    rw [List.getElem?_eraseIdx] at hp
    split at he
    · rename_i hk
      rw [if_pos hk] at hp
      exact h2 k p e' hp (by simpa using he)
    · rename_i hk
      rw [if_neg hk] at hp
      exact h2 _ p e' hp (by simpa using he)
  · have hsub : (arr.eraseIdxIfInBounds j).toList.Sublist arr.toList := by rw [e]; exact List.eraseIdx_sublist _ _
    exact ⟨fun x hx => hB.1 x (hsub.subset hx), hB.2.sublist (hsub.map _)⟩
end

theorem decM_spec {kt vt kt' vt' : Ty} {es : List (El kt' × El vt')} {es' : List (El kt × El vt)} (h : decM kt vt kt' vt' es = some es') : ∃ (e : kt' = kt) (g : vt' = vt), es' = e ▸ g ▸ es := by
  unfold decM at h
  split at h
  · rename_i e g _ _
    simp at h
    exact ⟨e, g, h.symm⟩
  · cases h

section
variable {P : Program} {X : Fr} {env : List V} {mem : List Obj} {al : Nat → Prop} {tmps : Array Value} {w : World} {β : Nat → Value} {ok : Nat → Prop}

theorem zero_val {e : TypeId} {g : Bool} (hg : zeroShape P e g = true) {z : List CV} (hz : zeroCells P e = some z) {vt : Ty} {x : El vt} (hx : decAll vt z = some x) (w : World) (ok : Nat → Prop) :
    ∃ zv us, (zeroValue e).run P w = .ok zv w ∧ RepE w ok vt x us ∧ ValIs g zv us := by
  obtain ⟨i, zv, hi, hz', hl⟩ := zero_rel (X := ⟨w, fun _ => False, fun _ => False, fun _ => False, undef⟩) (w := w) (ok := ok) (β := fun _ => undef) (al := fun _ => False) hz
  refine ⟨zv, zv.cells.toList, by simp [zeroValue, typeInfo, hi, hz'], rel_decAll hx (hl fun _ => .none), ?_⟩
  unfold zeroShape at hg
  rw [hi] at hg
  simp only [Option.bind_some, hz'] at hg
  cases zv <;> simp at hg <;> subst hg <;> simp [ValIs, Value.cells]

theorem valIs_rel {g : Bool} {val : Value} {us : List Value} (hs : ValIs g val us) {vt : Ty} {x : El vt} (hv : RepE w ok vt x us) {v : V} {m : List Obj} (hm : (mkV g (enc vt x)).run1 m = some v) {kd : Nat → KD} : RelV w ok X.rd β kd al v val := by
  have hl : RelL w ok X.rd β kd al (enc vt x) us := rel_enc hv
  unfold mkV at hm
  split at hm
  · obtain rfl := ret_run1 hm
    have : val = .agg us.toArray := hs
    rw [this]
    exact .ofL hl
  · rename_i c hc
    obtain rfl := ret_run1 hm
    have : us = [val] := hs
    subst this
    rw [hc] at hl
    exact .one _ _ (hl.2 0 _ _ rfl rfl)
  · cases hm
theorem valIs_of {g : Bool} {v : V} (h1 : v.isOne = !g) (h2 : v.isBad = false) {val : Value} {kd : Nat → KD} (hv : RelV w ok X.rd β kd al v val) : ValIs g val val.cells.toList := by
  cases hv with
  | one c _ h =>
    cases g <;> simp [V.isOne] at h1
    have : val.oneCell' = true := h.one fun e => by subst e; simp [V.isBad] at h2
    show val.cells.toList = [val]
    cases val <;> first | rfl | simp [Value.oneCell'] at this
  | agg cs us hl h =>
    cases g <;> simp [V.isOne] at h1
    show _ = _
    simp [Value.cells]
  | tup => simp [V.isBad] at h2

/-- the map and the key -/
theorem withMap_spec {I : MapInfo} {m k : V} {f : Nat → List (El I.kt × El I.vt) → Bool → El I.kt → Rd Out} {out : Out} (h : Inv X env mem al tmps w β ok) {mv kv : Value} (hm : RelV w ok X.rd β (kds mem) al m mv) (hk : RelV w ok X.rd β (kds mem) al k kv)
    (hr : (withMap I m k f).run1 mem = some out) : ∃ i es tidy key r arr clock, (f i es tidy key).run1 mem = some out ∧ mem.getD i .dead = .map I.kt I.vt I.g es tidy ∧ al i ∧ β i = .map (some r) ∧ mv = .map (some r) ∧ w.heap[r]? = some (.map arr clock) ∧ MapIs w ok I.kt I.vt I.g es tidy arr clock ∧
      RepE w ok I.kt key [kv] := by
  unfold withMap at hr
  split at hr
  · rename_i i
    simp only [Rd.run1_get] at hr
    have hob := h.obj i
    cases hmi : mem.getD i .dead <;> rw [hmi] at hr hob <;> first | (cases hr; done) | skip
    rename_i kt' vt' g' es0 tidy
    have hr2 : (bif g' == I.g then (match decM I.kt I.vt kt' vt' es0, keyOfV I.kt k with
      | some es, some key => f i es tidy key
      | _, _ => .fail) else .fail).run1 mem = some out := hr
    clear hr
    obtain ⟨hg, hr⟩ := bif_fail hr2
    simp only [beq_iff_eq] at hg
    subst hg
    split at hr
    · rename_i es key he hkey
      obtain ⟨e1, e2, e3⟩ := decM_spec he
      subst e1
      subst e2
      simp only at e3
      subst e3
      have hal := h.len i (by rw [hmi]; simp [Obj.kd])
      obtain ⟨r, arr, clock, h1, h2, h3⟩ := hob
      have hmv := hm.one'.osl_inv (by show (mem.getD i .dead).kd ≠ _; rw [hmi]; simp [Obj.kd])
      refine ⟨i, _, tidy, key, r, arr, clock, hr, hmi, hal, h1, by rw [hmv, h1], h2, h3, ?_⟩
      unfold keyOfV at hkey
      split at hkey
      · exact rel_decAll hkey (.cons hk.one' .nil)
      · cases hkey
    · cases hr
  · cases hr

theorem mapis_find {I : MapInfo} {t : TypeId} (hI : mapInfo P t = some I) {es : List (El I.kt × El I.vt)} {tidy : Bool} {arr : Array MapEntry} {clock : Nat} (hm : MapIs w ok I.kt I.vt I.g es tidy arr clock) {key : El I.kt} {kv : Value} (hk : RepE w ok I.kt key [kv]) :
    ∃ d, P.underlying I.key = some d ∧ IsKey d kv ∧ ((Instr.findNow d kv arr.toList 0 = some none ∧ mapFind _ _ es key = none ∧ mapPos _ _ es key = es.length ∧ (∀ v, mapSet _ _ es key v = es ++ [(key, v)]) ∧ mapDel _ _ es key = es) ∨
    ∃ j e p, Instr.findNow d kv arr.toList 0 = some (some (j, e.val)) ∧ arr[j]? = some e ∧ es[j]? = some p ∧ e.key = kv ∧ mapFind _ _ es key = some p.2 ∧ mapPos _ _ es key = j ∧ (∀ v, mapSet _ _ es key v = es.set j (p.1, v)) ∧ mapDel _ _ es key = es.eraseIdx j) := by
  obtain ⟨hu, hkt, ⟨d, hd, hkd⟩, _⟩ := mapInfo_spec hI
  refine ⟨d, hd, hkd w ok key kv hk, ?_⟩
  have := find_rel (vt := I.vt) hkt hkd hk es arr.toList 0 (by simp [hm.1]) (fun k p e h1 h2 => (hm.2.1 k p e h1 (by simpa using h2)).1)
  rcases this with h | ⟨j, e, p, a1, a2, a3⟩
  · exact .inl h
  · exact .inr ⟨j, e, p, by rw [Nat.zero_add] at a1; exact a1, by simpa using a2, a3⟩

variable (ds : List Deferred) (C : Cfg) (h : Inv X env mem al tmps w β ok) {out : Out} {ty : TypeId} {id : Nat} {dst : Option Tmp} {pos : String} {aft : Array Edge} {gd : Option (Nat × Bool)}
include h

theorem Left.value' {s : Sem Value} {new : Nat → Prop} {cv : Value} {w' : World} {β' : Nat → Value} {ok' : Nat → Prop} {out : Out} (hs : s.run P w = .ok cv w') (hI : Inv X env (wrs mem out.ws) al tmps w' β' ok')
    (hR : RelV w' ok' X.rd β' (kds (wrs mem out.ws)) al out.v cv) : Left P X env mem al tmps w new (do pure (.value (← s))) out := by
  have key := hI.update (mem' := wrs mem out.ws) (al' := fun i => al i ∨ new i) (β' := β') (ok' := ok') (fun _ => False) (fun _ h => .inl h) (fun _ h => h.elim) (fun _ _ => rfl) (fun _ _ => rfl) (fun _ h => h.elim) (fun _ h => h.elim) (fun b _ _ => rfl) (Nat.le_refl _)
    (fun _ h => h) (fun _ h => .inl h) (fun _ _ h => h.elim) (fun _ _ h => h.elim) (fun _ _ _ h => h.elim) (fun _ _ h => h.elim) rfl rfl rfl
  exact .value hs key.2 (hR.mono key.1)

theorem left_lookup {t : TypeId} {m k : Operand} {c : Bool} {new : Nat → Prop} (hr : (semOp P C (.lookup t m k c) ty (⟨env, mem⟩ : St).ev id).run1 mem = some out) : Left P X env mem al tmps w new (execOp (⟨tmps, ds⟩ : Act).eval ⟨dst, .lookup t m k c, ty, pos, aft, gd⟩) out := by
  simp only [semOp, lookupC] at hr
  split at hr
  · rename_i I hI
    obtain ⟨i, es, tidy, key, r, arr, clock, hr, hmi, hal, hb, hmv, hh, hM, hkr⟩ := withMap_spec h (h.ev ds m none) (h.ev ds k (mapKeyTy P t)) hr
    obtain ⟨v, hv, hr⟩ := bind_run1 hr
    obtain rfl := ret_run1 hr
    obtain ⟨hu, hkt, _, hzs, z, hz, hzx⟩ := mapInfo_spec hI
    obtain ⟨d, hd, hik, hf⟩ := mapis_find hI hM hkr
    obtain ⟨zv, uz, hzr, hzrep, hzv⟩ := zero_val hzs hz hzx w ok
    have hs : execOp (⟨tmps, ds⟩ : Act).eval ⟨dst, .lookup t m k c, ty, pos, aft, gd⟩ = (do pure (.value (← (Instr.lookup t ((⟨tmps, ds⟩ : Act).eval m) ((⟨tmps, ds⟩ : Act).eval k) c))) : Sem Next) := rfl
    rw [hs]
    rcases hf with ⟨f1, f2, _⟩ | ⟨j, e, p, f1, f2, f3, f4, f5, _⟩
    · rw [f2] at hv ⊢
      have hrel := valIs_rel (X := X) (β := β) (al := al) (kd := kds mem) hzv hzrep hv
      cases c with
      | true =>
        refine .read h (v := .tuple #[zv, .bool false]) ?_ ?_
        · rw [hmv]
          simp [Instr.lookup, run_underlying hu, Go.MapKept.run_getObj_map hh, Go.MapKept.run_checkKey hd hik, Go.MapKept.run_findKey hd f1, hzr]
        · exact .tup [v, .one (.bool false)] [zv, .bool false] rfl fun j v' u hj hu => by
            match j with
            | 0 => simp at hj hu; subst hj; subst hu; exact hrel
            | 1 => simp at hj hu; subst hj; subst hu; exact .one _ _ (.bool _)
            | n + 2 => simp at hj
      | false =>
        refine .read h (v := zv) ?_ hrel
        rw [hmv]
        simp [Instr.lookup, run_underlying hu, Go.MapKept.run_getObj_map hh, Go.MapKept.run_checkKey hd hik, Go.MapKept.run_findKey hd f1, hzr]
    · rw [f5] at hv ⊢
      obtain ⟨_, us, g1, g2⟩ := hM.2.1 j p e f3 f2
      have hrel := valIs_rel (X := X) (β := β) (al := al) (kd := kds mem) g2 g1 hv
      cases c with
      | true =>
        refine .read h (v := .tuple #[e.val, .bool true]) ?_ ?_
        · rw [hmv]
          simp [Instr.lookup, run_underlying hu, Go.MapKept.run_getObj_map hh, Go.MapKept.run_checkKey hd hik, Go.MapKept.run_findKey hd f1]
        · exact .tup [v, .one (.bool true)] [e.val, .bool true] rfl fun j v' u hj hu => by
            match j with
            | 0 => simp at hj hu; subst hj; subst hu; exact hrel
            | 1 => simp at hj hu; subst hj; subst hu; exact .one _ _ (.bool _)
            | n + 2 => simp at hj
      | false =>
        refine .read h (v := e.val) ?_ hrel
        rw [hmv]
        simp [Instr.lookup, run_underlying hu, Go.MapKept.run_getObj_map hh, Go.MapKept.run_checkKey hd hik, Go.MapKept.run_findKey hd f1]
  · cases hr

omit h in
/-- a map's block written -/
theorem _root_.Go.Sk.Inv.mapWrite {mem : List Obj} {ok : Nat → Prop} (h : Inv X env mem al tmps w β ok) {kt vt : Ty} {g tidy tidy' : Bool} {es es' : List (El kt × El vt)} {i r : Nat} (hm : mem.getD i .dead = .map kt vt g es tidy) (hb : β i = .map (some r)) {arr arr' : Array MapEntry} {clock clock' : Nat}
    (hh : w.heap[r]? = some (.map arr clock)) (hM : MapIs w ok kt vt g es' tidy' arr' clock') :
    Ext w ok X.rd β (kds mem) al { w with heap := w.heap.setIfInBounds r (.map arr' clock') } ok β (kds (wr mem i (.map kt vt g es' tidy'))) al ∧ Inv X env (wr mem i (.map kt vt g es' tidy')) al tmps { w with heap := w.heap.setIfInBounds r (.map arr' clock') } β ok := by
  have hown : own mem β i = some r := by unfold own; rw [hm, hb]; rfl
  refine h.modify (i := i) (o' := .map kt vt g es' tidy') (fun j => wr_getD _ _ _ _) (by show _ = (mem.getD i .dead).kd; rw [hm]; rfl) (h.len i (by rw [hm]; simp [Obj.kd])) (fun b hbb => (heap_set hh).2 b fun e => hbb (by rw [hown, e])) (by simp) (fun b hbb => by rw [hb] at hbb; simp [ownB] at hbb; rw [hown, hbb]) (fun ext => ?_) rfl rfl rfl
  exact ⟨r, arr', clock', hb, (heap_set hh).1, hM.mono ext.cells ext.ok⟩

omit h in
theorem elemOf_spec {I : MapInfo} {v : V} {f : El I.vt → List (Nat × Obj) → Rd Out} {val : Value} (h : Inv X env mem al tmps w β ok) (hv : RelV w ok X.rd β (kds mem) al v val) (hr : (elemOf I v f).run1 mem = some out) :
    ∃ x ws ok', (f x ws).run1 mem = some out ∧ Ext w ok X.rd β (kds mem) al w ok' β (kds (wrs mem ws)) al ∧ Inv X env (wrs mem ws) al tmps w β ok' ∧ RepE w ok' I.vt x val.cells.toList ∧ ValIs I.g val val.cells.toList ∧ ∀ j, j ∉ rowsD v.cells → (wrs mem ws).getD j .dead = mem.getD j .dead := by
  unfold elemOf at hr
  cases hb : (v.isBad || !(v.isOne == !I.g)) with
  | true => rw [hb] at hr; cases hr
  | false =>
    rw [hb] at hr
    simp only [cond] at hr
    simp only [Bool.or_eq_false_iff, Bool.not_eq_false', beq_iff_eq] at hb
    obtain ⟨ncs, h1, hr⟩ := bind_run1 hr
    obtain ⟨ws, h2, hr⟩ := bind_run1 hr
    split at hr
    · rename_i x hx
      obtain ⟨ok', ext, hI, hf, hfr, hout⟩ := freeze_sound (rowsD v.cells) mem (Froze.refl _) h h2
      have hl := relV_box hv hb.1
      have hl' := data_rels hI.obj hf h1 hfr (hl.mono ext)
      exact ⟨x, ws, ok', hr, ext, hI, rel_decAll hx hl', valIs_of hb.2 hb.1 hv, hout⟩
    · cases hr

theorem left_mapUpdate' {t : TypeId} {m k v : Operand} {new : Nat → Prop} (hr : (updateC P t ((⟨env, mem⟩ : St).ev m none) ((⟨env, mem⟩ : St).ev k (mapKeyTy P t)) ((⟨env, mem⟩ : St).ev v (mapElemTy P t))).run1 mem = some out) :
    Left P X env mem al tmps w new (do (Instr.mapUpdate t ((⟨tmps, ds⟩ : Act).eval m) ((⟨tmps, ds⟩ : Act).eval k) ((⟨tmps, ds⟩ : Act).eval v)); pure .skip) out := by
  unfold updateC at hr
  split at hr
  · rename_i I hI
    obtain ⟨i, es, tidy, key, r, arr, clock, hr, hmi, hal, hb, hmv, hh, hM, hkr⟩ := withMap_spec h (h.ev ds m none) (h.ev ds k (mapKeyTy P t)) hr
    obtain ⟨x, ws, ok', hr, ext, hI2, hrep, hval, hout⟩ := elemOf_spec h (h.ev ds v (mapElemTy P t)) hr
    cases hn : hasNat (rowsD ((⟨env, mem⟩ : St).ev v (mapElemTy P t)).cells) i with
    | true => rw [hn] at hr; cases hr
    | false =>
    rw [hn] at hr
    obtain rfl := ret_run1 (m := mem) hr
    have hni : i ∉ rowsD ((⟨env, mem⟩ : St).ev v (mapElemTy P t)).cells := fun hi => by
      have : ∀ {l : List Nat} {b : Nat}, b ∈ l → hasNat l b = true := by
        intro l b hb
        induction l with
        | nil => simp at hb
        | cons a r ih =>
          simp only [hasNat, Bool.or_eq_true]
          rcases List.mem_cons.1 hb with rfl | hb
          · exact .inl (Nat.beq_refl _)
          · exact .inr (ih hb)
      rw [this hi] at hn
      cases hn
    obtain ⟨hu, hkt, _, _⟩ := mapInfo_spec hI
    obtain ⟨d, hd, hik, hf⟩ := mapis_find hI hM hkr
    have hM' := hM.mono ext.cells ext.ok
    have hmi' : (wrs mem ws).getD i .dead = .map I.kt I.vt I.g es tidy := by rw [hout i hni, hmi]
    rcases hf with ⟨f1, f2, f3, f4, _⟩ | ⟨j, e, p, f1, f2, f3, f4, f5, f6, f7, _⟩
    · have hw := (hI2.mapWrite hmi' hb hh (hM'.push (RepE.mono ext.cells ext.ok hkr) hrep hval)).2
      refine left_skip (ws := ws ++ [(i, .map I.kt I.vt I.g (mapSet _ _ es key x) tidy)]) h (s := Instr.mapUpdate t ((⟨tmps, ds⟩ : Act).eval m) ((⟨tmps, ds⟩ : Act).eval k) ((⟨tmps, ds⟩ : Act).eval v)) ?_ (by rw [wrs_append, f4]; exact hw)
      rw [hmv]
      simp [Instr.mapUpdate, run_underlying hu, Go.MapKept.run_getObj_map hh, Go.MapKept.run_checkKey hd hik, Go.MapKept.run_findKey hd f1, Go.MapKept.run_setObj_map _ hh]
    · have hw := (hI2.mapWrite hmi' hb hh (hM'.set f2 f3 hrep hval (fun e => { e with key := (⟨tmps, ds⟩ : Act).eval k, val := (⟨tmps, ds⟩ : Act).eval v }) (by rw [← f4]))).2
      refine left_skip (ws := ws ++ [(i, .map I.kt I.vt I.g (mapSet _ _ es key x) tidy)]) h (s := Instr.mapUpdate t ((⟨tmps, ds⟩ : Act).eval m) ((⟨tmps, ds⟩ : Act).eval k) ((⟨tmps, ds⟩ : Act).eval v)) ?_ (by rw [wrs_append, f7]; exact hw)
      rw [hmv]
      simp [Instr.mapUpdate, run_underlying hu, Go.MapKept.run_getObj_map hh, Go.MapKept.run_checkKey hd hik, Go.MapKept.run_findKey hd f1, Go.MapKept.run_setObj_map _ hh, f2, f4, Go.MapKept.run_keyThatStays hik]
  · cases hr
theorem left_mapUpdate {t : TypeId} {m k v : Operand} {new : Nat → Prop} (hr : (semOp P C (.mapUpdate t m k v) ty (⟨env, mem⟩ : St).ev id).run1 mem = some out) : Left P X env mem al tmps w new (execOp (⟨tmps, ds⟩ : Act).eval ⟨dst, .mapUpdate t m k v, ty, pos, aft, gd⟩) out :=
  left_mapUpdate' ds h hr
theorem left_insert {t : TypeId} {m k v : Operand} {new : Nat → Prop} (hr : (semOp P C (.insert t m k v) ty (⟨env, mem⟩ : St).ev id).run1 mem = some out) : Left P X env mem al tmps w new (execOp (⟨tmps, ds⟩ : Act).eval ⟨dst, .insert t m k v, ty, pos, aft, gd⟩) out :=
  left_mapUpdate' ds h hr

theorem left_mapEntry {t : TypeId} {m k : Operand} {new : Nat → Prop} (hr : (semOp P C (.mapEntry t m k) ty (⟨env, mem⟩ : St).ev id).run1 mem = some out) : Left P X env mem al tmps w new (execOp (⟨tmps, ds⟩ : Act).eval ⟨dst, .mapEntry t m k, ty, pos, aft, gd⟩) out := by
  simp only [semOp, entryC] at hr
  split at hr
  · rename_i I hI
    obtain ⟨i, es, tidy, key, r, arr, clock, hr, hmi, hal, hb, hmv, hh, hM, hkr⟩ := withMap_spec h (h.ev ds m none) (h.ev ds k (mapKeyTy P t)) hr
    obtain ⟨ht, hr⟩ := bif_fail hr
    subst ht
    obtain ⟨v, hv, hr⟩ := bind_run1 hr
    obtain rfl := ret_run1 hr
    obtain ⟨hu, hkt, _, hzs, z, hz, hzx⟩ := mapInfo_spec hI
    obtain ⟨d, hd, hik, hf⟩ := mapis_find hI hM hkr
    obtain ⟨zv, uz, hzr, hzrep, hzv⟩ := zero_val hzs hz hzx w ok
    have hs : execOp (⟨tmps, ds⟩ : Act).eval ⟨dst, .mapEntry t m k, ty, pos, aft, gd⟩ = (do pure (.value (← (Instr.mapEntry t ((⟨tmps, ds⟩ : Act).eval m) ((⟨tmps, ds⟩ : Act).eval k)))) : Sem Next) := rfl
    rw [hs]
    have tup : ∀ {w' : World} {ok' : Nat → Prop} {kd' : Nat → KD} {val : Value} {n : Nat}, RelV w' ok' X.rd β kd' al v val → RelV w' ok' X.rd β kd' al (.tup [v, .one (.int .i64 n)]) (.tuple #[val, .int .i64 n]) := fun {w' ok' kd' val n} hrel =>
      .tup [v, .one (.int .i64 n)] [val, .int .i64 n] rfl fun j v' u hj hu => by
        match j with
        | 0 => simp at hj hu; subst hj; subst hu; exact hrel
        | 1 => simp at hj hu; subst hj; subst hu; exact .one _ _ (.int _ _)
        | n + 2 => simp at hj
    rcases hf with ⟨f1, f2, f3, f4, _⟩ | ⟨j, e, p, f1, f2, f3, f4, f5, f6, f7, _⟩
    · rw [f2] at hv ⊢
      obtain ⟨ext, hw⟩ := h.mapWrite hmi hb hh (hM.push hkr hzrep hzv)
      have hclock : clock = mapPos _ _ es key := by rw [f3]; exact (hM.2.2.1 rfl).1
      refine Left.value' h (s := Instr.mapEntry t ((⟨tmps, ds⟩ : Act).eval m) ((⟨tmps, ds⟩ : Act).eval k)) (cv := .tuple #[zv, .int .i64 (mapPos _ _ es key : Nat)]) ?_ (by simp only [Option.getD_none, f4]; exact hw) (by simp only [Option.getD_none, f4]; exact tup (RelV.mono ext (valIs_rel hzv hzrep hv)))
      rw [hmv]
      simp [Instr.mapEntry, run_underlying hu, Go.MapKept.run_getObj_map hh, Go.MapKept.run_checkKey hd hik, Go.MapKept.run_findKey hd f1, Go.MapKept.run_setObj_map _ hh, hzr, goInt, hclock]
    · rw [f5] at hv ⊢
      obtain ⟨_, us, g1, g2⟩ := hM.2.1 j p e f3 f2
      obtain ⟨ext, hw⟩ := h.mapWrite hmi hb hh (hM.set f2 f3 g1 g2 (fun e => { e with key := (⟨tmps, ds⟩ : Act).eval k }) (by rw [← f4]))
      refine Left.value' h (s := Instr.mapEntry t ((⟨tmps, ds⟩ : Act).eval m) ((⟨tmps, ds⟩ : Act).eval k)) (cv := .tuple #[e.val, .int .i64 (mapPos _ _ es key : Nat)]) ?_ (by simp only [Option.getD_some, f7]; exact hw) (by simp only [Option.getD_some, f7]; exact tup (RelV.mono ext (valIs_rel g2 g1 hv)))
      rw [hmv]
      have hborn := (hM.2.2.1 rfl).2 j e f2
      simp [Instr.mapEntry, run_underlying hu, Go.MapKept.run_getObj_map hh, Go.MapKept.run_checkKey hd hik, Go.MapKept.run_findKey hd f1, Go.MapKept.run_setObj_map _ hh, f2, f4, Go.MapKept.run_keyThatStays hik, goInt, hborn, f6]
  · cases hr

theorem left_entryStore {t : TypeId} {m s v : Operand} {new : Nat → Prop} (hr : (semOp P C (.entryStore t m s v) ty (⟨env, mem⟩ : St).ev id).run1 mem = some out) : Left P X env mem al tmps w new (execOp (⟨tmps, ds⟩ : Act).eval ⟨dst, .entryStore t m s v, ty, pos, aft, gd⟩) out := by
  simp only [semOp, entryStoreC] at hr
  split at hr
  · rename_i I i n hI em es'
    simp only [Rd.run1_get] at hr
    have hob := h.obj i
    cases hmi : mem.getD i .dead <;> rw [hmi] at hr hob <;> first | (cases hr; done) | skip
    rename_i kt' vt' g' es0 tidy
    obtain ⟨hg, hr2⟩ := bif_fail (m := mem) (a := out) hr
    clear hr
    simp only [Bool.and_eq_true, beq_iff_eq] at hg
    obtain ⟨hg, ht⟩ := hg
    subst hg
    subst ht
    revert hr2
    cases he : decM I.kt I.vt kt' vt' es0 with
    | none => intro hr; cases hr
    | some es =>
      intro hr
      replace hr : (elemOf I ((⟨env, mem⟩ : St).ev v (mapElemTy P t)) fun x ws =>
        bif hasNat (rowsD ((⟨env, mem⟩ : St).ev v (mapElemTy P t)).cells) i then .fail else
        .guard (decide (0 ≤ n) && decide (n < es.length)) (.ret ⟨.tup [], ws ++ [(i, .map I.kt I.vt I.g (mapPut _ _ es n.toNat x) true)]⟩)).run1 mem = some out := hr
      obtain ⟨e1, e2, e3⟩ := decM_spec he
      subst e1
      subst e2
      simp only at e3
      subst e3
      obtain ⟨x, ws, ok', hr, ext, hI2, hrep, hval, hout⟩ := elemOf_spec h (h.ev ds v (mapElemTy P t)) hr
      cases hn : hasNat (rowsD ((⟨env, mem⟩ : St).ev v (mapElemTy P t)).cells) i with
      | true => rw [hn] at hr; cases hr
      | false =>
      rw [hn] at hr
      simp only [cond] at hr
      obtain ⟨hgd, hr⟩ := guard_run1 hr
      obtain rfl := ret_run1 (m := mem) hr
      simp only [Bool.and_eq_true, decide_eq_true_eq] at hgd
      have hni : i ∉ rowsD ((⟨env, mem⟩ : St).ev v (mapElemTy P t)).cells := fun hi => by
        have : ∀ {l : List Nat} {b : Nat}, b ∈ l → hasNat l b = true := by
          intro l b hb
          induction l with
          | nil => simp at hb
          | cons a r ih =>
            simp only [hasNat, Bool.or_eq_true]
            rcases List.mem_cons.1 hb with rfl | hb
            · exact .inl (Nat.beq_refl _)
            · exact .inr (ih hb)
        rw [this hi] at hn
        cases hn
      obtain ⟨r, arr, clock, h1, h2, hM⟩ := hob
      have hmv := (ev_one ds h em).osl_inv (by show (mem.getD i .dead).kd ≠ _; rw [hmi]; simp [Obj.kd])
      have hsv := ev_int ds h es'
      have hM' := hM.mono ext.cells ext.ok
      have hmi' : (wrs mem ws).getD i .dead = .map I.kt I.vt I.g es true := by rw [hout i hni, hmi]
      have hlt : n.toNat < es.length := by omega
      have hp : es[n.toNat]? = some es[n.toNat] := List.getElem?_eq_getElem hlt
      have hlt2 : n.toNat < arr.size := by rw [hM.1]; exact hlt
      have ha : arr[n.toNat]? = some arr[n.toNat] := Array.getElem?_eq_getElem hlt2
      have hw := (hI2.mapWrite hmi' h1 h2 (hM'.set ha hp hrep hval (fun e => { e with val := (⟨tmps, ds⟩ : Act).eval v }) rfl)).2
      rw [← mapPut_set es n.toNat x _ hp] at hw
      refine left_skip (ws := ws ++ [(i, .map I.kt I.vt I.g (mapPut _ _ es n.toNat x) true)]) h (s := Instr.entryStore t ((⟨tmps, ds⟩ : Act).eval m) ((⟨tmps, ds⟩ : Act).eval s) ((⟨tmps, ds⟩ : Act).eval v)) ?_ (by rw [wrs_append]; exact hw)
      have hfind : arr.findIdx? (fun e => (e.born : Int) == n) = some n.toNat := by
        rw [Array.findIdx?_eq_some_iff_getElem]
        refine ⟨hlt2, ?_, fun k hk => ?_⟩
        · have := (hM.2.2.1 rfl).2 _ _ ha
          simp only [beq_iff_eq, this]
          omega
        · have hk2 : k < arr.size := by omega
          have := (hM.2.2.1 rfl).2 k _ (Array.getElem?_eq_getElem hk2)
          simp only [beq_iff_eq, this]
          omega
      rw [hmv, h1, hsv]
      simp [Instr.entryStore, Go.MapKept.run_getObj_map h2, asInt, asIntOf, hfind, Go.MapKept.run_setObj_map _ h2]
  · cases hr

theorem delete_sound {t tk : TypeId} {m k : V} {mv kv : Value} (hm : RelV w ok X.rd β (kds mem) al m mv) (hk : RelV w ok X.rd β (kds mem) al k kv) (hr : (deleteC P t m k).run1 mem = some out) :
    ∃ w', (Builtin.delete_ #[t, tk] ty #[mv, kv]).run P w = .ok (.tuple #[]) w' ∧ Inv X env (wrs mem out.ws) al tmps w' β ok ∧ out.v = .tup [] := by
  unfold deleteC at hr
  split at hr
  · rename_i I hI
    obtain ⟨i, es, tidy, key, r, arr, clock, hr, hmi, hal, hb, hmv, hh, hM, hkr⟩ := withMap_spec h hm hk hr
    obtain rfl := ret_run1 hr
    obtain ⟨hu, hkt, _, _⟩ := mapInfo_spec hI
    obtain ⟨d, hd, hik, hf⟩ := mapis_find hI hM hkr
    rcases hf with ⟨f1, f2, f3, f4, f5⟩ | ⟨j, e, p, f1, f2, f3, f4, f5, f6, f7, f8⟩
    · have hw := (h.mapWrite hmi hb hh (tidy' := false) (es' := mapDel _ _ es key) (arr' := arr) (clock' := clock) (by rw [f5]; exact ⟨hM.1, hM.2.1, (fun h => by cases h), hM.2.2.2⟩)).2
      refine ⟨_, ?_, hw, rfl⟩
      rw [hmv]
      simp [Builtin.delete_, run_underlying hu, Go.MapKept.run_getObj_map hh, Go.MapKept.run_checkKey hd hik, Go.MapKept.run_findKey hd f1, Go.MapKept.run_setObj_map _ hh]
    · have hw := (h.mapWrite hmi hb hh (tidy' := false) (es' := mapDel _ _ es key) (by rw [f8]; exact hM.erase (List.getElem?_eq_some_iff.1 f3).1)).2
      refine ⟨_, ?_, hw, rfl⟩
      rw [hmv]
      simp [Builtin.delete_, run_underlying hu, Go.MapKept.run_getObj_map hh, Go.MapKept.run_checkKey hd hik, Go.MapKept.run_findKey hd f1, Go.MapKept.run_setObj_map _ hh]
  · cases hr

theorem left_makeMap (hid : ¬ al id) {t : TypeId} {r : Option Operand} (hr : (semOp P C (.makeMap t r) ty (⟨env, mem⟩ : St).ev id).run1 mem = some out) : Left P X env mem al tmps w (fun i => i = id) (execOp (⟨tmps, ds⟩ : Act).eval ⟨dst, .makeMap t r, ty, pos, aft, gd⟩) out := by
  simp only [semOp, makeMapC] at hr
  split at hr
  · rename_i I hI
    obtain ⟨hu, _⟩ := mapInfo_spec hI
    have main : (Instr.makeMap t (r.map (⟨tmps, ds⟩ : Act).eval)).run P w = .ok (.map (some w.heap.size)) (w.alloc (.map #[] 0)) → out = ⟨.one (.osl id), [(id, .map I.kt I.vt I.g [] true)]⟩ → Left P X env mem al tmps w (fun i => i = id) (execOp (⟨tmps, ds⟩ : Act).eval ⟨dst, .makeMap t r, ty, pos, aft, gd⟩) out := by
      intro hrun ho
      subst ho
      have hd : mem.getD id .dead = .dead := by
        cases hm : mem.getD id .dead with
        | dead => rfl
        | _ => exact absurd (h.len id (by rw [hm]; simp [Obj.kd])) hid
      have hkd : kds (wr mem id (.map I.kt I.vt I.g [] true)) id = .map := by show ((wr mem id (.map I.kt I.vt I.g [] true)).getD id .dead).kd = _; rw [wr_getD]; simp [Obj.kd]
      have key := h.update (mem' := wr mem id (.map I.kt I.vt I.g [] true)) (al' := fun i => al i ∨ i = id) (w' := w.alloc (.map #[] 0)) (β' := setβ β id (.map (some w.heap.size))) (ok' := ok) (fun i => i = id) (fun i hi => .inl hi) (fun i hi _ => .inr hi)
        (fun i hi => by rw [wr_getD, if_neg hi]) (fun i hi => setβ_other _ _ hi) (fun i hi ha => absurd (by rw [← hi]; exact ha) hid) (fun i hi hg => by subst hi; rw [hkd] at hg; cases hg)
        (fun b hb _ => heap_alloc_old _ _ hb) (by rw [size_alloc]; omega) (fun _ h => h) (fun _ h => .inl h)
        (fun ext i hi => by
          subst hi
          rw [wr_getD, if_pos rfl]
          exact ⟨w.heap.size, #[], 0, setβ_same _ _ _, heap_alloc_at _ _, rfl, (fun k p e hp => by simp at hp), (fun _ => ⟨rfl, fun k e he => by simp at he⟩), ⟨fun x hx => by simp at hx, by simp⟩⟩)
        (fun i b hi hb => by
          subst hi
          simp only [own, wr_getD, if_true, setβ_same, ownB, Option.some.injEq] at hb
          exact .inr (by omega))
        (fun i j b hi hj _ _ => by rw [hi, hj])
        (fun i b hi hb hok => by
          subst hi
          simp only [own, wr_getD, if_true, setβ_same, ownB, Option.some.injEq] at hb
          have := h.okLt b hok
          omega) rfl rfl rfl
      have hs : execOp (⟨tmps, ds⟩ : Act).eval ⟨dst, .makeMap t r, ty, pos, aft, gd⟩ = (do pure (.value (← (Instr.makeMap t (r.map (⟨tmps, ds⟩ : Act).eval)))) : Sem Next) := rfl
      rw [hs]
      exact .value hrun key.2 (.one _ _ (.osl id _ (.inr rfl) (fun _ => (setβ_same _ _ _).symm) rfl))
    cases r with
    | none =>
      obtain rfl := ret_run1 hr
      exact main rfl rfl
    | some o =>
      simp only [Option.map_some] at hr
      split at hr
      · rename_i e; cases e
      · rename_i k n e
        simp at e
        obtain rfl := ret_run1 hr
        exact main (by simp [Instr.makeMap, run_underlying hu, ev_int ds h e, asInt, asIntOf, newObj]; rfl) rfl
      · cases hr
  · cases hr
end
end Go.Sk

/- clear, as the evaluator's. -/
set_option linter.unusedSimpArgs false
set_option linter.unusedVariables false
set_option linter.unusedSectionVars false
namespace Go.Sk
open Go
section
variable {P : Program} {X : Fr} {env : List V} {mem : List Obj} {al : Nat → Prop} {tmps : Array Value} {w : World} {β : Nat → Value} {ok : Nat → Prop}

/-- a piece of an owned row written -/
theorem segWrite (h : Inv X env mem al tmps w β ok) {k : Nat} {t : Ty} {xs ys : List (El t)} (hm : mem.getD k .dead = .row t xs) {of : Nat} (hle : of + ys.length ≤ xs.length) {news : List Value} (hy : Cells w ok t ys news) {bb o n' cp : Nat} (hβ : β k = .slice (some ⟨bb, o, none⟩) n' cp) {arr : Array Value} {T : TypeId}
    (hh : w.heap[bb]? = some (.cells arr T (0, 0))) (h0 : 0 < cp) (hxc : xs.length ≤ cp) (hsz : o + cp * t.size ≤ arr.size) (hrows : Lies w ok t xs cp o arr) :
    Inv X env (wr mem k (.row t (xs.take of ++ ys ++ xs.drop (of + ys.length)))) al tmps (w.setCells bb (o + of * t.size) news) β ok := by
  have hmul : (of + ys.length) * t.size ≤ cp * t.size := Nat.mul_le_mul_right _ (by omega)
  rw [Nat.add_mul] at hmul
  have hin : o + of * t.size + news.length ≤ arr.size := by rw [hy.length]; omega
  refine h.rowWrite (ys := xs.take of ++ ys ++ xs.drop (of + ys.length)) hm (by simp; omega) hβ (by omega) hh hin (by
    have : (of + ys.length) * t.size ≤ xs.length * t.size := Nat.mul_le_mul_right _ (by omega)
    rw [Nat.add_mul] at this
    rw [hy.length]
    omega) fun arr' hs1 hs2 hs3 j x hj => ?_
  rw [spl_get (by omega)] at hj
  by_cases h1 : j < of
  · rw [if_pos h1] at hj
    obtain ⟨us, a1, a2, a3⟩ := hrows j x hj
    refine ⟨us, a1, a2, fun q u hq => ?_⟩
    have hq2 : q < t.size := by rw [← a1]; exact (List.getElem?_eq_some_iff.1 hq).1
    have hb2 : (j + 1) * t.size ≤ of * t.size := Nat.mul_le_mul_right _ (by omega)
    rw [Nat.add_mul] at hb2
    rw [hs2 _ (.inl (by omega))]
    exact a3 q u hq
  · rw [if_neg h1] at hj
    by_cases h2 : j < of + ys.length
    · rw [if_pos h2] at hj
      obtain ⟨us, a1, a2, a3⟩ := hy.at_ (j - of) x hj
      refine ⟨us, a1, a2, fun q u hq => ?_⟩
      have := hs3 ((j - of) * t.size + q) u (a3 q u hq)
      have e8 : j * t.size = of * t.size + (j - of) * t.size := by rw [← Nat.add_mul]; congr 1; omega
      rw [← this]; congr 1; omega
    · rw [if_neg h2] at hj
      obtain ⟨us, a1, a2, a3⟩ := hrows j x hj
      refine ⟨us, a1, a2, fun q u hq => ?_⟩
      have hb2 : (of + ys.length) * t.size ≤ j * t.size := Nat.mul_le_mul_right _ (by omega)
      rw [Nat.add_mul] at hb2
      rw [hs2 _ (.inr (by rw [hy.length]; omega))]
      exact a3 q u hq

theorem zeroCells_eq (z : Array Value) (n : Nat) : (Builtin.zeroCells z n).toList = (List.replicate n z.toList).flatten := by
  unfold Builtin.zeroCells
  apply List.ext_getElem?
  intro j
  have hl : ∀ n, ((List.replicate n z.toList).flatten).length = n * z.size := by intro n; simp
  by_cases hj : j < n * z.size
  · have hz : 0 < z.size := by
      rcases Nat.eq_zero_or_pos z.size with h | h
      · rw [h] at hj; omega
      · exact h
    have hr : ∀ (n j : Nat), j < n * z.size → ((List.replicate n z.toList).flatten)[j]? = z[j % z.size]? := by
      intro n
      induction n with
      | zero => intro j hj; omega
      | succ n ih =>
        intro j hj
        rw [List.replicate_succ, List.flatten_cons]
        by_cases h1 : j < z.size
        · rw [List.getElem?_append_left (by simpa using h1), Nat.mod_eq_of_lt h1]; simp
        · rw [List.getElem?_append_right (by simp; omega)]
          rw [show j - z.toList.length = j - z.size by simp, ih (j - z.size) (by rw [Nat.add_mul] at hj; omega)]
          rw [Nat.mod_eq_sub_mod (by omega : j ≥ z.size)]
    rw [hr n j hj]
    have hm : j % z.size < z.size := Nat.mod_lt _ hz
    simp [hj, hm]
  · rw [List.getElem?_eq_none (by simp; omega), List.getElem?_eq_none (by rw [hl]; omega)]

theorem cells_replicate {t : Ty} {x : El t} {us : List Value} (h : RepE w ok t x us) (n : Nat) : Cells w ok t (List.replicate n x) (List.replicate n us).flatten := by
  have hl := h.length
  refine ⟨by simp [hl], fun k y hk => ?_, fun u hu => ?_⟩
  · have hkn : k < n := by have := (List.getElem?_eq_some_iff.1 hk).1; simpa using this
    have hy : y = x := by rw [List.getElem?_replicate, if_pos hkn] at hk; simpa using hk.symm
    subst hy
    refine ⟨us, hl, h, fun j u hj => ?_⟩
    have hj2 : j < us.length := (List.getElem?_eq_some_iff.1 hj).1
    have key : ∀ (n k : Nat), k < n → ((List.replicate n us).flatten)[k * us.length + j]? = us[j]? := by
      intro n
      induction n with
      | zero => intro k hk; omega
      | succ n ih =>
        intro k hk
        rw [List.replicate_succ, List.flatten_cons]
        cases k with
        | zero => rw [List.getElem?_append_left (by omega)]; simp
        | succ k =>
          rw [List.getElem?_append_right (by rw [Nat.add_mul]; omega)]
          have : (k + 1) * us.length + j - us.length = k * us.length + j := by rw [Nat.add_mul]; omega
          rw [this]
          exact ih k (by omega)
    rw [← hl, key n k hkn]
    exact hj
  · obtain ⟨l, hl1, hl2⟩ := List.mem_flatten.1 hu
    rw [(List.mem_replicate.1 hl1).2] at hl2
    exact h.one u hl2

theorem clear_sound (h : Inv X env mem al tmps w β ok) {t ty : TypeId} {ts : List TypeId} {a : CV} {av : Value} (ha : RelC w ok X.rd β (kds mem) al a av) {out : Out} (hr : (clearC P t a).run1 mem = some out) :
    ∃ w', (Builtin.clear_ (t :: ts).toArray ty #[av]).run P w = .ok (.tuple #[]) w' ∧ Inv X env (wrs mem out.ws) al tmps w' β ok ∧ out.v = .tup [] := by
  unfold clearC at hr
  split at hr
  · rename_i te bytes sz z hE hz0
    have hE := elemInfo_spec hE
    obtain ⟨e, i, zv, hu, hi, hz, hsz, hby, hzs, hzr⟩ := hE.ex
    have hst : te.size = sz := hE.size
    have hzz : zeroCells P e = some z := by unfold elemZero at hz0; rw [hu] at hz0; exact hz0
    obtain ⟨i', zv', hi', hz', hl⟩ := zero_rel (X := X) (w := w) (ok := ok) (β := β) (al := al) hzz
    rw [hi] at hi'
    cases hi'
    rw [hz] at hz'
    cases hz'
    have hzrun : (zeroValue e).run P w = .ok zv w := by simp [zeroValue, typeInfo, hi, hz]
    -- one piece
    have main : ∀ (x : El te), decAll te z = some x → ∀ (k of n : Nat) (t' : Ty) (xs : List (El t')), mem.getD k .dead = .row t' xs → ∀ (hte : t' = te), of + n ≤ xs.length → ∀ (A A' : Option Addr) (n' cp : Nat), β k = .slice A n' cp → av = .slice A' n (cp - of) → (∀ b q, A = some ⟨b, q, none⟩ → cp ≠ of → A' = some ⟨b, q + of * t'.size, none⟩) →
        ∃ w', (Builtin.clear_ (t :: ts).toArray ty #[av]).run P w = .ok (.tuple #[]) w' ∧ Inv X env (wr mem k (.row te ((hte ▸ xs : List (El te)).take of ++ List.replicate n x ++ (hte ▸ xs : List (El te)).drop (of + n)))) al tmps w' β ok := by
      intro x hx k of n t' xs hm hte hle A A' n' cp hβ hav hA
      subst hte
      simp only
      have hrep : RepE w ok t' x zv.cells.toList := rel_decAll hx (hl (kds mem))
      have hob := h.obj k
      rw [hm] at hob
      obtain ⟨A2, c2, hb2, hob⟩ := hob
      rw [hβ] at hb2
      cases hb2
      by_cases hn : n = 0
      · subst hn
        refine ⟨w, ?_, (h.congr (fun j => ?_)).2⟩
        · rw [hav]
          cases A' <;> simp [Builtin.clear_, run_underlying hu]
        · rw [wr_getD]
          split
          · rename_i e; rw [e, hm]; simp
          · rfl
      · rcases hob with ⟨rfl, rfl⟩ | ⟨bb, o, arr, T, rfl, hh, h0, hxc, hsz2, hrows⟩
        · simp at hle; omega
        · have hAe := hA bb o rfl (by omega)
          subst hAe
          have hc := cells_replicate hrep n
          have hI := segWrite h hm (of := of) (ys := List.replicate n x) (by simpa using hle) hc hβ hh h0 hxc hsz2 hrows
          have hnl : (List.replicate n zv.cells.toList).flatten.length = n * t'.size := by rw [hc.length]; simp
          have hmul : (of + n) * t'.size ≤ cp * t'.size := Nat.mul_le_mul_right _ (by omega)
          rw [Nat.add_mul] at hmul
          refine ⟨_, ?_, by simpa using hI⟩
          have hst2 := run_storeCells_cells (P := P) bb (o + of * t'.size) (List.replicate n zv.cells.toList).flatten 0 w (fun j hj => by simp [World.cell?, hh]; omega) (fun j hj => by simp [World.frozen?, hh]) (fun u hu => by
            obtain ⟨l, hl1, hl2⟩ := List.mem_flatten.1 hu
            rw [(List.mem_replicate.1 hl1).2] at hl2
            exact hrep.one u hl2)
          rw [hav]
          obtain ⟨m, rfl⟩ : ∃ m, n = m + 1 := ⟨n - 1, by omega⟩
          simp only [Builtin.clear_]
          simp [run_underlying hu, hzrun, zeroCells_eq, hst2]
    split at hr
    · rename_i x k hx
      simp only [Rd.run1_get] at hr
      have hob := h.obj k
      cases hm : mem.getD k .dead <;> rw [hm] at hr hob <;> try (cases hr; done)
      rename_i t' xs0
      obtain ⟨xs, hxs, hr2⟩ := bind_run1 hr
      clear hr
      rw [Rd.run1_ofOption] at hxs
      obtain ⟨e0, hxs⟩ := decS_spec hxs
      obtain rfl := ret_run1 hr2
      obtain ⟨A, c, hβ, _⟩ := hob
      have hav := ha.osl_inv (by show (mem.getD k .dead).kd ≠ _; rw [hm]; simp [Obj.kd])
      obtain ⟨w', h1, h2⟩ := main x hx k 0 xs0.length t' xs0 hm e0 (by omega) A A _ c hβ (by rw [hav, hβ]; rfl) (fun b q e _ => by simp [e])
      refine ⟨w', h1, ?_, rfl⟩
      subst e0
      replace hxs : xs = xs0 := hxs
      subst hxs
      show Inv X env (wr mem k _) al tmps w' β ok
      simpa using h2
    · rename_i x k of n hx
      simp only [Rd.run1_get] at hr
      have hob := h.obj k
      cases hm : mem.getD k .dead <;> rw [hm] at hr hob <;> try (cases hr; done)
      rename_i t' xs0
      obtain ⟨xs, hxs, hr2⟩ := bind_run1 hr
      clear hr
      rw [Rd.run1_ofOption] at hxs
      obtain ⟨e0, hxs⟩ := decS_spec hxs
      obtain ⟨hg, hr2⟩ := guard_run1 hr2
      obtain rfl := ret_run1 hr2
      obtain ⟨A, n', cp, A', hβ, hav, hcp, hA⟩ : ∃ A n' c A', β k = .slice A n' c ∧ av = .slice A' n (c - of) ∧ of + n ≤ c ∧ (∀ b q, A = some ⟨b, q, none⟩ → c ≠ of → A' = some ⟨b, q + of * t'.size, none⟩) := by
        cases ha with
        | ovw _ _ _ _ hi hp h1 => exact hp t' (by show (mem.getD k .dead).kd = _; rw [hm]; rfl)
      subst e0
      replace hxs : xs = xs0 := hxs
      subst hxs
      obtain ⟨w', h1, h2⟩ := main x hx k of n t' xs hm rfl (by simpa using hg) A A' n' cp hβ hav hA
      exact ⟨w', h1, h2, rfl⟩
    · cases hr
  · cases hr
end
end Go.Sk

/- append(xs, make([]T, n)...): the arm that grows. -/
set_option linter.unusedSimpArgs false
set_option linter.unusedVariables false
set_option linter.unusedSectionVars false
namespace Go.Sk
open Go
section
variable {P : Program} {X : Fr} {env : List V} {mem : List Obj} {al : Nat → Prop} {tmps : Array Value} {w : World} {β : Nat → Value} {ok : Nat → Prop}

theorem run_append_grow_int (t tx ty e : TypeId) (i : TypeInfo) (z : Value) (ht : P.underlying t = some (.slice e)) {k' : IntKind} (hk : P.underlying tx = some (.int k')) (hi : P.info? e = some i) (hz : i.zero = some z) (base : Option Addr) (sLen sCap : Nat) (olds : List Value)
    (hold : (Builtin.firstCells i.size sLen (.slice base sLen sCap)).run P w.drew = .ok olds.toArray w.drew) (k : IntKind) (l : Int) (n : Nat) (hl : l = n) (h0 : n * i.size ≠ 0) (hb : n * i.bytes ≤ 281474976710656) (hn1 : n ≤ 140737488355328)
    (hg : sCap < sLen + n) (h63 : ((sLen + n : Nat) : Int) ≤ 9223372036854775807) (hfit : Builtin.nextslicecap (sLen + n) sCap * i.bytes ≤ 281474976710656) :
    (Builtin.append_ #[t, tx] ty #[.slice base sLen sCap, .int k l]).run P w =
      .ok (.slice (some ⟨w.heap.size, 0, none⟩) (sLen + n) (grownCap w (sLen + n) sCap e))
        (w.drew.alloc (.cells ((olds ++ (Builtin.zeroCells z.cells n).toList).toArray ++ Builtin.zeroCells z.cells (grownCap w (sLen + n) sCap e - (sLen + n))) e)) := by
  have hn : ¬ (sLen + n ≤ sCap) := by omega
  have h63' : ¬ (9223372036854775807 < ((sLen : Int) + (n : Int))) := by omega
  have h48' : ¬ (281474976710656 < Builtin.nextslicecap (sLen + n) sCap * i.bytes) := by omega
  have hw : IntKind.i64.wrap l = (n : Int) := by rw [wrap_id (by omega) (by omega), hl]
  have hb' : ¬ (281474976710656 < (n : Int) * (i.bytes : Int)) := by
    have : ((n * i.bytes : Nat) : Int) ≤ 281474976710656 := by omega
    rw [Int.natCast_mul] at this
    omega
  have hs0 : ¬ ((n : Int) < 0) := by omega
  have h0' : ¬ (n = 0 ∨ i.size = 0) := fun h => h0 (by rcases h with h | h <;> simp [h])
  simp [Builtin.append_, run_underlying ht, run_underlying hk, sizeOf, typeInfo, zeroValue, hi, hz, asInt, asIntOf, hw, hs0, hb', hn, h63', h48', Question.forced, hold, newRow, grownCap, h0']
  rw [if_neg h0]
  congr 2
  congr 1
  apply Array.ext'
  simp [List.append_assoc]

theorem appendZ_form {t : TypeId} {x y : V} {id : Nat} {out : Out} (hr : (appendZ P t x y id).run1 mem = some out) : ∃ a b, x = .one a ∧ y = .one b := by
  unfold appendZ at hr
  split at hr
  · exact ⟨_, _, rfl, rfl⟩
  · cases hr

theorem appendZ_sound (h : Inv X env mem al tmps w β ok) {t tx ty : TypeId} (hz : isIntT P tx = true) {id : Nat} (hid : ¬ al id) {a b : CV} {av bv : Value} (ha : RelC w ok X.rd β (kds mem) al a av) (hb : RelC w ok X.rd β (kds mem) al b bv) {out : Out}
    (hr : (appendZ P t (.one a) (.one b) id).run1 mem = some out) :
    ∃ v w' β' ok', (Builtin.append_ #[t, tx] ty #[av, bv]).run P w = .ok v w' ∧ Inv X env (wrs mem out.ws) (fun i => al i ∨ i = id) tmps w' β' ok' ∧ RelV w' ok' X.rd β' (kds (wrs mem out.ws)) (fun i => al i ∨ i = id) out.v v := by
  obtain ⟨k', hk⟩ : ∃ k', P.underlying tx = some (.int k') := by
    unfold isIntT at hz
    split at hz
    · exact ⟨_, by assumption⟩
    · cases hz
  unfold appendZ at hr
  split at hr
  · rename_i te bytes sz z0 k of n ki l hE0 hz0 e1 e2
    cases e1
    cases e2
    split at hr
    · rename_i zx hzx
      have hE := elemInfo_spec hE0
      simp only [Rd.run1_get] at hr
      have hob := h.obj k
      cases hm : mem.getD k .dead <;> rw [hm] at hr hob <;> try (cases hr; done)
      rename_i t' xs0
      obtain ⟨xs, hx, hr2⟩ := bind_run1 hr
      clear hr
      rw [Rd.run1_ofOption] at hx
      obtain ⟨e0, hx⟩ := decS_spec hx
      subst e0
      replace hx : xs = xs0 := hx
      subst hx
      obtain ⟨hg, hr2⟩ := guard_run1 hr2
      obtain rfl := ret_run1 hr2
      simp only [Bool.and_eq_true, decide_eq_true_eq] at hg
      obtain ⟨⟨⟨hl0, hon⟩, hgr⟩, hfit⟩ := hg
      obtain ⟨m, rfl⟩ : ∃ m : Nat, l = m := ⟨l.toNat, by omega⟩
      simp only [Int.toNat_natCast] at hgr hfit ⊢
      cases hb
      have hkal : al k := h.len k (by rw [hm]; simp [Obj.kd])
      have hkk : kds mem k = .row t' := by show (mem.getD k .dead).kd = _; rw [hm]; rfl
      obtain ⟨A, n', cp, A', hβ, rfl, hcp, hA⟩ : ∃ A n' c A', β k = .slice A n' c ∧ av = .slice A' n (c - of) ∧ of + n ≤ c ∧ (∀ b q, A = some ⟨b, q, none⟩ → c ≠ of → A' = some ⟨b, q + of * t'.size, none⟩) := by
        cases ha with
        | ovw _ _ _ _ hi hp h1 => exact hp t' hkk
      obtain ⟨A2, hb2, hob⟩ := hob
      rw [hβ] at hb2
      cases hb2
      have hst := hE.size
      have hE' := hE
      obtain ⟨e, i, z, hu, hi, hzi, hsz, hby, hzs, hzr⟩ := hE'.ex
      subst hsz
      subst hby
      have hxl : ((xs.drop of).take n).length = n := by simp; omega
      have hget : ∀ q x, ((xs.drop of).take n)[q]? = some x → xs[of + q]? = some x := fun q x hk => by
        rw [List.getElem?_take] at hk
        split at hk
        · rwa [List.getElem?_drop] at hk
        · cases hk
      obtain ⟨olds, hold, hox⟩ := olds_of (P := P) (w := w) (ok := ok) (A := A') (c := xs.length - of) (xs := (xs.drop of).take n) hE.size (by
        by_cases hn : n = 0
        · exact .inl (by simp [hn])
        rcases hob with rfl | ⟨b, o, arr, T, rfl, hh, hsz, h⟩
        · simp at hon; omega
        · exact .inr ⟨b, _, hA b o rfl (by omega), fun q x hk => let ⟨us, h1, h2, h3⟩ := h _ x (hget q x hk); ⟨us, h1, h2, fun j u hj => by
            have := h3 j u hj
            rw [Nat.add_mul] at this
            simp [World.cell?, hh, ← this, Nat.add_assoc]⟩⟩)
      rw [hxl] at hold
      have hzz : zeroCells P e = some z0 := by unfold elemZero at hz0; rw [hu] at hz0; exact hz0
      obtain ⟨i', zv', hi', hz', hl⟩ := zero_rel (X := X) (w := w) (ok := ok) (β := β) (al := al) hzz
      rw [hi] at hi'
      cases hi'
      rw [hzi] at hz'
      cases hz'
      have hzx2 : RepE w ok t' zx z.cells.toList := rel_decAll hzx (hl (kds mem))
      have hzl : (Builtin.zeroCells z.cells m).toList = (List.replicate m z.cells.toList).flatten := range_zero z.cells _ _ rfl
      have hy : Cells w ok t' (List.replicate m zx) (Builtin.zeroCells z.cells m).toList := by rw [hzl]; exact Cells.replicate hzx2 m
      have hyl : (List.replicate m zx).length = m := List.length_replicate
      have hmul : n + m ≤ (n + m) * i.bytes := Nat.le_mul_of_pos_right _ hE.b0
      have hmul2 : m * i.bytes ≤ (n + m) * i.bytes := Nat.mul_le_mul_right _ (by omega)
      have hgr' : xs.length - of < n + m := by omega
      have hfit2 : Builtin.nextslicecap (n + m) (xs.length - of) * i.bytes ≤ 281474976710656 := by
        have h1 := Nat.mul_le_mul_right i.bytes (nextslicecap_le hgr')
        rw [Nat.mul_assoc] at h1
        omega
      have hm0 : m * i.size ≠ 0 := by
        have : 0 < m * i.size := Nat.mul_pos (by omega) hE.s0
        omega
      have hrun := run_append_grow_int (P := P) (w := w) t tx ty e i z hu hk hi hzi A' n (xs.length - of) olds hold ki (m : Int) m rfl hm0 (by omega) (by omega) hgr' (by omega) hfit2
      have hcap := grownCap_ge w (n + m) (xs.length - of) e
      obtain ⟨β', hN, hR⟩ := grow_core (tmps := tmps) (env := env) h hE hid (sLen := n) (cp := grownCap w (n + m) (xs.length - of) e) (olds := olds) (xs := (xs.drop of).take n) (ys := List.replicate m zx) (news := (Builtin.zeroCells z.cells m).toList) hox hxl hy (by rw [hyl]; exact hcap) (by rw [hyl]; omega) (e := e) hzs hzr (fun _ => false) (by simp)
        (mem' := wr mem id (.row t' ((xs.drop of).take n ++ List.replicate m zx))) (fun j => by rw [wr_getD]; simp)
      rw [hyl] at hN hR
      exact ⟨_, _, β', ok, hrun, hN, .one _ _ hR⟩
    · cases hr
  · cases hr
end
end Go.Sk

/- copy, make, len, min and max, and all built-ins at once. -/
set_option linter.unusedSimpArgs false
set_option linter.unusedVariables false
set_option linter.unusedSectionVars false
namespace Go.Sk
open Go
section
variable {P : Program} {X : Fr} {env : List V} {mem : List Obj} {al : Nat → Prop} {tmps : Array Value} {w : World} {β : Nat → Value} {ok : Nat → Prop}

theorem load_same {a : Addr} {u : Value} {w' : World} (h : (load a).run P w = .ok u w') : w' = w := by
  rw [run_load] at h
  split at h
  · cases h; rfl
  · split at h
    · cases h; rfl
    · cases h
theorem lcf_inv (a : Addr) : ∀ (n i : Nat) (acc r : Array Value) (w' : World), (loadCellsFrom a i n acc).run P w = .ok r w' →
    w' = w ∧ ∃ l : List Value, l.length = n ∧ r = (acc.toList ++ l).toArray ∧ ∀ m, m ≤ n → (loadCellsFrom a i m acc).run P w = .ok (acc.toList ++ l.take m).toArray w
  | 0, i, acc, r, w', h => by
    simp [loadCellsFrom] at h
    obtain ⟨rfl, rfl⟩ := h
    exact ⟨rfl, [], rfl, by simp, fun m hm => by have : m = 0 := by omega
                                                 subst this; simp [loadCellsFrom]⟩
  | n + 1, i, acc, r, w', h => by
    unfold loadCellsFrom at h
    rw [Sem.run_bind] at h
    cases hl : (load (a.add i)).run P w with
    | ok u w1 =>
      have e := load_same hl
      rw [e] at hl
      rw [hl] at h
      obtain ⟨e2, l, h1, h2, h3⟩ := lcf_inv a n (i + 1) (acc.push u) r w' h
      refine ⟨e2, u :: l, by simp [h1], by rw [h2]; simp, fun m hm => ?_⟩
      cases m with
      | zero => simp [loadCellsFrom]
      | succ m =>
        unfold loadCellsFrom
        rw [Sem.run_bind, hl]
        have := h3 m (by omega)
        simp only [Result.andThen_ok, this]
        simp
    | _ => rw [hl] at h; cases h

/-- a source's first elements -/
theorem _root_.Go.Src.take {size n m : Nat} {tx : TypeId} {x : Value} {news : List Value} (hs : Src P size tx x n news w) (hm : m ≤ n) : (Builtin.firstCells size m x).run P w = .ok (news.take (m * size)).toArray w := by
  have hc := hs.cells
  have hnl := hs.newsLen
  cases x <;> simp only [Builtin.firstCells] at hc ⊢ <;> try (simp [stuck] at hc; done)
  case string s =>
    have hn : s.size = n := by have := hs.len w; simpa [Builtin.lenOf] using this
    subst hn
    simp at hc
    have hnews : news = s.data.toList.map fun b => Value.int .u8 b.toNat := by
      have := congrArg Array.toList hc
      simpa using this.symm
    have hdl : news.length = s.size := by rw [hnews]; simp
    by_cases h0 : s.size = 0
    · have : m = 0 := by omega
      subst this
      simp
    · have h1 : size = 1 := by
        rw [hdl] at hnl
        have : s.size * 1 = s.size * size := by omega
        exact (Nat.eq_of_mul_eq_mul_left (by omega) this).symm
      subst h1
      simp only [Sem.run_pure, Result.ok.injEq, and_true]
      apply Array.ext'
      rw [hnews]
      simp [List.map_take]
  case slice A l c =>
    cases A with
    | none =>
      simp at hc
      subst hc
      simp
    | some a =>
      simp only [loadCells] at hc ⊢
      obtain ⟨_, l, h1, h2, h3⟩ := lcf_inv a _ 0 #[] _ _ hc
      simp at h2
      subst h2
      have := h3 (m * size) (Nat.mul_le_mul_right _ hm)
      simpa using this

theorem run_copy_src (dT sT ty e : TypeId) (i : TypeInfo) (ht : P.underlying dT = some (.slice e)) (hi : P.info? e = some i) (b o dLen dCap : Nat) (x : Value) (n : Nat) (news : List Value) (hs : Src P i.size sT x n news w)
    (hc : ∀ j, j < min n dLen * i.size → (w.cell? ⟨b, o + j, none⟩).isSome = true) (hf : ∀ j, j < min n dLen * i.size → w.frozen? ⟨b, o + j, none⟩ = false) :
    (Builtin.copy_ #[dT, sT] ty #[.slice (some ⟨b, o, none⟩) dLen dCap, x]).run P w = .ok (goInt (min n dLen : Nat)) (w.setCells b o (news.take (min n dLen * i.size))) := by
  have hl : (news.take (min n dLen * i.size)).length ≤ min n dLen * i.size := by simp; omega
  have hst := run_storeCells_cells (P := P) b o (news.take (min n dLen * i.size)) 0 w (fun j hj => hc _ (by omega)) (fun j hj => hf _ (by omega)) (fun u hu => hs.one u (List.mem_of_mem_take hu))
  have hfc := hs.take (m := min n dLen) (Nat.min_le_left _ _)
  have e1 : n.min dLen = min n dLen := rfl
  simp [Builtin.copy_, run_underlying ht, sizeOf, typeInfo, hi, hs.len, e1, hfc, hst]
theorem run_copy_zero (dT sT ty e : TypeId) (i : TypeInfo) (ht : P.underlying dT = some (.slice e)) (hi : P.info? e = some i) (A : Option Addr) (dLen dCap : Nat) (x : Value) (n : Nat) (news : List Value) (hs : Src P i.size sT x n news w)
    (h0 : min n dLen = 0) :
    (Builtin.copy_ #[dT, sT] ty #[.slice A dLen dCap, x]).run P w = .ok (goInt 0) w := by
  have hfc := hs.take (m := min n dLen) (Nat.min_le_left _ _)
  have e1 : n.min dLen = min n dLen := rfl
  rw [h0] at hfc
  cases A <;> simp [Builtin.copy_, run_underlying ht, sizeOf, typeInfo, hi, hs.len, e1, hfc, h0, storeCells]

theorem copy_ovw (h : Inv X env mem al tmps w β ok) {t tx ty e : TypeId} {i : TypeInfo} (hu : P.underlying t = some (.slice e)) (hi : P.info? e = some i) {t' : Ty} {sz : Nat} (hsz : i.size = sz) (hst : t'.size = sz) {ys : List (El t')} {news : List Value} {bv : Value} (hs : Src P sz tx bv ys.length news w) (hy : Cells w ok t' ys news)
    {k of n : Nat} {xs : List (El t')} (hm : mem.getD k .dead = .row t' xs) (hg : of + n ≤ xs.length) {A A' : Option Addr} {n' cp : Nat} (hβ : β k = .slice A n' cp) (hcp : of + n ≤ cp) (hA : ∀ b q, A = some ⟨b, q, none⟩ → cp ≠ of → A' = some ⟨b, q + of * t'.size, none⟩) :
    ∃ w', (Builtin.copy_ #[t, tx] ty #[.slice A' n (cp - of), bv]).run P w = .ok (.int .i64 (min ys.length n : Nat)) w' ∧ Inv X env (wr mem k (.row t' (xs.take of ++ ys.take n ++ xs.drop (of + min ys.length n)))) al tmps w' β ok := by
  have hob := h.obj k
  rw [hm] at hob
  obtain ⟨A2, c2, hb2, hob⟩ := hob
  rw [hβ] at hb2
  cases hb2
  by_cases h0 : min ys.length n = 0
  · have hsame : xs.take of ++ ys.take n ++ xs.drop (of + min ys.length n) = xs := by
      have : ys.take n = [] := by
        rcases Nat.eq_zero_or_pos n with hx0 | hx0
        · simp [hx0]
        · have : ys = [] := List.eq_nil_of_length_eq_zero (by omega)
          simp [this]
      rw [this, h0]; simp
    have hI : Inv X env (wr mem k (.row t' (xs.take of ++ ys.take n ++ xs.drop (of + min ys.length n)))) al tmps w β ok := (h.congr (fun j => by
      rw [wr_getD]
      split
      · rename_i e; rw [e, hm, hsame]
      · rfl)).2
    exact ⟨w, by rw [h0]; exact run_copy_zero t tx ty e i hu hi A' _ _ bv ys.length news (by rw [hsz]; exact hs) h0, hI⟩
  · rcases hob with ⟨rfl, rfl⟩ | ⟨bb, o, arr, T, rfl, hh, h0', hle, hsz2, hrows⟩
    · omega
    · have hAe := hA bb o rfl (by omega)
      subst hAe
      have hmul : (of + min ys.length n) * t'.size ≤ cp * t'.size := Nat.mul_le_mul_right _ (by omega)
      rw [Nat.add_mul] at hmul
      have hnl : (news.take (min ys.length n * i.size)).length = min ys.length n * t'.size := by
        have h1 : min ys.length n * t'.size ≤ ys.length * t'.size := Nat.mul_le_mul_right _ (by omega)
        rw [List.length_take, hy.length, hsz, ← hst]
        omega
      have hin : o + of * t'.size + (news.take (min ys.length n * i.size)).length ≤ arr.size := by omega
      have hrun := run_copy_src (P := P) (w := w) t tx ty e i hu hi bb (o + of * t'.size) n (cp - of) bv ys.length news (by rw [hsz]; exact hs)
        (fun j hj => by rw [hsz, ← hst] at hj; simp [World.cell?, hh]; omega) (fun j hj => by simp [World.frozen?, hh])
      have htl : (ys.take n).length = min ys.length n := by simp; omega
      have e9 : xs.take of ++ ys.take n ++ xs.drop (of + min ys.length n) = xs.take of ++ ys.take n ++ xs.drop (of + (ys.take n).length) := by rw [htl]
      have hI := h.rowWrite (ys := xs.take of ++ ys.take n ++ xs.drop (of + min ys.length n)) hm (by simp; omega) hβ (by omega) hh hin (by
        have : (of + min ys.length n) * t'.size ≤ xs.length * t'.size := Nat.mul_le_mul_right _ (by omega)
        rw [Nat.add_mul] at this
        omega) fun arr' hs1 hs2 hs3 j x hj => by
        rw [e9, spl_get (by omega), htl] at hj
        by_cases h1 : j < of
        · rw [if_pos h1] at hj
          obtain ⟨us, a1, a2, a3⟩ := hrows j x hj
          refine ⟨us, a1, a2, fun q u hq => ?_⟩
          have hq2 : q < t'.size := by rw [← a1]; exact (List.getElem?_eq_some_iff.1 hq).1
          have hb2 : (j + 1) * t'.size ≤ of * t'.size := Nat.mul_le_mul_right _ (by omega)
          rw [Nat.add_mul] at hb2
          rw [hs2 _ (.inl (by omega))]
          exact a3 q u hq
        · rw [if_neg h1] at hj
          by_cases h2 : j < of + min ys.length n
          · rw [if_pos h2, List.getElem?_take, if_pos (by omega)] at hj
            obtain ⟨us, a1, a2, a3⟩ := hy.at_ (j - of) x hj
            refine ⟨us, a1, a2, fun q u hq => ?_⟩
            have hq2 : q < t'.size := by rw [← a1]; exact (List.getElem?_eq_some_iff.1 hq).1
            have hb2 : (j - of + 1) * t'.size ≤ min ys.length n * t'.size := Nat.mul_le_mul_right _ (by omega)
            rw [Nat.add_mul] at hb2
            have := hs3 ((j - of) * t'.size + q) u (by rw [List.getElem?_take, if_pos (by rw [hsz, ← hst]; omega)]; exact a3 q u hq)
            have e8 : j * t'.size = of * t'.size + (j - of) * t'.size := by rw [← Nat.add_mul]; congr 1; omega
            rw [← this]; congr 1; omega
          · rw [if_neg h2] at hj
            obtain ⟨us, a1, a2, a3⟩ := hrows j x hj
            refine ⟨us, a1, a2, fun q u hq => ?_⟩
            have hb2 : (of + min ys.length n) * t'.size ≤ j * t'.size := Nat.mul_le_mul_right _ (by omega)
            rw [Nat.add_mul] at hb2
            rw [hs2 _ (.inr (by omega))]
            exact a3 q u hq
      exact ⟨_, hrun, hI⟩

theorem copy_sound (h : Inv X env mem al tmps w β ok) {t tx ty : TypeId} {a b : CV} {av bv : Value} (ha : RelC w ok X.rd β (kds mem) al a av) (hb : RelC w ok X.rd β (kds mem) al b bv) {out : Out}
    (hr : (copyC P t tx (.one a) (.one b)).run1 mem = some out) :
    ∃ v w' β' ok', (Builtin.copy_ #[t, tx] ty #[av, bv]).run P w = .ok v w' ∧ Inv X env (wrs mem out.ws) al tmps w' β' ok' ∧ RelV w' ok' X.rd β' (kds (wrs mem out.ws)) al out.v v := by
  unfold copyC at hr
  split at hr
  · rename_i te bytes sz a' b' hE e1 e2
    cases e1
    cases e2
    have hE := elemInfo_spec hE
    cases hok : srcOk P tx b with
    | false => rw [hok] at hr; cases hr
    | true =>
    rw [hok] at hr
    obtain ⟨ys, hys, hr⟩ := bind_run1 (x := srcElems te b) hr
    obtain ⟨news, hs, hy⟩ := rel_src h.obj hE.size hok hys hb
    obtain ⟨e, i, z, hu, hi, hz, hsz, hby, hzs, hzr⟩ := hE.ex
    have hst : te.size = sz := hE.size
    cases a with
    | nils t' =>
      cases ha
      obtain rfl := ret_run1 hr
      exact ⟨_, w, β, ok, run_copy_zero t tx ty e i hu hi none 0 0 bv ys.length news (by rw [hsz]; exact hs) (by simp), h, .one _ _ (.int .i64 0)⟩
    | osl k =>
      simp only [Rd.run1_get] at hr
      have hob := h.obj k
      cases hm : mem.getD k .dead <;> rw [hm] at hr hob <;> try (cases hr; done)
      rename_i t' xs0
      obtain ⟨xs, hx, hr2⟩ := bind_run1 hr
      clear hr
      rw [Rd.run1_ofOption] at hx
      obtain ⟨e0, hx⟩ := decS_spec hx
      subst e0
      replace hx : xs = xs0 := hx
      subst hx
      obtain rfl := ret_run1 hr2
      obtain ⟨A, c, hβ, hob⟩ := hob
      rw [ha.osl_inv (by show (mem.getD k .dead).kd ≠ _; rw [hm]; simp [Obj.kd]), hβ]
      by_cases h0 : min ys.length xs.length = 0
      · have hsame : ys.take xs.length ++ xs.drop ys.length = xs := by
          rcases Nat.eq_zero_or_pos xs.length with hx0 | hx0
          · rw [hx0]; simp; have : xs = [] := List.eq_nil_of_length_eq_zero hx0; simp [this]
          · have : ys = [] := List.eq_nil_of_length_eq_zero (by omega)
            simp [this]
        have hI : Inv X env (wr mem k (.row t' (ys.take xs.length ++ xs.drop ys.length))) al tmps w β ok := (h.congr (fun j => by
          rw [wr_getD]
          split
          · rename_i e; rw [e, hm, hsame]
          · rfl)).2
        exact ⟨_, w, β, ok, run_copy_zero t tx ty e i hu hi A _ _ bv ys.length news (by rw [hsz]; exact hs) h0, hI, .one _ _ (by rw [h0]; exact .int .i64 0)⟩
      · rcases hob with ⟨rfl, rfl⟩ | ⟨bb, o, arr, T, rfl, hh, h0', hle, hsz2, hrows⟩
        · simp at h0
        · have hmul : min ys.length xs.length * t'.size ≤ c * t'.size := Nat.mul_le_mul_right _ (by omega)
          have hnl : (news.take (min ys.length xs.length * i.size)).length = min ys.length xs.length * t'.size := by
            have h1 : min ys.length xs.length * t'.size ≤ ys.length * t'.size := Nat.mul_le_mul_right _ (by omega)
            rw [List.length_take, hy.length, hsz, ← hst]
            omega
          have hin : o + (news.take (min ys.length xs.length * i.size)).length ≤ arr.size := by omega
          have hrun := run_copy_src (P := P) (w := w) t tx ty e i hu hi bb o xs.length c bv ys.length news (by rw [hsz]; exact hs)
            (fun j hj => by rw [hsz, ← hst] at hj; simp [World.cell?, hh]; omega) (fun j hj => by simp [World.frozen?, hh])
          have hI := h.rowWrite (ys := ys.take xs.length ++ xs.drop ys.length) hm (by simp; omega) hβ (by omega) hh hin (by
            have : min ys.length xs.length * t'.size ≤ xs.length * t'.size := Nat.mul_le_mul_right _ (by omega)
            omega) fun arr' hs1 hs2 hs3 j x hj => by
            by_cases h1 : j < min ys.length xs.length
            · rw [List.getElem?_append_left (by simp; omega), List.getElem?_take, if_pos (by omega)] at hj
              obtain ⟨us, a1, a2, a3⟩ := hy.at_ j x hj
              refine ⟨us, a1, a2, fun q u hq => ?_⟩
              have hq2 : q < t'.size := by rw [← a1]; exact (List.getElem?_eq_some_iff.1 hq).1
              have hb2 : (j + 1) * t'.size ≤ min ys.length xs.length * t'.size := Nat.mul_le_mul_right _ (by omega)
              rw [Nat.add_mul] at hb2
              have := hs3 (j * t'.size + q) u (by rw [List.getElem?_take, if_pos (by rw [hsz, ← hst]; omega)]; exact a3 q u hq)
              rw [← this]; congr 1; omega
            · have hj' : xs[j]? = some x := by
                have hxl : j < xs.length := by
                  have := (List.getElem?_eq_some_iff.1 hj).1
                  simp at this; omega
                rw [List.getElem?_append_right (by simp; omega), List.getElem?_drop] at hj
                rw [← hj]; congr 1; simp; omega
              obtain ⟨us, a1, a2, a3⟩ := hrows j x hj'
              refine ⟨us, a1, a2, fun q u hq => ?_⟩
              have hb2 : min ys.length xs.length * t'.size ≤ j * t'.size := Nat.mul_le_mul_right _ (by omega)
              rw [hs2 _ (.inr (by omega))]
              exact a3 q u hq
          exact ⟨_, _, β, ok, hrun, hI, .one _ _ (.int .i64 _)⟩
    | ovw k of n =>
      simp only [Rd.run1_get] at hr
      have hob := h.obj k
      cases hm : mem.getD k .dead <;> rw [hm] at hr hob <;> try (cases hr; done)
      all_goals
        rename_i t' xs0
        obtain ⟨xs, hx, hr2⟩ := bind_run1 hr
        clear hr
        rw [Rd.run1_ofOption] at hx
        obtain ⟨e0, hx⟩ := decS_spec hx
        subst e0
        replace hx : xs = xs0 := hx
        subst hx
        obtain ⟨hg, hr2⟩ := guard_run1 hr2
        obtain rfl := ret_run1 hr2
        replace hg : of + n ≤ xs.length := by simpa using hg
        obtain ⟨A, n', cp, A', hβ, rfl, hcp, hA⟩ : ∃ A n' c A', β k = .slice A n' c ∧ av = .slice A' n (c - of) ∧ of + n ≤ c ∧ (∀ b q, A = some ⟨b, q, none⟩ → c ≠ of → A' = some ⟨b, q + of * t'.size, none⟩) := by
          cases ha with
          | ovw _ _ _ _ hi hp h1 => exact hp t' (by show (mem.getD k .dead).kd = _; rw [hm]; rfl)
      · obtain ⟨w', hrun, hI⟩ := copy_ovw (ty := ty) h hu hi hsz hst hs hy hm hg hβ hcp hA
        exact ⟨_, w', β, ok, hrun, hI, .one _ _ (.int .i64 _)⟩
      · obtain ⟨A2, hb2, hob⟩ := hob
        rw [hβ] at hb2
        cases hb2
        obtain ⟨w', hrun, hI⟩ := copy_ovw (ty := ty) (h.toRow hm) hu hi hsz hst hs hy (by rw [wr_getD, if_pos rfl]) hg hβ hcp hA
        have hlen : (xs.take of ++ ys.take n ++ xs.drop (of + min ys.length n)).length = xs.length := by simp; omega
        have hI2 := hI.toFull (k := k) (by rw [wr_getD, if_pos rfl]) (by rw [hlen]; exact hβ)
        exact ⟨_, w', β, ok, hrun, (hI2.congr (fun j => by
          show (wr mem k _).getD j .dead = _
          rw [wr_getD, wr_getD, wr_getD, wr_getD]
          split <;> rfl)).2, .one _ _ (.int .i64 _)⟩
    | _ => cases hr
  · cases hr

variable (ds : List Deferred) (C : Cfg) (h : Inv X env mem al tmps w β ok) {out : Out} {ty : TypeId} {id : Nat} {dst : Option Tmp} {pos : String} {aft : Array Edge} {gd : Option (Nat × Bool)}
include h
theorem left_makeSlice (hid : ¬ al id) {t : TypeId} {n c : Operand} (hr : (semOp P C (.makeSlice t n c) ty (⟨env, mem⟩ : St).ev id).run1 mem = some out) :
    Left P X env mem al tmps w (fun i => i = id) (execOp (⟨tmps, ds⟩ : Act).eval ⟨dst, .makeSlice t n c, ty, pos, aft, gd⟩) out := by
  simp only [semOp] at hr
  split at hr
  · rename_i te bytes sz z hE hz0
    have hE := elemInfo_spec hE
    split at hr
    · rename_i x n' c' hx hn hc
      obtain ⟨hg, hr⟩ := guard_run1 hr
      obtain rfl := ret_run1 hr
      simp only [Bool.and_eq_true, decide_eq_true_eq] at hg
      obtain ⟨⟨h0, hnc⟩, hb⟩ := hg
      obtain ⟨e, i, zv, hu, hi, hz, hsz, hby, hzs, hzr⟩ := hE.ex
      have hzz : zeroCells P e = some z := by unfold elemZero at hz0; rw [hu] at hz0; exact hz0
      obtain ⟨i', zv', hi', hz', hl⟩ := zero_rel (X := X) (w := w) (ok := ok) (β := β) (al := al) hzz
      rw [hi] at hi'
      cases hi'
      rw [hz] at hz'
      cases hz'
      have hrep : RepE w ok te x zv.cells.toList := rel_decAll hx (hl (kds mem))
      have hb1 := hE.b0
      have hcb : c' ≤ c' * (bytes : Int) := by
        have : c' * 1 ≤ c' * (bytes : Int) := Int.mul_le_mul_of_nonneg_left (by omega) (by omega)
        omega
      have hrun := run_make (P := P) w t e i zv hu hi hz .i64 .i64 n' c' h0 hnc (by rw [hby, Int.mul_comm]; omega) (by omega)
      have hcells := Cells.replicate hrep n'.toNat
      have hma : (madeCells zv.cells (c'.toNat * i.size)).toList = (List.replicate c'.toNat zv.cells.toList).flatten := range_zero zv.cells c'.toNat i.size (by rw [hzs, hsz])
      obtain ⟨β', hN, hR⟩ := newRow_left (ws := []) (T := e) (w1 := w) (n := n'.toNat) (cp := c'.toNat) h hid hcells (by simp) (arr := madeCells zv.cells (c'.toNat * i.size)) (fun j u hj => by
        rw [← Array.getElem?_toList, hma]
        have : c'.toNat = n'.toNat + (c'.toNat - n'.toNat) := by omega
        rw [this, ← List.replicate_append_replicate, List.flatten_append, List.getElem?_append_left (List.getElem?_eq_some_iff.1 hj).1]
        exact hj) (by omega) (by rw [size_madeCells, hE.size, hsz]; omega)
        (by
          refine ⟨List.replicate (c'.toNat - n'.toNat) x, by simp; omega, fun k y hk => ?_⟩
          have hky : (List.replicate c'.toNat x)[n'.toNat + k]? = some y := by
            have h1 := (List.getElem?_eq_some_iff.1 hk).1
            simp at h1
            simp [List.getElem?_replicate] at hk ⊢
            exact ⟨by omega, hk.2⟩
          obtain ⟨us, a1, a2, a3⟩ := (Cells.replicate hrep c'.toNat).at_ _ y hky
          refine ⟨us, a1, a2, fun j u hj => ?_⟩
          have := a3 j u hj
          rw [← hma, Array.getElem?_toList] at this
          simpa using this) rfl rfl rfl rfl
      rw [← ev_int ds h hn, ← ev_int ds h hc] at hrun
      exact Left.value (s := Instr.makeSlice t ((⟨tmps, ds⟩ : Act).eval n) ((⟨tmps, ds⟩ : Act).eval c)) hrun hN hR
    · cases hr
  · cases hr

/-- a call's arguments -/
def argVs (P : Program) (s : St) (c : Call) : List V := (List.range c.args.size).map fun i => s.ev (c.args.getD i (.const (.bool false))) ((c.argTypes[i]?).bind (tyAt P))
theorem args_rel (c : Call) : (argVs P ⟨env, mem⟩ c).length = (c.args.map (⟨tmps, ds⟩ : Act).eval).toList.length ∧
    ∀ (j : Nat) v u, (argVs P ⟨env, mem⟩ c)[j]? = some v → (c.args.map (⟨tmps, ds⟩ : Act).eval).toList[j]? = some u → RelV w ok X.rd β (kds mem) al v u := by
  refine ⟨by simp [argVs], fun j v u hv hu => ?_⟩
  simp only [argVs, List.getElem?_map] at hv
  simp only [Array.toList_map, List.getElem?_map] at hu
  cases ha : c.args.toList[j]? with
  | none => rw [ha] at hu; cases hu
  | some x =>
    rw [ha] at hu
    have hj : j < c.args.size := by simpa using (List.getElem?_eq_some_iff.1 ha).1
    rw [List.getElem?_range hj] at hv
    simp at hu hv
    subst hu
    subst hv
    have : c.args[j]? = some x := by simpa using ha
    rw [this]
    exact h.ev ds x _

theorem args2 {c : Call} {x y : V} (e : argVs P ⟨env, mem⟩ c = [x, y]) : ∃ u v, c.args.map (⟨tmps, ds⟩ : Act).eval = #[u, v] ∧ RelV w ok X.rd β (kds mem) al x u ∧ RelV w ok X.rd β (kds mem) al y v := by
  obtain ⟨hl, ha⟩ := args_rel ds h (P := P) c
  rw [e] at hl ha
  generalize hq : (c.args.map (⟨tmps, ds⟩ : Act).eval) = q at hl ha
  obtain ⟨l⟩ := q
  match l, hl with
  | [u, v], _ => exact ⟨u, v, rfl, ha 0 x u rfl rfl, ha 1 y v rfl rfl⟩
theorem args1 {c : Call} {x : V} (e : argVs P ⟨env, mem⟩ c = [x]) : ∃ u, c.args.map (⟨tmps, ds⟩ : Act).eval = #[u] ∧ RelV w ok X.rd β (kds mem) al x u := by
  obtain ⟨hl, ha⟩ := args_rel ds h (P := P) c
  rw [e] at hl ha
  generalize hq : (c.args.map (⟨tmps, ds⟩ : Act).eval) = q at hl ha
  obtain ⟨l⟩ := q
  match l, hl with
  | [u], _ => exact ⟨u, rfl, ha 0 x u rfl rfl⟩

theorem left_builtin {b : Builtin} {c : Call} (hcb : c.callee = .builtin b) (hid : b = .append → ¬ al id) (hr : (semOp P C (.call c) ty (⟨env, mem⟩ : St).ev id).run1 mem = some out) :
    Left P X env mem al tmps w (fun i => b = .append ∧ i = id) (execOp (⟨tmps, ds⟩ : Act).eval ⟨dst, .call c, ty, pos, aft, gd⟩) out := by
  simp only [semOp, hcb] at hr
  have hx : execOp (⟨tmps, ds⟩ : Act).eval ⟨dst, .call c, ty, pos, aft, gd⟩ = builtin b c.argTypes ty (c.args.map fun | .const _ => true | _ => false) (c.args.map (⟨tmps, ds⟩ : Act).eval) := by
    simp only [execOp, resolve, hcb]
    rfl
  rw [hx]
  clear hx
  change (builtinC P b c.argTypes.toList (argVs P ⟨env, mem⟩ c) id).run1 mem = some out at hr
  cases b <;> simp only [builtinC] at hr <;> try (cases hr; done)
  case len =>
    split at hr
    · rename_i t ts x hts hvs
      obtain ⟨u, hu, ru⟩ := args1 ds h hvs
      have hta : c.argTypes = (t :: ts).toArray := by rw [← hts]
      rw [hu, hta]
      obtain ⟨z, hz, ho⟩ := bind_run1 hr
      obtain rfl := ret_run1 ho
      obtain ⟨v, hv, hc⟩ := rel_lenC (P := P) (c := ⟨w, ok, X.rd, β, mem, al⟩) (ty := ty) (ts := ts) h.objs hz ru.one'
      exact Left.read h (s := Builtin.len_ (t :: ts).toArray ty #[u]) hv (.one _ _ hc)
    · cases hr
  case cap =>
    split at hr
    · rename_i t ts x hts hvs
      obtain ⟨u, hu, ru⟩ := args1 ds h hvs
      have hta : c.argTypes = (t :: ts).toArray := by rw [← hts]
      rw [hu, hta]
      obtain ⟨z, hz, ho⟩ := bind_run1 hr
      obtain rfl := ret_run1 ho
      obtain ⟨v, hv, hc⟩ := rel_capC (P := P) (c := ⟨w, ok, X.rd, β, mem, al⟩) (ty := ty) (ts := ts) h.objs hz ru.one'
      exact Left.read h (s := Builtin.cap_ (t :: ts).toArray ty #[u]) hv (.one _ _ hc)
    · cases hr
  case append =>
    split at hr
    · rename_i t tx x y hts hvs
      obtain ⟨u, v, hu, ru, rv⟩ := args2 ds h hvs
      have hta : c.argTypes = #[t, tx] := by rw [← hts]
      rw [hu, hta]
      cases hz : isIntT P tx with
      | true =>
        rw [hz] at hr
        obtain ⟨a, b, rfl, rfl⟩ := appendZ_form hr
        obtain ⟨v1, w', β', ok', h1, h2, h3⟩ := appendZ_sound h (ty := ty) hz (hid rfl) ru.one' rv.one' hr
        exact Left.value (s := Builtin.append_ #[t, tx] ty #[u, v]) h1 (by simpa using h2) (by simpa using h3)
      | false =>
        rw [hz] at hr
        have hr' := hr
        unfold appendC at hr'
        split at hr'
        · rename_i a b _
          obtain ⟨v1, w', β', ok', h1, h2, h3⟩ := append_sound h (ty := ty) (hid rfl) ru.one' rv.one' hr
          exact Left.value (s := Builtin.append_ #[t, tx] ty #[u, v]) h1 (by simpa using h2) (by simpa using h3)
        · cases hr'
    · cases hr
  case copy =>
    split at hr
    · rename_i t tx x y hts hvs
      obtain ⟨u, v, hu, ru, rv⟩ := args2 ds h hvs
      have hta : c.argTypes = #[t, tx] := by rw [← hts]
      rw [hu, hta]
      have hr' := hr
      unfold copyC at hr'
      split at hr'
      · rename_i a b _
        obtain ⟨v1, w', β', ok', h1, h2, h3⟩ := copy_sound h (ty := ty) ru.one' rv.one' hr
        exact Left.value' h (s := Builtin.copy_ #[t, tx] ty #[u, v]) h1 h2 h3
      · cases hr'
    · cases hr
  case clear =>
    split at hr
    · rename_i t ts x hts hvs
      obtain ⟨u, hu, ru⟩ := args1 ds h hvs
      have hta : c.argTypes = (t :: ts).toArray := by rw [← hts]
      rw [hu, hta]
      obtain ⟨w', h1, h2, h3⟩ := clear_sound h (ty := ty) (ts := ts) ru.one' hr
      exact Left.value' h (s := Builtin.clear_ (t :: ts).toArray ty #[u]) h1 h2 (by rw [h3]; exact .tup [] [] rfl fun j v u hj => by simp at hj)
    · cases hr
  case delete =>
    split at hr
    · rename_i t tk x y hts hvs
      obtain ⟨u, v, hu, ru, rv⟩ := args2 ds h hvs
      have hta : c.argTypes = #[t, tk] := by rw [← hts]
      rw [hu, hta]
      obtain ⟨w', h1, h2, h3⟩ := delete_sound h (ty := ty) (tk := tk) ru rv hr
      exact Left.value' h (s := Builtin.delete_ #[t, tk] ty #[u, v]) h1 h2 (by rw [h3]; exact .tup [] [] rfl fun j v u hj => by simp at hj)
    · cases hr
  case min =>
    split at hr
    · rename_i k a l b hvs
      obtain ⟨u, v, hu, ru, rv⟩ := args2 ds h hvs
      rw [hu]
      split at hr
      · rename_i p hp
        obtain rfl := eqKind_spec hp
        obtain rfl := ret_run1 hr
        rw [ru.one'.int_inv, rv.one'.int_inv]
        exact Left.read h (s := Builtin.min_ c.argTypes ty #[.int k a, .int k b]) (v := .int k (if b < a then b else a)) rfl (.one _ _ (.int _ _))
      · cases hr
    · cases hr
  case max =>
    split at hr
    · rename_i k a l b hvs
      obtain ⟨u, v, hu, ru, rv⟩ := args2 ds h hvs
      rw [hu]
      split at hr
      · rename_i p hp
        obtain rfl := eqKind_spec hp
        obtain rfl := ret_run1 hr
        rw [ru.one'.int_inv, rv.one'.int_inv]
        exact Left.read h (s := Builtin.max_ c.argTypes ty #[.int k a, .int k b]) (v := .int k (if b > a then b else a)) rfl (.one _ _ (.int _ _))
      · cases hr
    · cases hr
end
end Go.Sk

/- Arrays, conversions between texts and bytes, slices whose capacity is cut, as the evaluator's. -/
set_option linter.unusedSimpArgs false
set_option linter.unusedVariables false
set_option linter.unusedSectionVars false
namespace Go.Sk
open Go
section
variable {P : Program} {X : Fr} {env : List V} {mem : List Obj} {al : Nat → Prop} {tmps : Array Value} {w : World} {β : Nat → Value} {ok : Nat → Prop}

/-! ### conversions -/
theorem isBytesT_spec {t : TypeId} (h : isBytesT P t = true) : ∃ e, P.underlying t = some (.slice e) ∧ P.underlying e = some (.int .u8) := by
  unfold isBytesT at h
  split at h
  · rename_i e hu
    split at h
    · exact ⟨e, hu, by assumption⟩
    · cases h
  · cases h
theorem bytesOf_eq (xs : List Int) : bytesOf xs = strOfNums xs := rfl
theorem bytes_news {xs : List (El (.int .u8))} {news : List Value} (h : Cells w ok (.int .u8) xs news) : news = (show List Int from xs).map (Value.int .u8) := by
  apply List.ext_getElem?
  intro j
  rw [List.getElem?_map]
  cases hx : (show List Int from xs)[j]? with
  | none =>
    rw [List.getElem?_eq_none_iff] at hx
    have h1 : news.length = xs.length * 1 := h.length
    rw [Option.map_none, List.getElem?_eq_none_iff, h1]
    have : xs.length ≤ j := hx
    omega
  | some x =>
    obtain ⟨us, h1, h2, h3⟩ := h.at_ j x hx
    have h2' : us = [.int .u8 x] := h2
    have := h3 0 (.int .u8 x) (by rw [h2']; rfl)
    simp only [Ty.size, Nat.mul_one, Nat.add_zero] at this
    rw [this]
    rfl
theorem elems_slice (ho : ∀ i, ObjRel w ok X.rd β (kds mem) al i (mem.getD i .dead)) {t : Ty} {c : CV} {xs : List (El t)} {v : Value} (hr : (elems t c).run1 mem = some xs) (hv : RelC w ok X.rd β (kds mem) al c v) : ∃ A l q, v = .slice A l q := by
  cases c <;> simp only [elems, Rd.run1_fail] at hr <;> try (cases hr; done)
  case nils t => cases hv; exact ⟨_, _, _, rfl⟩
  case slc t xs => cases hv; exact ⟨_, _, _, rfl⟩
  case clp t xs => cases hv; exact ⟨_, _, _, rfl⟩
  case chk b t xs => cases hv; exact ⟨_, _, _, rfl⟩
  case osl i =>
    simp only [Rd.run1_get] at hr
    have hob := ho i
    cases hm : mem.getD i .dead <;> rw [hm] at hr hob <;> simp only [Rd.run1_fail] at hr <;> try (cases hr; done)
    · rw [hv.osl_inv (by show (mem.getD i .dead).kd ≠ _; rw [hm]; simp [Obj.kd])]
      obtain ⟨A, q, hb, _⟩ := hob
      exact ⟨_, _, _, hb⟩
    · rw [hv.osl_inv (by show (mem.getD i .dead).kd ≠ _; rw [hm]; simp [Obj.kd])]
      obtain ⟨A, q, hb, _⟩ := hob
      simp at hb
      exact ⟨_, _, _, hb⟩
  case ovw i o n =>
    simp only [Rd.run1_get] at hr
    cases hm : mem.getD i .dead <;> rw [hm] at hr <;> simp only [Rd.run1_fail] at hr <;> try (cases hr; done)
    all_goals
      rename_i t' xs'
      have hk : kds mem i = .row t' := by show (mem.getD i .dead).kd = _; rw [hm]; rfl
      cases hv with
      | ovw _ _ _ _ _ h1 _ =>
        obtain ⟨A, q, c, A', _, e, _⟩ := h1 t' hk
        exact ⟨_, _, _, e⟩
theorem run_bytes_src {t d : TypeId} (h : isBytesT P t = true) (hd : P.underlying d = some .string) {A : Option Addr} {l c : Nat} {xs : List Int} {n : Nat} (hs : Src P 1 t (.slice A l c) n (xs.map (Value.int .u8)) w) : (Go.convert t d (.slice A l c)).run P w = .ok (.string (bytesOf xs)) w := by
  obtain ⟨e, hu, he⟩ := isBytesT_spec h
  have hc := hs.cells
  have hl := hs.len w
  simp only [Builtin.firstCells] at hc
  cases A with
  | none =>
    simp at hc
    have hx : xs = [] := by
      cases xs with
      | nil => rfl
      | cons a r => simp at hc
    subst hx
    rw [run_convert_bytes_nil w t e hu he l c d hd]
    rfl
  | some a =>
    have hn : l = n := by simpa [Builtin.lenOf] using hl
    subst hn
    simp only [Nat.mul_one] at hc
    rw [run_convert_bytes_string w t d e _ l c hu he hd, run_bytesToString w a l c xs hc, foldl_push_bytes]
    rw [bytesOf_eq]
    simp [strOfNums, ByteArray.empty, ByteArray.emptyWithCapacity]
    rfl
theorem conv_slice (ho : ∀ i, ObjRel w ok X.rd β (kds mem) al i (mem.getD i .dead)) {s d e : TypeId} {c z : CV} {a : Value} (h : ((elems (.int .u8) c).bind fun xs => (.ret (.str (bytesOf xs)) : Rd CV)).run1 mem = some z) (ha : RelC w ok X.rd β (kds mem) al c a)
    (hs : P.underlying s = some (.slice e)) (hd : P.underlying d = some .string) (hb : isBytesT P s = true) : ∃ v, (Go.convert s d a).run P w = .ok v w ∧ RelC w ok X.rd β (kds mem) al z v := by
  obtain ⟨xs, hxs, h⟩ := bind_run1 h
  obtain rfl := ret_run1 h
  obtain ⟨A, l, q, rfl⟩ := elems_slice ho hxs ha
  have hok : srcOk P s c = true := by
    unfold srcOk
    rw [hs]
    cases c <;> first | rfl | (cases ha; done)
  have hsrc : (srcElems (.int .u8) c).run1 mem = some xs := by
    cases c <;> first | exact hxs | (cases ha; done)
  obtain ⟨news, h1, h2⟩ := rel_src ho (sz := 1) rfl hok hsrc ha
  rw [bytes_news h2] at h1
  exact ⟨_, run_bytes_src hb hd h1, .str _⟩
/-- a conversion that makes nothing -/
theorem rel_convC (ho : ∀ i, ObjRel w ok X.rd β (kds mem) al i (mem.getD i .dead)) {s d : TypeId} {x z : CV} {a : Value} (h : (convC P s d x).run1 mem = some z) (ha : RelC w ok X.rd β (kds mem) al x a) :
    ∃ v, (Go.convert s d a).run P w = .ok v w ∧ RelC w ok X.rd β (kds mem) al z v := by
  unfold convC at h
  split at h <;> try (cases h; done)
  · rename_i d0 k k0 n hs hd
    obtain rfl := ret_run1 h
    cases ha
    exact ⟨_, by simp [Go.convert, run_underlying hs, run_underlying hd, Conv.intToInt], .int _ _⟩
  · rename_i d0 st hs hd
    obtain rfl := ret_run1 h
    cases ha
    exact ⟨_, by simp [Go.convert, run_underlying hs, run_underlying hd], .str _⟩
  · obtain ⟨hb, h⟩ := bif_fail h
    exact conv_slice ho h ha (by assumption) (by assumption) hb
/-- a new block of data -/
theorem _root_.Go.Sk.Inv.newData (h : Inv X env mem al tmps w β ok) {w' : World} (hold : ∀ b, b < w.heap.size → w'.heap[b]? = w.heap[b]?) (hsz : w'.heap.size = w.heap.size + 1) (os : w'.os = w.os) (out : w'.output = w.output) (tape : w'.tape = w.tape) :
    Inv X env mem al tmps w' β (fun b => ok b ∨ b = w.heap.size) :=
  (h.update (mem' := mem) (al' := al) (w' := w') (β' := β) (ok' := fun b => ok b ∨ b = w.heap.size) (fun _ => False) (fun _ h => h) (fun _ h => h.elim) (fun _ _ => rfl) (fun _ _ => rfl) (fun _ h => h.elim) (fun _ h => h.elim) (fun b hb _ => hold b hb) (by omega)
    (fun _ h => .inl h) (fun b hb => hb.elim .inl fun e => .inr (.inr (by omega))) (fun _ _ h => h.elim) (fun _ _ h => h.elim) (fun _ _ _ h => h.elim) (fun _ _ h => h.elim) os out tape).2
theorem bytes_row {e : TypeId} {s : ByteArray} : RowAt (Lib.bytesWorld w e s) (fun b => ok b ∨ b = w.heap.size) (RepE (Lib.bytesWorld w e s) (fun b => ok b ∨ b = w.heap.size) (.int .u8)) 1 (some ⟨w.heap.size, 0, none⟩) (s.data.toList.map fun b => (b.toNat : Int)) := by
  refine .inr ⟨w.heap.size, 0, rfl, .inr rfl, fun k x hk => ⟨[.int .u8 x], rfl, rfl, fun j u hj => ?_⟩⟩
  rw [List.getElem?_map] at hk
  cases hq : s.data.toList[k]? with
  | none => rw [hq] at hk; cases hk
  | some q =>
    rw [hq] at hk
    simp only [Option.map_some, Option.some.injEq] at hk
    subst hk
    have hlt : k < s.size := by
      have := (List.getElem?_eq_some_iff.1 hq).1
      rw [Array.length_toList] at this
      exact this
    cases j with
    | zero =>
      rw [List.getElem?_cons_zero, Option.some.injEq] at hj
      subst hj
      have := Lib.bytesWorld_cell w e s k hlt
      rw [Nat.mul_one, Nat.add_zero, Nat.zero_add, this, List.getD_eq_getElem?_getD, hq]
      rfl
    | succ j => rw [List.getElem?_cons_succ, List.getElem?_nil] at hj; cases hj
theorem _root_.Go.Sk.Inv.alMono' (h : Inv X env mem al tmps w β ok) {new : Nat → Prop} : Inv X env mem (fun i => al i ∨ new i) tmps w β ok :=
  (h.update (mem' := mem) (al' := fun i => al i ∨ new i) (β' := β) (ok' := ok) (fun _ => False) (fun _ h => .inl h) (fun _ h => h.elim) (fun _ _ => rfl) (fun _ _ => rfl) (fun _ h => h.elim) (fun _ h => h.elim) (fun b _ _ => rfl) (Nat.le_refl _)
    (fun _ h => h) (fun _ h => .inl h) (fun _ _ h => h.elim) (fun _ _ h => h.elim) (fun _ _ _ h => h.elim) (fun _ _ h => h.elim) rfl rfl rfl).2
theorem _root_.Go.Sk.Inv.alExt (h : Inv X env mem al tmps w β ok) {new : Nat → Prop} : Ext w ok X.rd β (kds mem) al w ok β (kds mem) (fun i => al i ∨ new i) :=
  ⟨fun _ _ => rfl, fun _ _ => rfl, fun _ h => h, fun _ _ => .inl rfl, fun _ _ _ => rfl, fun _ h => .inl h⟩
variable (ds : List Deferred) (C : Cfg) (h : Inv X env mem al tmps w β ok) {new : Nat → Prop} {out : Out} {ty : TypeId} {id : Nat} {dst : Option Tmp} {pos : String} {aft : Array Edge} {gd : Option (Nat × Bool)}
include h
theorem left_convert {s d : TypeId} {x : Operand} (hr : (semOp P C (.convert s d x) ty (⟨env, mem⟩ : St).ev id).run1 mem = some out) : Left P X env mem al tmps w new (execOp (⟨tmps, ds⟩ : Act).eval ⟨dst, .convert s d x, ty, pos, aft, gd⟩) out := by
  simp only [semOp] at hr
  split at hr
  · rename_i b ha
    cases hd : (isStrT P s && isBytesT P d) with
    | false =>
      rw [hd] at hr
      exact left_one h hr fun z hz => rel_convC h.obj hz (ev_one ds h ha)
    | true =>
      rw [hd] at hr
      obtain rfl := ret_run1 (m := mem) hr
      rw [Bool.and_eq_true] at hd
      obtain ⟨e, hu, he⟩ := isBytesT_spec hd.2
      have hs : P.underlying s = some .string := by
        have := hd.1
        unfold isStrT at this
        split at this
        · assumption
        · cases this
      have hv := (ev_one ds h ha).str_inv
      have hrun := Lib.run_convert_string_bytes (P := P) w s d e b hs hu he
      have hI := h.newData (w' := Lib.bytesWorld w e b) (fun q hq => Lib.bytesWorld_at_old w e b q hq) (Lib.bytesWorld_size w e b) rfl rfl rfl
      have hA := hI.alMono' (new := new)
      have hlen : (b.data.toList.map fun c => (c.toNat : Int)).length = b.size := by rw [List.length_map, Array.length_toList]; rfl
      refine .value (s := Go.convert s d ((⟨tmps, ds⟩ : Act).eval x)) (by rw [hv]; exact hrun) hA (.one _ _ ?_)
      rw [← hlen]
      exact .slc _ _ _ _ (by rw [hlen]; exact grownCap_ge w b.size 0 e) bytes_row
  · rename_i a _ ha
    exact left_one h hr fun z hz => rel_convC h.obj hz (ev_one ds h ha)
  · cases hr
/-! ### arrays -/
theorem left_index {t : TypeId} {x i : Operand} (hr : (semOp P C (.index t x i) ty (⟨env, mem⟩ : St).ev id).run1 mem = some out) : Left P X env mem al tmps w new (execOp (⟨tmps, ds⟩ : Act).eval ⟨dst, .index t x i, ty, pos, aft, gd⟩) out := by
  simp only [semOp] at hr
  split at hr
  · rename_i s k n hu ha hi
    simp only [Rd.run1_opt] at hr
    cases hb : byteAt s n with
    | none => rw [hb] at hr; cases hr
    | some b =>
      rw [hb] at hr
      simp only [Option.bind_some, Rd.run1_ret, Option.some.injEq] at hr
      subst hr
      refine .read h (s := Instr.index t ((⟨tmps, ds⟩ : Act).eval x) ((⟨tmps, ds⟩ : Act).eval i)) (v := .int .u8 b) ?_ (.one _ _ (.int _ _))
      rw [ev_int ds h hi, (ev_one ds h ha).str_inv]
      unfold byteAt at hb
      split at hb
      · rename_i h0
        cases hs : s[n.toNat]? with
        | none => rw [hs] at hb; cases hb
        | some q =>
          rw [hs] at hb
          simp at hb
          subst hb
          simp [Instr.index, run_underlying hu, asIntOf, h0, hs]
      · cases hb
  · rename_i n e cs k q hu ha hi
    split at hr
    · rename_i sz g hsz hg
      have hev := h.ev ds x none
      rw [ha] at hev
      obtain ⟨us, hx, hl⟩ := hev.agg'
      have hi' := ev_int ds h hi
      have base : ∀ (v : Value), (part e us.toArray (q.toNat * sz)).run P w = .ok v w → 0 ≤ q → q < n → (Instr.index t ((⟨tmps, ds⟩ : Act).eval x) ((⟨tmps, ds⟩ : Act).eval i)).run P w = .ok v w := by
        intro v hv h0 h1
        rw [hx, hi']
        simp [Instr.index, run_underlying hu, asIntOf, h0, h1, run_sizeAt hsz, hv]
      unfold indexA at hr
      split at hr
      · rename_i te hte
        obtain ⟨hts, hr⟩ := bif_fail hr
        simp at hts
        split at hr
        · rename_i xs hxs
          simp only [Rd.run1_opt] at hr
          cases hk : idx xs q with
          | none => rw [hk] at hr; cases hr
          | some y =>
            rw [hk, Option.bind_some] at hr
            obtain ⟨v, hv, hr⟩ := bind_run1 hr
            obtain rfl := ret_run1 hr
            obtain ⟨hlen, hrows⟩ := chunk_rel n hxs hl
            unfold idx at hk
            split at hk
            · rename_i h0
              have hlt := (List.getElem?_eq_some_iff.1 hk).1
              obtain ⟨vs, hvl, hvr, hvu⟩ := hrows _ _ hk
              have hsub : (us.drop (q.toNat * sz)).take sz = vs := by
                apply List.ext_getElem?
                intro j
                rw [List.getElem?_take]
                split
                · rename_i hj
                  have hj' : j < vs.length := by omega
                  rw [List.getElem?_drop, List.getElem?_eq_getElem hj']
                  have := hvu j _ (List.getElem?_eq_getElem hj')
                  rw [hts] at this
                  exact this
                · rw [List.getElem?_eq_none (by omega)]
              rcases rel_mkV (c := ⟨w, ok, X.rd, β, mem, al⟩) hv (rel_enc hvr) with ⟨rfl, hv'⟩ | ⟨rfl, u, hu', hv'⟩
              · refine .read h (base _ ?_ h0 (by omega)) hv'
                unfold part
                simp only [Sem.run_bind, run_aggAt hg, run_sizeAt hsz, Result.andThen_ok, if_true, Sem.run_pure]
                congr 2
                rw [← hsub]
                simp [List.extract_eq_take_drop, List.take_drop]
              · refine .read h (base u ?_ h0 (by omega)) hv'
                have h1 : us[q.toNat * sz]? = some u := by
                  have := hvu 0 u (by rw [hu']; rfl)
                  rw [hts] at this
                  simpa using this
                unfold part
                simp [run_aggAt hg, h1]
            · cases hk
        · cases hr
      · rename_i hte
        obtain ⟨hc, hr2⟩ := bif_fail hr
        simp only [Bool.and_eq_true, beq_iff_eq, Bool.not_eq_true'] at hc
        obtain ⟨⟨hcl, rfl⟩, rfl⟩ := hc
        obtain ⟨c, hc, hr3⟩ := bind_run1 hr2
        obtain rfl := ret_run1 hr3
        have key : ∀ (l : List CV) (j : Nat), (pickC l j q).run1 mem = some c → ∃ m : Nat, l[m]? = some c ∧ q = ((j + m : Nat) : Int) := by
          intro l
          induction l with
          | nil => intro j hj; cases hj
          | cons d r ih =>
            intro j hj
            simp only [pickC, Rd.run1_split] at hj
            cases hq : (q == (j : Int)) with
            | true =>
              rw [hq] at hj
              obtain rfl := ret_run1 (m := mem) hj
              exact ⟨0, rfl, by simpa using hq⟩
            | false =>
              rw [hq] at hj
              obtain ⟨m, h1, h2⟩ := ih (j + 1) hj
              exact ⟨m + 1, h1, by rw [h2]; congr 1; omega⟩
        obtain ⟨m, hm, hq⟩ := key cs 0 hc
        have hlt : m < us.length := by rw [hl.1]; exact (List.getElem?_eq_some_iff.1 hm).1
        rw [Nat.zero_add] at hq
        refine .read h (base us[m] ?_ (by omega) (by have := hl.1; omega)) (.one _ _ (hl.2 m c _ hm (List.getElem?_eq_getElem hlt)))
        have h1 : us[q.toNat * 1]? = some us[m] := by
          rw [show q.toNat * 1 = m by omega]
          exact List.getElem?_eq_getElem hlt
        unfold part
        simp only [Nat.mul_one] at h1
        simp [run_aggAt hg, h1]
    · cases hr
  · cases hr
omit h in
theorem arrayAt_spec {t : TypeId} {n sz : Nat} {e : TypeId} (h : arrayAt P t = some (n, e, sz)) : P.underlying t = some (.array n e) ∧ sizeAt P e = some sz ∧ 0 < sz := by
  unfold arrayAt at h
  split at h
  · split at h
    · rename_i hs
      simp at h
      obtain ⟨rfl, rfl, rfl⟩ := h
      exact ⟨by assumption, hs, Nat.succ_pos _⟩
    · cases h
  · cases h
omit h in
theorem rel_indexPtr (ho : ∀ i, ObjRel w ok X.rd β (kds mem) al i (mem.getD i .dead)) {t e : TypeId} {n sz : Nat} (hA : arrayAt P t = some (n, e, sz)) {te : Option Ty} {k : IntKind} {q : Int} {x z : CV} {a : Value}
    (hz : (indexPtr te n sz x q).run1 mem = some z) (ha : RelC w ok X.rd β (kds mem) al x a) : ∃ v, (Instr.indexAt t a (.int k q)).run P w = .ok v w ∧ RelC w ok X.rd β (kds mem) al z v := by
  obtain ⟨hu, hsz, hpos⟩ := arrayAt_spec hA
  have base : ∀ (b o : Nat), 0 ≤ q → q < n → (Instr.indexAt t (.pointer (some ⟨b, o, none⟩)) (.int k q)).run P w = .ok (.pointer (some ⟨b, o + q.toNat * sz, none⟩)) w := by
    intro b o h0 h1
    simp [Instr.indexAt, run_underlying hu, asIntOf, Instr.sureAddr, run_sizeAt hsz, h0, h1, addr_add]
  cases x <;> simp only [indexPtr, Rd.run1_fail] at hz <;> try (cases hz; done)
  case ptr i o =>
    simp only [Rd.run1_get] at hz
    cases hm : mem.getD i .dead <;> rw [hm] at hz <;> simp only [Rd.run1_fail] at hz <;> try (cases hz; done)
    obtain ⟨hg, hz⟩ := guard_run1 hz
    obtain rfl := ret_run1 hz
    simp only [Bool.and_eq_true, decide_eq_true_eq] at hg
    have hal : al i := by cases ha; assumption
    obtain ⟨b, hb, rfl⟩ := ha.ptr_inv (by show (mem.getD i .dead).kd = _; rw [hm]; rfl)
    exact ⟨_, base b o hg.1 hg.2, .ptr _ _ _ hal (fun _ => ⟨b, hb, rfl⟩) rfl⟩
  case eptr i j o =>
    simp only [Rd.run1_get] at hz
    cases hm : mem.getD i .dead <;> rw [hm] at hz <;> simp only [Rd.run1_fail] at hz <;> try (cases hz; done)
    all_goals
      rename_i t' xs'
      obtain ⟨hg, hz⟩ := guard_run1 hz
      obtain rfl := ret_run1 hz
      simp only [Bool.and_eq_true, decide_eq_true_eq] at hg
      have hal : al i := by cases ha; assumption
      have hk : kds mem i = .row t' := by show (mem.getD i .dead).kd = _; rw [hm]; rfl
      obtain ⟨b, p, m, c1, hb, rfl⟩ := ha.eptr_inv t' hk
      exact ⟨_, base b _ hg.1 hg.2, .eptr _ _ _ _ hal (fun t2 h2 => by rw [hk] at h2; cases h2; exact ⟨b, p, m, c1, hb, by rw [Nat.add_assoc]⟩) rfl⟩
  case rptr cs =>
    split at hz
    · rename_i te'
      obtain ⟨hts, hz⟩ := bif_fail hz
      simp at hts
      split at hz
      · rename_i xs hxs
        simp only [Rd.run1_opt, Rd.run1_ret] at hz
        cases hk : idx xs q with
        | none => rw [hk] at hz; cases hz
        | some y =>
          rw [hk, Option.bind_some, Option.some.injEq] at hz
          subst hz
          obtain ⟨b, o, us, rfl, hb, hl, hcell, hr⟩ : ∃ (b o : Nat) (us : List Value), a = .pointer (some ⟨b, o, none⟩) ∧ (ok b ∨ X.rd b) ∧ us.length = cs.length ∧ (∀ (j : Nat) u, us[j]? = some u → w.cell? ⟨b, o + j, none⟩ = some u) ∧
              (∀ (j : Nat) d u, cs[j]? = some d → us[j]? = some u → RelC w ok X.rd β (kds mem) al d u) := by
            cases ha; exact ⟨_, _, _, rfl, by assumption, by assumption, by assumption, by assumption⟩
          obtain ⟨hlen, hrows⟩ := chunk_rel n hxs (RelL.take (⟨hl, hr⟩ : RelL w ok X.rd β (kds mem) al cs us) (n * sz))
          unfold idx at hk
          split at hk
          · rename_i h0
            have hlt := (List.getElem?_eq_some_iff.1 hk).1
            obtain ⟨vs, hvl, hvr, hvu⟩ := hrows _ _ hk
            refine ⟨_, base b o h0 (by omega), .rptr _ _ _ vs hb (rel_enc (rd := X.rd) (β := β) (kd := kds mem) (al := al) hvr).1 (fun j u hj => ?_) (rel_enc hvr).2⟩
            have := hvu j u hj
            rw [List.getElem?_take] at this
            split at this
            · have := hcell _ _ this
              rw [hts] at this
              rw [Nat.add_assoc]
              exact this
            · cases this
          · cases hk
      · cases hz
    · cases hz
theorem left_indexAddr {t : TypeId} {x i : Operand} (hr : (semOp P C (.indexAddr t x i) ty (⟨env, mem⟩ : St).ev id).run1 mem = some out) : Left P X env mem al tmps w new (execOp (⟨tmps, ds⟩ : Act).eval ⟨dst, .indexAddr t x i, ty, pos, aft, gd⟩) out := by
  simp only [semOp] at hr
  split at hr
  · rename_i a k n sz _ ha hi hsz
    refine left_one h hr (s := Instr.indexAt t ((⟨tmps, ds⟩ : Act).eval x) ((⟨tmps, ds⟩ : Act).eval i)) fun z hz => ?_
    rw [ev_int ds h hi]
    exact rel_indexAddr (P := P) (c := ⟨w, ok, X.rd, β, mem, al⟩) h.objs hsz hz (ev_one ds h ha)
  · rename_i a k q n e sz ha hi hsz hA
    refine left_one h hr (s := Instr.indexAt t ((⟨tmps, ds⟩ : Act).eval x) ((⟨tmps, ds⟩ : Act).eval i)) fun z hz => ?_
    rw [ev_int ds h hi]
    exact rel_indexPtr (P := P) h.obj hA hz (ev_one ds h ha)
  · cases hr
theorem left_slice {t : TypeId} {x : Operand} {l hi m : Option Operand} (hr : (semOp P C (.slice t x l hi m) ty (⟨env, mem⟩ : St).ev id).run1 mem = some out) : Left P X env mem al tmps w new (execOp (⟨tmps, ds⟩ : Act).eval ⟨dst, .slice t x l hi m, ty, pos, aft, gd⟩) out := by
  simp only [semOp] at hr
  split at hr
  · rename_i a lx hx mx ha hl hh hm
    have bl := BV_of ds h hl
    have bh := BV_of ds h hh
    have bm := BV_of ds h hm
    split at hr
    · rename_i s hu
      refine left_one h hr (s := Instr.sliceAt t ((⟨tmps, ds⟩ : Act).eval x) (l.map (⟨tmps, ds⟩ : Act).eval) (hi.map (⟨tmps, ds⟩ : Act).eval) (m.map (⟨tmps, ds⟩ : Act).eval)) fun z hz => ?_
      rw [(ev_one ds h ha).str_inv]
      exact rel_sliceS (P := P) (c := ⟨w, ok, X.rd, β, mem, al⟩) hu bl bh bm hz
    · rename_i e c hu
      split at hr
      · rename_i sz hsz
        split at hr
        · rename_i i mm
          obtain ⟨ws, hws, hr⟩ := bind_run1 hr
          obtain ⟨ok', ext, hI, _, hall, _⟩ := freeze_sound [i] mem (Froze.refl mem) h hws
          have hev := (ev_one ds h ha).mono ext
          obtain ⟨tf, xf, hfz⟩ := hall i (by simp)
          have hob := hI.obj i
          rw [hfz] at hob
          have hkd : kds (wrs mem ws) i = .row tf := by show ((wrs mem ws).getD i .dead).kd = _; rw [hfz]; rfl
          obtain ⟨A, cp, hb, hle, hrow⟩ := hob
          simp at hb
          have hval : (⟨tmps, ds⟩ : Act).eval x = β i := hev.osl_inv (by rw [hkd]; simp)
          have same : ∀ {t' : Ty} {xs' : List (El t')}, (mem.getD i .dead = .row t' xs' ∨ mem.getD i .dead = .frz t' xs') → (sliceD t' xs' (lx.getD 0) hx (some mm)).bind (fun c => (.ret ⟨.one c, ws⟩ : Rd Out)) = (sliceD tf xf (lx.getD 0) hx (some mm)).bind (fun c => (.ret ⟨.one c, ws⟩ : Rd Out)) ∧ t'.size = tf.size := by
            intro t' xs' hm'
            have hx2 : (wrs mem ws).getD i .dead = .frz t' xs' := by
              have hws' := hws
              simp only [freeze, Rd.run1_get] at hws'
              rcases hm' with hm' | hm'
              · rw [hm'] at hws'
                obtain ⟨w2, hw2, hws'⟩ := bind_run1 hws'
                obtain rfl := ret_run1 hws'
                obtain rfl := ret_run1 hw2
                show (wr mem i (.frz t' xs')).getD i .dead = _
                rw [wr_getD, if_pos rfl]
              · rw [hm'] at hws'
                obtain rfl := ret_run1 hws'
                exact hm'
            rw [hfz] at hx2
            cases hx2
            exact ⟨rfl, rfl⟩
          have fin : ∀ (hs : tf.size = sz), ((sliceD tf xf (lx.getD 0) hx (some mm)).bind fun c => (.ret ⟨.one c, ws⟩ : Rd Out)).run1 mem = some out → Left P X env mem al tmps w new (execOp (⟨tmps, ds⟩ : Act).eval ⟨dst, .slice t x l hi m, ty, pos, aft, gd⟩) out := by
            intro hs hr
            obtain ⟨z, hz, hr⟩ := bind_run1 hr
            obtain rfl := ret_run1 hr
            have hz' : (sliceD tf xf (lx.getD 0) hx (some mm)).run1 (wrs mem ws) = some z := by
              unfold sliceD at hz ⊢
              cases hx with
              | none => cases hz
              | some hq => exact hz
            obtain ⟨v, hv, hc⟩ := rel_sliceD (P := P) (c := ⟨w, ok', X.rd, β, wrs mem ws, al⟩) hu hsz hs hle hrow bl bh bm hz'
            refine .value (s := Instr.sliceAt t ((⟨tmps, ds⟩ : Act).eval x) (l.map (⟨tmps, ds⟩ : Act).eval) (hi.map (⟨tmps, ds⟩ : Act).eval) (m.map (⟨tmps, ds⟩ : Act).eval)) (by rw [hval, hb]; exact hv) (hI.alMono' (new := new)) (.one _ _ ?_)
            exact hc.mono (hI.alExt (new := new))
          simp only [Rd.run1_get] at hr
          cases hm' : mem.getD i .dead <;> rw [hm'] at hr <;> simp only [Rd.run1_fail] at hr <;> try (cases hr; done)
          · obtain ⟨hs, hr⟩ := bif_fail hr
            obtain ⟨e1, e2⟩ := same (.inl hm')
            rw [e1] at hr
            exact fin (by rw [← e2]; simpa using hs) hr
          · obtain ⟨hs, hr⟩ := bif_fail hr
            obtain ⟨e1, e2⟩ := same (.inr hm')
            rw [e1] at hr
            exact fin (by rw [← e2]; simpa using hs) hr
        · exact left_one h hr (s := Instr.sliceAt t ((⟨tmps, ds⟩ : Act).eval x) (l.map (⟨tmps, ds⟩ : Act).eval) (hi.map (⟨tmps, ds⟩ : Act).eval) (m.map (⟨tmps, ds⟩ : Act).eval)) fun z hz =>
            rel_sliceC (P := P) (c := ⟨w, ok, X.rd, β, mem, al⟩) h.objs hu hsz bl bh bm hz (ev_one ds h ha)
      · cases hr
    · cases hr
  · cases hr
end
end Go.Sk

/- Runs of operations with their calls and their reads, and all operations but calls of functions at once. -/
set_option linter.unusedSimpArgs false
set_option linter.unusedVariables false
set_option linter.unusedSectionVars false
namespace Go.Sk
open Go

@[reducible] def CallF := (f : FuncId) → List V → List Obj → (ρ : RD) → Option ρ.El
/-- with calls, and what is read -/
def Rd.runL {α : Type} (call : CallF) (m : List Obj) : Rd α → List Nat → Option (α × List Nat)
  | .ret a, l => some (a, l)
  | .fail, _ => none
  | .get i f, l => (f (m.getD i .dead)).runL call m (i :: l)
  | .guard c x, l => bif c then x.runL call m l else none
  | .split c x y, l => bif c then x.runL call m l else y.runL call m l
  | .opt _ o f, l => o.bind fun x => (f x).runL call m l
  | .call f asv me ρ g, l => (call f asv me ρ).bind fun x => (g x).runL call m l
/-- with calls -/
def Rd.runC {α : Type} (call : CallF) (m : List Obj) : Rd α → Option α
  | .ret a => some a
  | .fail => none
  | .get i f => (f (m.getD i .dead)).runC call m
  | .guard c x => bif c then x.runC call m else none
  | .split c x y => bif c then x.runC call m else y.runC call m
  | .opt _ o f => o.bind fun x => (f x).runC call m
  | .call f asv me ρ g => (call f asv me ρ).bind fun x => (g x).runC call m
/-- no call -/
def Rd.CF {α : Type} : Rd α → Prop
  | .ret _ => True
  | .fail => True
  | .get _ f => ∀ o, (f o).CF
  | .guard _ x => x.CF
  | .split _ x y => x.CF ∧ y.CF
  | .opt _ _ f => ∀ x, (f x).CF
  | .call .. => False

section
variable {call : CallF} {m : List Obj}
theorem toTree_interp {α R : Type} {leaf : List KI → St → Option R} {fin : V → List Obj → Option R} (r : Rd α) : ∀ (l : List Nat) (k : α → List Nat → Tree),
    (r.toTree m l k).interp call leaf fin = (r.runL call m l).bind fun p => (k p.1 p.2).interp call leaf fin := by
  induction r with
  | ret a => intro l k; rfl
  | fail => intro l k; rfl
  | get i f ih => intro l k; exact ih _ _ _
  | guard c x ih => intro l k; cases c <;> simp [Rd.toTree, Tree.interp, Rd.runL, ih]
  | split c x y ihx ihy => intro l k; cases c <;> simp [Rd.toTree, Tree.interp, Rd.runL, ihx, ihy]
  | opt t o f ih => intro l k; cases o <;> simp [Rd.toTree, Tree.interp, Rd.runL, ih]
  | call f asv me ρ g ih =>
    intro l k
    simp only [Rd.toTree, Tree.interp, Rd.runL]
    cases call f asv me ρ <;> simp [ih]
theorem runL_runC {α : Type} (r : Rd α) : ∀ {l l' : List Nat} {a : α}, r.runL call m l = some (a, l') → r.runC call m = some a := by
  induction r with
  | ret a => intro l l' b h; simp [Rd.runL] at h; simp [Rd.runC, h.1]
  | fail => intro l l' b h; cases h
  | get i f ih => intro l l' b h; exact ih _ h
  | guard c x ih => intro l l' b h; cases c <;> simp [Rd.runL, Rd.runC] at h ⊢; exact ih h
  | split c x y ihx ihy => intro l l' b h; cases c <;> simp [Rd.runL, Rd.runC] at h ⊢ <;> first | exact ihy h | exact ihx h
  | opt t o f ih => intro l l' b h; cases o <;> simp [Rd.runL, Rd.runC] at h ⊢; exact ih _ h
  | call f asv me ρ g ih =>
    intro l l' b h
    simp only [Rd.runL, Rd.runC] at h ⊢
    cases hc : call f asv me ρ with
    | none => rw [hc] at h; cases h
    | some x => rw [hc] at h; exact ih _ h
theorem runC_bind {α β : Type} (x : Rd α) (f : α → Rd β) : (x.bind f).runC call m = (x.runC call m).bind fun a => (f a).runC call m := by
  induction x with
  | ret a => rfl
  | fail => rfl
  | get i k ih => exact ih _
  | guard c k ih => cases c <;> simp [Rd.bind, Rd.runC, ih]
  | split c p q ihp ihq => cases c <;> simp [Rd.bind, Rd.runC, ihp, ihq]
  | opt t o k ih => cases o <;> simp [Rd.bind, Rd.runC, ih]
  | call f asv me ρ g ih => simp only [Rd.bind, Rd.runC]; cases call f asv me ρ <;> simp [ih]
theorem runC_CF {α : Type} (r : Rd α) : r.CF → r.runC call m = r.run1 m := by
  induction r with
  | ret a => intro _; rfl
  | fail => intro _; rfl
  | get i f ih => intro h; exact ih _ (h _)
  | guard c x ih => intro h; cases c <;> simp [Rd.runC, Rd.run1]; exact ih h
  | split c x y ihx ihy => intro h; cases c <;> simp [Rd.runC, Rd.run1] <;> first | exact ihy h.2 | exact ihx h.1
  | opt t o f ih => intro h; cases o <;> simp [Rd.runC, Rd.run1]; exact ih _ (h _)
  | call f asv me ρ g ih => intro h; exact h.elim
/-- what is not read does not matter -/
theorem runL_sub {α : Type} (r : Rd α) : ∀ {l l' : List Nat} {a : α}, r.runL call m l = some (a, l') → ∀ i ∈ l, i ∈ l' := by
  induction r with
  | ret a => intro l l' b h; simp [Rd.runL] at h; rw [h.2]; exact fun _ h => h
  | fail => intro l l' b h; cases h
  | get i f ih => intro l l' b h j hj; exact ih _ h j (by simp [hj])
  | guard c x ih => intro l l' b h; cases c <;> simp [Rd.runL] at h; exact ih h
  | split c x y ihx ihy => intro l l' b h; cases c <;> simp [Rd.runL] at h <;> first | exact ihy h | exact ihx h
  | opt t o f ih => intro l l' b h; cases o <;> simp [Rd.runL] at h; exact ih _ h
  | call f asv me ρ g ih =>
    intro l l' b h
    simp only [Rd.runL] at h
    cases hc : call f asv me ρ with
    | none => rw [hc] at h; cases h
    | some x => rw [hc] at h; exact ih _ h
theorem runL_congr {α : Type} {m' : List Obj} (r : Rd α) : ∀ {l l' : List Nat} {a : α}, r.runL call m l = some (a, l') → (∀ i ∈ l', m'.getD i .dead = m.getD i .dead) → r.runL call m' l = some (a, l') := by
  induction r with
  | ret a => intro l l' b h _; exact h
  | fail => intro l l' b h; cases h
  | get i f ih =>
    intro l l' b h hm
    simp only [Rd.runL] at h ⊢
    rw [hm i (runL_sub _ h i (by simp))]
    exact ih _ h hm
  | guard c x ih => intro l l' b h hm; cases c <;> simp [Rd.runL] at h ⊢; exact ih h hm
  | split c x y ihx ihy => intro l l' b h hm; cases c <;> simp [Rd.runL] at h ⊢ <;> first | exact ihy h hm | exact ihx h hm
  | opt t o f ih => intro l l' b h hm; cases o <;> simp [Rd.runL] at h ⊢; exact ih _ h hm
  | call f asv me ρ g ih =>
    intro l l' b h hm
    simp only [Rd.runL] at h ⊢
    cases hc : call f asv me ρ with
    | none => rw [hc] at h; cases h
    | some x => rw [hc] at h; exact ih _ h hm

theorem CF_bind {α β : Type} {x : Rd α} {f : α → Rd β} (hx : x.CF) (hf : ∀ a, (f a).CF) : (x.bind f).CF := by
  induction x with
  | ret a => exact hf a
  | fail => trivial
  | get i k ih => exact fun o => ih o (hx o)
  | guard c k ih => exact ih hx
  | split c p q ihp ihq => exact ⟨ihp hx.1, ihq hx.2⟩
  | opt t o k ih => exact fun x => ih x (hx x)
  | call f asv me ρ g ih => exact hx.elim
theorem CF_ret {α : Type} (a : α) : (Rd.ret a).CF := trivial
theorem CF_fail {α : Type} : (Rd.fail : Rd α).CF := trivial
theorem CF_get {α : Type} {i : Nat} {f : Obj → Rd α} (h : ∀ o, (f o).CF) : (Rd.get i f).CF := h
theorem CF_guard {α : Type} {c : Bool} {x : Rd α} (h : x.CF) : (Rd.guard c x).CF := h
theorem CF_split {α : Type} {c : Bool} {x y : Rd α} (h : x.CF) (g : y.CF) : (Rd.split c x y).CF := ⟨h, g⟩
theorem CF_opt {α : Type} {t : Ty} {o : Option (El t)} {f : El t → Rd α} (h : ∀ x, (f x).CF) : (Rd.opt t o f).CF := h
theorem CF_ofOption {α : Type} (o : Option α) : (Rd.ofOption o).CF := by cases o <;> trivial
theorem CF_bif {α : Type} {c : Bool} {x y : Rd α} (h : x.CF) (g : y.CF) : (bif c then x else y).CF := by cases c <;> assumption

theorem CF_mapR {α β : Type} {f : α → Rd β} (h : ∀ a, (f a).CF) : ∀ l, (mapR f l).CF
  | [] => trivial
  | a :: r => CF_bind (h a) fun _ => CF_bind (CF_mapR h r) fun _ => trivial
theorem CF_catR {α β : Type} {f : α → Rd (List β)} (h : ∀ a, (f a).CF) : ∀ l, (catR f l).CF
  | [] => trivial
  | a :: r => CF_bind (h a) fun _ => CF_bind (CF_catR h r) fun _ => trivial
theorem CF_dataC (c : CV) : (dataC c).CF := by
  cases c <;> simp only [dataC] <;> try trivial
  · exact fun o => by cases o <;> trivial
  · exact fun o => by cases o <;> first | trivial | exact CF_bif (CF_ret _) CF_fail
theorem CF_dataCs (cs : List CV) : (dataCs cs).CF := CF_mapR CF_dataC cs
theorem CF_pureC : ∀ (d : Nat) (c : CV), (pureC d c).CF
  | 0, _ => trivial
  | d + 1, c => by
    cases c <;> simp only [pureC] <;> try first | trivial | exact CF_dataC _
    · exact fun o => by cases o <;> first | trivial | exact CF_bind (CF_mapR (CF_pureC d) _) fun _ => trivial
    · exact fun o => by cases o <;> first | trivial | exact fun _ => trivial
    · exact CF_bind (CF_mapR (CF_pureC d) _) fun _ => trivial
    · exact CF_bind (CF_mapR (CF_pureC d) _) fun _ => trivial
theorem CF_pureV (v : V) : (pureV v).CF := by
  cases v <;> simp only [pureV, pureCs]
  · exact CF_bind (CF_pureC 6 _) fun _ => trivial
  · exact CF_bind (CF_mapR (CF_pureC 6) _) fun _ => trivial
  · trivial
theorem CF_pureVs : ∀ vs, (pureVs vs).CF
  | [] => trivial
  | v :: r => CF_bind (CF_pureV v) fun _ => CF_bind (CF_pureVs r) fun _ => trivial
theorem CF_rowsC : ∀ (d : Nat) (c : CV), (rowsC d c).CF
  | 0, _ => trivial
  | d + 1, c => by
    cases c <;> simp only [rowsC] <;> try trivial
    · exact fun o => by cases o <;> first | trivial | exact CF_catR (CF_rowsC d) _
    · exact CF_catR (CF_rowsC d) _
    · exact CF_catR (CF_rowsC d) _
theorem CF_rowsVs : ∀ vs, (rowsVs vs).CF
  | [] => trivial
  | v :: r => CF_bind (CF_catR (CF_rowsC 6) _) fun _ => CF_bind (CF_rowsVs r) fun _ => trivial
theorem CF_freeze : ∀ is, (freeze is).CF
  | [] => trivial
  | i :: r => fun o => by cases o <;> first | trivial | exact CF_freeze r | exact CF_bind (CF_freeze r) fun _ => trivial
theorem CF_loadC (n : Nat) (c : CV) : (loadC n c).CF := by
  cases c <;> simp only [loadC] <;> try trivial
  · exact fun o => by cases o <;> trivial
  · exact fun o => by cases o <;> first | trivial | exact fun _ => trivial
theorem CF_mkV (g : Bool) (cs : List CV) : (mkV g cs).CF := by
  unfold mkV; split <;> trivial
theorem CF_intOp (op : BinOp) (k : IntKind) (a b : Int) : (intOp op k a b).CF := by cases op <;> trivial
theorem CF_shiftOp (op : BinOp) (k : IntKind) (a b : Int) : (shiftOp op k a b).CF := by cases op <;> trivial
theorem CF_strOp (op : BinOp) (a b : ByteArray) : (strOp op a b).CF := by cases op <;> trivial
theorem CF_binC (op : BinOp) (bt st : Bool) (x y : CV) : (binC op bt st x y).CF := by
  unfold binC
  split
  · split <;> trivial
  · split
    · exact CF_shiftOp _ _ _ _
    · exact CF_shiftOp _ _ _ _
    · split
      · exact CF_intOp _ _ _ _
      · trivial
  · exact CF_strOp _ _ _
  · split <;> trivial
  · trivial
theorem CF_binA (P : Program) (op : BinOp) (t : TypeId) (cs ds : List CV) : (binA P op t cs ds).CF := by
  unfold binA
  split
  · refine CF_bif CF_fail ?_
    split <;> trivial
  · trivial
theorem CF_unC (op : UnOp) (x : CV) : (unC op x).CF := by unfold unC; split <;> trivial
theorem CF_elems (t : Ty) (c : CV) : (elems t c).CF := by
  cases c <;> simp only [elems] <;> try first | trivial | exact CF_ofOption _
  · exact fun o => by cases o <;> first | trivial | exact CF_ofOption _
  · exact fun o => by cases o <;> first | trivial | exact CF_bind (CF_ofOption _) fun _ => CF_guard (CF_ret _)
theorem CF_srcElems (t : Ty) (c : CV) : (srcElems t c).CF := by
  cases c <;> simp only [srcElems] <;> try exact CF_elems _ _
  unfold strElems; split <;> trivial
theorem CF_lenS (c : CV) : (lenS c).CF := by
  cases c <;> simp only [lenS] <;> try trivial
  · exact fun o => by cases o <;> trivial
  · exact fun o => by cases o <;> trivial
theorem CF_lenM (c : CV) : (lenM c).CF := by
  cases c <;> simp only [lenM] <;> try trivial
  exact fun o => by cases o <;> trivial
theorem CF_lenC (P : Program) (t : TypeId) (c : CV) : (lenC P t c).CF := by
  unfold lenC
  split
  · split <;> trivial
  · split
    · exact CF_lenS _
    · exact CF_lenM _
    · trivial
theorem CF_indexAddrC (sz : Nat) (x : CV) (i : Int) : (indexAddrC sz x i).CF := by
  cases x <;> simp only [indexAddrC] <;> try trivial
  · exact CF_bif (fun _ => trivial) CF_fail
  · exact CF_bif (fun _ => trivial) CF_fail
  · exact fun o => by cases o <;> first | trivial | exact CF_bif (CF_guard (CF_ret _)) CF_fail
  · exact fun o => by cases o <;> first | trivial | exact CF_bif (CF_guard (CF_ret _)) CF_fail
theorem CF_fieldAddrC (off n : Nat) (x : CV) : (fieldAddrC off n x).CF := by
  unfold fieldAddrC
  split
  · trivial
  · split
    · exact fun o => by cases o <;> trivial
    · exact fun o => by cases o <;> trivial
    · trivial
    · trivial
theorem CF_fillC (pl : Nat → Option (Nat × Nat)) : ∀ (ps : List (Nat × V)) (cs : List CV), (fillC pl cs ps).CF
  | [], _ => trivial
  | (i, v) :: r, cs => by
    unfold fillC
    split
    · exact CF_bif (CF_fillC pl r _) CF_fail
    · trivial
theorem CF_sliceS (s : ByteArray) (l : Int) (h m : Option Int) : (sliceS s l h m).CF := by unfold sliceS; split <;> trivial
theorem CF_sliceD (t : Ty) (xs : List (El t)) (l : Int) (h m : Option Int) : (sliceD t xs l h m).CF := by
  unfold sliceD
  split
  · trivial
  · split <;> trivial
theorem CF_sliceC (sz : Nat) (x : CV) (l : Int) (h m : Option Int) : (sliceC sz x l h m).CF := by
  cases x <;> simp only [sliceC] <;> try trivial
  · exact CF_bif CF_fail (CF_guard (CF_ret _))
  · exact CF_bif (CF_sliceD _ _ _ _ _) CF_fail
  · exact CF_bif (CF_sliceD _ _ _ _ _) CF_fail
  · exact fun o => by
      cases o <;> try trivial
      · exact CF_bif (CF_guard (CF_ret _)) CF_fail
      · exact CF_bif (CF_sliceD _ _ _ _ _) CF_fail
  · exact fun o => by
      cases o <;> first | trivial | exact CF_bif (CF_guard (CF_ret _)) CF_fail
theorem CF_convC (P : Program) (s d : TypeId) (x : CV) : (convC P s d x).CF := by
  unfold convC
  split
  · trivial
  · trivial
  · exact CF_bif (CF_bind (CF_elems _ _) fun _ => trivial) CF_fail
  · trivial
theorem CF_pickC : ∀ (l : List CV) (j : Nat) (k : Int), (pickC l j k).CF
  | [], _, _ => trivial
  | _ :: r, j, k => CF_split (CF_ret _) (CF_pickC r (j + 1) k)
theorem CF_indexA (te : Option Ty) (n sz : Nat) (g : Bool) (cs : List CV) (k : Int) : (indexA te n sz g cs k).CF := by
  unfold indexA
  split
  · refine CF_bif ?_ CF_fail
    split
    · exact CF_opt fun _ => CF_bind (CF_mkV _ _) fun _ => trivial
    · trivial
  · exact CF_bif (CF_bind (CF_pickC _ _ _) fun _ => trivial) CF_fail
theorem CF_indexPtr (te : Option Ty) (n sz : Nat) (x : CV) (k : Int) : (indexPtr te n sz x k).CF := by
  cases x <;> simp only [indexPtr] <;> try trivial
  · exact fun o => by cases o <;> first | trivial | exact CF_guard (CF_ret _)
  · exact fun o => by cases o <;> first | trivial | exact CF_guard (CF_ret _)
  · split
    · refine CF_bif ?_ CF_fail
      split
      · exact CF_opt fun _ => trivial
      · trivial
    · trivial
theorem CF_capC (P : Program) (t : TypeId) (c : CV) : (capC P t c).CF := by
  unfold capC
  split
  · cases c <;> simp only [capS] <;> try trivial
    exact fun o => by cases o <;> trivial
  · trivial
theorem CF_appendC (P : Program) (t tx : TypeId) (x y : V) (id : Nat) : (appendC P t tx x y id).CF := by
  unfold appendC
  split
  · refine CF_bif CF_fail (CF_bind (CF_srcElems _ _) fun ys => ?_)
    split
    · trivial
    · exact CF_bind (CF_ofOption _) fun _ => trivial
    · exact fun o => by cases o <;> first | trivial | exact CF_bind (CF_ofOption _) fun _ => trivial
    · exact fun o => by cases o <;> first | trivial | exact CF_bind (CF_ofOption _) fun _ => CF_guard (CF_split (CF_ret _) (CF_guard (CF_ret _)))
    · trivial
  · trivial
theorem CF_appendZ (P : Program) (t : TypeId) (x y : V) (id : Nat) : (appendZ P t x y id).CF := by
  unfold appendZ
  split
  · split
    · exact fun o => by cases o <;> first | trivial | exact CF_bind (CF_ofOption _) fun _ => CF_guard (CF_ret _)
    · trivial
  · trivial
theorem CF_copyC (P : Program) (t tx : TypeId) (x y : V) : (copyC P t tx x y).CF := by
  unfold copyC
  split
  · refine CF_bif CF_fail (CF_bind (CF_srcElems _ _) fun ys => ?_)
    split
    · exact fun o => by cases o <;> first | trivial | exact CF_bind (CF_ofOption _) fun _ => trivial
    · exact fun o => by cases o <;> first | trivial | exact CF_bind (CF_ofOption _) fun _ => trivial
    · trivial
    · trivial
  · trivial
theorem CF_withMap {I : MapInfo} {m k : V} {f : Nat → List (El I.kt × El I.vt) → Bool → El I.kt → Rd Out} (h : ∀ i es t key, (f i es t key).CF) : (withMap I m k f).CF := by
  unfold withMap
  split
  · exact fun o => by
      cases o <;> try trivial
      refine CF_bif ?_ CF_fail
      split
      · exact h _ _ _ _
      · trivial
  · trivial
theorem CF_elemOf {I : MapInfo} {v : V} {f : El I.vt → List (Nat × Obj) → Rd Out} (h : ∀ x ws, (f x ws).CF) : (elemOf I v f).CF := by
  unfold elemOf
  refine CF_bif CF_fail (CF_bind (CF_dataCs _) fun _ => CF_bind (CF_freeze _) fun _ => ?_)
  split
  · exact h _ _
  · trivial
theorem CF_lookupC (P : Program) (t : TypeId) (m k : V) (c : Bool) : (lookupC P t m k c).CF := by
  unfold lookupC
  split
  · exact CF_withMap fun _ _ _ _ => CF_bind (CF_mkV _ _) fun _ => trivial
  · trivial
theorem CF_updateC (P : Program) (t : TypeId) (m k v : V) : (updateC P t m k v).CF := by
  unfold updateC
  split
  · exact CF_withMap fun _ _ _ _ => CF_elemOf fun _ _ => CF_bif CF_fail (CF_ret _)
  · trivial
theorem CF_entryC (P : Program) (t : TypeId) (m k : V) : (entryC P t m k).CF := by
  unfold entryC
  split
  · exact CF_withMap fun _ _ _ _ => CF_bif (CF_bind (CF_mkV _ _) fun _ => trivial) CF_fail
  · trivial
theorem CF_entryStoreC (P : Program) (t : TypeId) (m s v : V) : (entryStoreC P t m s v).CF := by
  unfold entryStoreC
  split
  · exact fun o => by
      cases o <;> try trivial
      refine CF_bif ?_ CF_fail
      split
      · exact CF_elemOf fun _ _ => CF_bif CF_fail (CF_guard (CF_ret _))
      · trivial
  · trivial
theorem CF_deleteC (P : Program) (t : TypeId) (m k : V) : (deleteC P t m k).CF := by
  unfold deleteC
  split
  · exact CF_withMap fun _ _ _ _ => trivial
  · trivial
theorem CF_makeMapC (P : Program) (t : TypeId) (r : Option V) (id : Nat) : (makeMapC P t r id).CF := by
  unfold makeMapC
  split
  · split <;> trivial
  · trivial
theorem CF_clearC (P : Program) (t : TypeId) (c : CV) : (clearC P t c).CF := by
  unfold clearC
  split
  · split
    · exact fun o => by cases o <;> first | trivial | exact CF_bind (CF_ofOption _) fun _ => trivial
    · exact fun o => by cases o <;> first | trivial | exact CF_bind (CF_ofOption _) fun _ => CF_guard (CF_ret _)
    · trivial
  · trivial
theorem CF_builtinC (P : Program) (b : Builtin) (ts : List TypeId) (vs : List V) (id : Nat) : (builtinC P b ts vs id).CF := by
  cases b <;> simp only [builtinC] <;> try trivial
  case len =>
    split
    · exact CF_bind (CF_lenC _ _ _) fun _ => trivial
    · trivial
  case cap =>
    split
    · exact CF_bind (CF_capC _ _ _) fun _ => trivial
    · trivial
  case append =>
    split
    · exact CF_bif (CF_appendZ _ _ _ _ _) (CF_appendC _ _ _ _ _ _)
    · trivial
  case copy =>
    split
    · exact CF_copyC _ _ _ _ _
    · trivial
  case clear =>
    split
    · exact CF_clearC _ _ _
    · trivial
  case delete =>
    split
    · exact CF_deleteC _ _ _ _
    · trivial
  all_goals
    split
    · split <;> trivial
    · trivial

/-- a call of a function -/
def Op.isCall : Op → Bool
  | .call { callee := .value _, .. } => true
  | _ => false

theorem CF_semOp (P : Program) (C : Cfg) (o : Op) (ty : TypeId) (ev : Operand → Option Ty → V) (id : Nat) (h : Op.isCall o = false) : (semOp P C o ty ev id).CF := by
  cases o
  case makeFunc fn first caps => cases fn <;> simp only [semOp] <;> first | trivial | exact CF_bif (CF_ret _) CF_fail
  all_goals simp only [semOp]
  all_goals try trivial
  all_goals try (split <;> first | trivial | exact CF_bind (CF_binC _ _ _ _ _) fun _ => trivial | exact CF_bind (CF_binA _ _ _ _ _) fun _ => trivial | exact CF_bind (CF_unC _ _) fun _ => trivial | exact CF_bind (CF_convC _ _ _ _) fun _ => trivial | exact CF_bind (CF_fieldAddrC _ _ _) fun _ => trivial | exact CF_bind (CF_indexAddrC _ _ _) fun _ => trivial | exact CF_split (CF_ret _) (CF_ret _))
  all_goals try exact CF_bif CF_fail (CF_ret _)
  all_goals try exact CF_bif (CF_ret _) CF_fail
  case «load» =>
    split
    · exact CF_bind (CF_loadC _ _) fun _ => CF_bif (CF_bind (CF_mkV _ _) fun _ => trivial) CF_fail
    · trivial
  case store =>
    split
    · refine CF_bif ?_ CF_fail
      split
      · exact fun o => by cases o <;> first | trivial | exact CF_bif (CF_ret _) CF_fail
      · exact fun o => by
          cases o <;> try trivial
          exact fun e => CF_bind (CF_dataCs _) fun ncs => CF_bind (CF_freeze _) fun ws => by
            split
            · exact CF_bif CF_fail (CF_ret _)
            · trivial
      · trivial
    · trivial
  case nilCheck =>
    split
    · exact fun o => by cases o <;> trivial
    · exact fun o => by cases o <;> trivial
    · trivial
    · trivial
    · trivial
  case slice =>
    split
    · split
      · exact CF_bind (CF_sliceS _ _ _ _) fun _ => trivial
      · split
        · split
          · exact CF_bind (CF_freeze _) fun _ => CF_get fun o => by cases o <;> first | trivial | exact CF_bif (CF_bind (CF_sliceD _ _ _ _ _) fun _ => trivial) CF_fail
          · exact CF_bind (CF_sliceC _ _ _ _ _) fun _ => trivial
        · trivial
      · trivial
    · trivial
  case convert =>
    split
    · exact CF_bif (CF_ret _) (CF_bind (CF_convC _ _ _ _) fun _ => trivial)
    · exact CF_bind (CF_convC _ _ _ _) fun _ => trivial
    · trivial
  case indexAddr =>
    split
    · exact CF_bind (CF_indexAddrC _ _ _) fun _ => trivial
    · exact CF_bind (CF_indexPtr _ _ _ _ _) fun _ => trivial
    · trivial
  case field =>
    split
    · exact CF_bif (CF_bind (CF_mkV _ _) fun _ => trivial) CF_fail
    · trivial
  case index =>
    split
    · exact fun _ => trivial
    · split
      · exact CF_indexA _ _ _ _ _ _
      · trivial
    · trivial
  case extract =>
    split
    · split <;> trivial
    · trivial
  case build =>
    split
    · exact CF_bif (CF_bind (CF_fillC _ _ _) fun _ => trivial) CF_fail
    · trivial
  case buildSlice =>
    split
    · split
      · refine CF_bif (CF_bind (CF_fillC _ _ _) fun _ => CF_bind (CF_dataCs _) fun _ => CF_bind (CF_freeze _) fun _ => ?_) CF_fail
        split <;> trivial
      · trivial
    · trivial
  case makeMap => exact CF_makeMapC _ _ _ _
  case lookup => exact CF_lookupC _ _ _ _ _
  case mapUpdate => exact CF_updateC _ _ _ _ _
  case insert => exact CF_updateC _ _ _ _ _
  case mapEntry => exact CF_entryC _ _ _ _
  case entryStore => exact CF_entryStoreC _ _ _ _ _
  case makeSlice =>
    split
    · split <;> trivial
    · trivial
  case call c =>
    split
    · exact CF_builtinC _ _ _ _ _
    · rename_i f hf
      obtain ⟨callee, _, _⟩ := c
      simp at hf
      subst hf
      simp [Op.isCall] at h
    · trivial
end
end Go.Sk

/- Calls of functions: what is handed over, what comes back; all operations at once. -/
set_option linter.unusedSimpArgs false
set_option linter.unusedVariables false
set_option linter.unusedSectionVars false
namespace Go.Sk
open Go
section
variable {P : Program} {X : Fr} {env : List V} {mem : List Obj} {al : Nat → Prop} {tmps : Array Value} {w : World} {β : Nat → Value} {ok : Nat → Prop}

theorem _root_.Go.Sk.Inv.alMono (h : Inv X env mem al tmps w β ok) {al' : Nat → Prop} (hal : ∀ i, al i → al' i) : Ext w ok X.rd β (kds mem) al w ok β (kds mem) al' ∧ Inv X env mem al' tmps w β ok :=
  h.update (mem' := mem) (al' := al') (β' := β) (ok' := ok) (fun _ => False) hal (fun _ h => h.elim) (fun _ _ => rfl) (fun _ _ => rfl) (fun _ h => h.elim) (fun _ h => h.elim) (fun b _ _ => rfl) (Nat.le_refl _)
    (fun _ h => h) (fun _ h => .inl h) (fun _ _ h => h.elim) (fun _ _ h => h.elim) (fun _ _ _ h => h.elim) (fun _ _ h => h.elim) rfl rfl rfl
theorem Left.weaken {new new' : Nat → Prop} {s : Sem Next} {out : Out} (h : Left P X env mem al tmps w new s out) (hn : ∀ i, new i → new' i) : Left P X env mem al tmps w new' s out := by
  obtain ⟨r, cv, w', β', ok', h1, h2, h3, h4⟩ := h.run
  obtain ⟨e, hI⟩ := h3.alMono (al' := fun i => al i ∨ new' i) fun i hi => hi.imp id (hn i)
  exact ⟨r, cv, w', β', ok', h1, h2, hI, h4.mono e⟩

/-- every operation but a call of a function -/
theorem sem_left (C : Cfg) (ds : List Deferred) (h : Inv X env mem al tmps w β ok) (o : Oper) {id : Nat} (hid : ∀ j, id ≤ j → j < id + newOf P C o.op (⟨env, mem⟩ : St).ev → ¬ al j) (hc : Op.isCall o.op = false) {out : Out}
    (hr : (semOp P C o.op o.type (⟨env, mem⟩ : St).ev id).run1 mem = some out) :
    Left P X env mem al tmps w (fun j => id ≤ j ∧ j < id + newOf P C o.op (⟨env, mem⟩ : St).ev) (execOp (⟨tmps, ds⟩ : Act).eval o) out := by
  obtain ⟨dst, op, ty, pos, aft, gd⟩ := o
  have one : ∀ {new : Nat → Prop} {s : Sem Next}, newOf P C op (⟨env, mem⟩ : St).ev = 1 → Left P X env mem al tmps w (fun j => j = id) s out → Left P X env mem al tmps w (fun j => id ≤ j ∧ j < id + newOf P C op (⟨env, mem⟩ : St).ev) s out :=
    fun e hl => hl.weaken fun i hi => by rw [e]; omega
  have fresh : newOf P C op (⟨env, mem⟩ : St).ev = 1 → ¬ al id := fun e => hid id (Nat.le_refl _) (by show id < id + newOf P C op _; rw [e]; omega)
  cases op
  case move x => exact left_move ds C h hr
  case assign x => exact left_assign ds C h hr
  case pick c a b => exact left_pick ds C h hr
  case alloc t => exact one (new := fun _ => False) rfl (left_alloc ds C h (fresh rfl) hr)
  case box t x => exact one (new := fun _ => False) rfl (left_box ds C h (fresh rfl) hr)
  case «load» t x => exact left_load ds C h hr
  case store t a x => exact left_store ds C h hr
  case nilCheck x => exact left_nilCheck ds C h hr
  case binOp op t x y u => exact left_binOp ds C h hr
  case unOp op t x => exact left_unOp ds C h hr
  case convert s d x => exact left_convert ds C h hr
  case makeFunc fn first caps => exact left_makeFunc ds C h hr
  case slice t x l hi m => exact left_slice ds C h hr
  case fieldAddr t x f => exact left_fieldAddr ds C h hr
  case field t x f => exact left_field ds C h hr
  case indexAddr t x i => exact left_indexAddr ds C h hr
  case index t x i => exact left_index ds C h hr
  case extract t i => exact left_extract ds C h hr
  case build t parts => exact left_build ds C h hr
  case buildSlice t n parts => exact one (new := fun _ => False) rfl (left_buildSlice ds C h (fresh rfl) hr)
  case makeMap t r => exact one (new := fun _ => False) rfl (left_makeMap ds C h (fresh rfl) hr)
  case lookup t m k c => exact left_lookup ds C h hr
  case mapUpdate t m k v => exact left_mapUpdate ds C h hr
  case insert t m k v => exact left_insert ds C h hr
  case mapEntry t m k => exact left_mapEntry ds C h hr
  case entryStore t m s v => exact left_entryStore ds C h hr
  case makeSlice t n c => exact one (new := fun _ => False) rfl (left_makeSlice ds C h (fresh rfl) hr)
  case call c =>
    obtain ⟨callee, args, ats⟩ := c
    cases callee with
    | builtin b =>
      refine (left_builtin ds C h (b := b) rfl (fun e => fresh (by subst e; rfl)) hr).weaken fun i hi => ?_
      obtain ⟨rfl, rfl⟩ := hi
      exact ⟨Nat.le_refl _, by show i < i + 1; omega⟩
    | value f => simp [Op.isCall] at hc
    | invoke r n => cases hr
  all_goals (cases hr; done)

/-! ### what is handed over -/
/-- the rows that a cell leads to are all in Lp -/
def Reach (m : List Obj) (Lp : Nat → Prop) {α : Type} (f : α → Rd (List Nat)) (c : α) : Prop := (∀ i, Lp i) ∨ ∃ L, (f c).run1 m = some L ∧ ∀ i ∈ L, Lp i
theorem Reach.cat {m : List Obj} {Lp : Nat → Prop} {α : Type} {f : α → Rd (List Nat)} {c : α} {r : List α} (h : Reach m Lp (catR f) (c :: r)) : Reach m Lp f c ∧ Reach m Lp (catR f) r := by
  rcases h with h | ⟨L, h1, h2⟩
  · exact ⟨.inl h, .inl h⟩
  · obtain ⟨a, ha, h1⟩ := bind_run1 h1
    obtain ⟨b, hb, h1⟩ := bind_run1 h1
    obtain rfl := ret_run1 h1
    exact ⟨.inr ⟨a, ha, fun i hi => h2 i (by simp [hi])⟩, .inr ⟨b, hb, fun i hi => h2 i (by simp [hi])⟩⟩

/-- from the caller's state to the callee's: m, the memory that was read; m', the memory as it stands -/
structure Hand (w : World) (ok rd : Nat → Prop) (β : Nat → Value) (m m' : List Obj) (al : Nat → Prop) (okx rdx Lp : Nat → Prop) : Prop where
  obj : ∀ i, ObjRel w ok rd β (kds m') al i (m'.getD i .dead)
  froze : Froze m m'
  hok : ∀ b, ok b → okx b
  hrd : ∀ b, rd b → rdx b
  own : ∀ i b, own m' β i = some b → rdx b
  rows : ∀ i, Lp i → ∀ t xs, (m'.getD i .dead = .row t xs ∨ m'.getD i .dead = .frz t xs) → RepE w okx (.slice t) xs [β i]

@[reducible] def noKd : Nat → KD := fun _ => .none
@[reducible] def noAl : Nat → Prop := fun _ => False
variable {rd : Nat → Prop} {m m' : List Obj} {okx rdx Lp : Nat → Prop} {β0 : Nat → Value}

theorem RelC.osl_inv' {kd : Nat → KD} {i : Nat} {v : Value} (h : RelC w ok rd β kd al (.osl i) v) (hk : kd i ≠ .none) : v = β i := by
  cases h with
  | osl _ _ hi hp h1 => exact hp hk
theorem hand_data (H : Hand w ok rd β m m' al okx rdx Lp) {c c' : CV} {v : Value} (hr : (dataC c).run1 m = some c') (hrow : ∀ i ∈ rowsD [c], Lp i) (hv : RelC w ok rd β (kds m') al c v) : RelC w okx rdx β0 noKd noAl c' v := by
  have mono : ∀ {t : Ty} {xs : List (El t)} {A : Option Addr}, RowAt w ok (RepE w ok t) t.size A xs → RowAt w okx (RepE w okx t) t.size A xs :=
    fun h => h.mono (fun _ _ => rfl) H.hok fun _ _ h => RepE.mono (fun _ _ => rfl) H.hok h
  cases c <;> simp only [dataC, Rd.run1_fail, Rd.run1_ret, Option.some.injEq] at hr <;> try (cases hr; done)
  case bool b => subst hr; cases hv; exact .bool b
  case int k n => subst hr; cases hv; exact .int k n
  case str s => subst hr; cases hv; exact .str s
  case nils t => subst hr; cases hv; exact .nils t
  case slc t xs =>
    subst hr
    obtain ⟨A, c, rfl, hl, hrow⟩ : ∃ A c, v = .slice A xs.length c ∧ xs.length ≤ c ∧ RowAt w ok (RepE w ok t) t.size A xs := by cases hv; exact ⟨_, _, rfl, by assumption, by assumption⟩
    exact .slc t xs A c hl (mono hrow)
  case clp t xs =>
    subst hr
    obtain ⟨A, rfl, hrow⟩ : ∃ A, v = .slice A xs.length xs.length ∧ RowAt w ok (RepE w ok t) t.size A xs := by cases hv; exact ⟨_, rfl, by assumption⟩
    exact .clp t xs A (mono hrow)
  case osl i =>
    simp only [Rd.run1_get] at hr
    have key : ∀ t xs, (m'.getD i .dead = .row t xs ∨ m'.getD i .dead = .frz t xs) → c' = .slc t xs → RelC w okx rdx β0 noKd noAl c' v := by
      intro t xs hx hc'
      subst hc'
      rw [hv.osl_inv' (by show (m'.getD i .dead).kd ≠ _; rcases hx with hx | hx <;> rw [hx] <;> simp [Obj.kd])]
      obtain ⟨A, c, hb, hl, hr'⟩ := H.rows i (hrow i (by simp [rowsD])) t xs hx
      simp at hb
      rw [hb]
      exact .slc t xs A c hl hr'
    rcases H.froze i with h1 | ⟨t, xs, h1, h2⟩
    · cases hm : m.getD i .dead <;> rw [hm] at hr h1 <;> first | (cases hr; done) | skip
      · exact key _ _ (.inl h1) (ret_run1 hr).symm
      · exact key _ _ (.inr h1) (ret_run1 hr).symm
    · rw [h1] at hr
      exact key t xs (.inr h2) (ret_run1 hr).symm
  case ovw i o n =>
    simp only [Rd.run1_get] at hr
    have key : ∀ t xs, (m'.getD i .dead = .row t xs ∨ m'.getD i .dead = .frz t xs) → o + n ≤ xs.length → c' = .slc t ((xs.drop o).take n) → RelC w okx rdx β0 noKd noAl c' v := by
      intro t xs hx hle hc'
      subst hc'
      obtain ⟨A, n', cp, A', hb, rfl, hcp, hA⟩ : ∃ A n' c A', β i = .slice A n' c ∧ v = .slice A' n (c - o) ∧ o + n ≤ c ∧ (∀ b q, A = some ⟨b, q, none⟩ → c ≠ o → A' = some ⟨b, q + o * t.size, none⟩) := by
        cases hv with
        | ovw _ _ _ _ hi hp h1 => exact hp t (by show (m'.getD i .dead).kd = _; rcases hx with hx | hx <;> rw [hx] <;> rfl)
      obtain ⟨A2, c, hb2, hl, hr'⟩ := H.rows i (hrow i (by simp [rowsD])) t xs hx
      simp at hb2
      rw [hb] at hb2
      cases hb2
      have hlen : ((xs.drop o).take n).length = n := by simp; omega
      have := RelC.slc (w := w) (ok := okx) (rd := rdx) (β := β0) (kd := noKd) (al := noAl) t ((xs.drop o).take n) A' (cp - o) (by rw [hlen]; omega) ?_
      · rw [hlen] at this; exact this
      · rcases hr' with rfl | ⟨b, q, rfl, hok, hr'⟩
        · exact .inl (by simp)
        · by_cases hn : n = 0
          · exact .inl (by simp [hn])
          · refine .inr ⟨b, q + o * t.size, hA b q rfl (by omega), hok, fun k x hk => ?_⟩
            have hk' : xs[o + k]? = some x := by
              rw [List.getElem?_take] at hk
              split at hk
              · rwa [List.getElem?_drop] at hk
              · cases hk
            obtain ⟨us, h1, h2, h3⟩ := hr' _ _ hk'
            exact ⟨us, h1, h2, fun j u hj => by have := h3 j u hj; rw [Nat.add_mul] at this; simpa [Nat.add_assoc] using this⟩
    have fin : ∀ t xs, (m'.getD i .dead = .row t xs ∨ m'.getD i .dead = .frz t xs) → (Rd.guard (decide (o + n ≤ xs.length)) (Rd.ret (CV.slc t ((xs.drop o).take n)))).run1 m = some c' → RelC w okx rdx β0 noKd noAl c' v := by
      intro t xs hx hb
      obtain ⟨h1, h2⟩ := guard_run1 hb
      exact key t xs hx (by simpa using h1) (ret_run1 h2).symm
    rcases H.froze i with h1 | ⟨t, xs, h1, h2⟩
    · cases hm : m.getD i .dead <;> rw [hm] at hr h1 <;> first | (cases hr; done) | skip
      · exact fin _ _ (.inl h1) hr
      · exact fin _ _ (.inr h1) hr
    · rw [h1] at hr
      exact fin t xs (.inr h2) hr
end
end Go.Sk
