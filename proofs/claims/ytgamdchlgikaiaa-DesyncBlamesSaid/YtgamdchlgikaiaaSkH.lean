/- Operations that make or write memory, as the evaluator's. -/
import Derived.Test.YtgamdchlgikaiaaSkG
set_option linter.unusedSimpArgs false
set_option linter.unusedVariables false
set_option linter.unusedSectionVars false
namespace Go.Sk
open Go
section
variable {P : Program} {X : Fr} {env : List V} {mem : List Obj} {al : Nat → Prop} {tmps : Array Value} {w : World} {β : Nat → Value} {ok : Nat → Prop}

theorem wrs_one (m : List Obj) (i : Nat) (o : Obj) : wrs m [(i, o)] = wr m i o := rfl
theorem wrs_append : ∀ (m : List Obj) (a b : List (Nat × Obj)), wrs m (a ++ b) = wrs (wrs m a) b
  | m, [], b => rfl
  | m, (i, o) :: a, b => by simp only [List.cons_append, wrs]; exact wrs_append _ a b

theorem zero_rel {t : TypeId} {cs : List CV} (hz : zeroCells P t = some cs) : ∃ (i : TypeInfo) (z : Value), P.info? t = some i ∧ i.zero = some z ∧ ∀ kd, RelL w ok X.rd β kd al cs z.cells.toList := by
  unfold zeroCells at hz
  split at hz
  · rename_i z hz'
    cases hi : P.info? t with
    | none => rw [hi] at hz'; cases hz'
    | some i =>
      rw [hi] at hz'
      simp at hz'
      cases hl : ((cellTys P 12 t).length == z.cells.size) with
      | false => rw [hl] at hz; cases hz
      | true =>
        rw [hl] at hz
        simp at hz hl
        subst hz
        refine ⟨i, z, rfl, hz', fun kd => ⟨by simp [hl], fun j c u hj hu => ?_⟩⟩
        rw [List.getElem?_zipWith] at hj
        simp only [hu] at hj
        cases ht : (cellTys P 12 t)[j]? with
        | none => rw [ht] at hj; cases hj
        | some ty =>
          rw [ht] at hj
          simp at hj
          subst hj
          unfold ofConst
          split <;> first | constructor | (split <;> constructor) | skip
          rename_i h1 h2 h3 h4 h5 h6 h7
          cases u <;> first | rfl | exact absurd rfl (h6 _) | exact absurd rfl (h7 _)
  · cases hz

theorem relV_box {v : V} {cv : Value} {kd : Nat → KD} (h : RelV w ok X.rd β kd al v cv) (hb : v.isBad = false) : RelL w ok X.rd β kd al v.cells cv.cells.toList := by
  refine relV_cells h (by cases v <;> simp_all [V.isBad, V.isTup]) fun c hc => ?_
  subst hc
  exact h.one'.one (by intro e; subst e; simp [V.isBad] at hb)

variable (ds : List Deferred) (C : Cfg) (h : Inv X env mem al tmps w β ok) {out : Out} {ty : TypeId} {id : Nat} {dst : Option Tmp} {pos : String} {aft : Array Edge} {gd : Option (Nat × Bool)}
include h

theorem left_newCells (hid : ¬ al id) {cs : List CV} {v : Value} {T : TypeId} (hl : RelL w ok X.rd β (kds mem) al cs v.cells.toList) {s : Sem Next} (hs : s = do pure (.value (.pointer (some (← newVar T v))))) :
    Left P X env mem al tmps w (fun i => i = id) s ⟨.one (.ptr id 0), [(id, .cells cs)]⟩ := by
  subst hs
  obtain ⟨hI, hR⟩ := h.newCells hid hl T
  have e : v.cells.toList.toArray = v.cells := by simp
  rw [e] at hI hR
  exact ⟨_, _, _, _, _, by simp [newVar, newRow]; try exact ⟨rfl, rfl⟩, .inl rfl, hI, .one _ _ hR⟩

theorem left_alloc (hid : ¬ al id) {t : TypeId} (hr : (semOp P C (.alloc t) ty (⟨env, mem⟩ : St).ev id).run1 mem = some out) : Left P X env mem al tmps w (fun i => i = id) (execOp (⟨tmps, ds⟩ : Act).eval ⟨dst, .alloc t, ty, pos, aft, gd⟩) out := by
  simp only [semOp] at hr
  split at hr
  · rename_i cs hz
    obtain rfl := ret_run1 hr
    obtain ⟨i, z, hi, hz', hl⟩ := zero_rel (w := w) (ok := ok) (β := β) (al := al) hz
    obtain ⟨hI, hR⟩ := h.newCells hid (hl (kds mem)) t
    have e : z.cells.toList.toArray = z.cells := by simp
    rw [e] at hI hR
    exact ⟨_, _, _, _, _, by simp [execOp, Instr.alloc, zeroValue, typeInfo, hi, hz', newVar, newRow]; try exact ⟨rfl, rfl⟩, .inl rfl, hI, .one _ _ hR⟩
  · cases hr
theorem left_box (hid : ¬ al id) {t : TypeId} {x : Operand} (hr : (semOp P C (.box t x) ty (⟨env, mem⟩ : St).ev id).run1 mem = some out) : Left P X env mem al tmps w (fun i => i = id) (execOp (⟨tmps, ds⟩ : Act).eval ⟨dst, .box t x, ty, pos, aft, gd⟩) out := by
  simp only [semOp] at hr
  cases hb : ((⟨env, mem⟩ : St).ev x (tyAt P t)).isBad with
  | true => rw [hb] at hr; cases hr
  | false =>
    rw [hb] at hr
    obtain rfl := ret_run1 (m := mem) hr
    have hl := relV_box (h.ev ds x (tyAt P t)) hb
    obtain ⟨hI, hR⟩ := h.newCells hid hl t
    have e : ((⟨tmps, ds⟩ : Act).eval x).cells.toList.toArray = ((⟨tmps, ds⟩ : Act).eval x).cells := by simp
    rw [e] at hI hR
    exact ⟨_, _, _, _, _, by simp [execOp, Instr.box, newVar, newRow]; try exact ⟨rfl, rfl⟩, .inl rfl, hI, .one _ _ hR⟩

theorem left_makeFunc {fn : Fn} {first caps : Array Operand} {new : Nat → Prop} (hr : (semOp P C (.makeFunc fn first caps) ty (⟨env, mem⟩ : St).ev id).run1 mem = some out) : Left P X env mem al tmps w new (execOp (⟨tmps, ds⟩ : Act).eval ⟨dst, .makeFunc fn first caps, ty, pos, aft, gd⟩) out := by
  cases fn with
  | func f =>
    simp only [semOp] at hr
    obtain ⟨hb, hr⟩ := bif_fail hr
    obtain rfl := ret_run1 hr
    simp only [Bool.and_eq_true, Array.isEmpty_iff, List.all_eq_true, List.mem_map, forall_exists_index, and_imp, forall_apply_eq_imp_iff₂] at hb
    obtain ⟨rfl, hone⟩ := hb
    refine .read h (s := Instr.makeFunc (.func f) (#[].map (⟨tmps, ds⟩ : Act).eval) (caps.map (⟨tmps, ds⟩ : Act).eval)) (v := .func (.func f) #[] (caps.toList.map (⟨tmps, ds⟩ : Act).eval).toArray) ?_ (.one _ _ ?_)
    · simp only [Instr.makeFunc, Sem.run_pure]
      congr 2
      all_goals (apply Array.ext'; simp)
    · have key : ∀ (l : List Operand), (∀ a ∈ l, ((⟨env, mem⟩ : St).ev a none).isOne = true) → RelL w ok X.rd β (kds mem) al ((l.map fun o => (⟨env, mem⟩ : St).ev o none).flatMap V.cells) (l.map (⟨tmps, ds⟩ : Act).eval) := by
        intro l
        induction l with
        | nil => intro _; exact .nil
        | cons a r ih =>
          intro hl
          have ha := hl a (by simp)
          cases he : (⟨env, mem⟩ : St).ev a none with
          | one c =>
            simp only [List.map_cons, List.flatMap_cons, he, V.cells, List.singleton_append]
            exact .cons (ev_one ds h he) (ih fun b hb => hl b (by simp [hb]))
          | agg cs => rw [he] at ha; cases ha
          | tup vs => rw [he] at ha; cases ha
      have hl := key caps.toList hone
      exact .fn f _ _ hl.1 hl.2
  | method _ => cases hr
  | methodOf _ _ => cases hr
  | via _ _ _ _ => cases hr
  | yield _ => cases hr

theorem left_field {t : TypeId} {x : Operand} {f : Nat} {new : Nat → Prop} (hr : (semOp P C (.field t x f) ty (⟨env, mem⟩ : St).ev id).run1 mem = some out) : Left P X env mem al tmps w new (execOp (⟨tmps, ds⟩ : Act).eval ⟨dst, .field t x f, ty, pos, aft, gd⟩) out := by
  simp only [semOp] at hr
  split at hr
  · rename_i cs o n g he hf
    obtain ⟨hlen, hr⟩ := bif_fail hr
    obtain ⟨v, hv, hr⟩ := bind_run1 hr
    obtain rfl := ret_run1 hr
    obtain ⟨fs, fd, hu, hfd, rfl, hn, hg⟩ := run_fieldOff hf
    have hr := h.ev ds x none
    rw [he] at hr
    obtain ⟨us, hx, hl⟩ := hr.agg'
    have hl2 := (hl.drop fd.offset).take n
    have hul : ((us.drop fd.offset).take n).length = n := by rw [hl2.1]; simpa using hlen
    refine .read h (s := Instr.field t ((⟨tmps, ds⟩ : Act).eval x) f) (v := if g then .agg ((us.drop fd.offset).take n).toArray else (us.getD fd.offset undef)) ?_ ?_
    · rw [hx]
      cases g with
      | true =>
        simp only [Instr.field, Sem.run_bind, run_underlying hu, Result.andThen_ok, hfd, asAgg, Sem.run_pure, part, run_aggAt hg, run_sizeAt hn, if_true]
        congr 2
        simp [List.extract_eq_take_drop, List.take_drop]
      | false =>
        have hn1 : n = 1 := by
          rcases rel_mkV (c := ⟨w, ok, X.rd, β, mem, al⟩) hv hl2 with ⟨hf, _⟩ | ⟨_, u, hu', _⟩
          · cases hf
          · rw [hu'] at hul; simpa using hul.symm
        subst hn1
        have hlt : fd.offset < us.length := by simp at hul; omega
        simp only [Instr.field, Sem.run_bind, run_underlying hu, Result.andThen_ok, hfd, asAgg, Sem.run_pure, part, run_aggAt hg]
        simp [hlt]
    · rcases rel_mkV (c := ⟨w, ok, X.rd, β, mem, al⟩) hv hl2 with ⟨rfl, hv'⟩ | ⟨rfl, u, hu', hv'⟩
      · simpa using hv'
      · have : us[fd.offset]?.getD undef = u := by
          have h0 : ((us.drop fd.offset).take n)[0]? = some u := by rw [hu']; rfl
          rw [List.getElem?_take] at h0
          split at h0
          · rw [List.getElem?_drop] at h0
            simp at h0
            simp [h0]
          · cases h0
        simpa [this] using hv'
  · cases hr

/-! ### stores -/

theorem left_skip {new : Nat → Prop} {s : Sem Unit} {w' : World} {ws : List (Nat × Obj)} {β' : Nat → Value} {ok' : Nat → Prop} (hs : s.run P w = .ok () w') (hI : Inv X env (wrs mem ws) al tmps w' β' ok') :
    Left P X env mem al tmps w new (do s; pure .skip) ⟨.tup [], ws⟩ := by
  have key := hI.update (mem' := wrs mem ws) (al' := fun i => al i ∨ new i) (β' := β') (ok' := ok') (fun _ => False) (fun _ h => .inl h) (fun _ h => h.elim) (fun _ _ => rfl) (fun _ _ => rfl) (fun _ h => h.elim) (fun _ h => h.elim) (fun b _ _ => rfl) (Nat.le_refl _)
    (fun _ h => h) (fun _ h => .inl h) (fun _ _ h => h.elim) (fun _ _ h => h.elim) (fun _ _ _ h => h.elim) (fun _ _ h => h.elim) rfl rfl rfl
  exact ⟨.skip, undef, w', β', ok', by simp [hs], .inr ⟨rfl, rfl⟩, key.2, .tup [] [] rfl (fun j v u hj => by simp at hj)⟩

theorem _root_.Go.Sk.Inv.congr {mem2 : List Obj} (hm : ∀ j, mem2.getD j .dead = mem.getD j .dead) : Ext w ok X.rd β (kds mem) al w ok β (kds mem2) al ∧ Inv X env mem2 al tmps w β ok :=
  h.update (mem' := mem2) (al' := al) (β' := β) (ok' := ok) (fun _ => False) (fun _ h => h) (fun _ h => h.elim) (fun i _ => hm i) (fun _ _ => rfl) (fun _ h => h.elim) (fun _ h => h.elim) (fun b _ _ => rfl) (Nat.le_refl _)
    (fun _ h => h) (fun _ h => .inl h) (fun _ _ h => h.elim) (fun _ _ h => h.elim) (fun _ _ _ h => h.elim) (fun _ _ h => h.elim) rfl rfl rfl
omit h
theorem Ext.trans {w1 w2 w3 : World} {ok1 ok2 ok3 : Nat → Prop} {β1 β2 β3 : Nat → Value} {kd1 kd2 kd3 : Nat → KD} {al1 al2 al3 : Nat → Prop}
    {rd : Nat → Prop} (e : Ext w1 ok1 rd β1 kd1 al1 w2 ok2 β2 kd2 al2) (f : Ext w2 ok2 rd β2 kd2 al2 w3 ok3 β3 kd3 al3) : Ext w1 ok1 rd β1 kd1 al1 w3 ok3 β3 kd3 al3 :=
  ⟨fun b hb => (f.cells b (e.ok b hb)).trans (e.cells b hb), fun b hb => (f.cellsR b hb).trans (e.cellsR b hb), fun b hb => f.ok b (e.ok b hb), fun i hi => by
    rcases f.kd i (e.sub i hi) with h1 | h1
    · rcases e.kd i hi with h2 | h2
      · exact .inl (h1.trans h2)
      · exact .inr (h1.trans h2)
    · exact .inr h1, fun i hi hk => by
    have hk2 : kd2 i ≠ .none := by
      rcases f.kd i (e.sub i hi) with h1 | h1
      · rwa [← h1]
      · exact absurd h1 hk
    rw [f.β i (e.sub i hi) hk, e.β i hi hk2], fun i hi => f.sub i (e.sub i hi)⟩

/-- some rows of m are frozen in m' -/
def Froze (m m' : List Obj) : Prop := ∀ j, m'.getD j .dead = m.getD j .dead ∨ ∃ t xs, m.getD j .dead = .row t xs ∧ m'.getD j .dead = .frz t xs
theorem Froze.refl (m : List Obj) : Froze m m := fun _ => .inl rfl
/-- freezing rows -/
theorem freeze_sound {m : List Obj} : ∀ (is : List Nat) (m' : List Obj) {ok0 : Nat → Prop} {ws : List (Nat × Obj)}, Froze m m' → Inv X env m' al tmps w β ok0 → (freeze is).run1 m = some ws →
    ∃ ok', Ext w ok0 X.rd β (kds m') al w ok' β (kds (wrs m' ws)) al ∧ Inv X env (wrs m' ws) al tmps w β ok' ∧ Froze m (wrs m' ws) ∧
      (∀ i ∈ is, ∃ t xs, (wrs m' ws).getD i .dead = .frz t xs) ∧ (∀ j, j ∉ is → (wrs m' ws).getD j .dead = m'.getD j .dead)
  | [], m', ok0, ws, hf, h, hr => by
    obtain rfl := ret_run1 hr
    exact ⟨ok0, Ext.refl _ _ _ _ _ _, h, hf, by simp, fun _ _ => rfl⟩
  | i :: r, m', ok0, ws, hf, h, hr => by
    simp only [freeze, Rd.run1_get] at hr
    cases hm : m.getD i .dead <;> rw [hm] at hr <;> try (cases hr; done)
    · rename_i t xs
      obtain ⟨ws', hw, hr⟩ := bind_run1 hr
      obtain rfl := ret_run1 hr
      have hf2 : Froze m (wr m' i (.frz t xs)) := fun j => by
        rw [wr_getD]
        by_cases e : j = i
        · subst e; rw [if_pos rfl]; exact .inr ⟨t, xs, hm, rfl⟩
        · rw [if_neg e]; exact hf j
      have step : ∃ ok1, Ext w ok0 X.rd β (kds m') al w ok1 β (kds (wr m' i (.frz t xs))) al ∧ Inv X env (wr m' i (.frz t xs)) al tmps w β ok1 := by
        rcases hf i with h1 | ⟨t', xs', h1, h2⟩
        · rw [hm] at h1
          exact ⟨_, h.freeze1 h1 fun j => wr_getD _ _ _ _⟩
        · rw [hm] at h1
          cases h1
          exact ⟨ok0, h.congr fun j => by
            rw [wr_getD]
            split
            · rename_i e; rw [e, h2]
            · rfl⟩
      obtain ⟨ok1, e1, hI1⟩ := step
      obtain ⟨ok2, e2, hI2, hf3, hall, hout⟩ := freeze_sound r (wr m' i (.frz t xs)) hf2 hI1 hw
      refine ⟨ok2, Ext.trans e1 e2, hI2, hf3, fun j hj => ?_, fun j hj => ?_⟩
      · rcases List.mem_cons.1 hj with rfl | hj
        · by_cases hjr : j ∈ r
          · exact hall j hjr
          · refine ⟨t, xs, ?_⟩
            show (wrs (wr m' j (.frz t xs)) ws').getD j .dead = _
            rw [hout j hjr, wr_getD, if_pos rfl]
        · exact hall j hj
      · have h1 : j ≠ i := fun e => hj (by simp [e])
        have h2 : j ∉ r := fun e => hj (by simp [e])
        show (wrs (wr m' i (.frz t xs)) ws').getD j .dead = _
        rw [hout j h2, wr_getD, if_neg h1]
    · rename_i t xs
      obtain ⟨ok2, e2, hI2, hf3, hall, hout⟩ := freeze_sound r m' hf h hr
      refine ⟨ok2, e2, hI2, hf3, fun j hj => ?_, fun j hj => hout j fun e => hj (by simp [e])⟩
      rcases List.mem_cons.1 hj with rfl | hj
      · by_cases hjr : j ∈ r
        · exact hall j hjr
        · refine ⟨t, xs, ?_⟩
          rw [hout j hjr]
          rcases hf j with h1 | ⟨t', xs', h1, h2⟩
          · rw [h1, hm]
          · rw [hm] at h1; cases h1
      · exact hall j hj
end
end Go.Sk
