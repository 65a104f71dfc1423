/- Composites, slices of the call's own, append and copy, as the evaluator's. -/
import Derived.Test.YtgamdchlgikaiaaSkI
set_option linter.unusedSimpArgs false
set_option linter.unusedVariables false
set_option linter.unusedSectionVars false
namespace Go.Sk
open Go

theorem spl_get {α : Type} {cs new : List α} {o : Nat} (h : o + new.length ≤ cs.length) (j : Nat) : (cs.take o ++ new ++ cs.drop (o + new.length))[j]? = if j < o then cs[j]? else if j < o + new.length then new[j - o]? else cs[j]? := by
  by_cases h1 : j < o
  · rw [if_pos h1, List.append_assoc, List.getElem?_append_left (by simp; omega), List.getElem?_take, if_pos h1]
  · rw [if_neg h1, List.append_assoc, List.getElem?_append_right (by simp; omega)]
    have e : (cs.take o).length = o := by simp; omega
    rw [e]
    by_cases h2 : j < o + new.length
    · rw [if_pos h2, List.getElem?_append_left (by omega)]
    · rw [if_neg h2, List.getElem?_append_right (by omega), List.getElem?_drop]
      congr 1; omega
theorem fold_get : ∀ (vs : List Value) (k off : Nat) (arr : Array Value), off + k + vs.length ≤ arr.size →
    ∀ j, ((vs.zipIdx k).foldl (fun (cs : Array Value) (x : Value × Nat) => cs.setIfInBounds (off + x.2) x.1) arr)[j]? = if j < off + k then arr[j]? else if j < off + k + vs.length then vs[j - (off + k)]? else arr[j]?
  | [], k, off, arr, h, j => by simp; omega
  | v :: r, k, off, arr, h, j => by
    simp only [List.length_cons] at h
    simp only [List.zipIdx_cons, List.foldl_cons]
    rw [fold_get r (k + 1) off _ (by simp; omega)]
    simp only [Array.getElem?_setIfInBounds, List.length_cons]
    by_cases h1 : j < off + k
    · rw [if_pos (by omega), if_neg (by omega), if_pos h1]
    · by_cases h2 : j = off + k
      · subst h2
        rw [if_pos (by omega), if_pos rfl, if_pos (by omega), if_neg (by omega), if_pos (by omega)]
        simp
      · rw [if_neg (by omega), if_neg h1]
        by_cases h3 : j < off + k + (r.length + 1)
        · rw [if_pos (by omega), if_pos h3, show j - (off + k) = (j - (off + (k + 1))) + 1 by omega]
          simp
        · rw [if_neg (by omega), if_neg h3, if_neg (by omega)]
theorem fold_splice (vs : List Value) (off : Nat) (arr : Array Value) (h : off + vs.length ≤ arr.size) :
    ((vs.zipIdx).foldl (fun (cs : Array Value) (x : Value × Nat) => cs.setIfInBounds (off + x.2) x.1) arr).toList = arr.toList.take off ++ vs ++ arr.toList.drop (off + vs.length) := by
  apply List.ext_getElem?
  intro j
  rw [spl_get (by simpa using h), Array.getElem?_toList, fold_get vs 0 off arr (by omega)]
  simp

section
variable {P : Program} {X : Fr} {env : List V} {mem : List Obj} {al : Nat → Prop} {tmps : Array Value} {w : World} {β : Nat → Value} {ok : Nat → Prop}

/-- the parts of a composite -/
def RelPs (w : World) (ok rd : Nat → Prop) (β : Nat → Value) (kd : Nat → KD) (al : Nat → Prop) : List (Nat × V) → List (Nat × Value) → Prop
  | [], [] => True
  | (i, v) :: r, (j, u) :: q => i = j ∧ RelL w ok rd β kd al v.cells u.cells.toList ∧ RelPs w ok rd β kd al r q
  | _, _ => False
theorem fill_rel {kd : Nat → KD} {pl : Nat → Option (Nat × Nat)} : ∀ (ps : List (Nat × V)) (qs : List (Nat × Value)) {cs cs' : List CV} {us : List Value}, RelPs w ok X.rd β kd al ps qs → RelL w ok X.rd β kd al cs us → (fillC pl cs ps).run1 mem = some cs' →
    ∃ us', Instr.fill pl us.toArray qs = some us'.toArray ∧ RelL w ok X.rd β kd al cs' us' ∧ us'.length = us.length
  | [], [], cs, cs', us, _, hl, hr => by
    obtain rfl := ret_run1 hr
    exact ⟨us, rfl, hl, rfl⟩
  | (i, v) :: r, (j, u) :: q, cs, cs', us, ⟨e, hv, hq⟩, hl, hr => by
    subst e
    unfold fillC at hr
    split at hr
    · rename_i off n hp
      obtain ⟨hb, hr⟩ := bif_fail hr
      simp only [Bool.and_eq_true, beq_iff_eq, decide_eq_true_eq] at hb
      have hs := RelL.splice (o := off) hl hv
      obtain ⟨us', hf, hl', hlen⟩ := fill_rel r q hq hs hr
      have hul : u.cells.size = n := by have := hv.1; simpa [hb.1] using this
      have hus : us.length = cs.length := hl.1
      refine ⟨us', ?_, hl', by rw [hlen]; simp; omega⟩
      unfold Instr.fill
      rw [hp]
      simp only []
      rw [if_neg (by simp [hul]; omega), ← hf]
      congr 1
      apply Array.ext'
      have := fold_splice u.cells.toList off us.toArray (by simp [hul]; omega)
      rw [← Array.foldl_toList, Array.toList_zipIdx]
      simpa [hul] using this
    · cases hr

theorem run_placesL (f : Field → Sem (Nat × Nat)) (hf : ∀ fd n, sizeAt P fd.type = some n → (f fd).run P w = .ok (fd.offset, n) w) : ∀ (fs : List Field) {l : List (Nat × Nat)}, placesL P fs = some l → (fs.mapM f).run P w = .ok l w
  | [], l, h => by simp [placesL] at h; subst h; rfl
  | fd :: r, l, h => by
    unfold placesL at h
    split at h
    · rename_i n l' hn hl
      simp at h
      subst h
      simp [List.mapM_cons, hf fd n hn, run_placesL f hf r hl]
    · cases h
theorem run_places (fs : Array Field) {l : List (Nat × Nat)} (h : placesL P fs.toList = some l) : (fs.mapM fun f => (do pure (f.offset, ← sizeOf f.type) : Sem (Nat × Nat))).run P w = .ok l.toArray w := by
  have := run_placesL (w := w) (fun f => do pure (f.offset, ← sizeOf f.type)) (fun fd n hn => by simp [run_sizeAt hn]) fs.toList h
  rw [Array.mapM_eq_mapM_toList]
  simp only [Sem.run_map, this, Result.andThen_ok]

variable (ds : List Deferred)
theorem relPs_of (h : Inv X env mem al tmps w β ok) (ty : Nat → Option Ty) : ∀ (l : List (Nat × Operand)), noTups (l.map fun p => (⟨env, mem⟩ : St).ev p.2 (ty p.1)) = true →
    RelPs w ok X.rd β (kds mem) al (l.map fun p => (p.1, (⟨env, mem⟩ : St).ev p.2 (ty p.1))) (l.map fun p => (p.1, (⟨tmps, ds⟩ : Act).eval p.2))
  | [], _ => trivial
  | (i, x) :: r, hn => by
    simp only [List.map_cons, noTups, Bool.and_eq_true, Bool.not_eq_true'] at hn
    exact ⟨rfl, relV_box (h.ev ds x (ty i)) hn.1, relPs_of h ty r hn.2⟩

variable (C : Cfg) (h : Inv X env mem al tmps w β ok) {out : Out} {ty : TypeId} {id : Nat} {dst : Option Tmp} {pos : String} {aft : Array Edge} {gd : Option (Nat × Bool)}
include h

theorem left_store {t : TypeId} {a x : Operand} {new : Nat → Prop} (hr : (semOp P C (.store t a x) ty (⟨env, mem⟩ : St).ev id).run1 mem = some out) : Left P X env mem al tmps w new (execOp (⟨tmps, ds⟩ : Act).eval ⟨dst, .store t a x, ty, pos, aft, gd⟩) out := by
  simp only [semOp] at hr
  split at hr
  · rename_i c n he hn
    obtain ⟨hb, hr⟩ := bif_fail hr
    simp only [Bool.and_eq_true, beq_iff_eq, Bool.not_eq_true'] at hb
    have hl := relV_box (h.ev ds x (tyAt P t)) hb.2
    have hp := ev_one ds h he
    cases c with
    | ptr i o =>
      simp only [Rd.run1_get] at hr
      cases hm : mem.getD i .dead <;> rw [hm] at hr <;> try (cases hr; done)
      rename_i cs
      obtain ⟨h2, hr⟩ := bif_fail hr
      obtain rfl := ret_run1 hr
      simp only [Bool.and_eq_true, decide_eq_true_eq] at h2
      obtain ⟨b, hbb, hv⟩ := hp.ptr_inv (by show (mem.getD i .dead).kd = _; rw [hm]; rfl)
      obtain ⟨w', hw, hI⟩ := h.storeCells hm hn hl hb.1 (known_spec h2.2) h2.1 hbb
      exact left_skip (s := Instr.storeAt t ((⟨tmps, ds⟩ : Act).eval a) ((⟨tmps, ds⟩ : Act).eval x)) (ws := [(i, .cells (splice cs o ((⟨env, mem⟩ : St).ev x (tyAt P t)).cells))]) h (by rw [hv]; exact hw) hI
    | eptr i k o =>
      simp only [Rd.run1_get] at hr
      cases hm : mem.getD i .dead <;> rw [hm] at hr <;> try (cases hr; done)
      rename_i t' xs
      simp only [Rd.run1_opt] at hr
      cases hx : xs[k]? with
      | none => rw [hx] at hr; cases hr
      | some e =>
        rw [hx, Option.bind_some] at hr
        obtain ⟨ncs, hncs, hr⟩ := bind_run1 hr
        obtain ⟨ws, hws, hr⟩ := bind_run1 hr
        cases hd : decAll t' (splice (enc t' e) o ncs) with
        | none => rw [hd] at hr; cases hr
        | some e' =>
          rw [hd] at hr
          cases hg : ((rowsD ((⟨env, mem⟩ : St).ev x (tyAt P t)).cells).contains i || !decide (o + n ≤ t'.size)) with
          | true => rw [hg] at hr; cases hr
          | false =>
            rw [hg] at hr
            obtain rfl := ret_run1 (m := mem) hr
            simp only [Bool.or_eq_false_iff, List.contains_eq_mem, decide_eq_false_iff_not, Bool.not_eq_false', decide_eq_true_eq] at hg
            obtain ⟨w', ok', hw, hI⟩ := left_storeE (P := P) (a := a) (x := x) (new := new) h hn hl hb.1 hp hm hx hncs hws hd hg.1 hg.2
            exact left_skip (s := Instr.storeAt t ((⟨tmps, ds⟩ : Act).eval a) ((⟨tmps, ds⟩ : Act).eval x)) (ws := ws ++ [(i, .row t' (xs.set k e'))]) h hw hI
    | _ => cases hr
  · cases hr

theorem left_build {t : TypeId} {parts : Array (Nat × Operand)} {new : Nat → Prop} (hr : (semOp P C (.build t parts) ty (⟨env, mem⟩ : St).ev id).run1 mem = some out) : Left P X env mem al tmps w new (execOp (⟨tmps, ds⟩ : Act).eval ⟨dst, .build t parts, ty, pos, aft, gd⟩) out := by
  simp only [semOp] at hr
  split at hr
  · rename_i z pl hz hpl
    obtain ⟨hb, hr⟩ := bif_fail hr
    obtain ⟨cs, hcs, hr⟩ := bind_run1 hr
    obtain rfl := ret_run1 hr
    obtain ⟨i, zv, hi, hz', hl⟩ := zero_rel (X := X) (w := w) (ok := ok) (β := β) (al := al) hz
    have hps := relPs_of ds h (partTy P t) parts.toList (by rw [List.map_map] at hb; exact hb)
    obtain ⟨us', hf, hl', _⟩ := fill_rel _ _ hps (hl (kds mem)) hcs
    refine .read h (s := Instr.build t (parts.map fun (i, x) => (i, (⟨tmps, ds⟩ : Act).eval x))) (v := .agg us'.toArray) ?_ (.ofL hl')
    have e1 : (parts.map fun (i, x) => (i, (⟨tmps, ds⟩ : Act).eval x)).toList = parts.toList.map fun p => (p.1, (⟨tmps, ds⟩ : Act).eval p.2) := by simp
    have hzv : (zeroValue t).run P w = .ok zv w := by simp [zeroValue, typeInfo, hi, hz']
    have e2 : zv.cells.toList.toArray = zv.cells := by simp
    rw [e2] at hf
    unfold placesOf at hpl
    split at hpl
    · rename_i fs hu
      split at hpl
      · rename_i l hpL
        simp at hpl
        subst hpl
        unfold Instr.build
        simp only [Sem.run_bind, hzv, Result.andThen_ok, run_underlying hu, run_places fs hpL, e1]
        have : (fun x : Nat => (l.toArray)[x]?) = (fun i : Nat => l[i]?) := by funext i; simp
        rw [this, hf]
        rfl
      · cases hpl
    · rename_i n e hu
      split at hpl
      · rename_i sz hsz
        simp at hpl
        subst hpl
        unfold Instr.build
        simp only [Sem.run_bind, hzv, Result.andThen_ok, run_underlying hu, run_sizeAt hsz, e1, hf]
        rfl
      · cases hpl
    · cases hpl
  · cases hr

/-! ### slices of the call's own -/
omit h in
theorem chunk_rel {kd : Nat → KD} {t : Ty} : ∀ (n : Nat) {cs : List CV} {xs : List (El t)} {us : List Value}, chunk t n cs = some xs → RelL w ok X.rd β kd al cs us → xs.length = n ∧
    ∀ k x, xs[k]? = some x → ∃ vs, vs.length = t.size ∧ RepE w ok t x vs ∧ ∀ j u, vs[j]? = some u → us[k * t.size + j]? = some u
  | 0, cs, xs, us, hc, hl => by
    cases cs with
    | nil => simp [chunk] at hc; subst hc; exact ⟨rfl, by simp⟩
    | cons c r => simp [chunk] at hc
  | n + 1, cs, xs, us, hc, hl => by
    unfold chunk at hc
    split at hc
    · rename_i x r hd
      split at hc
      · rename_i ys hy
        simp at hc
        subst hc
        obtain ⟨a, b, rfl, ha, hb⟩ := rel_dec t cs hd hl
        obtain ⟨hlen, hrows⟩ := chunk_rel n hy hb
        refine ⟨by simp [hlen], fun k y hk => ?_⟩
        have hal := ha.length
        cases k with
        | zero =>
          simp at hk; subst hk
          exact ⟨a, hal, ha, fun j u hj => by
            have : j < a.length := by
              rcases Nat.lt_or_ge j a.length with h | h
              · exact h
              · rw [List.getElem?_eq_none h] at hj; cases hj
            rw [Nat.zero_mul, Nat.zero_add, List.getElem?_append_left this]; exact hj⟩
        | succ k =>
          obtain ⟨vs, h1, h2, h3⟩ := hrows k y (by simpa using hk)
          refine ⟨vs, h1, h2, fun j u hj => ?_⟩
          rw [Nat.add_mul, Nat.one_mul, List.getElem?_append_right (by omega), hal]
          have := h3 j u hj
          rw [← this]; congr 1; omega
      · cases hc
    · cases hc

omit h in
theorem range_zero (z : Array Value) (n sz : Nat) (hz : z.size = sz) : ((Array.range (n * sz)).map fun x => z[x % z.size]!).toList = (List.replicate n z.toList).flatten := by
  induction n with
  | zero => simp
  | succ n ih =>
    rw [List.replicate_succ', List.flatten_append, ← ih]
    simp only [List.flatten_cons, List.flatten_nil, List.append_nil]
    apply List.ext_getElem?
    intro j
    simp only [Array.toList_map, Array.toList_range, List.getElem?_map]
    by_cases h1 : j < n * sz
    · rw [List.getElem?_append_left (by simpa using h1)]
      simp [List.getElem?_range, h1, show j < (n + 1) * sz by rw [Nat.add_mul]; omega]
    · rw [List.getElem?_append_right (by simp; omega)]
      simp only [List.length_map, List.length_range]
      by_cases h2 : j < (n + 1) * sz
      · have h3 : j - n * sz < sz := by rw [Nat.add_mul] at h2; omega
        have h4 : j % sz = j - n * sz := by
          have : j = (j - n * sz) + sz * n := by rw [Nat.mul_comm sz n]; omega
          rw [this, Nat.add_mul_mod_self_left, Nat.mod_eq_of_lt (by omega)]
          rw [Nat.mul_comm sz n]; omega
        simp [List.getElem?_range, h2, hz, h4, Array.getElem!_eq_getD, Array.getD_eq_getD_getElem?, show j - n * sz < z.size by omega]
        rw [Array.getElem?_eq_getElem (show j - n * sz < z.size by omega)]
        rfl
      · have h3 : sz ≤ j - n * sz := by rw [Nat.add_mul] at h2; omega
        simp [List.getElem?_range, h2, hz, h3]

omit h in
theorem zero_reps {kd : Nat → KD} {cs : List CV} {us : List Value} (hl : RelL w ok X.rd β kd al cs us) : ∀ n, RelL w ok X.rd β kd al (List.replicate n cs).flatten (List.replicate n us).flatten
  | 0 => .nil
  | n + 1 => by rw [List.replicate_succ, List.replicate_succ, List.flatten_cons, List.flatten_cons]; exact hl.append (zero_reps hl n)

omit h in
/-- a block that nothing leads to -/
theorem _root_.Go.Sk.Inv.junk {mem : List Obj} {ok : Nat → Prop} (h : Inv X env mem al tmps w β ok) {o : Go.Obj} : Inv X env mem al tmps (w.alloc o) β ok :=
  (h.update (mem' := mem) (al' := al) (w' := w.alloc o) (β' := β) (ok' := ok) (fun _ => False) (fun _ h => h) (fun _ h => h.elim) (fun _ _ => rfl) (fun _ _ => rfl) (fun _ h => h.elim) (fun _ h => h.elim) (fun b hb _ => heap_alloc_old _ _ hb) (by rw [size_alloc]; omega)
    (fun _ h => h) (fun _ h => .inl h) (fun _ _ h => h.elim) (fun _ _ h => h.elim) (fun _ _ _ h => h.elim) (fun _ _ h => h.elim) rfl rfl rfl).2

omit h in
theorem run_buildSlice {t e : TypeId} {n sz : Nat} (hu : P.underlying t = some (.slice e)) (hsz : sizeAt P e = some sz) (h0 : 0 < sz) (h24 : n * sz ≤ 16777216) {zv : Value} (hzv : (zeroValue e).run P w = .ok zv w) (hisz : zv.cells.size = sz) {parts : Array (Nat × Value)} {us' : List Value}
    (hf : Instr.fill (fun i => some (i * sz, sz)) ((List.replicate n zv.cells.toList).flatten).toArray parts.toList = some us'.toArray) :
    (Instr.buildSlice t n parts).run P w = .ok (.slice (some ⟨w.heap.size, 0, none⟩) n n) (w.alloc (.cells us'.toArray e)) := by
  unfold Instr.buildSlice
  have h24' : ¬ (n * sz > 2 ^ 24) := by omega
  simp only [Sem.run_bind, run_underlying hu, Result.andThen_ok, run_sizeAt hsz, if_neg h24', Sem.run_pure]
  by_cases hn0 : n = 0
  · subst hn0
    have e2 : ((List.replicate 0 zv.cells.toList).flatten).toArray = #[] := by simp
    rw [e2] at hf
    have e3 : ∀ f : Nat → Value, (Array.range (0 * sz)).map f = #[] := fun f => by simp
    have e4 : (0 * sz = 0) = True := by simp
    simp only [e4, if_true, Sem.run_pure, Result.andThen_ok, e3, hf]
    rfl
  · have hne : ¬ n * sz = 0 := by
      intro e3
      rcases Nat.mul_eq_zero.1 e3 with h | h <;> omega
    simp only [if_neg hne, Sem.run_bind, hzv, Result.andThen_ok, Sem.run_pure]
    have e2 : ((Array.range (n * sz)).map fun x => zv.cells[x % zv.cells.size]!) = ((List.replicate n zv.cells.toList).flatten).toArray := by
      apply Array.ext'
      rw [range_zero zv.cells n sz hisz]
    rw [e2, hf]
    rfl

omit h in
/-- a new row behind some frozen ones -/
theorem newRow_left {ok' : Nat → Prop} {ws : List (Nat × Obj)} (hI : Inv X env (wrs mem ws) al tmps w β ok') (hid : ¬ al id) {te : Ty} {xs : List (El te)} {us : List Value} {n : Nat} {T : TypeId} (hc : Cells w ok' te xs us) (hxl : xs.length = n) {arr : Array Value} (ha : ∀ (i : Nat) u, us[i]? = some u → arr[i]? = some u) {cp : Nat} (hcp : n ≤ cp) (hsz : cp * te.size ≤ arr.size)
    (hsp : ∃ sp : List (El te), xs.length + sp.length = cp ∧ ∀ (k : Nat) x, sp[k]? = some x → ∃ us, us.length = te.size ∧ RepE w ok' te x us ∧ ∀ (j : Nat) u, us[j]? = some u → arr[(xs.length + k) * te.size + j]? = some u)
    {w1 : World} (hw1 : w1.heap = w.heap) (os : w1.os = w.os) (out : w1.output = w.output) (tape : w1.tape = w.tape) :
    ∃ β', Inv X env (wrs mem (ws ++ [(id, .row te xs)])) (fun i => al i ∨ i = id) tmps (w1.alloc (.cells arr T)) β' ok' ∧
      RelV (w1.alloc (.cells arr T)) ok' X.rd β' (kds (wrs mem (ws ++ [(id, .row te xs)]))) (fun i => al i ∨ i = id) (.one (.osl id)) (.slice (some ⟨w.heap.size, 0, none⟩) n cp) := by
  have e5 : wrs mem (ws ++ [(id, .row te xs)]) = wr (wrs mem ws) id (.row te xs) := by rw [wrs_append]; rfl
  rw [e5]
  by_cases hn0 : cp = 0
  · subst hn0
    have hx0 : xs = [] := List.eq_nil_of_length_eq_zero (by omega)
    subst hx0
    have hn : n = 0 := by omega
    subst hn
    have hJ := (hI.heap hw1 os out tape).junk (o := .cells arr T)
    obtain ⟨hN, hR⟩ := hJ.newRow0 (t := te) (A := some ⟨w.heap.size, 0, none⟩) hid (fun _ => false) (by simp) (mem' := wr (wrs mem ws) id (.row te [])) (fun i => by rw [wr_getD]; simp)
    exact ⟨_, hN, .one _ _ hR⟩
  · obtain ⟨hN, hR⟩ := hI.newRow (t := te) (xs := xs) (arr := arr) (c := cp) (T := T) (w1 := w1) hid hw1 os out tape (fun _ => false) (by simp) hc ha (by omega) (by omega) hsz hsp
      (mem' := wr (wrs mem ws) id (.row te xs)) (fun i => by rw [wr_getD]; simp)
    rw [hxl] at hN hR
    exact ⟨_, hN, .one _ _ hR⟩

theorem left_buildSlice (hid : ¬ al id) {t : TypeId} {n : Nat} {parts : Array (Nat × Operand)} (hr : (semOp P C (.buildSlice t n parts) ty (⟨env, mem⟩ : St).ev id).run1 mem = some out) : Left P X env mem al tmps w (fun i => i = id) (execOp (⟨tmps, ds⟩ : Act).eval ⟨dst, .buildSlice t n parts, ty, pos, aft, gd⟩) out := by
  simp only [semOp] at hr
  split at hr
  · rename_i e hu
    split at hr
    · rename_i z sz te hz hsz hte
      obtain ⟨hb, hr⟩ := bif_fail hr
      simp only [Bool.and_eq_true, decide_eq_true_eq, beq_iff_eq] at hb
      obtain ⟨⟨⟨⟨hn, h24⟩, hts⟩, h0⟩, hzl⟩ := hb
      obtain ⟨cs, hcs, hr⟩ := bind_run1 hr
      obtain ⟨cs', hcs', hr⟩ := bind_run1 hr
      obtain ⟨ws, hws, hr⟩ := bind_run1 hr
      cases hch : chunk te n cs' with
      | none => rw [hch] at hr; cases hr
      | some xs =>
        rw [hch] at hr
        obtain rfl := ret_run1 (m := mem) hr
        obtain ⟨i, zv, hi, hz', hl⟩ := zero_rel (X := X) (w := w) (ok := ok) (β := β) (al := al) hz
        have hisz : zv.cells.size = sz := by have := (hl (kds mem)).1; simpa [hzl] using this
        have hps := relPs_of ds h (fun _ => some te) parts.toList (by rw [List.map_map] at hn; exact hn)
        obtain ⟨us', hf, hl', hlen⟩ := fill_rel _ _ hps (zero_reps (hl (kds mem)) n) hcs
        obtain ⟨ok', ext, hI, hfz, hfr, hout⟩ := freeze_sound (rowsD cs) mem (Froze.refl _) h hws
        have hl2 := data_rels hI.obj hfz hcs' hfr (hl'.mono ext)
        obtain ⟨hxl, hrows⟩ := chunk_rel n hch hl2
        have husl : us'.length = n * te.size := by rw [hlen]; simp [hisz, hts]
        have hzv : (zeroValue e).run P w = .ok zv w := by simp [zeroValue, typeInfo, hi, hz']
        have e1 : (parts.map fun (i, x) => (i, (⟨tmps, ds⟩ : Act).eval x)).toList = parts.toList.map fun p => (p.1, (⟨tmps, ds⟩ : Act).eval p.2) := by simp
        rw [← e1] at hf
        have hrun := run_buildSlice (P := P) (w := w) hu hsz h0 h24 hzv hisz hf
        have hc : Cells w ok' te xs us' := ⟨by rw [husl, hxl], hrows, RelL.one hl2 (dataCs_one hcs')⟩
        obtain ⟨β', hN, hR⟩ := newRow_left (T := e) (w1 := w) hI hid hc hxl (arr := us'.toArray) (fun i u hu => by simpa using hu) (Nat.le_refl _) (by simp [husl]) ⟨[], by simp [hxl], by simp⟩ rfl rfl rfl rfl
        exact Left.value (s := Instr.buildSlice t n (parts.map fun (i, x) => (i, (⟨tmps, ds⟩ : Act).eval x))) (out := ⟨.one (.osl id), ws ++ [(id, .row te xs)]⟩) hrun hN hR
    · cases hr
  · cases hr
end
end Go.Sk
