/- Stores, composites and slices of the call's own, as the evaluator's. -/
import Derived.Test.YtpcahneiinjdmaaT1
import Derived.Deep.Upon
import Derived.Laws.MakeOwn
set_option linter.unusedSimpArgs false
set_option linter.unusedVariables false
set_option linter.unusedSectionVars false
namespace Go.Sk
open Go
section
variable {P : Program} {X : Fr} {env : List V} {mem : List Obj} {al : Nat → Prop} {tmps : Array Value} {w : World} {β : Nat → Value} {ok : Nat → Prop}

/-- data cells, read behind the freezing of their rows -/
theorem data_rel {m m' : List Obj} {w' : World} {ok' : Nat → Prop} (ho : ∀ i, ObjRel w' ok' X.rd β (kds m') al i (m'.getD i .dead)) (hf : Froze m m') {c c' : CV} {v : Value} (hr : (dataC c).run1 m = some c')
    (hrow : ∀ i ∈ rowsD [c], ∃ t xs, m'.getD i .dead = .frz t xs) (hv : RelC w' ok' X.rd β (kds m') al c v) : RelC w' ok' X.rd β (kds m') al c' v := by
  have frz : ∀ i t xs, m'.getD i .dead = .frz t xs → m.getD i .dead = .row t xs ∨ m.getD i .dead = .frz t xs := by
    intro i t xs h
    rcases hf i with h1 | ⟨t', xs', h1, h2⟩
    · right; rw [← h1, h]
    · left; rw [h] at h2; cases h2; exact h1
  cases c <;> simp only [dataC, Rd.run1_fail, Rd.run1_ret, Option.some.injEq] at hr <;> try (cases hr; done)
  case osl i =>
    obtain ⟨t, xs, hx⟩ := hrow i (by simp [rowsD])
    simp only [Rd.run1_get] at hr
    have hc' : c' = .slc t xs := by
      rcases frz i t xs hx with h1 | h1 <;> rw [h1] at hr <;> simpa using (ret_run1 hr).symm
    subst hc'
    rw [hv.osl_inv (by show (m'.getD i .dead).kd ≠ _; rw [hx]; simp [Obj.kd])]
    have hob := ho i
    rw [hx] at hob
    obtain ⟨A, c, hb, hl, hr'⟩ := hob
    simp at hb
    rw [hb]
    exact .slc t xs A c hl hr'
  case ovw i o n =>
    obtain ⟨t, xs, hx⟩ := hrow i (by simp [rowsD])
    simp only [Rd.run1_get] at hr
    have hc' : o + n ≤ xs.length ∧ c' = .slc t ((xs.drop o).take n) := by
      rcases frz i t xs hx with h1 | h1 <;> rw [h1] at hr
      · obtain ⟨h2, h3⟩ := guard_run1 (x := Rd.ret (CV.slc t ((xs.drop o).take n))) hr
        exact ⟨by simpa using h2, (ret_run1 h3).symm⟩
      · obtain ⟨h2, h3⟩ := guard_run1 (x := Rd.ret (CV.slc t ((xs.drop o).take n))) hr
        exact ⟨by simpa using h2, (ret_run1 h3).symm⟩
    obtain ⟨hle, rfl⟩ := hc'
    obtain ⟨A, n', cp, A', hb, rfl, hcp, hA⟩ : ∃ A n' c A', β i = .slice A n' c ∧ v = .slice A' n (c - o) ∧ o + n ≤ c ∧ (∀ b q, A = some ⟨b, q, none⟩ → c ≠ o → A' = some ⟨b, q + o * t.size, none⟩) := by
      cases hv with
      | ovw _ _ _ _ hi hp h1 => exact hp t (by show (m'.getD i .dead).kd = _; rw [hx]; rfl)
    have hob := ho i
    rw [hx] at hob
    obtain ⟨A2, c, hb2, hl, hr'⟩ := hob
    simp at hb2
    rw [hb] at hb2
    cases hb2
    have hlen : ((xs.drop o).take n).length = n := by simp; omega
    have := RelC.slc (w := w') (ok := ok') (rd := X.rd) (β := β) (kd := kds m') (al := al) t ((xs.drop o).take n) A' (cp - o) (by rw [hlen]; omega) ?_
    · rw [hlen] at this; exact this
    · rcases hr' with rfl | ⟨b, q, rfl, hok, hr'⟩
      · exact .inl (by simp)
      · by_cases hn : n = 0
        · exact .inl (by simp [hn])
        · refine .inr ⟨b, q + o * t.size, hA b q rfl (by omega), hok, fun k x hk => ?_⟩
          have hk' : xs[o + k]? = some x := by
            rw [List.getElem?_take] at hk
            split at hk
            · rwa [List.getElem?_drop] at hk
            · cases hk
          obtain ⟨us, h1, h2, h3⟩ := hr' _ _ hk'
          exact ⟨us, h1, h2, fun j u hj => by have := h3 j u hj; rw [Nat.add_mul] at this; simpa [Nat.add_assoc] using this⟩
  all_goals (subst hr; exact hv)

theorem data_rels {m m' : List Obj} {w' : World} {ok' : Nat → Prop} (ho : ∀ i, ObjRel w' ok' X.rd β (kds m') al i (m'.getD i .dead)) (hf : Froze m m') : ∀ {cs cs' : List CV} {us : List Value}, (dataCs cs).run1 m = some cs' →
    (∀ i ∈ rowsD cs, ∃ t xs, m'.getD i .dead = .frz t xs) → RelL w' ok' X.rd β (kds m') al cs us → RelL w' ok' X.rd β (kds m') al cs' us
  | [], cs', us, hr, _, hl => by
    obtain rfl := ret_run1 hr
    exact hl
  | c :: r, cs', us, hr, hrow, hl => by
    obtain ⟨c1, h1, hr⟩ := bind_run1 hr
    obtain ⟨r1, h2, hr⟩ := bind_run1 hr
    obtain rfl := ret_run1 hr
    obtain ⟨v, q, rfl, hc, hq⟩ := hl.head
    have hsub : ∀ i, (i ∈ rowsD [c] ∨ i ∈ rowsD r) → i ∈ rowsD (c :: r) := by
      intro i hi
      cases c <;> simp_all [rowsD]
    exact .cons (data_rel ho hf h1 (fun i hi => hrow i (hsub i (.inl hi))) hc) (data_rels ho hf h2 (fun i hi => hrow i (hsub i (.inr hi))) hq)

theorem dataC_one {m : List Obj} {c c' : CV} (hr : (dataC c).run1 m = some c') : c' ≠ .undef := by
  cases c <;> simp only [dataC, Rd.run1_fail, Rd.run1_ret, Option.some.injEq, Rd.run1_get] at hr <;> try (cases hr; done)
  all_goals first
    | (subst hr; simp; done)
    | skip
  · rename_i i
    cases hm : m.getD i .dead <;> rw [hm] at hr <;> first | (cases hr; done) | (obtain rfl := ret_run1 hr; simp)
  · rename_i i o n
    cases hm : m.getD i .dead <;> rw [hm] at hr <;> first | (cases hr; done) | (obtain ⟨_, hr⟩ := guard_run1 hr; obtain rfl := ret_run1 hr; simp)
theorem dataCs_one {m : List Obj} : ∀ {cs cs' : List CV}, (dataCs cs).run1 m = some cs' → ∀ c ∈ cs', c ≠ .undef
  | [], cs', hr, c, hc => by obtain rfl := ret_run1 hr; simp at hc
  | c0 :: r, cs', hr, c, hc => by
    obtain ⟨c1, h1, hr⟩ := bind_run1 hr
    obtain ⟨r1, h2, hr⟩ := bind_run1 hr
    obtain rfl := ret_run1 hr
    rcases List.mem_cons.1 hc with rfl | hc
    · exact dataC_one h1
    · exact dataCs_one h2 c hc
theorem dataCs_len {m : List Obj} : ∀ {cs cs' : List CV}, (dataCs cs).run1 m = some cs' → cs'.length = cs.length
  | [], cs', hr => by obtain rfl := ret_run1 hr; rfl
  | c0 :: r, cs', hr => by
    obtain ⟨c1, h1, hr⟩ := bind_run1 hr
    obtain ⟨r1, h2, hr⟩ := bind_run1 hr
    obtain rfl := ret_run1 hr
    simp [dataCs_len h2]
theorem RelL.one {kd : Nat → KD} {cs : List CV} {us : List Value} (hl : RelL w ok X.rd β kd al cs us) (hu : ∀ c ∈ cs, c ≠ .undef) : ∀ u ∈ us, u.oneCell' = true := by
  intro u hu'
  obtain ⟨j, hj⟩ := List.getElem?_of_mem hu'
  have hjlt : j < cs.length := by
    rw [← hl.1]
    rcases Nat.lt_or_ge j us.length with h | h
    · exact h
    · rw [List.getElem?_eq_none h] at hj; cases hj
  exact (hl.2 j _ u (List.getElem?_eq_getElem hjlt) hj).one (hu _ (List.getElem_mem hjlt))
theorem RelL.splice {kd : Nat → KD} {cs new : List CV} {us vs : List Value} {o : Nat} (hl : RelL w ok X.rd β kd al cs us) (hn : RelL w ok X.rd β kd al new vs) : RelL w ok X.rd β kd al (splice cs o new) (us.take o ++ vs ++ us.drop (o + vs.length)) := by
  unfold Sk.splice
  rw [hn.1]
  exact ((hl.take o).append hn).append (hl.drop _)

theorem left_storeE (h : Inv X env mem al tmps w β ok) {t : TypeId} {a x : Operand} {new : Nat → Prop} {n i k o : Nat} (hn : sizeAt P t = some n) {vc : List CV} {cv : Value} {av : Value} (hl : RelL w ok X.rd β (kds mem) al vc cv.cells.toList) (hlen : vc.length = n)
    (hp : RelC w ok X.rd β (kds mem) al (.eptr i k o) av) {t' : Ty} {xs : List (El t')} (hm : mem.getD i .dead = .row t' xs) {e e' : El t'} (hx : xs[k]? = some e) {ncs : List CV} (hncs : (dataCs vc).run1 mem = some ncs) {ws : List (Nat × Obj)} (hws : (freeze (rowsD vc)).run1 mem = some ws)
    (hd : decAll t' (Sk.splice (enc t' e) o ncs) = some e') (hg : i ∉ rowsD vc) (hon : o + n ≤ t'.size) :
    ∃ w' ok', (Instr.storeAt t av cv).run P w = .ok () w' ∧ Inv X env (wrs mem (ws ++ [(i, .row t' (xs.set k e'))])) al tmps w' β ok' := by
  obtain ⟨ok', ext, hI, hf, hfr, hout⟩ := freeze_sound (rowsD vc) mem (Froze.refl _) h hws
  have hmi : (wrs mem ws).getD i .dead = .row t' xs := by rw [hout i hg, hm]
  have hl' := data_rels hI.obj hf hncs hfr (hl.mono ext)
  have hob := hI.obj i
  rw [hmi] at hob
  obtain ⟨A, c, hβ, hob⟩ := hob
  obtain ⟨b, q, n1, c1, hb1, hv⟩ := hp.eptr_inv t' (by show (mem.getD i .dead).kd = _; rw [hm]; rfl)
  rw [hβ] at hb1
  cases hb1
  have hk : k < xs.length := by
    rcases Nat.lt_or_ge k xs.length with h | h
    · exact h
    · rw [List.getElem?_eq_none h] at hx; cases hx
  rcases hob with ⟨rfl, _⟩ | ⟨b', q', arr, T, e1, hh, h0, hle, hsz, hrows⟩
  · simp at hx
  · simp at e1
    obtain ⟨rfl, rfl⟩ := e1
    have hvl : cv.cells.toList.length = n := by rw [hl.1, hlen]
    have hkc : k * t'.size + t'.size ≤ c * t'.size := by
      have : (k + 1) * t'.size ≤ c * t'.size := Nat.mul_le_mul_right _ (by omega)
      rwa [Nat.add_mul, Nat.one_mul] at this
    have hone := RelL.one hl' (dataCs_one hncs)
    have hsz2 : q + k * t'.size + o + cv.cells.toList.length ≤ arr.size := by omega
    have hst := run_storeVar (P := P) (w := w) (T := T) hn rfl hvl hone hh hsz2
    refine ⟨_, ok', by rw [hv]; exact hst, ?_⟩
    rw [wrs_append]
    show Inv X env (wr (wrs mem ws) i (.row t' (xs.set k e'))) al tmps _ β ok'
    have hkx : k * t'.size + t'.size ≤ xs.length * t'.size := by
      have : (k + 1) * t'.size ≤ xs.length * t'.size := Nat.mul_le_mul_right _ (by omega)
      rwa [Nat.add_mul, Nat.one_mul] at this
    refine hI.rowWrite hmi (by simp) hβ (by omega) hh hsz2 (by omega) fun arr' hs1 hs2 hs3 j y hj => ?_
    rw [List.getElem?_set] at hj
    by_cases hjk : k = j
    · subst hjk
      rw [if_pos rfl, if_pos hk] at hj
      simp at hj
      subst hj
      obtain ⟨us, hul, hre, hu⟩ := hrows k e hx
      have hsp := RelL.splice (o := o) (rel_enc (rd := X.rd) (β := β) (kd := kds (wrs mem ws)) (al := al) hre) hl'
      have hre' := rel_decAll hd hsp
      refine ⟨_, hre'.length, hre', fun j u hj => ?_⟩
      by_cases h1 : j < o
      · rw [List.append_assoc, List.getElem?_append_left (by simp; omega), List.getElem?_take, if_pos h1] at hj
        rw [hs2 _ (.inl (by omega))]
        exact hu j u hj
      · rw [List.append_assoc, List.getElem?_append_right (by simp; omega)] at hj
        have ht : (us.take o).length = o := by simp; omega
        rw [ht] at hj
        by_cases h2 : j < o + n
        · rw [List.getElem?_append_left (by omega)] at hj
          have := hs3 _ _ hj
          rw [← this]; congr 1; omega
        · rw [List.getElem?_append_right (by omega), List.getElem?_drop] at hj
          rw [hs2 _ (.inr (by omega))]
          have := hu _ _ hj
          rw [← this]; congr 1; omega
    · rw [if_neg hjk] at hj
      obtain ⟨us, hul, hre, hu⟩ := hrows j y hj
      refine ⟨us, hul, hre, fun j2 u hj2 => ?_⟩
      have hj2' : j2 < t'.size := by
        rcases Nat.lt_or_ge j2 us.length with h | h
        · omega
        · rw [List.getElem?_eq_none h] at hj2; cases hj2
      rw [hs2]
      · exact hu j2 u hj2
      · rcases Nat.lt_or_gt_of_ne hjk with h3 | h3
        · right
          have : (k + 1) * t'.size ≤ j * t'.size := Nat.mul_le_mul_right _ h3
          rw [Nat.add_mul, Nat.one_mul] at this
          omega
        · left
          have : (j + 1) * t'.size ≤ k * t'.size := Nat.mul_le_mul_right _ h3
          rw [Nat.add_mul, Nat.one_mul] at this
          omega
end
end Go.Sk

/- Composites, slices of the call's own, append and copy, as the evaluator's. -/
set_option linter.unusedSimpArgs false
set_option linter.unusedVariables false
set_option linter.unusedSectionVars false
namespace Go.Sk
open Go

theorem spl_get {α : Type} {cs new : List α} {o : Nat} (h : o + new.length ≤ cs.length) (j : Nat) : (cs.take o ++ new ++ cs.drop (o + new.length))[j]? = if j < o then cs[j]? else if j < o + new.length then new[j - o]? else cs[j]? := by
  by_cases h1 : j < o
  · rw [if_pos h1, List.append_assoc, List.getElem?_append_left (by simp; omega), List.getElem?_take, if_pos h1]
  · rw [if_neg h1, List.append_assoc, List.getElem?_append_right (by simp; omega)]
    have e : (cs.take o).length = o := by simp; omega
    rw [e]
    by_cases h2 : j < o + new.length
    · rw [if_pos h2, List.getElem?_append_left (by omega)]
    · rw [if_neg h2, List.getElem?_append_right (by omega), List.getElem?_drop]
      congr 1; omega
theorem fold_get : ∀ (vs : List Value) (k off : Nat) (arr : Array Value), off + k + vs.length ≤ arr.size →
    ∀ j, ((vs.zipIdx k).foldl (fun (cs : Array Value) (x : Value × Nat) => cs.setIfInBounds (off + x.2) x.1) arr)[j]? = if j < off + k then arr[j]? else if j < off + k + vs.length then vs[j - (off + k)]? else arr[j]?
  | [], k, off, arr, h, j => by simp; omega
  | v :: r, k, off, arr, h, j => by
    simp only [List.length_cons] at h
    simp only [List.zipIdx_cons, List.foldl_cons]
    rw [fold_get r (k + 1) off _ (by simp; omega)]
    simp only [Array.getElem?_setIfInBounds, List.length_cons]
    by_cases h1 : j < off + k
    · rw [if_pos (by omega), if_neg (by omega), if_pos h1]
    · by_cases h2 : j = off + k
      · subst h2
        rw [if_pos (by omega), if_pos rfl, if_pos (by omega), if_neg (by omega), if_pos (by omega)]
        simp
      · rw [if_neg (by omega), if_neg h1]
        by_cases h3 : j < off + k + (r.length + 1)
        · rw [if_pos (by omega), if_pos h3, show j - (off + k) = (j - (off + (k + 1))) + 1 by omega]
          simp
        · rw [if_neg (by omega), if_neg h3, if_neg (by omega)]
theorem fold_splice (vs : List Value) (off : Nat) (arr : Array Value) (h : off + vs.length ≤ arr.size) :
    ((vs.zipIdx).foldl (fun (cs : Array Value) (x : Value × Nat) => cs.setIfInBounds (off + x.2) x.1) arr).toList = arr.toList.take off ++ vs ++ arr.toList.drop (off + vs.length) := by
  apply List.ext_getElem?
  intro j
  rw [spl_get (by simpa using h), Array.getElem?_toList, fold_get vs 0 off arr (by omega)]
  simp

section
variable {P : Program} {X : Fr} {env : List V} {mem : List Obj} {al : Nat → Prop} {tmps : Array Value} {w : World} {β : Nat → Value} {ok : Nat → Prop}

/-- the parts of a composite -/
def RelPs (w : World) (ok rd : Nat → Prop) (β : Nat → Value) (kd : Nat → KD) (al : Nat → Prop) : List (Nat × V) → List (Nat × Value) → Prop
  | [], [] => True
  | (i, v) :: r, (j, u) :: q => i = j ∧ RelL w ok rd β kd al v.cells u.cells.toList ∧ RelPs w ok rd β kd al r q
  | _, _ => False
theorem fill_rel {kd : Nat → KD} {pl : Nat → Option (Nat × Nat)} : ∀ (ps : List (Nat × V)) (qs : List (Nat × Value)) {cs cs' : List CV} {us : List Value}, RelPs w ok X.rd β kd al ps qs → RelL w ok X.rd β kd al cs us → (fillC pl cs ps).run1 mem = some cs' →
    ∃ us', Instr.fill pl us.toArray qs = some us'.toArray ∧ RelL w ok X.rd β kd al cs' us' ∧ us'.length = us.length
  | [], [], cs, cs', us, _, hl, hr => by
    obtain rfl := ret_run1 hr
    exact ⟨us, rfl, hl, rfl⟩
  | (i, v) :: r, (j, u) :: q, cs, cs', us, ⟨e, hv, hq⟩, hl, hr => by
    subst e
    unfold fillC at hr
    split at hr
    · rename_i off n hp
      obtain ⟨hb, hr⟩ := bif_fail hr
      simp only [Bool.and_eq_true, beq_iff_eq, decide_eq_true_eq] at hb
      have hs := RelL.splice (o := off) hl hv
      obtain ⟨us', hf, hl', hlen⟩ := fill_rel r q hq hs hr
      have hul : u.cells.size = n := by have := hv.1; simpa [hb.1] using this
      have hus : us.length = cs.length := hl.1
      refine ⟨us', ?_, hl', by rw [hlen]; simp; omega⟩
      unfold Instr.fill
      rw [hp]
      simp only []
      rw [if_neg (by simp [hul]; omega), ← hf]
      congr 1
      apply Array.ext'
      have := fold_splice u.cells.toList off us.toArray (by simp [hul]; omega)
      rw [← Array.foldl_toList, Array.toList_zipIdx]
      simpa [hul] using this
    · cases hr

theorem run_placesL (f : Field → Sem (Nat × Nat)) (hf : ∀ fd n, sizeAt P fd.type = some n → (f fd).run P w = .ok (fd.offset, n) w) : ∀ (fs : List Field) {l : List (Nat × Nat)}, placesL P fs = some l → (fs.mapM f).run P w = .ok l w
  | [], l, h => by simp [placesL] at h; subst h; rfl
  | fd :: r, l, h => by
    unfold placesL at h
    split at h
    · rename_i n l' hn hl
      simp at h
      subst h
      simp [List.mapM_cons, hf fd n hn, run_placesL f hf r hl]
    · cases h
theorem run_places (fs : Array Field) {l : List (Nat × Nat)} (h : placesL P fs.toList = some l) : (fs.mapM fun f => (do pure (f.offset, ← sizeOf f.type) : Sem (Nat × Nat))).run P w = .ok l.toArray w := by
  have := run_placesL (w := w) (fun f => do pure (f.offset, ← sizeOf f.type)) (fun fd n hn => by simp [run_sizeAt hn]) fs.toList h
  rw [Array.mapM_eq_mapM_toList]
  simp only [Sem.run_map, this, Result.andThen_ok]

variable (ds : List Deferred)
theorem relPs_of (h : Inv X env mem al tmps w β ok) (ty : Nat → Option Ty) : ∀ (l : List (Nat × Operand)), noTups (l.map fun p => (⟨env, mem⟩ : St).ev p.2 (ty p.1)) = true →
    RelPs w ok X.rd β (kds mem) al (l.map fun p => (p.1, (⟨env, mem⟩ : St).ev p.2 (ty p.1))) (l.map fun p => (p.1, (⟨tmps, ds⟩ : Act).eval p.2))
  | [], _ => trivial
  | (i, x) :: r, hn => by
    simp only [List.map_cons, noTups, Bool.and_eq_true, Bool.not_eq_true'] at hn
    exact ⟨rfl, relV_box (h.ev ds x (ty i)) hn.1, relPs_of h ty r hn.2⟩

variable (C : Cfg) (h : Inv X env mem al tmps w β ok) {out : Out} {ty : TypeId} {id : Nat} {dst : Option Tmp} {pos : String} {aft : Array Edge} {gd : Option (Nat × Bool)}
include h

theorem left_store {t : TypeId} {a x : Operand} {new : Nat → Prop} (hr : (semOp P C (.store t a x) ty (⟨env, mem⟩ : St).ev id).run1 mem = some out) : Left P X env mem al tmps w new (execOp (⟨tmps, ds⟩ : Act).eval ⟨dst, .store t a x, ty, pos, aft, gd⟩) out := by
  simp only [semOp] at hr
  split at hr
  · rename_i c n he hn
    obtain ⟨hb, hr⟩ := bif_fail hr
    simp only [Bool.and_eq_true, beq_iff_eq, Bool.not_eq_true'] at hb
    have hl := relV_box (h.ev ds x (tyAt P t)) hb.2
    have hp := ev_one ds h he
    cases c with
    | ptr i o =>
      simp only [Rd.run1_get] at hr
      cases hm : mem.getD i .dead <;> rw [hm] at hr <;> try (cases hr; done)
      rename_i cs
      obtain ⟨h2, hr⟩ := bif_fail hr
      obtain rfl := ret_run1 hr
      simp only [Bool.and_eq_true, decide_eq_true_eq] at h2
      obtain ⟨b, hbb, hv⟩ := hp.ptr_inv (by show (mem.getD i .dead).kd = _; rw [hm]; rfl)
      obtain ⟨w', hw, hI⟩ := h.storeCells hm hn hl hb.1 (known_spec h2.2) h2.1 hbb
      exact left_skip (s := Instr.storeAt t ((⟨tmps, ds⟩ : Act).eval a) ((⟨tmps, ds⟩ : Act).eval x)) (ws := [(i, .cells (splice cs o ((⟨env, mem⟩ : St).ev x (tyAt P t)).cells))]) h (by rw [hv]; exact hw) hI
    | eptr i k o =>
      simp only [Rd.run1_get] at hr
      cases hm : mem.getD i .dead <;> rw [hm] at hr <;> try (cases hr; done)
      rename_i t' xs
      simp only [Rd.run1_opt] at hr
      cases hx : xs[k]? with
      | none => rw [hx] at hr; cases hr
      | some e =>
        rw [hx, Option.bind_some] at hr
        obtain ⟨ncs, hncs, hr⟩ := bind_run1 hr
        obtain ⟨ws, hws, hr⟩ := bind_run1 hr
        cases hd : decAll t' (splice (enc t' e) o ncs) with
        | none => rw [hd] at hr; cases hr
        | some e' =>
          rw [hd] at hr
          cases hg : ((rowsD ((⟨env, mem⟩ : St).ev x (tyAt P t)).cells).contains i || !decide (o + n ≤ t'.size)) with
          | true => rw [hg] at hr; cases hr
          | false =>
            rw [hg] at hr
            obtain rfl := ret_run1 (m := mem) hr
            simp only [Bool.or_eq_false_iff, List.contains_eq_mem, decide_eq_false_iff_not, Bool.not_eq_false', decide_eq_true_eq] at hg
            obtain ⟨w', ok', hw, hI⟩ := left_storeE (P := P) (a := a) (x := x) (new := new) h hn hl hb.1 hp hm hx hncs hws hd hg.1 hg.2
            exact left_skip (s := Instr.storeAt t ((⟨tmps, ds⟩ : Act).eval a) ((⟨tmps, ds⟩ : Act).eval x)) (ws := ws ++ [(i, .row t' (xs.set k e'))]) h hw hI
    | _ => cases hr
  · cases hr

theorem left_build {t : TypeId} {parts : Array (Nat × Operand)} {new : Nat → Prop} (hr : (semOp P C (.build t parts) ty (⟨env, mem⟩ : St).ev id).run1 mem = some out) : Left P X env mem al tmps w new (execOp (⟨tmps, ds⟩ : Act).eval ⟨dst, .build t parts, ty, pos, aft, gd⟩) out := by
  simp only [semOp] at hr
  split at hr
  · rename_i z pl hz hpl
    obtain ⟨hb, hr⟩ := bif_fail hr
    obtain ⟨cs, hcs, hr⟩ := bind_run1 hr
    obtain rfl := ret_run1 hr
    obtain ⟨i, zv, hi, hz', hl⟩ := zero_rel (X := X) (w := w) (ok := ok) (β := β) (al := al) hz
    have hps := relPs_of ds h (partTy P t) parts.toList (by rw [List.map_map] at hb; exact hb)
    obtain ⟨us', hf, hl', _⟩ := fill_rel _ _ hps (hl (kds mem)) hcs
    refine .read h (s := Instr.build t (parts.map fun (i, x) => (i, (⟨tmps, ds⟩ : Act).eval x))) (v := .agg us'.toArray) ?_ (.ofL hl')
    have e1 : (parts.map fun (i, x) => (i, (⟨tmps, ds⟩ : Act).eval x)).toList = parts.toList.map fun p => (p.1, (⟨tmps, ds⟩ : Act).eval p.2) := by simp
    have hzv : (zeroValue t).run P w = .ok zv w := by simp [zeroValue, typeInfo, hi, hz']
    have e2 : zv.cells.toList.toArray = zv.cells := by simp
    rw [e2] at hf
    unfold placesOf at hpl
    split at hpl
    · rename_i fs hu
      split at hpl
      · rename_i l hpL
        simp at hpl
        subst hpl
        unfold Instr.build
        simp only [Sem.run_bind, hzv, Result.andThen_ok, run_underlying hu, run_places fs hpL, e1]
        have : (fun x : Nat => (l.toArray)[x]?) = (fun i : Nat => l[i]?) := by funext i; simp
        rw [this, hf]
        rfl
      · cases hpl
    · rename_i n e hu
      split at hpl
      · rename_i sz hsz
        simp at hpl
        subst hpl
        unfold Instr.build
        simp only [Sem.run_bind, hzv, Result.andThen_ok, run_underlying hu, run_sizeAt hsz, e1, hf]
        rfl
      · cases hpl
    · cases hpl
  · cases hr

/-! ### slices of the call's own -/
omit h in
theorem chunk_rel {kd : Nat → KD} {t : Ty} : ∀ (n : Nat) {cs : List CV} {xs : List (El t)} {us : List Value}, chunk t n cs = some xs → RelL w ok X.rd β kd al cs us → xs.length = n ∧
    ∀ k x, xs[k]? = some x → ∃ vs, vs.length = t.size ∧ RepE w ok t x vs ∧ ∀ j u, vs[j]? = some u → us[k * t.size + j]? = some u
  | 0, cs, xs, us, hc, hl => by
    cases cs with
    | nil => simp [chunk] at hc; subst hc; exact ⟨rfl, by simp⟩
    | cons c r => simp [chunk] at hc
  | n + 1, cs, xs, us, hc, hl => by
    unfold chunk at hc
    split at hc
    · rename_i x r hd
      split at hc
      · rename_i ys hy
        simp at hc
        subst hc
        obtain ⟨a, b, rfl, ha, hb⟩ := rel_dec t cs hd hl
        obtain ⟨hlen, hrows⟩ := chunk_rel n hy hb
        refine ⟨by simp [hlen], fun k y hk => ?_⟩
        have hal := ha.length
        cases k with
        | zero =>
          simp at hk; subst hk
          exact ⟨a, hal, ha, fun j u hj => by
            have : j < a.length := by
              rcases Nat.lt_or_ge j a.length with h | h
              · exact h
              · rw [List.getElem?_eq_none h] at hj; cases hj
            rw [Nat.zero_mul, Nat.zero_add, List.getElem?_append_left this]; exact hj⟩
        | succ k =>
          obtain ⟨vs, h1, h2, h3⟩ := hrows k y (by simpa using hk)
          refine ⟨vs, h1, h2, fun j u hj => ?_⟩
          rw [Nat.add_mul, Nat.one_mul, List.getElem?_append_right (by omega), hal]
          have := h3 j u hj
          rw [← this]; congr 1; omega
      · cases hc
    · cases hc

omit h in
theorem range_zero (z : Array Value) (n sz : Nat) (hz : z.size = sz) : ((Array.range (n * sz)).map fun x => z[x % z.size]!).toList = (List.replicate n z.toList).flatten := by
  induction n with
  | zero => simp
  | succ n ih =>
    rw [List.replicate_succ', List.flatten_append, ← ih]
    simp only [List.flatten_cons, List.flatten_nil, List.append_nil]
    apply List.ext_getElem?
    intro j
    simp only [Array.toList_map, Array.toList_range, List.getElem?_map]
    by_cases h1 : j < n * sz
    · rw [List.getElem?_append_left (by simpa using h1)]
      simp [List.getElem?_range, h1, show j < (n + 1) * sz by rw [Nat.add_mul]; omega]
    · rw [List.getElem?_append_right (by simp; omega)]
      simp only [List.length_map, List.length_range]
      by_cases h2 : j < (n + 1) * sz
      · have h3 : j - n * sz < sz := by rw [Nat.add_mul] at h2; omega
        have h4 : j % sz = j - n * sz := by
          have : j = (j - n * sz) + sz * n := by rw [Nat.mul_comm sz n]; omega
          rw [this, Nat.add_mul_mod_self_left, Nat.mod_eq_of_lt (by omega)]
          rw [Nat.mul_comm sz n]; omega
        simp [List.getElem?_range, h2, hz, h4, Array.getElem!_eq_getD, Array.getD_eq_getD_getElem?, show j - n * sz < z.size by omega]
        rw [Array.getElem?_eq_getElem (show j - n * sz < z.size by omega)]
        rfl
      · have h3 : sz ≤ j - n * sz := by rw [Nat.add_mul] at h2; omega
        simp [List.getElem?_range, h2, hz, h3]

omit h in
theorem zero_reps {kd : Nat → KD} {cs : List CV} {us : List Value} (hl : RelL w ok X.rd β kd al cs us) : ∀ n, RelL w ok X.rd β kd al (List.replicate n cs).flatten (List.replicate n us).flatten
  | 0 => .nil
  | n + 1 => by rw [List.replicate_succ, List.replicate_succ, List.flatten_cons, List.flatten_cons]; exact hl.append (zero_reps hl n)

omit h in
/-- a block that nothing leads to -/
theorem _root_.Go.Sk.Inv.junk {mem : List Obj} {ok : Nat → Prop} (h : Inv X env mem al tmps w β ok) {o : Go.Obj} : Inv X env mem al tmps (w.alloc o) β ok :=
  (h.update (mem' := mem) (al' := al) (w' := w.alloc o) (β' := β) (ok' := ok) (fun _ => False) (fun _ h => h) (fun _ h => h.elim) (fun _ _ => rfl) (fun _ _ => rfl) (fun _ h => h.elim) (fun _ h => h.elim) (fun b hb _ => heap_alloc_old _ _ hb) (by rw [size_alloc]; omega)
    (fun _ h => h) (fun _ h => .inl h) (fun _ _ h => h.elim) (fun _ _ h => h.elim) (fun _ _ _ h => h.elim) (fun _ _ h => h.elim) rfl rfl rfl).2

omit h in
theorem run_buildSlice {t e : TypeId} {n sz : Nat} (hu : P.underlying t = some (.slice e)) (hsz : sizeAt P e = some sz) (h0 : 0 < sz) (h24 : n * sz ≤ 16777216) {zv : Value} (hzv : (zeroValue e).run P w = .ok zv w) (hisz : zv.cells.size = sz) {parts : Array (Nat × Value)} {us' : List Value}
    (hf : Instr.fill (fun i => some (i * sz, sz)) ((List.replicate n zv.cells.toList).flatten).toArray parts.toList = some us'.toArray) :
    (Instr.buildSlice t n parts).run P w = .ok (.slice (some ⟨w.heap.size, 0, none⟩) n n) (w.alloc (.cells us'.toArray e)) := by
  unfold Instr.buildSlice
  have h24' : ¬ (n * sz > 2 ^ 24) := by omega
  simp only [Sem.run_bind, run_underlying hu, Result.andThen_ok, run_sizeAt hsz, if_neg h24', Sem.run_pure]
  by_cases hn0 : n = 0
  · subst hn0
    have e2 : ((List.replicate 0 zv.cells.toList).flatten).toArray = #[] := by simp
    rw [e2] at hf
    have e3 : ∀ f : Nat → Value, (Array.range (0 * sz)).map f = #[] := fun f => by simp
    have e4 : (0 * sz = 0) = True := by simp
    simp only [e4, if_true, Sem.run_pure, Result.andThen_ok, e3, hf]
    rfl
  · have hne : ¬ n * sz = 0 := by
      intro e3
      rcases Nat.mul_eq_zero.1 e3 with h | h <;> omega
    simp only [if_neg hne, Sem.run_bind, hzv, Result.andThen_ok, Sem.run_pure]
    have e2 : ((Array.range (n * sz)).map fun x => zv.cells[x % zv.cells.size]!) = ((List.replicate n zv.cells.toList).flatten).toArray := by
      apply Array.ext'
      rw [range_zero zv.cells n sz hisz]
    rw [e2, hf]
    rfl

omit h in
/-- a new row behind some frozen ones -/
theorem newRow_left {ok' : Nat → Prop} {ws : List (Nat × Obj)} (hI : Inv X env (wrs mem ws) al tmps w β ok') (hid : ¬ al id) {te : Ty} {xs : List (El te)} {us : List Value} {n : Nat} {T : TypeId} (hc : Cells w ok' te xs us) (hxl : xs.length = n) {arr : Array Value} (ha : ∀ (i : Nat) u, us[i]? = some u → arr[i]? = some u) {cp : Nat} (hcp : n ≤ cp) (hsz : cp * te.size ≤ arr.size)
    (hsp : ∃ sp : List (El te), xs.length + sp.length = cp ∧ ∀ (k : Nat) x, sp[k]? = some x → ∃ us, us.length = te.size ∧ RepE w ok' te x us ∧ ∀ (j : Nat) u, us[j]? = some u → arr[(xs.length + k) * te.size + j]? = some u)
    {w1 : World} (hw1 : w1.heap = w.heap) (os : w1.os = w.os) (out : w1.output = w.output) (tape : w1.tape = w.tape) :
    ∃ β', Inv X env (wrs mem (ws ++ [(id, .row te xs)])) (fun i => al i ∨ i = id) tmps (w1.alloc (.cells arr T)) β' ok' ∧
      RelV (w1.alloc (.cells arr T)) ok' X.rd β' (kds (wrs mem (ws ++ [(id, .row te xs)]))) (fun i => al i ∨ i = id) (.one (.osl id)) (.slice (some ⟨w.heap.size, 0, none⟩) n cp) := by
  have e5 : wrs mem (ws ++ [(id, .row te xs)]) = wr (wrs mem ws) id (.row te xs) := by rw [wrs_append]; rfl
  rw [e5]
  by_cases hn0 : cp = 0
  · subst hn0
    have hx0 : xs = [] := List.eq_nil_of_length_eq_zero (by omega)
    subst hx0
    have hn : n = 0 := by omega
    subst hn
    have hJ := (hI.heap hw1 os out tape).junk (o := .cells arr T)
    obtain ⟨hN, hR⟩ := hJ.newRow0 (t := te) (A := some ⟨w.heap.size, 0, none⟩) hid (fun _ => false) (by simp) (mem' := wr (wrs mem ws) id (.row te [])) (fun i => by rw [wr_getD]; simp)
    exact ⟨_, hN, .one _ _ hR⟩
  · obtain ⟨hN, hR⟩ := hI.newRow (t := te) (xs := xs) (arr := arr) (c := cp) (T := T) (w1 := w1) hid hw1 os out tape (fun _ => false) (by simp) hc ha (by omega) (by omega) hsz hsp
      (mem' := wr (wrs mem ws) id (.row te xs)) (fun i => by rw [wr_getD]; simp)
    rw [hxl] at hN hR
    exact ⟨_, hN, .one _ _ hR⟩

theorem left_buildSlice (hid : ¬ al id) {t : TypeId} {n : Nat} {parts : Array (Nat × Operand)} (hr : (semOp P C (.buildSlice t n parts) ty (⟨env, mem⟩ : St).ev id).run1 mem = some out) : Left P X env mem al tmps w (fun i => i = id) (execOp (⟨tmps, ds⟩ : Act).eval ⟨dst, .buildSlice t n parts, ty, pos, aft, gd⟩) out := by
  simp only [semOp] at hr
  split at hr
  · rename_i e hu
    split at hr
    · rename_i z sz te hz hsz hte
      obtain ⟨hb, hr⟩ := bif_fail hr
      simp only [Bool.and_eq_true, decide_eq_true_eq, beq_iff_eq] at hb
      obtain ⟨⟨⟨⟨hn, h24⟩, hts⟩, h0⟩, hzl⟩ := hb
      obtain ⟨cs, hcs, hr⟩ := bind_run1 hr
      obtain ⟨cs', hcs', hr⟩ := bind_run1 hr
      obtain ⟨ws, hws, hr⟩ := bind_run1 hr
      cases hch : chunk te n cs' with
      | none => rw [hch] at hr; cases hr
      | some xs =>
        rw [hch] at hr
        obtain rfl := ret_run1 (m := mem) hr
        obtain ⟨i, zv, hi, hz', hl⟩ := zero_rel (X := X) (w := w) (ok := ok) (β := β) (al := al) hz
        have hisz : zv.cells.size = sz := by have := (hl (kds mem)).1; simpa [hzl] using this
        have hps := relPs_of ds h (fun _ => some te) parts.toList (by rw [List.map_map] at hn; exact hn)
        obtain ⟨us', hf, hl', hlen⟩ := fill_rel _ _ hps (zero_reps (hl (kds mem)) n) hcs
        obtain ⟨ok', ext, hI, hfz, hfr, hout⟩ := freeze_sound (rowsD cs) mem (Froze.refl _) h hws
        have hl2 := data_rels hI.obj hfz hcs' hfr (hl'.mono ext)
        obtain ⟨hxl, hrows⟩ := chunk_rel n hch hl2
        have husl : us'.length = n * te.size := by rw [hlen]; simp [hisz, hts]
        have hzv : (zeroValue e).run P w = .ok zv w := by simp [zeroValue, typeInfo, hi, hz']
        have e1 : (parts.map fun (i, x) => (i, (⟨tmps, ds⟩ : Act).eval x)).toList = parts.toList.map fun p => (p.1, (⟨tmps, ds⟩ : Act).eval p.2) := by simp
        rw [← e1] at hf
        have hrun := run_buildSlice (P := P) (w := w) hu hsz h0 h24 hzv hisz hf
        have hc : Cells w ok' te xs us' := ⟨by rw [husl, hxl], hrows, RelL.one hl2 (dataCs_one hcs')⟩
        obtain ⟨β', hN, hR⟩ := newRow_left (T := e) (w1 := w) hI hid hc hxl (arr := us'.toArray) (fun i u hu => by simpa using hu) (Nat.le_refl _) (by simp [husl]) ⟨[], by simp [hxl], by simp⟩ rfl rfl rfl rfl
        exact Left.value (s := Instr.buildSlice t n (parts.map fun (i, x) => (i, (⟨tmps, ds⟩ : Act).eval x))) (out := ⟨.one (.osl id), ws ++ [(id, .row te xs)]⟩) hrun hN hR
    · cases hr
  · cases hr
end
end Go.Sk

/- Rows whose capacity is known, as rows. -/
set_option linter.unusedSimpArgs false
set_option linter.unusedVariables false
set_option linter.unusedSectionVars false
namespace Go.Sk
open Go
section
variable {X : Fr} {env : List V} {mem : List Obj} {al : Nat → Prop} {tmps : Array Value} {w : World} {β : Nat → Value} {ok : Nat → Prop}
theorem objFull {rd : Nat → Prop} {kd kd' : Nat → KD} {al' : Nat → Prop} {i : Nat} {t : Ty} {xs : List (El t)} (h : ObjRel w ok rd β kd al i (.full t xs)) : ObjRel w ok rd β kd' al' i (.row t xs) := by
  obtain ⟨A, e, h⟩ := h
  refine ⟨A, xs.length, e, ?_⟩
  by_cases hx : xs = []
  · exact .inl ⟨hx, by rw [hx]; rfl⟩
  · rcases h with h | ⟨b, o, arr, T, e1, hh, hs, hl⟩
    · exact absurd h hx
    · have : xs.length ≠ 0 := fun hl => hx (List.eq_nil_of_length_eq_zero hl)
      exact .inr ⟨b, o, arr, T, e1, hh, by omega, Nat.le_refl _, hs, hl⟩
theorem objRow {rd : Nat → Prop} {kd kd' : Nat → KD} {al' : Nat → Prop} {i : Nat} {t : Ty} {xs : List (El t)} (h : ObjRel w ok rd β kd al i (.row t xs)) {A : Option Addr} {n : Nat} (hb : β i = .slice A n xs.length) : ObjRel w ok rd β kd' al' i (.full t xs) := by
  obtain ⟨A', c, e, h⟩ := h
  rw [hb] at e
  cases e
  refine ⟨A, hb, ?_⟩
  rcases h with ⟨h, _⟩ | ⟨b, o, arr, T, e1, hh, h0, hle, hs, hl⟩
  · exact .inl h
  · exact .inr ⟨b, o, arr, T, e1, hh, hs, hl⟩
theorem ownB_rf {t t' : Ty} (xs : List (El t)) (ys : List (El t')) (v : Value) : ownB (.row t xs) v = ownB (.full t' ys) v := by
  cases v <;> try rfl
  rename_i A _ _
  cases A <;> rfl
theorem kds_wr {k : Nat} {o : Obj} (h : o.kd = kds mem k) : kds (wr mem k o) = kds mem := by
  funext j
  show ((wr mem k o).getD j .dead).kd = _
  rw [wr_getD]
  split
  · rename_i e
    rw [e]
    exact h
  · rfl
theorem Inv.toRow (h : Inv X env mem al tmps w β ok) {k : Nat} {t : Ty} {xs : List (El t)} (hm : mem.getD k .dead = .full t xs) : Inv X env (wr mem k (.row t xs)) al tmps w β ok := by
  have hk : kds mem k = .row t := by show (mem.getD k .dead).kd = _; rw [hm]; rfl
  refine (h.modify (o' := .row t xs) (w' := w) (fun j => wr_getD _ _ _ j) (by rw [hk]; rfl) (h.len k (by rw [hm]; simp [Obj.kd])) (fun _ _ => rfl) rfl (fun b hb => ?_) (fun _ => ?_) rfl rfl rfl).2
  · unfold own
    rw [hm, ← ownB_rf xs xs]
    exact hb
  · have := h.obj k
    rw [hm] at this
    exact objFull this
theorem Inv.toFull (h : Inv X env mem al tmps w β ok) {k : Nat} {t : Ty} {xs : List (El t)} (hm : mem.getD k .dead = .row t xs) {A : Option Addr} {n : Nat} (hb : β k = .slice A n xs.length) : Inv X env (wr mem k (.full t xs)) al tmps w β ok := by
  have hk : kds mem k = .row t := by show (mem.getD k .dead).kd = _; rw [hm]; rfl
  refine (h.modify (o' := .full t xs) (w' := w) (fun j => wr_getD _ _ _ j) (by rw [hk]; rfl) (h.len k (by rw [hm]; simp [Obj.kd])) (fun _ _ => rfl) rfl (fun b hb => ?_) (fun _ => ?_) rfl rfl rfl).2
  · unfold own
    rw [hm, ownB_rf xs xs]
    exact hb
  · have := h.obj k
    rw [hm] at this
    exact objRow this hb
end
end Go.Sk

/- make, append and copy, as the evaluator's. -/
set_option linter.unusedSimpArgs false
set_option linter.unusedVariables false
set_option linter.unusedSectionVars false
namespace Go.Sk
open Go
section
variable {P : Program} {X : Fr} {env : List V} {mem : List Obj} {al : Nat → Prop} {tmps : Array Value} {w : World} {β : Nat → Value} {ok : Nat → Prop}

theorem RepE.sizeL {t : Ty} {x : El t} {us : List Value} (h : RepE w ok t x us) : us.length = t.size := h.length

theorem wrap_id {n : Int} (h0 : 0 ≤ n) (h1 : n ≤ 140737488355328) : IntKind.i64.wrap n = n := by
  have e : IntKind.i64.wrap n = (if (n % 18446744073709551616 : Int) ≥ 9223372036854775808 then n % 18446744073709551616 - 18446744073709551616 else n % 18446744073709551616) := by
    unfold IntKind.wrap
    simp [IntKind.bits, IntKind.signed]
  rw [e]
  split <;> omega

/-- the row of a slice that reads, as the cells of a source -/
theorem src_of {t tx : TypeId} {te : Ty} {A : Option Addr} {c sz : Nat} {ys : List (El te)} (hk : ∃ e', P.underlying tx = some (.slice e')) (hs : te.size = sz)
    (h : ys = [] ∨ ∃ b o, A = some ⟨b, o, none⟩ ∧ ∀ k x, ys[k]? = some x → ∃ us, us.length = te.size ∧ RepE w ok te x us ∧ ∀ j u, us[j]? = some u → w.cell? ⟨b, o + k * te.size + j, none⟩ = some u) :
    ∃ news, Src P sz tx (.slice A ys.length c) ys.length news w ∧ Cells w ok te ys news := by
  subst hs
  obtain ⟨e', hk⟩ := hk
  rcases h with rfl | ⟨b, o, rfl, h⟩
  · refine ⟨[], ?_, ⟨by simp, by simp, by simp⟩⟩
    cases A with
    | none => exact Src.ofNil w hk c
    | some a => exact Src.ofSlice w hk a 0 c [] (by simp) (by simp) (by simp)
  · obtain ⟨news, h1, h2, h3, h4⟩ := cells_of_rows (R := fun x us => RepE w ok te x us) ys (fun i => w.cell? ⟨b, o + i, none⟩) (fun k x hk => by
      obtain ⟨us, a1, a2, a3⟩ := h k x hk
      exact ⟨us, a1, a2, fun j u hj => by have := a3 j u hj; rwa [Nat.add_assoc] at this⟩)
    have one : ∀ u ∈ news, u.oneCell' = true := fun u hu => by
      obtain ⟨x, us, hr, hm⟩ := h4 u hu
      exact hr.one u hm
    exact ⟨news, Src.ofSlice w hk _ _ c news h1 (fun j u hj => by rw [addr_add]; exact h2 j u hj) one, ⟨h1, h3, one⟩⟩

theorem rel_src (ho : ∀ i, ObjRel w ok X.rd β (kds mem) al i (mem.getD i .dead)) {tx : TypeId} {te : Ty} {sz : Nat} {b : CV} {bv : Value} (hs : te.size = sz) (hok : srcOk P tx b = true) {ys : List (El te)} (hr : (srcElems te b).run1 mem = some ys) (hv : RelC w ok X.rd β (kds mem) al b bv) :
    ∃ news, Src P sz tx bv ys.length news w ∧ Cells w ok te ys news := by
  have hsl : b.isStr = false → ∃ e', P.underlying tx = some (.slice e') := by
    intro hb
    unfold srcOk at hok
    rw [hb] at hok
    cases hu : P.underlying tx with
    | none => rw [hu] at hok; cases hok
    | some d => rw [hu] at hok; cases d <;> first | (cases hok; done) | exact ⟨_, rfl⟩
  cases b <;> simp only [srcElems, elems, Rd.run1_fail, Rd.run1_ret, Option.some.injEq, Rd.run1_ofOption] at hr <;> try (cases hr; done)
  case str s =>
    cases hv
    have hst : P.underlying tx = some .string := by
      unfold srcOk at hok
      simp only [CV.isStr] at hok
      cases hu : P.underlying tx with
      | none => rw [hu] at hok; cases hok
      | some d => rw [hu] at hok; cases d <;> first | (cases hok; done) | rfl
    cases te <;> simp only [strElems, Rd.run1_fail, Rd.run1_ret, Option.some.injEq] at hr <;> try (cases hr; done)
    rename_i k
    cases k <;> simp only [strElems, Rd.run1_fail, Rd.run1_ret, Option.some.injEq] at hr <;> try (cases hr; done)
    subst hr
    have hs1 : sz = 1 := hs.symm
    subst hs1
    have hlen : (s.data.toList.map fun c => (c.toNat : Int)).length = s.size := by simp
    refine ⟨byteCells s, by rw [hlen]; exact Src.ofString w hst s, ⟨by rw [byteCells_length, hlen]; simp [Ty.size], fun k x hk => ?_, fun u hu => ?_⟩⟩
    · simp only [List.getElem?_map] at hk
      cases hq : s.data.toList[k]? with
      | none => rw [hq] at hk; cases hk
      | some q =>
        rw [hq] at hk
        simp at hk
        refine ⟨[.int .u8 x], rfl, rfl, fun j u hj => ?_⟩
        cases j with
        | zero =>
          simp at hj
          subst hj
          simp only [Ty.size, Nat.mul_one, Nat.add_zero, byteCells, List.getElem?_map, hq, Option.map_some, hk]
        | succ j => simp at hj
    · obtain ⟨q, _, rfl⟩ := List.mem_map.1 hu
      rfl
  case nils t' =>
    subst hr
    cases hv
    exact src_of (t := tx) (hsl rfl) hs (.inl rfl)
  case slc t' xs =>
    obtain ⟨rfl, rfl⟩ := decS_spec hr
    obtain ⟨A, c, rfl, hrow⟩ : ∃ A c, bv = .slice A ys.length c ∧ RowAt w ok (RepE w ok t') t'.size A ys := by cases hv; exact ⟨_, _, rfl, by assumption⟩
    refine src_of (t := tx) (ys := ys) (hsl rfl) hs ?_
    rcases hrow with h | ⟨b, o, e, _, h⟩
    · exact .inl h
    · exact .inr ⟨b, o, e, h⟩
  case clp t' xs =>
    obtain ⟨rfl, rfl⟩ := decS_spec hr
    obtain ⟨A, rfl, hrow⟩ : ∃ A, bv = .slice A ys.length ys.length ∧ RowAt w ok (RepE w ok t') t'.size A ys := by cases hv; exact ⟨_, rfl, by assumption⟩
    refine src_of (t := tx) (ys := ys) (hsl rfl) hs ?_
    rcases hrow with h | ⟨b, o, e, _, h⟩
    · exact .inl h
    · exact .inr ⟨b, o, e, h⟩
  case chk b' t' xs =>
    obtain ⟨rfl, rfl⟩ := decS_spec hr
    obtain ⟨A, c, rfl, hrow⟩ : ∃ A c, bv = .slice A ys.length c ∧ RowAt w ok (RepE w ok t') t'.size A ys := by cases hv; exact ⟨_, _, rfl, by assumption⟩
    refine src_of (t := tx) (ys := ys) (hsl rfl) hs ?_
    rcases hrow with h | ⟨b, o, e, _, h⟩
    · exact .inl h
    · exact .inr ⟨b, o, e, h⟩
  case osl i =>
    simp only [Rd.run1_get] at hr
    have hob := ho i
    cases hm : mem.getD i .dead <;> rw [hm] at hr hob <;> simp only [Rd.run1_fail, Rd.run1_ofOption] at hr <;> try (cases hr; done)
    all_goals
      rename_i t' xs
      obtain ⟨rfl, rfl⟩ := decS_spec hr
      rw [hv.osl_inv (by show (mem.getD i .dead).kd ≠ _; rw [hm]; simp [Obj.kd])]
    · obtain ⟨A, c, hb, hob⟩ := hob
      rw [hb]
      refine src_of (t := tx) (ys := ys) (hsl rfl) hs ?_
      rcases hob with ⟨h, _⟩ | ⟨b, o, arr, T, rfl, hh, h0, hle, hsz, h⟩
      · exact .inl h
      · exact .inr ⟨b, o, rfl, fun k x hk => let ⟨us, h1, h2, h3⟩ := h k x hk; ⟨us, h1, h2, fun j u hj => by simp [World.cell?, hh, h3 j u hj]⟩⟩
    · obtain ⟨A, c, hb, hle, hob⟩ := hob
      simp at hb
      rw [hb]
      refine src_of (t := tx) (ys := ys) (hsl rfl) hs ?_
      rcases hob with h | ⟨b, o, e, _, h⟩
      · exact .inl h
      · exact .inr ⟨b, o, e, h⟩
  case ovw i of n =>
    simp only [Rd.run1_get] at hr
    have hob := ho i
    cases hm : mem.getD i .dead <;> rw [hm] at hr hob <;> try (cases hr; done)
    all_goals
      rename_i t' xs
      obtain ⟨xs', hx, hr2⟩ := bind_run1 hr
      clear hr
      rw [Rd.run1_ofOption] at hx
      obtain ⟨e0, hx⟩ := decS_spec hx
      subst e0
      replace hx : xs' = xs := hx
      subst hx
      obtain ⟨hle, hr2⟩ := guard_run1 hr2
      obtain rfl := ret_run1 hr2
      replace hle : of + n ≤ xs'.length := by simpa using hle
      obtain ⟨A, n', cp, A', hb, rfl, hcp, hA⟩ : ∃ A n' c A', β i = .slice A n' c ∧ bv = .slice A' n (c - of) ∧ of + n ≤ c ∧ (∀ b q, A = some ⟨b, q, none⟩ → c ≠ of → A' = some ⟨b, q + of * t'.size, none⟩) := by
        cases hv with
        | ovw _ _ _ _ hi hp h1 => exact hp t' (by show (mem.getD i .dead).kd = _; rw [hm]; rfl)
      have hlen : ((xs'.drop of).take n).length = n := by simp; omega
      have hget : ∀ k x, ((xs'.drop of).take n)[k]? = some x → xs'[of + k]? = some x := fun k x hk => by
        rw [List.getElem?_take] at hk
        split at hk
        · rwa [List.getElem?_drop] at hk
        · cases hk
      have key := src_of (w := w) (ok := ok) (P := P) (t := tx) (tx := tx) (te := t') (A := A') (c := cp - of) (sz := sz) (ys := (xs'.drop of).take n) (hsl rfl) hs
      rw [hlen] at key
      show ∃ news, Src P sz tx (.slice A' n (cp - of)) ((xs'.drop of).take n).length news w ∧ Cells w ok t' ((xs'.drop of).take n) news
      rw [hlen]
      refine key ?_
    · obtain ⟨A2, c2, hb2, hob⟩ := hob
      rw [hb] at hb2
      cases hb2
      by_cases hn : n = 0
      · exact .inl (by simp [hn])
      rcases hob with ⟨h, rfl⟩ | ⟨b, o, arr, T, rfl, hh, h0, hle, hsz, h⟩
      · omega
      · exact .inr ⟨b, _, hA b o rfl (by omega), fun k x hk => let ⟨us, h1, h2, h3⟩ := h _ x (hget k x hk); ⟨us, h1, h2, fun j u hj => by
          have := h3 j u hj
          rw [Nat.add_mul] at this
          simp [World.cell?, hh, ← this, Nat.add_assoc]⟩⟩
    · obtain ⟨A2, c2, hb2, hle2, hob⟩ := hob
      simp at hb2
      rw [hb] at hb2
      cases hb2
      by_cases hn : n = 0
      · exact .inl (by simp [hn])
      rcases hob with h | ⟨b, o, rfl, _, h⟩
      · subst h; simp at hle; omega
      · exact .inr ⟨b, _, hA b o rfl (by omega), fun k x hk => let ⟨us, h1, h2, h3⟩ := h _ x (hget k x hk); ⟨us, h1, h2, fun j u hj => by
          have := h3 j u hj
          rw [Nat.add_mul] at this
          rw [← this]
          simp [Nat.add_assoc]⟩⟩
    · obtain ⟨A2, c2, hb2, hob⟩ := objFull (kd' := kds mem) (al' := al) hob
      rw [hb] at hb2
      cases hb2
      by_cases hn : n = 0
      · exact .inl (by simp [hn])
      rcases hob with ⟨h, rfl⟩ | ⟨b, o, arr, T, rfl, hh, h0, hle, hsz, h⟩
      · omega
      · exact .inr ⟨b, _, hA b o rfl (by omega), fun k x hk => let ⟨us, h1, h2, h3⟩ := h _ x (hget k x hk); ⟨us, h1, h2, fun j u hj => by
          have := h3 j u hj
          rw [Nat.add_mul] at this
          simp [World.cell?, hh, ← this, Nat.add_assoc]⟩⟩
end
end Go.Sk

/- append, copy and make, as the evaluator's. -/
set_option linter.unusedSimpArgs false
set_option linter.unusedVariables false
set_option linter.unusedSectionVars false
namespace Go.Sk
open Go
section
variable {P : Program} {X : Fr} {env : List V} {mem : List Obj} {al : Nat → Prop} {tmps : Array Value} {w : World} {β : Nat → Value} {ok : Nat → Prop}

theorem Cells.replicate {te : Ty} {x : El te} {us : List Value} (h : RepE w ok te x us) : ∀ n, Cells w ok te (List.replicate n x) (List.replicate n us).flatten
  | 0 => ⟨by simp, by simp, by simp⟩
  | n + 1 => by
    rw [List.replicate_succ, List.replicate_succ, List.flatten_cons]
    exact Cells.append (xs := [x]) ⟨by simp [h.length], fun k y hk => by
      cases k with
      | zero => simp at hk; subst hk; exact ⟨us, h.length, h, fun j u hj => by simpa using hj⟩
      | succ k => simp at hk, h.one⟩ (Cells.replicate h n)


/-- what is asked of an element type -/
structure EI (P : Program) (t : TypeId) (te : Ty) (bytes sz : Nat) : Prop where
  ex : ∃ (e : TypeId) (i : TypeInfo) (z : Value), P.underlying t = some (.slice e) ∧ P.info? e = some i ∧ i.zero = some z ∧ i.size = sz ∧ i.bytes = bytes ∧ z.cells.size = sz ∧ ∀ (w : World) (ok : Nat → Prop), ∃ zx : El te, RepE w ok te zx z.cells.toList
  size : te.size = sz
  b0 : 0 < bytes
  s0 : 0 < sz
theorem elemInfo_spec {t : TypeId} {te : Ty} {bytes sz : Nat} (h : elemInfo P t = some (te, bytes, sz)) : EI P t te bytes sz := by
  unfold elemInfo at h
  split at h
  · rename_i e hu
    split at h
    · rename_i te' b' sz' z hte hb hs hz
      cases hc : (te'.size == sz' && decide (0 < b') && decide (0 < sz') && z.length == sz' && (decAll te' z).isSome) with
      | false => rw [hc] at h; cases h
      | true =>
        rw [hc] at h
        simp at h hc
        obtain ⟨rfl, rfl, rfl⟩ := h
        obtain ⟨i, zv, hi, hz', hl⟩ := zero_rel (X := { w0 := default, ok0 := fun _ => False, own0 := fun _ => False, rd := fun _ => False, gh := undef }) (w := default) (ok := fun _ => False) (β := fun _ => undef) (al := fun _ => False) hz
        have h1 : i.size = sz' := by unfold sizeAt at hs; rw [hi] at hs; simpa using hs
        have h2 : i.bytes = b' := by unfold bytesAt at hb; rw [hi] at hb; simpa using hb
        have h3 : zv.cells.size = sz' := by have := (hl fun _ => .none).1; simp at this; omega
        refine ⟨⟨e, i, zv, hu, hi, hz', h1, h2, h3, fun w ok => ?_⟩, hc.1.1.1.1, hc.1.1.1.2, hc.1.1.2⟩
        obtain ⟨zx, hzx⟩ := Option.isSome_iff_exists.1 hc.2
        obtain ⟨i2, zv2, hi2, hz2, hl2⟩ := zero_rel (X := { w0 := default, ok0 := fun _ => False, own0 := fun _ => False, rd := fun _ => False, gh := undef }) (w := w) (ok := ok) (β := fun _ => undef) (al := fun _ => False) hz
        rw [hi] at hi2
        cases hi2
        rw [hz'] at hz2
        cases hz2
        exact ⟨zx, rel_decAll hzx (hl2 fun _ => .none)⟩
    · cases h
  · cases h

/-- the arm that grows -/
theorem grow_core (h : Inv X env mem al tmps w β ok) {te : Ty} {bytes sz : Nat} {t : TypeId} (hE : EI P t te bytes sz) {id : Nat} (hid : ¬ al id) {sLen cp : Nat} {olds : List Value} {xs ys : List (El te)} {news : List Value}
    (hx : Cells w ok te xs olds) (hxl : xs.length = sLen) (hy : Cells w ok te ys news) (hcap : sLen + ys.length ≤ cp) (hpos : 0 < sLen + ys.length) {e : TypeId} {z : Value} (hzs : z.cells.size = sz) (hzr : ∀ (w : World) (ok : Nat → Prop), ∃ zx : El te, RepE w ok te zx z.cells.toList) (D : Nat → Bool) (hD : ∀ i, D i = true → al i)
    {mem' : List Obj} (hm : ∀ i, mem'.getD i .dead = if i = id then .row te (xs ++ ys) else if D i = true then .dead else mem.getD i .dead) :
    ∃ β', Inv X env mem' (fun i => al i ∨ i = id) tmps (w.drew.alloc (.cells ((olds ++ news).toArray ++ Builtin.zeroCells z.cells (cp - (sLen + ys.length))) e)) β' ok ∧
      RelC (w.drew.alloc (.cells ((olds ++ news).toArray ++ Builtin.zeroCells z.cells (cp - (sLen + ys.length))) e)) ok X.rd β' (kds mem') (fun i => al i ∨ i = id) (.osl id) (.slice (some ⟨w.heap.size, 0, none⟩) (sLen + ys.length) cp) := by
  have hcs := hx.append hy
  have hlen : (olds ++ news).length = (sLen + ys.length) * te.size := by rw [hcs.length, List.length_append, hxl]
  obtain ⟨hN, hR⟩ := h.newRow (id := id) hid (t := te) (xs := xs ++ ys) (arr := (olds ++ news).toArray ++ Builtin.zeroCells z.cells (cp - (sLen + ys.length))) (c := cp) (T := e) (w1 := w.drew) rfl rfl rfl rfl D hD hcs
    (fun j u hj => by
      have : j < (olds ++ news).length := by
        rcases Nat.lt_or_ge j (olds ++ news).length with h | h
        · exact h
        · rw [List.getElem?_eq_none h] at hj; cases hj
      rw [Array.getElem?_append, if_pos (by simpa using this)]
      simpa using hj)
    (by rw [List.length_append, hxl]; exact hcap) (by omega)
    (by
      have hz2 : (Builtin.zeroCells z.cells (cp - (sLen + ys.length))).size = (cp - (sLen + ys.length)) * te.size := by simp [Builtin.zeroCells, hzs, hE.size]
      rw [Array.size_append, hz2, List.size_toArray, hlen, ← Nat.add_mul]
      exact Nat.mul_le_mul_right _ (by omega))
    (by
      obtain ⟨zx, hzx⟩ := hzr w ok
      have hzl : (Builtin.zeroCells z.cells (cp - (sLen + ys.length))).toList = (List.replicate (cp - (sLen + ys.length)) z.cells.toList).flatten := range_zero z.cells _ _ rfl
      refine ⟨List.replicate (cp - (sLen + ys.length)) zx, by simp [hxl]; omega, fun k x hk => ?_⟩
      obtain ⟨us, a1, a2, a3⟩ := (Cells.replicate hzx _).at_ k x hk
      refine ⟨us, a1, a2, fun j u hj => ?_⟩
      have h3 := a3 j u hj
      rw [← hzl] at h3
      have hge : ((olds ++ news).toArray).size ≤ ((xs ++ ys).length + k) * te.size + j := by
        rw [List.size_toArray, hlen, List.length_append, hxl, Nat.add_mul (sLen + ys.length)]
        omega
      rw [Array.getElem?_append_right hge, ← Array.getElem?_toList]
      rw [← h3]
      congr 1
      rw [List.size_toArray, hlen, List.length_append, hxl, Nat.add_mul (sLen + ys.length)]
      omega) hm
  have hl2 : (xs ++ ys).length = sLen + ys.length := by rw [List.length_append, hxl]
  rw [hl2] at hN hR
  exact ⟨_, hN, hR⟩

theorem grow_left (h : Inv X env mem al tmps w β ok) {t tx ty : TypeId} {te : Ty} {bytes sz : Nat} (hE : EI P t te bytes sz) {id : Nat} (hid : ¬ al id) {base : Option Addr} {sLen sCap : Nat} {olds : List Value} {xs ys : List (El te)} {news : List Value}
    (hold : (Builtin.firstCells sz sLen (.slice base sLen sCap)).run P w.drew = .ok olds.toArray w.drew) (hx : Cells w ok te xs olds) (hxl : xs.length = sLen) {x : Value} (hs : Src P sz tx x ys.length news w) (hy : Cells w ok te ys news)
    (hg : sCap < sLen + ys.length) (hb : (sLen + ys.length) * bytes ≤ 140737488355328) (D : Nat → Bool) (hD : ∀ i, D i = true → al i)
    {mem' : List Obj} (hm : ∀ i, mem'.getD i .dead = if i = id then .row te (xs ++ ys) else if D i = true then .dead else mem.getD i .dead) :
    ∃ v w' β', (Builtin.append_ #[t, tx] ty #[.slice base sLen sCap, x]).run P w = .ok v w' ∧ Inv X env mem' (fun i => al i ∨ i = id) tmps w' β' ok ∧ RelC w' ok X.rd β' (kds mem') (fun i => al i ∨ i = id) (.osl id) v := by
  obtain ⟨e, i, z, hu, hi, hz, hsz, hby, hzs, hzr⟩ := hE.ex
  subst hsz
  subst hby
  have hmul : sLen + ys.length ≤ (sLen + ys.length) * i.bytes := Nat.le_mul_of_pos_right _ hE.b0
  have h63 : ((sLen + ys.length : Nat) : Int) ≤ 9223372036854775807 := by omega
  have hfit : Builtin.nextslicecap (sLen + ys.length) sCap * i.bytes ≤ 281474976710656 := by
    have h1 := Nat.mul_le_mul_right i.bytes (nextslicecap_le hg)
    rw [Nat.mul_assoc] at h1
    omega
  have hrun := run_append_grow_src (P := P) w t tx ty e i z hu hi hz base sLen sCap olds hold x ys.length news hs hg h63 hfit
  have hcap := grownCap_ge w (sLen + ys.length) sCap e
  generalize hc : grownCap w (sLen + ys.length) sCap e = cp at hrun hcap
  obtain ⟨β', hN, hR⟩ := grow_core (tmps := tmps) (env := env) h hE hid (cp := cp) hx hxl hy hcap (by omega) (e := e) hzs hzr D hD hm
  exact ⟨_, _, β', hrun, hN, hR⟩

/-- the cells of a row that is owned or read, as the head of an append's result -/
theorem olds_of {te : Ty} {xs : List (El te)} {A : Option Addr} {c sz : Nat} (hs : te.size = sz)
    (h : xs = [] ∨ ∃ b o, A = some ⟨b, o, none⟩ ∧ ∀ k x, xs[k]? = some x → ∃ us, us.length = te.size ∧ RepE w ok te x us ∧ ∀ j u, us[j]? = some u → w.cell? ⟨b, o + k * te.size + j, none⟩ = some u) :
    ∃ olds, (Builtin.firstCells sz xs.length (.slice A xs.length c)).run P w.drew = .ok olds.toArray w.drew ∧ Cells w ok te xs olds := by
  subst hs
  have hbase : ∀ {A : Option Addr}, xs = [] → ∃ olds, (Builtin.firstCells te.size xs.length (.slice A xs.length c)).run P w.drew = .ok olds.toArray w.drew ∧ Cells w ok te xs olds := by
    intro A hx
    subst hx
    refine ⟨[], ?_, ⟨by simp, by simp, by simp⟩⟩
    cases A with
    | none => rfl
    | some a => exact run_firstCells_some (P := P) w.drew te.size 0 a 0 c [] (by simp) (by simp)
  rcases h with h | ⟨b, o, rfl, h⟩
  · exact hbase h
  · obtain ⟨news, h1, h2, h3, h4⟩ := cells_of_rows (R := fun x us => RepE w ok te x us) xs (fun i => w.cell? ⟨b, o + i, none⟩) (fun k x hk => by
      obtain ⟨us, a1, a2, a3⟩ := h k x hk
      exact ⟨us, a1, a2, fun j u hj => by have := a3 j u hj; rwa [Nat.add_assoc] at this⟩)
    exact ⟨news, run_firstCells_some (P := P) w.drew te.size xs.length ⟨b, o, none⟩ xs.length c news h1 (fun j u hj => by rw [addr_add]; exact h2 j u hj), ⟨h1, h3, fun u hu => by
      obtain ⟨x, us, hr, hm⟩ := h4 u hu
      exact hr.one u hm⟩⟩
end
end Go.Sk

/- append and copy: all arms. -/
set_option linter.unusedSimpArgs false
set_option linter.unusedVariables false
set_option linter.unusedSectionVars false
namespace Go.Sk
open Go
section
variable {P : Program} {X : Fr} {env : List V} {mem : List Obj} {al : Nat → Prop} {tmps : Array Value} {w : World} {β : Nat → Value} {ok : Nat → Prop}

theorem append_in (h : Inv X env mem al tmps w β ok) {t tx ty e : TypeId} {i : TypeInfo} (hu : P.underlying t = some (.slice e)) (hi : P.info? e = some i) {t' : Ty} {sz : Nat} (hsz : i.size = sz) (hst : t'.size = sz) {ys : List (El t')} {news : List Value} {bv : Value} (hs : Src P sz tx bv ys.length news w) (hy : Cells w ok t' ys news)
    {k of n : Nat} {xs : List (El t')} (hm : mem.getD k .dead = .row t' xs) (hon : of + n ≤ xs.length) (hin : of + n + ys.length ≤ xs.length) {A A' : Option Addr} {n' cp : Nat} (hβ : β k = .slice A n' cp) (hcp : of + n ≤ cp) (hA : ∀ b q, A = some ⟨b, q, none⟩ → cp ≠ of → A' = some ⟨b, q + of * t'.size, none⟩) :
    ∃ w', (Builtin.append_ #[t, tx] ty #[.slice A' n (cp - of), bv]).run P w = .ok (.slice A' (n + ys.length) (cp - of)) w' ∧ Inv X env (wr mem k (.row t' (xs.take (of + n) ++ ys ++ xs.drop (of + n + ys.length)))) al tmps w' β ok ∧ of + (n + ys.length) ≤ cp := by
  have hob := h.obj k
  rw [hm] at hob
  obtain ⟨A2, c2, hb2, hob⟩ := hob
  rw [hβ] at hb2
  cases hb2
  have hlen : (xs.take (of + n) ++ ys ++ xs.drop (of + n + ys.length)).length = xs.length := by simp; omega
  by_cases hy0 : ys = []
  · subst hy0
    have hn0 : news = [] := List.eq_nil_of_length_eq_zero (by rw [hy.length]; simp)
    subst hn0
    have hrun := run_append_nothing w t tx ty e i hu hi A' n (cp - of) (by omega) bv (by rw [hsz]; exact hs)
    have hsame : xs.take (of + n) ++ [] ++ xs.drop (of + n + 0) = xs := by simp
    have hI : Inv X env (wr mem k (.row t' (xs.take (of + n) ++ [] ++ xs.drop (of + n + 0)))) al tmps w β ok := (h.congr (fun j => by
      rw [wr_getD]
      split
      · rename_i e; rw [e, hm, hsame]
      · rfl)).2
    exact ⟨w, hrun, hI, by simpa using hcp⟩
  · have hpos : 0 < ys.length := by
      cases ys with
      | nil => exact absurd rfl hy0
      | cons _ _ => simp
    rcases hob with ⟨rfl, rfl⟩ | ⟨bb, o, arr, T, rfl, hh, h0, hle, hsz2, hrows⟩
    · simp only [List.length_nil] at hin; omega
    · have hAe := hA bb o rfl (by omega)
      subst hAe
      have hmul : (of + n + ys.length) * t'.size ≤ cp * t'.size := Nat.mul_le_mul_right _ (by omega)
      have hnl : o + of * t'.size + n * i.size + news.length ≤ arr.size := by
        rw [hy.length, hsz, ← hst]
        rw [Nat.add_mul, Nat.add_mul] at hmul
        omega
      have hrun := run_append_room_src (P := P) w t tx ty e i hu hi bb (o + of * t'.size) n (cp - of) bv ys.length news (by rw [hsz]; exact hs) (by omega)
        (fun j hj => by simp [World.cell?, hh]; omega) (fun j hj => by simp [World.frozen?, hh])
      have hI := h.rowWrite (ys := xs.take (of + n) ++ ys ++ xs.drop (of + n + ys.length)) hm hlen hβ (by omega) hh hnl (by
        have := Nat.mul_le_mul_right t'.size hin
        rw [Nat.add_mul, Nat.add_mul] at this
        rw [hy.length, hsz, ← hst]
        omega) fun arr' hs1 hs2 hs3 j x hj => by
        rw [spl_get hin] at hj
        have e6 : o + of * t'.size + n * i.size = o + (of + n) * t'.size := by rw [hsz, ← hst, Nat.add_mul]; omega
        by_cases h1 : j < of + n
        · rw [if_pos h1] at hj
          obtain ⟨us, a1, a2, a3⟩ := hrows j x hj
          refine ⟨us, a1, a2, fun q u hq => ?_⟩
          have hq' : q < t'.size := by
            rcases Nat.lt_or_ge q us.length with h | h
            · omega
            · rw [List.getElem?_eq_none h] at hq; cases hq
          rw [hs2 _ (.inl (by
            have : (j + 1) * t'.size ≤ (of + n) * t'.size := Nat.mul_le_mul_right _ h1
            rw [Nat.add_mul, Nat.one_mul] at this
            omega))]
          exact a3 q u hq
        · rw [if_neg h1] at hj
          by_cases h2 : j < of + n + ys.length
          · rw [if_pos h2] at hj
            obtain ⟨us, a1, a2, a3⟩ := hy.at_ _ x hj
            refine ⟨us, a1, a2, fun q u hq => ?_⟩
            have := hs3 _ u (a3 q u hq)
            rw [← this]
            congr 1
            rw [e6]
            have h3 : (of + n) * t'.size + (j - (of + n)) * t'.size = j * t'.size := by rw [← Nat.add_mul]; congr 1; omega
            omega
          · rw [if_neg h2] at hj
            obtain ⟨us, a1, a2, a3⟩ := hrows j x hj
            refine ⟨us, a1, a2, fun q u hq => ?_⟩
            rw [hs2 _ (.inr (by
              have : (of + n + ys.length) * t'.size ≤ j * t'.size := Nat.mul_le_mul_right _ (by omega)
              rw [hy.length, e6]
              rw [Nat.add_mul] at this
              omega))]
            exact a3 q u hq
      exact ⟨_, hrun, hI, by omega⟩

theorem ovw_fin {mem' : List Obj} {w' : World} (hI : Inv X env mem' al tmps w' β ok) {k of m : Nat} {t' : Ty} (hk : kds mem' k = .row t') (hkal : al k) (id : Nat) {A A' : Option Addr} {n' cp : Nat} (hβ : β k = .slice A n' cp) (hle : of + m ≤ cp) (hA : ∀ b q, A = some ⟨b, q, none⟩ → cp ≠ of → A' = some ⟨b, q + of * t'.size, none⟩) :
    ∃ β' ok', Inv X env mem' (fun i => al i ∨ i = id) tmps w' β' ok' ∧ RelV w' ok' X.rd β' (kds mem') (fun i => al i ∨ i = id) (.one (.ovw k of m)) (.slice A' m (cp - of)) := by
  have key := hI.update (mem' := mem') (al' := fun i => al i ∨ i = id) (β' := β) (ok' := ok) (fun _ => False) (fun _ h => .inl h) (fun _ h => h.elim) (fun _ _ => rfl) (fun _ _ => rfl) (fun _ h => h.elim) (fun _ h => h.elim) (fun b _ _ => rfl) (Nat.le_refl _)
    (fun _ h => h) (fun _ h => .inl h) (fun _ _ h => h.elim) (fun _ _ h => h.elim) (fun _ _ _ h => h.elim) (fun _ _ h => h.elim) rfl rfl rfl
  refine ⟨β, ok, key.2, .one _ _ (.ovw _ _ _ _ (.inl hkal) (fun t2 h2 => ?_) rfl)⟩
  rw [hk] at h2
  cases h2
  exact ⟨A, _, cp, A', hβ, rfl, hle, hA⟩

theorem append_sound (h : Inv X env mem al tmps w β ok) {t tx ty : TypeId} {id : Nat} (hid : ¬ al id) {a b : CV} {av bv : Value} (ha : RelC w ok X.rd β (kds mem) al a av) (hb : RelC w ok X.rd β (kds mem) al b bv) {out : Out}
    (hr : (appendC P t tx (.one a) (.one b) id).run1 mem = some out) :
    ∃ v w' β' ok', (Builtin.append_ #[t, tx] ty #[av, bv]).run P w = .ok v w' ∧ Inv X env (wrs mem out.ws) (fun i => al i ∨ i = id) tmps w' β' ok' ∧ RelV w' ok' X.rd β' (kds (wrs mem out.ws)) (fun i => al i ∨ i = id) out.v v := by
  unfold appendC at hr
  split at hr
  · rename_i te bytes sz a' b' hE e1 e2
    cases e1
    cases e2
    have hE := elemInfo_spec hE
    cases hok : srcOk P tx b with
    | false => rw [hok] at hr; cases hr
    | true =>
    rw [hok] at hr
    obtain ⟨ys, hys, hr⟩ := bind_run1 (x := srcElems te b) hr
    obtain ⟨news, hs, hy⟩ := rel_src h.obj hE.size hok hys hb
    obtain ⟨e, i, z, hu, hi, hz, hsz, hby, hzs, hzr⟩ := hE.ex
    cases a with
    | nils t' =>
      cases ha
      obtain ⟨hg, hr⟩ := guard_run1 hr
      obtain rfl := ret_run1 hr
      simp only [decide_eq_true_eq] at hg
      have e3 : wrs mem [(id, Obj.row te ys)] = wr mem id (.row te ys) := rfl
      by_cases hy0 : ys = []
      · subst hy0
        have hn0 : news = [] := List.eq_nil_of_length_eq_zero (by rw [hy.length]; simp)
        subst hn0
        obtain ⟨hN, hR⟩ := h.newRow0 (t := te) (A := none) hid (fun _ => false) (by simp) (mem' := wr mem id (.row te [])) (fun i => by rw [wr_getD]; simp)
        exact ⟨_, _, _, _, run_append_nothing w t tx ty e i hu hi none 0 0 (Nat.le_refl _) bv (by rw [hsz]; exact hs), hN, .one _ _ hR⟩
      · have hpos : 0 < ys.length := by
          cases ys with
          | nil => exact absurd rfl hy0
          | cons _ _ => simp
        obtain ⟨v, w', β', hrun, hN, hR⟩ := grow_left (ty := ty) h hE hid (base := none) (sLen := 0) (sCap := 0) (olds := []) (xs := []) (ys := ys) rfl ⟨by simp, by simp, by simp⟩ rfl hs hy (by omega) (by simpa using hg) (fun _ => false) (by simp)
          (mem' := wr mem id (.row te ys)) (fun i => by rw [wr_getD]; simp)
        exact ⟨v, w', β', ok, hrun, hN, .one _ _ hR⟩
    | clp t' xs0 =>
      obtain ⟨xs, hx, hr2⟩ := bind_run1 hr
      clear hr
      rw [Rd.run1_ofOption] at hx
      obtain ⟨e0, hx⟩ := decS_spec hx
      subst e0
      replace hx : xs = xs0 := hx
      subst hx
      obtain ⟨A, rfl, hrow⟩ : ∃ A, av = .slice A xs.length xs.length ∧ RowAt w ok (RepE w ok t') t'.size A xs := by cases ha; exact ⟨_, rfl, by assumption⟩
      obtain ⟨hg, hr2⟩ := guard_run1 hr2
      obtain rfl := ret_run1 hr2
      simp only [Bool.and_eq_true, Bool.or_eq_true, decide_eq_true_eq] at hg
      by_cases hy0 : ys = []
      · subst hy0
        have hx0 : xs = [] := List.eq_nil_of_length_eq_zero (by rcases hg.1 with h | h <;> simp_all)
        subst hx0
        have hn0 : news = [] := List.eq_nil_of_length_eq_zero (by rw [hy.length]; simp)
        subst hn0
        obtain ⟨hN, hR⟩ := h.newRow0 (t := t') (A := A) hid (fun _ => false) (by simp) (mem' := wr mem id (.row t' [])) (fun i => by rw [wr_getD]; simp)
        exact ⟨_, _, _, _, run_append_nothing w t tx ty e i hu hi A 0 0 (Nat.le_refl _) bv (by rw [hsz]; exact hs), hN, .one _ _ hR⟩
      · have hpos : 0 < ys.length := by
          cases ys with
          | nil => exact absurd rfl hy0
          | cons _ _ => simp
        obtain ⟨olds, hold, hox⟩ := olds_of (P := P) (w := w) (ok := ok) (A := A) (c := xs.length) (xs := xs) hE.size (by
          rcases hrow with h | ⟨b, o, e, _, h⟩
          · exact .inl h
          · exact .inr ⟨b, o, e, h⟩)
        obtain ⟨v, w', β', hrun, hN, hR⟩ := grow_left (ty := ty) h hE hid (base := A) (sLen := xs.length) (sCap := xs.length) (olds := olds) (xs := xs) (ys := ys) hold hox rfl hs hy (by omega) hg.2 (fun _ => false) (by simp)
          (mem' := wr mem id (.row t' (xs ++ ys))) (fun i => by rw [wr_getD]; simp)
        exact ⟨v, w', β', ok, hrun, hN, .one _ _ hR⟩
    | osl k =>
      simp only [Rd.run1_get] at hr
      have hob := h.obj k
      cases hm : mem.getD k .dead <;> rw [hm] at hr hob <;> try (cases hr; done)
      rename_i t' xs0
      obtain ⟨xs, hx, hr2⟩ := bind_run1 hr
      clear hr
      rw [Rd.run1_ofOption] at hx
      obtain ⟨e0, hx⟩ := decS_spec hx
      subst e0
      replace hx : xs = xs0 := hx
      subst hx
      obtain ⟨hg, hr2⟩ := guard_run1 hr2
      obtain rfl := ret_run1 hr2
      simp only [decide_eq_true_eq] at hg
      have hkal : al k := h.len k (by rw [hm]; simp [Obj.kd])
      have hkid : k ≠ id := fun e => hid (e ▸ hkal)
      have hm' : ∀ j, (wrs mem [(k, .dead), (id, .row t' (xs ++ ys))]).getD j .dead = if j = id then .row t' (xs ++ ys) else if j = k then .dead else mem.getD j .dead := fun j => by
        show (wr (wr mem k .dead) id _).getD j .dead = _
        rw [wr_getD, wr_getD]
      have hm2 : ∀ j, (wrs mem [(k, .dead), (id, .row t' (xs ++ ys))]).getD j .dead = if j = id then .row t' (xs ++ ys) else if (j == k) = true then .dead else mem.getD j .dead := fun j => by
        rw [hm' j]; simp
      rw [ha.osl_inv (by show (mem.getD k .dead).kd ≠ _; rw [hm]; simp [Obj.kd])]
      obtain ⟨A, c, hβ, hob⟩ := hob
      rw [hβ]
      by_cases hroom : xs.length + ys.length ≤ c
      · rcases hob with ⟨rfl, rfl⟩ | ⟨bb, o, arr, T, rfl, hh, h0, hle, hsz2, hrows⟩
        · have hy0 : ys = [] := List.eq_nil_of_length_eq_zero (by simp at hroom; simp [hroom])
          subst hy0
          have hn0 : news = [] := List.eq_nil_of_length_eq_zero (by rw [hy.length]; simp)
          subst hn0
          obtain ⟨hN, hR⟩ := h.newRow0 (t := t') (A := A) hid (fun j => j == k) (fun j hj => by simp at hj; rw [hj]; exact hkal) (mem' := wrs mem [(k, .dead), (id, .row t' ([] ++ []))]) (fun j => by rw [hm2 j]; rfl)
          exact ⟨_, _, _, _, run_append_nothing w t tx ty e i hu hi A 0 0 (Nat.le_refl _) bv (by rw [hsz]; exact hs), hN, .one _ _ hR⟩
        · have hst := hE.size
          have hnl : o + xs.length * i.size + news.length ≤ arr.size := by
            rw [hy.length, hsz, ← hst, Nat.add_assoc, ← Nat.add_mul]
            have := Nat.mul_le_mul_right t'.size hroom
            omega
          have hrun := run_append_room_src (P := P) w t tx ty e i hu hi bb o xs.length c bv ys.length news (by rw [hsz]; exact hs) hroom
            (fun j hj => by simp [World.cell?, hh]; omega) (fun j hj => by simp [World.frozen?, hh])
          obtain ⟨arr', g1, g2, g3, g4⟩ := heap_setCells bb news (o + xs.length * i.size) w hh hnl
          obtain ⟨f1, f2, f3, f4⟩ := setCells_facts bb news (o + xs.length * i.size) w
          -- the cells of both
          obtain ⟨olds, k1, k2, k3, k4⟩ := cells_of_rows (R := fun x us => RepE w ok t' x us) xs (fun j => arr[o + j]?) (fun k x hk => by
            obtain ⟨us, a1, a2, a3⟩ := hrows k x hk
            exact ⟨us, a1, a2, fun j u hj => by have := a3 j u hj; rwa [Nat.add_assoc] at this⟩)
          have hcs : Cells w ok t' xs olds := ⟨k1, k3, fun u hu => by
            obtain ⟨x, us, hr, hm⟩ := k4 u hu
            exact hr.one u hm⟩
          obtain ⟨hN, hR⟩ := h.moveRow (arr := arr) hid hm hβ (ys := xs ++ ys) (c' := c) (by omega) (by rw [List.length_append]; exact hroom) (by omega)
            (fun b' hb' => heap_setCells_other bb news _ w b' hb') g1 f1 f2 f3 f4 (o' := o) (hcs.append hy) (fun j u hj => by
              by_cases hlt : j < olds.length
              · rw [List.getElem?_append_left hlt] at hj
                rw [g3 _ (.inl (by rw [k1, hst] at hlt; rw [hsz]; omega))]
                exact k2 j u hj
              · rw [List.getElem?_append_right (by omega)] at hj
                have := g4 _ u hj
                rw [k1, hst] at this
                rw [k1, hst] at hlt
                rw [← this, hsz]; congr 1; omega) (by omega)
            (hrows.tail (m := (xs ++ ys).length) (q := o + xs.length * i.size + news.length) (by rw [List.length_append]; exact hroom) (by rw [hy.length, List.length_append, hsz, ← hst, Nat.add_mul]; omega) fun j hj => g3 _ (.inr hj)) hm'
          rw [List.length_append] at hN hR
          exact ⟨_, _, _, _, hrun, hN, .one _ _ hR⟩
      · obtain ⟨olds, hold, hox⟩ := olds_of (P := P) (w := w) (ok := ok) (A := A) (c := c) (xs := xs) hE.size (by
          rcases hob with ⟨h, _⟩ | ⟨b, o, arr, T, rfl, hh, h0, hle, hsz, h⟩
          · exact .inl h
          · exact .inr ⟨b, o, rfl, fun k x hk => let ⟨us, h1, h2, h3⟩ := h k x hk; ⟨us, h1, h2, fun j u hj => by simp [World.cell?, hh, h3 j u hj]⟩⟩)
        obtain ⟨v, w', β', hrun, hN, hR⟩ := grow_left (ty := ty) h hE hid (base := A) (sLen := xs.length) (sCap := c) (olds := olds) (xs := xs) (ys := ys) (by
            have : ∀ c1 c2, Builtin.firstCells sz xs.length (.slice A xs.length c1) = Builtin.firstCells sz xs.length (.slice A xs.length c2) := fun c1 c2 => by cases A <;> rfl
            exact hold) hox rfl hs hy (by omega) hg (fun j => j == k) (fun j hj => by simp at hj; rw [hj]; exact hkal)
          hm2
        exact ⟨v, w', β', ok, hrun, hN, .one _ _ hR⟩
    | ovw k of n =>
      simp only [Rd.run1_get] at hr
      have hob := h.obj k
      cases hm : mem.getD k .dead <;> rw [hm] at hr hob <;> try (cases hr; done)
      rename_i t' xs0
      obtain ⟨xs, hx, hr2⟩ := bind_run1 hr
      clear hr
      rw [Rd.run1_ofOption] at hx
      obtain ⟨e0, hx⟩ := decS_spec hx
      subst e0
      replace hx : xs = xs0 := hx
      subst hx
      obtain ⟨hon, hr2⟩ := guard_run1 hr2
      replace hon : of + n ≤ xs.length := by simpa using hon
      have hkal : al k := h.len k (by rw [hm]; simp [Obj.kd])
      have hkid : k ≠ id := fun e => hid (e ▸ hkal)
      have hkk : kds mem k = .row t' := by show (mem.getD k .dead).kd = _; rw [hm]; rfl
      obtain ⟨A, n', cp, A', hβ, rfl, hcp, hA⟩ : ∃ A n' c A', β k = .slice A n' c ∧ av = .slice A' n (c - of) ∧ of + n ≤ c ∧ (∀ b q, A = some ⟨b, q, none⟩ → c ≠ of → A' = some ⟨b, q + of * t'.size, none⟩) := by
        cases ha with
        | ovw _ _ _ _ hi hp h1 => exact hp t' hkk
      obtain ⟨A2, c2, hb2, hob⟩ := hob
      rw [hβ] at hb2
      cases hb2
      have hst := hE.size
      rw [Rd.run1_split] at hr2
      cases hin : decide (of + n + ys.length ≤ xs.length) with
      | true =>
        rw [hin] at hr2
        obtain rfl := ret_run1 (m := mem) hr2
        replace hin : of + n + ys.length ≤ xs.length := by simpa using hin
        show ∃ v w' β' ok', _ ∧ Inv X env (wr mem k _) _ _ _ _ _ ∧ RelV _ _ _ _ (kds (wr mem k _)) _ _ _
        obtain ⟨w', hrun, hI, hle⟩ := append_in (ty := ty) h hu hi hsz hst hs hy hm hon hin hβ hcp hA
        obtain ⟨β', ok', h1, h2⟩ := ovw_fin hI (k := k) (by show ((wr mem k _).getD k .dead).kd = _; rw [wr_getD, if_pos rfl]; rfl) hkal id hβ hle hA
        exact ⟨_, w', β', ok', hrun, h1, h2⟩
      | false =>
        rw [hin] at hr2
        obtain ⟨hg, hr2⟩ := guard_run1 (m := mem) hr2
        obtain rfl := ret_run1 hr2
        simp only [decide_eq_true_eq] at hg
        have hin' : ¬ of + n + ys.length ≤ xs.length := by simpa using hin
        have hpos : 0 < ys.length := by omega
        have hm' : ∀ j, (wrs mem [(k, .dead), (id, .row t' ((xs.drop of).take n ++ ys))]).getD j .dead = if j = id then .row t' ((xs.drop of).take n ++ ys) else if j = k then .dead else mem.getD j .dead := fun j => by
          show (wr (wr mem k .dead) id _).getD j .dead = _
          rw [wr_getD, wr_getD]
        have hxl : ((xs.drop of).take n).length = n := by simp; omega
        have hget : ∀ q x, ((xs.drop of).take n)[q]? = some x → xs[of + q]? = some x := fun q x hk => by
          rw [List.getElem?_take] at hk
          split at hk
          · rwa [List.getElem?_drop] at hk
          · cases hk
        by_cases hroom : n + ys.length ≤ cp - of
        · rcases hob with ⟨rfl, rfl⟩ | ⟨bb, o, arr, T, rfl, hh, h0, hle, hsz2, hrows⟩
          · omega
          · have hAe := hA bb o rfl (by omega)
            subst hAe
            have hmul : (of + n + ys.length) * t'.size ≤ cp * t'.size := Nat.mul_le_mul_right _ (by omega)
            have hnl : o + of * t'.size + n * i.size + news.length ≤ arr.size := by
              rw [hy.length, hsz, ← hst]
              rw [Nat.add_mul, Nat.add_mul] at hmul
              omega
            have hrun := run_append_room_src (P := P) w t tx ty e i hu hi bb (o + of * t'.size) n (cp - of) bv ys.length news (by rw [hsz]; exact hs) hroom
              (fun j hj => by simp [World.cell?, hh]; omega) (fun j hj => by simp [World.frozen?, hh])
            obtain ⟨arr', g1, g2, g3, g4⟩ := heap_setCells bb news (o + of * t'.size + n * i.size) w hh hnl
            obtain ⟨f1, f2, f3, f4⟩ := setCells_facts bb news (o + of * t'.size + n * i.size) w
            obtain ⟨olds, k1, k2, k3, k4⟩ := cells_of_rows (R := fun x us => RepE w ok t' x us) ((xs.drop of).take n) (fun j => arr[o + of * t'.size + j]?) (fun q x hk => by
              obtain ⟨us, a1, a2, a3⟩ := hrows _ x (hget q x hk)
              exact ⟨us, a1, a2, fun j u hj => by have := a3 j u hj; rw [Nat.add_mul] at this; rw [← this]; congr 1; omega⟩)
            have hcs : Cells w ok t' ((xs.drop of).take n) olds := ⟨k1, k3, fun u hu => by
              obtain ⟨x, us, hr, hm⟩ := k4 u hu
              exact hr.one u hm⟩
            have hol : olds.length = n * t'.size := by rw [k1, hxl]
            obtain ⟨hN, hR⟩ := h.moveRow (arr := arr) hid hm hβ (ys := (xs.drop of).take n ++ ys) (c' := cp - of) (by omega) (by rw [List.length_append, hxl]; exact hroom) (by omega)
              (fun b' hb' => heap_setCells_other bb news _ w b' hb') g1 f1 f2 f3 f4 (o' := o + of * t'.size) (hcs.append hy) (fun j u hj => by
                by_cases hlt : j < olds.length
                · rw [List.getElem?_append_left hlt] at hj
                  rw [g3 _ (.inl (by rw [hol] at hlt; rw [hsz, ← hst]; omega))]
                  exact k2 j u hj
                · rw [List.getElem?_append_right (by omega)] at hj
                  have := g4 _ u hj
                  rw [hol] at this hlt
                  rw [← this, hsz, ← hst]; congr 1; omega) (by rw [g2, Nat.sub_mul]; have := Nat.mul_le_mul_right t'.size (show of ≤ cp by omega); omega)
              (by
                obtain ⟨sp, s1, s2⟩ := hrows.tail (m := of + n + ys.length) (q := o + of * t'.size + n * i.size + news.length) (arr' := arr') (by omega) (by rw [hy.length, hsz, ← hst, Nat.add_mul, Nat.add_mul]; omega) fun j hj => g3 _ (.inr hj)
                have hyl : ((xs.drop of).take n ++ ys).length = n + ys.length := by rw [List.length_append, hxl]
                refine ⟨sp, by rw [hyl]; omega, fun k x hk => ?_⟩
                obtain ⟨us, a1, a2, a3⟩ := s2 k x hk
                refine ⟨us, a1, a2, fun j u hj => ?_⟩
                have := a3 j u hj
                rw [← this, hyl]
                congr 1
                have e1 : (of + n + ys.length + k) * t'.size = of * t'.size + (n + ys.length + k) * t'.size := by rw [← Nat.add_mul]; congr 1; omega
                omega) hm'
            rw [List.length_append, hxl] at hN hR
            exact ⟨_, _, _, _, hrun, hN, .one _ _ hR⟩
        · obtain ⟨olds, hold, hox⟩ := olds_of (P := P) (w := w) (ok := ok) (A := A') (c := cp - of) (xs := (xs.drop of).take n) hE.size (by
            by_cases hn : n = 0
            · exact .inl (by simp [hn])
            rcases hob with ⟨rfl, rfl⟩ | ⟨b, o, arr, T, rfl, hh, h0, hle, hsz, h⟩
            · omega
            · exact .inr ⟨b, _, hA b o rfl (by omega), fun q x hk => let ⟨us, h1, h2, h3⟩ := h _ x (hget q x hk); ⟨us, h1, h2, fun j u hj => by
                have := h3 j u hj
                rw [Nat.add_mul] at this
                simp [World.cell?, hh, ← this, Nat.add_assoc]⟩⟩)
          rw [hxl] at hold
          obtain ⟨v, w', β', hrun, hN, hR⟩ := grow_left (ty := ty) h hE hid (base := A') (sLen := n) (sCap := cp - of) (olds := olds) (xs := (xs.drop of).take n) (ys := ys) hold hox hxl hs hy (by omega) hg (fun j => j == k) (fun j hj => by simp at hj; rw [hj]; exact hkal)
            (mem' := wrs mem [(k, .dead), (id, .row t' ((xs.drop of).take n ++ ys))]) (fun j => by rw [hm' j]; simp)
          exact ⟨v, w', β', ok, hrun, hN, .one _ _ hR⟩
      rename_i t' xs0
      obtain ⟨xs, hx, hr2⟩ := bind_run1 hr
      clear hr
      rw [Rd.run1_ofOption] at hx
      obtain ⟨e0, hx⟩ := decS_spec hx
      subst e0
      replace hx : xs = xs0 := hx
      subst hx
      obtain ⟨hon, hr2⟩ := guard_run1 hr2
      replace hon : of + n ≤ xs.length := by simpa using hon
      have hkal : al k := h.len k (by rw [hm]; simp [Obj.kd])
      have hkk : kds mem k = .row t' := by show (mem.getD k .dead).kd = _; rw [hm]; rfl
      obtain ⟨A, n', cp, A', hβ, rfl, hcp, hA⟩ : ∃ A n' c A', β k = .slice A n' c ∧ av = .slice A' n (c - of) ∧ of + n ≤ c ∧ (∀ b q, A = some ⟨b, q, none⟩ → c ≠ of → A' = some ⟨b, q + of * t'.size, none⟩) := by
        cases ha with
        | ovw _ _ _ _ hi hp h1 => exact hp t' hkk
      obtain ⟨A2, hb2, hob⟩ := hob
      rw [hβ] at hb2
      cases hb2
      have hst := hE.size
      rw [Rd.run1_split] at hr2
      cases hin : decide (of + n + ys.length ≤ xs.length) with
      | true =>
        rw [hin] at hr2
        obtain rfl := ret_run1 (m := mem) hr2
        replace hin : of + n + ys.length ≤ xs.length := by simpa using hin
        show ∃ v w' β' ok', _ ∧ Inv X env (wr mem k _) _ _ _ _ _ ∧ RelV _ _ _ _ (kds (wr mem k _)) _ _ _
        have hlen : (xs.take (of + n) ++ ys ++ xs.drop (of + n + ys.length)).length = xs.length := by simp; omega
        obtain ⟨w', hrun, hI, hle⟩ := append_in (ty := ty) (h.toRow hm) hu hi hsz hst hs hy (by rw [wr_getD, if_pos rfl]) hon hin hβ hcp hA
        have hI2 := hI.toFull (k := k) (by rw [wr_getD, if_pos rfl]) (by rw [hlen]; exact hβ)
        have hI3 : Inv X env (wr mem k (.full t' (xs.take (of + n) ++ ys ++ xs.drop (of + n + ys.length)))) al tmps w' β ok := (hI2.congr (fun j => by
          rw [wr_getD, wr_getD, wr_getD, wr_getD]
          split <;> rfl)).2
        obtain ⟨β', ok', h1, h2⟩ := ovw_fin hI3 (k := k) (by show ((wr mem k _).getD k .dead).kd = _; rw [wr_getD, if_pos rfl]; rfl) hkal id hβ hle hA
        exact ⟨_, w', β', ok', hrun, h1, h2⟩
      | false =>
        rw [hin] at hr2
        obtain ⟨hg, hr2⟩ := guard_run1 (m := mem) hr2
        obtain rfl := ret_run1 hr2
        simp only [decide_eq_true_eq] at hg
        have hin' : ¬ of + n + ys.length ≤ xs.length := by simpa using hin
        have hxl : ((xs.drop of).take n).length = n := by simp; omega
        have hget : ∀ q x, ((xs.drop of).take n)[q]? = some x → xs[of + q]? = some x := fun q x hk => by
          rw [List.getElem?_take] at hk
          split at hk
          · rwa [List.getElem?_drop] at hk
          · cases hk
        obtain ⟨olds, hold, hox⟩ := olds_of (P := P) (w := w) (ok := ok) (A := A') (c := xs.length - of) (xs := (xs.drop of).take n) hE.size (by
          by_cases hn : n = 0
          · exact .inl (by simp [hn])
          rcases hob with rfl | ⟨b, o, arr, T, rfl, hh, hsz, h⟩
          · simp at hon; omega
          · exact .inr ⟨b, _, hA b o rfl (by omega), fun q x hk => let ⟨us, h1, h2, h3⟩ := h _ x (hget q x hk); ⟨us, h1, h2, fun j u hj => by
              have := h3 j u hj
              rw [Nat.add_mul] at this
              simp [World.cell?, hh, ← this, Nat.add_assoc]⟩⟩)
        rw [hxl] at hold
        obtain ⟨v, w', β', hrun, hN, hR⟩ := grow_left (ty := ty) h hE hid (base := A') (sLen := n) (sCap := xs.length - of) (olds := olds) (xs := (xs.drop of).take n) (ys := ys) hold hox hxl hs hy (by omega) hg (fun _ => false) (by simp)
          (mem' := wr mem id (.row t' ((xs.drop of).take n ++ ys))) (fun j => by rw [wr_getD]; simp)
        exact ⟨v, w', β', ok, hrun, hN, .one _ _ hR⟩
    | _ => cases hr
  · cases hr
end
end Go.Sk

/- Maps, as the evaluator's. -/
set_option linter.unusedSimpArgs false
set_option linter.unusedVariables false
set_option linter.unusedSectionVars false
namespace Go.Sk
open Go Go.MapKept

/-! ### keys -/
def KeyD (d : TypeDesc) (kt : Ty) : Prop := ∀ (w : World) (ok : Nat → Prop) (x : El kt) (v : Value), RepE w ok kt x [v] → IsKey d v
theorem eqE_iff {kt : Ty} (hk : isKeyT kt = true) {w w' : World} {ok ok' : Nat → Prop} {x y : El kt} {a b : Value} (hx : RepE w ok kt x [a]) (hy : RepE w' ok' kt y [b]) : eqE kt x y = true ↔ a = b := by
  cases kt <;> simp [isKeyT] at hk
  · simp [RepE] at hx hy; subst hx; subst hy; simp [eqE]
  · simp [RepE] at hx hy; subst hx; subst hy; simp [eqE]
  · simp [RepE] at hx hy; subst hx; subst hy
    rw [Value.string.injEq]
    exact bytes_beq x y
theorem rep_key {kt : Ty} (hk : isKeyT kt = true) {w : World} {ok : Nat → Prop} {x y : El kt} {a : Value} (hx : RepE w ok kt x [a]) (hy : RepE w ok kt y [a]) : x = y := by
  cases kt <;> simp [isKeyT] at hk
  · simp [RepE] at hx hy; subst hx; simpa using hy
  · simp [RepE] at hx hy; subst hx; simpa using hy
  · simp [RepE] at hx hy; subst hx; simpa using hy

theorem mapInfo_spec {P : Program} {t : TypeId} {I : MapInfo} (h : mapInfo P t = some I) : P.underlying t = some (.map I.key I.elem) ∧ isKeyT I.kt = true ∧ (∃ d, P.underlying I.key = some d ∧ KeyD d I.kt) ∧
    zeroShape P I.elem I.g = true ∧ ∃ z, zeroCells P I.elem = some z ∧ decAll I.vt z = some I.zero := by
  unfold mapInfo at h
  split at h
  · rename_i k e hu
    split at h
    · rename_i kt vt g z h1 h2 h3 h4 h5
      cases hc : (isKeyT kt && zeroShape P e g) with
      | false => rw [hc] at h; cases h
      | true =>
        rw [hc] at h
        simp only [cond] at h
        simp only [Bool.and_eq_true] at hc
        split at h
        · rename_i x hx
          simp at h
          subst h
          refine ⟨hu, hc.1, ?_, hc.2, z, h5, hx⟩
          have hk : isKeyT kt = true := hc.1
          unfold aggAt at h2
          unfold tyAt at h1
          unfold tyOf at h1
          cases hd : P.underlying k with
          | none => rw [hd] at h2; cases h2
          | some d =>
            rw [hd] at h1 h2
            refine ⟨d, rfl, fun w ok x v hv => ?_⟩
            cases d <;> simp at h1 h2 <;> first
              | (subst h1; rw [show _ = _ from hv] ; trivial)
              | (subst h1; simp [RepE] at hv; subst hv; simp [IsKey])
              | (obtain ⟨a, _, rfl⟩ := h1; simp [isKeyT] at hk)
        · cases h
    · cases h
  · cases h

/-! ### entries -/
section
variable {kt vt : Ty} {w : World} {ok : Nat → Prop}
theorem find_rel (hk : isKeyT kt = true) {d : TypeDesc} (hd : KeyD d kt) {x : El kt} {kv : Value} (hx : RepE w ok kt x [kv]) : ∀ (es : List (El kt × El vt)) (l : List MapEntry) (n : Nat), l.length = es.length →
    (∀ (k : Nat) p e, es[k]? = some p → l[k]? = some e → RepE w ok kt p.1 [e.key]) →
    (Instr.findNow d kv l n = some none ∧ mapFind _ _ es x = none ∧ mapPos _ _ es x = es.length ∧ (∀ v, mapSet _ _ es x v = es ++ [(x, v)]) ∧ mapDel _ _ es x = es) ∨
    ∃ j e p, Instr.findNow d kv l n = some (some (n + j, e.val)) ∧ l[j]? = some e ∧ es[j]? = some p ∧ e.key = kv ∧ mapFind _ _ es x = some p.2 ∧ mapPos _ _ es x = j ∧ (∀ v, mapSet _ _ es x v = es.set j (p.1, v)) ∧ mapDel _ _ es x = es.eraseIdx j
  | [], [], n, _, _ => .inl ⟨rfl, rfl, rfl, fun _ => rfl, rfl⟩
  | [], _ :: _, n, h, _ => by simp at h
  | _ :: _, [], n, h, _ => by simp at h
  | p :: es, e :: l, n, h, hr => by
    have hp := hr 0 p e rfl rfl
    obtain ⟨r, h1, h2⟩ := sameNow_of_keys (hd w ok x kv hx) (hd w ok p.1 e.key hp)
    have h3 := eqE_iff hk hx hp
    cases r with
    | true =>
      have hkv : kv = e.key := h2.1 rfl
      have he : eqE kt x p.1 = true := h3.2 hkv
      refine .inr ⟨0, e, p, ?_, rfl, rfl, hkv.symm, ?_, ?_, fun v => ?_, ?_⟩
      · simp [Instr.findNow, h1]
      · simp [mapFind, he]
      · simp [mapPos, he]
      · simp [mapSet, he]
      · simp [mapDel, he]
    | false =>
      have he : eqE kt x p.1 = false := by
        cases hb : eqE kt x p.1 with
        | false => rfl
        | true => have := h2.2 (h3.1 hb); cases this
      rcases find_rel hk hd hx es l (n + 1) (by simpa using h) (fun k q e hk he => hr (k + 1) q e (by simpa using hk) (by simpa using he)) with ⟨a1, a2, a3, a4, a5⟩ | ⟨j, e', p', a1, a2, a3, a4, a5, a6, a7, a8⟩
      · refine .inl ⟨by simp [Instr.findNow, h1, a1], by simp [mapFind, he, a2], by simp [mapPos, he, a3], fun v => by simp [mapSet, he, a4], by simp [mapDel, he, a5]⟩
      · refine .inr ⟨j + 1, e', p', ?_, by simpa using a2, by simpa using a3, a4, by simp [mapFind, he, a5], by simp [mapPos, he, a6], fun v => by simp [mapSet, he, a7], by simp [mapDel, he, a8]⟩
        simp [Instr.findNow, h1, a1]
        omega
theorem mapPut_set : ∀ (es : List (El kt × El vt)) (n : Nat) (v : El vt) (p : El kt × El vt), es[n]? = some p → mapPut _ _ es n v = es.set n (p.1, v)
  | [], n, v, p, h => by simp at h
  | q :: r, 0, v, p, h => by simp at h; subst h; rfl
  | q :: r, n + 1, v, p, h => by simp [mapPut, mapPut_set r n v p (by simpa using h)]

variable {g tidy : Bool} {es : List (El kt × El vt)} {arr : Array MapEntry} {clock : Nat}
theorem MapIs.push (h : MapIs w ok kt vt g es tidy arr clock) {x : El kt} {kv : Value} (hx : RepE w ok kt x [kv]) {v : El vt} {us : List Value} {val : Value} (hv : RepE w ok vt v us) (hs : ValIs g val us) :
    MapIs w ok kt vt g (es ++ [(x, v)]) tidy (arr.push { key := kv, val, born := clock }) (clock + 1) := by
  obtain ⟨h1, h2, h3⟩ := h
  refine ⟨by simp [h1], fun k p e hp he => ?_, fun ht => ?_⟩
  · rw [Array.getElem?_push] at he
    by_cases hlt : k < es.length
    · rw [List.getElem?_append_left hlt] at hp
      rw [if_neg (by omega)] at he
      exact h2 k p e hp he
    · rw [List.getElem?_append_right (by omega)] at hp
      have hk : k = es.length := by
        rcases Nat.lt_or_ge k (es.length + 1) with h | h
        · omega
        · rw [List.getElem?_eq_none (by simp; omega)] at hp; cases hp
      subst hk
      simp at hp
      subst hp
      rw [if_pos h1.symm] at he
      simp at he
      subst he
      exact ⟨hx, us, hv, hs⟩
  · obtain ⟨h4, h5⟩ := h3 ht
    refine ⟨by simp [h4], fun k e he => ?_⟩
    rw [Array.getElem?_push] at he
    split at he
    · rename_i hk
      simp at he
      subst he
      simp [hk, h4, h1]
    · exact h5 k e he
theorem MapIs.set (h : MapIs w ok kt vt g es tidy arr clock) {j : Nat} {e : MapEntry} {p : El kt × El vt} (he : arr[j]? = some e) (hp : es[j]? = some p) {v : El vt} {us : List Value} {val : Value} (hv : RepE w ok vt v us) (hs : ValIs g val us) (f : MapEntry → MapEntry)
    (hf : f e = { e with val := val }) : MapIs w ok kt vt g (es.set j (p.1, v)) tidy (arr.modify j f) clock := by
  obtain ⟨h1, h2, h3⟩ := h
  refine ⟨by simp [h1], fun k q e' hq he' => ?_, fun ht => ⟨by simp [(h3 ht).1], fun k e' he' => ?_⟩⟩
  · rw [Array.getElem?_modify] at he'
    rw [List.getElem?_set] at hq
    by_cases hjk : j = k
    · subst hjk
      rw [if_pos rfl, he] at he'
      have hjl : j < es.length := (List.getElem?_eq_some_iff.1 hp).1
      rw [if_pos rfl, if_pos hjl] at hq
      simp at he' hq
      subst he'
      subst hq
      rw [hf]
      exact ⟨(h2 j p e hp he).1, us, hv, hs⟩
    · rw [if_neg hjk] at he' hq
      exact h2 k q e' hq he'
  · rw [Array.getElem?_modify] at he'
    by_cases hjk : j = k
    · subst hjk
      rw [if_pos rfl, he] at he'
      simp at he'
      subst he'
      rw [hf]
      exact (h3 ht).2 j e he
    · rw [if_neg hjk] at he'
      exact (h3 ht).2 k e' he'
theorem MapIs.erase (h : MapIs w ok kt vt g es tidy arr clock) {j : Nat} (hj : j < es.length) : MapIs w ok kt vt g (es.eraseIdx j) false (arr.eraseIdxIfInBounds j) clock := by
  obtain ⟨h1, h2, h3⟩ := h
  have e : (arr.eraseIdxIfInBounds j).toList = arr.toList.eraseIdx j := by
    unfold Array.eraseIdxIfInBounds
    rw [dif_pos (by omega)]
    simp
  refine ⟨?_, fun k p e' hp he => ?_, fun h => by cases h⟩
  · rw [← Array.length_toList, e, List.length_eraseIdx, List.length_eraseIdx]
    simp [h1]
  · rw [← Array.getElem?_toList, e, List.getElem?_eraseIdx] at he
    rw [List.getElem?_eraseIdx] at hp
    split at he
    · rename_i hk
      rw [if_pos hk] at hp
      exact h2 k p e' hp (by simpa using he)
    · rename_i hk
      rw [if_neg hk] at hp
      exact h2 _ p e' hp (by simpa using he)
end

theorem decM_spec {kt vt kt' vt' : Ty} {es : List (El kt' × El vt')} {es' : List (El kt × El vt)} (h : decM kt vt kt' vt' es = some es') : ∃ (e : kt' = kt) (g : vt' = vt), es' = e ▸ g ▸ es := by
  unfold decM at h
  split at h
  · rename_i e g _ _
    simp at h
    exact ⟨e, g, h.symm⟩
  · cases h

section
variable {P : Program} {X : Fr} {env : List V} {mem : List Obj} {al : Nat → Prop} {tmps : Array Value} {w : World} {β : Nat → Value} {ok : Nat → Prop}

theorem zero_val {e : TypeId} {g : Bool} (hg : zeroShape P e g = true) {z : List CV} (hz : zeroCells P e = some z) {vt : Ty} {x : El vt} (hx : decAll vt z = some x) (w : World) (ok : Nat → Prop) :
    ∃ zv us, (zeroValue e).run P w = .ok zv w ∧ RepE w ok vt x us ∧ ValIs g zv us := by
  obtain ⟨i, zv, hi, hz', hl⟩ := zero_rel (X := ⟨w, fun _ => False, fun _ => False, fun _ => False, undef⟩) (w := w) (ok := ok) (β := fun _ => undef) (al := fun _ => False) hz
  refine ⟨zv, zv.cells.toList, by simp [zeroValue, typeInfo, hi, hz'], rel_decAll hx (hl fun _ => .none), ?_⟩
  unfold zeroShape at hg
  rw [hi] at hg
  simp only [Option.bind_some, hz'] at hg
  cases zv <;> simp at hg <;> subst hg <;> simp [ValIs, Value.cells]

theorem valIs_rel {g : Bool} {val : Value} {us : List Value} (hs : ValIs g val us) {vt : Ty} {x : El vt} (hv : RepE w ok vt x us) {v : V} {m : List Obj} (hm : (mkV g (enc vt x)).run1 m = some v) {kd : Nat → KD} : RelV w ok X.rd β kd al v val := by
  have hl : RelL w ok X.rd β kd al (enc vt x) us := rel_enc hv
  unfold mkV at hm
  split at hm
  · obtain rfl := ret_run1 hm
    have : val = .agg us.toArray := hs
    rw [this]
    exact .ofL hl
  · rename_i c hc
    obtain rfl := ret_run1 hm
    have : us = [val] := hs
    subst this
    rw [hc] at hl
    exact .one _ _ (hl.2 0 _ _ rfl rfl)
  · cases hm
theorem valIs_of {g : Bool} {v : V} (h1 : v.isOne = !g) (h2 : v.isBad = false) {val : Value} {kd : Nat → KD} (hv : RelV w ok X.rd β kd al v val) : ValIs g val val.cells.toList := by
  cases hv with
  | one c _ h =>
    cases g <;> simp [V.isOne] at h1
    have : val.oneCell' = true := h.one fun e => by subst e; simp [V.isBad] at h2
    show val.cells.toList = [val]
    cases val <;> first | rfl | simp [Value.oneCell'] at this
  | agg cs us hl h =>
    cases g <;> simp [V.isOne] at h1
    show _ = _
    simp [Value.cells]
  | tup => simp [V.isBad] at h2

/-- the map and the key -/
theorem withMap_spec {I : MapInfo} {m k : V} {f : Nat → List (El I.kt × El I.vt) → Bool → El I.kt → Rd Out} {out : Out} (h : Inv X env mem al tmps w β ok) {mv kv : Value} (hm : RelV w ok X.rd β (kds mem) al m mv) (hk : RelV w ok X.rd β (kds mem) al k kv)
    (hr : (withMap I m k f).run1 mem = some out) : ∃ i es tidy key r arr clock, (f i es tidy key).run1 mem = some out ∧ mem.getD i .dead = .map I.kt I.vt I.g es tidy ∧ al i ∧ β i = .map (some r) ∧ mv = .map (some r) ∧ w.heap[r]? = some (.map arr clock) ∧ MapIs w ok I.kt I.vt I.g es tidy arr clock ∧
      RepE w ok I.kt key [kv] := by
  unfold withMap at hr
  split at hr
  · rename_i i
    simp only [Rd.run1_get] at hr
    have hob := h.obj i
    cases hmi : mem.getD i .dead <;> rw [hmi] at hr hob <;> first | (cases hr; done) | skip
    rename_i kt' vt' g' es0 tidy
    have hr2 : (bif g' == I.g then (match decM I.kt I.vt kt' vt' es0, keyOfV I.kt k with
      | some es, some key => f i es tidy key
      | _, _ => .fail) else .fail).run1 mem = some out := hr
    clear hr
    obtain ⟨hg, hr⟩ := bif_fail hr2
    simp only [beq_iff_eq] at hg
    subst hg
    split at hr
    · rename_i es key he hkey
      obtain ⟨e1, e2, e3⟩ := decM_spec he
      subst e1
      subst e2
      simp only at e3
      subst e3
      have hal := h.len i (by rw [hmi]; simp [Obj.kd])
      obtain ⟨r, arr, clock, h1, h2, h3⟩ := hob
      have hmv := hm.one'.osl_inv (by show (mem.getD i .dead).kd ≠ _; rw [hmi]; simp [Obj.kd])
      refine ⟨i, _, tidy, key, r, arr, clock, hr, hmi, hal, h1, by rw [hmv, h1], h2, h3, ?_⟩
      unfold keyOfV at hkey
      split at hkey
      · exact rel_decAll hkey (.cons hk.one' .nil)
      · cases hkey
    · cases hr
  · cases hr

theorem mapis_find {I : MapInfo} {t : TypeId} (hI : mapInfo P t = some I) {es : List (El I.kt × El I.vt)} {tidy : Bool} {arr : Array MapEntry} {clock : Nat} (hm : MapIs w ok I.kt I.vt I.g es tidy arr clock) {key : El I.kt} {kv : Value} (hk : RepE w ok I.kt key [kv]) :
    ∃ d, P.underlying I.key = some d ∧ IsKey d kv ∧ ((Instr.findNow d kv arr.toList 0 = some none ∧ mapFind _ _ es key = none ∧ mapPos _ _ es key = es.length ∧ (∀ v, mapSet _ _ es key v = es ++ [(key, v)]) ∧ mapDel _ _ es key = es) ∨
    ∃ j e p, Instr.findNow d kv arr.toList 0 = some (some (j, e.val)) ∧ arr[j]? = some e ∧ es[j]? = some p ∧ e.key = kv ∧ mapFind _ _ es key = some p.2 ∧ mapPos _ _ es key = j ∧ (∀ v, mapSet _ _ es key v = es.set j (p.1, v)) ∧ mapDel _ _ es key = es.eraseIdx j) := by
  obtain ⟨hu, hkt, ⟨d, hd, hkd⟩, _⟩ := mapInfo_spec hI
  refine ⟨d, hd, hkd w ok key kv hk, ?_⟩
  have := find_rel (vt := I.vt) hkt hkd hk es arr.toList 0 (by simp [hm.1]) (fun k p e h1 h2 => (hm.2.1 k p e h1 (by simpa using h2)).1)
  rcases this with h | ⟨j, e, p, a1, a2, a3⟩
  · exact .inl h
  · exact .inr ⟨j, e, p, by rw [Nat.zero_add] at a1; exact a1, by simpa using a2, a3⟩

variable (ds : List Deferred) (C : Cfg) (h : Inv X env mem al tmps w β ok) {out : Out} {ty : TypeId} {id : Nat} {dst : Option Tmp} {pos : String} {aft : Array Edge} {gd : Option (Nat × Bool)}
include h

theorem Left.value' {s : Sem Value} {new : Nat → Prop} {cv : Value} {w' : World} {β' : Nat → Value} {ok' : Nat → Prop} {out : Out} (hs : s.run P w = .ok cv w') (hI : Inv X env (wrs mem out.ws) al tmps w' β' ok')
    (hR : RelV w' ok' X.rd β' (kds (wrs mem out.ws)) al out.v cv) : Left P X env mem al tmps w new (do pure (.value (← s))) out := by
  have key := hI.update (mem' := wrs mem out.ws) (al' := fun i => al i ∨ new i) (β' := β') (ok' := ok') (fun _ => False) (fun _ h => .inl h) (fun _ h => h.elim) (fun _ _ => rfl) (fun _ _ => rfl) (fun _ h => h.elim) (fun _ h => h.elim) (fun b _ _ => rfl) (Nat.le_refl _)
    (fun _ h => h) (fun _ h => .inl h) (fun _ _ h => h.elim) (fun _ _ h => h.elim) (fun _ _ _ h => h.elim) (fun _ _ h => h.elim) rfl rfl rfl
  exact .value hs key.2 (hR.mono key.1)

theorem left_lookup {t : TypeId} {m k : Operand} {c : Bool} {new : Nat → Prop} (hr : (semOp P C (.lookup t m k c) ty (⟨env, mem⟩ : St).ev id).run1 mem = some out) : Left P X env mem al tmps w new (execOp (⟨tmps, ds⟩ : Act).eval ⟨dst, .lookup t m k c, ty, pos, aft, gd⟩) out := by
  simp only [semOp, lookupC] at hr
  split at hr
  · rename_i I hI
    obtain ⟨i, es, tidy, key, r, arr, clock, hr, hmi, hal, hb, hmv, hh, hM, hkr⟩ := withMap_spec h (h.ev ds m none) (h.ev ds k (mapKeyTy P t)) hr
    obtain ⟨v, hv, hr⟩ := bind_run1 hr
    obtain rfl := ret_run1 hr
    obtain ⟨hu, hkt, _, hzs, z, hz, hzx⟩ := mapInfo_spec hI
    obtain ⟨d, hd, hik, hf⟩ := mapis_find hI hM hkr
    obtain ⟨zv, uz, hzr, hzrep, hzv⟩ := zero_val hzs hz hzx w ok
    have hs : execOp (⟨tmps, ds⟩ : Act).eval ⟨dst, .lookup t m k c, ty, pos, aft, gd⟩ = (do pure (.value (← (Instr.lookup t ((⟨tmps, ds⟩ : Act).eval m) ((⟨tmps, ds⟩ : Act).eval k) c))) : Sem Next) := rfl
    rw [hs]
    rcases hf with ⟨f1, f2, _⟩ | ⟨j, e, p, f1, f2, f3, f4, f5, _⟩
    · rw [f2] at hv ⊢
      have hrel := valIs_rel (X := X) (β := β) (al := al) (kd := kds mem) hzv hzrep hv
      cases c with
      | true =>
        refine .read h (v := .tuple #[zv, .bool false]) ?_ ?_
        · rw [hmv]
          simp [Instr.lookup, run_underlying hu, Go.MapKept.run_getObj_map hh, Go.MapKept.run_checkKey hd hik, Go.MapKept.run_findKey hd f1, hzr]
        · exact .tup [v, .one (.bool false)] [zv, .bool false] rfl fun j v' u hj hu => by
            match j with
            | 0 => simp at hj hu; subst hj; subst hu; exact hrel
            | 1 => simp at hj hu; subst hj; subst hu; exact .one _ _ (.bool _)
            | n + 2 => simp at hj
      | false =>
        refine .read h (v := zv) ?_ hrel
        rw [hmv]
        simp [Instr.lookup, run_underlying hu, Go.MapKept.run_getObj_map hh, Go.MapKept.run_checkKey hd hik, Go.MapKept.run_findKey hd f1, hzr]
    · rw [f5] at hv ⊢
      obtain ⟨_, us, g1, g2⟩ := hM.2.1 j p e f3 f2
      have hrel := valIs_rel (X := X) (β := β) (al := al) (kd := kds mem) g2 g1 hv
      cases c with
      | true =>
        refine .read h (v := .tuple #[e.val, .bool true]) ?_ ?_
        · rw [hmv]
          simp [Instr.lookup, run_underlying hu, Go.MapKept.run_getObj_map hh, Go.MapKept.run_checkKey hd hik, Go.MapKept.run_findKey hd f1]
        · exact .tup [v, .one (.bool true)] [e.val, .bool true] rfl fun j v' u hj hu => by
            match j with
            | 0 => simp at hj hu; subst hj; subst hu; exact hrel
            | 1 => simp at hj hu; subst hj; subst hu; exact .one _ _ (.bool _)
            | n + 2 => simp at hj
      | false =>
        refine .read h (v := e.val) ?_ hrel
        rw [hmv]
        simp [Instr.lookup, run_underlying hu, Go.MapKept.run_getObj_map hh, Go.MapKept.run_checkKey hd hik, Go.MapKept.run_findKey hd f1]
  · cases hr

omit h in
/-- a map's block written -/
theorem _root_.Go.Sk.Inv.mapWrite {mem : List Obj} {ok : Nat → Prop} (h : Inv X env mem al tmps w β ok) {kt vt : Ty} {g tidy tidy' : Bool} {es es' : List (El kt × El vt)} {i r : Nat} (hm : mem.getD i .dead = .map kt vt g es tidy) (hb : β i = .map (some r)) {arr arr' : Array MapEntry} {clock clock' : Nat}
    (hh : w.heap[r]? = some (.map arr clock)) (hM : MapIs w ok kt vt g es' tidy' arr' clock') :
    Ext w ok X.rd β (kds mem) al { w with heap := w.heap.setIfInBounds r (.map arr' clock') } ok β (kds (wr mem i (.map kt vt g es' tidy'))) al ∧ Inv X env (wr mem i (.map kt vt g es' tidy')) al tmps { w with heap := w.heap.setIfInBounds r (.map arr' clock') } β ok := by
  have hown : own mem β i = some r := by unfold own; rw [hm, hb]; rfl
  refine h.modify (i := i) (o' := .map kt vt g es' tidy') (fun j => wr_getD _ _ _ _) (by show _ = (mem.getD i .dead).kd; rw [hm]; rfl) (h.len i (by rw [hm]; simp [Obj.kd])) (fun b hbb => (heap_set hh).2 b fun e => hbb (by rw [hown, e])) (by simp) (fun b hbb => by rw [hb] at hbb; simp [ownB] at hbb; rw [hown, hbb]) (fun ext => ?_) rfl rfl rfl
  exact ⟨r, arr', clock', hb, (heap_set hh).1, hM.mono ext.cells ext.ok⟩

omit h in
theorem elemOf_spec {I : MapInfo} {v : V} {f : El I.vt → List (Nat × Obj) → Rd Out} {val : Value} (h : Inv X env mem al tmps w β ok) (hv : RelV w ok X.rd β (kds mem) al v val) (hr : (elemOf I v f).run1 mem = some out) :
    ∃ x ws ok', (f x ws).run1 mem = some out ∧ Ext w ok X.rd β (kds mem) al w ok' β (kds (wrs mem ws)) al ∧ Inv X env (wrs mem ws) al tmps w β ok' ∧ RepE w ok' I.vt x val.cells.toList ∧ ValIs I.g val val.cells.toList ∧ ∀ j, j ∉ rowsD v.cells → (wrs mem ws).getD j .dead = mem.getD j .dead := by
  unfold elemOf at hr
  cases hb : (v.isBad || !(v.isOne == !I.g)) with
  | true => rw [hb] at hr; cases hr
  | false =>
    rw [hb] at hr
    simp only [cond] at hr
    simp only [Bool.or_eq_false_iff, Bool.not_eq_false', beq_iff_eq] at hb
    obtain ⟨ncs, h1, hr⟩ := bind_run1 hr
    obtain ⟨ws, h2, hr⟩ := bind_run1 hr
    split at hr
    · rename_i x hx
      obtain ⟨ok', ext, hI, hf, hfr, hout⟩ := freeze_sound (rowsD v.cells) mem (Froze.refl _) h h2
      have hl := relV_box hv hb.1
      have hl' := data_rels hI.obj hf h1 hfr (hl.mono ext)
      exact ⟨x, ws, ok', hr, ext, hI, rel_decAll hx hl', valIs_of hb.2 hb.1 hv, hout⟩
    · cases hr

theorem left_mapUpdate' {t : TypeId} {m k v : Operand} {new : Nat → Prop} (hr : (updateC P t ((⟨env, mem⟩ : St).ev m none) ((⟨env, mem⟩ : St).ev k (mapKeyTy P t)) ((⟨env, mem⟩ : St).ev v (mapElemTy P t))).run1 mem = some out) :
    Left P X env mem al tmps w new (do (Instr.mapUpdate t ((⟨tmps, ds⟩ : Act).eval m) ((⟨tmps, ds⟩ : Act).eval k) ((⟨tmps, ds⟩ : Act).eval v)); pure .skip) out := by
  unfold updateC at hr
  split at hr
  · rename_i I hI
    obtain ⟨i, es, tidy, key, r, arr, clock, hr, hmi, hal, hb, hmv, hh, hM, hkr⟩ := withMap_spec h (h.ev ds m none) (h.ev ds k (mapKeyTy P t)) hr
    obtain ⟨x, ws, ok', hr, ext, hI2, hrep, hval, hout⟩ := elemOf_spec h (h.ev ds v (mapElemTy P t)) hr
    cases hn : hasNat (rowsD ((⟨env, mem⟩ : St).ev v (mapElemTy P t)).cells) i with
    | true => rw [hn] at hr; cases hr
    | false =>
    rw [hn] at hr
    obtain rfl := ret_run1 (m := mem) hr
    have hni : i ∉ rowsD ((⟨env, mem⟩ : St).ev v (mapElemTy P t)).cells := fun hi => by
      have : ∀ {l : List Nat} {b : Nat}, b ∈ l → hasNat l b = true := by
        intro l b hb
        induction l with
        | nil => simp at hb
        | cons a r ih =>
          simp only [hasNat, Bool.or_eq_true]
          rcases List.mem_cons.1 hb with rfl | hb
          · exact .inl (Nat.beq_refl _)
          · exact .inr (ih hb)
      rw [this hi] at hn
      cases hn
    obtain ⟨hu, hkt, _, _⟩ := mapInfo_spec hI
    obtain ⟨d, hd, hik, hf⟩ := mapis_find hI hM hkr
    have hM' := hM.mono ext.cells ext.ok
    have hmi' : (wrs mem ws).getD i .dead = .map I.kt I.vt I.g es tidy := by rw [hout i hni, hmi]
    rcases hf with ⟨f1, f2, f3, f4, _⟩ | ⟨j, e, p, f1, f2, f3, f4, f5, f6, f7, _⟩
    · have hw := (hI2.mapWrite hmi' hb hh (hM'.push (RepE.mono ext.cells ext.ok hkr) hrep hval)).2
      refine left_skip (ws := ws ++ [(i, .map I.kt I.vt I.g (mapSet _ _ es key x) tidy)]) h (s := Instr.mapUpdate t ((⟨tmps, ds⟩ : Act).eval m) ((⟨tmps, ds⟩ : Act).eval k) ((⟨tmps, ds⟩ : Act).eval v)) ?_ (by rw [wrs_append, f4]; exact hw)
      rw [hmv]
      simp [Instr.mapUpdate, run_underlying hu, Go.MapKept.run_getObj_map hh, Go.MapKept.run_checkKey hd hik, Go.MapKept.run_findKey hd f1, Go.MapKept.run_setObj_map _ hh]
    · have hw := (hI2.mapWrite hmi' hb hh (hM'.set f2 f3 hrep hval (fun e => { e with key := (⟨tmps, ds⟩ : Act).eval k, val := (⟨tmps, ds⟩ : Act).eval v }) (by rw [← f4]))).2
      refine left_skip (ws := ws ++ [(i, .map I.kt I.vt I.g (mapSet _ _ es key x) tidy)]) h (s := Instr.mapUpdate t ((⟨tmps, ds⟩ : Act).eval m) ((⟨tmps, ds⟩ : Act).eval k) ((⟨tmps, ds⟩ : Act).eval v)) ?_ (by rw [wrs_append, f7]; exact hw)
      rw [hmv]
      simp [Instr.mapUpdate, run_underlying hu, Go.MapKept.run_getObj_map hh, Go.MapKept.run_checkKey hd hik, Go.MapKept.run_findKey hd f1, Go.MapKept.run_setObj_map _ hh, f2, f4, Go.MapKept.run_keyThatStays hik]
  · cases hr
theorem left_mapUpdate {t : TypeId} {m k v : Operand} {new : Nat → Prop} (hr : (semOp P C (.mapUpdate t m k v) ty (⟨env, mem⟩ : St).ev id).run1 mem = some out) : Left P X env mem al tmps w new (execOp (⟨tmps, ds⟩ : Act).eval ⟨dst, .mapUpdate t m k v, ty, pos, aft, gd⟩) out :=
  left_mapUpdate' ds h hr
theorem left_insert {t : TypeId} {m k v : Operand} {new : Nat → Prop} (hr : (semOp P C (.insert t m k v) ty (⟨env, mem⟩ : St).ev id).run1 mem = some out) : Left P X env mem al tmps w new (execOp (⟨tmps, ds⟩ : Act).eval ⟨dst, .insert t m k v, ty, pos, aft, gd⟩) out :=
  left_mapUpdate' ds h hr

theorem left_mapEntry {t : TypeId} {m k : Operand} {new : Nat → Prop} (hr : (semOp P C (.mapEntry t m k) ty (⟨env, mem⟩ : St).ev id).run1 mem = some out) : Left P X env mem al tmps w new (execOp (⟨tmps, ds⟩ : Act).eval ⟨dst, .mapEntry t m k, ty, pos, aft, gd⟩) out := by
  simp only [semOp, entryC] at hr
  split at hr
  · rename_i I hI
    obtain ⟨i, es, tidy, key, r, arr, clock, hr, hmi, hal, hb, hmv, hh, hM, hkr⟩ := withMap_spec h (h.ev ds m none) (h.ev ds k (mapKeyTy P t)) hr
    obtain ⟨ht, hr⟩ := bif_fail hr
    subst ht
    obtain ⟨v, hv, hr⟩ := bind_run1 hr
    obtain rfl := ret_run1 hr
    obtain ⟨hu, hkt, _, hzs, z, hz, hzx⟩ := mapInfo_spec hI
    obtain ⟨d, hd, hik, hf⟩ := mapis_find hI hM hkr
    obtain ⟨zv, uz, hzr, hzrep, hzv⟩ := zero_val hzs hz hzx w ok
    have hs : execOp (⟨tmps, ds⟩ : Act).eval ⟨dst, .mapEntry t m k, ty, pos, aft, gd⟩ = (do pure (.value (← (Instr.mapEntry t ((⟨tmps, ds⟩ : Act).eval m) ((⟨tmps, ds⟩ : Act).eval k)))) : Sem Next) := rfl
    rw [hs]
    have tup : ∀ {w' : World} {ok' : Nat → Prop} {kd' : Nat → KD} {val : Value} {n : Nat}, RelV w' ok' X.rd β kd' al v val → RelV w' ok' X.rd β kd' al (.tup [v, .one (.int .i64 n)]) (.tuple #[val, .int .i64 n]) := fun {w' ok' kd' val n} hrel =>
      .tup [v, .one (.int .i64 n)] [val, .int .i64 n] rfl fun j v' u hj hu => by
        match j with
        | 0 => simp at hj hu; subst hj; subst hu; exact hrel
        | 1 => simp at hj hu; subst hj; subst hu; exact .one _ _ (.int _ _)
        | n + 2 => simp at hj
    rcases hf with ⟨f1, f2, f3, f4, _⟩ | ⟨j, e, p, f1, f2, f3, f4, f5, f6, f7, _⟩
    · rw [f2] at hv ⊢
      obtain ⟨ext, hw⟩ := h.mapWrite hmi hb hh (hM.push hkr hzrep hzv)
      have hclock : clock = mapPos _ _ es key := by rw [f3]; exact (hM.2.2 rfl).1
      refine Left.value' h (s := Instr.mapEntry t ((⟨tmps, ds⟩ : Act).eval m) ((⟨tmps, ds⟩ : Act).eval k)) (cv := .tuple #[zv, .int .i64 (mapPos _ _ es key : Nat)]) ?_ (by simp only [Option.getD_none, f4]; exact hw) (by simp only [Option.getD_none, f4]; exact tup (RelV.mono ext (valIs_rel hzv hzrep hv)))
      rw [hmv]
      simp [Instr.mapEntry, run_underlying hu, Go.MapKept.run_getObj_map hh, Go.MapKept.run_checkKey hd hik, Go.MapKept.run_findKey hd f1, Go.MapKept.run_setObj_map _ hh, hzr, goInt, hclock]
    · rw [f5] at hv ⊢
      obtain ⟨_, us, g1, g2⟩ := hM.2.1 j p e f3 f2
      obtain ⟨ext, hw⟩ := h.mapWrite hmi hb hh (hM.set f2 f3 g1 g2 (fun e => { e with key := (⟨tmps, ds⟩ : Act).eval k }) (by rw [← f4]))
      refine Left.value' h (s := Instr.mapEntry t ((⟨tmps, ds⟩ : Act).eval m) ((⟨tmps, ds⟩ : Act).eval k)) (cv := .tuple #[e.val, .int .i64 (mapPos _ _ es key : Nat)]) ?_ (by simp only [Option.getD_some, f7]; exact hw) (by simp only [Option.getD_some, f7]; exact tup (RelV.mono ext (valIs_rel g2 g1 hv)))
      rw [hmv]
      have hborn := (hM.2.2 rfl).2 j e f2
      simp [Instr.mapEntry, run_underlying hu, Go.MapKept.run_getObj_map hh, Go.MapKept.run_checkKey hd hik, Go.MapKept.run_findKey hd f1, Go.MapKept.run_setObj_map _ hh, f2, f4, Go.MapKept.run_keyThatStays hik, goInt, hborn, f6]
  · cases hr

theorem left_entryStore {t : TypeId} {m s v : Operand} {new : Nat → Prop} (hr : (semOp P C (.entryStore t m s v) ty (⟨env, mem⟩ : St).ev id).run1 mem = some out) : Left P X env mem al tmps w new (execOp (⟨tmps, ds⟩ : Act).eval ⟨dst, .entryStore t m s v, ty, pos, aft, gd⟩) out := by
  simp only [semOp, entryStoreC] at hr
  split at hr
  · rename_i I i n hI em es'
    simp only [Rd.run1_get] at hr
    have hob := h.obj i
    cases hmi : mem.getD i .dead <;> rw [hmi] at hr hob <;> first | (cases hr; done) | skip
    rename_i kt' vt' g' es0 tidy
    obtain ⟨hg, hr2⟩ := bif_fail (m := mem) (a := out) hr
    clear hr
    simp only [Bool.and_eq_true, beq_iff_eq] at hg
    obtain ⟨hg, ht⟩ := hg
    subst hg
    subst ht
    revert hr2
    cases he : decM I.kt I.vt kt' vt' es0 with
    | none => intro hr; cases hr
    | some es =>
      intro hr
      replace hr : (elemOf I ((⟨env, mem⟩ : St).ev v (mapElemTy P t)) fun x ws =>
        bif hasNat (rowsD ((⟨env, mem⟩ : St).ev v (mapElemTy P t)).cells) i then .fail else
        .guard (decide (0 ≤ n) && decide (n < es.length)) (.ret ⟨.tup [], ws ++ [(i, .map I.kt I.vt I.g (mapPut _ _ es n.toNat x) true)]⟩)).run1 mem = some out := hr
      obtain ⟨e1, e2, e3⟩ := decM_spec he
      subst e1
      subst e2
      simp only at e3
      subst e3
      obtain ⟨x, ws, ok', hr, ext, hI2, hrep, hval, hout⟩ := elemOf_spec h (h.ev ds v (mapElemTy P t)) hr
      cases hn : hasNat (rowsD ((⟨env, mem⟩ : St).ev v (mapElemTy P t)).cells) i with
      | true => rw [hn] at hr; cases hr
      | false =>
      rw [hn] at hr
      simp only [cond] at hr
      obtain ⟨hgd, hr⟩ := guard_run1 hr
      obtain rfl := ret_run1 (m := mem) hr
      simp only [Bool.and_eq_true, decide_eq_true_eq] at hgd
      have hni : i ∉ rowsD ((⟨env, mem⟩ : St).ev v (mapElemTy P t)).cells := fun hi => by
        have : ∀ {l : List Nat} {b : Nat}, b ∈ l → hasNat l b = true := by
          intro l b hb
          induction l with
          | nil => simp at hb
          | cons a r ih =>
            simp only [hasNat, Bool.or_eq_true]
            rcases List.mem_cons.1 hb with rfl | hb
            · exact .inl (Nat.beq_refl _)
            · exact .inr (ih hb)
        rw [this hi] at hn
        cases hn
      obtain ⟨r, arr, clock, h1, h2, hM⟩ := hob
      have hmv := (ev_one ds h em).osl_inv (by show (mem.getD i .dead).kd ≠ _; rw [hmi]; simp [Obj.kd])
      have hsv := ev_int ds h es'
      have hM' := hM.mono ext.cells ext.ok
      have hmi' : (wrs mem ws).getD i .dead = .map I.kt I.vt I.g es true := by rw [hout i hni, hmi]
      have hlt : n.toNat < es.length := by omega
      have hp : es[n.toNat]? = some es[n.toNat] := List.getElem?_eq_getElem hlt
      have hlt2 : n.toNat < arr.size := by rw [hM.1]; exact hlt
      have ha : arr[n.toNat]? = some arr[n.toNat] := Array.getElem?_eq_getElem hlt2
      have hw := (hI2.mapWrite hmi' h1 h2 (hM'.set ha hp hrep hval (fun e => { e with val := (⟨tmps, ds⟩ : Act).eval v }) rfl)).2
      rw [← mapPut_set es n.toNat x _ hp] at hw
      refine left_skip (ws := ws ++ [(i, .map I.kt I.vt I.g (mapPut _ _ es n.toNat x) true)]) h (s := Instr.entryStore t ((⟨tmps, ds⟩ : Act).eval m) ((⟨tmps, ds⟩ : Act).eval s) ((⟨tmps, ds⟩ : Act).eval v)) ?_ (by rw [wrs_append]; exact hw)
      have hfind : arr.findIdx? (fun e => (e.born : Int) == n) = some n.toNat := by
        rw [Array.findIdx?_eq_some_iff_getElem]
        refine ⟨hlt2, ?_, fun k hk => ?_⟩
        · have := (hM.2.2 rfl).2 _ _ ha
          simp only [beq_iff_eq, this]
          omega
        · have hk2 : k < arr.size := by omega
          have := (hM.2.2 rfl).2 k _ (Array.getElem?_eq_getElem hk2)
          simp only [beq_iff_eq, this]
          omega
      rw [hmv, h1, hsv]
      simp [Instr.entryStore, Go.MapKept.run_getObj_map h2, asInt, asIntOf, hfind, Go.MapKept.run_setObj_map _ h2]
  · cases hr

theorem delete_sound {t tk : TypeId} {m k : V} {mv kv : Value} (hm : RelV w ok X.rd β (kds mem) al m mv) (hk : RelV w ok X.rd β (kds mem) al k kv) (hr : (deleteC P t m k).run1 mem = some out) :
    ∃ w', (Builtin.delete_ #[t, tk] ty #[mv, kv]).run P w = .ok (.tuple #[]) w' ∧ Inv X env (wrs mem out.ws) al tmps w' β ok ∧ out.v = .tup [] := by
  unfold deleteC at hr
  split at hr
  · rename_i I hI
    obtain ⟨i, es, tidy, key, r, arr, clock, hr, hmi, hal, hb, hmv, hh, hM, hkr⟩ := withMap_spec h hm hk hr
    obtain rfl := ret_run1 hr
    obtain ⟨hu, hkt, _, _⟩ := mapInfo_spec hI
    obtain ⟨d, hd, hik, hf⟩ := mapis_find hI hM hkr
    rcases hf with ⟨f1, f2, f3, f4, f5⟩ | ⟨j, e, p, f1, f2, f3, f4, f5, f6, f7, f8⟩
    · have hw := (h.mapWrite hmi hb hh (tidy' := false) (es' := mapDel _ _ es key) (arr' := arr) (clock' := clock) (by rw [f5]; exact ⟨hM.1, hM.2.1, fun h => by cases h⟩)).2
      refine ⟨_, ?_, hw, rfl⟩
      rw [hmv]
      simp [Builtin.delete_, run_underlying hu, Go.MapKept.run_getObj_map hh, Go.MapKept.run_checkKey hd hik, Go.MapKept.run_findKey hd f1, Go.MapKept.run_setObj_map _ hh]
    · have hw := (h.mapWrite hmi hb hh (tidy' := false) (es' := mapDel _ _ es key) (by rw [f8]; exact hM.erase (List.getElem?_eq_some_iff.1 f3).1)).2
      refine ⟨_, ?_, hw, rfl⟩
      rw [hmv]
      simp [Builtin.delete_, run_underlying hu, Go.MapKept.run_getObj_map hh, Go.MapKept.run_checkKey hd hik, Go.MapKept.run_findKey hd f1, Go.MapKept.run_setObj_map _ hh]
  · cases hr

theorem left_makeMap (hid : ¬ al id) {t : TypeId} {r : Option Operand} (hr : (semOp P C (.makeMap t r) ty (⟨env, mem⟩ : St).ev id).run1 mem = some out) : Left P X env mem al tmps w (fun i => i = id) (execOp (⟨tmps, ds⟩ : Act).eval ⟨dst, .makeMap t r, ty, pos, aft, gd⟩) out := by
  simp only [semOp, makeMapC] at hr
  split at hr
  · rename_i I hI
    obtain ⟨hu, _⟩ := mapInfo_spec hI
    have main : (Instr.makeMap t (r.map (⟨tmps, ds⟩ : Act).eval)).run P w = .ok (.map (some w.heap.size)) (w.alloc (.map #[] 0)) → out = ⟨.one (.osl id), [(id, .map I.kt I.vt I.g [] true)]⟩ → Left P X env mem al tmps w (fun i => i = id) (execOp (⟨tmps, ds⟩ : Act).eval ⟨dst, .makeMap t r, ty, pos, aft, gd⟩) out := by
      intro hrun ho
      subst ho
      have hd : mem.getD id .dead = .dead := by
        cases hm : mem.getD id .dead with
        | dead => rfl
        | _ => exact absurd (h.len id (by rw [hm]; simp [Obj.kd])) hid
      have hkd : kds (wr mem id (.map I.kt I.vt I.g [] true)) id = .map := by show ((wr mem id (.map I.kt I.vt I.g [] true)).getD id .dead).kd = _; rw [wr_getD]; simp [Obj.kd]
      have key := h.update (mem' := wr mem id (.map I.kt I.vt I.g [] true)) (al' := fun i => al i ∨ i = id) (w' := w.alloc (.map #[] 0)) (β' := setβ β id (.map (some w.heap.size))) (ok' := ok) (fun i => i = id) (fun i hi => .inl hi) (fun i hi _ => .inr hi)
        (fun i hi => by rw [wr_getD, if_neg hi]) (fun i hi => setβ_other _ _ hi) (fun i hi ha => absurd (by rw [← hi]; exact ha) hid) (fun i hi hg => by subst hi; rw [hkd] at hg; cases hg)
        (fun b hb _ => heap_alloc_old _ _ hb) (by rw [size_alloc]; omega) (fun _ h => h) (fun _ h => .inl h)
        (fun ext i hi => by
          subst hi
          rw [wr_getD, if_pos rfl]
          exact ⟨w.heap.size, #[], 0, setβ_same _ _ _, heap_alloc_at _ _, rfl, fun k p e hp => by simp at hp, fun _ => ⟨rfl, fun k e he => by simp at he⟩⟩)
        (fun i b hi hb => by
          subst hi
          simp only [own, wr_getD, if_true, setβ_same, ownB, Option.some.injEq] at hb
          exact .inr (by omega))
        (fun i j b hi hj _ _ => by rw [hi, hj])
        (fun i b hi hb hok => by
          subst hi
          simp only [own, wr_getD, if_true, setβ_same, ownB, Option.some.injEq] at hb
          have := h.okLt b hok
          omega) rfl rfl rfl
      have hs : execOp (⟨tmps, ds⟩ : Act).eval ⟨dst, .makeMap t r, ty, pos, aft, gd⟩ = (do pure (.value (← (Instr.makeMap t (r.map (⟨tmps, ds⟩ : Act).eval)))) : Sem Next) := rfl
      rw [hs]
      exact .value hrun key.2 (.one _ _ (.osl id _ (.inr rfl) (fun _ => (setβ_same _ _ _).symm) rfl))
    cases r with
    | none =>
      obtain rfl := ret_run1 hr
      exact main rfl rfl
    | some o =>
      simp only [Option.map_some] at hr
      split at hr
      · rename_i e; cases e
      · rename_i k n e
        simp at e
        obtain rfl := ret_run1 hr
        exact main (by simp [Instr.makeMap, run_underlying hu, ev_int ds h e, asInt, asIntOf, newObj]; rfl) rfl
      · cases hr
  · cases hr
end
end Go.Sk

/- clear, as the evaluator's. -/
set_option linter.unusedSimpArgs false
set_option linter.unusedVariables false
set_option linter.unusedSectionVars false
namespace Go.Sk
open Go
section
variable {P : Program} {X : Fr} {env : List V} {mem : List Obj} {al : Nat → Prop} {tmps : Array Value} {w : World} {β : Nat → Value} {ok : Nat → Prop}

/-- a piece of an owned row written -/
theorem segWrite (h : Inv X env mem al tmps w β ok) {k : Nat} {t : Ty} {xs ys : List (El t)} (hm : mem.getD k .dead = .row t xs) {of : Nat} (hle : of + ys.length ≤ xs.length) {news : List Value} (hy : Cells w ok t ys news) {bb o n' cp : Nat} (hβ : β k = .slice (some ⟨bb, o, none⟩) n' cp) {arr : Array Value} {T : TypeId}
    (hh : w.heap[bb]? = some (.cells arr T (0, 0))) (h0 : 0 < cp) (hxc : xs.length ≤ cp) (hsz : o + cp * t.size ≤ arr.size) (hrows : Lies w ok t xs cp o arr) :
    Inv X env (wr mem k (.row t (xs.take of ++ ys ++ xs.drop (of + ys.length)))) al tmps (w.setCells bb (o + of * t.size) news) β ok := by
  have hmul : (of + ys.length) * t.size ≤ cp * t.size := Nat.mul_le_mul_right _ (by omega)
  rw [Nat.add_mul] at hmul
  have hin : o + of * t.size + news.length ≤ arr.size := by rw [hy.length]; omega
  refine h.rowWrite (ys := xs.take of ++ ys ++ xs.drop (of + ys.length)) hm (by simp; omega) hβ (by omega) hh hin (by
    have : (of + ys.length) * t.size ≤ xs.length * t.size := Nat.mul_le_mul_right _ (by omega)
    rw [Nat.add_mul] at this
    rw [hy.length]
    omega) fun arr' hs1 hs2 hs3 j x hj => ?_
  rw [spl_get (by omega)] at hj
  by_cases h1 : j < of
  · rw [if_pos h1] at hj
    obtain ⟨us, a1, a2, a3⟩ := hrows j x hj
    refine ⟨us, a1, a2, fun q u hq => ?_⟩
    have hq2 : q < t.size := by rw [← a1]; exact (List.getElem?_eq_some_iff.1 hq).1
    have hb2 : (j + 1) * t.size ≤ of * t.size := Nat.mul_le_mul_right _ (by omega)
    rw [Nat.add_mul] at hb2
    rw [hs2 _ (.inl (by omega))]
    exact a3 q u hq
  · rw [if_neg h1] at hj
    by_cases h2 : j < of + ys.length
    · rw [if_pos h2] at hj
      obtain ⟨us, a1, a2, a3⟩ := hy.at_ (j - of) x hj
      refine ⟨us, a1, a2, fun q u hq => ?_⟩
      have := hs3 ((j - of) * t.size + q) u (a3 q u hq)
      have e8 : j * t.size = of * t.size + (j - of) * t.size := by rw [← Nat.add_mul]; congr 1; omega
      rw [← this]; congr 1; omega
    · rw [if_neg h2] at hj
      obtain ⟨us, a1, a2, a3⟩ := hrows j x hj
      refine ⟨us, a1, a2, fun q u hq => ?_⟩
      have hb2 : (of + ys.length) * t.size ≤ j * t.size := Nat.mul_le_mul_right _ (by omega)
      rw [Nat.add_mul] at hb2
      rw [hs2 _ (.inr (by rw [hy.length]; omega))]
      exact a3 q u hq

theorem zeroCells_eq (z : Array Value) (n : Nat) : (Builtin.zeroCells z n).toList = (List.replicate n z.toList).flatten := by
  unfold Builtin.zeroCells
  apply List.ext_getElem?
  intro j
  have hl : ∀ n, ((List.replicate n z.toList).flatten).length = n * z.size := by intro n; simp
  by_cases hj : j < n * z.size
  · have hz : 0 < z.size := by
      rcases Nat.eq_zero_or_pos z.size with h | h
      · rw [h] at hj; omega
      · exact h
    have hr : ∀ (n j : Nat), j < n * z.size → ((List.replicate n z.toList).flatten)[j]? = z[j % z.size]? := by
      intro n
      induction n with
      | zero => intro j hj; omega
      | succ n ih =>
        intro j hj
        rw [List.replicate_succ, List.flatten_cons]
        by_cases h1 : j < z.size
        · rw [List.getElem?_append_left (by simpa using h1), Nat.mod_eq_of_lt h1]; simp
        · rw [List.getElem?_append_right (by simp; omega)]
          rw [show j - z.toList.length = j - z.size by simp, ih (j - z.size) (by rw [Nat.add_mul] at hj; omega)]
          rw [Nat.mod_eq_sub_mod (by omega : j ≥ z.size)]
    rw [hr n j hj]
    have hm : j % z.size < z.size := Nat.mod_lt _ hz
    simp [hj, hm]
  · rw [List.getElem?_eq_none (by simp; omega), List.getElem?_eq_none (by rw [hl]; omega)]

theorem cells_replicate {t : Ty} {x : El t} {us : List Value} (h : RepE w ok t x us) (n : Nat) : Cells w ok t (List.replicate n x) (List.replicate n us).flatten := by
  have hl := h.length
  refine ⟨by simp [hl], fun k y hk => ?_, fun u hu => ?_⟩
  · have hkn : k < n := by have := (List.getElem?_eq_some_iff.1 hk).1; simpa using this
    have hy : y = x := by rw [List.getElem?_replicate, if_pos hkn] at hk; simpa using hk.symm
    subst hy
    refine ⟨us, hl, h, fun j u hj => ?_⟩
    have hj2 : j < us.length := (List.getElem?_eq_some_iff.1 hj).1
    have key : ∀ (n k : Nat), k < n → ((List.replicate n us).flatten)[k * us.length + j]? = us[j]? := by
      intro n
      induction n with
      | zero => intro k hk; omega
      | succ n ih =>
        intro k hk
        rw [List.replicate_succ, List.flatten_cons]
        cases k with
        | zero => rw [List.getElem?_append_left (by omega)]; simp
        | succ k =>
          rw [List.getElem?_append_right (by rw [Nat.add_mul]; omega)]
          have : (k + 1) * us.length + j - us.length = k * us.length + j := by rw [Nat.add_mul]; omega
          rw [this]
          exact ih k (by omega)
    rw [← hl, key n k hkn]
    exact hj
  · obtain ⟨l, hl1, hl2⟩ := List.mem_flatten.1 hu
    rw [(List.mem_replicate.1 hl1).2] at hl2
    exact h.one u hl2

theorem clear_sound (h : Inv X env mem al tmps w β ok) {t ty : TypeId} {ts : List TypeId} {a : CV} {av : Value} (ha : RelC w ok X.rd β (kds mem) al a av) {out : Out} (hr : (clearC P t a).run1 mem = some out) :
    ∃ w', (Builtin.clear_ (t :: ts).toArray ty #[av]).run P w = .ok (.tuple #[]) w' ∧ Inv X env (wrs mem out.ws) al tmps w' β ok ∧ out.v = .tup [] := by
  unfold clearC at hr
  split at hr
  · rename_i te bytes sz z hE hz0
    have hE := elemInfo_spec hE
    obtain ⟨e, i, zv, hu, hi, hz, hsz, hby, hzs, hzr⟩ := hE.ex
    have hst : te.size = sz := hE.size
    have hzz : zeroCells P e = some z := by unfold elemZero at hz0; rw [hu] at hz0; exact hz0
    obtain ⟨i', zv', hi', hz', hl⟩ := zero_rel (X := X) (w := w) (ok := ok) (β := β) (al := al) hzz
    rw [hi] at hi'
    cases hi'
    rw [hz] at hz'
    cases hz'
    have hzrun : (zeroValue e).run P w = .ok zv w := by simp [zeroValue, typeInfo, hi, hz]
    -- one piece
    have main : ∀ (x : El te), decAll te z = some x → ∀ (k of n : Nat) (t' : Ty) (xs : List (El t')), mem.getD k .dead = .row t' xs → ∀ (hte : t' = te), of + n ≤ xs.length → ∀ (A A' : Option Addr) (n' cp : Nat), β k = .slice A n' cp → av = .slice A' n (cp - of) → (∀ b q, A = some ⟨b, q, none⟩ → cp ≠ of → A' = some ⟨b, q + of * t'.size, none⟩) →
        ∃ w', (Builtin.clear_ (t :: ts).toArray ty #[av]).run P w = .ok (.tuple #[]) w' ∧ Inv X env (wr mem k (.row te ((hte ▸ xs : List (El te)).take of ++ List.replicate n x ++ (hte ▸ xs : List (El te)).drop (of + n)))) al tmps w' β ok := by
      intro x hx k of n t' xs hm hte hle A A' n' cp hβ hav hA
      subst hte
      simp only
      have hrep : RepE w ok t' x zv.cells.toList := rel_decAll hx (hl (kds mem))
      have hob := h.obj k
      rw [hm] at hob
      obtain ⟨A2, c2, hb2, hob⟩ := hob
      rw [hβ] at hb2
      cases hb2
      by_cases hn : n = 0
      · subst hn
        refine ⟨w, ?_, (h.congr (fun j => ?_)).2⟩
        · rw [hav]
          cases A' <;> simp [Builtin.clear_, run_underlying hu]
        · rw [wr_getD]
          split
          · rename_i e; rw [e, hm]; simp
          · rfl
      · rcases hob with ⟨rfl, rfl⟩ | ⟨bb, o, arr, T, rfl, hh, h0, hxc, hsz2, hrows⟩
        · simp at hle; omega
        · have hAe := hA bb o rfl (by omega)
          subst hAe
          have hc := cells_replicate hrep n
          have hI := segWrite h hm (of := of) (ys := List.replicate n x) (by simpa using hle) hc hβ hh h0 hxc hsz2 hrows
          have hnl : (List.replicate n zv.cells.toList).flatten.length = n * t'.size := by rw [hc.length]; simp
          have hmul : (of + n) * t'.size ≤ cp * t'.size := Nat.mul_le_mul_right _ (by omega)
          rw [Nat.add_mul] at hmul
          refine ⟨_, ?_, by simpa using hI⟩
          have hst2 := run_storeCells_cells (P := P) bb (o + of * t'.size) (List.replicate n zv.cells.toList).flatten 0 w (fun j hj => by simp [World.cell?, hh]; omega) (fun j hj => by simp [World.frozen?, hh]) (fun u hu => by
            obtain ⟨l, hl1, hl2⟩ := List.mem_flatten.1 hu
            rw [(List.mem_replicate.1 hl1).2] at hl2
            exact hrep.one u hl2)
          rw [hav]
          obtain ⟨m, rfl⟩ : ∃ m, n = m + 1 := ⟨n - 1, by omega⟩
          simp only [Builtin.clear_]
          simp [run_underlying hu, hzrun, zeroCells_eq, hst2]
    split at hr
    · rename_i x k hx
      simp only [Rd.run1_get] at hr
      have hob := h.obj k
      cases hm : mem.getD k .dead <;> rw [hm] at hr hob <;> try (cases hr; done)
      rename_i t' xs0
      obtain ⟨xs, hxs, hr2⟩ := bind_run1 hr
      clear hr
      rw [Rd.run1_ofOption] at hxs
      obtain ⟨e0, hxs⟩ := decS_spec hxs
      obtain rfl := ret_run1 hr2
      obtain ⟨A, c, hβ, _⟩ := hob
      have hav := ha.osl_inv (by show (mem.getD k .dead).kd ≠ _; rw [hm]; simp [Obj.kd])
      obtain ⟨w', h1, h2⟩ := main x hx k 0 xs0.length t' xs0 hm e0 (by omega) A A _ c hβ (by rw [hav, hβ]; rfl) (fun b q e _ => by simp [e])
      refine ⟨w', h1, ?_, rfl⟩
      subst e0
      replace hxs : xs = xs0 := hxs
      subst hxs
      show Inv X env (wr mem k _) al tmps w' β ok
      simpa using h2
    · rename_i x k of n hx
      simp only [Rd.run1_get] at hr
      have hob := h.obj k
      cases hm : mem.getD k .dead <;> rw [hm] at hr hob <;> try (cases hr; done)
      rename_i t' xs0
      obtain ⟨xs, hxs, hr2⟩ := bind_run1 hr
      clear hr
      rw [Rd.run1_ofOption] at hxs
      obtain ⟨e0, hxs⟩ := decS_spec hxs
      obtain ⟨hg, hr2⟩ := guard_run1 hr2
      obtain rfl := ret_run1 hr2
      obtain ⟨A, n', cp, A', hβ, hav, hcp, hA⟩ : ∃ A n' c A', β k = .slice A n' c ∧ av = .slice A' n (c - of) ∧ of + n ≤ c ∧ (∀ b q, A = some ⟨b, q, none⟩ → c ≠ of → A' = some ⟨b, q + of * t'.size, none⟩) := by
        cases ha with
        | ovw _ _ _ _ hi hp h1 => exact hp t' (by show (mem.getD k .dead).kd = _; rw [hm]; rfl)
      subst e0
      replace hxs : xs = xs0 := hxs
      subst hxs
      obtain ⟨w', h1, h2⟩ := main x hx k of n t' xs hm rfl (by simpa using hg) A A' n' cp hβ hav hA
      exact ⟨w', h1, h2, rfl⟩
    · cases hr
  · cases hr
end
end Go.Sk

/- append(xs, make([]T, n)...): the arm that grows. -/
set_option linter.unusedSimpArgs false
set_option linter.unusedVariables false
set_option linter.unusedSectionVars false
namespace Go.Sk
open Go
section
variable {P : Program} {X : Fr} {env : List V} {mem : List Obj} {al : Nat → Prop} {tmps : Array Value} {w : World} {β : Nat → Value} {ok : Nat → Prop}

theorem run_append_grow_int (t tx ty e : TypeId) (i : TypeInfo) (z : Value) (ht : P.underlying t = some (.slice e)) {k' : IntKind} (hk : P.underlying tx = some (.int k')) (hi : P.info? e = some i) (hz : i.zero = some z) (base : Option Addr) (sLen sCap : Nat) (olds : List Value)
    (hold : (Builtin.firstCells i.size sLen (.slice base sLen sCap)).run P w.drew = .ok olds.toArray w.drew) (k : IntKind) (l : Int) (n : Nat) (hl : l = n) (h0 : n * i.size ≠ 0) (hb : n * i.bytes ≤ 281474976710656) (hn1 : n ≤ 140737488355328)
    (hg : sCap < sLen + n) (h63 : ((sLen + n : Nat) : Int) ≤ 9223372036854775807) (hfit : Builtin.nextslicecap (sLen + n) sCap * i.bytes ≤ 281474976710656) :
    (Builtin.append_ #[t, tx] ty #[.slice base sLen sCap, .int k l]).run P w =
      .ok (.slice (some ⟨w.heap.size, 0, none⟩) (sLen + n) (grownCap w (sLen + n) sCap e))
        (w.drew.alloc (.cells ((olds ++ (Builtin.zeroCells z.cells n).toList).toArray ++ Builtin.zeroCells z.cells (grownCap w (sLen + n) sCap e - (sLen + n))) e)) := by
  have hn : ¬ (sLen + n ≤ sCap) := by omega
  have h63' : ¬ (9223372036854775807 < ((sLen : Int) + (n : Int))) := by omega
  have h48' : ¬ (281474976710656 < Builtin.nextslicecap (sLen + n) sCap * i.bytes) := by omega
  have hw : IntKind.i64.wrap l = (n : Int) := by rw [wrap_id (by omega) (by omega), hl]
  have hb' : ¬ (281474976710656 < (n : Int) * (i.bytes : Int)) := by
    have : ((n * i.bytes : Nat) : Int) ≤ 281474976710656 := by omega
    rw [Int.natCast_mul] at this
    omega
  have hs0 : ¬ ((n : Int) < 0) := by omega
  have h0' : ¬ (n = 0 ∨ i.size = 0) := fun h => h0 (by rcases h with h | h <;> simp [h])
  simp [Builtin.append_, run_underlying ht, run_underlying hk, sizeOf, typeInfo, zeroValue, hi, hz, asInt, asIntOf, hw, hs0, hb', hn, h63', h48', Question.forced, hold, newRow, grownCap, h0']
  rw [if_neg h0]
  congr 2
  congr 1
  apply Array.ext'
  simp [List.append_assoc]

theorem appendZ_form {t : TypeId} {x y : V} {id : Nat} {out : Out} (hr : (appendZ P t x y id).run1 mem = some out) : ∃ a b, x = .one a ∧ y = .one b := by
  unfold appendZ at hr
  split at hr
  · exact ⟨_, _, rfl, rfl⟩
  · cases hr

theorem appendZ_sound (h : Inv X env mem al tmps w β ok) {t tx ty : TypeId} (hz : isIntT P tx = true) {id : Nat} (hid : ¬ al id) {a b : CV} {av bv : Value} (ha : RelC w ok X.rd β (kds mem) al a av) (hb : RelC w ok X.rd β (kds mem) al b bv) {out : Out}
    (hr : (appendZ P t (.one a) (.one b) id).run1 mem = some out) :
    ∃ v w' β' ok', (Builtin.append_ #[t, tx] ty #[av, bv]).run P w = .ok v w' ∧ Inv X env (wrs mem out.ws) (fun i => al i ∨ i = id) tmps w' β' ok' ∧ RelV w' ok' X.rd β' (kds (wrs mem out.ws)) (fun i => al i ∨ i = id) out.v v := by
  obtain ⟨k', hk⟩ : ∃ k', P.underlying tx = some (.int k') := by
    unfold isIntT at hz
    split at hz
    · exact ⟨_, by assumption⟩
    · cases hz
  unfold appendZ at hr
  split at hr
  · rename_i te bytes sz z0 k of n ki l hE0 hz0 e1 e2
    cases e1
    cases e2
    split at hr
    · rename_i zx hzx
      have hE := elemInfo_spec hE0
      simp only [Rd.run1_get] at hr
      have hob := h.obj k
      cases hm : mem.getD k .dead <;> rw [hm] at hr hob <;> try (cases hr; done)
      rename_i t' xs0
      obtain ⟨xs, hx, hr2⟩ := bind_run1 hr
      clear hr
      rw [Rd.run1_ofOption] at hx
      obtain ⟨e0, hx⟩ := decS_spec hx
      subst e0
      replace hx : xs = xs0 := hx
      subst hx
      obtain ⟨hg, hr2⟩ := guard_run1 hr2
      obtain rfl := ret_run1 hr2
      simp only [Bool.and_eq_true, decide_eq_true_eq] at hg
      obtain ⟨⟨⟨hl0, hon⟩, hgr⟩, hfit⟩ := hg
      obtain ⟨m, rfl⟩ : ∃ m : Nat, l = m := ⟨l.toNat, by omega⟩
      simp only [Int.toNat_natCast] at hgr hfit ⊢
      cases hb
      have hkal : al k := h.len k (by rw [hm]; simp [Obj.kd])
      have hkk : kds mem k = .row t' := by show (mem.getD k .dead).kd = _; rw [hm]; rfl
      obtain ⟨A, n', cp, A', hβ, rfl, hcp, hA⟩ : ∃ A n' c A', β k = .slice A n' c ∧ av = .slice A' n (c - of) ∧ of + n ≤ c ∧ (∀ b q, A = some ⟨b, q, none⟩ → c ≠ of → A' = some ⟨b, q + of * t'.size, none⟩) := by
        cases ha with
        | ovw _ _ _ _ hi hp h1 => exact hp t' hkk
      obtain ⟨A2, hb2, hob⟩ := hob
      rw [hβ] at hb2
      cases hb2
      have hst := hE.size
      have hE' := hE
      obtain ⟨e, i, z, hu, hi, hzi, hsz, hby, hzs, hzr⟩ := hE'.ex
      subst hsz
      subst hby
      have hxl : ((xs.drop of).take n).length = n := by simp; omega
      have hget : ∀ q x, ((xs.drop of).take n)[q]? = some x → xs[of + q]? = some x := fun q x hk => by
        rw [List.getElem?_take] at hk
        split at hk
        · rwa [List.getElem?_drop] at hk
        · cases hk
      obtain ⟨olds, hold, hox⟩ := olds_of (P := P) (w := w) (ok := ok) (A := A') (c := xs.length - of) (xs := (xs.drop of).take n) hE.size (by
        by_cases hn : n = 0
        · exact .inl (by simp [hn])
        rcases hob with rfl | ⟨b, o, arr, T, rfl, hh, hsz, h⟩
        · simp at hon; omega
        · exact .inr ⟨b, _, hA b o rfl (by omega), fun q x hk => let ⟨us, h1, h2, h3⟩ := h _ x (hget q x hk); ⟨us, h1, h2, fun j u hj => by
            have := h3 j u hj
            rw [Nat.add_mul] at this
            simp [World.cell?, hh, ← this, Nat.add_assoc]⟩⟩)
      rw [hxl] at hold
      have hzz : zeroCells P e = some z0 := by unfold elemZero at hz0; rw [hu] at hz0; exact hz0
      obtain ⟨i', zv', hi', hz', hl⟩ := zero_rel (X := X) (w := w) (ok := ok) (β := β) (al := al) hzz
      rw [hi] at hi'
      cases hi'
      rw [hzi] at hz'
      cases hz'
      have hzx2 : RepE w ok t' zx z.cells.toList := rel_decAll hzx (hl (kds mem))
      have hzl : (Builtin.zeroCells z.cells m).toList = (List.replicate m z.cells.toList).flatten := range_zero z.cells _ _ rfl
      have hy : Cells w ok t' (List.replicate m zx) (Builtin.zeroCells z.cells m).toList := by rw [hzl]; exact Cells.replicate hzx2 m
      have hyl : (List.replicate m zx).length = m := List.length_replicate
      have hmul : n + m ≤ (n + m) * i.bytes := Nat.le_mul_of_pos_right _ hE.b0
      have hmul2 : m * i.bytes ≤ (n + m) * i.bytes := Nat.mul_le_mul_right _ (by omega)
      have hgr' : xs.length - of < n + m := by omega
      have hfit2 : Builtin.nextslicecap (n + m) (xs.length - of) * i.bytes ≤ 281474976710656 := by
        have h1 := Nat.mul_le_mul_right i.bytes (nextslicecap_le hgr')
        rw [Nat.mul_assoc] at h1
        omega
      have hm0 : m * i.size ≠ 0 := by
        have : 0 < m * i.size := Nat.mul_pos (by omega) hE.s0
        omega
      have hrun := run_append_grow_int (P := P) (w := w) t tx ty e i z hu hk hi hzi A' n (xs.length - of) olds hold ki (m : Int) m rfl hm0 (by omega) (by omega) hgr' (by omega) hfit2
      have hcap := grownCap_ge w (n + m) (xs.length - of) e
      obtain ⟨β', hN, hR⟩ := grow_core (tmps := tmps) (env := env) h hE hid (sLen := n) (cp := grownCap w (n + m) (xs.length - of) e) (olds := olds) (xs := (xs.drop of).take n) (ys := List.replicate m zx) (news := (Builtin.zeroCells z.cells m).toList) hox hxl hy (by rw [hyl]; exact hcap) (by rw [hyl]; omega) (e := e) hzs hzr (fun _ => false) (by simp)
        (mem' := wr mem id (.row t' ((xs.drop of).take n ++ List.replicate m zx))) (fun j => by rw [wr_getD]; simp)
      rw [hyl] at hN hR
      exact ⟨_, _, β', ok, hrun, hN, .one _ _ hR⟩
    · cases hr
  · cases hr
end
end Go.Sk

/- copy, make, len, min and max, and all built-ins at once. -/
set_option linter.unusedSimpArgs false
set_option linter.unusedVariables false
set_option linter.unusedSectionVars false
namespace Go.Sk
open Go
section
variable {P : Program} {X : Fr} {env : List V} {mem : List Obj} {al : Nat → Prop} {tmps : Array Value} {w : World} {β : Nat → Value} {ok : Nat → Prop}

theorem load_same {a : Addr} {u : Value} {w' : World} (h : (load a).run P w = .ok u w') : w' = w := by
  rw [run_load] at h
  split at h
  · cases h; rfl
  · split at h
    · cases h; rfl
    · cases h
theorem lcf_inv (a : Addr) : ∀ (n i : Nat) (acc r : Array Value) (w' : World), (loadCellsFrom a i n acc).run P w = .ok r w' →
    w' = w ∧ ∃ l : List Value, l.length = n ∧ r = (acc.toList ++ l).toArray ∧ ∀ m, m ≤ n → (loadCellsFrom a i m acc).run P w = .ok (acc.toList ++ l.take m).toArray w
  | 0, i, acc, r, w', h => by
    simp [loadCellsFrom] at h
    obtain ⟨rfl, rfl⟩ := h
    exact ⟨rfl, [], rfl, by simp, fun m hm => by have : m = 0 := by omega
                                                 subst this; simp [loadCellsFrom]⟩
  | n + 1, i, acc, r, w', h => by
    unfold loadCellsFrom at h
    rw [Sem.run_bind] at h
    cases hl : (load (a.add i)).run P w with
    | ok u w1 =>
      have e := load_same hl
      rw [e] at hl
      rw [hl] at h
      obtain ⟨e2, l, h1, h2, h3⟩ := lcf_inv a n (i + 1) (acc.push u) r w' h
      refine ⟨e2, u :: l, by simp [h1], by rw [h2]; simp, fun m hm => ?_⟩
      cases m with
      | zero => simp [loadCellsFrom]
      | succ m =>
        unfold loadCellsFrom
        rw [Sem.run_bind, hl]
        have := h3 m (by omega)
        simp only [Result.andThen_ok, this]
        simp
    | _ => rw [hl] at h; cases h

/-- a source's first elements -/
theorem _root_.Go.Src.take {size n m : Nat} {tx : TypeId} {x : Value} {news : List Value} (hs : Src P size tx x n news w) (hm : m ≤ n) : (Builtin.firstCells size m x).run P w = .ok (news.take (m * size)).toArray w := by
  have hc := hs.cells
  have hnl := hs.newsLen
  cases x <;> simp only [Builtin.firstCells] at hc ⊢ <;> try (simp [stuck] at hc; done)
  case string s =>
    have hn : s.size = n := by have := hs.len w; simpa [Builtin.lenOf] using this
    subst hn
    simp at hc
    have hnews : news = s.data.toList.map fun b => Value.int .u8 b.toNat := by
      have := congrArg Array.toList hc
      simpa using this.symm
    have hdl : news.length = s.size := by rw [hnews]; simp
    by_cases h0 : s.size = 0
    · have : m = 0 := by omega
      subst this
      simp
    · have h1 : size = 1 := by
        rw [hdl] at hnl
        have : s.size * 1 = s.size * size := by omega
        exact (Nat.eq_of_mul_eq_mul_left (by omega) this).symm
      subst h1
      simp only [Sem.run_pure, Result.ok.injEq, and_true]
      apply Array.ext'
      rw [hnews]
      simp [List.map_take]
  case slice A l c =>
    cases A with
    | none =>
      simp at hc
      subst hc
      simp
    | some a =>
      simp only [loadCells] at hc ⊢
      obtain ⟨_, l, h1, h2, h3⟩ := lcf_inv a _ 0 #[] _ _ hc
      simp at h2
      subst h2
      have := h3 (m * size) (Nat.mul_le_mul_right _ hm)
      simpa using this

theorem run_copy_src (dT sT ty e : TypeId) (i : TypeInfo) (ht : P.underlying dT = some (.slice e)) (hi : P.info? e = some i) (b o dLen dCap : Nat) (x : Value) (n : Nat) (news : List Value) (hs : Src P i.size sT x n news w)
    (hc : ∀ j, j < min n dLen * i.size → (w.cell? ⟨b, o + j, none⟩).isSome = true) (hf : ∀ j, j < min n dLen * i.size → w.frozen? ⟨b, o + j, none⟩ = false) :
    (Builtin.copy_ #[dT, sT] ty #[.slice (some ⟨b, o, none⟩) dLen dCap, x]).run P w = .ok (goInt (min n dLen : Nat)) (w.setCells b o (news.take (min n dLen * i.size))) := by
  have hl : (news.take (min n dLen * i.size)).length ≤ min n dLen * i.size := by simp; omega
  have hst := run_storeCells_cells (P := P) b o (news.take (min n dLen * i.size)) 0 w (fun j hj => hc _ (by omega)) (fun j hj => hf _ (by omega)) (fun u hu => hs.one u (List.mem_of_mem_take hu))
  have hfc := hs.take (m := min n dLen) (Nat.min_le_left _ _)
  have e1 : n.min dLen = min n dLen := rfl
  simp [Builtin.copy_, run_underlying ht, sizeOf, typeInfo, hi, hs.len, e1, hfc, hst]
theorem run_copy_zero (dT sT ty e : TypeId) (i : TypeInfo) (ht : P.underlying dT = some (.slice e)) (hi : P.info? e = some i) (A : Option Addr) (dLen dCap : Nat) (x : Value) (n : Nat) (news : List Value) (hs : Src P i.size sT x n news w)
    (h0 : min n dLen = 0) :
    (Builtin.copy_ #[dT, sT] ty #[.slice A dLen dCap, x]).run P w = .ok (goInt 0) w := by
  have hfc := hs.take (m := min n dLen) (Nat.min_le_left _ _)
  have e1 : n.min dLen = min n dLen := rfl
  rw [h0] at hfc
  cases A <;> simp [Builtin.copy_, run_underlying ht, sizeOf, typeInfo, hi, hs.len, e1, hfc, h0, storeCells]

theorem copy_ovw (h : Inv X env mem al tmps w β ok) {t tx ty e : TypeId} {i : TypeInfo} (hu : P.underlying t = some (.slice e)) (hi : P.info? e = some i) {t' : Ty} {sz : Nat} (hsz : i.size = sz) (hst : t'.size = sz) {ys : List (El t')} {news : List Value} {bv : Value} (hs : Src P sz tx bv ys.length news w) (hy : Cells w ok t' ys news)
    {k of n : Nat} {xs : List (El t')} (hm : mem.getD k .dead = .row t' xs) (hg : of + n ≤ xs.length) {A A' : Option Addr} {n' cp : Nat} (hβ : β k = .slice A n' cp) (hcp : of + n ≤ cp) (hA : ∀ b q, A = some ⟨b, q, none⟩ → cp ≠ of → A' = some ⟨b, q + of * t'.size, none⟩) :
    ∃ w', (Builtin.copy_ #[t, tx] ty #[.slice A' n (cp - of), bv]).run P w = .ok (.int .i64 (min ys.length n : Nat)) w' ∧ Inv X env (wr mem k (.row t' (xs.take of ++ ys.take n ++ xs.drop (of + min ys.length n)))) al tmps w' β ok := by
  have hob := h.obj k
  rw [hm] at hob
  obtain ⟨A2, c2, hb2, hob⟩ := hob
  rw [hβ] at hb2
  cases hb2
  by_cases h0 : min ys.length n = 0
  · have hsame : xs.take of ++ ys.take n ++ xs.drop (of + min ys.length n) = xs := by
      have : ys.take n = [] := by
        rcases Nat.eq_zero_or_pos n with hx0 | hx0
        · simp [hx0]
        · have : ys = [] := List.eq_nil_of_length_eq_zero (by omega)
          simp [this]
      rw [this, h0]; simp
    have hI : Inv X env (wr mem k (.row t' (xs.take of ++ ys.take n ++ xs.drop (of + min ys.length n)))) al tmps w β ok := (h.congr (fun j => by
      rw [wr_getD]
      split
      · rename_i e; rw [e, hm, hsame]
      · rfl)).2
    exact ⟨w, by rw [h0]; exact run_copy_zero t tx ty e i hu hi A' _ _ bv ys.length news (by rw [hsz]; exact hs) h0, hI⟩
  · rcases hob with ⟨rfl, rfl⟩ | ⟨bb, o, arr, T, rfl, hh, h0', hle, hsz2, hrows⟩
    · omega
    · have hAe := hA bb o rfl (by omega)
      subst hAe
      have hmul : (of + min ys.length n) * t'.size ≤ cp * t'.size := Nat.mul_le_mul_right _ (by omega)
      rw [Nat.add_mul] at hmul
      have hnl : (news.take (min ys.length n * i.size)).length = min ys.length n * t'.size := by
        have h1 : min ys.length n * t'.size ≤ ys.length * t'.size := Nat.mul_le_mul_right _ (by omega)
        rw [List.length_take, hy.length, hsz, ← hst]
        omega
      have hin : o + of * t'.size + (news.take (min ys.length n * i.size)).length ≤ arr.size := by omega
      have hrun := run_copy_src (P := P) (w := w) t tx ty e i hu hi bb (o + of * t'.size) n (cp - of) bv ys.length news (by rw [hsz]; exact hs)
        (fun j hj => by rw [hsz, ← hst] at hj; simp [World.cell?, hh]; omega) (fun j hj => by simp [World.frozen?, hh])
      have htl : (ys.take n).length = min ys.length n := by simp; omega
      have e9 : xs.take of ++ ys.take n ++ xs.drop (of + min ys.length n) = xs.take of ++ ys.take n ++ xs.drop (of + (ys.take n).length) := by rw [htl]
      have hI := h.rowWrite (ys := xs.take of ++ ys.take n ++ xs.drop (of + min ys.length n)) hm (by simp; omega) hβ (by omega) hh hin (by
        have : (of + min ys.length n) * t'.size ≤ xs.length * t'.size := Nat.mul_le_mul_right _ (by omega)
        rw [Nat.add_mul] at this
        omega) fun arr' hs1 hs2 hs3 j x hj => by
        rw [e9, spl_get (by omega), htl] at hj
        by_cases h1 : j < of
        · rw [if_pos h1] at hj
          obtain ⟨us, a1, a2, a3⟩ := hrows j x hj
          refine ⟨us, a1, a2, fun q u hq => ?_⟩
          have hq2 : q < t'.size := by rw [← a1]; exact (List.getElem?_eq_some_iff.1 hq).1
          have hb2 : (j + 1) * t'.size ≤ of * t'.size := Nat.mul_le_mul_right _ (by omega)
          rw [Nat.add_mul] at hb2
          rw [hs2 _ (.inl (by omega))]
          exact a3 q u hq
        · rw [if_neg h1] at hj
          by_cases h2 : j < of + min ys.length n
          · rw [if_pos h2, List.getElem?_take, if_pos (by omega)] at hj
            obtain ⟨us, a1, a2, a3⟩ := hy.at_ (j - of) x hj
            refine ⟨us, a1, a2, fun q u hq => ?_⟩
            have hq2 : q < t'.size := by rw [← a1]; exact (List.getElem?_eq_some_iff.1 hq).1
            have hb2 : (j - of + 1) * t'.size ≤ min ys.length n * t'.size := Nat.mul_le_mul_right _ (by omega)
            rw [Nat.add_mul] at hb2
            have := hs3 ((j - of) * t'.size + q) u (by rw [List.getElem?_take, if_pos (by rw [hsz, ← hst]; omega)]; exact a3 q u hq)
            have e8 : j * t'.size = of * t'.size + (j - of) * t'.size := by rw [← Nat.add_mul]; congr 1; omega
            rw [← this]; congr 1; omega
          · rw [if_neg h2] at hj
            obtain ⟨us, a1, a2, a3⟩ := hrows j x hj
            refine ⟨us, a1, a2, fun q u hq => ?_⟩
            have hb2 : (of + min ys.length n) * t'.size ≤ j * t'.size := Nat.mul_le_mul_right _ (by omega)
            rw [Nat.add_mul] at hb2
            rw [hs2 _ (.inr (by omega))]
            exact a3 q u hq
      exact ⟨_, hrun, hI⟩

theorem copy_sound (h : Inv X env mem al tmps w β ok) {t tx ty : TypeId} {a b : CV} {av bv : Value} (ha : RelC w ok X.rd β (kds mem) al a av) (hb : RelC w ok X.rd β (kds mem) al b bv) {out : Out}
    (hr : (copyC P t tx (.one a) (.one b)).run1 mem = some out) :
    ∃ v w' β' ok', (Builtin.copy_ #[t, tx] ty #[av, bv]).run P w = .ok v w' ∧ Inv X env (wrs mem out.ws) al tmps w' β' ok' ∧ RelV w' ok' X.rd β' (kds (wrs mem out.ws)) al out.v v := by
  unfold copyC at hr
  split at hr
  · rename_i te bytes sz a' b' hE e1 e2
    cases e1
    cases e2
    have hE := elemInfo_spec hE
    cases hok : srcOk P tx b with
    | false => rw [hok] at hr; cases hr
    | true =>
    rw [hok] at hr
    obtain ⟨ys, hys, hr⟩ := bind_run1 (x := srcElems te b) hr
    obtain ⟨news, hs, hy⟩ := rel_src h.obj hE.size hok hys hb
    obtain ⟨e, i, z, hu, hi, hz, hsz, hby, hzs, hzr⟩ := hE.ex
    have hst : te.size = sz := hE.size
    cases a with
    | nils t' =>
      cases ha
      obtain rfl := ret_run1 hr
      exact ⟨_, w, β, ok, run_copy_zero t tx ty e i hu hi none 0 0 bv ys.length news (by rw [hsz]; exact hs) (by simp), h, .one _ _ (.int .i64 0)⟩
    | osl k =>
      simp only [Rd.run1_get] at hr
      have hob := h.obj k
      cases hm : mem.getD k .dead <;> rw [hm] at hr hob <;> try (cases hr; done)
      rename_i t' xs0
      obtain ⟨xs, hx, hr2⟩ := bind_run1 hr
      clear hr
      rw [Rd.run1_ofOption] at hx
      obtain ⟨e0, hx⟩ := decS_spec hx
      subst e0
      replace hx : xs = xs0 := hx
      subst hx
      obtain rfl := ret_run1 hr2
      obtain ⟨A, c, hβ, hob⟩ := hob
      rw [ha.osl_inv (by show (mem.getD k .dead).kd ≠ _; rw [hm]; simp [Obj.kd]), hβ]
      by_cases h0 : min ys.length xs.length = 0
      · have hsame : ys.take xs.length ++ xs.drop ys.length = xs := by
          rcases Nat.eq_zero_or_pos xs.length with hx0 | hx0
          · rw [hx0]; simp; have : xs = [] := List.eq_nil_of_length_eq_zero hx0; simp [this]
          · have : ys = [] := List.eq_nil_of_length_eq_zero (by omega)
            simp [this]
        have hI : Inv X env (wr mem k (.row t' (ys.take xs.length ++ xs.drop ys.length))) al tmps w β ok := (h.congr (fun j => by
          rw [wr_getD]
          split
          · rename_i e; rw [e, hm, hsame]
          · rfl)).2
        exact ⟨_, w, β, ok, run_copy_zero t tx ty e i hu hi A _ _ bv ys.length news (by rw [hsz]; exact hs) h0, hI, .one _ _ (by rw [h0]; exact .int .i64 0)⟩
      · rcases hob with ⟨rfl, rfl⟩ | ⟨bb, o, arr, T, rfl, hh, h0', hle, hsz2, hrows⟩
        · simp at h0
        · have hmul : min ys.length xs.length * t'.size ≤ c * t'.size := Nat.mul_le_mul_right _ (by omega)
          have hnl : (news.take (min ys.length xs.length * i.size)).length = min ys.length xs.length * t'.size := by
            have h1 : min ys.length xs.length * t'.size ≤ ys.length * t'.size := Nat.mul_le_mul_right _ (by omega)
            rw [List.length_take, hy.length, hsz, ← hst]
            omega
          have hin : o + (news.take (min ys.length xs.length * i.size)).length ≤ arr.size := by omega
          have hrun := run_copy_src (P := P) (w := w) t tx ty e i hu hi bb o xs.length c bv ys.length news (by rw [hsz]; exact hs)
            (fun j hj => by rw [hsz, ← hst] at hj; simp [World.cell?, hh]; omega) (fun j hj => by simp [World.frozen?, hh])
          have hI := h.rowWrite (ys := ys.take xs.length ++ xs.drop ys.length) hm (by simp; omega) hβ (by omega) hh hin (by
            have : min ys.length xs.length * t'.size ≤ xs.length * t'.size := Nat.mul_le_mul_right _ (by omega)
            omega) fun arr' hs1 hs2 hs3 j x hj => by
            by_cases h1 : j < min ys.length xs.length
            · rw [List.getElem?_append_left (by simp; omega), List.getElem?_take, if_pos (by omega)] at hj
              obtain ⟨us, a1, a2, a3⟩ := hy.at_ j x hj
              refine ⟨us, a1, a2, fun q u hq => ?_⟩
              have hq2 : q < t'.size := by rw [← a1]; exact (List.getElem?_eq_some_iff.1 hq).1
              have hb2 : (j + 1) * t'.size ≤ min ys.length xs.length * t'.size := Nat.mul_le_mul_right _ (by omega)
              rw [Nat.add_mul] at hb2
              have := hs3 (j * t'.size + q) u (by rw [List.getElem?_take, if_pos (by rw [hsz, ← hst]; omega)]; exact a3 q u hq)
              rw [← this]; congr 1; omega
            · have hj' : xs[j]? = some x := by
                have hxl : j < xs.length := by
                  have := (List.getElem?_eq_some_iff.1 hj).1
                  simp at this; omega
                rw [List.getElem?_append_right (by simp; omega), List.getElem?_drop] at hj
                rw [← hj]; congr 1; simp; omega
              obtain ⟨us, a1, a2, a3⟩ := hrows j x hj'
              refine ⟨us, a1, a2, fun q u hq => ?_⟩
              have hb2 : min ys.length xs.length * t'.size ≤ j * t'.size := Nat.mul_le_mul_right _ (by omega)
              rw [hs2 _ (.inr (by omega))]
              exact a3 q u hq
          exact ⟨_, _, β, ok, hrun, hI, .one _ _ (.int .i64 _)⟩
    | ovw k of n =>
      simp only [Rd.run1_get] at hr
      have hob := h.obj k
      cases hm : mem.getD k .dead <;> rw [hm] at hr hob <;> try (cases hr; done)
      all_goals
        rename_i t' xs0
        obtain ⟨xs, hx, hr2⟩ := bind_run1 hr
        clear hr
        rw [Rd.run1_ofOption] at hx
        obtain ⟨e0, hx⟩ := decS_spec hx
        subst e0
        replace hx : xs = xs0 := hx
        subst hx
        obtain ⟨hg, hr2⟩ := guard_run1 hr2
        obtain rfl := ret_run1 hr2
        replace hg : of + n ≤ xs.length := by simpa using hg
        obtain ⟨A, n', cp, A', hβ, rfl, hcp, hA⟩ : ∃ A n' c A', β k = .slice A n' c ∧ av = .slice A' n (c - of) ∧ of + n ≤ c ∧ (∀ b q, A = some ⟨b, q, none⟩ → c ≠ of → A' = some ⟨b, q + of * t'.size, none⟩) := by
          cases ha with
          | ovw _ _ _ _ hi hp h1 => exact hp t' (by show (mem.getD k .dead).kd = _; rw [hm]; rfl)
      · obtain ⟨w', hrun, hI⟩ := copy_ovw (ty := ty) h hu hi hsz hst hs hy hm hg hβ hcp hA
        exact ⟨_, w', β, ok, hrun, hI, .one _ _ (.int .i64 _)⟩
      · obtain ⟨A2, hb2, hob⟩ := hob
        rw [hβ] at hb2
        cases hb2
        obtain ⟨w', hrun, hI⟩ := copy_ovw (ty := ty) (h.toRow hm) hu hi hsz hst hs hy (by rw [wr_getD, if_pos rfl]) hg hβ hcp hA
        have hlen : (xs.take of ++ ys.take n ++ xs.drop (of + min ys.length n)).length = xs.length := by simp; omega
        have hI2 := hI.toFull (k := k) (by rw [wr_getD, if_pos rfl]) (by rw [hlen]; exact hβ)
        exact ⟨_, w', β, ok, hrun, (hI2.congr (fun j => by
          show (wr mem k _).getD j .dead = _
          rw [wr_getD, wr_getD, wr_getD, wr_getD]
          split <;> rfl)).2, .one _ _ (.int .i64 _)⟩
    | _ => cases hr
  · cases hr

variable (ds : List Deferred) (C : Cfg) (h : Inv X env mem al tmps w β ok) {out : Out} {ty : TypeId} {id : Nat} {dst : Option Tmp} {pos : String} {aft : Array Edge} {gd : Option (Nat × Bool)}
include h
theorem left_makeSlice (hid : ¬ al id) {t : TypeId} {n c : Operand} (hr : (semOp P C (.makeSlice t n c) ty (⟨env, mem⟩ : St).ev id).run1 mem = some out) :
    Left P X env mem al tmps w (fun i => i = id) (execOp (⟨tmps, ds⟩ : Act).eval ⟨dst, .makeSlice t n c, ty, pos, aft, gd⟩) out := by
  simp only [semOp] at hr
  split at hr
  · rename_i te bytes sz z hE hz0
    have hE := elemInfo_spec hE
    split at hr
    · rename_i x n' c' hx hn hc
      obtain ⟨hg, hr⟩ := guard_run1 hr
      obtain rfl := ret_run1 hr
      simp only [Bool.and_eq_true, decide_eq_true_eq] at hg
      obtain ⟨⟨h0, hnc⟩, hb⟩ := hg
      obtain ⟨e, i, zv, hu, hi, hz, hsz, hby, hzs, hzr⟩ := hE.ex
      have hzz : zeroCells P e = some z := by unfold elemZero at hz0; rw [hu] at hz0; exact hz0
      obtain ⟨i', zv', hi', hz', hl⟩ := zero_rel (X := X) (w := w) (ok := ok) (β := β) (al := al) hzz
      rw [hi] at hi'
      cases hi'
      rw [hz] at hz'
      cases hz'
      have hrep : RepE w ok te x zv.cells.toList := rel_decAll hx (hl (kds mem))
      have hb1 := hE.b0
      have hcb : c' ≤ c' * (bytes : Int) := by
        have : c' * 1 ≤ c' * (bytes : Int) := Int.mul_le_mul_of_nonneg_left (by omega) (by omega)
        omega
      have hrun := run_make (P := P) w t e i zv hu hi hz .i64 .i64 n' c' h0 hnc (by rw [hby, Int.mul_comm]; omega) (by omega)
      have hcells := Cells.replicate hrep n'.toNat
      have hma : (madeCells zv.cells (c'.toNat * i.size)).toList = (List.replicate c'.toNat zv.cells.toList).flatten := range_zero zv.cells c'.toNat i.size (by rw [hzs, hsz])
      obtain ⟨β', hN, hR⟩ := newRow_left (ws := []) (T := e) (w1 := w) (n := n'.toNat) (cp := c'.toNat) h hid hcells (by simp) (arr := madeCells zv.cells (c'.toNat * i.size)) (fun j u hj => by
        rw [← Array.getElem?_toList, hma]
        have : c'.toNat = n'.toNat + (c'.toNat - n'.toNat) := by omega
        rw [this, ← List.replicate_append_replicate, List.flatten_append, List.getElem?_append_left (List.getElem?_eq_some_iff.1 hj).1]
        exact hj) (by omega) (by rw [size_madeCells, hE.size, hsz]; omega)
        (by
          refine ⟨List.replicate (c'.toNat - n'.toNat) x, by simp; omega, fun k y hk => ?_⟩
          have hky : (List.replicate c'.toNat x)[n'.toNat + k]? = some y := by
            have h1 := (List.getElem?_eq_some_iff.1 hk).1
            simp at h1
            simp [List.getElem?_replicate] at hk ⊢
            exact ⟨by omega, hk.2⟩
          obtain ⟨us, a1, a2, a3⟩ := (Cells.replicate hrep c'.toNat).at_ _ y hky
          refine ⟨us, a1, a2, fun j u hj => ?_⟩
          have := a3 j u hj
          rw [← hma, Array.getElem?_toList] at this
          simpa using this) rfl rfl rfl rfl
      rw [← ev_int ds h hn, ← ev_int ds h hc] at hrun
      exact Left.value (s := Instr.makeSlice t ((⟨tmps, ds⟩ : Act).eval n) ((⟨tmps, ds⟩ : Act).eval c)) hrun hN hR
    · cases hr
  · cases hr

/-- a call's arguments -/
def argVs (P : Program) (s : St) (c : Call) : List V := (List.range c.args.size).map fun i => s.ev (c.args.getD i (.const (.bool false))) ((c.argTypes[i]?).bind (tyAt P))
theorem args_rel (c : Call) : (argVs P ⟨env, mem⟩ c).length = (c.args.map (⟨tmps, ds⟩ : Act).eval).toList.length ∧
    ∀ (j : Nat) v u, (argVs P ⟨env, mem⟩ c)[j]? = some v → (c.args.map (⟨tmps, ds⟩ : Act).eval).toList[j]? = some u → RelV w ok X.rd β (kds mem) al v u := by
  refine ⟨by simp [argVs], fun j v u hv hu => ?_⟩
  simp only [argVs, List.getElem?_map] at hv
  simp only [Array.toList_map, List.getElem?_map] at hu
  cases ha : c.args.toList[j]? with
  | none => rw [ha] at hu; cases hu
  | some x =>
    rw [ha] at hu
    have hj : j < c.args.size := by simpa using (List.getElem?_eq_some_iff.1 ha).1
    rw [List.getElem?_range hj] at hv
    simp at hu hv
    subst hu
    subst hv
    have : c.args[j]? = some x := by simpa using ha
    rw [this]
    exact h.ev ds x _

theorem args2 {c : Call} {x y : V} (e : argVs P ⟨env, mem⟩ c = [x, y]) : ∃ u v, c.args.map (⟨tmps, ds⟩ : Act).eval = #[u, v] ∧ RelV w ok X.rd β (kds mem) al x u ∧ RelV w ok X.rd β (kds mem) al y v := by
  obtain ⟨hl, ha⟩ := args_rel ds h (P := P) c
  rw [e] at hl ha
  generalize hq : (c.args.map (⟨tmps, ds⟩ : Act).eval) = q at hl ha
  obtain ⟨l⟩ := q
  match l, hl with
  | [u, v], _ => exact ⟨u, v, rfl, ha 0 x u rfl rfl, ha 1 y v rfl rfl⟩
theorem args1 {c : Call} {x : V} (e : argVs P ⟨env, mem⟩ c = [x]) : ∃ u, c.args.map (⟨tmps, ds⟩ : Act).eval = #[u] ∧ RelV w ok X.rd β (kds mem) al x u := by
  obtain ⟨hl, ha⟩ := args_rel ds h (P := P) c
  rw [e] at hl ha
  generalize hq : (c.args.map (⟨tmps, ds⟩ : Act).eval) = q at hl ha
  obtain ⟨l⟩ := q
  match l, hl with
  | [u], _ => exact ⟨u, rfl, ha 0 x u rfl rfl⟩

theorem left_builtin {b : Builtin} {c : Call} (hcb : c.callee = .builtin b) (hid : b = .append → ¬ al id) (hr : (semOp P C (.call c) ty (⟨env, mem⟩ : St).ev id).run1 mem = some out) :
    Left P X env mem al tmps w (fun i => b = .append ∧ i = id) (execOp (⟨tmps, ds⟩ : Act).eval ⟨dst, .call c, ty, pos, aft, gd⟩) out := by
  simp only [semOp, hcb] at hr
  have hx : execOp (⟨tmps, ds⟩ : Act).eval ⟨dst, .call c, ty, pos, aft, gd⟩ = builtin b c.argTypes ty (c.args.map fun | .const _ => true | _ => false) (c.args.map (⟨tmps, ds⟩ : Act).eval) := by
    simp only [execOp, resolve, hcb]
    rfl
  rw [hx]
  clear hx
  change (builtinC P b c.argTypes.toList (argVs P ⟨env, mem⟩ c) id).run1 mem = some out at hr
  cases b <;> simp only [builtinC] at hr <;> try (cases hr; done)
  case len =>
    split at hr
    · rename_i t ts x hts hvs
      obtain ⟨u, hu, ru⟩ := args1 ds h hvs
      have hta : c.argTypes = (t :: ts).toArray := by rw [← hts]
      rw [hu, hta]
      obtain ⟨z, hz, ho⟩ := bind_run1 hr
      obtain rfl := ret_run1 ho
      obtain ⟨v, hv, hc⟩ := rel_lenC (P := P) (c := ⟨w, ok, X.rd, β, mem, al⟩) (ty := ty) (ts := ts) h.objs hz ru.one'
      exact Left.read h (s := Builtin.len_ (t :: ts).toArray ty #[u]) hv (.one _ _ hc)
    · cases hr
  case cap =>
    split at hr
    · rename_i t ts x hts hvs
      obtain ⟨u, hu, ru⟩ := args1 ds h hvs
      have hta : c.argTypes = (t :: ts).toArray := by rw [← hts]
      rw [hu, hta]
      obtain ⟨z, hz, ho⟩ := bind_run1 hr
      obtain rfl := ret_run1 ho
      obtain ⟨v, hv, hc⟩ := rel_capC (P := P) (c := ⟨w, ok, X.rd, β, mem, al⟩) (ty := ty) (ts := ts) h.objs hz ru.one'
      exact Left.read h (s := Builtin.cap_ (t :: ts).toArray ty #[u]) hv (.one _ _ hc)
    · cases hr
  case append =>
    split at hr
    · rename_i t tx x y hts hvs
      obtain ⟨u, v, hu, ru, rv⟩ := args2 ds h hvs
      have hta : c.argTypes = #[t, tx] := by rw [← hts]
      rw [hu, hta]
      cases hz : isIntT P tx with
      | true =>
        rw [hz] at hr
        obtain ⟨a, b, rfl, rfl⟩ := appendZ_form hr
        obtain ⟨v1, w', β', ok', h1, h2, h3⟩ := appendZ_sound h (ty := ty) hz (hid rfl) ru.one' rv.one' hr
        exact Left.value (s := Builtin.append_ #[t, tx] ty #[u, v]) h1 (by simpa using h2) (by simpa using h3)
      | false =>
        rw [hz] at hr
        have hr' := hr
        unfold appendC at hr'
        split at hr'
        · rename_i a b _
          obtain ⟨v1, w', β', ok', h1, h2, h3⟩ := append_sound h (ty := ty) (hid rfl) ru.one' rv.one' hr
          exact Left.value (s := Builtin.append_ #[t, tx] ty #[u, v]) h1 (by simpa using h2) (by simpa using h3)
        · cases hr'
    · cases hr
  case copy =>
    split at hr
    · rename_i t tx x y hts hvs
      obtain ⟨u, v, hu, ru, rv⟩ := args2 ds h hvs
      have hta : c.argTypes = #[t, tx] := by rw [← hts]
      rw [hu, hta]
      have hr' := hr
      unfold copyC at hr'
      split at hr'
      · rename_i a b _
        obtain ⟨v1, w', β', ok', h1, h2, h3⟩ := copy_sound h (ty := ty) ru.one' rv.one' hr
        exact Left.value' h (s := Builtin.copy_ #[t, tx] ty #[u, v]) h1 h2 h3
      · cases hr'
    · cases hr
  case clear =>
    split at hr
    · rename_i t ts x hts hvs
      obtain ⟨u, hu, ru⟩ := args1 ds h hvs
      have hta : c.argTypes = (t :: ts).toArray := by rw [← hts]
      rw [hu, hta]
      obtain ⟨w', h1, h2, h3⟩ := clear_sound h (ty := ty) (ts := ts) ru.one' hr
      exact Left.value' h (s := Builtin.clear_ (t :: ts).toArray ty #[u]) h1 h2 (by rw [h3]; exact .tup [] [] rfl fun j v u hj => by simp at hj)
    · cases hr
  case delete =>
    split at hr
    · rename_i t tk x y hts hvs
      obtain ⟨u, v, hu, ru, rv⟩ := args2 ds h hvs
      have hta : c.argTypes = #[t, tk] := by rw [← hts]
      rw [hu, hta]
      obtain ⟨w', h1, h2, h3⟩ := delete_sound h (ty := ty) (tk := tk) ru rv hr
      exact Left.value' h (s := Builtin.delete_ #[t, tk] ty #[u, v]) h1 h2 (by rw [h3]; exact .tup [] [] rfl fun j v u hj => by simp at hj)
    · cases hr
  case min =>
    split at hr
    · rename_i k a l b hvs
      obtain ⟨u, v, hu, ru, rv⟩ := args2 ds h hvs
      rw [hu]
      split at hr
      · rename_i p hp
        obtain rfl := eqKind_spec hp
        obtain rfl := ret_run1 hr
        rw [ru.one'.int_inv, rv.one'.int_inv]
        exact Left.read h (s := Builtin.min_ c.argTypes ty #[.int k a, .int k b]) (v := .int k (if b < a then b else a)) rfl (.one _ _ (.int _ _))
      · cases hr
    · cases hr
  case max =>
    split at hr
    · rename_i k a l b hvs
      obtain ⟨u, v, hu, ru, rv⟩ := args2 ds h hvs
      rw [hu]
      split at hr
      · rename_i p hp
        obtain rfl := eqKind_spec hp
        obtain rfl := ret_run1 hr
        rw [ru.one'.int_inv, rv.one'.int_inv]
        exact Left.read h (s := Builtin.max_ c.argTypes ty #[.int k a, .int k b]) (v := .int k (if b > a then b else a)) rfl (.one _ _ (.int _ _))
      · cases hr
    · cases hr
end
end Go.Sk

/- Runs of operations with their calls and their reads, and all operations but calls of functions at once. -/
set_option linter.unusedSimpArgs false
set_option linter.unusedVariables false
set_option linter.unusedSectionVars false
namespace Go.Sk
open Go

@[reducible] def CallF := (f : FuncId) → List V → List Obj → (ρ : RD) → Option ρ.El
/-- with calls, and what is read -/
def Rd.runL {α : Type} (call : CallF) (m : List Obj) : Rd α → List Nat → Option (α × List Nat)
  | .ret a, l => some (a, l)
  | .fail, _ => none
  | .get i f, l => (f (m.getD i .dead)).runL call m (i :: l)
  | .guard c x, l => bif c then x.runL call m l else none
  | .split c x y, l => bif c then x.runL call m l else y.runL call m l
  | .opt _ o f, l => o.bind fun x => (f x).runL call m l
  | .call f asv me ρ g, l => (call f asv me ρ).bind fun x => (g x).runL call m l
/-- with calls -/
def Rd.runC {α : Type} (call : CallF) (m : List Obj) : Rd α → Option α
  | .ret a => some a
  | .fail => none
  | .get i f => (f (m.getD i .dead)).runC call m
  | .guard c x => bif c then x.runC call m else none
  | .split c x y => bif c then x.runC call m else y.runC call m
  | .opt _ o f => o.bind fun x => (f x).runC call m
  | .call f asv me ρ g => (call f asv me ρ).bind fun x => (g x).runC call m
/-- no call -/
def Rd.CF {α : Type} : Rd α → Prop
  | .ret _ => True
  | .fail => True
  | .get _ f => ∀ o, (f o).CF
  | .guard _ x => x.CF
  | .split _ x y => x.CF ∧ y.CF
  | .opt _ _ f => ∀ x, (f x).CF
  | .call .. => False

section
variable {call : CallF} {m : List Obj}
theorem toTree_interp {α R : Type} {leaf : List KI → St → Option R} {fin : V → List Obj → Option R} (r : Rd α) : ∀ (l : List Nat) (k : α → List Nat → Tree),
    (r.toTree m l k).interp call leaf fin = (r.runL call m l).bind fun p => (k p.1 p.2).interp call leaf fin := by
  induction r with
  | ret a => intro l k; rfl
  | fail => intro l k; rfl
  | get i f ih => intro l k; exact ih _ _ _
  | guard c x ih => intro l k; cases c <;> simp [Rd.toTree, Tree.interp, Rd.runL, ih]
  | split c x y ihx ihy => intro l k; cases c <;> simp [Rd.toTree, Tree.interp, Rd.runL, ihx, ihy]
  | opt t o f ih => intro l k; cases o <;> simp [Rd.toTree, Tree.interp, Rd.runL, ih]
  | call f asv me ρ g ih =>
    intro l k
    simp only [Rd.toTree, Tree.interp, Rd.runL]
    cases call f asv me ρ <;> simp [ih]
theorem runL_runC {α : Type} (r : Rd α) : ∀ {l l' : List Nat} {a : α}, r.runL call m l = some (a, l') → r.runC call m = some a := by
  induction r with
  | ret a => intro l l' b h; simp [Rd.runL] at h; simp [Rd.runC, h.1]
  | fail => intro l l' b h; cases h
  | get i f ih => intro l l' b h; exact ih _ h
  | guard c x ih => intro l l' b h; cases c <;> simp [Rd.runL, Rd.runC] at h ⊢; exact ih h
  | split c x y ihx ihy => intro l l' b h; cases c <;> simp [Rd.runL, Rd.runC] at h ⊢ <;> first | exact ihy h | exact ihx h
  | opt t o f ih => intro l l' b h; cases o <;> simp [Rd.runL, Rd.runC] at h ⊢; exact ih _ h
  | call f asv me ρ g ih =>
    intro l l' b h
    simp only [Rd.runL, Rd.runC] at h ⊢
    cases hc : call f asv me ρ with
    | none => rw [hc] at h; cases h
    | some x => rw [hc] at h; exact ih _ h
theorem runC_bind {α β : Type} (x : Rd α) (f : α → Rd β) : (x.bind f).runC call m = (x.runC call m).bind fun a => (f a).runC call m := by
  induction x with
  | ret a => rfl
  | fail => rfl
  | get i k ih => exact ih _
  | guard c k ih => cases c <;> simp [Rd.bind, Rd.runC, ih]
  | split c p q ihp ihq => cases c <;> simp [Rd.bind, Rd.runC, ihp, ihq]
  | opt t o k ih => cases o <;> simp [Rd.bind, Rd.runC, ih]
  | call f asv me ρ g ih => simp only [Rd.bind, Rd.runC]; cases call f asv me ρ <;> simp [ih]
theorem runC_CF {α : Type} (r : Rd α) : r.CF → r.runC call m = r.run1 m := by
  induction r with
  | ret a => intro _; rfl
  | fail => intro _; rfl
  | get i f ih => intro h; exact ih _ (h _)
  | guard c x ih => intro h; cases c <;> simp [Rd.runC, Rd.run1]; exact ih h
  | split c x y ihx ihy => intro h; cases c <;> simp [Rd.runC, Rd.run1] <;> first | exact ihy h.2 | exact ihx h.1
  | opt t o f ih => intro h; cases o <;> simp [Rd.runC, Rd.run1]; exact ih _ (h _)
  | call f asv me ρ g ih => intro h; exact h.elim
/-- what is not read does not matter -/
theorem runL_sub {α : Type} (r : Rd α) : ∀ {l l' : List Nat} {a : α}, r.runL call m l = some (a, l') → ∀ i ∈ l, i ∈ l' := by
  induction r with
  | ret a => intro l l' b h; simp [Rd.runL] at h; rw [h.2]; exact fun _ h => h
  | fail => intro l l' b h; cases h
  | get i f ih => intro l l' b h j hj; exact ih _ h j (by simp [hj])
  | guard c x ih => intro l l' b h; cases c <;> simp [Rd.runL] at h; exact ih h
  | split c x y ihx ihy => intro l l' b h; cases c <;> simp [Rd.runL] at h <;> first | exact ihy h | exact ihx h
  | opt t o f ih => intro l l' b h; cases o <;> simp [Rd.runL] at h; exact ih _ h
  | call f asv me ρ g ih =>
    intro l l' b h
    simp only [Rd.runL] at h
    cases hc : call f asv me ρ with
    | none => rw [hc] at h; cases h
    | some x => rw [hc] at h; exact ih _ h
theorem runL_congr {α : Type} {m' : List Obj} (r : Rd α) : ∀ {l l' : List Nat} {a : α}, r.runL call m l = some (a, l') → (∀ i ∈ l', m'.getD i .dead = m.getD i .dead) → r.runL call m' l = some (a, l') := by
  induction r with
  | ret a => intro l l' b h _; exact h
  | fail => intro l l' b h; cases h
  | get i f ih =>
    intro l l' b h hm
    simp only [Rd.runL] at h ⊢
    rw [hm i (runL_sub _ h i (by simp))]
    exact ih _ h hm
  | guard c x ih => intro l l' b h hm; cases c <;> simp [Rd.runL] at h ⊢; exact ih h hm
  | split c x y ihx ihy => intro l l' b h hm; cases c <;> simp [Rd.runL] at h ⊢ <;> first | exact ihy h hm | exact ihx h hm
  | opt t o f ih => intro l l' b h hm; cases o <;> simp [Rd.runL] at h ⊢; exact ih _ h hm
  | call f asv me ρ g ih =>
    intro l l' b h hm
    simp only [Rd.runL] at h ⊢
    cases hc : call f asv me ρ with
    | none => rw [hc] at h; cases h
    | some x => rw [hc] at h; exact ih _ h hm

theorem CF_bind {α β : Type} {x : Rd α} {f : α → Rd β} (hx : x.CF) (hf : ∀ a, (f a).CF) : (x.bind f).CF := by
  induction x with
  | ret a => exact hf a
  | fail => trivial
  | get i k ih => exact fun o => ih o (hx o)
  | guard c k ih => exact ih hx
  | split c p q ihp ihq => exact ⟨ihp hx.1, ihq hx.2⟩
  | opt t o k ih => exact fun x => ih x (hx x)
  | call f asv me ρ g ih => exact hx.elim
theorem CF_ret {α : Type} (a : α) : (Rd.ret a).CF := trivial
theorem CF_fail {α : Type} : (Rd.fail : Rd α).CF := trivial
theorem CF_get {α : Type} {i : Nat} {f : Obj → Rd α} (h : ∀ o, (f o).CF) : (Rd.get i f).CF := h
theorem CF_guard {α : Type} {c : Bool} {x : Rd α} (h : x.CF) : (Rd.guard c x).CF := h
theorem CF_split {α : Type} {c : Bool} {x y : Rd α} (h : x.CF) (g : y.CF) : (Rd.split c x y).CF := ⟨h, g⟩
theorem CF_opt {α : Type} {t : Ty} {o : Option (El t)} {f : El t → Rd α} (h : ∀ x, (f x).CF) : (Rd.opt t o f).CF := h
theorem CF_ofOption {α : Type} (o : Option α) : (Rd.ofOption o).CF := by cases o <;> trivial
theorem CF_bif {α : Type} {c : Bool} {x y : Rd α} (h : x.CF) (g : y.CF) : (bif c then x else y).CF := by cases c <;> assumption

theorem CF_mapR {α β : Type} {f : α → Rd β} (h : ∀ a, (f a).CF) : ∀ l, (mapR f l).CF
  | [] => trivial
  | a :: r => CF_bind (h a) fun _ => CF_bind (CF_mapR h r) fun _ => trivial
theorem CF_catR {α β : Type} {f : α → Rd (List β)} (h : ∀ a, (f a).CF) : ∀ l, (catR f l).CF
  | [] => trivial
  | a :: r => CF_bind (h a) fun _ => CF_bind (CF_catR h r) fun _ => trivial
theorem CF_dataC (c : CV) : (dataC c).CF := by
  cases c <;> simp only [dataC] <;> try trivial
  · exact fun o => by cases o <;> trivial
  · exact fun o => by cases o <;> first | trivial | exact CF_bif (CF_ret _) CF_fail
theorem CF_dataCs (cs : List CV) : (dataCs cs).CF := CF_mapR CF_dataC cs
theorem CF_pureC : ∀ (d : Nat) (c : CV), (pureC d c).CF
  | 0, _ => trivial
  | d + 1, c => by
    cases c <;> simp only [pureC] <;> try first | trivial | exact CF_dataC _
    · exact fun o => by cases o <;> first | trivial | exact CF_bind (CF_mapR (CF_pureC d) _) fun _ => trivial
    · exact fun o => by cases o <;> first | trivial | exact fun _ => trivial
    · exact CF_bind (CF_mapR (CF_pureC d) _) fun _ => trivial
    · exact CF_bind (CF_mapR (CF_pureC d) _) fun _ => trivial
theorem CF_pureV (v : V) : (pureV v).CF := by
  cases v <;> simp only [pureV, pureCs]
  · exact CF_bind (CF_pureC 6 _) fun _ => trivial
  · exact CF_bind (CF_mapR (CF_pureC 6) _) fun _ => trivial
  · trivial
theorem CF_pureVs : ∀ vs, (pureVs vs).CF
  | [] => trivial
  | v :: r => CF_bind (CF_pureV v) fun _ => CF_bind (CF_pureVs r) fun _ => trivial
theorem CF_rowsC : ∀ (d : Nat) (c : CV), (rowsC d c).CF
  | 0, _ => trivial
  | d + 1, c => by
    cases c <;> simp only [rowsC] <;> try trivial
    · exact fun o => by cases o <;> first | trivial | exact CF_catR (CF_rowsC d) _
    · exact CF_catR (CF_rowsC d) _
    · exact CF_catR (CF_rowsC d) _
theorem CF_rowsVs : ∀ vs, (rowsVs vs).CF
  | [] => trivial
  | v :: r => CF_bind (CF_catR (CF_rowsC 6) _) fun _ => CF_bind (CF_rowsVs r) fun _ => trivial
theorem CF_freeze : ∀ is, (freeze is).CF
  | [] => trivial
  | i :: r => fun o => by cases o <;> first | trivial | exact CF_freeze r | exact CF_bind (CF_freeze r) fun _ => trivial
theorem CF_loadC (n : Nat) (c : CV) : (loadC n c).CF := by
  cases c <;> simp only [loadC] <;> try trivial
  · exact fun o => by cases o <;> trivial
  · exact fun o => by cases o <;> first | trivial | exact fun _ => trivial
theorem CF_mkV (g : Bool) (cs : List CV) : (mkV g cs).CF := by
  unfold mkV; split <;> trivial
theorem CF_intOp (op : BinOp) (k : IntKind) (a b : Int) : (intOp op k a b).CF := by cases op <;> trivial
theorem CF_shiftOp (op : BinOp) (k : IntKind) (a b : Int) : (shiftOp op k a b).CF := by cases op <;> trivial
theorem CF_strOp (op : BinOp) (a b : ByteArray) : (strOp op a b).CF := by cases op <;> trivial
theorem CF_binC (op : BinOp) (bt st : Bool) (x y : CV) : (binC op bt st x y).CF := by
  unfold binC
  split
  · split <;> trivial
  · split
    · exact CF_shiftOp _ _ _ _
    · exact CF_shiftOp _ _ _ _
    · split
      · exact CF_intOp _ _ _ _
      · trivial
  · exact CF_strOp _ _ _
  · split <;> trivial
  · trivial
theorem CF_binA (P : Program) (op : BinOp) (t : TypeId) (cs ds : List CV) : (binA P op t cs ds).CF := by
  unfold binA
  split
  · refine CF_bif CF_fail ?_
    split <;> trivial
  · trivial
theorem CF_unC (op : UnOp) (x : CV) : (unC op x).CF := by unfold unC; split <;> trivial
theorem CF_elems (t : Ty) (c : CV) : (elems t c).CF := by
  cases c <;> simp only [elems] <;> try first | trivial | exact CF_ofOption _
  · exact fun o => by cases o <;> first | trivial | exact CF_ofOption _
  · exact fun o => by cases o <;> first | trivial | exact CF_bind (CF_ofOption _) fun _ => CF_guard (CF_ret _)
theorem CF_srcElems (t : Ty) (c : CV) : (srcElems t c).CF := by
  cases c <;> simp only [srcElems] <;> try exact CF_elems _ _
  unfold strElems; split <;> trivial
theorem CF_lenS (c : CV) : (lenS c).CF := by
  cases c <;> simp only [lenS] <;> try trivial
  · exact fun o => by cases o <;> trivial
  · exact fun o => by cases o <;> trivial
theorem CF_lenM (c : CV) : (lenM c).CF := by
  cases c <;> simp only [lenM] <;> try trivial
  exact fun o => by cases o <;> trivial
theorem CF_lenC (P : Program) (t : TypeId) (c : CV) : (lenC P t c).CF := by
  unfold lenC
  split
  · split <;> trivial
  · split
    · exact CF_lenS _
    · exact CF_lenM _
    · trivial
theorem CF_indexAddrC (sz : Nat) (x : CV) (i : Int) : (indexAddrC sz x i).CF := by
  cases x <;> simp only [indexAddrC] <;> try trivial
  · exact CF_bif (fun _ => trivial) CF_fail
  · exact CF_bif (fun _ => trivial) CF_fail
  · exact fun o => by cases o <;> first | trivial | exact CF_bif (CF_guard (CF_ret _)) CF_fail
  · exact fun o => by cases o <;> first | trivial | exact CF_bif (CF_guard (CF_ret _)) CF_fail
theorem CF_fieldAddrC (off n : Nat) (x : CV) : (fieldAddrC off n x).CF := by
  unfold fieldAddrC
  split
  · trivial
  · split
    · exact fun o => by cases o <;> trivial
    · exact fun o => by cases o <;> trivial
    · trivial
    · trivial
theorem CF_fillC (pl : Nat → Option (Nat × Nat)) : ∀ (ps : List (Nat × V)) (cs : List CV), (fillC pl cs ps).CF
  | [], _ => trivial
  | (i, v) :: r, cs => by
    unfold fillC
    split
    · exact CF_bif (CF_fillC pl r _) CF_fail
    · trivial
theorem CF_sliceS (s : ByteArray) (l : Int) (h m : Option Int) : (sliceS s l h m).CF := by unfold sliceS; split <;> trivial
theorem CF_sliceD (t : Ty) (xs : List (El t)) (l : Int) (h m : Option Int) : (sliceD t xs l h m).CF := by
  unfold sliceD
  split
  · trivial
  · split <;> trivial
theorem CF_sliceC (sz : Nat) (x : CV) (l : Int) (h m : Option Int) : (sliceC sz x l h m).CF := by
  cases x <;> simp only [sliceC] <;> try trivial
  · exact CF_bif CF_fail (CF_guard (CF_ret _))
  · exact CF_bif (CF_sliceD _ _ _ _ _) CF_fail
  · exact CF_bif (CF_sliceD _ _ _ _ _) CF_fail
  · exact fun o => by
      cases o <;> try trivial
      · exact CF_bif (CF_guard (CF_ret _)) CF_fail
      · exact CF_bif (CF_sliceD _ _ _ _ _) CF_fail
  · exact fun o => by
      cases o <;> first | trivial | exact CF_bif (CF_guard (CF_ret _)) CF_fail
theorem CF_convC (P : Program) (s d : TypeId) (x : CV) : (convC P s d x).CF := by unfold convC; split <;> trivial
theorem CF_capC (P : Program) (t : TypeId) (c : CV) : (capC P t c).CF := by
  unfold capC
  split
  · cases c <;> simp only [capS] <;> try trivial
    exact fun o => by cases o <;> trivial
  · trivial
theorem CF_appendC (P : Program) (t tx : TypeId) (x y : V) (id : Nat) : (appendC P t tx x y id).CF := by
  unfold appendC
  split
  · refine CF_bif CF_fail (CF_bind (CF_srcElems _ _) fun ys => ?_)
    split
    · trivial
    · exact CF_bind (CF_ofOption _) fun _ => trivial
    · exact fun o => by cases o <;> first | trivial | exact CF_bind (CF_ofOption _) fun _ => trivial
    · exact fun o => by cases o <;> first | trivial | exact CF_bind (CF_ofOption _) fun _ => CF_guard (CF_split (CF_ret _) (CF_guard (CF_ret _)))
    · trivial
  · trivial
theorem CF_appendZ (P : Program) (t : TypeId) (x y : V) (id : Nat) : (appendZ P t x y id).CF := by
  unfold appendZ
  split
  · split
    · exact fun o => by cases o <;> first | trivial | exact CF_bind (CF_ofOption _) fun _ => CF_guard (CF_ret _)
    · trivial
  · trivial
theorem CF_copyC (P : Program) (t tx : TypeId) (x y : V) : (copyC P t tx x y).CF := by
  unfold copyC
  split
  · refine CF_bif CF_fail (CF_bind (CF_srcElems _ _) fun ys => ?_)
    split
    · exact fun o => by cases o <;> first | trivial | exact CF_bind (CF_ofOption _) fun _ => trivial
    · exact fun o => by cases o <;> first | trivial | exact CF_bind (CF_ofOption _) fun _ => trivial
    · trivial
    · trivial
  · trivial
theorem CF_withMap {I : MapInfo} {m k : V} {f : Nat → List (El I.kt × El I.vt) → Bool → El I.kt → Rd Out} (h : ∀ i es t key, (f i es t key).CF) : (withMap I m k f).CF := by
  unfold withMap
  split
  · exact fun o => by
      cases o <;> try trivial
      refine CF_bif ?_ CF_fail
      split
      · exact h _ _ _ _
      · trivial
  · trivial
theorem CF_elemOf {I : MapInfo} {v : V} {f : El I.vt → List (Nat × Obj) → Rd Out} (h : ∀ x ws, (f x ws).CF) : (elemOf I v f).CF := by
  unfold elemOf
  refine CF_bif CF_fail (CF_bind (CF_dataCs _) fun _ => CF_bind (CF_freeze _) fun _ => ?_)
  split
  · exact h _ _
  · trivial
theorem CF_lookupC (P : Program) (t : TypeId) (m k : V) (c : Bool) : (lookupC P t m k c).CF := by
  unfold lookupC
  split
  · exact CF_withMap fun _ _ _ _ => CF_bind (CF_mkV _ _) fun _ => trivial
  · trivial
theorem CF_updateC (P : Program) (t : TypeId) (m k v : V) : (updateC P t m k v).CF := by
  unfold updateC
  split
  · exact CF_withMap fun _ _ _ _ => CF_elemOf fun _ _ => CF_bif CF_fail (CF_ret _)
  · trivial
theorem CF_entryC (P : Program) (t : TypeId) (m k : V) : (entryC P t m k).CF := by
  unfold entryC
  split
  · exact CF_withMap fun _ _ _ _ => CF_bif (CF_bind (CF_mkV _ _) fun _ => trivial) CF_fail
  · trivial
theorem CF_entryStoreC (P : Program) (t : TypeId) (m s v : V) : (entryStoreC P t m s v).CF := by
  unfold entryStoreC
  split
  · exact fun o => by
      cases o <;> try trivial
      refine CF_bif ?_ CF_fail
      split
      · exact CF_elemOf fun _ _ => CF_bif CF_fail (CF_guard (CF_ret _))
      · trivial
  · trivial
theorem CF_deleteC (P : Program) (t : TypeId) (m k : V) : (deleteC P t m k).CF := by
  unfold deleteC
  split
  · exact CF_withMap fun _ _ _ _ => trivial
  · trivial
theorem CF_makeMapC (P : Program) (t : TypeId) (r : Option V) (id : Nat) : (makeMapC P t r id).CF := by
  unfold makeMapC
  split
  · split <;> trivial
  · trivial
theorem CF_clearC (P : Program) (t : TypeId) (c : CV) : (clearC P t c).CF := by
  unfold clearC
  split
  · split
    · exact fun o => by cases o <;> first | trivial | exact CF_bind (CF_ofOption _) fun _ => trivial
    · exact fun o => by cases o <;> first | trivial | exact CF_bind (CF_ofOption _) fun _ => CF_guard (CF_ret _)
    · trivial
  · trivial
theorem CF_builtinC (P : Program) (b : Builtin) (ts : List TypeId) (vs : List V) (id : Nat) : (builtinC P b ts vs id).CF := by
  cases b <;> simp only [builtinC] <;> try trivial
  case len =>
    split
    · exact CF_bind (CF_lenC _ _ _) fun _ => trivial
    · trivial
  case cap =>
    split
    · exact CF_bind (CF_capC _ _ _) fun _ => trivial
    · trivial
  case append =>
    split
    · exact CF_bif (CF_appendZ _ _ _ _ _) (CF_appendC _ _ _ _ _ _)
    · trivial
  case copy =>
    split
    · exact CF_copyC _ _ _ _ _
    · trivial
  case clear =>
    split
    · exact CF_clearC _ _ _
    · trivial
  case delete =>
    split
    · exact CF_deleteC _ _ _ _
    · trivial
  all_goals
    split
    · split <;> trivial
    · trivial

/-- a call of a function -/
def Op.isCall : Op → Bool
  | .call { callee := .value _, .. } => true
  | _ => false

theorem CF_semOp (P : Program) (C : Cfg) (o : Op) (ty : TypeId) (ev : Operand → Option Ty → V) (id : Nat) (h : Op.isCall o = false) : (semOp P C o ty ev id).CF := by
  cases o
  case makeFunc fn first caps => cases fn <;> simp only [semOp] <;> first | trivial | exact CF_bif (CF_ret _) CF_fail
  all_goals simp only [semOp]
  all_goals try trivial
  all_goals try (split <;> first | trivial | exact CF_bind (CF_binC _ _ _ _ _) fun _ => trivial | exact CF_bind (CF_binA _ _ _ _ _) fun _ => trivial | exact CF_bind (CF_unC _ _) fun _ => trivial | exact CF_bind (CF_convC _ _ _ _) fun _ => trivial | exact CF_bind (CF_fieldAddrC _ _ _) fun _ => trivial | exact CF_bind (CF_indexAddrC _ _ _) fun _ => trivial | exact CF_split (CF_ret _) (CF_ret _))
  all_goals try exact CF_bif CF_fail (CF_ret _)
  all_goals try exact CF_bif (CF_ret _) CF_fail
  case «load» =>
    split
    · exact CF_bind (CF_loadC _ _) fun _ => CF_bif (CF_bind (CF_mkV _ _) fun _ => trivial) CF_fail
    · trivial
  case store =>
    split
    · refine CF_bif ?_ CF_fail
      split
      · exact fun o => by cases o <;> first | trivial | exact CF_bif (CF_ret _) CF_fail
      · exact fun o => by
          cases o <;> try trivial
          exact fun e => CF_bind (CF_dataCs _) fun ncs => CF_bind (CF_freeze _) fun ws => by
            split
            · exact CF_bif CF_fail (CF_ret _)
            · trivial
      · trivial
    · trivial
  case nilCheck =>
    split
    · exact fun o => by cases o <;> trivial
    · exact fun o => by cases o <;> trivial
    · trivial
    · trivial
    · trivial
  case slice =>
    split
    · split
      · exact CF_bind (CF_sliceS _ _ _ _) fun _ => trivial
      · split
        · exact CF_bind (CF_sliceC _ _ _ _ _) fun _ => trivial
        · trivial
      · trivial
    · trivial
  case field =>
    split
    · exact CF_bif (CF_bind (CF_mkV _ _) fun _ => trivial) CF_fail
    · trivial
  case index =>
    split
    · exact fun _ => trivial
    · trivial
  case extract =>
    split
    · split <;> trivial
    · trivial
  case build =>
    split
    · exact CF_bif (CF_bind (CF_fillC _ _ _) fun _ => trivial) CF_fail
    · trivial
  case buildSlice =>
    split
    · split
      · refine CF_bif (CF_bind (CF_fillC _ _ _) fun _ => CF_bind (CF_dataCs _) fun _ => CF_bind (CF_freeze _) fun _ => ?_) CF_fail
        split <;> trivial
      · trivial
    · trivial
  case makeMap => exact CF_makeMapC _ _ _ _
  case lookup => exact CF_lookupC _ _ _ _ _
  case mapUpdate => exact CF_updateC _ _ _ _ _
  case insert => exact CF_updateC _ _ _ _ _
  case mapEntry => exact CF_entryC _ _ _ _
  case entryStore => exact CF_entryStoreC _ _ _ _ _
  case makeSlice =>
    split
    · split <;> trivial
    · trivial
  case call c =>
    split
    · exact CF_builtinC _ _ _ _ _
    · rename_i f hf
      obtain ⟨callee, _, _⟩ := c
      simp at hf
      subst hf
      simp [Op.isCall] at h
    · trivial
end
end Go.Sk

/- Calls of functions: what is handed over, what comes back; all operations at once. -/
set_option linter.unusedSimpArgs false
set_option linter.unusedVariables false
set_option linter.unusedSectionVars false
namespace Go.Sk
open Go
section
variable {P : Program} {X : Fr} {env : List V} {mem : List Obj} {al : Nat → Prop} {tmps : Array Value} {w : World} {β : Nat → Value} {ok : Nat → Prop}

theorem _root_.Go.Sk.Inv.alMono (h : Inv X env mem al tmps w β ok) {al' : Nat → Prop} (hal : ∀ i, al i → al' i) : Ext w ok X.rd β (kds mem) al w ok β (kds mem) al' ∧ Inv X env mem al' tmps w β ok :=
  h.update (mem' := mem) (al' := al') (β' := β) (ok' := ok) (fun _ => False) hal (fun _ h => h.elim) (fun _ _ => rfl) (fun _ _ => rfl) (fun _ h => h.elim) (fun _ h => h.elim) (fun b _ _ => rfl) (Nat.le_refl _)
    (fun _ h => h) (fun _ h => .inl h) (fun _ _ h => h.elim) (fun _ _ h => h.elim) (fun _ _ _ h => h.elim) (fun _ _ h => h.elim) rfl rfl rfl
theorem Left.weaken {new new' : Nat → Prop} {s : Sem Next} {out : Out} (h : Left P X env mem al tmps w new s out) (hn : ∀ i, new i → new' i) : Left P X env mem al tmps w new' s out := by
  obtain ⟨r, cv, w', β', ok', h1, h2, h3, h4⟩ := h.run
  obtain ⟨e, hI⟩ := h3.alMono (al' := fun i => al i ∨ new' i) fun i hi => hi.imp id (hn i)
  exact ⟨r, cv, w', β', ok', h1, h2, hI, h4.mono e⟩

/-- every operation but a call of a function -/
theorem sem_left (C : Cfg) (ds : List Deferred) (h : Inv X env mem al tmps w β ok) (o : Oper) {id : Nat} (hid : ∀ j, id ≤ j → j < id + newOf P C o.op (⟨env, mem⟩ : St).ev → ¬ al j) (hc : Op.isCall o.op = false) {out : Out}
    (hr : (semOp P C o.op o.type (⟨env, mem⟩ : St).ev id).run1 mem = some out) :
    Left P X env mem al tmps w (fun j => id ≤ j ∧ j < id + newOf P C o.op (⟨env, mem⟩ : St).ev) (execOp (⟨tmps, ds⟩ : Act).eval o) out := by
  obtain ⟨dst, op, ty, pos, aft, gd⟩ := o
  have one : ∀ {new : Nat → Prop} {s : Sem Next}, newOf P C op (⟨env, mem⟩ : St).ev = 1 → Left P X env mem al tmps w (fun j => j = id) s out → Left P X env mem al tmps w (fun j => id ≤ j ∧ j < id + newOf P C op (⟨env, mem⟩ : St).ev) s out :=
    fun e hl => hl.weaken fun i hi => by rw [e]; omega
  have fresh : newOf P C op (⟨env, mem⟩ : St).ev = 1 → ¬ al id := fun e => hid id (Nat.le_refl _) (by show id < id + newOf P C op _; rw [e]; omega)
  cases op
  case move x => exact left_move ds C h hr
  case assign x => exact left_assign ds C h hr
  case pick c a b => exact left_pick ds C h hr
  case alloc t => exact one (new := fun _ => False) rfl (left_alloc ds C h (fresh rfl) hr)
  case box t x => exact one (new := fun _ => False) rfl (left_box ds C h (fresh rfl) hr)
  case «load» t x => exact left_load ds C h hr
  case store t a x => exact left_store ds C h hr
  case nilCheck x => exact left_nilCheck ds C h hr
  case binOp op t x y u => exact left_binOp ds C h hr
  case unOp op t x => exact left_unOp ds C h hr
  case convert s d x => exact left_convert ds C h hr
  case makeFunc fn first caps => exact left_makeFunc ds C h hr
  case slice t x l hi m => exact left_slice ds C h hr
  case fieldAddr t x f => exact left_fieldAddr ds C h hr
  case field t x f => exact left_field ds C h hr
  case indexAddr t x i => exact left_indexAddr ds C h hr
  case index t x i => exact left_index ds C h hr
  case extract t i => exact left_extract ds C h hr
  case build t parts => exact left_build ds C h hr
  case buildSlice t n parts => exact one (new := fun _ => False) rfl (left_buildSlice ds C h (fresh rfl) hr)
  case makeMap t r => exact one (new := fun _ => False) rfl (left_makeMap ds C h (fresh rfl) hr)
  case lookup t m k c => exact left_lookup ds C h hr
  case mapUpdate t m k v => exact left_mapUpdate ds C h hr
  case insert t m k v => exact left_insert ds C h hr
  case mapEntry t m k => exact left_mapEntry ds C h hr
  case entryStore t m s v => exact left_entryStore ds C h hr
  case makeSlice t n c => exact one (new := fun _ => False) rfl (left_makeSlice ds C h (fresh rfl) hr)
  case call c =>
    obtain ⟨callee, args, ats⟩ := c
    cases callee with
    | builtin b =>
      refine (left_builtin ds C h (b := b) rfl (fun e => fresh (by subst e; rfl)) hr).weaken fun i hi => ?_
      obtain ⟨rfl, rfl⟩ := hi
      exact ⟨Nat.le_refl _, by show i < i + 1; omega⟩
    | value f => simp [Op.isCall] at hc
    | invoke r n => cases hr
  all_goals (cases hr; done)

/-! ### what is handed over -/
/-- the rows that a cell leads to are all in Lp -/
def Reach (m : List Obj) (Lp : Nat → Prop) {α : Type} (f : α → Rd (List Nat)) (c : α) : Prop := (∀ i, Lp i) ∨ ∃ L, (f c).run1 m = some L ∧ ∀ i ∈ L, Lp i
theorem Reach.cat {m : List Obj} {Lp : Nat → Prop} {α : Type} {f : α → Rd (List Nat)} {c : α} {r : List α} (h : Reach m Lp (catR f) (c :: r)) : Reach m Lp f c ∧ Reach m Lp (catR f) r := by
  rcases h with h | ⟨L, h1, h2⟩
  · exact ⟨.inl h, .inl h⟩
  · obtain ⟨a, ha, h1⟩ := bind_run1 h1
    obtain ⟨b, hb, h1⟩ := bind_run1 h1
    obtain rfl := ret_run1 h1
    exact ⟨.inr ⟨a, ha, fun i hi => h2 i (by simp [hi])⟩, .inr ⟨b, hb, fun i hi => h2 i (by simp [hi])⟩⟩

/-- from the caller's state to the callee's: m, the memory that was read; m', the memory as it stands -/
structure Hand (w : World) (ok rd : Nat → Prop) (β : Nat → Value) (m m' : List Obj) (al : Nat → Prop) (okx rdx Lp : Nat → Prop) : Prop where
  obj : ∀ i, ObjRel w ok rd β (kds m') al i (m'.getD i .dead)
  froze : Froze m m'
  hok : ∀ b, ok b → okx b
  hrd : ∀ b, rd b → rdx b
  own : ∀ i b, own m' β i = some b → rdx b
  rows : ∀ i, Lp i → ∀ t xs, (m'.getD i .dead = .row t xs ∨ m'.getD i .dead = .frz t xs) → RepE w okx (.slice t) xs [β i]

@[reducible] def noKd : Nat → KD := fun _ => .none
@[reducible] def noAl : Nat → Prop := fun _ => False
variable {rd : Nat → Prop} {m m' : List Obj} {okx rdx Lp : Nat → Prop} {β0 : Nat → Value}

theorem RelC.osl_inv' {kd : Nat → KD} {i : Nat} {v : Value} (h : RelC w ok rd β kd al (.osl i) v) (hk : kd i ≠ .none) : v = β i := by
  cases h with
  | osl _ _ hi hp h1 => exact hp hk
theorem hand_data (H : Hand w ok rd β m m' al okx rdx Lp) {c c' : CV} {v : Value} (hr : (dataC c).run1 m = some c') (hrow : ∀ i ∈ rowsD [c], Lp i) (hv : RelC w ok rd β (kds m') al c v) : RelC w okx rdx β0 noKd noAl c' v := by
  have mono : ∀ {t : Ty} {xs : List (El t)} {A : Option Addr}, RowAt w ok (RepE w ok t) t.size A xs → RowAt w okx (RepE w okx t) t.size A xs :=
    fun h => h.mono (fun _ _ => rfl) H.hok fun _ _ h => RepE.mono (fun _ _ => rfl) H.hok h
  cases c <;> simp only [dataC, Rd.run1_fail, Rd.run1_ret, Option.some.injEq] at hr <;> try (cases hr; done)
  case bool b => subst hr; cases hv; exact .bool b
  case int k n => subst hr; cases hv; exact .int k n
  case str s => subst hr; cases hv; exact .str s
  case nils t => subst hr; cases hv; exact .nils t
  case slc t xs =>
    subst hr
    obtain ⟨A, c, rfl, hl, hrow⟩ : ∃ A c, v = .slice A xs.length c ∧ xs.length ≤ c ∧ RowAt w ok (RepE w ok t) t.size A xs := by cases hv; exact ⟨_, _, rfl, by assumption, by assumption⟩
    exact .slc t xs A c hl (mono hrow)
  case clp t xs =>
    subst hr
    obtain ⟨A, rfl, hrow⟩ : ∃ A, v = .slice A xs.length xs.length ∧ RowAt w ok (RepE w ok t) t.size A xs := by cases hv; exact ⟨_, rfl, by assumption⟩
    exact .clp t xs A (mono hrow)
  case osl i =>
    simp only [Rd.run1_get] at hr
    have key : ∀ t xs, (m'.getD i .dead = .row t xs ∨ m'.getD i .dead = .frz t xs) → c' = .slc t xs → RelC w okx rdx β0 noKd noAl c' v := by
      intro t xs hx hc'
      subst hc'
      rw [hv.osl_inv' (by show (m'.getD i .dead).kd ≠ _; rcases hx with hx | hx <;> rw [hx] <;> simp [Obj.kd])]
      obtain ⟨A, c, hb, hl, hr'⟩ := H.rows i (hrow i (by simp [rowsD])) t xs hx
      simp at hb
      rw [hb]
      exact .slc t xs A c hl hr'
    rcases H.froze i with h1 | ⟨t, xs, h1, h2⟩
    · cases hm : m.getD i .dead <;> rw [hm] at hr h1 <;> first | (cases hr; done) | skip
      · exact key _ _ (.inl h1) (ret_run1 hr).symm
      · exact key _ _ (.inr h1) (ret_run1 hr).symm
    · rw [h1] at hr
      exact key t xs (.inr h2) (ret_run1 hr).symm
  case ovw i o n =>
    simp only [Rd.run1_get] at hr
    have key : ∀ t xs, (m'.getD i .dead = .row t xs ∨ m'.getD i .dead = .frz t xs) → o + n ≤ xs.length → c' = .slc t ((xs.drop o).take n) → RelC w okx rdx β0 noKd noAl c' v := by
      intro t xs hx hle hc'
      subst hc'
      obtain ⟨A, n', cp, A', hb, rfl, hcp, hA⟩ : ∃ A n' c A', β i = .slice A n' c ∧ v = .slice A' n (c - o) ∧ o + n ≤ c ∧ (∀ b q, A = some ⟨b, q, none⟩ → c ≠ o → A' = some ⟨b, q + o * t.size, none⟩) := by
        cases hv with
        | ovw _ _ _ _ hi hp h1 => exact hp t (by show (m'.getD i .dead).kd = _; rcases hx with hx | hx <;> rw [hx] <;> rfl)
      obtain ⟨A2, c, hb2, hl, hr'⟩ := H.rows i (hrow i (by simp [rowsD])) t xs hx
      simp at hb2
      rw [hb] at hb2
      cases hb2
      have hlen : ((xs.drop o).take n).length = n := by simp; omega
      have := RelC.slc (w := w) (ok := okx) (rd := rdx) (β := β0) (kd := noKd) (al := noAl) t ((xs.drop o).take n) A' (cp - o) (by rw [hlen]; omega) ?_
      · rw [hlen] at this; exact this
      · rcases hr' with rfl | ⟨b, q, rfl, hok, hr'⟩
        · exact .inl (by simp)
        · by_cases hn : n = 0
          · exact .inl (by simp [hn])
          · refine .inr ⟨b, q + o * t.size, hA b q rfl (by omega), hok, fun k x hk => ?_⟩
            have hk' : xs[o + k]? = some x := by
              rw [List.getElem?_take] at hk
              split at hk
              · rwa [List.getElem?_drop] at hk
              · cases hk
            obtain ⟨us, h1, h2, h3⟩ := hr' _ _ hk'
            exact ⟨us, h1, h2, fun j u hj => by have := h3 j u hj; rw [Nat.add_mul] at this; simpa [Nat.add_assoc] using this⟩
    have fin : ∀ t xs, (m'.getD i .dead = .row t xs ∨ m'.getD i .dead = .frz t xs) → (Rd.guard (decide (o + n ≤ xs.length)) (Rd.ret (CV.slc t ((xs.drop o).take n)))).run1 m = some c' → RelC w okx rdx β0 noKd noAl c' v := by
      intro t xs hx hb
      obtain ⟨h1, h2⟩ := guard_run1 hb
      exact key t xs hx (by simpa using h1) (ret_run1 h2).symm
    rcases H.froze i with h1 | ⟨t, xs, h1, h2⟩
    · cases hm : m.getD i .dead <;> rw [hm] at hr h1 <;> first | (cases hr; done) | skip
      · exact fin _ _ (.inl h1) hr
      · exact fin _ _ (.inr h1) hr
    · rw [h1] at hr
      exact fin t xs (.inr h2) hr
end
end Go.Sk

/- Calls of functions: arguments. -/
set_option linter.unusedSimpArgs false
set_option linter.unusedVariables false
set_option linter.unusedSectionVars false
namespace Go.Sk
open Go
section
variable {P : Program} {al : Nat → Prop} {w : World} {β : Nat → Value} {ok : Nat → Prop}
variable {rd : Nat → Prop} {m m' : List Obj} {okx rdx Lp : Nat → Prop} {β0 : Nat → Value}

theorem hand_list (H : Hand w ok rd β m m' al okx rdx Lp) {d : Nat} (ih : ∀ (c c' : CV) (v : Value), (pureC d c).run1 m = some c' → Reach m Lp (rowsC d) c → RelC w ok rd β (kds m') al c v → RelC w okx rdx β0 noKd noAl c' v) :
    ∀ (cs cs' : List CV) (us : List Value), (mapR (pureC d) cs).run1 m = some cs' → Reach m Lp (catR (rowsC d)) cs → RelL w ok rd β (kds m') al cs us → RelL w okx rdx β0 noKd noAl cs' us
  | [], cs', us, hr, _, hl => by
    obtain rfl := ret_run1 hr
    exact ⟨hl.1, fun j c u hj => by simp at hj⟩
  | c :: r, cs', us, hr, hL, hl => by
    obtain ⟨c1, h1, hr⟩ := bind_run1 hr
    obtain ⟨r1, h2, hr⟩ := bind_run1 hr
    obtain rfl := ret_run1 hr
    obtain ⟨v, q, rfl, hc, hq⟩ := hl.head
    exact .cons (ih c c1 v h1 hL.cat.1 hc) (hand_list H ih r r1 q h2 hL.cat.2 hq)

theorem hand_elem {t : Ty} {x : El t} {us : List Value} {b q k o : Nat} (hr : RepE w okx t x us) (hb : okx b ∨ rdx b) (hu : ∀ (j : Nat) u, us[j]? = some u → w.cell? ⟨b, q + j, none⟩ = some u) :
    RelC w okx rdx β0 noKd noAl (.rptr ((enc t x).drop o)) (.pointer (some ⟨b, q + o, none⟩)) := by
  have hl : RelL w okx rdx β0 noKd noAl (enc t x) us := rel_enc hr
  have hd := hl.drop o
  exact .rptr _ b (q + o) (us.drop o) hb hd.1 (fun j u hj => by
    rw [List.getElem?_drop] at hj
    rw [Nat.add_assoc]
    exact hu _ u hj) hd.2

theorem hand_pure (H : Hand w ok rd β m m' al okx rdx Lp) : ∀ (d : Nat) (c c' : CV) (v : Value), (pureC d c).run1 m = some c' → Reach m Lp (rowsC d) c → RelC w ok rd β (kds m') al c v → RelC w okx rdx β0 noKd noAl c' v
  | 0, c, c', v, hr, _, _ => by cases hr
  | d + 1, c, c', v, hr, hL, hv => by
    have ih := hand_pure H d
    have data' : ∀ c'', (dataC c).run1 m = some c'' → (rowsC (d + 1) c = .ret (rowsD [c])) → RelC w okx rdx β0 noKd noAl c'' v := fun c'' h1 h2 => by
      refine hand_data H h1 (fun i hi => ?_) hv
      rcases hL with hL | ⟨L, h3, h4⟩
      · exact hL i
      · rw [h2] at h3
        obtain rfl := ret_run1 h3
        exact h4 i hi
    have data := data' c'
    cases c
    case undef => obtain rfl := ret_run1 hr; exact .undef v
    case bool b => exact data hr rfl
    case int k n => exact data hr rfl
    case str s => exact data hr rfl
    case nils t =>
      obtain rfl := ret_run1 hr
      cases hv
      exact .slc t [] none 0 (Nat.le_refl _) (.inl rfl)
    case slc t xs => exact data hr rfl
    case clp t xs =>
      obtain rfl := ret_run1 hr
      cases data' (.clp t xs) rfl rfl with
      | clp _ _ A h => exact .slc t xs A _ (Nat.le_refl _) h
    case chk b t xs => exact data hr rfl
    case osl i => exact data hr rfl
    case ovw i o n => exact data hr rfl
    case cst u =>
      obtain rfl := ret_run1 hr
      cases hv with
      | cst _ h1 => exact .cst _ h1
    case nilp =>
      obtain rfl := ret_run1 hr
      cases hv
      exact .nilp
    case ptr i o =>
      simp only [pureC, Rd.run1_get] at hr
      cases hm : m.getD i .dead <;> rw [hm] at hr <;> first | (cases hr; done) | skip
      rename_i cs
      obtain ⟨cs', h1, hr⟩ := bind_run1 hr
      obtain rfl := ret_run1 hr
      have hm' : m'.getD i .dead = .cells cs := by
        rcases H.froze i with h | ⟨t, xs, h2, h3⟩
        · rw [h, hm]
        · rw [hm] at h2; cases h2
      have hob := H.obj i
      rw [hm'] at hob
      obtain ⟨b, us, T, hb, hh, hl⟩ := hob
      obtain ⟨b', hb', rfl⟩ : ∃ b, β i = .pointer (some ⟨b, 0, none⟩) ∧ v = .pointer (some ⟨b, o, none⟩) := by
        cases hv with
        | ptr _ _ _ hi hp h1 => exact hp (by show (m'.getD i .dead).kd = _; rw [hm']; rfl)
      rw [hb] at hb'
      simp at hb'
      subst hb'
      have hL2 : Reach m Lp (catR (rowsC d)) cs := by
        rcases hL with hL | ⟨L, h3, h4⟩
        · exact .inl hL
        · simp only [rowsC, Rd.run1_get, hm] at h3
          exact .inr ⟨L, h3, h4⟩
      have hd := (hand_list (β0 := β0) H ih cs cs' us h1 hL2 hl).drop o
      refine .rptr _ b o (us.drop o) (.inr (H.own i b (by unfold own; rw [hm', hb]; rfl))) hd.1 (fun j u hj => ?_) hd.2
      rw [List.getElem?_drop] at hj
      simp [World.cell?, hh, hj]
    case eptr i k o =>
      simp only [pureC, Rd.run1_get] at hr
      have key : ∀ t xs, (m'.getD i .dead = .row t xs ∨ m'.getD i .dead = .frz t xs) → (Rd.opt t xs[k]? fun x => Rd.ret (CV.rptr ((enc t x).drop o))).run1 m = some c' → RelC w okx rdx β0 noKd noAl c' v := by
        intro t xs hx hr
        simp only [Rd.run1_opt] at hr
        cases hk : xs[k]? with
        | none => rw [hk] at hr; cases hr
        | some x =>
          rw [hk] at hr
          obtain rfl := ret_run1 (m := m) hr
          obtain ⟨b, q, n, c, hb, rfl⟩ : ∃ b q n c, β i = .slice (some ⟨b, q, none⟩) n c ∧ v = .pointer (some ⟨b, q + k * t.size + o, none⟩) := by
            cases hv with
            | eptr _ _ _ _ hi hp h1 => exact hp t (by show (m'.getD i .dead).kd = _; rcases hx with hx | hx <;> rw [hx] <;> rfl)
          have hob := H.obj i
          rcases hx with hx | hx
          · rw [hx] at hob
            obtain ⟨A, c2, hb2, hob⟩ := hob
            rw [hb] at hb2
            cases hb2
            rcases hob with ⟨rfl, _⟩ | ⟨b', q', arr, T, e1, hh, h0, hle, hsz, hrows⟩
            · simp at hk
            · simp at e1
              obtain ⟨rfl, rfl⟩ := e1
              obtain ⟨us, h1, h2, h3⟩ := hrows k x hk
              exact hand_elem (k := k) (RepE.mono (fun _ _ => rfl) H.hok h2) (.inr (H.own i b (by unfold own; rw [hx, hb]; simp [ownB]; omega))) fun j u hj => by
                simp [World.cell?, hh, h3 j u hj]
          · rw [hx] at hob
            obtain ⟨A, c2, hb2, hl, hrow⟩ := hob
            simp at hb2
            rw [hb] at hb2
            cases hb2
            rcases hrow with rfl | ⟨b', q', e1, hok, hrow⟩
            · simp at hk
            · simp at e1
              obtain ⟨rfl, rfl⟩ := e1
              obtain ⟨us, h1, h2, h3⟩ := hrow k x hk
              exact hand_elem (k := k) (RepE.mono (fun _ _ => rfl) H.hok h2) (.inl (H.hok _ hok)) fun j u hj => h3 j u hj
      rcases H.froze i with h1 | ⟨t, xs, h1, h2⟩
      · cases hm : m.getD i .dead <;> rw [hm] at hr h1 <;> first | (cases hr; done) | skip
        · exact key _ _ (.inl h1) hr
        · exact key _ _ (.inr h1) hr
      · rw [h1] at hr
        exact key t xs (.inr h2) hr
    case rptr cs =>
      obtain ⟨cs', h1, hr⟩ := bind_run1 (x := mapR (pureC d) cs) hr
      obtain rfl := ret_run1 hr
      cases hv with
      | rptr _ b o us hb hl hu h =>
        have hd := hand_list (β0 := β0) H ih cs cs' us h1 (by
          rcases hL with hL | ⟨L, h3, h4⟩
          · exact .inl hL
          · exact .inr ⟨L, h3, h4⟩) ⟨hl, h⟩
        exact .rptr _ b o us (hb.imp (H.hok b) (H.hrd b)) hd.1 hu hd.2
    case fn f cs =>
      obtain ⟨cs', h1, hr⟩ := bind_run1 (x := mapR (pureC d) cs) hr
      obtain rfl := ret_run1 hr
      cases hv with
      | fn _ _ us hl h =>
        have hd := hand_list (β0 := β0) H ih cs cs' us h1 (by
          rcases hL with hL | ⟨L, h3, h4⟩
          · exact .inl hL
          · exact .inr ⟨L, h3, h4⟩) ⟨hl, h⟩
        exact .fn f cs' us hd.1 hd.2

theorem hand_V (H : Hand w ok rd β m m' al okx rdx Lp) {v v' : V} {cv : Value} (hr : (pureV v).run1 m = some v') (hL : Reach m Lp rowsCs v.cells) (hv : RelV w ok rd β (kds m') al v cv) : RelV w okx rdx β0 noKd noAl v' cv := by
  cases v with
  | tup vs => cases hr
  | one c =>
    obtain ⟨c', h1, hr⟩ := bind_run1 (x := pureC 6 c) hr
    obtain rfl := ret_run1 hr
    cases hv with
    | one _ _ h =>
      exact .one _ _ (hand_pure H 6 c c' cv h1 hL.cat.1 h)
  | agg cs =>
    obtain ⟨cs', h1, hr⟩ := bind_run1 (x := mapR (pureC 6) cs) hr
    obtain rfl := ret_run1 hr
    cases hv with
    | agg _ us hl h =>
      have := hand_list (β0 := β0) H (hand_pure H 6) cs cs' us h1 hL ⟨hl, h⟩
      exact .agg cs' us this.1 this.2

theorem Reach.vs {v : V} {r : List V} (h : Reach m Lp rowsVs (v :: r)) : Reach m Lp rowsCs v.cells ∧ Reach m Lp rowsVs r := by
  rcases h with h | ⟨L, h1, h2⟩
  · exact ⟨.inl h, .inl h⟩
  · obtain ⟨a, ha, h1⟩ := bind_run1 h1
    obtain ⟨b, hb, h1⟩ := bind_run1 h1
    obtain rfl := ret_run1 h1
    exact ⟨.inr ⟨a, ha, fun i hi => h2 i (by simp [hi])⟩, .inr ⟨b, hb, fun i hi => h2 i (by simp [hi])⟩⟩

theorem hand_Vs (H : Hand w ok rd β m m' al okx rdx Lp) : ∀ (vs vs' : List V) (us : List Value), (pureVs vs).run1 m = some vs' → Reach m Lp rowsVs vs → us.length = vs.length →
    (∀ (j : Nat) v u, vs[j]? = some v → us[j]? = some u → RelV w ok rd β (kds m') al v u) → vs'.length = vs.length ∧ ∀ (j : Nat) v u, vs'[j]? = some v → us[j]? = some u → RelV w okx rdx β0 noKd noAl v u
  | [], vs', us, hr, _, hl, h => by
    obtain rfl := ret_run1 hr
    exact ⟨rfl, fun j v u hj => by simp at hj⟩
  | v :: r, vs', us, hr, hL, hl, h => by
    obtain ⟨v1, h1, hr⟩ := bind_run1 hr
    obtain ⟨r1, h2, hr⟩ := bind_run1 hr
    obtain rfl := ret_run1 hr
    cases us with
    | nil => simp at hl
    | cons u us =>
      obtain ⟨e, hs⟩ := hand_Vs H r r1 us h2 hL.vs.2 (by simpa using hl) fun j v u hj hu => h (j + 1) v u (by simpa using hj) (by simpa using hu)
      refine ⟨by simp [e], fun j x y hj hy => ?_⟩
      cases j with
      | zero => simp at hj hy; subst hj; subst hy; exact hand_V H h1 hL.vs.1 (h 0 v u rfl rfl)
      | succ j => exact hs j x y (by simpa using hj) (by simpa using hy)
end
end Go.Sk

/- Calls of functions: results. -/
set_option linter.unusedSimpArgs false
set_option linter.unusedVariables false
set_option linter.unusedSectionVars false
namespace Go.Sk
open Go

theorem numbered_getD : ∀ (os : List Obj) (n : Nat) (m : List Obj) (i : Nat), (wrs m (numbered n os)).getD i .dead = if n ≤ i ∧ i < n + os.length then os.getD (i - n) .dead else m.getD i .dead
  | [], n, m, i => by simp [numbered, wrs]; omega
  | o :: r, n, m, i => by
    simp only [numbered, wrs]
    rw [numbered_getD r (n + 1) (wr m n o) i, wr_getD]
    by_cases h1 : n + 1 ≤ i ∧ i < n + 1 + r.length
    · rw [if_pos h1, if_pos (by simp; omega)]
      have : i - n = (i - (n + 1)) + 1 := by omega
      rw [this]; rfl
    · rw [if_neg h1]
      by_cases h2 : i = n
      · subst h2
        rw [if_pos rfl, if_pos (by simp)]
        simp
      · rw [if_neg h2, if_neg (by simp; omega)]

/-! ### cells that stand for themselves -/
def CV.plain : CV → Prop
  | .undef | .bool _ | .int _ _ | .str _ | .slc _ _ | .osl _ => True
  | _ => False
def CV.scal : CV → Prop
  | .undef | .bool _ | .int _ _ | .str _ => True
  | _ => False
def V.all1 (p : CV → Prop) : V → Prop
  | .one c => p c
  | .agg cs => ∀ c ∈ cs, p c
  | .tup _ => False
def V.allV (p : CV → Prop) : V → Prop
  | .tup vs => ∀ v ∈ vs, V.all1 p v
  | v => V.all1 p v

section
variable {w : World} {ok rd : Nat → Prop} {β : Nat → Value} {kd : Nat → KD} {al : Nat → Prop} {w' : World} {ok' rd' : Nat → Prop} {β' : Nat → Value} {kd' : Nat → KD} {al' : Nat → Prop}
theorem RelL.mapP {p : CV → Prop} (f : ∀ c v, p c → RelC w ok rd β kd al c v → RelC w' ok' rd' β' kd' al' c v) {cs : List CV} {us : List Value} (hp : ∀ c ∈ cs, p c) (h : RelL w ok rd β kd al cs us) : RelL w' ok' rd' β' kd' al' cs us :=
  ⟨h.1, fun j c u hj hu => f c u (hp c (List.mem_of_getElem? hj)) (h.2 j c u hj hu)⟩
theorem RelV.map1 {p : CV → Prop} (f : ∀ c v, p c → RelC w ok rd β kd al c v → RelC w' ok' rd' β' kd' al' c v) {v : V} {cv : Value} (hp : v.all1 p) (h : RelV w ok rd β kd al v cv) : RelV w' ok' rd' β' kd' al' v cv := by
  cases h with
  | one c v h => exact .one _ _ (f _ _ hp h)
  | agg cs us hl h => exact .agg cs us hl (RelL.mapP f hp ⟨hl, h⟩).2
  | tup vs us hl h => exact hp.elim
theorem RelV.mapP {p : CV → Prop} (f : ∀ c v, p c → RelC w ok rd β kd al c v → RelC w' ok' rd' β' kd' al' c v) {v : V} {cv : Value} (hp : v.allV p) (h : RelV w ok rd β kd al v cv) : RelV w' ok' rd' β' kd' al' v cv := by
  cases h with
  | one c v h => exact .one _ _ (f _ _ hp h)
  | agg cs us hl h => exact .agg cs us hl (RelL.mapP f hp ⟨hl, h⟩).2
  | tup vs us hl h => exact .tup vs us hl fun j v u hj hu => (h j v u hj hu).map1 f (hp v (List.mem_of_getElem? hj))
theorem RelC.scal {c : CV} {v : Value} (hp : c.scal) (h : RelC w ok rd β kd al c v) : RelC w' ok' rd' β' kd' al' c v := by
  cases h <;> first | exact hp.elim | constructor
end

/-! ### results as they are packed -/
def RT.noKeep : RT → Prop
  | .keep _ => False
  | .cat a b => a.noKeep ∧ b.noKeep
  | _ => True
theorem enc_plain : ∀ (t : Ty) (x : El t), ∀ c ∈ enc t x, c.plain
  | .bool, _, c, h => by simp [enc] at h; subst h; trivial
  | .int _, _, c, h => by simp [enc] at h; subst h; trivial
  | .str, _, c, h => by simp [enc] at h; subst h; trivial
  | .unit, _, c, h => by simp [enc] at h
  | .pair a b, x, c, h => by
    simp only [enc, List.mem_append] at h
    exact h.elim (enc_plain a x.1 c) (enc_plain b x.2 c)
  | .slice _, _, c, h => by simp [enc] at h; subst h; trivial
theorem enc_scal : ∀ (t : Ty) (x : El t), isFlat t = true → ∀ c ∈ enc t x, c.scal
  | .bool, _, _, c, h => by simp [enc] at h; subst h; trivial
  | .int _, _, _, c, h => by simp [enc] at h; subst h; trivial
  | .str, _, _, c, h => by simp [enc] at h; subst h; trivial
  | .unit, _, _, c, h => by simp [enc] at h
  | .pair a b, x, hf, c, h => by
    simp only [enc, List.mem_append] at h
    simp only [isFlat, Bool.and_eq_true] at hf
    exact h.elim (enc_scal a x.1 hf.1 c) (enc_scal b x.2 hf.2 c)
  | .slice _, _, hf, c, h => by simp [isFlat] at hf

theorem packRT_plain : ∀ (r : RT) (x : r.El) (n : Nat), r.noKeep → ∀ c ∈ (packRT r x n).1, c.plain
  | .ty t, x, n, _, c, h => enc_plain t x c h
  | .own t, x, n, _, c, h => by simp [packRT] at h; subst h; trivial
  | .cat a b, x, n, hk, c, h => by
    simp only [packRT, List.mem_append] at h
    exact h.elim (packRT_plain a x.1 n hk.1 c) (packRT_plain b x.2 _ hk.2 c)
  | .nothing, _, _, _, c, h => by simp [packRT] at h
  | .keep _, _, _, hk, _, _ => hk.elim
  | .map .., x, n, _, c, h => by simp [packRT] at h; subst h; trivial
theorem packRT_count : ∀ (r : RT) (x : r.El) (n : Nat), (packRT r x n).2.length = ownCount r
  | .ty t, x, n => rfl
  | .own t, x, n => rfl
  | .cat a b, x, n => by simp [packRT, ownCount, packRT_count a, packRT_count b]
  | .nothing, _, _ => rfl
  | .keep _, _, _ => rfl
  | .map .., _, _ => rfl
/-- an object that is handed back -/
def Owned (o : Obj) : Prop := (∃ t xs, o = .row t xs) ∨ ∃ kt vt g es b, o = .map kt vt g es b
theorem Owned.notGhost {o : Obj} (h : Owned o) : o.kd ≠ .ghost := by rcases h with ⟨t, xs, rfl⟩ | ⟨kt, vt, g, es, b, rfl⟩ <;> simp [Obj.kd]
theorem Owned.some {o : Obj} (h : Owned o) : o.kd ≠ .none := by rcases h with ⟨t, xs, rfl⟩ | ⟨kt, vt, g, es, b, rfl⟩ <;> simp [Obj.kd]
theorem Owned.move {o : Obj} (h : Owned o) {w : World} {ok rd : Nat → Prop} {β : Nat → Value} {kd : Nat → KD} {al : Nat → Prop} {ok' rd' : Nat → Prop} {β' : Nat → Value} {kd' : Nat → KD} {al' : Nat → Prop} {i j : Nat}
    (ho : ObjRel w ok rd β kd al i o) (hb : β' j = β i) (hk : ∀ b, ok b → ok' b) : ObjRel w ok' rd' β' kd' al' j o := by
  rcases h with ⟨t, xs, rfl⟩ | ⟨kt, vt, g, es, t, rfl⟩
  · obtain ⟨A, c, e, hob⟩ := ho
    refine ⟨A, c, by rw [hb, e], ?_⟩
    rcases hob with h | ⟨b, o, arr, T, e, hh, h0, hle, hsz, hrows⟩
    · exact .inl h
    · exact .inr ⟨b, o, arr, T, e, hh, h0, hle, hsz, hrows.mono (fun _ _ => rfl) hk⟩
  · obtain ⟨r, arr, clock, e, hh, hm⟩ := ho
    exact ⟨r, arr, clock, by rw [hb, e], hh, hm.mono (fun _ _ => rfl) hk⟩
theorem packRT_rows : ∀ (r : RT) (x : r.El) (n : Nat), ∀ o ∈ (packRT r x n).2, Owned o
  | .ty t, x, n, o, h => by simp [packRT] at h
  | .own t, x, n, o, h => by simp [packRT] at h; exact .inl ⟨t, x, h⟩
  | .map kt vt g b, x, n, o, h => by simp [packRT] at h; exact .inr ⟨kt, vt, g, x, b, h⟩
  | .cat a b, x, n, o, h => by
    simp only [packRT, List.mem_append] at h
    exact h.elim (packRT_rows a x.1 n o) (packRT_rows b x.2 _ o)
  | .nothing, _, _, o, h => by simp [packRT] at h
  | .keep _, _, _, o, h => by simp [packRT] at h
theorem packRT_flat : ∀ (r : RT) (x : r.El) (n : Nat), r.flat = true → (packRT r x n).2 = [] ∧ ∀ c ∈ (packRT r x n).1, c.scal
  | .ty t, x, n, hf => ⟨rfl, enc_scal t x hf⟩
  | .own t, x, n, hf => by cases hf
  | .cat a b, x, n, hf => by
    simp only [RT.flat, Bool.and_eq_true] at hf
    obtain ⟨h1, h2⟩ := packRT_flat a x.1 n hf.1
    have h3 := packRT_flat b x.2 (n + (packRT a x.1 n).2.length) hf.2
    refine ⟨by simp [packRT, h1] at h3 ⊢; exact h3.1, fun c h => ?_⟩
    simp only [packRT, List.mem_append] at h
    exact h.elim (h2 c) (h3.2 c)
  | .nothing, _, _, _ => ⟨rfl, fun c h => by simp [packRT] at h⟩
  | .keep _, _, _, hf => by cases hf
  | .map .., _, _, hf => by cases hf

theorem packVD_obj (d : VD) (x : d.rt.El) (n : Nat) : (packVD d x n).2 = (packRT d.rt x n).2 := by
  cases d with
  | one r => unfold packVD; simp only [VD.rt]; split <;> simp_all
  | agg r => rfl
theorem packVD_all {p : CV → Prop} (hu : p .undef) (d : VD) (x : d.rt.El) (n : Nat) (h : ∀ c ∈ (packRT d.rt x n).1, p c) : (packVD d x n).1.all1 p := by
  cases d with
  | one r =>
    have h' : ∀ c ∈ (packRT r x n).1, p c := h
    show V.all1 p (match packRT r x n with | ([c], o) => (V.one c, o) | (_, o) => (uv, o)).1
    generalize packRT r x n = q at h'
    obtain ⟨l, o⟩ := q
    match l, h' with
    | [c], h' => exact h' c (by simp)
    | [], _ => exact hu
    | _ :: _ :: _, _ => exact hu
  | agg r => exact h
theorem packVs_count : ∀ (ds : List VD) (x : ElV ds) (n : Nat), (packVs ds x n).2.length = ownCounts ds
  | [], _, _ => rfl
  | [d], x, n => by simp [packVs, ownCounts, packVD_obj, packRT_count]
  | d :: e :: r, x, n => by
    have := packVs_count (e :: r) x.2 (n + (packVD d x.1 n).2.length)
    simp only [packVs, List.length_append, this]
    rw [packVD_obj, packRT_count]
    rfl
theorem packVs_rows : ∀ (ds : List VD) (x : ElV ds) (n : Nat), ∀ o ∈ (packVs ds x n).2, Owned o
  | [], _, _, o, h => by simp [packVs] at h
  | [d], x, n, o, h => by
    simp only [packVs, packVD_obj] at h
    exact packRT_rows _ _ _ o h
  | d :: e :: r, x, n, o, h => by
    simp only [packVs, List.mem_append] at h
    rcases h with h | h
    · rw [packVD_obj] at h; exact packRT_rows _ _ _ o h
    · exact packVs_rows (e :: r) x.2 _ o h
theorem packVs_all {p : CV → Prop} (hu : p .undef) : ∀ (ds : List VD) (x : ElV ds) (n : Nat), (∀ d ∈ ds, ∀ (y : d.rt.El) (k : Nat), ∀ c ∈ (packRT d.rt y k).1, p c) → ∀ v ∈ (packVs ds x n).1, v.all1 p
  | [], _, _, _, v, hv => by simp [packVs] at hv
  | [d], x, n, h, v, hv => by
    simp [packVs] at hv
    subst hv
    exact packVD_all hu d x n (h d (by simp) _ _)
  | d :: e :: r, x, n, h, v, hv => by
    simp only [packVs, List.mem_cons] at hv
    rcases hv with rfl | hv
    · exact packVD_all hu d x.1 n (h d (by simp) _ _)
    · exact packVs_all hu (e :: r) x.2 _ (fun d hd => h d (by simp at hd ⊢; exact .inr hd)) v hv
theorem tupV_all {p : CV → Prop} {vs : List V} (h : ∀ v ∈ vs, v.all1 p) : (tupV vs).allV p := by
  unfold tupV
  split
  · rename_i v
    have := h v (by simp)
    cases v <;> first | exact this | exact this.elim
  · exact h
theorem packVs_flat : ∀ (ds : List VD) (x : ElV ds) (n : Nat), flatVals ds = true → (packVs ds x n).2 = [] ∧ (tupV (packVs ds x n).1).allV CV.scal := by
  have hf : ∀ (ds : List VD), flatVals ds = true → ∀ d ∈ ds, d.rt.flat = true := by
    intro ds
    induction ds with
    | nil => intro _ d h; simp at h
    | cons e r ih =>
      intro h d hd
      simp only [flatVals, Bool.and_eq_true] at h
      rcases List.mem_cons.1 hd with rfl | hd
      · exact h.1
      · exact ih h.2 d hd
  intro ds x n h
  refine ⟨?_, tupV_all (packVs_all trivial ds x n fun d hd y k => (packRT_flat _ y k (hf ds h d hd)).2)⟩
  have key : ∀ (ds : List VD) (x : ElV ds) (n : Nat), (∀ d ∈ ds, d.rt.flat = true) → (packVs ds x n).2 = [] := by
    intro ds
    induction ds with
    | nil => intro _ _ _; rfl
    | cons d r ih =>
      intro x n h
      cases r with
      | nil => simp only [packVs, packVD_obj]; exact (packRT_flat _ _ _ (h d (by simp))).1
      | cons e r =>
        simp only [packVs]
        rw [packVD_obj, (packRT_flat _ _ _ (h d (by simp))).1, ih _ _ fun d hd => h d (by simp at hd ⊢; exact .inr hd)]
        rfl
  exact key ds x n (hf ds h)

theorem rtCells_noKeep : ∀ (own : Bool) (l : List (Option Ty)) (r : RT), rtCells own l = some r → r.noKeep
  | _, [], r, h => by simp [rtCells] at h; subst h; trivial
  | own, some t :: l, r, h => by
    simp only [rtCells] at h
    split at h
    · rename_i q hq
      simp at h
      subst h
      refine ⟨?_, rtCells_noKeep own l q hq⟩
      split <;> trivial
    · cases h
  | _, none :: _, r, h => by cases h
theorem rtOf_noKeep {P : Program} {own : Bool} {t : TypeId} {d : VD} (h : rtOf P own t = some d) : d.rt.noKeep := by
  unfold rtOf at h
  split at h
  · split at h
    · cases ht : tyAt P t with
      | none => rw [ht] at h; cases h
      | some c => rw [ht] at h; simp at h; subst h; trivial
    · split at h
      · split at h
        · simp at h; subst h; trivial
        · cases hc : rtCells true (cellTys P 12 t) with
          | none => rw [hc] at h; cases h
          | some q => rw [hc] at h; simp at h; subst h; exact rtCells_noKeep _ _ q hc
      · cases h
  · split at h
    · simp at h; subst h; trivial
    · simp at h; subst h; trivial
    · unfold rtMap at h
      split at h
      · split at h
        · simp at h; subst h; trivial
        · cases h
      · cases h
    · cases h
  · cases h
theorem rtsOf_noKeep {P : Program} {own : Bool} : ∀ (ts : List TypeId) (ds : List VD), rtsOf P own ts = some ds → ∀ d ∈ ds, d.rt.noKeep
  | [], ds, h, d, hd => by simp [rtsOf] at h; subst h; simp at hd
  | t :: r, ds, h, d, hd => by
    simp only [rtsOf] at h
    split at h
    · rename_i e es h1 h2
      simp at h
      subst h
      rcases List.mem_cons.1 hd with rfl | hd
      · exact rtOf_noKeep h1
      · exact rtsOf_noKeep r es h2 d hd
    · cases h

/-! ### what a function is to do -/
def FnSpec0 (P : Program) (g : FuncId) (args : List V) (ds : List VD) (x : ElV ds) : Prop :=
  ∀ (w : World) (ok rd : Nat → Prop) (β : Nat → Value) (us : Array Value), (∀ b, ok b → b < w.heap.size) → (∀ b, rd b → b < w.heap.size) → us.size = args.length →
    (∀ (j : Nat) v u, args[j]? = some v → us.toList[j]? = some u → RelV w ok rd β noKd noAl v u) →
    Calls P g us w fun e w' => ∃ v ok', e = .returned v ∧ ∀ id, ∃ β',
      Inv ⟨w, ok, fun _ => False, rd, undef⟩ [] (wrs [] (numbered id (packVs ds x id).2)) (fun i => id ≤ i ∧ i < id + ownCounts ds) #[] w' β' ok' ∧
      RelV w' ok' rd β' (kds (wrs [] (numbered id (packVs ds x id).2))) (fun i => id ≤ i ∧ i < id + ownCounts ds) (tupV (packVs ds x id).1) v

section
variable {P : Program} {X : Fr} {env : List V} {mem : List Obj} {al : Nat → Prop} {tmps : Array Value} {w : World} {β : Nat → Value} {ok : Nat → Prop}

theorem row_rep {rd : Nat → Prop} {kd : Nat → KD} {okx : Nat → Prop} {i : Nat} {t : Ty} {xs : List (El t)} (h : ObjRel w ok rd β kd al i (.row t xs)) (hok : ∀ b, ok b → okx b) (ho : ∀ b, ownB (.row t xs) (β i) = some b → okx b) : RepE w okx (.slice t) xs [β i] := by
  obtain ⟨A, c, hb, h⟩ := h
  rcases h with ⟨rfl, rfl⟩ | ⟨b, o, arr, T, rfl, hh, h0, hle, hsz, hrows⟩
  · exact ⟨A, 0, by rw [hb], Nat.le_refl _, .inl rfl⟩
  · refine ⟨_, c, by rw [hb], hle, .inr ⟨b, o, rfl, ho b (by rw [hb]; simp [ownB]; omega), fun k x hk => ?_⟩⟩
    obtain ⟨us, h1, h2, h3⟩ := hrows k x hk
    exact ⟨us, h1, RepE.mono (fun _ _ => rfl) hok h2, fun j u hj => by simp [World.cell?, hh, h3 j u hj]⟩

/-- the results, where nothing of them is data in memory -/
theorem flat_back (h : Inv X env mem al tmps w β ok) {okx rdx : Nat → Prop} {mem2 : List Obj} {al2 : Nat → Prop} {w' : World} {β2 : Nat → Value} {ok2 : Nat → Prop} (h2 : Inv ⟨w, okx, fun _ => False, rdx, undef⟩ [] mem2 al2 #[] w' β2 ok2)
    {v : V} {cv : Value} {kd : Nat → KD} (hp : v.allV CV.scal) (hv : RelV w' ok2 rdx β2 kd al2 v cv) {new : Nat → Prop} :
    Inv X env mem (fun i => al i ∨ new i) tmps w' β ok ∧ RelV w' ok X.rd β (kds mem) (fun i => al i ∨ new i) v cv := by
  have key := h.update (mem' := mem) (al' := fun i => al i ∨ new i) (β' := β) (ok' := ok) (w' := w') (fun _ => False) (fun _ h => .inl h) (fun _ h => h.elim) (fun _ _ => rfl) (fun _ _ => rfl) (fun _ h => h.elim) (fun _ h => h.elim) (fun b hb _ => h2.keep b hb (fun h => h)) h2.grow
    (fun _ h => h) (fun _ h => .inl h) (fun _ _ h => h.elim) (fun _ _ h => h.elim) (fun _ _ _ h => h.elim) (fun _ _ h => h.elim) h2.os h2.out h2.tape
  exact ⟨key.2, hv.mapP (fun c v hc h => h.scal hc) hp⟩

/-- the results, otherwise -/
theorem rows_back (h : Inv X env mem al tmps w β ok) {rdx : Nat → Prop} {id : Nat} {os : List Obj} (hid : ∀ j, id ≤ j → j < id + os.length → ¬ al j) (hos : ∀ o ∈ os, Owned o) {w' : World} {β2 : Nat → Value} {ok2 : Nat → Prop}
    (h2 : Inv ⟨w, ok, fun _ => False, rdx, undef⟩ [] (wrs [] (numbered id os)) (fun i => id ≤ i ∧ i < id + os.length) #[] w' β2 ok2)
    {v : V} {cv : Value} (hp : v.allV CV.plain) (hv : RelV w' ok2 rdx β2 (kds (wrs [] (numbered id os))) (fun i => id ≤ i ∧ i < id + os.length) v cv) :
    ∃ β' ok', Inv X env (wrs mem (numbered id os)) (fun i => al i ∨ (id ≤ i ∧ i < id + os.length)) tmps w' β' ok' ∧ RelV w' ok' X.rd β' (kds (wrs mem (numbered id os))) (fun i => al i ∨ (id ≤ i ∧ i < id + os.length)) v cv := by
  let S : Nat → Prop := fun i => id ≤ i ∧ i < id + os.length
  have hdec : ∀ i, S i ∨ ¬ S i := fun i => Classical.em _
  let β' : Nat → Value := fun i => if id ≤ i ∧ i < id + os.length then β2 i else β i
  have hβS : ∀ i, S i → β' i = β2 i := fun i hi => if_pos hi
  have hβn : ∀ i, ¬ S i → β' i = β i := fun i hi => if_neg hi
  have hmS : ∀ (m : List Obj) i, S i → (wrs m (numbered id os)).getD i .dead = os.getD (i - id) .dead := fun m i hi => by rw [numbered_getD, if_pos hi]
  have hmn : ∀ (m : List Obj) i, ¬ S i → (wrs m (numbered id os)).getD i .dead = m.getD i .dead := fun m i hi => by rw [numbered_getD, if_neg hi]
  have hrow : ∀ i, S i → Owned (os.getD (i - id) .dead) := fun i hi => by
    have hlt : i - id < os.length := by have := hi.1; have := hi.2; omega
    rw [List.getD_eq_getElem?_getD, List.getElem?_eq_getElem hlt]
    exact hos _ (List.getElem_mem hlt)
  have hownS : ∀ i, S i → own (wrs mem (numbered id os)) β' i = own (wrs [] (numbered id os)) β2 i := fun i hi => by unfold own; rw [hmS mem i hi, hmS [] i hi, hβS i hi]
  have hnewb : ∀ i b, own (wrs [] (numbered id os)) β2 i = some b → w.heap.size ≤ b := fun i b hb => by
    rcases Nat.lt_or_ge b w.heap.size with hlt | hge
    · exact (h2.ownOld i b hb hlt).elim
    · exact hge
  have ext2 : Ext w' ok2 rdx β2 (kds (wrs [] (numbered id os))) S w' (fun b => ok b ∨ ok2 b) β' (kds (wrs mem (numbered id os))) (fun i => al i ∨ S i) :=
    ⟨fun _ _ => rfl, fun _ _ => rfl, fun _ h => .inr h, fun i hi => .inl (by show ((wrs mem (numbered id os)).getD i .dead).kd = ((wrs [] (numbered id os)).getD i .dead).kd; rw [hmS mem i hi, hmS [] i hi]), fun i hi _ => hβS i hi, fun i hi => .inr hi⟩
  have key := h.update (mem' := wrs mem (numbered id os)) (al' := fun i => al i ∨ S i) (β' := β') (ok' := fun b => ok b ∨ ok2 b) (w' := w') S (fun _ h => .inl h) (fun _ h _ => .inr h) (fun i hi => hmn mem i hi) hβn
    (fun i hi ha => absurd ha (hid i hi.1 hi.2)) (fun i hi hg => by
      have hg : ((wrs mem (numbered id os)).getD i .dead).kd = .ghost := hg
      rw [hmS mem i hi] at hg
      exact absurd hg (hrow i hi).notGhost) (fun b hb _ => h2.keep b hb (fun h => h)) h2.grow (fun _ h => .inl h)
    (fun b hb => by
      rcases hb with hb | hb
      · exact .inl hb
      · rcases Nat.lt_or_ge b w.heap.size with hlt | hge
        · rcases h2.okOld b hb hlt with h | h
          · exact .inl h
          · exact h.elim
        · exact .inr (.inr ⟨hge, h2.okLt b hb⟩))
    (fun _ i hi => by
      have hob := h2.obj i
      rw [hmS [] i hi] at hob
      rw [hmS mem i hi]
      exact (hrow i hi).move hob (hβS i hi) fun _ h => .inr h)
    (fun i b hi hb => .inr (hnewb i b (by rw [← hownS i hi]; exact hb)))
    (fun i j b hi hj h1 h3 => h2.inj i j b (by have := hownS i hi; unfold own at this; rw [← this]; exact h1) (by have := hownS j hj; unfold own at this; rw [← this]; exact h3))
    (fun i b hi hb => by
      rw [hownS i hi] at hb
      have hge := hnewb i b hb
      rintro (h1 | h1)
      · have := h.okLt b h1; omega
      · exact h2.apart i b hb h1) h2.os h2.out h2.tape
  refine ⟨β', _, key.2, (hv.mono ext2).mapP (p := CV.plain) (fun c v hc h => ?_) hp⟩
  cases h <;> first | exact hc.elim | skip
  case undef => exact .undef _
  case bool => exact .bool _
  case int => exact .int _ _
  case str => exact .str _
  case slc => exact .slc _ _ _ _ (by assumption) (by assumption)
  case osl => exact .osl _ _ (by assumption) (by assumption) (by assumption)

/-- how many objects a call makes -/
def newCount (P : Program) (C : Cfg) (g : FuncId) : Nat := match rtsOf P (C.own g) (resTypes P g) with
  | some ds => ownCounts ds
  | none => 0

theorem call_left (C : Cfg) (h : Inv X env mem al tmps w β ok) {g : FuncId} {id : Nat} {args : List V} {us : Array Value} (hl : us.size = args.length)
    (hargs : ∀ (j : Nat) v u, args[j]? = some v → us.toList[j]? = some u → RelV w ok X.rd β (kds mem) al v u) (hid : ∀ j, id ≤ j → j < id + newCount P C g → ¬ al j) {call : CallF} {out : Out}
    (hr : (callPure P C g args id).runC call mem = some out) (hcall : ∀ (asv : List V) (ds : List VD) (x : ElV ds), call g asv [] ⟨ds, 0⟩ = some x → FnSpec0 P g asv ds x) :
    Calls P g us w fun e w' => ∃ v β' ok', e = .returned v ∧ Inv X env (wrs mem out.ws) (fun i => al i ∨ (id ≤ i ∧ i < id + newCount P C g)) tmps w' β' ok' ∧
      RelV w' ok' X.rd β' (kds (wrs mem out.ws)) (fun i => al i ∨ (id ≤ i ∧ i < id + newCount P C g)) out.v v := by
  unfold callPure at hr
  split at hr
  · cases hr
  · rename_i ds hds
    have hcnt : newCount P C g = ownCounts ds := by unfold newCount; rw [hds]
    rw [hcnt] at hid ⊢
    rw [runC_bind, runC_CF _ (CF_pureVs _)] at hr
    cases has : (pureVs args).run1 mem with
    | none => rw [has] at hr; cases hr
    | some asv =>
    rw [has, Option.bind_some, runC_bind] at hr
    let rdx : Nat → Prop := fun b => X.rd b ∨ ∃ i, own mem β i = some b
    have hrlt : ∀ b, rdx b → b < w.heap.size := by
      rintro b (hb | ⟨i, hb⟩)
      · have := h.rdLt b hb; have := h.grow; omega
      · exact ownB_lt (h.obj i) hb
    cases hfl : flatVals ds with
    | true =>
      rw [hfl] at hr
      simp only [cond, Rd.runC, Option.bind_some] at hr
      cases hx : call g asv [] ⟨ds, 0⟩ with
      | none => rw [hx] at hr; cases hr
      | some x =>
        rw [hx] at hr
        simp only [Option.bind_some, Rd.runC, Option.some.injEq] at hr
        subst hr
        let okx : Nat → Prop := fun b => ok b ∨ ∃ i, own mem β i = some b
        have hoklt : ∀ b, okx b → b < w.heap.size := by
          rintro b (hb | ⟨i, hb⟩)
          · exact h.okLt b hb
          · exact ownB_lt (h.obj i) hb
        have H : Hand w ok X.rd β mem mem al okx rdx (fun _ => True) := {
          obj := h.obj
          froze := Froze.refl _
          hok := fun _ h => .inl h
          hrd := fun _ h => .inl h
          own := fun i b hb => .inr ⟨i, hb⟩
          rows := fun i _ t xs hx => by
            have hob := h.obj i
            rcases hx with hx | hx
            · rw [hx] at hob
              exact row_rep hob (fun _ h => .inl h) fun b hb => .inr ⟨i, by unfold own; rw [hx]; exact hb⟩
            · rw [hx] at hob
              exact RepE.mono (fun _ _ => rfl) (fun _ h => .inl h) hob }
        obtain ⟨hal, hrel⟩ := hand_Vs (β0 := β) H args asv us.toList has (.inl fun _ => trivial) (by simpa using hl) hargs
        obtain ⟨hos, hsc⟩ := packVs_flat ds x id hfl
        refine Calls.mono (hcall asv ds x hx w okx rdx β us hoklt hrlt (by rw [hal]; exact hl) hrel) fun e w' he => ?_
        obtain ⟨v, ok', rfl, hres⟩ := he
        obtain ⟨β', h2, hv⟩ := hres id
        obtain ⟨a1, a2⟩ := flat_back h h2 (new := fun i => id ≤ i ∧ i < id + ownCounts ds) hsc hv
        refine ⟨v, β, ok, rfl, ?_, ?_⟩
        · rw [hos]; exact a1
        · rw [hos]; exact a2
    | false =>
      rw [hfl] at hr
      simp only [cond] at hr
      rw [runC_bind, runC_CF _ (CF_rowsVs _)] at hr
      cases hL : (rowsVs args).run1 mem with
      | none => rw [hL] at hr; cases hr
      | some L =>
      rw [hL, Option.bind_some, runC_CF _ (CF_freeze _)] at hr
      cases hws : (freeze L).run1 mem with
      | none => rw [hws] at hr; cases hr
      | some ws =>
      rw [hws, Option.bind_some] at hr
      simp only [Rd.runC] at hr
      cases hx : call g asv [] ⟨ds, 0⟩ with
      | none => rw [hx] at hr; cases hr
      | some x =>
        rw [hx] at hr
        simp only [Option.bind_some, Rd.runC, Option.some.injEq] at hr
        subst hr
        obtain ⟨ok1, ext, hI, hfz, hfr, hout⟩ := freeze_sound L mem (Froze.refl _) h hws
        have H : Hand w ok1 X.rd β mem (wrs mem ws) al ok1 rdx (fun i => i ∈ L) := {
          obj := hI.obj
          froze := hfz
          hok := fun _ h => h
          hrd := fun _ h => .inl h
          own := fun i b hb => .inr ⟨i, by
            rcases hfz i with h1 | ⟨t, xs, h1, h2⟩
            · unfold own at hb ⊢; rw [← h1]; exact hb
            · unfold own at hb; rw [h2] at hb; simp [ownB] at hb⟩
          rows := fun i hi t xs hx => by
            obtain ⟨t', xs', hx'⟩ := hfr i hi
            have hob := hI.obj i
            rcases hx with hx | hx
            · rw [hx] at hx'; cases hx'
            · rw [hx] at hob; exact hob }
        obtain ⟨hal, hrel⟩ := hand_Vs (β0 := β) H args asv us.toList has (.inr ⟨L, hL, fun _ h => h⟩) (by simpa using hl) fun j v u hj hu => (hargs j v u hj hu).mono ext
        refine Calls.mono (hcall asv ds x hx w ok1 rdx β us hI.okLt hrlt (by rw [hal]; exact hl) hrel) fun e w' he => ?_
        obtain ⟨v, ok', rfl, hres⟩ := he
        obtain ⟨β', h2, hv⟩ := hres id
        have hc := packVs_count ds x id
        rw [← hc] at h2 hv hid ⊢
        have hpl : (tupV (packVs ds x id).1).allV CV.plain := tupV_all (packVs_all trivial ds x id fun d hd y k => packRT_plain _ y k (rtsOf_noKeep _ ds hds d hd))
        obtain ⟨β3, ok3, a1, a2⟩ := rows_back hI hid (packVs_rows ds x id) h2 hpl hv
        refine ⟨v, β3, ok3, rfl, ?_, ?_⟩
        · rw [wrs_append]; exact a1
        · rw [wrs_append]; exact a2
end
end Go.Sk
