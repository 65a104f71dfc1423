/- Stores, composites and slices of the call's own, as the evaluator's. -/
import Derived.Test.YtgamdchlgikaiaaSkH
set_option linter.unusedSimpArgs false
set_option linter.unusedVariables false
set_option linter.unusedSectionVars false
namespace Go.Sk
open Go
section
variable {P : Program} {X : Fr} {env : List V} {mem : List Obj} {al : Nat → Prop} {tmps : Array Value} {w : World} {β : Nat → Value} {ok : Nat → Prop}

/-- data cells, read behind the freezing of their rows -/
theorem data_rel {m m' : List Obj} {w' : World} {ok' : Nat → Prop} (ho : ∀ i, ObjRel w' ok' X.rd β (kds m') al i (m'.getD i .dead)) (hf : Froze m m') {c c' : CV} {v : Value} (hr : (dataC c).run1 m = some c')
    (hrow : ∀ i ∈ rowsD [c], ∃ t xs, m'.getD i .dead = .frz t xs) (hv : RelC w' ok' X.rd β (kds m') al c v) : RelC w' ok' X.rd β (kds m') al c' v := by
  have frz : ∀ i t xs, m'.getD i .dead = .frz t xs → m.getD i .dead = .row t xs ∨ m.getD i .dead = .frz t xs := by
    intro i t xs h
    rcases hf i with h1 | ⟨t', xs', h1, h2⟩
    · right; rw [← h1, h]
    · left; rw [h] at h2; cases h2; exact h1
  cases c <;> simp only [dataC, Rd.run1_fail, Rd.run1_ret, Option.some.injEq] at hr <;> try (cases hr; done)
  case osl i =>
    obtain ⟨t, xs, hx⟩ := hrow i (by simp [rowsD])
    simp only [Rd.run1_get] at hr
    have hc' : c' = .slc t xs := by
      rcases frz i t xs hx with h1 | h1 <;> rw [h1] at hr <;> simpa using (ret_run1 hr).symm
    subst hc'
    rw [hv.osl_inv (by show (m'.getD i .dead).kd ≠ _; rw [hx]; simp [Obj.kd])]
    have hob := ho i
    rw [hx] at hob
    obtain ⟨A, c, hb, hl, hr'⟩ := hob
    simp at hb
    rw [hb]
    exact .slc t xs A c hl hr'
  case ovw i o n =>
    obtain ⟨t, xs, hx⟩ := hrow i (by simp [rowsD])
    simp only [Rd.run1_get] at hr
    have hc' : o + n ≤ xs.length ∧ c' = .slc t ((xs.drop o).take n) := by
      rcases frz i t xs hx with h1 | h1 <;> rw [h1] at hr
      · obtain ⟨h2, h3⟩ := guard_run1 (x := Rd.ret (CV.slc t ((xs.drop o).take n))) hr
        exact ⟨by simpa using h2, (ret_run1 h3).symm⟩
      · obtain ⟨h2, h3⟩ := guard_run1 (x := Rd.ret (CV.slc t ((xs.drop o).take n))) hr
        exact ⟨by simpa using h2, (ret_run1 h3).symm⟩
    obtain ⟨hle, rfl⟩ := hc'
    obtain ⟨A, n', cp, A', hb, rfl, hcp, hA⟩ : ∃ A n' c A', β i = .slice A n' c ∧ v = .slice A' n (c - o) ∧ o + n ≤ c ∧ (∀ b q, A = some ⟨b, q, none⟩ → c ≠ o → A' = some ⟨b, q + o * t.size, none⟩) := by
      cases hv with
      | ovw _ _ _ _ hi hp h1 => exact hp t (by show (m'.getD i .dead).kd = _; rw [hx]; rfl)
    have hob := ho i
    rw [hx] at hob
    obtain ⟨A2, c, hb2, hl, hr'⟩ := hob
    simp at hb2
    rw [hb] at hb2
    cases hb2
    have hlen : ((xs.drop o).take n).length = n := by simp; omega
    have := RelC.slc (w := w') (ok := ok') (rd := X.rd) (β := β) (kd := kds m') (al := al) t ((xs.drop o).take n) A' (cp - o) (by rw [hlen]; omega) ?_
    · rw [hlen] at this; exact this
    · rcases hr' with rfl | ⟨b, q, rfl, hok, hr'⟩
      · exact .inl (by simp)
      · by_cases hn : n = 0
        · exact .inl (by simp [hn])
        · refine .inr ⟨b, q + o * t.size, hA b q rfl (by omega), hok, fun k x hk => ?_⟩
          have hk' : xs[o + k]? = some x := by
            rw [List.getElem?_take] at hk
            split at hk
            · rwa [List.getElem?_drop] at hk
            · cases hk
          obtain ⟨us, h1, h2, h3⟩ := hr' _ _ hk'
          exact ⟨us, h1, h2, fun j u hj => by have := h3 j u hj; rw [Nat.add_mul] at this; simpa [Nat.add_assoc] using this⟩
  all_goals (subst hr; exact hv)

theorem data_rels {m m' : List Obj} {w' : World} {ok' : Nat → Prop} (ho : ∀ i, ObjRel w' ok' X.rd β (kds m') al i (m'.getD i .dead)) (hf : Froze m m') : ∀ {cs cs' : List CV} {us : List Value}, (dataCs cs).run1 m = some cs' →
    (∀ i ∈ rowsD cs, ∃ t xs, m'.getD i .dead = .frz t xs) → RelL w' ok' X.rd β (kds m') al cs us → RelL w' ok' X.rd β (kds m') al cs' us
  | [], cs', us, hr, _, hl => by
    obtain rfl := ret_run1 hr
    exact hl
  | c :: r, cs', us, hr, hrow, hl => by
    obtain ⟨c1, h1, hr⟩ := bind_run1 hr
    obtain ⟨r1, h2, hr⟩ := bind_run1 hr
    obtain rfl := ret_run1 hr
    obtain ⟨v, q, rfl, hc, hq⟩ := hl.head
    have hsub : ∀ i, (i ∈ rowsD [c] ∨ i ∈ rowsD r) → i ∈ rowsD (c :: r) := by
      intro i hi
      cases c <;> simp_all [rowsD]
    exact .cons (data_rel ho hf h1 (fun i hi => hrow i (hsub i (.inl hi))) hc) (data_rels ho hf h2 (fun i hi => hrow i (hsub i (.inr hi))) hq)

theorem dataC_one {m : List Obj} {c c' : CV} (hr : (dataC c).run1 m = some c') : c' ≠ .undef := by
  cases c <;> simp only [dataC, Rd.run1_fail, Rd.run1_ret, Option.some.injEq, Rd.run1_get] at hr <;> try (cases hr; done)
  all_goals first
    | (subst hr; simp; done)
    | skip
  · rename_i i
    cases hm : m.getD i .dead <;> rw [hm] at hr <;> first | (cases hr; done) | (obtain rfl := ret_run1 hr; simp)
  · rename_i i o n
    cases hm : m.getD i .dead <;> rw [hm] at hr <;> first | (cases hr; done) | (obtain ⟨_, hr⟩ := guard_run1 hr; obtain rfl := ret_run1 hr; simp)
theorem dataCs_one {m : List Obj} : ∀ {cs cs' : List CV}, (dataCs cs).run1 m = some cs' → ∀ c ∈ cs', c ≠ .undef
  | [], cs', hr, c, hc => by obtain rfl := ret_run1 hr; simp at hc
  | c0 :: r, cs', hr, c, hc => by
    obtain ⟨c1, h1, hr⟩ := bind_run1 hr
    obtain ⟨r1, h2, hr⟩ := bind_run1 hr
    obtain rfl := ret_run1 hr
    rcases List.mem_cons.1 hc with rfl | hc
    · exact dataC_one h1
    · exact dataCs_one h2 c hc
theorem dataCs_len {m : List Obj} : ∀ {cs cs' : List CV}, (dataCs cs).run1 m = some cs' → cs'.length = cs.length
  | [], cs', hr => by obtain rfl := ret_run1 hr; rfl
  | c0 :: r, cs', hr => by
    obtain ⟨c1, h1, hr⟩ := bind_run1 hr
    obtain ⟨r1, h2, hr⟩ := bind_run1 hr
    obtain rfl := ret_run1 hr
    simp [dataCs_len h2]
theorem RelL.one {kd : Nat → KD} {cs : List CV} {us : List Value} (hl : RelL w ok X.rd β kd al cs us) (hu : ∀ c ∈ cs, c ≠ .undef) : ∀ u ∈ us, u.oneCell' = true := by
  intro u hu'
  obtain ⟨j, hj⟩ := List.getElem?_of_mem hu'
  have hjlt : j < cs.length := by
    rw [← hl.1]
    rcases Nat.lt_or_ge j us.length with h | h
    · exact h
    · rw [List.getElem?_eq_none h] at hj; cases hj
  exact (hl.2 j _ u (List.getElem?_eq_getElem hjlt) hj).one (hu _ (List.getElem_mem hjlt))
theorem RelL.splice {kd : Nat → KD} {cs new : List CV} {us vs : List Value} {o : Nat} (hl : RelL w ok X.rd β kd al cs us) (hn : RelL w ok X.rd β kd al new vs) : RelL w ok X.rd β kd al (splice cs o new) (us.take o ++ vs ++ us.drop (o + vs.length)) := by
  unfold Sk.splice
  rw [hn.1]
  exact ((hl.take o).append hn).append (hl.drop _)

theorem left_storeE (h : Inv X env mem al tmps w β ok) {t : TypeId} {a x : Operand} {new : Nat → Prop} {n i k o : Nat} (hn : sizeAt P t = some n) {vc : List CV} {cv : Value} {av : Value} (hl : RelL w ok X.rd β (kds mem) al vc cv.cells.toList) (hlen : vc.length = n)
    (hp : RelC w ok X.rd β (kds mem) al (.eptr i k o) av) {t' : Ty} {xs : List (El t')} (hm : mem.getD i .dead = .row t' xs) {e e' : El t'} (hx : xs[k]? = some e) {ncs : List CV} (hncs : (dataCs vc).run1 mem = some ncs) {ws : List (Nat × Obj)} (hws : (freeze (rowsD vc)).run1 mem = some ws)
    (hd : decAll t' (Sk.splice (enc t' e) o ncs) = some e') (hg : i ∉ rowsD vc) (hon : o + n ≤ t'.size) :
    ∃ w' ok', (Instr.storeAt t av cv).run P w = .ok () w' ∧ Inv X env (wrs mem (ws ++ [(i, .row t' (xs.set k e'))])) al tmps w' β ok' := by
  obtain ⟨ok', ext, hI, hf, hfr, hout⟩ := freeze_sound (rowsD vc) mem (Froze.refl _) h hws
  have hmi : (wrs mem ws).getD i .dead = .row t' xs := by rw [hout i hg, hm]
  have hl' := data_rels hI.obj hf hncs hfr (hl.mono ext)
  have hob := hI.obj i
  rw [hmi] at hob
  obtain ⟨A, c, hβ, hob⟩ := hob
  obtain ⟨b, q, n1, c1, hb1, hv⟩ := hp.eptr_inv t' (by show (mem.getD i .dead).kd = _; rw [hm]; rfl)
  rw [hβ] at hb1
  cases hb1
  have hk : k < xs.length := by
    rcases Nat.lt_or_ge k xs.length with h | h
    · exact h
    · rw [List.getElem?_eq_none h] at hx; cases hx
  rcases hob with ⟨rfl, _⟩ | ⟨b', q', arr, T, e1, hh, h0, hle, hsz, hrows⟩
  · simp at hx
  · simp at e1
    obtain ⟨rfl, rfl⟩ := e1
    have hvl : cv.cells.toList.length = n := by rw [hl.1, hlen]
    have hkc : k * t'.size + t'.size ≤ c * t'.size := by
      have : (k + 1) * t'.size ≤ c * t'.size := Nat.mul_le_mul_right _ (by omega)
      rwa [Nat.add_mul, Nat.one_mul] at this
    have hone := RelL.one hl' (dataCs_one hncs)
    have hsz2 : q + k * t'.size + o + cv.cells.toList.length ≤ arr.size := by omega
    have hst := run_storeVar (P := P) (w := w) (T := T) hn rfl hvl hone hh hsz2
    refine ⟨_, ok', by rw [hv]; exact hst, ?_⟩
    rw [wrs_append]
    show Inv X env (wr (wrs mem ws) i (.row t' (xs.set k e'))) al tmps _ β ok'
    have hkx : k * t'.size + t'.size ≤ xs.length * t'.size := by
      have : (k + 1) * t'.size ≤ xs.length * t'.size := Nat.mul_le_mul_right _ (by omega)
      rwa [Nat.add_mul, Nat.one_mul] at this
    refine hI.rowWrite hmi (by simp) hβ (by omega) hh hsz2 (by omega) fun arr' hs1 hs2 hs3 j y hj => ?_
    rw [List.getElem?_set] at hj
    by_cases hjk : k = j
    · subst hjk
      rw [if_pos rfl, if_pos hk] at hj
      simp at hj
      subst hj
      obtain ⟨us, hul, hre, hu⟩ := hrows k e hx
      have hsp := RelL.splice (o := o) (rel_enc (rd := X.rd) (β := β) (kd := kds (wrs mem ws)) (al := al) hre) hl'
      have hre' := rel_decAll hd hsp
      refine ⟨_, hre'.length, hre', fun j u hj => ?_⟩
      by_cases h1 : j < o
      · rw [List.append_assoc, List.getElem?_append_left (by simp; omega), List.getElem?_take, if_pos h1] at hj
        rw [hs2 _ (.inl (by omega))]
        exact hu j u hj
      · rw [List.append_assoc, List.getElem?_append_right (by simp; omega)] at hj
        have ht : (us.take o).length = o := by simp; omega
        rw [ht] at hj
        by_cases h2 : j < o + n
        · rw [List.getElem?_append_left (by omega)] at hj
          have := hs3 _ _ hj
          rw [← this]; congr 1; omega
        · rw [List.getElem?_append_right (by omega), List.getElem?_drop] at hj
          rw [hs2 _ (.inr (by omega))]
          have := hu _ _ hj
          rw [← this]; congr 1; omega
    · rw [if_neg hjk] at hj
      obtain ⟨us, hul, hre, hu⟩ := hrows j y hj
      refine ⟨us, hul, hre, fun j2 u hj2 => ?_⟩
      have hj2' : j2 < t'.size := by
        rcases Nat.lt_or_ge j2 us.length with h | h
        · omega
        · rw [List.getElem?_eq_none h] at hj2; cases hj2
      rw [hs2]
      · exact hu j2 u hj2
      · rcases Nat.lt_or_gt_of_ne hjk with h3 | h3
        · right
          have : (k + 1) * t'.size ≤ j * t'.size := Nat.mul_le_mul_right _ h3
          rw [Nat.add_mul, Nat.one_mul] at this
          omega
        · left
          have : (j + 1) * t'.size ≤ k * t'.size := Nat.mul_le_mul_right _ h3
          rw [Nat.add_mul, Nat.one_mul] at this
          omega
end
end Go.Sk
