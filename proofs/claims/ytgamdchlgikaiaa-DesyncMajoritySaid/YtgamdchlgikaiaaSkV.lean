/- Regions in any order: the rule. -/
import Derived.Test.YtgamdchlgikaiaaSkU
set_option linter.unusedSimpArgs false
set_option linter.unusedVariables false
set_option linter.unusedSectionVars false
namespace Go.Sk
open Go

def alS (al0 : Nat → Prop) (f : Nat → Bool) (tr : List Rec) (j : Nat) : Prop := al0 j ∨ ∃ (k : Nat) (q : Rec), f k = true ∧ tr[k]? = some q ∧ q.id ≤ j ∧ j < q.id + q.n

section
variable {P : Program} {C : Cfg} {X : Fr}

theorem getD_false_of_true {l : Array Bool} {i : Nat} (h : l.getD i true = false) : l.getD i false = false ∧ i < l.size := by
  rw [Array.getD_eq_getD_getElem?] at h
  cases hi : l[i]? with
  | none => rw [hi] at h; simp at h
  | some b =>
    rw [hi] at h
    simp at h
    subst h
    exact ⟨by rw [Array.getD_eq_getD_getElem?, hi]; rfl, (Array.getElem?_eq_some_iff.1 hi).1⟩
theorem getD_true_of_false {l : Array Bool} {i : Nat} (h : l.getD i false = false) (hi : i < l.size) : l.getD i true = false := by
  rw [Array.getD_eq_getD_getElem?, Array.getElem?_eq_getElem hi] at h ⊢
  exact h
theorem getD_set {l : Array Bool} {i : Nat} (hi : i < l.size) (k : Nat) : (l.setIfInBounds i true).getD k false = (l.getD k false || k == i) := by
  by_cases h : k = i
  · subst h
    simp [Array.getD_eq_getD_getElem?, hi]
  · have hb : (k == i) = false := by simpa using h
    rw [hb, Bool.or_false, Array.getD_eq_getD_getElem?, Array.getD_eq_getD_getElem?, Array.getElem?_setIfInBounds_ne (fun e => h e.symm)]

theorem ready_nil {ops : Array Oper} (hedge : ∀ i o, ops[i]? = some o → ∀ e ∈ o.after.toList, Region.binds .any e = true → e.on < i) {listed : Array Bool} (hls : listed.size = ops.size) (hr : Region.ready .any ops listed = []) :
    ∀ i, i < ops.size → listed.getD i false = true := by
  intro i
  induction i using Nat.strongRecOn with
  | ind i ih =>
    intro hi
    cases hl : listed.getD i false with
    | true => rfl
    | false =>
      exfalso
      obtain ⟨o, ho⟩ : ∃ o, ops[i]? = some o := ⟨_, Array.getElem?_eq_getElem hi⟩
      have hmem : i ∈ Region.ready .any ops listed := mem_ready.2 ⟨getD_true_of_false hl (by omega), o, ho, fun e he hb => by
        have hlt := hedge i o ho e (by simpa using he) hb
        exact ih e.on hlt (by omega)⟩
      rw [hr] at hmem
      cases hmem

theorem any_wp {call : CallF} (hcall : CallOk P call) (ds : List Deferred) {ops : Array Oper} {Q : Exit → Act → World → Prop} {tr : List Rec} {s0 : St} {nx0 : Nat} (ht : trace P C call ops ops.toList nx0 s0 = some tr)
    (hord : orderOk ops.toList (tr.map (Rec.en ops)) 0 [] [] = true) {al0 : Nat → Prop} (hal0 : ∀ j, nx0 ≤ j → ¬ al0 j)
    (hQ : ∀ (tmps' : Array Value) (w' : World) (β' : Nat → Value) (ok' al' : Nat → Prop), Inv X (foldR s0 tr).env (foldR s0 tr).mem al' tmps' w' β' ok' → (∀ j, lastId nx0 tr ≤ j → ¬ al' j) → Q .normal ⟨tmps', ds⟩ w') :
    ∀ (fuel : Nat) (listed : Array Bool) (us : List Nat) (tmps : Array Value) (w : World) (β : Nat → Value) (ok : Nat → Prop), listed.size = ops.size → us.length ≤ fuel → (∀ i, listed.getD i true = false → i ∈ us) →
      Closed ops (fun j => listed.getD j false = true) → Inv X (stAt (fun j => listed.getD j false) 0 tr s0).env (stAt (fun j => listed.getD j false) 0 tr s0).mem (alS al0 (fun j => listed.getD j false) tr) tmps w β ok →
      wpAny P .any ops Q fuel listed ⟨tmps, ds⟩ w := by
  obtain ⟨hlen, hlast, hat⟩ := trace_at ops.toList nx0 s0 tr 0 ht
  obtain ⟨hpair, hedge⟩ := orderOk_spec (ops := ops) ops.toList (tr.map (Rec.en ops)) 0 [] [] (fun k => by simp) rfl rfl (fun i' hi' => absurd hi' (Nat.not_lt_zero _)) hord
  have hpairs : ∀ (a b : Nat) (ra rb : Rec), a < b → tr[a]? = some ra → tr[b]? = some rb → (∀ L, Closed ops L → L b → L a) ∨ Apart (ra.en ops) (rb.en ops) := by
    intro a b ra rb hab ha hb
    have := (hpair b (rb.en ops) (by simp [hb])).2 a (ra.en ops) hab (by simp [ha])
    simpa using this
  have hready0 : ∀ (listed : Array Bool), listed.size = ops.size → Region.ready .any ops listed = [] → ∀ i, i < ops.size → listed.getD i false = true :=
    fun listed hls hr => ready_nil (fun i o ho e he hb => by
      have := hedge i o (by rw [Array.getElem?_toList]; exact ho) e he hb
      rwa [Nat.zero_add] at this) hls hr
  have done : ∀ (listed : Array Bool) (tmps : Array Value) (w : World) (β : Nat → Value) (ok : Nat → Prop), listed.size = ops.size → Region.ready .any ops listed = [] →
      Inv X (stAt (fun j => listed.getD j false) 0 tr s0).env (stAt (fun j => listed.getD j false) 0 tr s0).mem (alS al0 (fun j => listed.getD j false) tr) tmps w β ok → Q .normal ⟨tmps, ds⟩ w := by
    intro listed tmps w β ok hls hr hI
    rw [stAt_all _ tr 0 s0 (fun k hk => by rw [Nat.zero_add]; exact hready0 listed hls hr k (by rw [hlen] at hk; simpa using hk))] at hI
    refine hQ tmps w β ok _ hI fun j hj hx => ?_
    rcases hx with hx | ⟨k, q, _, hq, h1, h2⟩
    · exact hal0 j (by omega) hx
    · have := (hat k q hq).2.2.2.1
      omega
  intro fuel
  induction fuel with
  | zero =>
    intro listed us tmps w β ok hls hus hin hcl hI
    have hr : Region.ready .any ops listed = [] := by
      cases hr : Region.ready .any ops listed with
      | nil => rfl
      | cons i r =>
        have hm : i ∈ Region.ready .any ops listed := by rw [hr]; simp
        have := hin i (mem_ready.1 hm).1
        have hu : us = [] := List.eq_nil_of_length_eq_zero (by omega)
        rw [hu] at this
        cases this
    exact ⟨hr, done listed tmps w β ok hls hr hI⟩
  | succ fuel ih =>
    intro listed us tmps w β ok hls hus hin hcl hI
    refine ⟨fun hr => done listed tmps w β ok hls hr hI, fun i hi => ?_⟩
    obtain ⟨hun, o, ho, hall⟩ := mem_ready.1 hi
    obtain ⟨hfi, hils⟩ := getD_false_of_true hun
    have hitr : i < tr.length := by rw [hlen]; simp; omega
    obtain ⟨r, hri⟩ : ∃ r, tr[i]? = some r := ⟨_, List.getElem?_eq_getElem hitr⟩
    obtain ⟨hro, hAt, hid0, hidl, hidn⟩ := hat i r hri
    have hro' : r.o = o := by
      rw [Array.getElem?_toList, ho] at hro
      exact (Option.some.inj hro).symm
    have hclL : Closed ops (fun j => listed.getD j false = true ∨ j = i) := by
      intro j oj hj hL e he hb
      rcases hL with hL | rfl
      · exact .inl (hcl j oj hj hL e he hb)
      · rw [ho] at hj
        cases hj
        exact .inl (hall e (by simpa using he) hb)
    have hA : ∀ k q, k < i → tr[k]? = some q → listed.getD k false = false → Apart (q.en ops) (r.en ops) := by
      intro k q hk hq hf
      rcases hpairs k i q r hk hq hri with h | h
      · rcases h _ hclL (.inr rfl) with h1 | h1
        · rw [hf] at h1; cases h1
        · omega
      · exact h
    have hB : ∀ k q, i < k → tr[k]? = some q → listed.getD k false = true → Apart (r.en ops) (q.en ops) := by
      intro k q hk hq hf
      rcases hpairs i k r q hk hri hq with h | h
      · have := h _ hcl hf
        rw [hfi] at this
        cases this
      · exact h
    have hAt' : At P C call ops (stAt (fun j => listed.getD j false) 0 tr s0) r := by
      refine hAt.move (fun t ht => ?_) fun x hx => ?_
      · refine stAt_env _ _ t tr 0 s0 s0 rfl rfl fun k q hq hne hd => ?_
        simp only [Nat.zero_add] at hne
        rcases Nat.lt_trichotomy k i with h | h | h
        · have hf : listed.getD k false = false := by
            cases hf : listed.getD k false with
            | false => rfl
            | true => rw [hf, blt_iff.2 h] at hne; exact absurd rfl hne
          exact (hA k q h hq hf).dl t (dst_spec.2 hd) ht
        · subst h
          rw [hfi] at hne
          apply hne
          cases h : Nat.blt k k with
          | false => rfl
          | true => have := blt_iff.1 h; omega
        · have hf : listed.getD k false = true := by
            cases hf : listed.getD k false with
            | true => rfl
            | false =>
              rw [hf] at hne
              exfalso; apply hne
              cases h2 : Nat.blt k i with
              | false => rfl
              | true => have := blt_iff.1 h2; omega
          exact (hB k q h hq hf).ld t ht (dst_spec.2 hd)
      · refine stAt_mem _ _ x tr 0 s0 s0 rfl fun k q hq hne hd => ?_
        simp only [Nat.zero_add] at hne
        rcases Nat.lt_trichotomy k i with h | h | h
        · have hf : listed.getD k false = false := by
            cases hf : listed.getD k false with
            | false => rfl
            | true => rw [hf, blt_iff.2 h] at hne; exact absurd rfl hne
          exact (hA k q h hq hf).wr x hd hx
        · subst h
          rw [hfi] at hne
          apply hne
          cases h : Nat.blt k k with
          | false => rfl
          | true => have := blt_iff.1 h; omega
        · have hf : listed.getD k false = true := by
            cases hf : listed.getD k false with
            | true => rfl
            | false =>
              rw [hf] at hne
              exfalso; apply hne
              cases h2 : Nat.blt k i with
              | false => rfl
              | true => have := blt_iff.1 h2; omega
          exact (hB k q h hq hf).rw x hx hd
    obtain ⟨hm1, hm2⟩ := stAt_more (f := fun j => listed.getD j false) (f' := fun j => (listed.setIfInBounds i true).getD j false) (s := s0) hri hfi (fun k => getD_set hils k) fun k q hk hq hf =>
      ⟨fun t ht hd => (hB k q hk hq hf).dd t (dst_spec.2 ht) (dst_spec.2 hd), fun x hx hd => (hB k q hk hq hf).ww x hx hd⟩
    -- the state behind it
    have next : ∀ (tmps' : Array Value) (w' : World) (β' : Nat → Value) (ok' : Nat → Prop),
        Inv X (apply1 (stAt (fun j => listed.getD j false) 0 tr s0) r).env (apply1 (stAt (fun j => listed.getD j false) 0 tr s0) r).mem (fun j => alS al0 (fun j => listed.getD j false) tr j ∨ (r.id ≤ j ∧ j < r.id + r.n)) tmps' w' β' ok' →
        wpAny P .any ops Q fuel (listed.setIfInBounds i true) ⟨tmps', ds⟩ w' := by
      intro tmps' w' β' ok' hN
      refine ih (listed.setIfInBounds i true) (us.erase i) tmps' w' β' ok' (by simp [hls]) ?_ ?_ ?_ ?_
      · rw [List.length_erase_of_mem (hin i hun)]
        omega
      · intro k hk
        have hki : k ≠ i := fun e => by
          subst e
          rw [Array.getD_eq_getD_getElem?] at hk
          simp [hils] at hk
        rw [List.mem_erase_of_ne hki]
        refine hin k ?_
        rw [Array.getD_eq_getD_getElem?, Array.getElem?_setIfInBounds_ne (fun e => hki e.symm)] at hk
        rw [Array.getD_eq_getD_getElem?]
        exact hk
      · intro j oj hj hL e he hb
        have hL' : listed.getD j false = true ∨ j = i := by
          have h2 := getD_set hils j
          rw [hL] at h2
          rcases Bool.or_eq_true .. ▸ h2.symm with h3 | h3
          · exact .inl h3
          · exact .inr (by simpa using h3)
        rcases hclL j oj hj hL' e he hb with h3 | h3
        · show (listed.setIfInBounds i true).getD e.on false = true
          rw [getD_set hils, h3]; rfl
        · show (listed.setIfInBounds i true).getD e.on false = true
          rw [getD_set hils, h3]; simp
      · have h1 := (hN.congr (mem2 := (stAt (fun j => (listed.setIfInBounds i true).getD j false) 0 tr s0).mem) hm2).2
        rw [← hm1] at h1
        refine (h1.alMono fun j hj => ?_).2
        rcases hj with (hj | ⟨k, q, h2, h3, h4⟩) | hj
        · exact .inl hj
        · replace h2 : listed.getD k false = true := h2
          refine .inr ⟨k, q, ?_, h3, h4⟩
          show (listed.setIfInBounds i true).getD k false = true
          rw [getD_set hils, h2]; rfl
        · refine .inr ⟨i, r, ?_, hri, hj⟩
          show (listed.setIfInBounds i true).getD i false = true
          rw [getD_set hils]; simp
    unfold wpOp
    simp only [ho]
    rcases hAt'.or_ with ⟨h1, h2, h3⟩ | ⟨h1, out, h2, h3, h4⟩
    · rw [hro'] at h1
      rw [if_neg (by simp [wanted_of hI h1])]
      rw [act_eta ((⟨tmps, ds⟩ : Act).put o.dst undef) (put_defers _ _ _)]
      refine next _ w β ok ?_
      have hI' := hI.putD o.dst ds (undef_rel (X := X))
      have hI2 := (hI'.alMono (al' := fun j => alS al0 (fun j => listed.getD j false) tr j ∨ (r.id ≤ j ∧ j < r.id + r.n)) fun j hj => .inl hj).2
      unfold apply1
      rw [h2, hro']
      rw [put_eq] at hI2 ⊢
      exact hI2
    · rw [hro'] at h1
      rw [if_pos (wanted_of hI h1)]
      refine .inl ?_
      rw [hro'] at h3 h4
      refine op_wp (C := C) hcall ds hI o (id := r.id) (out := out) (fun j hj hj2 hx => ?_) (runL_runC _ h4) fun tmps' w' β' ok' hN => ?_
      · replace hj2 : j < r.id + r.n := by rw [h3]; exact hj2
        rcases hx with hx | ⟨k, q, g1, g2, g3, g4⟩
        · exact hal0 j (by omega) hx
        · rcases Nat.lt_trichotomy k i with h | h | h
          · have := (hat k q g2).2.2.2.2 i r h hri
            omega
          · subst h
            replace g1 : listed.getD k false = true := g1
            rw [hfi] at g1
            cases g1
          · have := hidn k q h g2
            omega
      · refine next tmps' w' β' ok' ?_
        have e : apply1 (stAt (fun j => listed.getD j false) 0 tr s0) r = ((stAt (fun j => listed.getD j false) 0 tr s0).put o.dst out.v).write out.ws := by
          unfold apply1
          rw [h2, hro']
        rw [e, h3]
        show Inv X ((stAt (fun j => listed.getD j false) 0 tr s0).put o.dst out.v).env (wrs ((stAt (fun j => listed.getD j false) 0 tr s0).put o.dst out.v).mem out.ws) _ _ _ _ _
        rw [put_mem]
        exact hN
end
end Go.Sk
