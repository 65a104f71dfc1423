/- The form of a state at a cut: new numbers. -/
import Derived.Test.YtgamdchlgikaiaaSkW
set_option linter.unusedSimpArgs false
set_option linter.unusedVariables false
set_option linter.unusedSectionVars false
namespace Go.Sk
open Go

theorem reach_nodup (m : List Obj) : ∀ (n : Nat) (l acc : List Nat), acc.Nodup → (reach m n l acc).Nodup
  | 0, l, acc, h => h
  | n + 1, [], acc, h => h
  | n + 1, i :: r, acc, h => by
    unfold reach
    cases hb : (hasNat acc i || (m.getD i .dead).isDead) with
    | true => exact reach_nodup m n r acc h
    | false =>
      refine reach_nodup m n _ (acc ++ [i]) ?_
      simp only [Bool.or_eq_false_iff] at hb
      have hni : i ∉ acc := fun hi => by rw [hasNat_spec.2 hi] at hb; cases hb.1
      rw [List.nodup_append]
      exact ⟨h, by simp, fun a ha b hb2 => by simp at hb2; subst hb2; exact fun e => hni (e ▸ ha)⟩
theorem renOs_get (g : Nat → Option Nat) (m : List Obj) : ∀ (ids : List Nat) (k : Nat), (renOs g m ids)[k]? = (ids[k]?).map fun i => renO g (m.getD i .dead)
  | [], k => by simp [renOs]
  | i :: r, k => by
    cases k with
    | zero => simp [renOs]
    | succ k => simpa [renOs] using renOs_get g m r k
theorem renOs_len (g : Nat → Option Nat) (m : List Obj) : ∀ (ids : List Nat), (renOs g m ids).length = ids.length
  | [] => rfl
  | i :: r => by simp [renOs, renOs_len g m r]
section
variable {X : Fr} {env : List V} {mem : List Obj} {al : Nat → Prop} {tmps : Array Value} {w : World} {β : Nat → Value} {ok : Nat → Prop}

theorem Inv.renum (h : Inv X env mem al tmps w β ok) (ids : List Nat) (hnd : ids.Nodup) :
    Inv X (renVs (fun i => posOf ids i 0) env) (renOs (fun i => posOf ids i 0) mem ids) (fun k => k < ids.length) tmps w (fun k => β (ids.getD k 0)) ok := by
  let g : Nat → Option Nat := fun i => posOf ids i 0
  have hg : ∀ i j, g i = some j → ids[j]? = some i ∧ j < ids.length ∧ ids.getD j 0 = i := fun i j hij => by
    have := (posOf_spec ids i 0 j hij).2
    simp only [Nat.sub_zero] at this
    exact ⟨this, (List.getElem?_eq_some_iff.1 this).1, by rw [List.getD_eq_getElem?_getD, this]; rfl⟩
  have hmem : ∀ k, (renOs g mem ids).getD k .dead = if k < ids.length then renO g (mem.getD (ids.getD k 0) .dead) else .dead := fun k => by
    rw [List.getD_eq_getElem?_getD, renOs_get]
    split
    · rename_i hk
      have e : ids.getD k 0 = ids[k] := by rw [List.getD_eq_getElem?_getD, List.getElem?_eq_getElem hk]; rfl
      rw [e, List.getElem?_eq_getElem hk]
      rfl
    · rename_i hk
      rw [List.getElem?_eq_none (by omega)]
      rfl
  have hkd : ∀ i j, g i = some j → kds (renOs g mem ids) j = kds mem i := fun i j hij => by
    obtain ⟨h1, h2, h3⟩ := hg i j hij
    show ((renOs g mem ids).getD j .dead).kd = _
    rw [hmem, if_pos h2, renO_kd, h3]
  have rc : ∀ (d : Nat) (c : CV) (v : Value), RelC w ok X.rd β (kds mem) al c v → RelC w ok X.rd (fun k => β (ids.getD k 0)) (kds (renOs g mem ids)) (fun k => k < ids.length) (renC g d c) v := by
    intro d
    induction d with
    | zero => intro c v _; exact .undef v
    | succ d ih =>
      have ihl : ∀ (cs : List CV) (us : List Value), us.length = cs.length → (∀ (j : Nat) c u, cs[j]? = some c → us[j]? = some u → RelC w ok X.rd β (kds mem) al c u) →
          us.length = (cs.map (renC g d)).length ∧ ∀ (j : Nat) c u, (cs.map (renC g d))[j]? = some c → us[j]? = some u → RelC w ok X.rd (fun k => β (ids.getD k 0)) (kds (renOs g mem ids)) (fun k => k < ids.length) c u := by
        intro cs us hl hr
        refine ⟨by simp [hl], fun j c u hj hu => ?_⟩
        rw [List.getElem?_map] at hj
        cases hc : cs[j]? with
        | none => rw [hc] at hj; cases hj
        | some c0 =>
          rw [hc] at hj
          simp at hj
          subst hj
          exact ih c0 u (hr j c0 u hc hu)
      intro c v hv
      cases hv with
      | undef v => exact .undef v
      | bool b => exact .bool b
      | int k n => exact .int k n
      | str s => exact .str s
      | cst v h1 => exact .cst v h1
      | nils t => exact .nils t
      | slc t xs A c hc hr => exact .slc t xs A c hc hr
      | clp t xs A hr => exact .clp t xs A hr
      | nilp => exact .nilp
      | osl i v hi hp h1 =>
        show RelC _ _ _ _ _ _ (match g i with | some j => .osl j | none => .undef) v
        cases hgi : g i with
        | none => exact .undef v
        | some j =>
          obtain ⟨h2, h3, h4⟩ := hg i j hgi
          refine .osl j v h3 (fun hk => ?_) h1
          rw [hkd i j hgi] at hk
          show v = β (ids.getD j 0)
          rw [h4]
          exact hp hk
      | ovw i o n v hi hp h1 =>
        show RelC _ _ _ _ _ _ (match g i with | some j => .ovw j o n | none => .undef) v
        cases hgi : g i with
        | none => exact .undef v
        | some j =>
          obtain ⟨h2, h3, h4⟩ := hg i j hgi
          refine .ovw j o n v h3 (fun t hk => ?_) h1
          rw [hkd i j hgi] at hk
          show ∃ A n' c A', β (ids.getD j 0) = .slice A n' c ∧ _
          rw [h4]
          exact hp t hk
      | ptr i o v hi hp h1 =>
        show RelC _ _ _ _ _ _ (match g i with | some j => .ptr j o | none => .undef) v
        cases hgi : g i with
        | none => exact .undef v
        | some j =>
          obtain ⟨h2, h3, h4⟩ := hg i j hgi
          refine .ptr j o v h3 (fun hk => ?_) h1
          rw [hkd i j hgi] at hk
          show ∃ b, β (ids.getD j 0) = _ ∧ _
          rw [h4]
          exact hp hk
      | eptr i k o v hi hp h1 =>
        show RelC _ _ _ _ _ _ (match g i with | some j => .eptr j k o | none => .undef) v
        cases hgi : g i with
        | none => exact .undef v
        | some j =>
          obtain ⟨h2, h3, h4⟩ := hg i j hgi
          refine .eptr j k o v h3 (fun t hk => ?_) h1
          rw [hkd i j hgi] at hk
          show ∃ b o' n c, β (ids.getD j 0) = _ ∧ _
          rw [h4]
          exact hp t hk
      | rptr cs b o us hb hl hu hr =>
        obtain ⟨h1, h2⟩ := ihl cs us hl hr
        exact .rptr _ b o us hb h1 hu h2
      | fn f cs us hl hr =>
        obtain ⟨h1, h2⟩ := ihl cs us hl hr
        exact .fn f _ us h1 h2
  have rl : ∀ (cs : List CV) (us : List Value), RelL w ok X.rd β (kds mem) al cs us → RelL w ok X.rd (fun k => β (ids.getD k 0)) (kds (renOs g mem ids)) (fun k => k < ids.length) (renCs g cs) us := by
    intro cs us ⟨hl, hr⟩
    refine ⟨by simp [renCs, hl], fun j c u hj hu => ?_⟩
    simp only [renCs, List.getElem?_map] at hj
    cases hc : cs[j]? with
    | none => rw [hc] at hj; cases hj
    | some c0 =>
      rw [hc] at hj
      simp at hj
      subst hj
      exact rc 6 c0 u (hr j c0 u hc hu)
  refine h.view (fun k => ids.getD k 0) (renVs_len g env) (fun t v hv => ?_) (fun k => ?_) (fun k hk => ?_) (fun k b hb => ?_) (fun k k' b hb hb' e => ?_) (fun k hk => by
    have hk : ((renOs g mem ids).getD k .dead).kd = .ghost := hk
    rw [hmem] at hk
    split at hk
    · rw [renO_kd] at hk; exact ⟨hk, rfl⟩
    · cases hk)
  · rw [renVs_get] at hv
    cases ht : env[t]? with
    | none => rw [ht] at hv; cases hv
    | some v0 =>
      rw [ht] at hv
      simp at hv
      subst hv
      have := h.env t v0 ht
      cases v0 with
      | one c =>
        exact .one _ _ (rc 6 c _ this.one')
      | agg cs =>
        generalize tmps.getD t undef = u at this
        cases this with
        | agg _ us hl hr =>
          have := rl cs us ⟨hl, hr⟩
          exact .agg _ us this.1 this.2
      | tup vs => exact .one _ _ (.undef _)
  · show ObjRel _ _ _ _ _ _ k ((renOs g mem ids).getD k .dead)
    rw [hmem]
    split
    · rename_i hk
      have hob := h.obj (ids.getD k 0)
      cases hm : mem.getD (ids.getD k 0) .dead with
      | dead => trivial
      | cells cs =>
        rw [hm] at hob
        obtain ⟨b, us, T, h1, h2, h3⟩ := hob
        exact ⟨b, us, T, h1, h2, rl cs us h3⟩
      | row t xs => rw [hm] at hob; exact hob
      | frz t xs => rw [hm] at hob; exact hob
      | full t xs => rw [hm] at hob; exact hob
      | map kt vt g es b => rw [hm] at hob; exact hob
      | ghost cs =>
        rw [hm] at hob
        obtain ⟨us, h1, h3⟩ := hob
        exact ⟨us, h1, rl cs us h3⟩
    · trivial
  · have : (if k < ids.length then renO g (mem.getD (ids.getD k 0) .dead) else .dead).kd ≠ .none := by rw [← hmem]; exact hk
    by_cases hlt : k < ids.length
    · exact hlt
    · rw [if_neg hlt] at this
      exact absurd rfl this
  · have hb2 : ownB ((renOs g mem ids).getD k .dead) (β (ids.getD k 0)) = some b := hb
    rw [hmem] at hb2
    show ownB (mem.getD (ids.getD k 0) .dead) (β (ids.getD k 0)) = some b
    by_cases hlt : k < ids.length
    · rw [if_pos hlt] at hb2
      cases hm : mem.getD (ids.getD k 0) .dead <;> rw [hm] at hb2 <;> try exact hb2
      rename_i cs
      rw [ownB_cells cs (renCs g cs)]
      exact hb2
    · rw [if_neg hlt] at hb2
      simp [ownB] at hb2
  · have hlt : ∀ k, own (renOs g mem ids) (fun k => β (ids.getD k 0)) k = some b → k < ids.length := fun k hb => by
      by_cases hlt : k < ids.length
      · exact hlt
      · have hb2 : ownB ((renOs g mem ids).getD k .dead) (β (ids.getD k 0)) = some b := hb
        rw [hmem, if_neg hlt] at hb2
        simp [ownB] at hb2
    have h1 := hlt k hb
    have h2 := hlt k' hb'
    rw [List.getD_eq_getElem?_getD, List.getD_eq_getElem?_getD, List.getElem?_eq_getElem h1, List.getElem?_eq_getElem h2] at e
    exact (List.getElem_inj hnd).1 (by simpa using e)

/-- the form at a cut -/
theorem Inv.norm (h : Inv X env mem al tmps w β ok) (hal : ∀ j, mem.length ≤ j → ¬ al j) (L : Nat) :
    ∃ β' al', Inv X (norm L ⟨env, mem⟩).env (norm L ⟨env, mem⟩).mem al' tmps w β' ok ∧ ∀ j, (Sk.norm L ⟨env, mem⟩).mem.length ≤ j → ¬ al' j := by
  obtain ⟨β1, al1, h1, h2⟩ := (h.mask L).ownNils hal
  refine ⟨_, _, h1.renum (reach ((ownOs (mem.length + (ownVs mem.length (maskEnv L 0 env)).2.length) mem).1 ++ (ownVs mem.length (maskEnv L 0 env)).2 ++ (ownOs (mem.length + (ownVs mem.length (maskEnv L 0 env)).2.length) mem).2) 400 (gRoot ((ownOs (mem.length + (ownVs mem.length (maskEnv L 0 env)).2.length) mem).1 ++ (ownVs mem.length (maskEnv L 0 env)).2 ++ (ownOs (mem.length + (ownVs mem.length (maskEnv L 0 env)).2.length) mem).2) ++ idsVs (ownVs mem.length (maskEnv L 0 env)).1) []) (reach_nodup _ 400 _ [] List.nodup_nil), fun j hj => ?_⟩
  have : (Sk.norm L ⟨env, mem⟩).mem.length = (reach ((ownOs (mem.length + (ownVs mem.length (maskEnv L 0 env)).2.length) mem).1 ++ (ownVs mem.length (maskEnv L 0 env)).2 ++ (ownOs (mem.length + (ownVs mem.length (maskEnv L 0 env)).2.length) mem).2) 400 (gRoot ((ownOs (mem.length + (ownVs mem.length (maskEnv L 0 env)).2.length) mem).1 ++ (ownVs mem.length (maskEnv L 0 env)).2 ++ (ownOs (mem.length + (ownVs mem.length (maskEnv L 0 env)).2.length) mem).2) ++ idsVs (ownVs mem.length (maskEnv L 0 env)).1) []).length := renOs_len _ _ _
  rw [this] at hj
  omega
end
end Go.Sk
