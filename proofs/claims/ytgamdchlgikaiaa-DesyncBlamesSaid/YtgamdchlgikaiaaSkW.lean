/- The form of a state at a cut stands for what the state stood for. -/
import Derived.Test.YtgamdchlgikaiaaSkV
import Derived.Scope
set_option linter.unusedSimpArgs false
set_option linter.unusedVariables false
set_option linter.unusedSectionVars false
namespace Go.Sk
open Go

section
variable {X : Fr} {env : List V} {mem : List Obj} {al : Nat → Prop} {tmps : Array Value} {w : World} {β : Nat → Value} {ok : Nat → Prop}

theorem ownB_cells (cs cs' : List CV) (v : Value) : ownB (.cells cs) v = ownB (.cells cs') v := by
  cases v <;> try rfl
  rename_i a
  cases a <;> rfl
/-- the same world, seen another way -/
theorem Inv.view (h : Inv X env mem al tmps w β ok) {env' : List V} {mem' : List Obj} {al' : Nat → Prop} {β' : Nat → Value} (g : Nat → Nat) (he : env'.length = env.length)
    (henv : ∀ (t : Nat) v, env'[t]? = some v → RelV w ok X.rd β' (kds mem') al' v (tmps.getD t undef)) (hobj : ∀ i, ObjRel w ok X.rd β' (kds mem') al' i (mem'.getD i .dead)) (hlen : ∀ i, kds mem' i ≠ .none → al' i)
    (hown : ∀ i b, own mem' β' i = some b → own mem β (g i) = some b) (hinj : ∀ i j b, own mem' β' i = some b → own mem' β' j = some b → g i = g j → i = j) (hgh : ∀ i, kds mem' i = .ghost → kds mem (g i) = .ghost ∧ β' i = β (g i)) : Inv X env' mem' al' tmps w β' ok :=
  { h with
    size := by rw [h.size, he]
    env := henv
    obj := hobj
    len := hlen
    inj := fun i j b h1 h2 => hinj i j b h1 h2 (h.inj _ _ b (hown i b h1) (hown j b h2))
    gh := fun i hi => by obtain ⟨h1, h2⟩ := hgh i hi; rw [h2]; exact h.gh _ h1
    apart := fun i b h1 => h.apart _ b (hown i b h1)
    apartR := fun i b h1 => h.apartR _ b (hown i b h1)
    ownOld := fun i b h1 => h.ownOld _ b (hown i b h1) }

/-! ### what is dead is forgotten -/
theorem maskEnv_spec (L : Nat) : ∀ (e : List V) (i : Nat), (maskEnv L i e).length = e.length ∧ ∀ (t : Nat) v, (maskEnv L i e)[t]? = some v → v = uv ∨ e[t]? = some v
  | [], i => ⟨rfl, fun t v h => by simp [maskEnv] at h⟩
  | x :: r, i => by
    obtain ⟨h1, h2⟩ := maskEnv_spec L r (i + 1)
    refine ⟨by simp [maskEnv, h1], fun t v h => ?_⟩
    cases t with
    | zero =>
      simp only [maskEnv, List.getElem?_cons_zero, Option.some.injEq] at h
      subst h
      cases Nat.testBit L i
      · exact .inl rfl
      · exact .inr rfl
    | succ t => exact (h2 t v (by simpa [maskEnv] using h)).imp id fun h => by simpa using h
theorem Inv.mask (h : Inv X env mem al tmps w β ok) (L : Nat) : Inv X (maskEnv L 0 env) mem al tmps w β ok := by
  obtain ⟨h1, h2⟩ := maskEnv_spec L env 0
  refine h.view (fun i => i) h1 (fun t v hv => ?_) h.obj h.len (fun _ _ h => h) (fun _ _ _ _ _ h => h) (fun _ h => ⟨h, rfl⟩)
  rcases h2 t v hv with rfl | h3
  · exact .one _ _ (.undef _)
  · exact h.env t v h3

/-! ### nil slices are rows of no element -/
/-- a cell that stayed, or became a row of its own -/
def OwnC (n : Nat) (os : List Obj) (c c' : CV) : Prop := c' = c ∨ ∃ t k, c = .nils t ∧ c' = .osl (n + k) ∧ os[k]? = some (.row t [])
theorem OwnC.shift {n m : Nat} {os os' : List Obj} {c c' : CV} (h : OwnC n os c c') (hs : ∀ (k : Nat) o, os[k]? = some o → ∃ k', n + k = m + k' ∧ os'[k']? = some o) : OwnC m os' c c' := by
  rcases h with h | ⟨t, k, h1, h2, h3⟩
  · exact .inl h
  · obtain ⟨k', h4, h5⟩ := hs k _ h3
    exact .inr ⟨t, k', h1, by rw [h2, h4], h5⟩
theorem ownCs_spec : ∀ (cs : List CV) (n : Nat), (ownCs n cs).1.length = cs.length ∧ (∀ o ∈ (ownCs n cs).2, ∃ t, o = .row t []) ∧
    ∀ (k : Nat) c c', cs[k]? = some c → (ownCs n cs).1[k]? = some c' → OwnC n (ownCs n cs).2 c c'
  | [], n => ⟨rfl, fun o h => by simp [ownCs] at h, fun k c c' h => by simp at h⟩
  | c0 :: r, n => by
    have other : ∀ c0, (∀ t, c0 ≠ .nils t) → ownCs n (c0 :: r) = (c0 :: (ownCs n r).1, (ownCs n r).2) := by
      intro c0 h
      cases c0 <;> first | rfl | exact absurd rfl (h _)
    by_cases hn : ∃ t, c0 = .nils t
    · obtain ⟨t, rfl⟩ := hn
      obtain ⟨h1, h2, h3⟩ := ownCs_spec r (n + 1)
      refine ⟨by simp [ownCs, h1], fun o ho => ?_, fun k c c' hc hc' => ?_⟩
      · simp only [ownCs, List.mem_cons] at ho
        rcases ho with rfl | ho
        · exact ⟨t, rfl⟩
        · exact h2 o ho
      · cases k with
        | zero =>
          simp [ownCs] at hc hc'
          subst hc
          subst hc'
          exact .inr ⟨t, 0, rfl, rfl, rfl⟩
        | succ k =>
          refine (h3 k c c' (by simpa using hc) (by simpa [ownCs] using hc')).shift fun k o hk => ⟨k + 1, by omega, ?_⟩
          simpa [ownCs] using hk
    · obtain ⟨h1, h2, h3⟩ := ownCs_spec r n
      rw [other c0 fun t e => hn ⟨t, e⟩]
      refine ⟨by simp [h1], h2, fun k c c' hc hc' => ?_⟩
      cases k with
      | zero =>
        simp at hc hc'
        subst hc
        subst hc'
        exact .inl rfl
      | succ k => exact h3 k c c' (by simpa using hc) (by simpa using hc')
def OwnV (n : Nat) (os : List Obj) (v v' : V) : Prop := v' = v ∨ ∃ t k, v = .one (.nils t) ∧ v' = .one (.osl (n + k)) ∧ os[k]? = some (.row t [])
theorem ownVs_spec : ∀ (vs : List V) (n : Nat), (ownVs n vs).1.length = vs.length ∧ (∀ o ∈ (ownVs n vs).2, ∃ t, o = .row t []) ∧
    ∀ (k : Nat) c c', vs[k]? = some c → (ownVs n vs).1[k]? = some c' → OwnV n (ownVs n vs).2 c c'
  | [], n => ⟨rfl, fun o h => by simp [ownVs] at h, fun k c c' h => by simp at h⟩
  | c0 :: r, n => by
    have other : ∀ c0, (∀ t, c0 ≠ .one (.nils t)) → ownVs n (c0 :: r) = (c0 :: (ownVs n r).1, (ownVs n r).2) := by
      intro c0 h
      cases c0 with
      | one c => cases c <;> first | rfl | exact absurd rfl (h _)
      | agg cs => rfl
      | tup vs => rfl
    by_cases hn : ∃ t, c0 = .one (.nils t)
    · obtain ⟨t, rfl⟩ := hn
      obtain ⟨h1, h2, h3⟩ := ownVs_spec r (n + 1)
      refine ⟨by simp [ownVs, h1], fun o ho => ?_, fun k c c' hc hc' => ?_⟩
      · simp only [ownVs, List.mem_cons] at ho
        rcases ho with rfl | ho
        · exact ⟨t, rfl⟩
        · exact h2 o ho
      · cases k with
        | zero =>
          simp [ownVs] at hc hc'
          subst hc
          subst hc'
          exact .inr ⟨t, 0, rfl, rfl, rfl⟩
        | succ k =>
          rcases h3 k c c' (by simpa using hc) (by simpa [ownVs] using hc') with h | ⟨t', k', e1, e2, e3⟩
          · exact .inl h
          · exact .inr ⟨t', k' + 1, e1, by rw [e2]; congr 2; omega, by simpa [ownVs] using e3⟩
    · obtain ⟨h1, h2, h3⟩ := ownVs_spec r n
      rw [other c0 fun t e => hn ⟨t, e⟩]
      refine ⟨by simp [h1], h2, fun k c c' hc hc' => ?_⟩
      cases k with
      | zero =>
        simp at hc hc'
        subst hc
        subst hc'
        exact .inl rfl
      | succ k => exact h3 k c c' (by simpa using hc) (by simpa using hc')
def OwnO (n : Nat) (os : List Obj) (o o' : Obj) : Prop := o' = o ∨ ∃ cs cs', o = .cells cs ∧ o' = .cells cs' ∧ cs'.length = cs.length ∧ ∀ (k : Nat) c c', cs[k]? = some c → cs'[k]? = some c' → OwnC n os c c'
theorem ownOs_spec : ∀ (m : List Obj) (n : Nat), (ownOs n m).1.length = m.length ∧ (∀ o ∈ (ownOs n m).2, ∃ t, o = .row t []) ∧
    ∀ (k : Nat) c c', m[k]? = some c → (ownOs n m).1[k]? = some c' → OwnO n (ownOs n m).2 c c'
  | [], n => ⟨rfl, fun o h => by simp [ownOs] at h, fun k c c' h => by simp at h⟩
  | c0 :: r, n => by
    have other : ∀ c0, (∀ cs, c0 ≠ .cells cs) → ownOs n (c0 :: r) = (c0 :: (ownOs n r).1, (ownOs n r).2) := by
      intro c0 h
      cases c0 <;> first | rfl | exact absurd rfl (h _)
    by_cases hn : ∃ cs, c0 = .cells cs
    · obtain ⟨cs, rfl⟩ := hn
      obtain ⟨a1, a2, a3⟩ := ownCs_spec cs n
      obtain ⟨h1, h2, h3⟩ := ownOs_spec r (n + (ownCs n cs).2.length)
      have e : ownOs n (.cells cs :: r) = (.cells (ownCs n cs).1 :: (ownOs (n + (ownCs n cs).2.length) r).1, (ownCs n cs).2 ++ (ownOs (n + (ownCs n cs).2.length) r).2) := rfl
      rw [e]
      refine ⟨by simp [h1], fun o ho => ?_, fun k c c' hc hc' => ?_⟩
      · rcases List.mem_append.1 ho with ho | ho
        · exact a2 o ho
        · exact h2 o ho
      · cases k with
        | zero =>
          simp at hc hc'
          subst hc
          subst hc'
          refine .inr ⟨cs, _, rfl, rfl, a1, fun k c c' hk hk' => (a3 k c c' hk hk').shift fun k o hk => ⟨k, rfl, ?_⟩⟩
          rw [List.getElem?_append_left (List.getElem?_eq_some_iff.1 hk).1]
          exact hk
        | succ k =>
          rcases h3 k c c' (by simpa using hc) (by simpa using hc') with h | ⟨ds, ds', e1, e2, e3, e4⟩
          · exact .inl h
          · refine .inr ⟨ds, ds', e1, e2, e3, fun k c c' hk hk' => (e4 k c c' hk hk').shift fun k o hk => ⟨(ownCs n cs).2.length + k, by omega, ?_⟩⟩
            rw [List.getElem?_append_right (by omega)]
            simpa using hk
    · obtain ⟨h1, h2, h3⟩ := ownOs_spec r n
      rw [other c0 fun t e => hn ⟨t, e⟩]
      refine ⟨by simp [h1], h2, fun k c c' hc hc' => ?_⟩
      cases k with
      | zero =>
        simp at hc hc'
        subst hc
        subst hc'
        exact .inl rfl
      | succ k => exact h3 k c c' (by simpa using hc) (by simpa using hc')

theorem Inv.ownNils (h : Inv X env mem al tmps w β ok) (hal : ∀ j, mem.length ≤ j → ¬ al j) :
    let e := (ownVs mem.length env).1
    let os := (ownVs mem.length env).2
    let m := (ownOs (mem.length + os.length) mem).1
    let q := (ownOs (mem.length + os.length) mem).2
    ∃ β' al', Inv X e (m ++ os ++ q) al' tmps w β' ok ∧ ∀ j, (m ++ os ++ q).length ≤ j → ¬ al' j := by
  intro e os m q
  obtain ⟨v1, v2, v3⟩ := ownVs_spec env mem.length
  obtain ⟨o1, o2, o3⟩ := ownOs_spec mem (mem.length + os.length)
  have hml : m.length = mem.length := o1
  let β' : Nat → Value := fun i => if i < mem.length then β i else .slice none 0 0
  let al' : Nat → Prop := fun i => al i ∨ (mem.length ≤ i ∧ i < mem.length + os.length + q.length)
  have hlow : ∀ i, i < mem.length → (m ++ os ++ q).getD i .dead = m.getD i .dead := fun i hi => by
    rw [List.append_assoc, List.getD_eq_getElem?_getD, List.getD_eq_getElem?_getD, List.getElem?_append_left (by omega)]
  have hrow : ∀ i, mem.length ≤ i → i < mem.length + os.length + q.length → ∃ t, (m ++ os ++ q).getD i .dead = .row t [] := fun i h1 h2 => by
    rw [List.append_assoc, List.getD_eq_getElem?_getD, List.getElem?_append_right (by omega)]
    have hlt : i - m.length < (os ++ q).length := by simp; omega
    rw [List.getElem?_eq_getElem hlt]
    have hmem := List.getElem_mem hlt
    rcases List.mem_append.1 hmem with hm | hm
    · exact v2 _ hm
    · exact o2 _ hm
  have hhigh : ∀ i, mem.length + os.length + q.length ≤ i → (m ++ os ++ q).getD i .dead = .dead := fun i hi => by
    rw [List.getD_eq_getElem?_getD, List.getElem?_eq_none (by simp; omega)]
    rfl
  have hlt_of : ∀ i, al i → i < mem.length := fun i hi => by
    rcases Nat.lt_or_ge i mem.length with h1 | h1
    · exact h1
    · exact absurd hi (hal i h1)
  have hkd : ∀ i, i < mem.length → (m.getD i .dead).kd = (mem.getD i .dead).kd := fun i hi => by
    have hx : mem[i]? = some mem[i] := List.getElem?_eq_getElem hi
    have hy : m[i]? = some (m[i]'(by omega)) := List.getElem?_eq_getElem (by omega)
    rw [List.getD_eq_getElem?_getD, List.getD_eq_getElem?_getD, hx, hy]
    rcases o3 i _ _ hx hy with h | ⟨cs, cs', e1, e2, _⟩
    · simp [h]
    · simp only [Option.getD_some]; rw [e1, e2]; rfl
  have ext : Ext w ok X.rd β (kds mem) al w ok β' (kds (m ++ os ++ q)) al' :=
    ⟨fun _ _ => rfl, fun _ _ => rfl, fun _ h => h, fun i hi => .inl (by show ((m ++ os ++ q).getD i .dead).kd = _; rw [hlow i (hlt_of i hi), hkd i (hlt_of i hi)]), fun i hi _ => if_pos (hlt_of i hi), fun i hi => .inl hi⟩
  have nil : ∀ i, mem.length ≤ i → i < mem.length + os.length + q.length → RelC w ok X.rd β' (kds (m ++ os ++ q)) al' (.osl i) (.slice none 0 0) := fun i h1 h2 =>
    .osl i _ (.inr ⟨h1, h2⟩) (fun _ => by show _ = (if i < mem.length then β i else .slice none 0 0); rw [if_neg (by omega)]) rfl
  have hcell : ∀ (n : Nat) (os' : List Obj), (∀ (k : Nat) o, os'[k]? = some o → mem.length ≤ n + k ∧ n + k < mem.length + os.length + q.length) → ∀ c c' v, OwnC n os' c c' → RelC w ok X.rd β (kds mem) al c v → RelC w ok X.rd β' (kds (m ++ os ++ q)) al' c' v := by
    intro n os' hr c c' v ho hv
    rcases ho with rfl | ⟨t, k, rfl, rfl, hk⟩
    · exact hv.mono ext
    · cases hv
      obtain ⟨h1, h2⟩ := hr k _ hk
      exact nil _ h1 h2
  have lt : ∀ {l : List Obj} {k : Nat} {o : Obj}, l[k]? = some o → k < l.length := fun h => (List.getElem?_eq_some_iff.1 h).1
  refine ⟨β', al', h.view (fun i => i) v1 (fun t v hv => ?_) (fun i => ?_) (fun i hi => ?_) (fun i b hb => ?_) (fun _ _ _ _ _ h => h) (fun i hi => by
    have hi : ((m ++ os ++ q).getD i .dead).kd = .ghost := hi
    by_cases h1 : i < mem.length
    · rw [hlow i h1, hkd i h1] at hi
      exact ⟨hi, if_pos h1⟩
    · by_cases h2 : i < mem.length + os.length + q.length
      · obtain ⟨t, ht⟩ := hrow i (by omega) h2
        rw [ht] at hi; cases hi
      · rw [hhigh i (by omega)] at hi; cases hi), fun j hj hx => ?_⟩
  · have htl : t < env.length := by rw [← v1]; exact (List.getElem?_eq_some_iff.1 hv).1
    have hx : env[t]? = some env[t] := List.getElem?_eq_getElem htl
    rcases v3 t _ v hx hv with rfl | ⟨ty, k, e1, rfl, e3⟩
    · exact (h.env t _ hx).mono ext
    · have := h.env t _ hx
      rw [e1] at this
      have h2 := this.one'
      cases hq : tmps.getD t undef with
      | slice A l c =>
        rw [hq] at h2
        cases h2
        have := lt e3
        exact .one _ _ (nil _ (by omega) (by show _ < mem.length + os.length + q.length; have : k < os.length := lt e3; omega))
      | _ => rw [hq] at h2; cases h2
  · by_cases hi : i < mem.length
    · rw [hlow i hi]
      have hx : mem[i]? = some mem[i] := List.getElem?_eq_getElem hi
      have hy : m[i]? = some (m[i]'(by omega)) := List.getElem?_eq_getElem (by omega)
      have hob := h.obj i
      have hbi : β' i = β i := if_pos hi
      rcases o3 i _ _ hx hy with he | ⟨cs, cs', e1, e2, e3, e4⟩
      · have : m.getD i .dead = mem.getD i .dead := by rw [List.getD_eq_getElem?_getD, List.getD_eq_getElem?_getD, hx, hy, he]
        rw [this]
        exact ObjRel.mono ext hbi (fun _ _ => rfl) hob
      · have f1 : mem.getD i .dead = .cells cs := by rw [List.getD_eq_getElem?_getD, hx, Option.getD_some, e1]
        have f2 : m.getD i .dead = .cells cs' := by rw [List.getD_eq_getElem?_getD, hy, Option.getD_some, e2]
        rw [f1] at hob
        rw [f2]
        obtain ⟨b, us, T, g1, g2, g3⟩ := hob
        refine ⟨b, us, T, by rw [hbi, g1], g2, by rw [g3.1, e3], fun k c u hc hu => ?_⟩
        have hkl : k < cs.length := by rw [← e3]; exact (List.getElem?_eq_some_iff.1 hc).1
        have hck : cs[k]? = some cs[k] := List.getElem?_eq_getElem hkl
        exact hcell _ _ (fun k o hk => ⟨by omega, by have : k < q.length := lt hk; omega⟩) _ _ u (e4 k _ c hck hc) (g3.2 k _ u hck hu)
    · by_cases hi2 : i < mem.length + os.length + q.length
      · obtain ⟨t, ht⟩ := hrow i (by omega) hi2
        rw [ht]
        exact ⟨none, 0, if_neg hi, .inl ⟨rfl, rfl⟩⟩
      · rw [hhigh i (by omega)]
        trivial
  · by_cases hi2 : i < mem.length
    · refine .inl (h.len i ?_)
      have : kds (m ++ os ++ q) i = (mem.getD i .dead).kd := by show ((m ++ os ++ q).getD i .dead).kd = _; rw [hlow i hi2, hkd i hi2]
      rwa [this] at hi
    · by_cases hi3 : i < mem.length + os.length + q.length
      · exact .inr ⟨by omega, hi3⟩
      · exfalso
        apply hi
        show ((m ++ os ++ q).getD i .dead).kd = _
        rw [hhigh i (by omega)]
        rfl
  · by_cases hi : i < mem.length
    · have hbi : β' i = β i := if_pos hi
      unfold own at hb ⊢
      rw [hlow i hi, hbi] at hb
      have hx : mem[i]? = some mem[i] := List.getElem?_eq_getElem hi
      have hy : m[i]? = some (m[i]'(by omega)) := List.getElem?_eq_getElem (by omega)
      rcases o3 i _ _ hx hy with he | ⟨cs, cs', e1, e2, e3, e4⟩
      · have : m.getD i .dead = mem.getD i .dead := by rw [List.getD_eq_getElem?_getD, List.getD_eq_getElem?_getD, hx, hy, he]
        rwa [this] at hb
      · have f1 : mem.getD i .dead = .cells cs := by rw [List.getD_eq_getElem?_getD, hx, Option.getD_some, e1]
        have f2 : m.getD i .dead = .cells cs' := by rw [List.getD_eq_getElem?_getD, hy, Option.getD_some, e2]
        rw [f2] at hb
        rw [f1, ownB_cells cs cs']
        exact hb
    · have hbi : β' i = .slice none 0 0 := if_neg hi
      unfold own at hb
      rw [hbi] at hb
      by_cases hi2 : i < mem.length + os.length + q.length
      · obtain ⟨t, ht⟩ := hrow i (by omega) hi2
        rw [ht] at hb
        simp [ownB] at hb
      · rw [hhigh i (by omega)] at hb
        simp [ownB] at hb
  · have hl : (m ++ os ++ q).length = mem.length + os.length + q.length := by simp; omega
    rw [hl] at hj
    rcases hx with hx | hx
    · exact hal j (by omega) hx
    · omega
end
end Go.Sk
