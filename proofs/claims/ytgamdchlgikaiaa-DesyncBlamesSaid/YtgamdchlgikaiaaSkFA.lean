/- '==' of structs of scalars. -/
import Derived.Test.YtgamdchlgikaiaaSkF
import Derived.Laws.StructEq
set_option linter.unusedSimpArgs false
set_option linter.unusedVariables false
namespace Go.Sk
open Go
section
variable {P : Program} {c : Ct}
theorem rel_eqC {t : TypeId} {cs ds : List CV} {us vs : List Value} {o : Nat} {b : Bool} {d : Nat} (h : eqC P t cs[o]? ds[o]? = some b) (hc : c.L cs us) (hd : c.L ds vs) :
    ∃ u v, (part t us.toArray o).run P c.w = .ok u c.w ∧ (part t vs.toArray o).run P c.w = .ok v c.w ∧ (Op.equalIn (d + 1) t u v).run P c.w = .ok b c.w := by
  have get : ∀ {cs : List CV} {us : List Value} {x : CV}, c.L cs us → cs[o]? = some x → ∃ u, us[o]? = some u ∧ c.C x u := by
    intro cs us x hl hx
    have hlt : o < us.length := by rw [hl.1]; exact (List.getElem?_eq_some_iff.1 hx).1
    exact ⟨_, List.getElem?_eq_getElem hlt, hl.2 o x _ hx (List.getElem?_eq_getElem hlt)⟩
  have pt : ∀ {us : List Value} {u : Value}, aggAt P t = some false → us[o]? = some u → (part t us.toArray o).run P c.w = .ok u c.w := by
    intro us u hg hu
    unfold part
    simp [run_aggAt hg, hu]
  unfold eqC at h
  split at h
  · rename_i x y hx hy
    split at h
    · rename_i hu
      simp at h
      subst h
      obtain ⟨u, h1, h2⟩ := get hc hx
      obtain ⟨v, h3, h4⟩ := get hd hy
      cases h2
      cases h4
      have hg : aggAt P t = some false := by unfold aggAt; rw [hu]
      exact ⟨_, _, pt hg h1, pt hg h3, run_equalIn_bool' c.w d t _ _ hu⟩
    · cases h
  · rename_i k x l y hx hy
    split at h
    · rename_i k' p hu hp
      obtain rfl := eqKind_spec hp
      simp at h
      subst h
      obtain ⟨u, h1, h2⟩ := get hc hx
      obtain ⟨v, h3, h4⟩ := get hd hy
      cases h2
      cases h4
      have hg : aggAt P t = some false := by unfold aggAt; rw [hu]
      exact ⟨_, _, pt hg h1, pt hg h3, run_equalIn_int c.w d t _ _ _ _ hu⟩
    · cases h
  · rename_i x y hx hy
    split at h
    · rename_i hu
      simp at h
      subst h
      obtain ⟨u, h1, h2⟩ := get hc hx
      obtain ⟨v, h3, h4⟩ := get hd hy
      cases h2
      cases h4
      have hg : aggAt P t = some false := by unfold aggAt; rw [hu]
      exact ⟨_, _, pt hg h1, pt hg h3, run_equalIn_string c.w d t _ _ hu⟩
    · cases h
  · cases h
theorem rel_eqF {d : Nat} {cs ds : List CV} {us vs : List Value} (hc : c.L cs us) (hd : c.L ds vs) : ∀ (fs : List Field) {b : Bool}, eqF P fs cs ds = some b → (Op.eqFields (d + 1) us.toArray vs.toArray fs).run P c.w = .ok b c.w
  | [], b, h => by
    simp [eqF] at h
    subst h
    rfl
  | [f], b, h => by
    simp only [eqF] at h
    cases hn : f.name == "_" with
    | true => rw [hn] at h; cases h
    | false =>
      rw [hn] at h
      have hn' : f.name ≠ "_" := by simpa using hn
      obtain ⟨u, v, h1, h2, h3⟩ := rel_eqC (d := d) h hc hd
      simp only [Op.eqFields, if_pos hn', Sem.run_bind, h1, h2, h3, Result.andThen_ok]
      cases b <;> simp
  | f :: g :: r, b, h => by
    simp only [eqF] at h
    cases hn : f.name == "_" with
    | true => rw [hn] at h; cases h
    | false =>
      rw [hn] at h
      simp only [cond] at h
      split at h
      · rename_i x y hx hy
        simp at h
        subst h
        have hn' : f.name ≠ "_" := by simpa using hn
        obtain ⟨u, v, h1, h2, h3⟩ := rel_eqC (d := d) hx hc hd
        have ih := rel_eqF (d := d) hc hd (g :: r) hy
        rw [Op.eqFields]
        simp only [if_pos hn', Sem.run_bind, h1, h2, h3, Result.andThen_ok]
        cases x
        · simp
        · simpa using ih
      · cases h
theorem rel_binA {op : BinOp} {t : TypeId} {x y : Operand} {cs ds : List CV} {us vs : List Value} {z : CV} (h : (binA P op t cs ds).run1 c.mem = some z) (hc : c.L cs us) (hd : c.L ds vs) :
    ∃ v, (eqGuard op t x y (.agg us.toArray) (.agg vs.toArray)).run P c.w = .ok () c.w ∧ (Go.binOp op t (.agg us.toArray) (.agg vs.toArray)).run P c.w = .ok v c.w ∧ c.C z v := by
  unfold binA at h
  split at h
  · rename_i fs hu
    cases hb : (P.stoodInHeld t || P.eqGuardType P.depth t) with
    | true => rw [hb] at h; cases h
    | false =>
      rw [hb] at h
      simp only [Bool.or_eq_false_iff] at hb
      simp only [cond] at h
      have hf : P.fieldsOf t = fs := by simp [Program.fieldsOf, hu]
      have eq : ∀ b, eqF P fs.toList cs ds = some b → (Op.equalIn 10000 t (.agg us.toArray) (.agg vs.toArray)).run P c.w = .ok b c.w := fun b he => by
        rw [run_equalIn_struct (P := P) c.w 9999 t _ _ (by rw [hf]; exact hu) hb.1, hf]
        exact rel_eqF (d := 9998) hc hd fs.toList he
      split at h
      · rename_i b he
        simp [Rd.run1] at h
        subst h
        exact ⟨.bool b, run_eqGuard_agg c.w _ t x y _ _ hb.2, by rw [run_eql_struct, eq b he]; rfl, .bool b⟩
      · rename_i b he
        simp [Rd.run1] at h
        subst h
        exact ⟨.bool (!b), run_eqGuard_agg c.w _ t x y _ _ hb.2, by rw [run_neq_struct, eq b he]; rfl, .bool _⟩
      · cases h
  · cases h
end
end Go.Sk
