/- A law's arguments, as values of codes. -/
import Derived.Test.YtgamdchlgikaiaaSkZB
import Derived.WalkKit
import Derived.ProofKit
import Derived.OpenShut
import Derived.ShutString
import Derived.ChangeOld
import Derived.Below
import Derived.SizedLaws
import Derived.Carry
import Derived.Deep.Slices
set_option linter.unusedSimpArgs false
set_option linter.unusedVariables false
set_option linter.unusedSectionVars false
namespace Go.Sk
open Go

/-- integers within their kinds; slices no longer than memory is -/
def Fits : (t : Ty) → El t → Prop
  | .bool, _ => True
  | .int k, n => k.min ≤ n ∧ n ≤ k.max
  | .str, s => s.size ≤ 9223372036854775807
  | .unit, _ => True
  | .pair a b, x => Fits a x.1 ∧ Fits b x.2
  | .slice t, xs => List.length (α := El t) xs ≤ 9223372036854775807 ∧ ∀ x ∈ (show List (El t) from xs), Fits t x

/-- the fields of a struct lie one behind another, and have cells -/
def layOk (P : Program) : Nat → TypeId → Bool
  | 0, _ => false
  | d + 1, t =>
    match P.underlying t with
    | some .bool | some (.int _) | some .string => true
    | some (.slice e) => layOk P d e && (match tyOf P d e with | some c => c.size == P.cellsOf e && decide (0 < c.size) | none => false)
    | some (.struct fs) => fieldsOk P (layOk P d) (tyOf P d) 0 fs.toList (P.cellsOf t)
    | _ => false
where
  fieldsOk (P : Program) (ok : TypeId → Bool) (ty : TypeId → Option Ty) : Nat → List Field → Nat → Bool
    | off, [], total => off == total
    | off, f :: r, total => f.offset == off && ok f.type && (match ty f.type with | some c => c.size == P.cellsOf f.type | none => false) && fieldsOk P ok ty (off + P.cellsOf f.type) r total

section
variable {H : Type} {enc : TypeId × Value → H} {P : Program} {w : World} {base : Nat} {spare : Nat → Bool} {held : Bool}

theorem list_of {α : Type} {p : Nat → α → Prop} : ∀ (n : Nat), (∀ i, i < n → ∃ x, p i x) → ∃ xs : List α, xs.length = n ∧ ∀ (k : Nat) y, xs[k]? = some y → p k y
  | 0, _ => ⟨[], rfl, by simp⟩
  | n + 1, h => by
    obtain ⟨xs, h1, h2⟩ := list_of n fun i hi => h i (by omega)
    obtain ⟨y, h3⟩ := h n (by omega)
    refine ⟨xs ++ [y], by simp [h1], fun k z hk => ?_⟩
    by_cases hlt : k < xs.length
    · rw [List.getElem?_append_left hlt] at hk
      exact h2 k z hk
    · rw [List.getElem?_append_right (by omega)] at hk
      have e : k = xs.length := by
        have := (List.getElem?_eq_some_iff.1 hk).1
        simp at this
        omega
      subst e
      simp at hk
      subst hk
      rw [h1]
      exact h3
theorem open_ty : ∀ (d : Nat) (t : TypeId) (c : Ty), layOk P d t = true → tyOf P d t = some c → ∀ (fuel : Nat) (cs : List Value) (x : DataW H × List MemPlace), DataW.trod enc P w base spare held fuel t cs = some x →
    ∃ e : El c, RepE w (fun b => b < w.heap.size) c e cs ∧ Fits c e := by
  intro d
  induction d with
  | zero => intro t c hl; cases hl
  | succ d ih =>
    intro t c hl hc fuel cs x hx
    cases fuel with
    | zero => cases hx
    | succ fuel =>
      unfold layOk at hl
      unfold tyOf at hc
      cases hu : P.underlying t with
      | none => rw [hu] at hl; cases hl
      | some D =>
        rw [hu] at hl hc
        cases D <;> simp only at hl hc <;> try (cases hl; done)
        case bool =>
          cases hc
          unfold DataW.trod at hx
          rw [hu] at hx
          simp only at hx
          split at hx <;> try (cases hx; done)
          all_goals (rename_i heq; try (cases heq; done))
          rename_i b
          exact ⟨b, rfl, trivial⟩
        case int k =>
          cases hc
          unfold DataW.trod at hx
          rw [hu] at hx
          simp only at hx
          split at hx <;> try (cases hx; done)
          all_goals (rename_i heq; try (cases heq; done))
          cases heq
          rename_i k' n
          split at hx
          · rename_i hk
            obtain ⟨rfl, hwf⟩ := hk
            refine ⟨n, rfl, ?_⟩
            simp [Lit.wf] at hwf
            exact hwf
          · cases hx
        case string =>
          cases hc
          unfold DataW.trod at hx
          rw [hu] at hx
          simp only at hx
          split at hx <;> try (cases hx; done)
          all_goals (rename_i heq; try (cases heq; done))
          rename_i s
          split at hx
          · rename_i hs
            exact ⟨s, rfl, show s.size ≤ 9223372036854775807 by simpa [maxLen] using hs⟩
          · cases hx
        case slice e =>
          cases hce : tyOf P d e with
          | none => rw [hce] at hc; cases hc
          | some ce =>
            rw [hce] at hc hl
            simp only [Option.map_some, Option.some.injEq] at hc
            subst hc
            simp only [Bool.and_eq_true, beq_iff_eq, decide_eq_true_eq] at hl
            obtain ⟨hle, hsz, hpos⟩ := hl
            rcases Go.Deep.open_slice hu hx with ⟨rfl, _⟩ | ⟨a, len, cap, m, n, D, Pl, rfl, hb, hlc, hmax, hm, _, hel⟩
            · exact ⟨[], ⟨none, 0, rfl, Nat.le_refl _, .inl rfl⟩, Nat.zero_le _, by simp⟩
            · have hlm : len ≤ m := by rw [hm]; split <;> omega
              have key : ∀ i, i < len → ∃ e' : El ce, ∃ us : List Value, us.length = ce.size ∧ RepE w (fun b => b < w.heap.size) ce e' us ∧ Fits ce e' ∧ ∀ (j : Nat) u, us[j]? = some u → w.cell? (a.add (i * ce.size + j)) = some u := by
                intro i hi
                obtain ⟨cs', h1, h2⟩ := hel i (by omega)
                obtain ⟨e', h3, h4⟩ := ih e ce hle hce n cs' _ h2
                obtain ⟨_, h5, h6⟩ := World.cells?_some h1
                refine ⟨e', cs', h3.length, h3, h4, fun j u hj => ?_⟩
                have hjl : j < P.cellsOf e := by rw [← h5]; exact (List.getElem?_eq_some_iff.1 hj).1
                have := h6 j hjl
                rw [hj, hsz] at *
                rw [← this]
                congr 1
                unfold Addr.add
                by_cases hi0 : i * P.cellsOf e = 0
                · simp [hi0]
                · by_cases hj0 : j = 0
                  · simp [hj0, hi0]
                  · have : ¬ (i * P.cellsOf e + j = 0) := by omega
                    simp [hi0, hj0, this, Nat.add_assoc]
              obtain ⟨xs, hxl, hxs⟩ : ∃ xs : List (El ce), xs.length = len ∧ ∀ (k : Nat) y, xs[k]? = some y → ∃ us : List Value, us.length = ce.size ∧ RepE w (fun b => b < w.heap.size) ce y us ∧ Fits ce y ∧ ∀ (j : Nat) u, us[j]? = some u → w.cell? (a.add (k * ce.size + j)) = some u := by
                exact list_of len key
              subst hxl
              refine ⟨xs, ⟨some a, cap, rfl, hlc, ?_⟩, by simp [maxLen] at hmax; omega, fun y hy => ?_⟩
              · by_cases h0 : xs = []
                · exact .inl h0
                · have hlen : 0 < xs.length := List.length_pos_iff.2 h0
                  obtain ⟨us, h1, h2, _, h3⟩ := hxs 0 xs[0] (by simp [hlen])
                  have hu0 : us[0]? = some (us[0]'(by omega)) := List.getElem?_eq_getElem (by omega)
                  have hc0 := h3 0 _ hu0
                  have ha0 : a.add (0 * ce.size + 0) = a := by simp [Addr.add]
                  rw [ha0] at hc0
                  obtain ⟨bb, oo, sp⟩ := a
                  have hsp : sp = none := by
                    unfold World.cell? at hc0
                    split at hc0
                    · split at hc0
                      · cases hc0
                      · rename_i hns; simpa using hns
                    · cases hc0
                  subst hsp
                  refine .inr ⟨bb, oo, rfl, ?_, fun k y hk => ?_⟩
                  · show bb < w.heap.size
                    unfold World.cell? at hc0
                    split at hc0
                    · rename_i hh
                      exact (Array.getElem?_eq_some_iff.1 hh).1
                    · cases hc0
                  · obtain ⟨us, g1, g2, _, g3⟩ := hxs k y hk
                    exact ⟨us, g1, g2, fun j u hj => by have := g3 j u hj; rw [addr_add] at this; rwa [Nat.add_assoc]⟩
              · obtain ⟨k, hk⟩ := List.getElem?_of_mem hy
                obtain ⟨us, _, _, g, _⟩ := hxs k y hk
                exact g
        case struct fs =>
          unfold DataW.trod at hx
          rw [hu] at hx
          have hx' : (if cs.length = P.cellsOf t then (fs.toList.mapM fun f => DataW.trod enc P w base spare held fuel f.type ((cs.drop f.offset).take (P.cellsOf f.type))).map fun xs => (DataW.agg (xs.map (·.1)), xs.flatMap (·.2)) else none) = some x := by
            simpa using hx
          clear hx
          split at hx'
          · rename_i hlen
            cases hm : (fs.toList.mapM fun f => DataW.trod enc P w base spare held fuel f.type ((cs.drop f.offset).take (P.cellsOf f.type))) with
            | none => rw [hm] at hx'; cases hx'
            | some ys =>
              clear hx' hu
              have main : ∀ (l : List Field) (off : Nat) (c : Ty) (ys : List (DataW H × List MemPlace)), layOk.fieldsOk P (layOk P d) (tyOf P d) off l (P.cellsOf t) = true → tyOf.go (l.map fun f => tyOf P d f.type) = some c → off ≤ cs.length →
                  (l.mapM fun f => DataW.trod enc P w base spare held fuel f.type ((cs.drop f.offset).take (P.cellsOf f.type))) = some ys → ∃ e : El c, RepE w (fun b => b < w.heap.size) c e (cs.drop off) ∧ Fits c e := by
                intro l
                induction l with
                | nil =>
                  intro off c ys hok hc hoff hm
                  simp only [List.map_nil, tyOf.go, Option.some.injEq] at hc
                  subst hc
                  simp only [layOk.fieldsOk, beq_iff_eq] at hok
                  refine ⟨(), ?_, trivial⟩
                  show cs.drop off = []
                  rw [hok, ← hlen]
                  simp
                | cons f r ihr =>
                  intro off c ys hok hc hoff hm
                  simp only [layOk.fieldsOk, Bool.and_eq_true, beq_iff_eq] at hok
                  obtain ⟨⟨⟨h1, h2⟩, h3⟩, h4⟩ := hok
                  rw [List.mapM_cons] at hm
                  cases hf : DataW.trod enc P w base spare held fuel f.type ((cs.drop f.offset).take (P.cellsOf f.type)) with
                  | none => rw [hf] at hm; cases hm
                  | some y =>
                    rw [hf] at hm
                    cases hr : (r.mapM fun f => DataW.trod enc P w base spare held fuel f.type ((cs.drop f.offset).take (P.cellsOf f.type))) with
                    | none => rw [hr] at hm; cases hm
                    | some zs =>
                      cases hcf : tyOf P d f.type with
                      | none => rw [hcf] at h3; cases h3
                      | some cf =>
                        rw [hcf] at h3
                        simp only [beq_iff_eq] at h3
                        obtain ⟨e1, g1, g2⟩ := ih f.type cf h2 hcf fuel _ y hf
                        have hl1 := g1.length
                        rw [h1] at g1 hl1
                        have hle : off + P.cellsOf f.type ≤ cs.length := by
                          simp only [List.length_take, List.length_drop] at hl1
                          omega
                        cases r with
                        | nil =>
                          simp only [List.map_cons, List.map_nil, tyOf.go, hcf, Option.some.injEq] at hc
                          subst hc
                          simp only [layOk.fieldsOk, beq_iff_eq] at h4
                          refine ⟨e1, ?_, g2⟩
                          have : (cs.drop off).take (P.cellsOf f.type) = cs.drop off := List.take_of_length_le (by simp; omega)
                          rw [this] at g1
                          exact g1
                        | cons f2 r2 =>
                          cases hgo : tyOf.go ((f2 :: r2).map fun f => tyOf P d f.type) with
                          | none =>
                            simp only [List.map_cons, hcf] at hc hgo
                            simp only [tyOf.go, hgo] at hc
                            cases hc
                          | some cr =>
                            have hc' : c = .pair cf cr := by
                              simp only [List.map_cons, hcf] at hc hgo
                              simp only [tyOf.go, hgo, Option.map_some, Option.some.injEq] at hc
                              exact hc.symm
                            subst hc'
                            obtain ⟨e2, g3, g4⟩ := ihr (off + P.cellsOf f.type) cr zs h4 hgo hle hr
                            refine ⟨(e1, e2), ⟨_, _, ?_, g1, g3⟩, g2, g4⟩
                            rw [← List.drop_drop]
                            exact (List.take_append_drop _ _).symm
              have := main fs.toList 0 c ys hl hc (Nat.zero_le _) hm
              simpa using this
          · cases hx'
end
end Go.Sk
