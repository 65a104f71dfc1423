/- What the functions of the layer come to: the first marks of the peers. -/
import Derived.Test.YtgamdchlgikaiaaP1
set_option linter.unusedVariables false
namespace Go.Proofs.Ytgamdchlgikaiaa
open Go Go.Sk

/-! ### First -/
def insM (m : Mk) : List Mk → List Mk
  | [] => [m]
  | x :: r => if x.1 < m.1 then x :: insM m r else if x.1 = m.1 then x :: r else m :: x :: r
def firstM (l : List Mk) : List Mk := l.foldl (fun out m => insM m out) []
theorem insM_len (m : Mk) : ∀ l : List Mk, (insM m l).length ≤ l.length + 1
  | [] => by simp [insM]
  | x :: r => by
    unfold insM
    split
    · have := insM_len m r; simp; omega
    · split <;> simp
theorem first_inner (l : List Mk) (hl : l.length ≤ big) (i : Nat) (hi : i < l.length) (out : List Mk) (ho : out.length ≤ big) : ∀ m k, k + m = out.length →
    ref53_First.j1 l i k out = ref53_First.j0 l ((i + 1 : Nat) : Int) (out.take k ++ insM l[i] (out.drop k)) := by
  unfold big at hl ho
  have fin : ∀ (k : Nat), k ≤ out.length → ref53_First.j3 l i k false out = ref53_First.j0 l ((i + 1 : Nat) : Int) (out.take k ++ l[i] :: out.drop k) := by
    intro k hk
    rw [ref53_First.j3_eq]
    simp only [cond_false, idx_nat, List.getElem?_eq_getElem hi, Option.bind_some, wr_succ hi (by omega), Int.sub_zero, Int.toNat_natCast, List.drop_zero, List.length_take, List.length_cons, List.length_nil, List.length_append, List.length_drop]
    have e1 : (((out.length : Nat) : Int) - (k : Int)).toNat = out.length - k := by omega
    have e2 : (out.drop k).take (out.length - k) = out.drop k := List.take_of_length_le (by simp)
    simp (disch := omega) only [e1, e2, List.length_take, List.length_drop, ← Bool.decide_and, cond_dec, if_pos]
    simp
  intro m
  induction m with
  | zero =>
    intro k hk
    rw [ref53_First.j1_eq, lt_false (by omega), cond_false, ref53_First.j2_eq, cond_false, lt_false (by omega), cond_false, fin k (by omega)]
    rw [List.drop_of_length_le (by omega)]
    rfl
  | succ m ih =>
    intro k hk
    have hlt : k < out.length := by omega
    rw [ref53_First.j1_eq]
    simp (disch := omega) only [← Bool.decide_and, cond_dec, if_pos, Int.toNat_natCast, List.getElem?_eq_getElem hlt, Option.bind_some, idx_nat, List.getElem?_eq_getElem hi]
    rw [List.drop_eq_getElem_cons hlt]
    simp only [insM]
    by_cases h1 : out[k].1 < l[i].1
    · rw [decide_eq_true h1, if_pos h1, ref53_First.j2_eq, cond_true, wr_succ hlt (by omega), ih (k + 1) (by omega)]
      congr 1
      rw [List.take_succ_eq_append_getElem hlt, List.append_assoc]
      rfl
    · rw [decide_eq_false h1, if_neg h1, ref53_First.j2_eq, cond_false]
      simp (disch := omega) only [← Bool.decide_and, cond_dec, if_pos, Int.toNat_natCast, List.getElem?_eq_getElem hlt, Option.bind_some, idx_nat, List.getElem?_eq_getElem hi]
      by_cases h2 : out[k].1 = l[i].1
      · rw [if_pos h2, show (out[k].1 == l[i].1) = true by simp [h2], ref53_First.j3_eq, cond_true, wr_succ hi (by omega), ← List.drop_eq_getElem_cons hlt, List.take_append_drop]
      · rw [if_neg h2, show (out[k].1 == l[i].1) = false by simp [h2], fin k (by omega), ← List.drop_eq_getElem_cons hlt]
theorem first_eq (l : List Mk) (hl : l.length ≤ big) : ref53_First.f l = some (firstM l) := by
  have hl' := hl
  unfold big at hl'
  have key : ∀ m k out, k + m = l.length → out.length ≤ k → ref53_First.j0 l (k : Nat) out = some ((l.drop k).foldl (fun out m => insM m out) out) := by
    intro m
    induction m with
    | zero =>
      intro k out hk _
      rw [ref53_First.j0_eq, lt_false (by omega), cond_false, List.drop_of_length_le (by omega)]
      rfl
    | succ m ih =>
      intro k out hk ho
      have hlt : k < l.length := by omega
      have h1 := first_inner l hl k hlt out (by unfold big; omega) out.length 0 (by omega)
      rw [ref53_First.j0_eq, lt_true hlt, cond_true]
      simp only [List.take_zero, List.nil_append, List.drop_zero] at h1
      rw [show ((0 : Nat) : Int) = 0 from rfl] at h1
      rw [h1, ih (k + 1) _ (by omega) (by have := insM_len l[k] out; omega), List.drop_eq_getElem_cons hlt]
      rfl
  rw [ref53_First.f_eq]
  have := key l.length 0 [] (by omega) (by simp)
  simpa [firstM] using this

/-! ### the list of first marks: ascending, one for each peer -/
abbrev Asc (l : List Mk) : Prop := l.Pairwise fun a b => a.1 < b.1
theorem insM_mem (m : Mk) : ∀ (l : List Mk) (x : Mk), x ∈ insM m l → x = m ∨ x ∈ l
  | [], x, h => by simp [insM] at h; exact .inl h
  | y :: r, x, h => by
    unfold insM at h
    split at h
    · rcases List.mem_cons.1 h with h | h
      · exact .inr (by simp [h])
      · rcases insM_mem m r x h with h | h
        · exact .inl h
        · exact .inr (by simp [h])
    · split at h
      · exact .inr h
      · rcases List.mem_cons.1 h with h | h
        · exact .inl h
        · exact .inr h
theorem insM_keep (m : Mk) : ∀ (l : List Mk) (x : Mk), x ∈ l → x ∈ insM m l
  | y :: r, x, h => by
    unfold insM
    split
    · rcases List.mem_cons.1 h with h | h
      · simp [h]
      · exact List.mem_cons_of_mem _ (insM_keep m r x h)
    · split
      · exact h
      · exact List.mem_cons_of_mem _ h
theorem insM_asc (m : Mk) : ∀ (l : List Mk), Asc l → Asc (insM m l)
  | [], _ => by simp [insM, Asc]
  | y :: r, h => by
    obtain ⟨h1, h2⟩ := List.pairwise_cons.1 h
    unfold insM
    split
    · rename_i hlt
      refine List.pairwise_cons.2 ⟨fun x hx => ?_, insM_asc m r h2⟩
      rcases insM_mem m r x hx with rfl | hx
      · exact hlt
      · exact h1 x hx
    · split
      · exact h
      · rename_i hn he
        refine List.pairwise_cons.2 ⟨fun x hx => ?_, h⟩
        rcases List.mem_cons.1 hx with rfl | hx
        · omega
        · have := h1 x hx; omega
/-- it is in the list, or its peer is -/
theorem insM_new (m : Mk) : ∀ (l : List Mk), Asc l → (m ∈ insM m l ∧ ∀ x ∈ l, x.1 ≠ m.1) ∨ (insM m l = l ∧ ∃ x ∈ l, x.1 = m.1)
  | [], _ => .inl (by simp [insM])
  | y :: r, h => by
    obtain ⟨h1, h2⟩ := List.pairwise_cons.1 h
    unfold insM
    split
    · rename_i hlt
      rcases insM_new m r h2 with ⟨a, b⟩ | ⟨a, x, b, c⟩
      · refine .inl ⟨List.mem_cons_of_mem _ a, fun x hx => ?_⟩
        rcases List.mem_cons.1 hx with rfl | hx
        · omega
        · exact b x hx
      · exact .inr ⟨by rw [a], x, by simp [b], c⟩
    · split
      · rename_i he; exact .inr ⟨rfl, y, by simp, he⟩
      · rename_i hn he
        refine .inl ⟨by simp, fun x hx => ?_⟩
        rcases List.mem_cons.1 hx with rfl | hx
        · exact he
        · have := h1 x hx; omega
def isP (p : Int) (m : Mk) : Bool := m.1 == p
/-- R is the list of the first marks of l's peers -/
structure Firsts (l R : List Mk) : Prop where
  asc : Asc R
  mem : ∀ m, m ∈ R ↔ l.find? (isP m.1) = some m
theorem firsts_of (l : List Mk) : Firsts l (firstM l) := by
  have key : ∀ (r l0 : List Mk) (R : List Mk), Firsts l0 R → Firsts (l0 ++ r) (r.foldl (fun out m => insM m out) R) := by
    intro r
    induction r with
    | nil => intro l0 R h; simpa using h
    | cons m r ih =>
      intro l0 R h
      have h1 : Firsts (l0 ++ [m]) (insM m R) := by
        refine ⟨insM_asc m R h.asc, fun x => ?_⟩
        rw [List.find?_append]
        rcases insM_new m R h.asc with ⟨a, b⟩ | ⟨a, y, b, c⟩
        · have hnone : l0.find? (isP m.1) = none := by
            cases hf : l0.find? (isP m.1) with
            | none => rfl
            | some z =>
              have hz : z.1 = m.1 := by simpa [isP] using List.find?_some hf
              have : z ∈ R := (h.mem z).2 (by rw [hz]; exact hf)
              exact absurd hz (b z this)
          constructor
          · intro hx
            rcases insM_mem m R x hx with rfl | hx
            · rw [hnone]; simp [isP]
            · rw [(h.mem x).1 hx]; rfl
          · intro hx
            cases hf : l0.find? (isP x.1) with
            | some z =>
              rw [hf] at hx
              simp at hx
              subst hx
              exact insM_keep m R z ((h.mem z).2 hf)
            | none =>
              rw [hf] at hx
              simp only [Option.none_or, List.find?_cons, List.find?_nil] at hx
              split at hx
              · simp at hx; subst hx; exact a
              · cases hx
        · rw [a]
          constructor
          · intro hx; rw [(h.mem x).1 hx]; rfl
          · intro hx
            cases hf : l0.find? (isP x.1) with
            | some z =>
              rw [hf] at hx
              simp at hx
              subst hx
              exact (h.mem z).2 hf
            | none =>
              rw [hf] at hx
              simp only [Option.none_or, List.find?_cons, List.find?_nil] at hx
              split at hx
              · simp at hx
                subst hx
                rw [← c, (h.mem y).1 b] at hf
                cases hf
              · cases hx
      have := ih (l0 ++ [m]) (insM m R) h1
      rw [List.foldl_cons]
      simpa using this
  simpa [firstM] using key l [] [] ⟨.nil, fun m => by simp⟩
theorem firstM_len (l : List Mk) : (firstM l).length ≤ l.length := by
  have key : ∀ (r R : List Mk), (r.foldl (fun out m => insM m out) R).length ≤ R.length + r.length := by
    intro r
    induction r with
    | nil => intro R; simp
    | cons m r ih => intro R; rw [List.foldl_cons]; have := ih (insM m R); have := insM_len m R; simp; omega
  simpa [firstM] using key l []
theorem Firsts.nodup {l R : List Mk} (h : Firsts l R) : (R.map (·.1)).Nodup := by
  have : (R.map (·.1)).Pairwise (· < ·) := List.pairwise_map.2 h.asc
  exact this.imp fun h => by omega
end Go.Proofs.Ytgamdchlgikaiaa
