/- What the functions of the layer come to: digests, Compare, Report. -/
import Derived.Test.YtgamdchlgikaiaaE
import Derived.Test.YtgamdchlgikaiaaSkL0
set_option linter.unusedVariables false
namespace Go.Proofs.Ytgamdchlgikaiaa
open Go Go.Sk

abbrev Mk := Int × (Int × Int)
abbrev big : Nat := 1000000

/-! ### digests -/
def isT (t : Int) (m : Mk) : Bool := m.snd.fst == t
def dig (l : List Mk) (t : Int) : Int × Bool := match l.find? (isT t) with | some m => (m.snd.snd, true) | none => (0, false)

theorem indexFunc (s : List Mk) (t : Int) (hs : s.length ≤ big) : slices_IndexFunc.f s t = some (match s.findIdx? (isT t) with | some j => (j : Int) | none => -1) := by
  unfold big at hs
  rw [slices_IndexFunc.f_eq, loopI s (fun (b : Unit) q => some (bif isT t q.1 then .inl ((q.2 : Nat) : Int) else .inr b)) (fun _ => some (-1)) (fun _ k => slices_IndexFunc.j0 s t s.length k) (fun b k hk => by
    rw [slices_IndexFunc.j0_eq, lt_true hk, idx_nat, List.getElem?_eq_getElem hk]
    simp only [cond_true, Option.bind_some, desync_digest_1.f_eq, wr_succ hk (by omega)]
    show (bif isT t s[k] then _ else _) = _
    cases isT t s[k] <;> rfl) (fun b => by rw [slices_IndexFunc.j0_eq, lt_false (Nat.le_refl _)]; rfl) (), foldE_find]
  cases s.findIdx? (isT t) <;> simp
theorem digest_eq (l : List Mk) (t : Int) (hl : l.length ≤ big) : desync_digest.f l t = some (dig l t) := by
  rw [desync_digest.f_eq, indexFunc l t hl, Option.bind_some]
  unfold dig
  rw [find_findIdx]
  cases h : l.findIdx? (isT t) with
  | none => rfl
  | some k =>
    obtain ⟨hk, _⟩ := List.findIdx?_eq_some_iff_getElem.1 h
    simp only [Option.bind_some, idx_nat, List.getElem?_eq_getElem hk]
    rw [show decide ((k : Int) < 0) = false by simp]
    rfl
theorem refdigest_eq (l : List Mk) (t : Int) (hl : l.length ≤ big) : ref53_digest.f l t = some (dig l t) := by
  unfold big at hl
  rw [ref53_digest.f_eq, loopE l (fun (b : Unit) x => some (bif isT t x then .inl (x.snd.snd, true) else .inr b)) (fun _ => some (0, false)) (fun _ k => ref53_digest.j0 l t k) (fun b k hk => by
    rw [ref53_digest.j0_eq, lt_true hk, idx_nat, List.getElem?_eq_getElem hk]
    simp only [cond_true, Option.bind_some, wr_succ hk (by omega)]
    show (bif isT t l[k] then _ else _) = _
    cases isT t l[k] <;> rfl) (fun b => by rw [ref53_digest.j0_eq, lt_false (Nat.le_refl _)]; rfl) (), foldE_find1]
  unfold dig
  cases l.find? (isT t) <;> rfl

/-! ### Compare -/
def cmpT (a b : List Mk) (t : Int) : Bool := (dig b t).2 && (dig a t).1 != (dig b t).1
def cmpS (a b : List Mk) (q : Int × Bool) (m : Mk) : Int × Bool := bif cmpT a b m.snd.fst && (!q.2 || decide (m.snd.fst < q.1)) then (m.snd.fst, true) else q
def cmpF (a b : List Mk) : Int × Bool := a.foldl (cmpS a b) (0, false)
theorem compare_eq (a b : List Mk) (ha : a.length ≤ big) (hb : b.length ≤ big) : desync_Compare.f a b = some (cmpF a b) := by
  have ha' := ha
  unfold big at ha'
  rw [desync_Compare.f_eq, loopE a (fun q x => some (.inr (cmpS a b q x))) (fun q => some q) (fun q k => desync_Compare.j0 a b q.1 q.2 a a.length k) (fun q k hk => by
    rw [desync_Compare.j0_eq, lt_true hk, idx_nat, List.getElem?_eq_getElem hk]
    simp only [cond_true, Option.bind_some, digest_eq _ _ ha, digest_eq _ _ hb, desync_Compare.j1_eq, desync_Compare.j2_eq, wr_succ hk (by omega), cmpS, cmpT]
    obtain ⟨x, f⟩ := q
    cases (dig b a[k].snd.fst).2 <;> cases ((dig a a[k].snd.fst).1 != (dig b a[k].snd.fst).1) <;> cases f <;> simp only [Bool.not_true, Bool.not_false, Bool.false_or, Bool.true_or, Bool.and_true, Bool.and_false, Bool.true_and, Bool.false_and, cond_true, cond_false]
    cases decide (a[k].snd.fst < x) <;> rfl) (fun q => by rw [desync_Compare.j0_eq, lt_false (Nat.le_refl _)]; rfl) ((0, false) : Int × Bool), foldE_foldl]
  rfl
theorem refcompare_eq (a b : List Mk) (ha : a.length ≤ big) (hb : b.length ≤ big) : ref53_Compare.f a b = some (cmpF a b) := by
  have ha' := ha
  unfold big at ha'
  rw [ref53_Compare.f_eq, loopE a (fun q x => some (.inr (cmpS a b q x))) (fun q => some q) (fun q k => ref53_Compare.j0 a b q.1 q.2 k) (fun q k hk => by
    rw [ref53_Compare.j0_eq, lt_true hk, idx_nat, List.getElem?_eq_getElem hk]
    simp only [cond_true, Option.bind_some, refdigest_eq _ _ ha, refdigest_eq _ _ hb, ref53_Compare.j1_eq, ref53_Compare.j2_eq, wr_succ hk (by omega), cmpS, cmpT, idx_nat, List.getElem?_eq_getElem hk]
    obtain ⟨x, f⟩ := q
    cases (dig b a[k].snd.fst).2 <;> cases ((dig a a[k].snd.fst).1 != (dig b a[k].snd.fst).1) <;> cases f <;> simp only [Bool.not_true, Bool.not_false, Bool.false_or, Bool.true_or, Bool.and_true, Bool.and_false, Bool.true_and, Bool.false_and, cond_true, cond_false]
    cases decide (a[k].snd.fst < x) <;> rfl) (fun q => by rw [ref53_Compare.j0_eq, lt_false (Nat.le_refl _)]; rfl) ((0, false) : Int × Bool), foldE_foldl]
  rfl

/-- what Compare comes to: the least turn of those that differ -/
def Least (T : Int → Prop) (q : Int × Bool) : Prop := (q = (0, false) ∧ ∀ t, ¬ T t) ∨ (q.2 = true ∧ T q.1 ∧ ∀ t, T t → q.1 ≤ t)
theorem Least.unique {T : Int → Prop} {p q : Int × Bool} (hp : Least T p) (hq : Least T q) : p = q := by
  rcases hp with ⟨h1, h2⟩ | ⟨h1, h2, h3⟩ <;> rcases hq with ⟨g1, g2⟩ | ⟨g1, g2, g3⟩
  · rw [h1, g1]
  · exact absurd g2 (h2 _)
  · exact absurd h2 (g2 _)
  · have e : p.1 = q.1 := by have := h3 _ g2; have := g3 _ h2; omega
    exact Prod.ext e (by rw [h1, g1])
def Dif (a b : List Mk) (t : Int) : Prop := (dig a t).2 = true ∧ (dig b t).2 = true ∧ (dig a t).1 ≠ (dig b t).1
theorem dig_mem {a : List Mk} {m : Mk} (h : m ∈ a) : (dig a m.snd.fst).2 = true := by
  unfold dig
  cases hf : a.find? (isT m.snd.fst) with
  | some x => rfl
  | none =>
    have := List.find?_eq_none.1 hf m h
    simp [isT] at this
theorem dig_some {a : List Mk} {t : Int} (h : (dig a t).2 = true) : ∃ m ∈ a, m.snd.fst = t := by
  unfold dig at h
  cases hf : a.find? (isT t) with
  | some x => exact ⟨x, List.mem_of_find?_eq_some hf, by simpa [isT] using List.find?_some hf⟩
  | none => rw [hf] at h; cases h
theorem cmp_least (a b : List Mk) : Least (Dif a b) (cmpF a b) := by
  have key : ∀ (l : List Mk) (q : Int × Bool), (∀ m ∈ l, (dig a m.snd.fst).2 = true) → ∀ T : Int → Prop, (∀ t, T t → Dif a b t) → Least T q → Least (fun t => T t ∨ (Dif a b t ∧ ∃ m ∈ l, m.snd.fst = t)) (l.foldl (cmpS a b) q) := by
    intro l
    induction l with
    | nil =>
      intro q _ T _ hq
      have e : (fun t => T t ∨ (Dif a b t ∧ ∃ m ∈ ([] : List Mk), m.snd.fst = t)) = T := by funext t; simp
      rw [e]; exact hq
    | cons m r ih =>
      intro q hm T hT hq
      rw [List.foldl_cons]
      have hmm := hm m (by simp)
      have h1 : Least (fun t => T t ∨ (Dif a b t ∧ m.snd.fst = t)) (cmpS a b q m) := by
        unfold cmpS
        by_cases hd : cmpT a b m.snd.fst = true
        · have hdif : Dif a b m.snd.fst := ⟨hmm, by simp [cmpT] at hd; exact hd.1, by simp [cmpT] at hd; exact hd.2⟩
          rw [hd]
          rcases hq with ⟨h1, h2⟩ | ⟨h1, h2, h3⟩
          · rw [h1]
            refine .inr ⟨rfl, .inr ⟨hdif, rfl⟩, ?_⟩
            rintro t (h | ⟨_, h⟩)
            · exact absurd h (h2 t)
            · exact Int.le_of_eq h
          · rw [h1]
            by_cases hlt : m.snd.fst < q.1
            · rw [decide_eq_true hlt]
              refine .inr ⟨rfl, .inr ⟨hdif, rfl⟩, ?_⟩
              rintro t (h | ⟨_, h⟩)
              · have := h3 t h
                show m.snd.fst ≤ t
                omega
              · exact Int.le_of_eq h
            · rw [decide_eq_false hlt]
              refine .inr ⟨h1, .inl h2, ?_⟩
              rintro t (h | ⟨_, h⟩)
              · exact h3 t h
              · show q.1 ≤ t; omega
        · have hd' : cmpT a b m.snd.fst = false := by simpa using hd
          have hn : ¬ Dif a b m.snd.fst := fun ⟨_, g1, g2⟩ => hd (by simp [cmpT, g1, g2])
          rw [hd']
          have e : (fun t => T t ∨ (Dif a b t ∧ m.snd.fst = t)) = T := by
            funext t
            apply propext
            constructor
            · rintro (h | ⟨h, e⟩)
              · exact h
              · rw [← e] at h; exact absurd h hn
            · exact .inl
          rw [e]; exact hq
      have h2 := ih (cmpS a b q m) (fun x hx => hm x (by simp [hx])) _ (fun t ht => by rcases ht with h | h; exact hT t h; exact h.1) h1
      have e : (fun t => (T t ∨ Dif a b t ∧ m.snd.fst = t) ∨ Dif a b t ∧ ∃ m ∈ r, m.snd.fst = t) = fun t => T t ∨ Dif a b t ∧ ∃ x ∈ m :: r, x.snd.fst = t := by
        funext t
        apply propext
        simp only [List.mem_cons, exists_eq_or_imp]
        constructor
        · rintro ((h | ⟨h, e⟩) | ⟨h, e⟩)
          · exact .inl h
          · exact .inr ⟨h, .inl e⟩
          · exact .inr ⟨h, .inr e⟩
        · rintro (h | ⟨h, e | e⟩)
          · exact .inl (.inl h)
          · exact .inl (.inr ⟨h, e⟩)
          · exact .inr ⟨h, e⟩
      rw [← e]; exact h2
  have := key a (0, false) (fun m hm => dig_mem hm) (fun _ => False) (fun _ h => h.elim) (.inl ⟨rfl, fun _ h => h⟩)
  have e : (fun t => False ∨ (Dif a b t ∧ ∃ m ∈ a, m.snd.fst = t)) = Dif a b := by
    funext t
    apply propext
    constructor
    · rintro (h | h)
      · exact h.elim
      · exact h.1
    · exact fun h => .inr ⟨h, dig_some h.1⟩
  rw [e] at this
  exact this
theorem cmp_comm (a b : List Mk) : cmpF b a = cmpF a b := by
  have h1 := cmp_least b a
  have e : Dif b a = Dif a b := by
    funext t
    apply propext
    exact ⟨fun ⟨x, y, z⟩ => ⟨y, x, fun e => z e.symm⟩, fun ⟨x, y, z⟩ => ⟨y, x, fun e => z e.symm⟩⟩
  rw [e] at h1
  exact h1.unique (cmp_least a b)
theorem cmp_self (a : List Mk) : (cmpF a a).2 = false := by
  rcases cmp_least a a with ⟨h1, _⟩ | ⟨_, h2, _⟩
  · rw [h1]
  · exact absurd rfl h2.2.2

/-! ### equality of marks -/
theorem sameMarks_self (l : List Mk) (hl : l.length ≤ big) : ref53_SameMarks.f l l = some true := by
  unfold big at hl
  rw [ref53_SameMarks.f_eq, show (((l.length : Nat) : Int) != ((l.length : Nat) : Int)) = false by simp, cond_false]
  rw [loopE l (fun (b : Unit) x => some (.inr b)) (fun _ => some true) (fun _ k => ref53_SameMarks.j0 l l k) (fun b k hk => by
    rw [ref53_SameMarks.j0_eq, lt_true hk, idx_nat, List.getElem?_eq_getElem hk]
    simp only [cond_true, Option.bind_some, wr_succ hk (by omega), beq_self_eq_true, Bool.and_self, Bool.not_true, cond_false]) (fun b => by rw [ref53_SameMarks.j0_eq, lt_false (Nat.le_refl _)]; rfl) (), foldE_foldl]
/-! ### Report -/
def repP (a : List Mk) (m : Mk) : Bool := (dig a m.snd.fst).2 && (dig a m.snd.fst).1 != m.snd.snd
theorem report_eq (a b : List Mk) (ha : a.length ≤ big) (hb : b.length ≤ big) : desync_Report.f 0 0 0 false 0 0 0 false 0 0 0 0 a b = some (b.filter (repP a)) := by
  have hb' := hb
  unfold big at hb'
  rw [desync_Report.f_eq, loopE b (fun acc x => bif repP a x then (bif decide ((acc.length + 1) * 24 ≤ 140737488355328) then some (.inr (acc ++ [x])) else none) else some (.inr acc)) (fun q => some q)
    (fun q k => desync_Report.j0 b b.length k 0 0 0 false 0 0 0 false 0 0 0 0 a b [] [] [] [] [] [] [] [] [] [] [] [] [] [] q) (fun q k hk => by
    rw [desync_Report.j0_eq, lt_true hk, idx_nat, List.getElem?_eq_getElem hk]
    simp only [cond_true, Option.bind_some, digest_eq _ _ ha, desync_Report.j1_eq, desync_Report.j2_eq, wr_succ hk (by omega), repP]
    cases (dig a b[k].snd.fst).2 <;> cases ((dig a b[k].snd.fst).1 != b[k].snd.snd) <;> try rfl
    simp only [Bool.and_self, cond_true, List.length_singleton]
    cases decide ((q.length + 1) * 24 ≤ 140737488355328) <;> rfl) (fun q => by rw [desync_Report.j0_eq, lt_false (Nat.le_refl _)]; rfl) []]
  have := foldE_filter (repP a) id 24 140737488355328 (fun q => some q) b [] (by simp; omega)
  simpa using this
theorem refreport_eq (a b : List Mk) (ha : a.length ≤ big) (hb : b.length ≤ big) : ref53_Report.f 0 0 0 false 0 0 0 false 0 0 0 0 a b = some (b.filter (repP a)) := by
  have hb' := hb
  unfold big at hb'
  rw [ref53_Report.f_eq, loopE b (fun acc x => bif repP a x then (bif decide ((acc.length + 1) * 24 ≤ 140737488355328) then some (.inr (acc ++ [x])) else none) else some (.inr acc)) (fun q => some q)
    (fun q k => ref53_Report.j0 k 0 0 0 false 0 0 0 false 0 0 0 0 a b [] [] [] [] [] [] [] [] [] [] [] [] [] [] q) (fun q k hk => by
    rw [ref53_Report.j0_eq, lt_true hk, idx_nat, List.getElem?_eq_getElem hk]
    simp only [cond_true, Option.bind_some, refdigest_eq _ _ ha, ref53_Report.j1_eq, ref53_Report.j2_eq, wr_succ hk (by omega), repP, idx_nat, List.getElem?_eq_getElem hk]
    cases (dig a b[k].snd.fst).2 <;> cases ((dig a b[k].snd.fst).1 != b[k].snd.snd) <;> try rfl
    simp only [Bool.and_self, cond_true, List.length_singleton]
    cases decide ((q.length + 1) * 24 ≤ 140737488355328) <;> rfl) (fun q => by rw [ref53_Report.j0_eq, lt_false (Nat.le_refl _)]; rfl) []]
  have := foldE_filter (repP a) id 24 140737488355328 (fun q => some q) b [] (by simp; omega)
  simpa using this
theorem filter_big {α : Type} (p : α → Bool) {l : List α} (h : l.length ≤ big) : (l.filter p).length ≤ big := Nat.le_trans (List.length_filter_le _ _) h

/-- Compares, but for the fixed examples -/
theorem compares (hal : law53_alive.f = some true) (a b : List Mk) : law53_DesyncCompares.f a b = some true := by
  rw [law53_DesyncCompares.f_eq]
  have big1 : law53_DesyncCompares.j0 a b true = some true := by rw [law53_DesyncCompares.j0_eq]; simp [hal]
  by_cases h1 : a.length > 200
  · rw [show decide (((a.length : Nat) : Int) > 200) = true by simp; omega]; exact big1
  · rw [show decide (((a.length : Nat) : Int) > 200) = false by simp; omega, cond_false]
    by_cases h2 : b.length > 200
    · rw [show decide (((b.length : Nat) : Int) > 200) = true by simp; omega]; exact big1
    · rw [show decide (((b.length : Nat) : Int) > 200) = false by simp; omega]
      have ha : a.length ≤ big := by unfold big; omega
      have hb : b.length ≤ big := by unfold big; omega
      rw [law53_DesyncCompares.j0_eq]
      simp only [cond_false, compare_eq _ _ ha hb, refcompare_eq _ _ ha hb, compare_eq _ _ hb ha, compare_eq _ _ ha ha, Option.bind_some, beq_self_eq_true, cond_true, cmp_comm, cmp_self, Bool.not_false, report_eq _ _ ha hb, refreport_eq _ _ ha hb, sameMarks_self _ (filter_big _ hb), hal, law53_DesyncCompares.j1_eq]
end Go.Proofs.Ytgamdchlgikaiaa
