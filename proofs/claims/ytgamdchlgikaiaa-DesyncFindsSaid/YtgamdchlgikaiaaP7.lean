/- The statement on the first turn with different digests. -/
import Derived.Test.YtgamdchlgikaiaaP6
set_option linter.unusedVariables false
set_option linter.unusedSimpArgs false
namespace Go.Proofs.Ytgamdchlgikaiaa
open Go Go.Sk

theorem bisF_find (eq : Nat → Bool) (c : Nat) : ∀ m lo hi n, hi - lo ≤ m → lo ≤ c → c ≤ hi → (∀ k, k < hi → eq k = decide (k < c)) → (bisF eq m lo hi n).1 = c
  | 0, lo, hi, n, h, h1, h2, h3 => by simp [bisF]; omega
  | m + 1, lo, hi, n, h, h1, h2, h3 => by
    unfold bisF
    by_cases hlt : lo < hi
    · rw [if_pos hlt, h3 _ (by omega)]
      by_cases hc : (lo + hi) / 2 < c
      · rw [decide_eq_true hc, if_pos rfl]
        exact bisF_find eq c m _ hi _ (by omega) (by omega) h2 h3
      · rw [decide_eq_false hc]
        simp only [Bool.false_eq_true, if_false]
        exact bisF_find eq c m lo _ _ (by omega) h1 (by omega) fun k hk => h3 k (by omega)
    · rw [if_neg hlt]; simp; omega

theorem wrap_ne (e : Int) : IntKind.u64.wrap (e + 1) ≠ e := by
  rw [show IntKind.u64.wrap (e + 1) = (e + 1) % 18446744073709551616 by simp [IntKind.wrap, IntKind.bits, IntKind.signed]]
  omega

theorem equal_eq (x y : List Int) (c : Nat) (hx : x.length ≤ big) (hy : y.length ≤ big) (hcx : c < x.length) (hcy : c < y.length) (h : ∀ k, k ≤ c → same x y k = decide (k < c)) : ref45_Equal.f x y = some (c : Int) := by
  unfold big at hx hy
  have key : ∀ m k, k + m = c → ref45_Equal.j0 x y (min x.length y.length : Nat) k = some (c : Int) := by
    intro m
    induction m with
    | zero =>
      intro k hk
      have hkc : k = c := by omega
      subst hkc
      have hs := h k (Nat.le_refl _)
      unfold same at hs
      rw [List.getElem?_eq_getElem hcx, List.getElem?_eq_getElem hcy] at hs
      rw [ref45_Equal.j0_eq, lt_true (by omega), cond_true]
      simp only [idx_nat, List.getElem?_eq_getElem hcx, List.getElem?_eq_getElem hcy, Option.bind_some]
      have : (x[k] != y[k]) = true := by simpa using hs
      rw [this]; rfl
    | succ m ih =>
      intro k hk
      have h1 : k < x.length := by omega
      have h2 : k < y.length := by omega
      have hs := h k (by omega)
      unfold same at hs
      rw [List.getElem?_eq_getElem h1, List.getElem?_eq_getElem h2, decide_eq_true (by omega)] at hs
      rw [ref45_Equal.j0_eq, lt_true (by omega), cond_true]
      simp only [idx_nat, List.getElem?_eq_getElem h1, List.getElem?_eq_getElem h2, Option.bind_some]
      have : (x[k] != y[k]) = false := by simpa using hs
      rw [this, cond_false, wr_succ (n := x.length) (by omega) (by omega)]
      exact ih (k + 1) (by omega)
  rw [ref45_Equal.f_eq, min_if]
  exact key c 0 (by omega)

/-- the second history: what is equal is changed -/
def chg (a b : List Int) : List Int := (List.zipWith (fun x y => if x = y then IntKind.u64.wrap (x + 1) else y) a b) ++ b.drop a.length
theorem finds (common a b : List Int) : law53_DesyncFinds.f common a b = some true := by
  rw [law53_DesyncFinds.f_eq]
  have big1 : law53_DesyncFinds.j0 common a b true = some true := by rw [law53_DesyncFinds.j0_eq]; simp [alive_eq]
  by_cases h1 : common.length > 1000
  · rw [show decide (((common.length : Nat) : Int) > 1000) = true by simp; omega]; exact big1
  rw [show decide (((common.length : Nat) : Int) > 1000) = false by simp; omega, cond_false]
  by_cases h2 : a.length > 1000
  · rw [show decide (((a.length : Nat) : Int) > 1000) = true by simp; omega]; exact big1
  rw [show decide (((a.length : Nat) : Int) > 1000) = false by simp; omega, cond_false]
  by_cases h3 : b.length > 1000
  · rw [show decide (((b.length : Nat) : Int) > 1000) = true by simp; omega]; exact big1
  rw [show decide (((b.length : Nat) : Int) > 1000) = false by simp; omega, law53_DesyncFinds.j0_eq, cond_false]
  simp (disch := omega) only [cond_dec, if_pos, min_if]
  -- the loop
  have key : ∀ m k (o1 : List Int), k + m = min a.length b.length → o1.length = common.length + b.length → o1.take common.length = common → (∀ j, j < k → ∃ x y, a[j]? = some x ∧ o1[common.length + j]? = some y ∧ x ≠ y) → (∀ j, k ≤ j → o1[common.length + j]? = b[j]?) →
      ∃ o1', o1'.length = common.length + b.length ∧ o1'.take common.length = common ∧ (∀ j, j < min a.length b.length → ∃ x y, a[j]? = some x ∧ o1'[common.length + j]? = some y ∧ x ≠ y) ∧
        law53_DesyncFinds.j1 common a b (min a.length b.length : Nat) k (common ++ a) o1 = law53_DesyncFinds.j1 common a b (min a.length b.length : Nat) (min a.length b.length : Nat) (common ++ a) o1' := by
    intro m
    induction m with
    | zero =>
      intro k o1 hk g1 g2 g3 g4
      have : k = min a.length b.length := by omega
      subst this
      exact ⟨o1, g1, g2, g3, rfl⟩
    | succ m ih =>
      intro k o1 hk g1 g2 g3 g4
      have ha : k < a.length := by omega
      have hb : k < b.length := by omega
      have hk2 : k < min a.length b.length := by omega
      have ho : common.length + k < o1.length := by omega
      rw [law53_DesyncFinds.j1_eq, lt_true hk2, cond_true]
      have e1 : IntKind.i64.wrap (((common.length : Nat) : Int) + (k : Int)) = ((common.length + k : Nat) : Int) := by rw [wr_in (by omega) (by omega)]; rfl
      simp (disch := omega) only [← Bool.decide_and, cond_dec, if_pos, e1, idx_nat, List.getElem?_eq_getElem ha, List.getElem?_eq_getElem hb, Option.bind_some, Int.toNat_natCast, List.getElem?_eq_getElem ho, law53_DesyncFinds.j2_eq, wr_succ hk2]
      have hbk : o1[common.length + k]? = some b[k] := by rw [g4 k (Nat.le_refl _), List.getElem?_eq_getElem hb]
      cases he : (a[k] == b[k]) with
      | true =>
        rw [cond_true]
        refine ih (k + 1) _ (by omega) (by simp [g1]) ?_ (fun j hj => ?_) fun j hj => ?_
        · rw [List.take_set_of_le (by omega)]; exact g2
        · by_cases hjk : j = k
          · subst hjk
            exact ⟨a[j], _, List.getElem?_eq_getElem ha, by rw [List.getElem?_set, if_pos rfl, if_pos ho], fun e => wrap_ne a[j] e.symm⟩
          · obtain ⟨x, y, q1, q2, q3⟩ := g3 j (by omega)
            exact ⟨x, y, q1, by rw [List.getElem?_set, if_neg (by omega)]; exact q2, q3⟩
        · rw [List.getElem?_set, if_neg (by omega)]
          exact g4 j (by omega)
      | false =>
        rw [cond_false]
        refine ih (k + 1) o1 (by omega) g1 g2 (fun j hj => ?_) fun j hj => g4 j (by omega)
        by_cases hjk : j = k
        · subst hjk
          exact ⟨a[j], b[j], List.getElem?_eq_getElem ha, hbk, by simpa using he⟩
        · exact g3 j (by omega)
  obtain ⟨y, g1, g2, g3, g4⟩ := key (min a.length b.length) 0 (common ++ b) (by omega) (by simp) (by simp) (fun j hj => by omega) (fun j _ => by simp [List.getElem?_append_right])
  rw [show ((0 : Nat) : Int) = 0 from rfl] at g4
  rw [g4, law53_DesyncFinds.j1_eq, lt_false (Nat.le_refl _), cond_false]
  have hx : (common ++ a).length ≤ big := by unfold big; simp; omega
  have hy : y.length ≤ big := by unfold big; omega
  have hlow : ∀ k, k < common.length → (common ++ a)[k]? = y[k]? := fun k hk => by
    rw [List.getElem?_append_left hk]
    have := congrArg (fun l => l[k]?) g2
    simp only [List.getElem?_take, if_pos hk] at this
    exact this.symm
  have hsame : ∀ k, k < common.length + min a.length b.length → same (common ++ a) y k = decide (k < common.length) := fun k hk => by
    unfold same
    by_cases h : k < common.length
    · rw [hlow k h, decide_eq_true h]; simp
    · rw [decide_eq_false h]
      obtain ⟨x, z, q1, q2, q3⟩ := g3 (k - common.length) (by omega)
      rw [List.getElem?_append_right (by omega), q1]
      rw [show common.length + (k - common.length) = k by omega] at q2
      rw [q2]
      simpa using q3
  have hmin : min (common ++ a).length y.length = common.length + min a.length b.length := by rw [g1, List.length_append]; omega
  have hb1 : (pairI (bisM (common ++ a) y)).1 = ((common.length : Nat) : Int) := by
    unfold pairI bisM
    simp only
    rw [bisF_find (same (common ++ a) y) common.length _ 0 _ 0 (by omega) (by omega) (by rw [hmin]; omega) fun k hk => hsame k (by rw [hmin] at hk; exact hk)]
  rw [bisect_eq _ _ hx hy, Option.bind_some, hb1]
  simp only [beq_self_eq_true, cond_true]
  by_cases hn : min a.length b.length = 0
  · rw [hn]
    simp [alive_eq, law53_DesyncFinds.j3_eq]
  · rw [show (((min a.length b.length : Nat) : Int) == 0) = false from beq_eq_false_iff_ne.2 (by omega), cond_false]
    rw [equal_eq (common ++ a) y common.length hx hy (by simp; omega) (by omega) fun k hk => hsame k (by omega)]
    simp [alive_eq, law53_DesyncFinds.j3_eq]
end Go.Proofs.Ytgamdchlgikaiaa
