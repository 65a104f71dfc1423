/- Bisect, and the statements on it; the fixed examples. -/
import Derived.Test.YtgamdchlgikaiaaP5
set_option linter.unusedVariables false
set_option linter.unusedSimpArgs false
namespace Go.Proofs.Ytgamdchlgikaiaa
open Go Go.Sk

def bisF (eq : Nat → Bool) : Nat → Nat → Nat → Nat → Nat × Nat
  | 0, lo, hi, n => (lo, n)
  | m + 1, lo, hi, n => if lo < hi then (if eq ((lo + hi) / 2) then bisF eq m ((lo + hi) / 2 + 1) hi (n + 1) else bisF eq m lo ((lo + hi) / 2) (n + 1)) else (lo, n)
def same (a b : List Int) (k : Nat) : Bool := a[k]? == b[k]?
def pairI (q : Nat × Nat) : Int × Int := (q.1, q.2)

theorem bisect_loop (a b : List Int) (ha : a.length ≤ big) (hb : b.length ≤ big) : ∀ m lo hi n, hi - lo ≤ m → hi ≤ a.length → hi ≤ b.length → n + m ≤ 2 * big → lo ≤ big →
    desync_Bisect.j0 lo hi n a b = some (pairI (bisF (same a b) m lo hi n)) := by
  unfold big at ha hb
  intro m
  induction m with
  | zero =>
    intro lo hi n h1 h2 h3 h4 h5
    rw [desync_Bisect.j0_eq, show decide (((lo : Nat) : Int) < ((hi : Nat) : Int)) = false by simp; omega]
    rfl
  | succ m ih =>
    intro lo hi n h1 h2 h3 h4 h5
    unfold big at h4 h5 ih
    rw [desync_Bisect.j0_eq]
    by_cases hlt : lo < hi
    · have hk : (lo + hi) / 2 < hi := by omega
      have hkl : lo ≤ (lo + hi) / 2 := by omega
      have e1 : IntKind.i64.wrap ((lo : Int) + IntKind.i64.wrap (Int.tdiv (IntKind.i64.wrap ((hi : Int) - (lo : Int))) 2)) = (((lo + hi) / 2 : Nat) : Int) := by
        rw [wr_in (x := (hi : Int) - (lo : Int)) (by omega) (by omega), Int.tdiv_eq_ediv_of_nonneg (by omega), wr_in (x := ((hi : Int) - (lo : Int)) / 2) (by omega) (by omega), wr_in (by omega) (by omega)]
        omega
      have ga : a[(lo + hi) / 2]? = some (a[(lo + hi) / 2]'(by omega)) := List.getElem?_eq_getElem (by omega)
      have gb : b[(lo + hi) / 2]? = some (b[(lo + hi) / 2]'(by omega)) := List.getElem?_eq_getElem (by omega)
      rw [lt_true hlt, cond_true, e1]
      simp only [desync_Bisect_1.f_eq, idx_nat, ga, gb, Option.bind_some, desync_Bisect.j1_eq, bisF, if_pos hlt]
      have es : same a b ((lo + hi) / 2) = (a[(lo + hi) / 2]'(by omega) == b[(lo + hi) / 2]'(by omega)) := by unfold same; rw [ga, gb]; rfl
      rw [es, wr_succ (n := 3000000) (k := n) (by omega) (by omega), wr_succ hk (by omega)]
      cases (a[(lo + hi) / 2]'(by omega) == b[(lo + hi) / 2]'(by omega)) with
      | true => exact ih _ _ _ (by omega) h2 h3 (by omega) (by omega)
      | false => exact ih _ _ _ (by omega) (by omega) (by omega) (by omega) h5
    · rw [lt_false (by omega), cond_false]
      simp only [bisF, if_neg hlt]
      rfl
theorem refbisect_loop (a b : List Int) (ha : a.length ≤ big) (hb : b.length ≤ big) : ∀ m lo hi n, hi - lo ≤ m → hi ≤ a.length → hi ≤ b.length → n + m ≤ 2 * big → lo ≤ big →
    ref53_Bisect.j0 a b lo hi n = some (pairI (bisF (same a b) m lo hi n)) := by
  unfold big at ha hb
  intro m
  induction m with
  | zero =>
    intro lo hi n h1 h2 h3 h4 h5
    rw [ref53_Bisect.j0_eq, show decide (((lo : Nat) : Int) < ((hi : Nat) : Int)) = false by simp; omega]
    rfl
  | succ m ih =>
    intro lo hi n h1 h2 h3 h4 h5
    unfold big at h4 h5 ih
    rw [ref53_Bisect.j0_eq]
    by_cases hlt : lo < hi
    · have hk : (lo + hi) / 2 < hi := by omega
      have e1 : IntKind.i64.wrap (Int.tdiv (IntKind.i64.wrap ((lo : Int) + (hi : Int))) 2) = (((lo + hi) / 2 : Nat) : Int) := by
        rw [wr_in (x := (lo : Int) + (hi : Int)) (by omega) (by omega), Int.tdiv_eq_ediv_of_nonneg (by omega), wr_in (by omega) (by omega)]
        omega
      have ga : a[(lo + hi) / 2]? = some (a[(lo + hi) / 2]'(by omega)) := List.getElem?_eq_getElem (by omega)
      have gb : b[(lo + hi) / 2]? = some (b[(lo + hi) / 2]'(by omega)) := List.getElem?_eq_getElem (by omega)
      rw [lt_true hlt, cond_true, e1]
      simp only [idx_nat, ga, gb, Option.bind_some, ref53_Bisect.j1_eq, bisF, if_pos hlt]
      have es : same a b ((lo + hi) / 2) = (a[(lo + hi) / 2]'(by omega) == b[(lo + hi) / 2]'(by omega)) := by unfold same; rw [ga, gb]; rfl
      rw [es, wr_succ (n := 3000000) (k := n) (by omega) (by omega), wr_succ hk (by omega)]
      cases (a[(lo + hi) / 2]'(by omega) == b[(lo + hi) / 2]'(by omega)) with
      | true => exact ih _ _ _ (by omega) h2 h3 (by omega) (by omega)
      | false => exact ih _ _ _ (by omega) (by omega) (by omega) (by omega) h5
    · rw [lt_false (by omega), cond_false]
      simp only [bisF, if_neg hlt]
      rfl
def bisM (a b : List Int) : Nat × Nat := bisF (same a b) (min a.length b.length) 0 (min a.length b.length) 0
theorem bisect_eq (a b : List Int) (ha : a.length ≤ big) (hb : b.length ≤ big) : desync_Bisect.f a b = some (pairI (bisM a b)) := by
  rw [desync_Bisect.f_eq, min_if]
  exact bisect_loop a b ha hb (min a.length b.length) 0 (min a.length b.length) 0 (by omega) (by omega) (by omega) (by unfold big at *; omega) (by omega)
theorem refbisect_eq (a b : List Int) (ha : a.length ≤ big) (hb : b.length ≤ big) : ref53_Bisect.f a b = some (pairI (bisM a b)) := by
  rw [ref53_Bisect.f_eq, min_if]
  exact refbisect_loop a b ha hb (min a.length b.length) 0 (min a.length b.length) 0 (by omega) (by omega) (by omega) (by unfold big at *; omega) (by omega)

/-! ### the fixed examples -/
theorem alive_eq : law53_alive.f = some true := by
  have b1 : desync_Bisect.f [1, 2, 3, 4] [1, 2, 5, 6] = some (2, 2) := (bisect_eq _ _ (by decide) (by decide)).trans (by decide)
  have b2 : desync_Blame.f [(1, 0, 7), (2, 0, 8), (3, 0, 8)] = some [1] := (blame_eq _ (by decide)).trans (by decide)
  have b3 : desync_Compare.f [(0, 4, 1), (0, 3, 1)] [(0, 3, 2), (0, 4, 2)] = some (3, true) := (compare_eq _ _ (by decide) (by decide)).trans (by decide)
  have b4 : desync_Report.f 0 0 0 false 0 0 0 false 0 0 0 0 [(0, 3, 1)] [(2, 3, 2), (3, 3, 1), (2, 4, 9)] = some [(2, 3, 2)] := (report_eq _ _ (by decide) (by decide)).trans (by decide)
  rw [law53_alive.f_eq, b1, b2, b3, b4]
  simp [law53_alive.j0_eq]

/-! ### the number of comparisons -/
def bits : Nat → Nat → Nat
  | 0, _ => 0
  | f + 1, x => if x = 0 then 0 else bits f (x / 2) + 1
theorem bits_mono : ∀ f g x y, x ≤ y → x ≤ f → y ≤ g → bits f x ≤ bits g y
  | 0, g, x, y, h, hf, hg => by simp [bits]
  | f + 1, 0, x, y, h, hf, hg => by have : x = 0 := by omega
                                    simp [bits, this]
  | f + 1, g + 1, x, y, h, hf, hg => by
    unfold bits
    by_cases hx : x = 0
    · simp [hx]
    · rw [if_neg hx, if_neg (by omega)]
      have := bits_mono f g (x / 2) (y / 2) (by omega) (by omega) (by omega)
      omega
theorem bisF_count (eq : Nat → Bool) : ∀ m lo hi n, hi - lo ≤ m → (bisF eq m lo hi n).2 ≤ n + bits (hi - lo) (hi - lo)
  | 0, lo, hi, n, h => by simp [bisF]
  | m + 1, lo, hi, n, h => by
    unfold bisF
    by_cases hlt : lo < hi
    · rw [if_pos hlt]
      obtain ⟨d, hd⟩ : ∃ d, hi - lo = d + 1 := ⟨hi - lo - 1, by omega⟩
      have hb : bits (hi - lo) (hi - lo) = bits d ((d + 1) / 2) + 1 := by rw [hd]; simp [bits]
      rw [hb]
      split
      · have h1 := bisF_count eq m ((lo + hi) / 2 + 1) hi (n + 1) (by omega)
        have h2 := bits_mono (hi - ((lo + hi) / 2 + 1)) d (hi - ((lo + hi) / 2 + 1)) ((d + 1) / 2) (by omega) (by omega) (by omega)
        omega
      · have h1 := bisF_count eq m lo ((lo + hi) / 2) (n + 1) (by omega)
        have h2 := bits_mono ((lo + hi) / 2 - lo) d ((lo + hi) / 2 - lo) ((d + 1) / 2) (by omega) (by omega) (by omega)
        omega
    · rw [if_neg hlt]; simp

theorem bisects (a b : List Int) : law53_DesyncBisects.f a b = some true := by
  rw [law53_DesyncBisects.f_eq]
  have big1 : law53_DesyncBisects.j0 a b true = some true := by rw [law53_DesyncBisects.j0_eq]; simp [alive_eq]
  by_cases h1 : a.length > 2000
  · rw [show decide (((a.length : Nat) : Int) > 2000) = true by simp; omega]; exact big1
  rw [show decide (((a.length : Nat) : Int) > 2000) = false by simp; omega, cond_false]
  by_cases h2 : b.length > 2000
  · rw [show decide (((b.length : Nat) : Int) > 2000) = true by simp; omega]; exact big1
  rw [show decide (((b.length : Nat) : Int) > 2000) = false by simp; omega, law53_DesyncBisects.j0_eq, cond_false, bisect_eq a b (by unfold big; omega) (by unfold big; omega), refbisect_eq a b (by unfold big; omega) (by unfold big; omega), Option.bind_some, Option.bind_some, min_if]
  have hcount := bisF_count (same a b) (min a.length b.length) 0 (min a.length b.length) 0 (by omega)
  have key : ∀ f x d, x ≤ f → d + f ≤ 4000000 → law53_DesyncBisects.j1 (pairI (bisM a b)).1 (pairI (bisM a b)).2 (pairI (bisM a b)).1 (pairI (bisM a b)).2 (d : Nat) (x : Nat) = law53_DesyncBisects.j1 (pairI (bisM a b)).1 (pairI (bisM a b)).2 (pairI (bisM a b)).1 (pairI (bisM a b)).2 ((d + bits f x : Nat) : Int) ((0 : Nat) : Int) := by
    intro f
    induction f with
    | zero => intro x d hx _; rw [show x = 0 by omega]; rfl
    | succ f ih =>
      intro x d hx hd
      by_cases h0 : x = 0
      · subst h0; simp [bits]
      · rw [law53_DesyncBisects.j1_eq, show decide (((x : Nat) : Int) > 0) = true by simp; omega, cond_true, Int.tdiv_eq_ediv_of_nonneg (by omega), wr_in (x := ((x : Nat) : Int) / 2) (by omega) (by omega), wr_succ (n := 5000000) (by omega) (by omega)]
        have := ih (x / 2) (d + 1) (by omega) (by omega)
        rw [show (((x : Nat) : Int) / 2) = ((x / 2 : Nat) : Int) by omega, this]
        congr 2
        simp [bits, h0]
        omega
  have := key (min a.length b.length) (min a.length b.length) 0 (Nat.le_refl _) (by omega)
  rw [show ((0 : Nat) : Int) = 0 from rfl] at this
  rw [this, law53_DesyncBisects.j1_eq]
  simp only [show decide ((0 : Int) > 0) = false from rfl, cond_false, beq_self_eq_true, cond_true]
  have hle : decide ((pairI (bisM a b)).2 ≤ ((0 + bits (min a.length b.length) (min a.length b.length) : Nat) : Int)) = true := by
    simp only [Nat.sub_zero] at hcount
    exact decide_eq_true (Int.ofNat_le.2 hcount)
  rw [hle, cond_true, alive_eq]
  simp [law53_DesyncBisects.j2_eq]
end Go.Proofs.Ytgamdchlgikaiaa
