/- Plain words for the equations: integers that do not wrap, indexes, tests. -/
import Derived.Test.YtgamdchlgikaiaaSkB
import Derived.IntWalk
set_option linter.unusedSimpArgs false
set_option linter.unusedVariables false
namespace Go.Sk
open Go

theorem wr_in {x : Int} (h0 : -9223372036854775808 ≤ x) (h1 : x ≤ 9223372036854775807) : IntKind.i64.wrap x = x := by
  exact IntWalk.i64_in _ ⟨h0, h1⟩
theorem wr_succ {k n : Nat} (h : k < n) (hn : n ≤ 9223372036854775807) : IntKind.i64.wrap ((k : Int) + 1) = ((k + 1 : Nat) : Int) := by
  rw [wr_in (by omega) (by omega)]; rfl
theorem idx_nat {α : Type} (xs : List α) (k : Nat) : idx xs (k : Int) = xs[k]? := by
  unfold idx; rw [if_pos (by omega)]; rfl
theorem cond_dec {α : Type} {p : Prop} [Decidable p] (x y : α) : (bif decide p then x else y) = if p then x else y := by
  by_cases h : p <;> simp [h]
theorem min_if (a b : Nat) : (if (b : Int) < (a : Int) then (b : Int) else (a : Int)) = ((min a b : Nat) : Int) := by
  by_cases h : b < a
  · rw [if_pos (by omega)]; congr 1; omega
  · rw [if_neg (by omega)]; congr 1; omega
theorem dec_in {n : Nat} {k : Nat} (h : k < n) : (decide (0 ≤ (k : Int)) && decide ((k : Int) < (n : Int))) = true := by
  simp [h]
theorem lt_true {k n : Nat} (h : k < n) : decide ((k : Int) < (n : Int)) = true := by simp [h]
theorem lt_false {k n : Nat} (h : n ≤ k) : decide ((k : Int) < (n : Int)) = false := by simp; omega

/-! ### loops over lists -/
section
variable {α β γ : Type}
/-- a loop over a list, with a state and early ends -/
def foldE (step : β → α → Option (γ ⊕ β)) (fin : β → Option γ) : List α → β → Option γ
  | [], b => fin b
  | x :: r, b => (step b x).bind fun q => match q with | .inl g => some g | .inr b' => foldE step fin r b'
theorem loopE (xs : List α) (step : β → α → Option (γ ⊕ β)) (fin : β → Option γ) (F : β → Int → Option γ)
    (hF : ∀ b (k : Nat) (hk : k < xs.length), F b k = (step b xs[k]).bind fun q => match q with | .inl g => some g | .inr b' => F b' ((k + 1 : Nat) : Int))
    (hE : ∀ b, F b xs.length = fin b) (b : β) : F b 0 = foldE step fin xs b := by
  have key : ∀ m k b, k + m = xs.length → F b k = foldE step fin (xs.drop k) b := by
    intro m
    induction m with
    | zero => intro k b hk; rw [List.drop_of_length_le (by omega), show k = xs.length by omega, hE]; rfl
    | succ m ih =>
      intro k b hk
      have hlt : k < xs.length := by omega
      rw [hF b k hlt, List.drop_eq_getElem_cons hlt]
      simp only [foldE]
      congr 1
      funext q
      cases q with
      | inl g => rfl
      | inr b' => exact ih (k + 1) b' (by omega)
  simpa using key xs.length 0 b (by omega)
/-- the same, where a round looks at its number -/
theorem loopI (xs : List α) (step : β → α × Nat → Option (γ ⊕ β)) (fin : β → Option γ) (F : β → Int → Option γ)
    (hF : ∀ b (k : Nat) (hk : k < xs.length), F b k = (step b (xs[k], k)).bind fun q => match q with | .inl g => some g | .inr b' => F b' ((k + 1 : Nat) : Int))
    (hE : ∀ b, F b xs.length = fin b) (b : β) : F b 0 = foldE step fin xs.zipIdx b :=
  loopE xs.zipIdx step fin F (fun b k hk => by
    have hk' : k < xs.length := by simpa using hk
    rw [hF b k hk']
    simp) (fun b => by rw [List.length_zipIdx]; exact hE b) b
/-- no early end: a fold -/
theorem foldE_foldl (f : β → α → β) (fin : β → Option γ) : ∀ (xs : List α) (b : β), foldE (fun b x => some (.inr (f b x))) fin xs b = fin (xs.foldl f b)
  | [], b => rfl
  | x :: r, b => by simp only [foldE, Option.bind_some, List.foldl_cons]; exact foldE_foldl f fin r _
theorem foldE_congr {step step' : β → α → Option (γ ⊕ β)} {fin : β → Option γ} : ∀ {xs : List α} (h : ∀ b x, x ∈ xs → step b x = step' b x) (b : β), foldE step fin xs b = foldE step' fin xs b
  | [], _, b => rfl
  | x :: r, h, b => by
    simp only [foldE]
    rw [h b x (by simp)]
    congr 1
    funext q
    cases q with
    | inl g => rfl
    | inr b' => exact foldE_congr (fun b y hy => h b y (by simp [hy])) b'
/-- the first element that a test holds of -/
theorem foldE_find (p : α → Bool) (g : Nat → γ) (d : Option γ) : ∀ (xs : List α) (n : Nat), foldE (fun (b : Unit) (q : α × Nat) => some (bif p q.1 then .inl (g q.2) else .inr b)) (fun _ => d) (xs.zipIdx n) () = match xs.findIdx? p with | some k => some (g (n + k)) | none => d
  | [], n => rfl
  | x :: r, n => by
    simp only [List.zipIdx_cons, foldE, Option.bind_some, List.findIdx?_cons]
    cases h : p x with
    | true => simp
    | false =>
      simp only [cond_false]
      rw [foldE_find p g d r (n + 1)]
      cases r.findIdx? p <;> simp
      congr 1
      omega
theorem find_findIdx (p : α → Bool) : ∀ (xs : List α), xs.find? p = (xs.findIdx? p).bind fun k => xs[k]?
  | [] => rfl
  | x :: r => by
    rw [List.find?_cons, List.findIdx?_cons]
    cases h : p x with
    | true => simp
    | false =>
      simp only [Bool.false_eq_true, if_false]
      rw [find_findIdx p r]
      cases r.findIdx? p <;> simp
/-- the first element, itself handed on -/
theorem foldE_find1 (p : α → Bool) (g : α → γ) (d : Option γ) : ∀ (xs : List α), foldE (fun (b : Unit) (x : α) => some (bif p x then .inl (g x) else .inr b)) (fun _ => d) xs () = match xs.find? p with | some x => some (g x) | none => d
  | [] => rfl
  | x :: r => by
    simp only [foldE, Option.bind_some, List.find?_cons]
    cases h : p x with
    | true => simp
    | false => simp only [cond_false]; exact foldE_find1 p g d r
/-- what a test holds of is collected -/
theorem foldE_filter {δ : Type} (p : α → Bool) (f : α → δ) (c M : Nat) (fin : List δ → Option γ) : ∀ (xs : List α) (acc : List δ), (acc.length + xs.length) * c ≤ M →
    foldE (fun acc x => bif p x then (bif decide ((acc.length + 1) * c ≤ M) then some (.inr (acc ++ [f x])) else none) else some (.inr acc)) fin xs acc = fin (acc ++ (xs.filter p).map f)
  | [], acc, _ => by simp [foldE]
  | x :: r, acc, h => by
    simp only [foldE, List.filter_cons]
    have h1 : (acc.length + 1) * c ≤ M := Nat.le_trans (Nat.mul_le_mul_right c (by simp)) h
    cases hp : p x with
    | false =>
      simp only [cond_false, Option.bind_some, Bool.false_eq_true, if_false]
      exact foldE_filter p f c M fin r acc (Nat.le_trans (Nat.mul_le_mul_right c (by simp)) h)
    | true =>
      simp only [cond_true, h1, decide_true, Option.bind_some, if_true, List.map_cons]
      rw [foldE_filter p f c M fin r (acc ++ [f x]) (by simp at h ⊢; rw [show acc.length + 1 + r.length = acc.length + (r.length + 1) by omega]; exact h)]
      simp
end
end Go.Sk
