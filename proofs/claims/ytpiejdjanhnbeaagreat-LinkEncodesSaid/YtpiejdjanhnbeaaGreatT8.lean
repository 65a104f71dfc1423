/- The functions' equations, all parts. -/
import Derived.Test.YtpiejdjanhnbeaaGreatT6
import Derived.Test.YtpiejdjanhnbeaaGreatT7
import Derived.Test.YtpiejdjanhnbeaaGreatT4
import Derived.Test.YtpiejdjanhnbeaaGreatT5
import Derived.KernelRfl
import Derived.Test.YtpiejdjanhnbeaaGreatProg
import Derived.Shelf.Strings.Builder1
import Derived.Tactics
import Derived.Tactics2
import Derived.WalkKit
import Derived.Shelf.SlIterI.Nil
import Derived.Shelf.SortM.Plain
import Derived.Shelf.SortM.SortNone
import Derived.Ground.GgzProg
import Derived.Ground.SlgmProg


/- Numbers, texts and truth values as bytes: the program's and the answer's. -/
set_option linter.unusedVariables false
set_option linter.unusedSimpArgs false
set_option maxHeartbeats 4000000
namespace Go.Proofs.YtpiejdjanhnbeaaGreat
open Go Go.Sk
abbrev VecT : Type := Int × Int
abbrev cVec : Ty := .pair (.int .i64) (.int .i64)

/-! ### Uint -/
theorem tmod128 (n : Nat) : Int.tmod (n : Int) 128 = ((n % 128 : Nat) : Int) := tmod_nat n 128
theorem tdiv128 (n : Nat) : Int.tdiv (n : Int) 128 = ((n / 128 : Nat) : Int) := tdiv_nat n 128
theorem byte_w (n : Nat) : IntKind.u8.wrap (IntKind.u8.wrap (Int.tmod (n : Int) 128) + 128) = ((128 + n % 128 : Nat) : Int) := by
  rw [tmod128, wrap_u8, wrap_u8]; omega
theorem byte_r (n : Nat) : IntKind.u8.wrap (IntKind.u64.wrap (128 + Int.tmod (n : Int) 128)) = ((128 + n % 128 : Nat) : Int) := by
  rw [tmod128, wrap_u8, wrap_u64]; omega
theorem half (n : Nat) (h : n < 18446744073709551616) : IntKind.u64.wrap (Int.tdiv (n : Int) 128) = ((n / 128 : Nat) : Int) := by
  rw [tdiv128, u64_nat (by omega)]
abbrev ints (l : List Nat) : List Int := l.map fun n : Nat => (n : Int)
theorem wUint_j (n : Nat) : ∀ (o : List Int), n < 18446744073709551616 → o.length + (uvL n).length ≤ 1000 → wire_Uint.j0 (n : Int) o = some (bytesOf (o ++ ints (uvL n))) := by
  induction n using Nat.strongRecOn with
  | ind n ih =>
    intro o hn hl
    rw [wire_Uint.j0_eq]
    by_cases h : n < 128
    · rw [uvL_small h] at hl ⊢
      simp only [List.length_singleton] at hl
      rw [decide_eq_false (show ¬ (n : Int) ≥ 128 by omega), cond_false, u8_nat (by omega)]
      simp only [Int.toNat_natCast, List.take_length, List.drop_zero, List.length_singleton, Int.le_refl, decide_true, Bool.and_true, cond_dec, ← Bool.decide_and]
      rw [if_pos (by omega), show (decide (o.length = 0) || decide (0 < 1)) = true by simp, Bool.true_and, cond_dec, if_pos (by omega)]
      rfl
    · rw [uvL_big h] at hl ⊢
      simp only [List.length_cons] at hl
      rw [decide_eq_true (show (n : Int) ≥ 128 by omega), cond_true, byte_w, half n hn, List.length_singleton, cond_dec, if_pos (by omega), ih (n / 128) (by omega) _ (by omega) (by simp; omega)]
      simp [ints]
theorem wUint (n : Nat) (h : n < 18446744073709551616) : wire_Uint.f (n : Int) = some (uvT n) := by
  have := uvL_len10 h
  rw [wire_Uint.f_eq, wUint_j n [] h (by simp; omega), List.nil_append, txt_bytes]
  rfl
theorem rUint_j (n : Nat) : ∀ (s : ByteArray), n < 18446744073709551616 → s.size + (uvL n).length ≤ 1000 → ref04_Uint.j0 (n : Int) s = some (s ++ uvT n) := by
  induction n using Nat.strongRecOn with
  | ind n ih =>
    intro s hn hl
    rw [ref04_Uint.j0_eq]
    by_cases h : n < 128
    · unfold uvT
      rw [uvL_small h] at hl ⊢
      simp only [List.length_singleton] at hl
      rw [decide_eq_false (show ¬ (n : Int) ≥ 128 by omega), cond_false, u8_nat (by omega), show [(n : Int)] = ints [n] from rfl, txt_bytes, txt_size, cond_dec, List.length_singleton, if_pos (by omega)]
    · unfold uvT
      rw [uvL_big h] at hl ⊢
      simp only [List.length_cons] at hl
      rw [decide_eq_true (show (n : Int) ≥ 128 by omega), cond_true, byte_r, half n hn, show [((128 + n % 128 : Nat) : Int)] = ints [128 + n % 128] from rfl, txt_bytes, txt_size, cond_dec, List.length_singleton, if_pos (by omega),
        ih (n / 128) (by omega) _ (by omega) (by rw [ByteArray.size_append, txt_size, List.length_singleton]; omega)]
      unfold uvT
      rw [ByteArray.append_assoc, txt_append]
      rfl
theorem rUint (n : Nat) (h : n < 18446744073709551616) : ref04_Uint.f (n : Int) = some (uvT n) := by
  have := uvL_len10 h
  rw [ref04_Uint.f_eq, rUint_j n _ h (by rw [size_zero.1 rfl]; omega)]
  congr 1
/-! ### Int -/
def ivT (n : Int) : ByteArray := uvT (zz n)
theorem wInt (n : Int) (h : I64 n) : wire_Int.f n = some (ivT n) := by
  rw [wire_Int.f_eq, zz_prog h, wUint _ (zz_lt h)]
  rfl
theorem rInt (n : Int) (h : I64 n) : ref04_Int.f n = some (ivT n) := by
  rw [ref04_Int.f_eq]
  have e := zz_ref h
  cases hn : decide (n < 0) with
  | true => rw [hn, cond_true] at e; rw [cond_true, e, rUint _ (zz_lt h)]; rfl
  | false => rw [hn, cond_false] at e; rw [cond_false, e, rUint _ (zz_lt h)]; rfl
theorem ivT_size {n : Int} (h : I64 n) : (ivT n).size ≤ 10 := by
  unfold ivT uvT
  rw [txt_size]
  exact uvL_len10 (zz_lt h)
theorem ivT_pos (n : Int) : 0 < (ivT n).size := by
  unfold ivT uvT
  rw [txt_size]
  exact uvL_pos _
/-! ### TakeUint -/
theorem at_in {a k N : Nat} (h : a + k ≤ N) (hN : N ≤ 1000000) : IntKind.i64.wrap ((a : Int) + (k : Int)) = ((a + k : Nat) : Int) := by
  rw [wr_in (by omega) (by omega)]; rfl
theorem drop_get (l : List Nat) (p : Nat) (h : p < l.length) : l.drop p = l[p] :: l.drop (p + 1) := List.drop_eq_getElem_cons h
theorem k9 (k : Nat) : ((k : Int) == 9) = decide (k = 9) := by
  rw [beq_dec]; congr 1; apply propext; omega
theorem c0 (c : Nat) : ((c : Int) == 0) = decide (c = 0) := by
  rw [beq_dec]; congr 1; apply propext; omega
theorem mul_small {c k : Nat} (hk : k ≤ 9) (h : ¬ (k = 9 ∧ 1 < c)) : (c % 128) * 2 ^ (7 * k) < 18446744073709551616 := by
  rcases Nat.lt_or_ge k 9 with h5 | h5
  · have h6 : 2 ^ (7 * k) ≤ 2 ^ (7 * 8) := Nat.pow_le_pow_right (by omega) (by omega)
    have h7 : (c % 128) * 2 ^ (7 * k) ≤ 127 * 2 ^ (7 * 8) := Nat.mul_le_mul (by omega) h6
    have h8 : (2 : Nat) ^ (7 * 8) = 72057594037927936 := rfl
    omega
  · have h6 : k = 9 := by omega
    subst h6
    have h7 : (2 : Nat) ^ (7 * 9) = 9223372036854775808 := rfl
    rw [h7]
    omega
theorem next_small {n c k : Nat} (hn : n < 2 ^ (7 * k)) : n + (c % 128) * 2 ^ (7 * k) < 2 ^ (7 * (k + 1)) := by
  have h1 : 2 ^ (7 * (k + 1)) = 128 * 2 ^ (7 * k) := by rw [show 7 * (k + 1) = 7 * k + 7 by omega, Nat.pow_add, Nat.mul_comm]
  have h2 : (c % 128) * 2 ^ (7 * k) ≤ 127 * 2 ^ (7 * k) := Nat.mul_le_mul_right _ (by omega)
  omega
theorem lt64 {n k : Nat} (hk : k ≤ 9) (hn : n < 2 ^ (7 * k)) : n < 18446744073709551616 := by
  have h6 : 2 ^ (7 * k) ≤ 2 ^ (7 * 9) := Nat.pow_le_pow_right (by omega) (by omega)
  have h7 : (2 : Nat) ^ (7 * 9) = 9223372036854775808 := rfl
  omega
theorem wTake_j (s : ByteArray) (hs : s.size ≤ 100000) (a : Nat) : ∀ (m k n : Nat), k + m = 10 → a + k ≤ s.size → n < 2 ^ (7 * k) → wire_TakeUint.j0 s a n k = some (tkB ((bts s).drop (a + k)) n k (a + k)) := by
  intro m
  induction m with
  | zero =>
    intro k n hk ha hn
    obtain rfl : k = 10 := by omega
    rw [wire_TakeUint.j0_eq]
    cases (bts s).drop (a + 10) with
    | nil => rfl
    | cons c r => rfl
  | succ m ih =>
    intro k n hk ha hn
    rw [wire_TakeUint.j0_eq, decide_eq_true (show (k : Int) < 10 by omega), cond_true, at_in ha (by omega)]
    rcases Nat.lt_or_ge (a + k) s.size with hlt | hge
    · have hlt' : a + k < (bts s).length := by rw [bts_len]; exact hlt
      rw [decide_eq_false (show ¬ ((a + k : Nat) : Int) ≥ (s.size : Int) by omega), cond_false, byteAt_bts s _ hlt', Option.bind_some, drop_get _ _ hlt']
      generalize hce : (bts s)[a + k] = c
      have hc : c < 256 := by rw [← hce]; exact bts_lt s _ (List.getElem_mem _)
      have e1 : decide (0 ≤ IntKind.i64.wrap (7 * (k : Int))) = true := by rw [wr_in (by omega) (by omega)]; exact decide_eq_true (by omega)
      have e2 : IntKind.i64.wrap (((a + k : Nat) : Int) + 1) = ((a + k + 1 : Nat) : Int) := wr_succ hlt (by omega)
      have e3 : IntKind.i64.wrap ((k : Int) + 1) = ((k + 1 : Nat) : Int) := wr_succ (n := 10) (by omega) (by omega)
      rw [k9, tmod128, u64_nat (n := c % 128) (by omega), pow7 (k := k) (by omega), e1, e2, e3, c0]
      unfold tkB
      rw [if_neg (by omega)]
      by_cases hB : k = 9 ∧ 1 < c
      · rw [if_pos hB, decide_eq_true hB.1, cond_true, decide_eq_true (show (c : Int) > 1 by omega), cond_true]
      · rw [if_neg hB, or_add hn (mul_small (by omega) hB) (lt64 (by omega) hn)]
        have hrest : wire_TakeUint.j0 s a ((n + c % 128 * 2 ^ (7 * k) : Nat) : Int) ((k + 1 : Nat) : Int) = some (tkB ((bts s).drop (a + k + 1)) (n + c % 128 * 2 ^ (7 * k)) (k + 1) (a + k + 1)) :=
          ih (k + 1) _ (by omega) (by omega) (next_small hn)
        rw [hrest]
        by_cases hk9 : k = 9
        · have hc1 : c ≤ 1 := by omega
          rw [decide_eq_true hk9, cond_true, decide_eq_false (show ¬ (c : Int) > 1 by omega), cond_false, cond_true, decide_eq_true (show (c : Int) < 128 by omega), cond_true, if_pos (show c < 128 by omega), show c % 128 = c by omega]
          by_cases h0 : c = 0
          · rw [decide_eq_true h0, cond_true, decide_eq_true (show (k : Int) > 0 by omega), cond_true, if_pos (show c = 0 ∧ 0 < k by omega)]
          · rw [decide_eq_false h0, cond_false, if_neg (show ¬ (c = 0 ∧ 0 < k) by omega)]
        · rw [decide_eq_false hk9, cond_false, cond_true]
          by_cases h1 : c < 128
          · rw [decide_eq_true (show (c : Int) < 128 by omega), cond_true, if_pos h1, show c % 128 = c by omega]
            by_cases h0 : c = 0
            · rw [decide_eq_true h0, cond_true]
              by_cases hk0 : 0 < k
              · rw [decide_eq_true (show (k : Int) > 0 by omega), cond_true, if_pos ⟨h0, hk0⟩]
              · rw [decide_eq_false (show ¬ (k : Int) > 0 by omega), cond_false, if_neg (show ¬ (c = 0 ∧ 0 < k) by omega)]
            · rw [decide_eq_false h0, cond_false, if_neg (show ¬ (c = 0 ∧ 0 < k) by omega)]
          · rw [decide_eq_false (show ¬ (c : Int) < 128 by omega), cond_false, if_neg h1]
    · rw [decide_eq_true (show ((a + k : Nat) : Int) ≥ (s.size : Int) by omega), cond_true, List.drop_of_length_le (by rw [bts_len]; omega)]
      unfold tkB
      rw [if_pos (by omega)]
theorem rTake_j (s : ByteArray) (hs : s.size ≤ 100000) (a : Nat) : ∀ (m k n : Nat), k + m = 10 → a + k ≤ s.size → n < 2 ^ (7 * k) → ref04_TakeUint.j0 s a n k = some (tkB ((bts s).drop (a + k)) n k (a + k)) := by
  intro m
  induction m with
  | zero =>
    intro k n hk ha hn
    obtain rfl : k = 10 := by omega
    rw [ref04_TakeUint.j0_eq]
    cases (bts s).drop (a + 10) with
    | nil => rfl
    | cons c r => rfl
  | succ m ih =>
    intro k n hk ha hn
    rw [ref04_TakeUint.j0_eq, decide_eq_true (show (k : Int) < 10 by omega), cond_true, at_in ha (by omega)]
    rcases Nat.lt_or_ge (a + k) s.size with hlt | hge
    · have hlt' : a + k < (bts s).length := by rw [bts_len]; exact hlt
      rw [decide_eq_false (show ¬ ((a + k : Nat) : Int) ≥ (s.size : Int) by omega), cond_false, byteAt_bts s _ hlt', Option.bind_some, drop_get _ _ hlt']
      generalize hce : (bts s)[a + k] = c
      have hc : c < 256 := by rw [← hce]; exact bts_lt s _ (List.getElem_mem _)
      have e0 : IntKind.u64.wrap (IntKind.i64.wrap (7 * (k : Int))) = IntKind.i64.wrap (7 * (k : Int)) := by rw [wr_in (by omega) (by omega), wrap_u64]; omega
      have e1 : decide (0 ≤ IntKind.i64.wrap (7 * (k : Int))) = true := by rw [wr_in (by omega) (by omega)]; exact decide_eq_true (by omega)
      have e2 : IntKind.i64.wrap (((a + k : Nat) : Int) + 1) = ((a + k + 1 : Nat) : Int) := wr_succ hlt (by omega)
      have e3 : IntKind.i64.wrap ((k : Int) + 1) = ((k + 1 : Nat) : Int) := wr_succ (n := 10) (by omega) (by omega)
      rw [k9, e0, and127 hc, u64_nat (n := c % 128) (by omega), pow7 (k := k) (by omega), e1, e2, e3, c0]
      unfold tkB
      rw [if_neg (by omega)]
      by_cases hB : k = 9 ∧ 1 < c
      · rw [if_pos hB, decide_eq_true hB.1, cond_true, decide_eq_true (show (c : Int) > 1 by omega), cond_true]
      · rw [if_neg hB, or_add hn (mul_small (by omega) hB) (lt64 (by omega) hn)]
        have hrest : ref04_TakeUint.j0 s a ((n + c % 128 * 2 ^ (7 * k) : Nat) : Int) ((k + 1 : Nat) : Int) = some (tkB ((bts s).drop (a + k + 1)) (n + c % 128 * 2 ^ (7 * k)) (k + 1) (a + k + 1)) :=
          ih (k + 1) _ (by omega) (by omega) (next_small hn)
        rw [hrest]
        by_cases hk9 : k = 9
        · have hc1 : c ≤ 1 := by omega
          rw [decide_eq_true hk9, cond_true, decide_eq_false (show ¬ (c : Int) > 1 by omega), cond_false, cond_true, decide_eq_false (show ¬ (c : Int) ≥ 128 by omega), cond_false, if_pos (show c < 128 by omega), show c % 128 = c by omega]
          by_cases h0 : c = 0
          · rw [decide_eq_true h0, cond_true, decide_eq_true (show (k : Int) > 0 by omega), cond_true, if_pos (show c = 0 ∧ 0 < k by omega)]
          · rw [decide_eq_false h0, cond_false, if_neg (show ¬ (c = 0 ∧ 0 < k) by omega)]
        · rw [decide_eq_false hk9, cond_false, cond_true]
          by_cases h1 : c < 128
          · rw [decide_eq_false (show ¬ (c : Int) ≥ 128 by omega), cond_false, if_pos h1, show c % 128 = c by omega]
            by_cases h0 : c = 0
            · rw [decide_eq_true h0, cond_true]
              by_cases hk0 : 0 < k
              · rw [decide_eq_true (show (k : Int) > 0 by omega), cond_true, if_pos ⟨h0, hk0⟩]
              · rw [decide_eq_false (show ¬ (k : Int) > 0 by omega), cond_false, if_neg (show ¬ (c = 0 ∧ 0 < k) by omega)]
            · rw [decide_eq_false h0, cond_false, if_neg (show ¬ (c = 0 ∧ 0 < k) by omega)]
          · rw [decide_eq_true (show (c : Int) ≥ 128 by omega), cond_true, if_neg h1]
    · rw [decide_eq_true (show ((a + k : Nat) : Int) ≥ (s.size : Int) by omega), cond_true, List.drop_of_length_le (by rw [bts_len]; omega)]
      unfold tkB
      rw [if_pos (by omega)]
theorem wTakeU (s : ByteArray) (hs : s.size ≤ 100000) (a : Int) : wire_TakeUint.f s a = some (takeU s a) := by
  rw [wire_TakeUint.f_eq]
  unfold takeU
  rw [cond_dec, cond_dec]
  by_cases h0 : a < 0
  · rw [if_pos h0, if_pos h0]
  · rw [if_neg h0, if_neg h0]
    by_cases h1 : a > s.size
    · rw [if_pos h1, if_pos h1]
    · rw [if_neg h1, if_neg h1]
      obtain ⟨k, rfl⟩ : ∃ k : Nat, a = k := ⟨a.toNat, by omega⟩
      exact wTake_j s hs k 10 0 0 rfl (by omega) (by decide)
theorem rTakeU (s : ByteArray) (hs : s.size ≤ 100000) (a : Int) : ref04_TakeUint.f s a = some (takeU s a) := by
  rw [ref04_TakeUint.f_eq]
  unfold takeU
  rw [cond_dec, cond_dec]
  by_cases h0 : a < 0
  · rw [if_pos h0, if_pos h0]
  · rw [if_neg h0, if_neg h0]
    by_cases h1 : a > s.size
    · rw [if_pos h1, if_pos h1]
    · rw [if_neg h1, if_neg h1]
      obtain ⟨k, rfl⟩ : ∃ k : Nat, a = k := ⟨a.toNat, by omega⟩
      exact rTake_j s hs k 10 0 0 rfl (by omega) (by decide)
theorem takeU_fst (s : ByteArray) (a : Int) : ∃ u : Nat, (takeU s a).1 = u ∧ u < 18446744073709551616 := by
  unfold takeU
  split
  · exact ⟨0, rfl, by omega⟩
  split
  · exact ⟨0, rfl, by omega⟩
  exact tkB_fst _ _ _ _ (fun c hc => bts_lt s c (List.mem_of_mem_drop hc)) (by decide)
theorem takeU_snd (s : ByteArray) (a : Int) : ∃ q : Nat, (takeU s a).2.1 = q ∧ q ≤ s.size ∧ ((takeU s a).2.2 = 0 → 0 ≤ a ∧ a < q) := by
  unfold takeU
  split
  · exact ⟨0, rfl, by omega, fun h => by cases h⟩
  split
  · exact ⟨0, rfl, by omega, fun h => by cases h⟩
  obtain ⟨q, h1, h2, h3⟩ := tkB_snd ((bts s).drop a.toNat) 0 0 a.toNat
  refine ⟨q, h1, ?_, fun h => ?_⟩
  · rw [List.length_drop, bts_len] at h2
    omega
  · have := h3 h
    omega
/-- a number that stands there is read -/
theorem takeU_at (x y : ByteArray) (n : Nat) (hn : n < 18446744073709551616) : takeU (x ++ uvT n ++ y) x.size = ((n : Int), ((x.size + (uvT n).size : Nat) : Int), 0) := by
  have hb : (bts (x ++ uvT n ++ y)).drop x.size = uvL n ++ bts y := by
    rw [bts_append, bts_append, List.append_assoc, List.drop_left' (bts_len x)]
    unfold uvT
    rw [bts_txt (uvL_lt n)]
  unfold takeU
  rw [if_neg (by omega), if_neg (by rw [ByteArray.size_append, ByteArray.size_append]; omega), Int.toNat_natCast, hb, tkB_uv (bts y) n 0 0 x.size (by simpa using hn) (by omega)]
  simp [uvT, txt_size]
end Go.Proofs.YtpiejdjanhnbeaaGreat

/- Reading: numbers with a sign, counts, texts, truth values, commands. -/
set_option linter.unusedVariables false
set_option linter.unusedSimpArgs false
set_option maxHeartbeats 4000000
namespace Go.Proofs.YtpiejdjanhnbeaaGreat
open Go Go.Sk

/-! ### TakeInt -/
def takeI (s : ByteArray) (a : Int) : Int × Int × Int := if (takeU s a).2.2 ≠ 0 then (0, 0, (takeU s a).2.2) else (unzz (takeU s a).1.toNat, (takeU s a).2.1, 0)
theorem bne0 (e : Int) : (e != 0) = decide (e ≠ 0) := by
  rw [bne_dec]; by_cases h : e = 0 <;> simp [h]
theorem wTakeI (s : ByteArray) (hs : s.size ≤ 100000) (a : Int) : wire_TakeInt.f s a = some (takeI s a) := by
  rw [wire_TakeInt.f_eq, wTakeU s hs a, Option.bind_some, bne0, cond_dec]
  obtain ⟨u, h1, h2⟩ := takeU_fst s a
  unfold takeI
  split
  · rfl
  · rw [h1, unzz_prog h2]
    rfl
theorem rTakeI (s : ByteArray) (hs : s.size ≤ 100000) (a : Int) : ref04_TakeInt.f s a = some (takeI s a) := by
  rw [ref04_TakeInt.f_eq, rTakeU s hs a, Option.bind_some, bne0, cond_dec]
  obtain ⟨u, h1, h2⟩ := takeU_fst s a
  unfold takeI
  split
  · rfl
  · have e := unzz_ref h2
    rw [h1]
    cases ho : (Int.tmod (u : Int) 2 == 1) with
    | true => rw [ho, cond_true] at e; rw [cond_true, e]; rfl
    | false => rw [ho, cond_false] at e; rw [cond_false, e]; rfl
theorem takeI_in (s : ByteArray) (a : Int) : I64 (takeI s a).1 := by
  obtain ⟨u, h1, h2⟩ := takeU_fst s a
  unfold takeI
  split
  · exact (show I64 0 from ⟨by decide, by decide⟩)
  · rw [h1]; exact unzz_in h2
theorem takeI_bad {s : ByteArray} {a : Int} (h : (takeI s a).2.2 ≠ 0) : takeI s a = (0, 0, (takeI s a).2.2) := by
  unfold takeI at h ⊢
  split at h
  · rename_i h1; rw [if_pos h1]
  · exact absurd rfl h
theorem takeI_next {s : ByteArray} {a : Int} : 0 ≤ (takeI s a).2.1 ∧ (takeI s a).2.1 ≤ s.size := by
  obtain ⟨q, h1, h2, h3⟩ := takeU_snd s a
  unfold takeI
  split
  · exact ⟨by simp, by simp⟩
  · rw [h1]; exact ⟨by omega, by simpa using h2⟩
theorem takeI_at (x y : ByteArray) (n : Int) (hn : I64 n) : takeI (x ++ ivT n ++ y) x.size = (n, ((x.size + (ivT n).size : Nat) : Int), 0) := by
  unfold takeI ivT
  rw [takeU_at x y _ (zz_lt hn)]
  simp only [ne_eq, not_true, if_false, Int.toNat_natCast, unzz_zz]
/-! ### TakeCount -/
def takeC (s : ByteArray) (a most : Int) : Int × Int × Int :=
  if (takeU s a).2.2 ≠ 0 then (0, 0, (takeU s a).2.2) else if most < 0 then (0, 0, 2) else if (takeU s a).1 > most then (0, 0, 2) else if (takeU s a).1 > s.size - (takeU s a).2.1 then (0, 0, 4) else ((takeU s a).1, (takeU s a).2.1, 0)
theorem takeC_eq (s : ByteArray) (hs : s.size ≤ 100000) (a : Int) (most : Int) (hm0 : 0 ≤ most) (hm : most ≤ 1000000) :
    (bif ((takeU s a).2.2 != 0) then some ((0 : Int), (0 : Int), (takeU s a).2.2) else (bif (decide (most < 0)) then some (0, 0, 2) else (bif (decide ((takeU s a).1 > IntKind.u64.wrap most)) then some (0, 0, 2) else (bif (decide ((takeU s a).1 > IntKind.u64.wrap (IntKind.i64.wrap ((s.size : Int) - (takeU s a).2.1)))) then some (0, 0, 4) else some (IntKind.i64.wrap (takeU s a).1, (takeU s a).2.1, 0)))))
      = some (takeC s a most) := by
  obtain ⟨u, h1, h2⟩ := takeU_fst s a
  obtain ⟨q, h3, h4, h5⟩ := takeU_snd s a
  unfold takeC
  rw [bne0, cond_dec, cond_dec, cond_dec, cond_dec, h1, h3, wrap_u64, wr_in (x := (s.size : Int) - (q : Int)) (by omega) (by omega), wrap_u64]
  split
  · rfl
  split
  · rfl
  rw [show most % 18446744073709551616 = most by omega]
  split
  · rfl
  rw [show ((s.size : Int) - (q : Int)) % 18446744073709551616 = (s.size : Int) - (q : Int) by omega]
  split
  · rfl
  · rw [i64_nat (by omega)]
theorem wTakeC (s : ByteArray) (hs : s.size ≤ 100000) (a : Int) (most : Int) (hm0 : 0 ≤ most) (hm : most ≤ 1000000) : wire_TakeCount.f s a most = some (takeC s a most) := by
  rw [wire_TakeCount.f_eq, wTakeU s hs a, Option.bind_some]
  exact takeC_eq s hs a most hm0 hm
theorem rTakeC (s : ByteArray) (hs : s.size ≤ 100000) (a : Int) (most : Int) (hm0 : 0 ≤ most) (hm : most ≤ 1000000) : ref04_TakeCount.f s a most = some (takeC s a most) := by
  rw [ref04_TakeCount.f_eq, rTakeU s hs a, Option.bind_some]
  exact takeC_eq s hs a most hm0 hm
theorem takeC_bad {s : ByteArray} {a most : Int} (h : (takeC s a most).2.2 ≠ 0) : takeC s a most = (0, 0, (takeC s a most).2.2) := by
  unfold takeC at h ⊢
  split at h
  · rename_i h1; rw [if_pos h1]
  rename_i h1
  rw [if_neg h1]
  split at h
  · rename_i h1; rw [if_pos h1]
  rename_i h1
  rw [if_neg h1]
  split at h
  · rename_i h1; rw [if_pos h1]
  rename_i h1
  rw [if_neg h1]
  split at h
  · rename_i h1; rw [if_pos h1]
  · exact absurd rfl h
theorem takeC_ok {s : ByteArray} {a most : Int} (h : (takeC s a most).2.2 = 0) : ∃ n q : Nat, takeC s a most = ((n : Int), (q : Int), 0) ∧ (n : Int) ≤ most ∧ q + n ≤ s.size := by
  obtain ⟨u, h1, h2⟩ := takeU_fst s a
  obtain ⟨q, h3, h4, h5⟩ := takeU_snd s a
  unfold takeC at h ⊢
  split at h
  · rename_i h6; exact absurd h h6
  rename_i h6
  rw [if_neg h6]
  split at h
  · cases h
  rename_i h7
  rw [if_neg h7]
  split at h
  · cases h
  rename_i h8
  rw [if_neg h8]
  split at h
  · cases h
  rename_i h9
  rw [if_neg h9]
  rw [h1] at h8 h9 ⊢
  rw [h3] at h9 ⊢
  exact ⟨u, q, rfl, by omega, by omega⟩
theorem takeC_at (x y : ByteArray) (n : Nat) (most : Int) (hm : (n : Int) ≤ most) (hy : n ≤ y.size) (hn : n < 18446744073709551616) : takeC (x ++ uvT n ++ y) x.size most = ((n : Int), ((x.size + (uvT n).size : Nat) : Int), 0) := by
  unfold takeC
  rw [takeU_at x y n hn]
  rw [if_neg (by simp), if_neg (by omega), if_neg (show ¬ ((n : Int) > most) by omega), if_neg (show ¬ ((n : Int) > ((x ++ uvT n ++ y).size : Int) - ((x.size + (uvT n).size : Nat) : Int)) by rw [ByteArray.size_append, ByteArray.size_append]; omega)]
/-! ### texts, truth values -/
def takeT (s : ByteArray) (a most : Int) : ByteArray × Int × Int :=
  if (takeC s a most).2.2 ≠ 0 then (⟨#[]⟩, 0, (takeC s a most).2.2) else (s.extract (takeC s a most).2.1.toNat ((takeC s a most).2.1 + (takeC s a most).1).toNat, (takeC s a most).2.1 + (takeC s a most).1, 0)
theorem extract_bytes (s : ByteArray) (q n : Nat) : bytesOf (List.drop q (List.take n (List.map (fun b : UInt8 => ((b.toNat : Nat) : Int)) s.data.toList))) = s.extract q n := by
  apply ByteArray.ext
  rw [ByteArray.data_extract]
  apply Array.ext'
  have e : ((fun n : Int => UInt8.ofNat n.toNat) ∘ fun b : UInt8 => ((b.toNat : Nat) : Int)) = id := by funext x; simp
  simp only [bytesOf, Array.toList_extract, List.map_drop, List.map_take, List.map_map, e, List.map_id, List.extract_eq_take_drop]
  rw [List.drop_take]
theorem wTakeT (s : ByteArray) (hs : s.size ≤ 100000) (a : Int) (most : Int) (hm0 : 0 ≤ most) (hm : most ≤ 1000000) : wire_TakeText.f s a most = some (takeT s a most) := by
  rw [wire_TakeText.f_eq, wTakeC s hs a most hm0 hm, Option.bind_some, bne0, cond_dec]
  unfold takeT
  split
  · rfl
  rename_i h
  obtain ⟨n, q, h1, h2, h3⟩ := takeC_ok (Classical.byContradiction fun h' => h h')
  rw [h1]
  simp only
  rw [at_in (a := q) (k := n) h3 (by omega), List.length_map, Array.length_toList, show s.data.size = s.size from rfl,
    decide_eq_true (show (0 : Int) ≤ (q : Int) by omega), decide_eq_true (show (q : Int) ≤ ((q + n : Nat) : Int) by omega), decide_eq_true (show ((q + n : Nat) : Int) ≤ (s.size : Int) by omega)]
  simp only [decide_true, Bool.and_true, cond_true, Int.toNat_natCast, extract_bytes]
  rw [show ((q : Int) + (n : Int)) = ((q + n : Nat) : Int) from rfl, Int.toNat_natCast]
theorem rTakeT (s : ByteArray) (hs : s.size ≤ 100000) (a : Int) (most : Int) (hm0 : 0 ≤ most) (hm : most ≤ 1000000) : ref04_TakeText.f s a most = some (takeT s a most) := by
  rw [ref04_TakeText.f_eq, rTakeC s hs a most hm0 hm, Option.bind_some, bne0, cond_dec]
  unfold takeT
  split
  · rfl
  rename_i h
  obtain ⟨n, q, h1, h2, h3⟩ := takeC_ok (Classical.byContradiction fun h' => h h')
  rw [h1]
  simp only
  rw [at_in (a := q) (k := n) h3 (by omega),
    decide_eq_true (show (0 : Int) ≤ (q : Int) by omega), decide_eq_true (show (q : Int) ≤ ((q + n : Nat) : Int) by omega), decide_eq_true (show ((q + n : Nat) : Int) ≤ (s.size : Int) by omega)]
  simp only [Bool.and_true, cond_true, Int.toNat_natCast]
  rw [show ((q : Int) + (n : Int)) = ((q + n : Nat) : Int) from rfl, Int.toNat_natCast]
theorem takeT_bad {s : ByteArray} {a most : Int} (h : (takeT s a most).2.2 ≠ 0) : takeT s a most = (⟨#[]⟩, 0, (takeT s a most).2.2) := by
  unfold takeT at h ⊢
  split at h
  · rename_i h1; rw [if_pos h1]
  · exact absurd rfl h
theorem takeT_next {s : ByteArray} {a most : Int} : 0 ≤ (takeT s a most).2.1 ∧ (takeT s a most).2.1 ≤ s.size := by
  unfold takeT
  split
  · exact ⟨by simp, by simp⟩
  · rename_i h
    obtain ⟨n, q, h1, h2, h3⟩ := takeC_ok (Classical.byContradiction fun h' => h h')
    rw [h1]
    exact ⟨by simp only; omega, by simp only; omega⟩
def tvT (t : ByteArray) : ByteArray := uvT t.size ++ t
theorem wText (t : ByteArray) (h : t.size ≤ 1000000) : wire_Text.f t = some (tvT t) := by
  have := uvL_len10 (n := t.size) (by omega)
  rw [wire_Text.f_eq, u64_nat (by omega), wUint _ (by omega), Option.bind_some, cond_dec, if_pos (by unfold uvT; rw [txt_size]; omega)]
  rfl
theorem rText (t : ByteArray) (h : t.size ≤ 1000000) : ref04_Text.f t = some (tvT t) := by
  have := uvL_len10 (n := t.size) (by omega)
  rw [ref04_Text.f_eq, u64_nat (by omega), rUint _ (by omega), Option.bind_some, cond_dec, if_pos (by unfold uvT; rw [txt_size]; omega)]
  rfl
theorem tvT_size {t : ByteArray} (h : t.size ≤ 1000000) : (tvT t).size ≤ 10 + t.size := by
  have := uvL_len10 (n := t.size) (by omega)
  unfold tvT uvT
  rw [ByteArray.size_append, txt_size]
  omega
theorem takeT_at (x y t : ByteArray) (most : Int) (hm : (t.size : Int) ≤ most) (ht : t.size ≤ 1000000) : takeT (x ++ tvT t ++ y) x.size most = (t, ((x.size + (tvT t).size : Nat) : Int), 0) := by
  have e : x ++ tvT t ++ y = x ++ uvT t.size ++ (t ++ y) := by unfold tvT; simp [ByteArray.append_assoc]
  unfold takeT
  rw [e, takeC_at x (t ++ y) t.size most hm (by rw [ByteArray.size_append]; omega) (by omega)]
  rw [if_neg (by simp)]
  simp only [Int.toNat_natCast]
  have e2 : ((x.size + (uvT t.size).size : Nat) : Int) + (t.size : Int) = ((x.size + (tvT t).size : Nat) : Int) := by
    unfold tvT; rw [ByteArray.size_append]; omega
  rw [e2, Int.toNat_natCast]
  congr 1
  apply bts_inj
  have e3 : x ++ uvT t.size ++ (t ++ y) = (x ++ uvT t.size) ++ t ++ y := by simp [ByteArray.append_assoc]
  rw [e3]
  have e4 : x.size + (tvT t).size = (x ++ uvT t.size ++ t).size := by unfold tvT; simp only [ByteArray.size_append]; omega
  have e5 : x.size + (uvT t.size).size = (x ++ uvT t.size).size := by simp only [ByteArray.size_append]
  rw [e4, e5]
  have key : ∀ (p t y : ByteArray), bts ((p ++ t ++ y).extract p.size (p ++ t).size) = bts t := fun p t y => by
    unfold bts
    rw [ByteArray.data_extract]
    simp only [Array.toList_extract, ByteArray.data_append, Array.toList_append, List.extract_eq_take_drop, ByteArray.size_append]
    rw [List.append_assoc, List.drop_left' (by rw [Array.length_toList]; rfl), Nat.add_sub_cancel_left, List.take_left' (by rw [Array.length_toList]; rfl)]
  exact key _ _ _
def bvT (b : Bool) : ByteArray := txt [b.toNat]
theorem wBool (b : Bool) : wire_Bool.f b = some (bvT b) := by
  rw [wire_Bool.f_eq]; cases b <;> rfl
theorem rBool (b : Bool) : ref04_Bool.f b = some (bvT b) := by
  rw [ref04_Bool.f_eq]; cases b <;> rfl
theorem bvT_size (b : Bool) : (bvT b).size = 1 := rfl
def takeB (s : ByteArray) (a : Int) : Bool × Int × Int :=
  if a < 0 then (false, 0, 1) else if a > s.size then (false, 0, 1) else if a = s.size then (false, 0, 4) else if ((bts s)[a.toNat]?).getD 0 > 1 then (false, 0, 5) else (decide (((bts s)[a.toNat]?).getD 0 = 1), a + 1, 0)
theorem takeB_eq (s : ByteArray) (hs : s.size ≤ 100000) (a : Int) :
    (bif (decide (a < 0)) then some (false, (0 : Int), (1 : Int)) else (bif (decide (a > (s.size : Int))) then some (false, 0, 1) else (bif (a == (s.size : Int)) then some (false, 0, 4) else ((byteAt s a).bind fun e0 => (bif (decide (e0 > 1)) then some (false, 0, 5) else ((byteAt s a).bind fun e1 => some (e1 == 1, IntKind.i64.wrap (a + 1), 0))))))) = some (takeB s a) := by
  unfold takeB
  rw [cond_dec, cond_dec]
  split
  · rfl
  split
  · rfl
  rename_i h0 h1
  obtain ⟨k, rfl⟩ : ∃ k : Nat, a = k := ⟨a.toNat, by omega⟩
  rw [beq_dec, cond_dec]
  split
  · rfl
  rename_i h2
  have hlt : k < (bts s).length := by rw [bts_len]; omega
  rw [byteAt_bts s k hlt, Option.bind_some, Option.bind_some, Int.toNat_natCast, List.getElem?_eq_getElem hlt, Option.getD_some, cond_dec]
  generalize (bts s)[k] = c
  by_cases h3 : c > 1
  · rw [if_pos h3, if_pos (show (c : Int) > 1 by omega)]
  · rw [if_neg h3, if_neg (show ¬ (c : Int) > 1 by omega), wr_in (by omega) (by omega), beq_dec]
    congr 2
    apply decide_eq_decide.2
    omega
theorem wTakeB (s : ByteArray) (hs : s.size ≤ 100000) (a : Int) : wire_TakeBool.f s a = some (takeB s a) := by
  rw [wire_TakeBool.f_eq]; exact takeB_eq s hs a
theorem rTakeB (s : ByteArray) (hs : s.size ≤ 100000) (a : Int) : ref04_TakeBool.f s a = some (takeB s a) := by
  rw [ref04_TakeBool.f_eq]; exact takeB_eq s hs a
theorem takeB_bad {s : ByteArray} {a : Int} (h : (takeB s a).2.2 ≠ 0) : takeB s a = (false, 0, (takeB s a).2.2) := by
  unfold takeB at h ⊢
  split at h
  · rename_i h1; rw [if_pos h1]
  rename_i h1
  rw [if_neg h1]
  split at h
  · rename_i h1; rw [if_pos h1]
  rename_i h1
  rw [if_neg h1]
  split at h
  · rename_i h1; rw [if_pos h1]
  rename_i h1
  rw [if_neg h1]
  split at h
  · rename_i h1; rw [if_pos h1]
  · exact absurd rfl h
theorem takeB_at (x y : ByteArray) (b : Bool) : takeB (x ++ bvT b ++ y) x.size = (b, ((x.size + (bvT b).size : Nat) : Int), 0) := by
  have hb : (bts (x ++ bvT b ++ y))[x.size]? = some b.toNat := by
    rw [bts_append, bts_append, List.append_assoc, List.getElem?_append_right (by rw [bts_len]; exact Nat.le_refl _), bts_len, Nat.sub_self]
    cases b <;> rfl
  have h1 : (x ++ bvT b ++ y).size = x.size + 1 + y.size := by rw [ByteArray.size_append, ByteArray.size_append, bvT_size]
  unfold takeB
  rw [if_neg (by omega), if_neg (by rw [h1]; omega), if_neg (by rw [h1]; omega), Int.toNat_natCast, hb, Option.getD_some, bvT_size]
  cases b <;> rfl
end Go.Proofs.YtpiejdjanhnbeaaGreat

/- Commands as bytes. -/
set_option linter.unusedVariables false
set_option linter.unusedSimpArgs false
set_option maxHeartbeats 4000000
namespace Go.Proofs.YtpiejdjanhnbeaaGreat
open Go Go.Sk

/-! ### reading on -/
def bindR {α β : Type} (r : α × Int × Int) (d : β) (k : α → Int → β × Int × Int) : β × Int × Int := if r.2.2 ≠ 0 then (d, 0, r.2.2) else k r.1 r.2.1
theorem bindR_bad {α β : Type} {r : α × Int × Int} {d : β} {k : α → Int → β × Int × Int} (h : r.2.2 ≠ 0) : bindR r d k = (d, 0, r.2.2) := if_pos h
theorem bindR_ok {α β : Type} {r : α × Int × Int} {d : β} {k : α → Int → β × Int × Int} (h : r.2.2 = 0) : bindR r d k = k r.1 r.2.1 := if_neg (fun h' => h' h)
theorem bindR_err {α β : Type} {x : α} {y e : Int} {d : β} {k : α → Int → β × Int × Int} (h : e ≠ 0) : bindR (x, y, e) d k = (d, 0, e) := if_pos h
def intsS (s : ByteArray) : Nat → Int → List Int × Int × Int
  | 0, a => ([], a, 0)
  | n + 1, a => bindR (takeI s a) [] fun v a1 => bindR (intsS s n a1) [] fun l a2 => (v :: l, a2, 0)
theorem rInts_j (s : ByteArray) (hs : s.size ≤ 100000) (n : Nat) (hn : n ≤ 64) : ∀ (m i : Nat) (a : Int) (o : List Int), i + m = n → o.length = i → ref34_ints.j0 s a n i o = some (bindR (intsS s m a) [] fun l a2 => (o ++ l, a2, 0)) := by
  intro m
  induction m with
  | zero =>
    intro i a o hi ho
    rw [ref34_ints.j0_eq, lt_false (by omega), cond_false]
    show _ = some (if (0 : Int) ≠ 0 then _ else (o ++ [], a, 0))
    rw [if_neg (by simp), List.append_nil]
  | succ m ih =>
    intro i a o hi ho
    rw [ref34_ints.j0_eq, lt_true (by omega), cond_true, rTakeI s hs a, Option.bind_some, bne0, cond_dec]
    unfold intsS
    by_cases h : (takeI s a).2.2 = 0
    · rw [if_neg (fun h' => h' h), bindR_ok h, cond_dec, List.length_singleton, if_pos (by omega), wr_succ (n := n) (by omega) (by omega), ih (i + 1) _ _ (by omega) (by simp [ho])]
      by_cases h2 : (intsS s m (takeI s a).2.1).2.2 = 0
      · rw [bindR_ok h2, bindR_ok h2, bindR_ok rfl]
        simp
      · rw [bindR_bad h2, bindR_bad h2, bindR_err h2]
    · rw [if_pos h, bindR_bad h, bindR_err h]
theorem rInts (s : ByteArray) (hs : s.size ≤ 100000) (n : Nat) (hn : n ≤ 64) (a : Int) : ref34_ints.f s a n = some (intsS s n a) := by
  rw [ref34_ints.f_eq]
  have := rInts_j s hs n hn n 0 a [] (by omega) rfl
  rw [show ((0 : Nat) : Int) = 0 from rfl] at this
  rw [this]
  by_cases h : (intsS s n a).2.2 = 0
  · rw [bindR_ok h]
    simp only [List.nil_append]
    congr 1
    rw [← h]
  · rw [bindR_bad h]
    congr 1
    cases n with
    | zero => exact absurd rfl h
    | succ n =>
      unfold intsS at h ⊢
      by_cases h1 : (takeI s a).2.2 = 0
      · rw [bindR_ok h1] at h ⊢
        by_cases h2 : (intsS s n (takeI s a).2.1).2.2 = 0
        · rw [bindR_ok h2] at h; exact absurd rfl h
        · rw [bindR_bad h2]
      · rw [bindR_bad h1]
abbrev zeroC : CommandT := (0, 0, [], (0, 0), 0, 0, { data := #[] }, false)
/-- a command of a text, from a place on -/
def decC (s : ByteArray) (a : Int) : CommandT × Int × Int :=
  bindR (takeI s a) zeroC fun p a1 => bindR (takeI s a1) zeroC fun k a2 => bindR (takeC s a2 64) zeroC fun n a3 => bindR (intsS s n.toNat a3) zeroC fun l a4 =>
  bindR (takeI s a4) zeroC fun x a5 => bindR (takeI s a5) zeroC fun y a6 => bindR (takeI s a6) zeroC fun t a7 => bindR (takeI s a7) zeroC fun m a8 =>
  bindR (takeT s a8 12) zeroC fun nm a9 => bindR (takeB s a9) zeroC fun q a10 => ((p, k, l, (x, y), t, m, nm, q), a10, 0)

theorem takeC_n {s : ByteArray} {a : Int} (h : (takeC s a 64).2.2 = 0) : (takeC s a 64).1 = (((takeC s a 64).1.toNat : Nat) : Int) ∧ (takeC s a 64).1.toNat ≤ 64 := by
  obtain ⟨n, q, h1, h2, h3⟩ := takeC_ok h
  rw [h1]
  exact ⟨rfl, by simp only [Int.toNat_natCast]; omega⟩
theorem bne_t {e : Int} (h : e ≠ 0) : (e != 0) = true := by rw [bne0]; exact decide_eq_true h
theorem bne_f {e : Int} (h : e = 0) : (e != 0) = false := by rw [bne0]; exact decide_eq_false (fun h' => h' h)
theorem rDecC (s : ByteArray) (hs : s.size ≤ 100000) (a : Int) : ref34_Decode.f s a = some (decC s a) := by
  have I2 : ∀ a, ref34_ints.f s a 2 = some (intsS s 2 a) := fun a => rInts s hs 2 (by omega) a
  have I4 : ∀ a, ref34_ints.f s a 4 = some (intsS s 4 a) := fun a => rInts s hs 4 (by omega) a
  rw [ref34_Decode.f_eq, I2, Option.bind_some]
  unfold decC
  simp only [intsS]
  by_cases h1 : (takeI s a).2.2 = 0
  rotate_left
  · rw [bindR_bad h1, bindR_bad h1, bne_t h1, cond_true]
  rw [bindR_ok h1, bindR_ok h1]
  generalize (takeI s a).2.1 = a1
  by_cases h2 : (takeI s a1).2.2 = 0
  rotate_left
  · rw [bindR_bad h2, bindR_bad h2, bindR_err h2, bne_t h2, cond_true]
  rw [bindR_ok h2, bindR_ok h2, bindR_ok rfl, bindR_ok rfl]
  simp only [bne_self_eq_false, cond_false]
  generalize (takeI s a1).2.1 = a2
  rw [rTakeC s hs a2 64 (by omega) (by omega), Option.bind_some]
  by_cases h3 : (takeC s a2 64).2.2 = 0
  rotate_left
  · rw [bindR_bad h3, bne_t h3, cond_true]
  rw [bindR_ok h3, bne_f h3, cond_false]
  obtain ⟨h4, h5⟩ := takeC_n h3
  generalize (takeC s a2 64).2.1 = a3
  have hI := rInts s hs _ h5 a3
  rw [← h4] at hI
  rw [hI, Option.bind_some]
  generalize (takeC s a2 64).1.toNat = n
  by_cases h6 : (intsS s n a3).2.2 = 0
  rotate_left
  · rw [bindR_bad h6, bne_t h6, cond_true]
  rw [bindR_ok h6, bne_f h6, cond_false]
  generalize (intsS s n a3).2.1 = a4
  rw [I4, Option.bind_some]
  simp only [intsS]
  by_cases h7 : (takeI s a4).2.2 = 0
  rotate_left
  · rw [bindR_bad h7, bindR_bad h7, bne_t h7, cond_true]
  rw [bindR_ok h7, bindR_ok h7]
  generalize (takeI s a4).2.1 = a5
  by_cases h8 : (takeI s a5).2.2 = 0
  rotate_left
  · rw [bindR_bad h8, bindR_bad h8, bindR_err h8, bne_t h8, cond_true]
  rw [bindR_ok h8, bindR_ok h8]
  generalize (takeI s a5).2.1 = a6
  by_cases h9 : (takeI s a6).2.2 = 0
  rotate_left
  · rw [bindR_bad h9, bindR_bad h9, bindR_err h9, bindR_err h9, bne_t h9, cond_true]
  rw [bindR_ok h9, bindR_ok h9]
  generalize (takeI s a6).2.1 = a7
  by_cases h10 : (takeI s a7).2.2 = 0
  rotate_left
  · rw [bindR_bad h10, bindR_bad h10, bindR_err h10, bindR_err h10, bindR_err h10, bne_t h10, cond_true]
  rw [bindR_ok h10, bindR_ok h10, bindR_ok rfl, bindR_ok rfl, bindR_ok rfl, bindR_ok rfl]
  simp only [bne_self_eq_false, cond_false]
  generalize (takeI s a7).2.1 = a8
  rw [rTakeT s hs a8 12 (by omega) (by omega), Option.bind_some]
  by_cases h11 : (takeT s a8 12).2.2 = 0
  rotate_left
  · rw [bindR_bad h11, bne_t h11, cond_true]
  rw [bindR_ok h11, bne_f h11, cond_false]
  generalize (takeT s a8 12).2.1 = a9
  rw [rTakeB s hs a9, Option.bind_some]
  by_cases h12 : (takeB s a9).2.2 = 0
  rotate_left
  · rw [bindR_bad h12, bne_t h12, cond_true]
  rw [bindR_ok h12, bne_f h12, cond_false]
  rfl
/-! ### the reader -/
section
variable {s : ByteArray} (hs : s.size ≤ 100000) {a e : Int}
include hs
theorem num_ok (h : (takeI s a).2.2 = 0) : command_reader__number.f (s, a, 0) = some ((takeI s a).1, (s, (takeI s a).2.1, 0)) := by
  rw [command_reader__number.f_eq]
  show (bif (0 : Int) != 0 then _ else (wire_TakeInt.f s a).bind _) = _
  rw [show ((0 : Int) != 0) = false from rfl, cond_false, wTakeI s hs a, Option.bind_some, command_reader__next.f_eq, h]
  rfl
theorem num_err (h : (takeI s a).2.2 ≠ 0) : command_reader__number.f (s, a, 0) = some (0, (s, a, (takeI s a).2.2)) := by
  rw [command_reader__number.f_eq]
  show (bif (0 : Int) != 0 then _ else (wire_TakeInt.f s a).bind _) = _
  rw [show ((0 : Int) != 0) = false from rfl, cond_false, wTakeI s hs a, Option.bind_some, command_reader__next.f_eq, beq_eq_false_iff_ne.2 h, cond_false, takeI_bad h]
  rfl
omit hs in
theorem num_bad (h : e ≠ 0) : command_reader__number.f (s, a, e) = some (0, (s, a, e)) := by
  rw [command_reader__number.f_eq]
  show (bif e != 0 then _ else _) = _
  rw [bne0, decide_eq_true h, cond_true]
theorem name_ok (h : (takeT s a 12).2.2 = 0) : command_reader__name.f (s, a, 0) = some ((takeT s a 12).1, (s, (takeT s a 12).2.1, 0)) := by
  rw [command_reader__name.f_eq]
  show (bif (0 : Int) != 0 then _ else (wire_TakeText.f s a 12).bind _) = _
  rw [show ((0 : Int) != 0) = false from rfl, cond_false, wTakeT s hs a 12 (by omega) (by omega), Option.bind_some, command_reader__next.f_eq, h]
  rfl
theorem name_err (h : (takeT s a 12).2.2 ≠ 0) : ∃ t, command_reader__name.f (s, a, 0) = some (t, (s, a, (takeT s a 12).2.2)) := by
  rw [command_reader__name.f_eq]
  show ∃ t, (bif (0 : Int) != 0 then _ else (wire_TakeText.f s a 12).bind _) = _
  rw [show ((0 : Int) != 0) = false from rfl, cond_false, wTakeT s hs a 12 (by omega) (by omega), Option.bind_some, command_reader__next.f_eq, beq_eq_false_iff_ne.2 h, cond_false]
  exact ⟨_, rfl⟩
omit hs in
theorem name_bad (h : e ≠ 0) : command_reader__name.f (s, a, e) = some (⟨#[]⟩, (s, a, e)) := by
  rw [command_reader__name.f_eq]
  show (bif e != 0 then _ else _) = _
  rw [bne0, decide_eq_true h, cond_true]
theorem queued_ok (h : (takeB s a).2.2 = 0) : command_reader__queued.f (s, a, 0) = some ((takeB s a).1, (s, (takeB s a).2.1, 0)) := by
  rw [command_reader__queued.f_eq]
  show (bif (0 : Int) != 0 then _ else (wire_TakeBool.f s a).bind _) = _
  rw [show ((0 : Int) != 0) = false from rfl, cond_false, wTakeB s hs a, Option.bind_some, command_reader__next.f_eq, h]
  rfl
theorem queued_err (h : (takeB s a).2.2 ≠ 0) : ∃ t, command_reader__queued.f (s, a, 0) = some (t, (s, a, (takeB s a).2.2)) := by
  rw [command_reader__queued.f_eq]
  show ∃ t, (bif (0 : Int) != 0 then _ else (wire_TakeBool.f s a).bind _) = _
  rw [show ((0 : Int) != 0) = false from rfl, cond_false, wTakeB s hs a, Option.bind_some, command_reader__next.f_eq, beq_eq_false_iff_ne.2 h, cond_false]
  exact ⟨_, rfl⟩
omit hs in
theorem queued_bad (h : e ≠ 0) : command_reader__queued.f (s, a, e) = some (false, (s, a, e)) := by
  rw [command_reader__queued.f_eq]
  show (bif e != 0 then _ else _) = _
  rw [bne0, decide_eq_true h, cond_true]
theorem units_j (n : Nat) (hn : n ≤ 64) : ∀ (m i : Nat) (a : Int) (o : List Int), i + m = n → o.length = i →
    ((intsS s m a).2.2 = 0 → command_reader__units.j0 n i (s, a, 0) o = some (o ++ (intsS s m a).1, (s, (intsS s m a).2.1, 0))) ∧
    ((intsS s m a).2.2 ≠ 0 → ∃ l b, command_reader__units.j0 n i (s, a, 0) o = some (l, (s, b, (intsS s m a).2.2))) := by
  intro m
  induction m with
  | zero =>
    intro i a o hi ho
    refine ⟨fun _ => ?_, fun h => absurd rfl h⟩
    rw [command_reader__units.j0_eq, lt_false (by omega), cond_false]
    show _ = some (o ++ [], _)
    rw [List.append_nil]
    rfl
  | succ m ih =>
    intro i a o hi ho
    have hstep : command_reader__units.j0 n i (s, a, 0) o = ((command_reader__number.f (s, a, 0)).bind fun r0 => command_reader__units.j0 n ((i + 1 : Nat) : Int) r0.2 (o ++ [r0.1])) := by
      rw [command_reader__units.j0_eq, lt_true (by omega), cond_true]
      show (bif (0 : Int) == 0 then _ else _) = _
      rw [show ((0 : Int) == 0) = true from rfl, cond_true, wr_succ (n := n) (by omega) (by omega)]
      simp only [List.length_singleton, decide_eq_true (show (o.length + 1) * 8 ≤ 140737488355328 by omega), cond_true]
    by_cases h : (takeI s a).2.2 = 0
    · rw [hstep, num_ok hs h, Option.bind_some]
      obtain ⟨h1, h2⟩ := ih (i + 1) (takeI s a).2.1 (o ++ [(takeI s a).1]) (by omega) (by simp [ho])
      unfold intsS
      rw [bindR_ok h]
      by_cases h3 : (intsS s m (takeI s a).2.1).2.2 = 0
      · rw [bindR_ok h3]
        refine ⟨fun _ => ?_, fun h => absurd rfl h⟩
        rw [h1 h3]
        simp
      · rw [bindR_bad h3]
        exact ⟨fun h => absurd h h3, fun _ => h2 h3⟩
    · rw [hstep, num_err hs h, Option.bind_some]
      unfold intsS
      rw [bindR_bad h]
      refine ⟨fun h' => absurd h' h, fun _ => ?_⟩
      rw [command_reader__units.j0_eq]
      refine ⟨o ++ [0], a, ?_⟩
      show (bif decide (((i + 1 : Nat) : Int) < (n : Int)) then (bif (takeI s a).2.2 == 0 then _ else _) else _) = _
      rw [beq_eq_false_iff_ne.2 h, cond_false]
      cases decide (((i + 1 : Nat) : Int) < (n : Int)) <;> rfl
theorem units_ok (h : (takeC s a 64).2.2 = 0) (h2 : (intsS s (takeC s a 64).1.toNat (takeC s a 64).2.1).2.2 = 0) :
    command_reader__units.f (s, a, 0) = some ((intsS s (takeC s a 64).1.toNat (takeC s a 64).2.1).1, (s, (intsS s (takeC s a 64).1.toNat (takeC s a 64).2.1).2.1, 0)) := by
  obtain ⟨h4, h5⟩ := takeC_n h
  rw [command_reader__units.f_eq]
  show (bif (0 : Int) != 0 then _ else (wire_TakeCount.f s a 64).bind _) = _
  rw [show ((0 : Int) != 0) = false from rfl, cond_false, wTakeC s hs a 64 (by omega) (by omega), Option.bind_some, command_reader__next.f_eq, h]
  show command_reader__units.j0 (takeC s a 64).1 0 (s, (takeC s a 64).2.1, 0) [] = _
  have := (units_j hs _ h5 _ 0 (takeC s a 64).2.1 [] (by omega) rfl).1 h2
  rw [← h4] at this
  rw [show ((0 : Nat) : Int) = 0 from rfl] at this
  rw [this, List.nil_append]
theorem units_err (h : (takeC s a 64).2.2 ≠ 0) : ∃ l, command_reader__units.f (s, a, 0) = some (l, (s, a, (takeC s a 64).2.2)) := by
  rw [command_reader__units.f_eq]
  show ∃ l, (bif (0 : Int) != 0 then _ else (wire_TakeCount.f s a 64).bind _) = _
  rw [show ((0 : Int) != 0) = false from rfl, cond_false, wTakeC s hs a 64 (by omega) (by omega), Option.bind_some, command_reader__next.f_eq, beq_eq_false_iff_ne.2 h, cond_false, Option.bind_some, command_reader__units.j0_eq, takeC_bad h]
  exact ⟨[], rfl⟩
theorem units_err2 (h : (takeC s a 64).2.2 = 0) (h2 : (intsS s (takeC s a 64).1.toNat (takeC s a 64).2.1).2.2 ≠ 0) :
    ∃ l b, command_reader__units.f (s, a, 0) = some (l, (s, b, (intsS s (takeC s a 64).1.toNat (takeC s a 64).2.1).2.2)) := by
  obtain ⟨h4, h5⟩ := takeC_n h
  rw [command_reader__units.f_eq]
  show ∃ l b, (bif (0 : Int) != 0 then _ else (wire_TakeCount.f s a 64).bind _) = _
  rw [show ((0 : Int) != 0) = false from rfl, cond_false, wTakeC s hs a 64 (by omega) (by omega), Option.bind_some, command_reader__next.f_eq, h]
  show ∃ l b, command_reader__units.j0 (takeC s a 64).1 0 (s, (takeC s a 64).2.1, 0) [] = _
  have := (units_j hs _ h5 _ 0 (takeC s a 64).2.1 [] (by omega) rfl).2 h2
  rw [← h4] at this
  exact this
omit hs in
theorem units_bad (h : e ≠ 0) : command_reader__units.f (s, a, e) = some ([], (s, a, e)) := by
  rw [command_reader__units.f_eq]
  show (bif e != 0 then _ else _) = _
  rw [bne0, decide_eq_true h, cond_true]
omit hs in
theorem end_bad {α : Type} (x : α) (h : e ≠ 0) (y : CommandT × Int × Int) : (bif ((x, (s, a, e)) : α × ByteArray × VecT).2.2.2 != 0 then some ((zeroC, 0, ((x, (s, a, e)) : α × ByteArray × VecT).2.2.2) : CommandT × Int × Int) else some y) = some (zeroC, 0, e) := by
  show (bif e != 0 then _ else _) = _
  rw [bne0, decide_eq_true h, cond_true]
theorem wDecC (a : Int) : command_Decode.f s a = some (decC s a) := by
  rw [command_Decode.f_eq]
  unfold decC
  by_cases h1 : (takeI s a).2.2 = 0
  rotate_left
  · rw [bindR_bad h1, num_err hs h1]
    simp only [Option.bind_some, num_bad h1, units_bad h1, name_bad h1, queued_bad h1, bne0, decide_eq_true h1, cond_true]
  rw [bindR_ok h1, num_ok hs h1]
  simp only [Option.bind_some]
  generalize (takeI s a).2.1 = a1
  by_cases h2 : (takeI s a1).2.2 = 0
  rotate_left
  · rw [bindR_bad h2, num_err hs h2]
    simp only [Option.bind_some, num_bad h2, units_bad h2, name_bad h2, queued_bad h2, bne0, decide_eq_true h2, cond_true]
  rw [bindR_ok h2, num_ok hs h2]
  simp only [Option.bind_some]
  generalize (takeI s a1).2.1 = a2
  by_cases h3 : (takeC s a2 64).2.2 = 0
  rotate_left
  · obtain ⟨l, hl⟩ := units_err hs h3
    rw [bindR_bad h3, hl]
    simp only [Option.bind_some, num_bad h3, units_bad h3, name_bad h3, queued_bad h3, bne0, decide_eq_true h3, cond_true]
  rw [bindR_ok h3]
  by_cases h6 : (intsS s (takeC s a2 64).1.toNat (takeC s a2 64).2.1).2.2 = 0
  rotate_left
  · obtain ⟨l, b, hl⟩ := units_err2 hs h3 h6
    rw [bindR_bad h6, hl]
    simp only [Option.bind_some, num_bad h6, units_bad h6, name_bad h6, queued_bad h6, bne0, decide_eq_true h6, cond_true]
  rw [bindR_ok h6, units_ok hs h3 h6]
  simp only [Option.bind_some]
  generalize (intsS s (takeC s a2 64).1.toNat (takeC s a2 64).2.1).2.1 = a4
  by_cases h7 : (takeI s a4).2.2 = 0
  rotate_left
  · rw [bindR_bad h7, num_err hs h7]
    simp only [Option.bind_some, num_bad h7, units_bad h7, name_bad h7, queued_bad h7, bne0, decide_eq_true h7, cond_true]
  rw [bindR_ok h7, num_ok hs h7]
  simp only [Option.bind_some]
  generalize (takeI s a4).2.1 = a5
  by_cases h8 : (takeI s a5).2.2 = 0
  rotate_left
  · rw [bindR_bad h8, num_err hs h8]
    simp only [Option.bind_some, num_bad h8, units_bad h8, name_bad h8, queued_bad h8, bne0, decide_eq_true h8, cond_true]
  rw [bindR_ok h8, num_ok hs h8]
  simp only [Option.bind_some]
  generalize (takeI s a5).2.1 = a6
  by_cases h9 : (takeI s a6).2.2 = 0
  rotate_left
  · rw [bindR_bad h9, num_err hs h9]
    simp only [Option.bind_some, num_bad h9, units_bad h9, name_bad h9, queued_bad h9, bne0, decide_eq_true h9, cond_true]
  rw [bindR_ok h9, num_ok hs h9]
  simp only [Option.bind_some]
  generalize (takeI s a6).2.1 = a7
  by_cases h10 : (takeI s a7).2.2 = 0
  rotate_left
  · rw [bindR_bad h10, num_err hs h10]
    simp only [Option.bind_some, num_bad h10, units_bad h10, name_bad h10, queued_bad h10, bne0, decide_eq_true h10, cond_true]
  rw [bindR_ok h10, num_ok hs h10]
  simp only [Option.bind_some]
  generalize (takeI s a7).2.1 = a8
  by_cases h11 : (takeT s a8 12).2.2 = 0
  rotate_left
  · obtain ⟨l, hl⟩ := name_err hs h11
    rw [bindR_bad h11, hl]
    simp only [Option.bind_some, num_bad h11, units_bad h11, name_bad h11, queued_bad h11, bne0, decide_eq_true h11, cond_true]
  rw [bindR_ok h11, name_ok hs h11]
  simp only [Option.bind_some]
  generalize (takeT s a8 12).2.1 = a9
  by_cases h12 : (takeB s a9).2.2 = 0
  rotate_left
  · obtain ⟨l, hl⟩ := queued_err hs h12
    rw [bindR_bad h12, hl]
    simp only [Option.bind_some, bne0, decide_eq_true h12, cond_true]
  rw [bindR_ok h12, queued_ok hs h12]
  rfl
end
end Go.Proofs.YtpiejdjanhnbeaaGreat

/- Commands and batches, written as bytes. -/
set_option linter.unusedVariables false
set_option linter.unusedSimpArgs false
set_option maxHeartbeats 4000000
namespace Go.Proofs.YtpiejdjanhnbeaaGreat
open Go Go.Sk

/-! ### the builder -/
def rowOf (X : ByteArray) : List Int := List.map (fun c : UInt8 => ((c.toNat : Nat) : Int)) X.data.toList
theorem rowOf_len (X : ByteArray) : (rowOf X).length = X.size := by
  rw [rowOf, List.length_map, Array.length_toList]; rfl
theorem rowOf_append (X Y : ByteArray) : rowOf X ++ rowOf Y = rowOf (X ++ Y) := by
  unfold rowOf
  rw [ByteArray.data_append, Array.toList_append, List.map_append]
theorem bytes_row (X : ByteArray) : bytesOf (rowOf X) = X := by
  apply ByteArray.ext
  apply Array.ext'
  have e : ((fun n : Int => UInt8.ofNat n.toNat) ∘ fun b : UInt8 => ((b.toNat : Nat) : Int)) = id := by funext x; simp
  simp only [bytesOf, rowOf, List.map_map, e, List.map_id]
theorem check0 : __strings_Builder__copyCheck_1.f = some ((), []) := by
  have e : cfg.prim 49 [(.one (.ptr 1 0))] [(.ghost [(.ptr 1 0)]), (.cells [(.slf 64), (.nils (.int .u8))])] ⟨[.agg (.cat (.keep (.slf 64)) (.own (.int .u8)))], 1⟩ = some ((), []) := rfl
  unfold __strings_Builder__copyCheck_1.f callX orPrim
  rw [e]
  rfl
theorem check1 (o : List Int) : __strings_Builder__copyCheck.f o = some ((), o) := by
  have e : cfg.prim 49 [(.one (.ptr 1 0))] [(.ghost [(.ptr 1 0)]), (.cells [(.slf 64), (.osl 2)]), (.row (.int .u8) o)] ⟨[.agg (.cat (.keep (.slf 64)) (.own (.int .u8)))], 1⟩ = some ((), o) := rfl
  unfold __strings_Builder__copyCheck.f callX orPrim
  rw [e]
  rfl
theorem ws0 (X : ByteArray) (h : X.size ≤ 1000000) : __strings_Builder__WriteString_1.f X = some ((X.size : Int), (), (), rowOf X) := by
  have hl := rowOf_len X
  unfold rowOf at hl
  rw [__strings_Builder__WriteString_1.f_eq, check0, Option.bind_some, hl, List.length_nil, cond_dec, if_pos (by omega)]
  rfl
theorem ws1 (s X : ByteArray) (h : X.size + s.size ≤ 1000000) : __strings_Builder__WriteString.f s (rowOf X) = some ((s.size : Int), (), (), rowOf (X ++ s)) := by
  have hl := rowOf_len s
  unfold rowOf at hl
  rw [__strings_Builder__WriteString.f_eq, check1, Option.bind_some, hl, rowOf_len, cond_dec, if_pos (by omega), ← rowOf_append]
  rfl
theorem str_eq (X : ByteArray) (h0 : 0 < X.size) (h : X.size ≤ 1000000) : __strings_Builder__String.f (rowOf X) = some X := by
  have e : cfg.prim 31 [(.one (.ptr 1 0))] [(.ghost []), (.cells [(.slf 64), (.osl 2)]), (.row (.int .u8) (rowOf X))] ⟨[.one (.ty .str)], 0⟩ = some (bytesOf (rowOf X)) := if_pos ⟨rfl, by rw [rowOf_len]; omega, by rw [rowOf_len]; omega⟩
  unfold __strings_Builder__String.f callX orPrim
  rw [e, bytes_row]
  rfl
/-! ### commands -/
def catI : List Int → ByteArray
  | [] => ⟨#[]⟩
  | x :: r => ivT x ++ catI r
theorem app_nil (x : ByteArray) : x ++ (⟨#[]⟩ : ByteArray) = x := by
  apply ByteArray.ext; rw [ByteArray.data_append]; simp
theorem nil_app (x : ByteArray) : (⟨#[]⟩ : ByteArray) ++ x = x := by
  apply ByteArray.ext; rw [ByteArray.data_append]; simp
theorem size_nil : (⟨#[]⟩ : ByteArray).size = 0 := rfl
def tailC (c : CommandT) : ByteArray := ivT c.2.2.2.1.1 ++ (ivT c.2.2.2.1.2 ++ (ivT c.2.2.2.2.1 ++ (ivT c.2.2.2.2.2.1 ++ (tvT c.2.2.2.2.2.2.1 ++ bvT c.2.2.2.2.2.2.2))))
def encC (c : CommandT) : ByteArray := ivT c.1 ++ (ivT c.2.1 ++ (uvT c.2.2.1.length ++ (catI c.2.2.1 ++ tailC c)))
structure FitC (c : CommandT) : Prop where
  p : I64 c.1
  k : I64 c.2.1
  u : ∀ n ∈ c.2.2.1, I64 n
  ul : c.2.2.1.length ≤ 100
  x : I64 c.2.2.2.1.1
  y : I64 c.2.2.2.1.2
  t : I64 c.2.2.2.2.1
  n : I64 c.2.2.2.2.2.1
  nl : c.2.2.2.2.2.2.1.size ≤ 100
theorem catI_size : ∀ (l : List Int), (∀ n ∈ l, I64 n) → (catI l).size ≤ 10 * l.length
  | [], _ => by rw [catI, size_nil]; simp
  | x :: r, h => by
    have h1 := ivT_size (h x (by simp))
    have h2 := catI_size r (fun n hn => h n (by simp [hn]))
    rw [catI, ByteArray.size_append, List.length_cons]
    omega
theorem catI_ge : ∀ (l : List Int), l.length ≤ (catI l).size
  | [] => by simp
  | x :: r => by
    have h1 := ivT_pos x
    have h2 := catI_ge r
    rw [catI, ByteArray.size_append, List.length_cons]
    omega
theorem tailC_size {c : CommandT} (h : FitC c) : (tailC c).size ≤ 151 := by
  have h1 := ivT_size h.x
  have h2 := ivT_size h.y
  have h3 := ivT_size h.t
  have h4 := ivT_size h.n
  have h5 := tvT_size (t := c.2.2.2.2.2.2.1) (by have := h.nl; omega)
  have h6 := h.nl
  unfold tailC
  simp only [ByteArray.size_append, bvT_size]
  omega
theorem uvT_size {n : Nat} (h : n < 18446744073709551616) : (uvT n).size ≤ 10 := by
  unfold uvT; rw [txt_size]; exact uvL_len10 h
theorem encC_size {c : CommandT} (h : FitC c) : (encC c).size ≤ 1200 := by
  have h1 := ivT_size h.p
  have h2 := ivT_size h.k
  have h3 := uvT_size (n := c.2.2.1.length) (by have := h.ul; omega)
  have h4 := catI_size _ h.u
  have h5 := tailC_size h
  have h6 := h.ul
  unfold encC
  simp only [ByteArray.size_append]
  omega
theorem encC_pos (c : CommandT) : 0 < (encC c).size := by
  have := ivT_pos c.1
  unfold encC
  rw [ByteArray.size_append]
  omega
section
variable {c : CommandT} (h : FitC c)
include h
theorem wEnc_j1 (X : ByteArray) (hX : X.size ≤ 3000) (h0 : 0 < X.size) : command_Encode.j1 (c.2.2.2.1.1, c.2.2.2.1.2, c.2.2.2.2.1, c.2.2.2.2.2.1) 0 c (rowOf X) = some (X ++ tailC c) := by
  have z1 := ivT_size h.x
  have z2 := ivT_size h.y
  have z3 := ivT_size h.t
  have z4 := ivT_size h.n
  have z5 := tvT_size (t := c.2.2.2.2.2.2.1) (by have := h.nl; omega)
  have z6 := h.nl
  have w1 : IntKind.i64.wrap (0 + 1) = 1 := rfl
  have w2 : IntKind.i64.wrap (1 + 1) = 2 := rfl
  have w3 : IntKind.i64.wrap (2 + 1) = 3 := rfl
  have w4 : IntKind.i64.wrap (3 + 1) = 4 := rfl
  have a1 : ∀ (a b c d : Int), idx [a, b, c, d] 0 = some a := fun _ _ _ _ => rfl
  have a2 : ∀ (a b c d : Int), idx [a, b, c, d] 1 = some b := fun _ _ _ _ => rfl
  have a3 : ∀ (a b c d : Int), idx [a, b, c, d] 2 = some c := fun _ _ _ _ => rfl
  have a4 : ∀ (a b c d : Int), idx [a, b, c, d] 3 = some d := fun _ _ _ _ => rfl
  rw [command_Encode.j1_eq, decide_eq_true (show (0 : Int) < 4 by omega), cond_true, a1, Option.bind_some, wInt _ h.x, Option.bind_some, ws1 _ _ (by omega), Option.bind_some, w1]
  simp only
  rw [command_Encode.j1_eq, decide_eq_true (show (1 : Int) < 4 by omega), cond_true, a2, Option.bind_some, wInt _ h.y, Option.bind_some, ws1 _ _ (by rw [ByteArray.size_append]; omega), Option.bind_some, w2]
  simp only
  rw [command_Encode.j1_eq, decide_eq_true (show (2 : Int) < 4 by omega), cond_true, a3, Option.bind_some, wInt _ h.t, Option.bind_some, ws1 _ _ (by simp only [ByteArray.size_append]; omega), Option.bind_some, w3]
  simp only
  rw [command_Encode.j1_eq, decide_eq_true (show (3 : Int) < 4 by omega), cond_true, a4, Option.bind_some, wInt _ h.n, Option.bind_some, ws1 _ _ (by simp only [ByteArray.size_append]; omega), Option.bind_some, w4]
  simp only
  rw [command_Encode.j1_eq, decide_eq_false (show ¬ (4 : Int) < 4 by omega), cond_false, wText _ (by omega), Option.bind_some, wBool, Option.bind_some, cond_dec, if_pos (by rw [bvT_size]; omega),
    ws1 _ _ (by simp only [ByteArray.size_append, bvT_size]; omega), Option.bind_some, str_eq _ (by simp only [ByteArray.size_append]; omega) (by simp only [ByteArray.size_append, bvT_size]; omega), Option.bind_some]
  unfold tailC
  simp only [ByteArray.append_assoc]
theorem wEnc_j0 : ∀ (m k : Nat) (X : ByteArray), k + m = c.2.2.1.length → X.size + 10 * m ≤ 2000 → 0 < X.size → command_Encode.j0 c.2.2.1 c.2.2.1.length k c (rowOf X) = some (X ++ (catI (c.2.2.1.drop k) ++ tailC c)) := by
  intro m
  induction m with
  | zero =>
    intro k X hk hX h0
    rw [command_Encode.j0_eq, lt_false (by omega), cond_false, wEnc_j1 h X (by omega) h0, List.drop_of_length_le (by omega)]
    rw [catI, nil_app]
  | succ m ih =>
    intro k X hk hX h0
    have hlt : k < c.2.2.1.length := by omega
    have hu := h.u _ (List.getElem_mem hlt)
    have hz := ivT_size hu
    have := h.ul
    rw [command_Encode.j0_eq, lt_true hlt, cond_true, idx_nat, List.getElem?_eq_getElem hlt, Option.bind_some, wInt _ hu, Option.bind_some, ws1 _ _ (by omega), Option.bind_some, wr_succ hlt (by omega)]
    simp only
    rw [ih (k + 1) _ (by omega) (by rw [ByteArray.size_append]; omega) (by rw [ByteArray.size_append]; omega), List.drop_eq_getElem_cons hlt, catI]
    simp only [ByteArray.append_assoc]
theorem wEncC : command_Encode.f c = some (encC c) := by
  have h1 := ivT_size h.p
  have h2 := ivT_size h.k
  have h3 := uvT_size (n := c.2.2.1.length) (by have := h.ul; omega)
  have h4 := ivT_pos c.1
  have h5 := h.ul
  rw [command_Encode.f_eq, wInt _ h.p, Option.bind_some, wInt _ h.k, Option.bind_some, cond_dec, if_pos (by omega), u64_nat (by omega), wUint _ (by omega), Option.bind_some, cond_dec, if_pos (by rw [ByteArray.size_append]; omega),
    ws0 _ (by simp only [ByteArray.size_append]; omega), Option.bind_some]
  simp only
  have := wEnc_j0 h c.2.2.1.length 0 (ivT c.1 ++ ivT c.2.1 ++ uvT c.2.2.1.length) (by omega) (by simp only [ByteArray.size_append]; omega) (by simp only [ByteArray.size_append]; omega)
  rw [show ((0 : Nat) : Int) = 0 from rfl] at this
  rw [this, List.drop_zero]
  unfold encC
  simp only [ByteArray.append_assoc]
theorem rEnc_j0 : ∀ (m k : Nat) (X : ByteArray), k + m = c.2.2.1.length → X.size + 10 * m ≤ 2000 → ref34_Encode.j0 X k c = some (X ++ (catI (c.2.2.1.drop k) ++ tailC c)) := by
  intro m
  induction m with
  | zero =>
    intro k X hk hX
    have z1 := ivT_size h.x
    have z2 := ivT_size h.y
    have z3 := ivT_size h.t
    have z4 := ivT_size h.n
    have z5 := tvT_size (t := c.2.2.2.2.2.2.1) (by have := h.nl; omega)
    have z6 := h.nl
    rw [ref34_Encode.j0_eq, lt_false (by omega), cond_false, rInt _ h.x, Option.bind_some, cond_dec, if_pos (by omega), rInt _ h.y, Option.bind_some, cond_dec, if_pos (by rw [ByteArray.size_append]; omega),
      rInt _ h.t, Option.bind_some, cond_dec, if_pos (by simp only [ByteArray.size_append]; omega), rInt _ h.n, Option.bind_some, cond_dec, if_pos (by simp only [ByteArray.size_append]; omega), rText _ (by omega), Option.bind_some, cond_dec, if_pos (by simp only [ByteArray.size_append]; omega),
      rBool, Option.bind_some, cond_dec, if_pos (by simp only [ByteArray.size_append, bvT_size]; omega), List.drop_of_length_le (by omega)]
    unfold tailC
    rw [catI, nil_app]
    simp only [ByteArray.append_assoc]
  | succ m ih =>
    intro k X hk hX
    have hlt : k < c.2.2.1.length := by omega
    have hu := h.u _ (List.getElem_mem hlt)
    have hz := ivT_size hu
    have := h.ul
    rw [ref34_Encode.j0_eq, lt_true hlt, cond_true, idx_nat, List.getElem?_eq_getElem hlt, Option.bind_some, rInt _ hu, Option.bind_some, cond_dec, if_pos (by omega), wr_succ hlt (by omega)]
    rw [ih (k + 1) _ (by omega) (by rw [ByteArray.size_append]; omega), List.drop_eq_getElem_cons hlt, catI]
    simp only [ByteArray.append_assoc]
theorem rEncC : ref34_Encode.f c = some (encC c) := by
  have h1 := ivT_size h.p
  have h2 := ivT_size h.k
  have h3 := uvT_size (n := c.2.2.1.length) (by have := h.ul; omega)
  have h5 := h.ul
  rw [ref34_Encode.f_eq, rInt _ h.p, Option.bind_some, rInt _ h.k, Option.bind_some, cond_dec, if_pos (by omega), u64_nat (by omega), rUint _ (by omega), Option.bind_some, cond_dec, if_pos (by rw [ByteArray.size_append]; omega)]
  have := rEnc_j0 h c.2.2.1.length 0 (ivT c.1 ++ ivT c.2.1 ++ uvT c.2.2.1.length) (by omega) (by simp only [ByteArray.size_append]; omega)
  rw [show ((0 : Nat) : Int) = 0 from rfl] at this
  rw [this, List.drop_zero]
  unfold encC
  simp only [ByteArray.append_assoc]
end
/-! ### batches -/
def catC : List CommandT → ByteArray
  | [] => ⟨#[]⟩
  | x :: r => encC x ++ catC r
def encB (b : BatchT) : ByteArray := ivT b.1 ++ (ivT b.2.1 ++ (ivT b.2.2.1 ++ (uvT (List.length (α := CommandT) b.2.2.2) ++ catC b.2.2.2)))
structure FitB (b : BatchT) : Prop where
  p : I64 b.1
  t : I64 b.2.1
  l : I64 b.2.2.1
  c : ∀ c ∈ (b.2.2.2 : List CommandT), FitC c
  cl : List.length (α := CommandT) b.2.2.2 ≤ 40
theorem catC_size : ∀ (l : List CommandT), (∀ c ∈ l, FitC c) → (catC l).size ≤ 1200 * l.length
  | [], _ => by rw [catC, size_nil]; simp
  | x :: r, h => by
    have h1 := encC_size (h x (by simp))
    have h2 := catC_size r (fun n hn => h n (by simp [hn]))
    rw [catC, ByteArray.size_append, List.length_cons]
    omega
theorem catC_ge : ∀ (l : List CommandT), l.length ≤ (catC l).size
  | [] => by simp
  | x :: r => by
    have h1 := encC_pos x
    have h2 := catC_ge r
    rw [catC, ByteArray.size_append, List.length_cons]
    omega
theorem encB_size {b : BatchT} (h : FitB b) : (encB b).size ≤ 50000 := by
  have h1 := ivT_size h.p
  have h2 := ivT_size h.t
  have h3 := ivT_size h.l
  have h4 := uvT_size (n := List.length (α := CommandT) b.2.2.2) (by have := h.cl; omega)
  have h5 := catC_size _ h.c
  have h6 := h.cl
  unfold encB
  simp only [ByteArray.size_append]
  omega
theorem wEncB_j (cs : List CommandT) (hc : ∀ c ∈ cs, FitC c) (hl : cs.length ≤ 40) : ∀ (m k : Nat) (X : ByteArray), k + m = cs.length → X.size + 1200 * m ≤ 100000 → 0 < X.size → input_Encode.j0 cs cs.length k (rowOf X) = some (X ++ catC (cs.drop k)) := by
  intro m
  induction m with
  | zero =>
    intro k X hk hX h0
    rw [input_Encode.j0_eq, lt_false (by omega), cond_false, str_eq _ h0 (by omega), Option.bind_some, List.drop_of_length_le (by omega), catC, app_nil]
  | succ m ih =>
    intro k X hk hX h0
    have hlt : k < cs.length := by omega
    have hu := hc _ (List.getElem_mem hlt)
    have hz := encC_size hu
    rw [input_Encode.j0_eq, lt_true hlt, cond_true, idx_nat, List.getElem?_eq_getElem hlt, Option.bind_some, wEncC hu, Option.bind_some, ws1 _ _ (by omega), Option.bind_some, wr_succ hlt (by omega)]
    simp only
    rw [ih (k + 1) _ (by omega) (by rw [ByteArray.size_append]; omega) (by rw [ByteArray.size_append]; omega), List.drop_eq_getElem_cons hlt, catC, ByteArray.append_assoc]
theorem wEncB {b : BatchT} (h : FitB b) : input_Encode.f b = some (encB b) := by
  have h1 := ivT_size h.p
  have h2 := ivT_size h.t
  have h3 := ivT_size h.l
  have h4 := uvT_size (n := List.length (α := CommandT) b.2.2.2) (by have := h.cl; omega)
  have h5 := ivT_pos b.1
  have h6 := h.cl
  rw [input_Encode.f_eq, wInt _ h.p, Option.bind_some, wInt _ h.t, Option.bind_some, cond_dec, if_pos (by omega), wInt _ h.l, Option.bind_some, cond_dec, if_pos (by rw [ByteArray.size_append]; omega), u64_nat (by omega), wUint _ (by omega), Option.bind_some, cond_dec, if_pos (by simp only [ByteArray.size_append]; omega),
    ws0 _ (by simp only [ByteArray.size_append]; omega), Option.bind_some]
  simp only
  have := wEncB_j b.2.2.2 h.c h6 (List.length (α := CommandT) b.2.2.2) 0 (ivT b.1 ++ ivT b.2.1 ++ ivT b.2.2.1 ++ uvT (List.length (α := CommandT) b.2.2.2)) (by omega) (by simp only [ByteArray.size_append]; omega) (by simp only [ByteArray.size_append]; omega)
  rw [show ((0 : Nat) : Int) = 0 from rfl] at this
  rw [this, List.drop_zero]
  unfold encB
  simp only [ByteArray.append_assoc]
theorem rEncB_j {b : BatchT} (h : FitB b) : ∀ (m k : Nat) (X : ByteArray), k + m = List.length (α := CommandT) b.2.2.2 → X.size + 1200 * m ≤ 100000 → ref46_Encode.j0 X k b = some (X ++ catC (List.drop (α := CommandT) k b.2.2.2)) := by
  have hl := h.cl
  intro m
  induction m with
  | zero =>
    intro k X hk hX
    rw [ref46_Encode.j0_eq, lt_false (by omega), cond_false, List.drop_of_length_le (by omega), catC, app_nil]
  | succ m ih =>
    intro k X hk hX
    have hlt : k < List.length (α := CommandT) b.2.2.2 := by omega
    have hu := h.c _ (List.getElem_mem hlt)
    have hz := encC_size hu
    rw [ref46_Encode.j0_eq, lt_true hlt, cond_true, idx_nat, List.getElem?_eq_getElem hlt, Option.bind_some, rEncC hu, Option.bind_some, cond_dec, if_pos (by omega), wr_succ hlt (by omega)]
    rw [ih (k + 1) _ (by omega) (by rw [ByteArray.size_append]; omega), List.drop_eq_getElem_cons hlt, catC, ByteArray.append_assoc]
theorem rEncB {b : BatchT} (h : FitB b) : ref46_Encode.f b = some (encB b) := by
  have h1 := ivT_size h.p
  have h2 := ivT_size h.t
  have h3 := ivT_size h.l
  have h4 := uvT_size (n := List.length (α := CommandT) b.2.2.2) (by have := h.cl; omega)
  have h6 := h.cl
  rw [ref46_Encode.f_eq, rInt _ h.p, Option.bind_some, rInt _ h.t, Option.bind_some, cond_dec, if_pos (by omega), rInt _ h.l, Option.bind_some, cond_dec, if_pos (by rw [ByteArray.size_append]; omega), u64_nat (by omega), rUint _ (by omega), Option.bind_some, cond_dec, if_pos (by simp only [ByteArray.size_append]; omega)]
  have := rEncB_j h (List.length (α := CommandT) b.2.2.2) 0 (ivT b.1 ++ ivT b.2.1 ++ ivT b.2.2.1 ++ uvT (List.length (α := CommandT) b.2.2.2)) (by omega) (by simp only [ByteArray.size_append]; omega)
  rw [show ((0 : Nat) : Int) = 0 from rfl] at this
  rw [this, List.drop_zero]
  unfold encB
  simp only [ByteArray.append_assoc]
end Go.Proofs.YtpiejdjanhnbeaaGreat

/- Valid commands and batches; equality. -/
set_option linter.unusedVariables false
set_option linter.unusedSimpArgs false
set_option maxHeartbeats 4000000
namespace Go.Proofs.YtpiejdjanhnbeaaGreat
open Go Go.Sk

/-! ### kinds -/
def kO (k : Int) : Bool := decide (k ≥ 1) && decide (k ≤ 6)
def kS (k : Int) : Bool := decide (k ≥ 7) && decide (k ≤ 9)
def kA (k : Int) : Bool := k == 1 || (k == 3 || (k == 4 || k == 6))
def kN (k : Int) : Bool := k == 1 || k == 9
def kM (k : Int) : Bool := k == 4 || (k == 7 || k == 8)
theorem cc {α : Type} (a t : Bool) (x y : α) : (bif a then x else bif t then x else y) = bif (a || t) then x else y := by cases a <;> cases t <;> rfl
theorem ord_eq (k : Int) : ref34_Ordering.f k = some (kO k) := by rw [ref34_Ordering.f_eq, c1]; rfl
theorem single_eq (k : Int) : ref34_single.f k = some (kS k) := by rw [ref34_single.f_eq, c1]; rfl
theorem hasAt_eq (k : Int) : ref34_hasAt.f k = some (kA k) := by rw [ref34_hasAt.f_eq, c2, c2, c2]; rfl
theorem hasN_eq (k : Int) : ref34_hasN.f k = some (kN k) := by rw [ref34_hasN.f_eq, c2]; rfl
theorem hasName_eq (k : Int) : ref34_hasName.f k = some (kM k) := by rw [ref34_hasName.f_eq, c2, c2]; rfl
def bit (f m : Int) : Bool := IntKind.i64.wrap (((BitVec.ofInt 64 f &&& BitVec.ofInt 64 m).toNat : Nat) : Int) != 0
structure Fd (k f : Int) : Prop where
  eq : command_fields.f k = some f
  b1 : bit f 1 = (kO k || kS k)
  b2 : bit f 2 = kA k
  b4 : bit f 4 = (k == 2)
  b8 : bit f 8 = kN k
  b16 : bit f 16 = kM k
  b32 : bit f 32 = kO k
theorem fields_eq (k : Int) (h1 : 1 ≤ k) (h2 : k ≤ 12) : ∃ f, Fd k f := by
  have hk : k = 1 ∨ k = 2 ∨ k = 3 ∨ k = 4 ∨ k = 5 ∨ k = 6 ∨ k = 7 ∨ k = 8 ∨ k = 9 ∨ k = 10 ∨ k = 11 ∨ k = 12 := by omega
  rcases hk with rfl | rfl | rfl | rfl | rfl | rfl | rfl | rfl | rfl | rfl | rfl | rfl
  · exact ⟨43, command_fields.f_eq _, rfl, rfl, rfl, rfl, rfl, rfl⟩
  · exact ⟨37, command_fields.f_eq _, rfl, rfl, rfl, rfl, rfl, rfl⟩
  · exact ⟨35, command_fields.f_eq _, rfl, rfl, rfl, rfl, rfl, rfl⟩
  · exact ⟨51, command_fields.f_eq _, rfl, rfl, rfl, rfl, rfl, rfl⟩
  · exact ⟨33, command_fields.f_eq _, rfl, rfl, rfl, rfl, rfl, rfl⟩
  · exact ⟨35, command_fields.f_eq _, rfl, rfl, rfl, rfl, rfl, rfl⟩
  · exact ⟨17, command_fields.f_eq _, rfl, rfl, rfl, rfl, rfl, rfl⟩
  · exact ⟨17, command_fields.f_eq _, rfl, rfl, rfl, rfl, rfl, rfl⟩
  · exact ⟨9, command_fields.f_eq _, rfl, rfl, rfl, rfl, rfl, rfl⟩
  · exact ⟨0, command_fields.f_eq _, rfl, rfl, rfl, rfl, rfl, rfl⟩
  · exact ⟨0, command_fields.f_eq _, rfl, rfl, rfl, rfl, rfl, rfl⟩
  · exact ⟨0, command_fields.f_eq _, rfl, rfl, rfl, rfl, rfl, rfl⟩
/-! ### fields that a kind does not have -/
def bareS (c : CommandT) : Bool :=
  ((kO c.2.1 || kS c.2.1) || ((c.2.2.1.length : Int) == 0)) && ((kA c.2.1 || (c.2.2.2.1.1 == 0 && c.2.2.2.1.2 == 0)) && (((c.2.1 == 2) || (c.2.2.2.2.1 == 0)) && ((kN c.2.1 || (c.2.2.2.2.2.1 == 0)) && ((kM c.2.1 || (ByteArray.toList c.2.2.2.2.2.2.1 == ByteArray.toList { data := #[] })) && (kO c.2.1 || !c.2.2.2.2.2.2.2)))))
theorem rBare (c : CommandT) : ref34_bare.f c = some (bareS c) := by
  rw [ref34_bare.f_eq]
  simp only [ord_eq, single_eq, Option.bind_some]
  rw [show (bif kO c.2.1 then ref34_bare.j0 true c else ref34_bare.j0 (kS c.2.1) c) = ref34_bare.j0 (kO c.2.1 || kS c.2.1) c by cases kO c.2.1 <;> rfl]
  rw [ref34_bare.j0_eq]
  simp only [ord_eq, single_eq, hasAt_eq, hasN_eq, hasName_eq, Option.bind_some, ref34_bare.j1_eq, cc, c2]
  simp only [c1]
  rfl
theorem wUnused (c : CommandT) (f : Int) (h : Fd c.2.1 f) : command_unused.f c = some (bareS c) := by
  have h1 := h.b1
  have h2 := h.b2
  have h3 := h.b4
  have h4 := h.b8
  have h5 := h.b16
  have h6 := h.b32
  unfold bit at h1 h2 h3 h4 h5 h6
  rw [command_unused.f_eq, h.eq, Option.bind_some, h1, h2, h3, h4, h5, h6]
  simp only [command_unused.j0_eq, cc, c2]
  simp only [c1]
  rfl
/-! ### units, places, names -/
noncomputable def idsS (c : CommandT) : Bool := (ref34_listed.f c).getD false
theorem ids_j (c : CommandT) (hl : c.2.2.1.length ≤ 1000000) (hk1 : 1 ≤ c.2.1) (hk2 : c.2.1 ≤ 12) : ∀ (m k : Nat), k + m = c.2.2.1.length → ∃ b, command_ids.j0 c.2.2.1 c.2.2.1.length k c = some b ∧ ref34_listed.j0 k c = some b := by
  intro m
  induction m with
  | zero =>
    intro k hk
    rw [command_ids.j0_eq, ref34_listed.j0_eq, lt_false (by omega), cond_false, cond_false, single_eq]
    refine ⟨decide ((c.2.2.1.length : Int) > 0) && (!kS c.2.1 || (c.2.2.1.length : Int) == 1), ?_, ?_⟩
    · have e : kS c.2.1 = (c.2.1 == 7 || (c.2.1 == 8 || c.2.1 == 9)) := by
        unfold kS
        simp only [beq_dec, ← Bool.decide_and, ← Bool.decide_or]
        exact decide_eq_decide.2 (by omega)
      rw [e]
      cases c.2.1 == 7 <;> cases c.2.1 == 8 <;> cases c.2.1 == 9 <;> cases decide ((c.2.2.1.length : Int) > 0) <;> cases (c.2.2.1.length : Int) == 1 <;> rfl
    · cases kS c.2.1 <;> cases decide ((c.2.2.1.length : Int) > 0) <;> cases (c.2.2.1.length : Int) == 1 <;> rfl
  | succ m ih =>
    intro k hk
    have hlt : k < c.2.2.1.length := by omega
    obtain ⟨b, h1, h2⟩ := ih (k + 1) (by omega)
    rw [command_ids.j0_eq, ref34_listed.j0_eq, lt_true hlt, cond_true, cond_true, idx_nat, List.getElem?_eq_getElem hlt]
    simp only [Option.bind_some, wr_succ hlt (show c.2.2.1.length ≤ 9223372036854775807 by omega), h1, h2]
    by_cases h0 : 0 < k
    · rw [prev_idx _ k hlt (by omega) h0]
      simp only [Option.bind_some]
      generalize decide (c.2.2.1[k] < 1) = b1
      generalize decide (c.2.2.1[k] > 1099511627776) = b2
      generalize decide (c.2.2.1[k] ≤ c.2.2.1[k - 1]) = b3
      generalize decide ((k : Int) > 0) = b4
      refine ⟨bif b1 then false else bif b2 then false else bif b4 then (bif b3 then false else b) else b, ?_, ?_⟩ <;> (cases b1 <;> cases b2 <;> cases b3 <;> cases b4 <;> rfl)
    · rw [decide_eq_false (show ¬ (k : Int) > 0 by omega)]
      simp only [cond_false]
      generalize decide (c.2.2.1[k] < 1) = b1
      generalize decide (c.2.2.1[k] > 1099511627776) = b2
      refine ⟨bif b1 then false else bif b2 then false else b, ?_, ?_⟩ <;> (cases b1 <;> cases b2 <;> rfl)
theorem ids_eq (c : CommandT) (hl : c.2.2.1.length ≤ 1000000) (hk1 : 1 ≤ c.2.1) (hk2 : c.2.1 ≤ 12) : command_ids.f c = some (idsS c) ∧ ref34_listed.f c = some (idsS c) := by
  obtain ⟨b, h1, h2⟩ := ids_j c hl hk1 hk2 _ 0 (Nat.zero_add _)
  unfold idsS
  rw [command_ids.f_eq, ref34_listed.f_eq]
  rw [show ((0 : Nat) : Int) = 0 from rfl] at h1 h2
  rw [h1, h2]
  exact ⟨rfl, rfl⟩
def vecS (a : VecT) : Bool := decide (-1048576 ≤ a.1 ∧ a.1 ≤ 1048576) && decide (-1048576 ≤ a.2 ∧ a.2 ≤ 1048576)
theorem wVec (a : VecT) : vec_Valid.f a = some (vecS a) := by
  rw [vec_Valid.f_eq, vec_nearest.f_eq, vec_near.f_eq, vec_near.f_eq, num_Clamp.f_eq, num_Clamp.f_eq]
  simp only [Option.bind_some, vecS]
  congr 2
  · rw [beq_dec]
    apply decide_eq_decide.2
    split <;> split at * <;> omega
  · rw [beq_dec]
    apply decide_eq_decide.2
    split <;> split at * <;> omega
theorem rVec (a : VecT) : ref02_Valid.f a = some (vecS a) := by
  rw [ref02_Valid.f_eq, ref02_NearVec.f_eq, ref02_Near.f_eq, ref02_Near.f_eq]
  simp only [Option.bind_some, vecS]
  congr 2
  · rw [beq_dec]
    apply decide_eq_decide.2
    split <;> split at * <;> omega
  · rw [beq_dec]
    apply decide_eq_decide.2
    split <;> split at * <;> omega
noncomputable def nameS (s : ByteArray) : Bool := (ref09_Name.f s).getD false
theorem name_j (s : ByteArray) (hs : s.size ≤ 1000000) : ∀ (m k : Nat), k + m = s.size → ∃ b, rules_Name.j0 s s.size k = some b ∧ ref09_Name.j0 s k = some b := by
  intro m
  induction m with
  | zero =>
    intro k hk
    rw [rules_Name.j0_eq, ref09_Name.j0_eq, lt_false (by omega), cond_false, cond_false]
    exact ⟨true, rfl, rfl⟩
  | succ m ih =>
    intro k hk
    have hlt : k < s.size := by omega
    obtain ⟨b, h1, h2⟩ := ih (k + 1) (by omega)
    rw [rules_Name.j0_eq, ref09_Name.j0_eq, lt_true hlt, cond_true, cond_true, byteAt_nat s k hlt]
    simp only [Option.bind_some, wr_succ hlt (show s.size ≤ 9223372036854775807 by omega), h1, h2]
    generalize ((s[k].toNat : Nat) : Int) = c
    have a1 : decide (c ≥ 97) = !decide (c < 97) := by rw [← decide_not]; exact decide_eq_decide.2 (by omega)
    have a2 : (!decide (c ≤ 122)) = decide (c > 122) := by rw [← decide_not]; exact decide_eq_decide.2 (by omega)
    have a3 : decide (c ≥ 48) = !decide (c < 48) := by rw [← decide_not]; exact decide_eq_decide.2 (by omega)
    have a4 : (!decide (c ≤ 57)) = decide (c > 57) := by rw [← decide_not]; exact decide_eq_decide.2 (by omega)
    rw [a1, a2, a3, a4]
    generalize decide (c < 97) = b1
    generalize decide (c > 122) = b2
    generalize decide (c < 48) = b3
    generalize decide (c > 57) = b4
    generalize (c != 95) = b5
    refine ⟨bif (b1 || b2) && (b3 || b4) && b5 then false else b, ?_, ?_⟩ <;> (cases b1 <;> cases b2 <;> cases b3 <;> cases b4 <;> cases b5 <;> rfl)
theorem name_eq (s : ByteArray) (hs : s.size ≤ 1000000) : rules_Name.f s = some (nameS s) ∧ ref09_Name.f s = some (nameS s) := by
  have key : ∃ b, rules_Name.f s = some b ∧ ref09_Name.f s = some b := by
    rw [rules_Name.f_eq, ref09_Name.f_eq, empty_iff]
    by_cases h0 : s.size = 0
    · rw [decide_eq_true h0, decide_eq_true (show (s.size : Int) < 1 by omega)]
      exact ⟨false, rfl, rfl⟩
    rw [decide_eq_false h0, decide_eq_false (show ¬ (s.size : Int) < 1 by omega), cond_false, cond_false]
    obtain ⟨b, h1, h2⟩ := name_j s hs s.size 0 (by omega)
    rw [show ((0 : Nat) : Int) = 0 from rfl] at h1 h2
    rw [h1, h2]
    have h3 := byteAt_nat s 0 (by omega)
    rw [show ((0 : Nat) : Int) = 0 from rfl] at h3
    rw [h3]
    simp only [Option.bind_some]
    generalize decide ((s.size : Int) > 12) = b1
    generalize decide (((s[0].toNat : Nat) : Int) < 97) = b2
    generalize decide (((s[0].toNat : Nat) : Int) > 122) = b3
    refine ⟨bif b1 then false else bif b2 then false else bif b3 then false else b, ?_, ?_⟩ <;> (cases b1 <;> cases b2 <;> cases b3 <;> rfl)
  obtain ⟨b, h1, h2⟩ := key
  unfold nameS
  rw [h2, h1]
  exact ⟨rfl, rfl⟩
theorem name_len (s : ByteArray) (h : nameS s = true) : s.size ≤ 12 := by
  unfold nameS at h
  rw [ref09_Name.f_eq] at h
  rcases Nat.lt_or_ge 12 s.size with h1 | h1
  · rw [decide_eq_false (show ¬ (s.size : Int) < 1 by omega), decide_eq_true (show (s.size : Int) > 12 by omega)] at h
    exact absurd h (by simp)
  · exact h1
/-! ### valid commands -/
noncomputable def valC (c : CommandT) : Int :=
  bif decide (c.2.1 < 1) || (decide (c.2.1 > 12) || (decide (c.1 < 1) || (decide (c.1 > 6) || !bareS c))) then 1
  else bif decide ((c.2.2.1.length : Int) > 64) then 2
  else bif (kO c.2.1 || kS c.2.1) && !idsS c then 1
  else bif kA c.2.1 && !vecS c.2.2.2.1 then 1
  else bif (c.2.1 == 2) && (decide (c.2.2.2.2.1 < 1) || decide (c.2.2.2.2.1 > 1099511627776)) then 1
  else bif kN c.2.1 && (decide (c.2.2.2.2.2.1 < 0) || decide (c.2.2.2.2.2.1 > 4)) then 1
  else bif kM c.2.1 && !nameS c.2.2.2.2.2.2.1 then 6 else 0
structure LenC (c : CommandT) : Prop where
  ul : c.2.2.1.length ≤ 100
  nl : c.2.2.2.2.2.2.1.size ≤ 100
theorem cf {α : Type} (g : Bool → α) (a x : Bool) : (bif a then g x else g false) = g (a && x) := by cases a <;> rfl
theorem ct {α : Type} (g : Bool → α) (a x : Bool) : (bif a then g true else g x) = g (a || x) := by cases a <;> rfl
theorem some_cond {α : Type} (a : Bool) (x y : α) : (bif a then some x else some y) = some (bif a then x else y) := by cases a <;> rfl
theorem wValC (c : CommandT) (h : LenC c) : command_Valid.f c = some (valC c) := by
  have hl1 := h.ul
  have hl2 := h.nl
  rw [command_Valid.f_eq]
  by_cases h1 : c.2.1 < 1
  · unfold valC
    rw [decide_eq_true h1, cond_true, command_Valid.j0_eq]
    rfl
  by_cases h2 : c.2.1 > 12
  · unfold valC
    rw [decide_eq_false h1, cond_false, decide_eq_true h2, cond_true, command_Valid.j0_eq]
    rfl
  obtain ⟨f, hf⟩ := fields_eq c.2.1 (by omega) (by omega)
  have e1 := hf.b1
  have e2 := hf.b2
  have e4 := hf.b4
  have e8 := hf.b8
  have e16 := hf.b16
  unfold bit at e1 e2 e4 e8 e16
  have hids := (ids_eq c (by omega) (by omega) (by omega)).1
  have hname := (name_eq c.2.2.2.2.2.2.1 (by omega)).1
  have j3 : ∀ b, command_Valid.j3 f b c = some (bif b then 1 else bif kM c.2.1 && !nameS c.2.2.2.2.2.2.1 then 6 else 0) := fun b => by
    rw [command_Valid.j3_eq, e16, hname]
    simp only [Option.bind_some, command_Valid.j5_eq, some_cond]
    congr 1
    cases b <;> cases kM c.2.1 <;> rfl
  have j9 : ∀ b, command_Valid.j9 f b c = command_Valid.j3 f b c := fun b => by rw [command_Valid.j9_eq, command_Valid.j8_eq, command_Valid.j6_eq]
  have j7 : ∀ b, command_Valid.j7 f 4 b c = some (bif b then 1 else bif kN c.2.1 && (decide (c.2.2.2.2.2.1 < 0) || decide (c.2.2.2.2.2.1 > 4)) then 1 else bif kM c.2.1 && !nameS c.2.2.2.2.2.2.1 then 6 else 0) := fun b => by
    rw [command_Valid.j7_eq, e8, command_Valid.j8_eq, command_Valid.j6_eq, j9, j9, j9, ct (fun b => command_Valid.j3 f b c), cf (fun b => command_Valid.j3 f b c), j3, j3, some_cond]
    congr 1
    cases b <;> rfl
  have j4 : ∀ b, command_Valid.j4 f 4 b c = some (bif b then 1 else bif (c.2.1 == 2) && (decide (c.2.2.2.2.1 < 1) || decide (c.2.2.2.2.1 > 1099511627776)) then 1 else bif kN c.2.1 && (decide (c.2.2.2.2.2.1 < 0) || decide (c.2.2.2.2.2.1 > 4)) then 1 else bif kM c.2.1 && !nameS c.2.2.2.2.2.2.1 then 6 else 0) := fun b => by
    rw [command_Valid.j4_eq, e4, command_Valid.j6_eq, ct (fun b => command_Valid.j7 f 4 b c), cf (fun b => command_Valid.j7 f 4 b c), j7, j3, some_cond]
    congr 1
    cases b <;> rfl
  have j2 : ∀ b, command_Valid.j2 f 4 b c = some (bif b then 1 else bif kA c.2.1 && !vecS c.2.2.2.1 then 1 else bif (c.2.1 == 2) && (decide (c.2.2.2.2.1 < 1) || decide (c.2.2.2.2.1 > 1099511627776)) then 1 else bif kN c.2.1 && (decide (c.2.2.2.2.2.1 < 0) || decide (c.2.2.2.2.2.1 > 4)) then 1 else bif kM c.2.1 && !nameS c.2.2.2.2.2.2.1 then 6 else 0) := fun b => by
    rw [command_Valid.j2_eq, e2, wVec, Option.bind_some, cf (fun b => command_Valid.j4 f 4 b c), j4, j3, some_cond]
    congr 1
    cases b <;> rfl
  rw [decide_eq_false h1, cond_false, decide_eq_false h2, cond_false, wUnused c f hf, Option.bind_some, ct (fun b => command_Valid.j0 b c), ct (fun b => command_Valid.j0 b c), command_Valid.j0_eq, hf.eq, Option.bind_some, command_Valid.j1_eq, e1, hids, Option.bind_some,
    cf (fun b => command_Valid.j2 f 4 b c), j2]
  unfold valC
  rw [decide_eq_false h1, decide_eq_false h2, Bool.false_or, Bool.false_or]
  rw [show ∀ (a : Bool) (x : Option Int), (bif a then x else x) = x from fun a x => by cases a <;> rfl, some_cond, some_cond]
theorem rValC (c : CommandT) (h : LenC c) : ref34_Valid.f c = some (valC c) := by
  have hl1 := h.ul
  have hl2 := h.nl
  rw [ref34_Valid.f_eq]
  by_cases h1 : c.2.1 < 1
  · unfold valC
    rw [decide_eq_true h1, cond_true, ref34_Valid.j0_eq]
    rfl
  by_cases h2 : c.2.1 > 12
  · unfold valC
    rw [decide_eq_false h1, cond_false, decide_eq_true h2, cond_true, ref34_Valid.j0_eq]
    rfl
  have hids := (ids_eq c (by omega) (by omega) (by omega)).2
  have hname := (name_eq c.2.2.2.2.2.2.1 (by omega)).2
  have j5 : ∀ b, ref34_Valid.j5 b c = some (bif b then 1 else bif kM c.2.1 && !nameS c.2.2.2.2.2.2.1 then 6 else 0) := fun b => by
    rw [ref34_Valid.j5_eq, hasName_eq, Option.bind_some, hname]
    simp only [Option.bind_some, ref34_Valid.j6_eq, some_cond]
    congr 1
    cases b <;> cases kM c.2.1 <;> rfl
  have j4 : ∀ b, ref34_Valid.j4 4 b c = some (bif b then 1 else bif kN c.2.1 && (decide (c.2.2.2.2.2.1 < 0) || decide (c.2.2.2.2.2.1 > 4)) then 1 else bif kM c.2.1 && !nameS c.2.2.2.2.2.2.1 then 6 else 0) := fun b => by
    rw [ref34_Valid.j4_eq, hasN_eq, Option.bind_some, ct (fun b => ref34_Valid.j5 b c), cf (fun b => ref34_Valid.j5 b c), j5, some_cond]
  have j3 : ∀ b, ref34_Valid.j3 4 b c = some (bif b then 1 else bif (c.2.1 == 2) && (decide (c.2.2.2.2.1 < 1) || decide (c.2.2.2.2.1 > 1099511627776)) then 1 else bif kN c.2.1 && (decide (c.2.2.2.2.2.1 < 0) || decide (c.2.2.2.2.2.1 > 4)) then 1 else bif kM c.2.1 && !nameS c.2.2.2.2.2.2.1 then 6 else 0) := fun b => by
    rw [ref34_Valid.j3_eq, ct (fun b => ref34_Valid.j4 4 b c), cf (fun b => ref34_Valid.j4 4 b c), j4, some_cond]
  have j2 : ∀ b, ref34_Valid.j2 4 b c = some (bif b then 1 else bif kA c.2.1 && !vecS c.2.2.2.1 then 1 else bif (c.2.1 == 2) && (decide (c.2.2.2.2.1 < 1) || decide (c.2.2.2.2.1 > 1099511627776)) then 1 else bif kN c.2.1 && (decide (c.2.2.2.2.2.1 < 0) || decide (c.2.2.2.2.2.1 > 4)) then 1 else bif kM c.2.1 && !nameS c.2.2.2.2.2.2.1 then 6 else 0) := fun b => by
    rw [ref34_Valid.j2_eq, hasAt_eq, Option.bind_some, rVec, Option.bind_some, cf (fun b => ref34_Valid.j3 4 b c), j3, some_cond]
  have j1 : ref34_Valid.j1 4 c = ref34_Valid.j2 4 ((kO c.2.1 || kS c.2.1) && !idsS c) c := by
    rw [ref34_Valid.j1_eq, ord_eq, Option.bind_some, single_eq, Option.bind_some, hids, Option.bind_some]
    cases kO c.2.1 <;> cases kS c.2.1 <;> rfl
  rw [decide_eq_false h1, cond_false, decide_eq_false h2, cond_false, rBare c, Option.bind_some, ct (fun b => ref34_Valid.j0 b c), ct (fun b => ref34_Valid.j0 b c), ref34_Valid.j0_eq, j1, j2]
  unfold valC
  rw [decide_eq_false h1, decide_eq_false h2, Bool.false_or, Bool.false_or]
  rw [show ∀ (a : Bool) (x : Option Int), (bif a then x else x) = x from fun a x => by cases a <;> rfl, some_cond, some_cond]
end Go.Proofs.YtpiejdjanhnbeaaGreat

/- When commands and batches are the same (exactly if they are equal), and when a batch is valid. -/
set_option linter.unusedVariables false
set_option linter.unusedSimpArgs false
set_option maxHeartbeats 4000000
namespace Go.Proofs.YtpiejdjanhnbeaaGreat
open Go Go.Sk
abbrev lim48 : Nat := 2000000
instance dec1 : DecidableEq (Int × Int × ByteArray × Bool) := inferInstance
instance dec2 : DecidableEq ((Int × Int) × Int × Int × ByteArray × Bool) := inferInstance
instance dec3 : DecidableEq (Int × List Int × (Int × Int) × Int × Int × ByteArray × Bool) := inferInstance
instance dec4 : DecidableEq CommandT := inferInstance
instance dec5 : DecidableEq (Int × List CommandT) := inferInstance
instance dec6 : DecidableEq BatchT := inferInstance
def BatL (b : BatchT) : Prop := b.2.2.2.length ≤ lim48 ∧ ∀ c ∈ b.2.2.2, LenC c

theorem rcmdSame_eq (a b : CommandT) (ha : LenC a) : ref34_Same.f a b = some (decide (a = b)) := by
  have hu : a.2.2.1.length ≤ 2000000 := by have := ha.ul; omega
  rw [ref34_Same.f_eq]
  have hloop : a.2.2.1.length = b.2.2.1.length → ref34_Same.j0 0 a b = some (decide (a.2.2.1 = b.2.2.1)) := fun hl => by
    refine equal_fun (eqf := fun x y => some (decide (x = y))) a.2.2.1 b.2.2.1 (fun _ _ _ => rfl) (fun i => ref34_Same.j0 i a b) hl (fun k h1 h2 => ?_) ?_
    · rw [ref34_Same.j0_eq, lt_true h1, cond_true, idx_nat, idx_nat, List.getElem?_eq_getElem h1, List.getElem?_eq_getElem h2, Option.bind_some, Option.bind_some, wr_succ h1 (by omega), bne_dec]
      rfl
    · rw [ref34_Same.j0_eq, lt_false (Nat.le_refl _), cond_false]
  have hlen : (bif ((a.2.2.1.length : Int) != (b.2.2.1.length : Int)) then some false else ref34_Same.j0 0 a b) = some (decide (a.2.2.1 = b.2.2.1)) := by
    cases hl : ((a.2.2.1.length : Int) != (b.2.2.1.length : Int)) with
    | true => rw [cond_true, decide_eq_false fun h => (len_ne _ _).1 hl (by rw [h])]
    | false => exact hloop (len_eq hl)
  rw [hlen]
  clear hlen hloop hu ha
  obtain ⟨p, k, u, ⟨x, y⟩, t, n, nm, q⟩ := a
  obtain ⟨p', k', u', ⟨x', y'⟩, t', n', nm', q'⟩ := b
  simp only [c4, toList_beq, beq_dec, bne_dec, Bool.not_not, ← Bool.decide_and]
  congr 1
  apply decide_eq_decide.2
  simp only [Prod.mk.injEq]
  constructor
  · rintro ⟨h1, h2, ⟨h4, h5⟩, h6, h7, h8, h9, h3⟩
    exact ⟨h1, h2, h3, ⟨h4, h5⟩, h6, h7, h8, h9⟩
  · rintro ⟨h1, h2, h3, ⟨h4, h5⟩, h6, h7, h8, h9⟩
    exact ⟨h1, h2, ⟨h4, h5⟩, h6, h7, h8, h9, h3⟩

theorem sameCmds_eq (a b : List CommandT) (ha : a.length ≤ lim48) (hc : ∀ c ∈ a, LenC c) : ref46_SameCommands.f a b = some (decide (a = b)) := by
  have ha' : a.length ≤ 2000000 := ha
  rw [ref46_SameCommands.f_eq]
  cases hl : ((a.length : Int) != (b.length : Int)) with
  | true => rw [cond_true, decide_eq_false fun h => (len_ne a b).1 hl (by rw [h])]
  | false =>
    refine equal_fun (eqf := ref34_Same.f) a b (fun x hx y => rcmdSame_eq x y (hc x hx)) (fun i => ref46_SameCommands.j0 a b i) (len_eq hl) (fun k h1 h2 => ?_) ?_
    · rw [ref46_SameCommands.j0_eq, lt_true h1, cond_true, idx_nat, idx_nat, List.getElem?_eq_getElem h1, List.getElem?_eq_getElem h2, Option.bind_some, Option.bind_some, wr_succ h1 (by omega)]
    · rw [ref46_SameCommands.j0_eq, lt_false (Nat.le_refl _), cond_false]
theorem rbatSame_eq (a b : BatchT) (ha : BatL a) : ref46_Same.f a b = some (decide (a = b)) := by
  rw [ref46_Same.f_eq, sameCmds_eq _ _ ha.1 ha.2]
  obtain ⟨p, t, l, c⟩ := a
  obtain ⟨p', t', l', c'⟩ := b
  simp only [Option.bind_some, c1, beq_dec, ← Bool.decide_and]
  congr 1
  apply decide_eq_decide.2
  simp only [Prod.mk.injEq]

/-- a command that does not belong to a batch of a player -/
noncomputable def badCmd (p : Int) (c : CommandT) : Bool := valC c != 0 || c.1 != p
noncomputable def batOK (b : BatchT) : Bool := (!decide (b.1 < 1) && (!decide (b.1 > 6) && (!decide (b.2.1 < 0) && (!decide (b.2.1 > 1048584) && (!decide (b.2.2.1 < 0) && (!decide (b.2.2.1 > 1048576) && (!decide ((b.2.2.2.length : Int) > 16) && !(b.2.2.2.any (badCmd b.1)))))))))
theorem inputValid_eq (b : BatchT) (hb : BatL b) : input_Valid.f b = some (batOK b) := by
  have hl : b.2.2.2.length ≤ 2000000 := hb.1
  have hidx : slices_IndexFunc_1.f b.2.2.2 b = some (pos1 (b.2.2.2.findIdx? (badCmd b.1))) := by
    rw [slices_IndexFunc_1.f_eq, find_loop b.2.2.2 (fun i => slices_IndexFunc_1.j0 b.2.2.2 b b.2.2.2.length i) (badCmd b.1) (fun k => (k : Int)) (some (-1)) (fun k hk => ?hF) ?hE]
    · exact found_pos _
    case hF =>
      rw [slices_IndexFunc_1.j0_eq, lt_true hk, cond_true, idx_nat, List.getElem?_eq_getElem hk, Option.bind_some, input_Valid_1.f_eq, wValC _ (hb.2 _ (List.getElem_mem hk)), Option.bind_some, wr_succ hk (by omega)]
      unfold badCmd
      cases valC b.2.2.2[k] != 0 <;> rfl
    case hE =>
      rw [slices_IndexFunc_1.j0_eq, lt_false (Nat.le_refl _), cond_false]
  rw [input_Valid.f_eq, slices_ContainsFunc.f_eq, hidx, Option.bind_some, findIdx_ge, Option.bind_some]
  simp only [c4]
  rfl
theorem refValid_eq (b : BatchT) (hb : BatL b) : ref46_Valid.f b = some (batOK b) := by
  have hl : b.2.2.2.length ≤ 2000000 := hb.1
  have hloop : ref46_Valid.j0 0 b = some (!(b.2.2.2.any (badCmd b.1))) := by
    rw [any_loop b.2.2.2 (fun i => ref46_Valid.j0 i b) (badCmd b.1) false (some true) (fun k hk => ?hF) ?hE]
    · cases b.2.2.2.any (badCmd b.1) <;> rfl
    case hF =>
      rw [ref46_Valid.j0_eq, lt_true hk, cond_true, idx_nat, List.getElem?_eq_getElem hk, Option.bind_some, Option.bind_some, rValC _ (hb.2 _ (List.getElem_mem hk)), Option.bind_some, wr_succ hk (by omega)]
      unfold badCmd
      cases valC b.2.2.2[k] != 0 <;> cases b.2.2.2[k].1 != b.1 <;> rfl
    case hE =>
      rw [ref46_Valid.j0_eq, lt_false (Nat.le_refl _), cond_false]
  rw [ref46_Valid.f_eq, hloop]
  simp only [c4]
  rfl


end Go.Proofs.YtpiejdjanhnbeaaGreat

/- Batches, read; what was written is read. -/
set_option linter.unusedVariables false
set_option linter.unusedSimpArgs false
set_option maxHeartbeats 4000000
namespace Go.Proofs.YtpiejdjanhnbeaaGreat
open Go Go.Sk

theorem bindR_ind {α β : Type} {r : α × Int × Int} {d : β} {k : α → Int → β × Int × Int} {Q : β → Prop} (hd : Q d) (hk : r.2.2 = 0 → Q (k r.1 r.2.1).1) : Q (bindR r d k).1 := by
  by_cases h : r.2.2 = 0
  · rw [bindR_ok h]; exact hk h
  · rw [bindR_bad h]; exact hd
theorem intsS_len (s : ByteArray) : ∀ (n : Nat) (a : Int), (intsS s n a).1.length ≤ n
  | 0, a => by simp [intsS]
  | n + 1, a => by
    unfold intsS
    refine bindR_ind (Q := fun l : List Int => l.length ≤ n + 1) (by simp) fun _ => ?_
    refine bindR_ind (Q := fun l : List Int => l.length ≤ n + 1) (by simp) fun _ => ?_
    have := intsS_len s n (takeI s a).2.1
    simp only [List.length_cons]
    omega
theorem takeT_len {s : ByteArray} {a : Int} (h : (takeT s a 12).2.2 = 0) : (takeT s a 12).1.size ≤ 12 := by
  unfold takeT at h ⊢
  split at h
  · rename_i h1; exact absurd h h1
  rename_i h1
  rw [if_neg h1]
  obtain ⟨n, q, h2, h3, h4⟩ := takeC_ok (Classical.byContradiction fun h' => h1 h')
  rw [h2]
  simp only [ByteArray.size_extract]
  omega
theorem decC_len (s : ByteArray) (a : Int) : LenC (decC s a).1 := by
  have hz : LenC zeroC := ⟨by simp, by rw [show zeroC.2.2.2.2.2.2.1.size = 0 from rfl]; omega⟩
  unfold decC
  refine bindR_ind (Q := LenC) hz fun _ => ?_
  refine bindR_ind (Q := LenC) hz fun _ => ?_
  refine bindR_ind (Q := LenC) hz fun h3 => ?_
  refine bindR_ind (Q := LenC) hz fun _ => ?_
  refine bindR_ind (Q := LenC) hz fun _ => ?_
  refine bindR_ind (Q := LenC) hz fun _ => ?_
  refine bindR_ind (Q := LenC) hz fun _ => ?_
  refine bindR_ind (Q := LenC) hz fun _ => ?_
  refine bindR_ind (Q := LenC) hz fun h9 => ?_
  refine bindR_ind (Q := LenC) hz fun _ => ?_
  refine ⟨?_, ?_⟩
  · have h1 := (takeC_n h3).2
    exact Nat.le_trans (intsS_len _ _ _) (by omega)
  · have := takeT_len h9
    simp only
    omega
def decCs (s : ByteArray) : Nat → Int → List CommandT × Int × Int
  | 0, a => ([], a, 0)
  | n + 1, a => bindR (decC s a) [] fun c a1 => bindR (decCs s n a1) [] fun l a2 => (c :: l, a2, 0)
abbrev zeroB : BatchT := (0, 0, 0, [])
noncomputable def finB (p t l : Int) (cs : List CommandT) (a : Int) : BatchT × Int × Int := bif batOK (p, t, l, cs) then ((p, t, l, cs), a, 0) else (zeroB, 0, 16)
noncomputable def decB (s : ByteArray) (a : Int) : BatchT × Int × Int :=
  bindR (takeI s a) zeroB fun p a1 => bindR (takeI s a1) zeroB fun t a2 => bindR (takeI s a2) zeroB fun l a3 => bindR (takeC s a3 16) zeroB fun n a4 => bindR (decCs s n.toNat a4) zeroB fun cs a5 => finB p t l cs a5
theorem takeC_n16 {s : ByteArray} {a : Int} (h : (takeC s a 16).2.2 = 0) : (takeC s a 16).1 = (((takeC s a 16).1.toNat : Nat) : Int) ∧ (takeC s a 16).1.toNat ≤ 16 := by
  obtain ⟨n, q, h1, h2, h3⟩ := takeC_ok h
  rw [h1]
  exact ⟨rfl, by simp only [Int.toNat_natCast]; omega⟩
section
variable {s : ByteArray} (hs : s.size ≤ 100000)
include hs
theorem wDecB_j (p t l : Int) (n : Nat) (hn : n ≤ 16) : ∀ (m k : Nat) (a : Int) (o : List CommandT), k + m = n → o.length = k → (∀ c ∈ o, LenC c) →
    input_Decode.j1 s a n k 0 0 0 [] p t l o = some (bindR (decCs s m a) zeroB fun cs a5 => finB p t l (o ++ cs) a5) := by
  intro m
  induction m with
  | zero =>
    intro k a o hk ho hc
    rw [input_Decode.j1_eq, lt_false (by omega), cond_false, inputValid_eq _ ⟨by show o.length ≤ 2000000; omega, hc⟩, Option.bind_some]
    show _ = some (finB p t l (o ++ []) a)
    rw [List.append_nil]
    unfold finB
    cases batOK (p, t, l, o) <;> rfl
  | succ m ih =>
    intro k a o hk ho hc
    rw [input_Decode.j1_eq, lt_true (by omega), cond_true, wDecC hs a, Option.bind_some]
    unfold decCs
    by_cases h : (decC s a).2.2 = 0
    · rw [bne_f h, cond_false, bindR_ok h, cond_dec, List.length_singleton, if_pos (by omega), wr_succ (n := n) (by omega) (by omega),
        ih (k + 1) _ _ (by omega) (by simp [ho]) (fun c hc' => by
          rcases List.mem_append.1 hc' with h1 | h1
          · exact hc c h1
          · simp at h1; subst h1; exact decC_len s a)]
      by_cases h2 : (decCs s m (decC s a).2.1).2.2 = 0
      · rw [bindR_ok h2, bindR_ok h2, bindR_ok rfl]
        simp
      · rw [bindR_bad h2, bindR_bad h2, bindR_err h2]
    · rw [bne_t h, cond_true, bindR_bad h, bindR_err h]
theorem rDecB_j (p t l : Int) (n : Nat) (hn : n ≤ 16) : ∀ (m k : Nat) (a : Int) (o : List CommandT), k + m = n → o.length = k → (∀ c ∈ o, LenC c) →
    ref46_Decode.j0 s n a k 0 0 0 [] p t l o = some (bindR (decCs s m a) zeroB fun cs a5 => finB p t l (o ++ cs) a5) := by
  intro m
  induction m with
  | zero =>
    intro k a o hk ho hc
    rw [ref46_Decode.j0_eq, lt_false (by omega), cond_false, refValid_eq _ ⟨by show o.length ≤ 2000000; omega, hc⟩, Option.bind_some]
    show _ = some (finB p t l (o ++ []) a)
    rw [List.append_nil]
    unfold finB
    cases batOK (p, t, l, o) <;> rfl
  | succ m ih =>
    intro k a o hk ho hc
    rw [ref46_Decode.j0_eq, lt_true (by omega), cond_true, rDecC s hs a, Option.bind_some]
    unfold decCs
    by_cases h : (decC s a).2.2 = 0
    · rw [bne_f h, cond_false, bindR_ok h, cond_dec, List.length_singleton, if_pos (by omega), wr_succ (n := n) (by omega) (by omega),
        ih (k + 1) _ _ (by omega) (by simp [ho]) (fun c hc' => by
          rcases List.mem_append.1 hc' with h1 | h1
          · exact hc c h1
          · simp at h1; subst h1; exact decC_len s a)]
      by_cases h2 : (decCs s m (decC s a).2.1).2.2 = 0
      · rw [bindR_ok h2, bindR_ok h2, bindR_ok rfl]
        simp
      · rw [bindR_bad h2, bindR_bad h2, bindR_err h2]
    · rw [bne_t h, cond_true, bindR_bad h, bindR_err h]
theorem wDecB (a : Int) : input_Decode.f s a = some (decB s a) := by
  have w1 : IntKind.i64.wrap (0 + 1) = 1 := rfl
  have w2 : IntKind.i64.wrap (1 + 1) = 2 := rfl
  have w3 : IntKind.i64.wrap (2 + 1) = 3 := rfl
  have q0 : ((0 : Int) == 0) = true := rfl
  have q1 : ((1 : Int) == 0) = false := rfl
  have q2 : ((1 : Int) == 1) = true := rfl
  have q3 : ((2 : Int) == 0) = false := rfl
  have q4 : ((2 : Int) == 1) = false := rfl
  have q5 : ((2 : Int) == 2) = true := rfl
  rw [input_Decode.f_eq]
  unfold decB
  rw [input_Decode.j0_eq, decide_eq_true (show (0 : Int) < 3 by omega), cond_true, q0, cond_true, wTakeI s hs a, Option.bind_some]
  by_cases h1 : (takeI s a).2.2 = 0
  rotate_left
  · rw [bne_t h1, cond_true, bindR_bad h1]
  rw [bne_f h1, cond_false, bindR_ok h1, w1]
  generalize (takeI s a).2.1 = a1
  rw [input_Decode.j0_eq, decide_eq_true (show (1 : Int) < 3 by omega), cond_true, q1, cond_false, q2, cond_true, wTakeI s hs a1, Option.bind_some]
  by_cases h2 : (takeI s a1).2.2 = 0
  rotate_left
  · rw [bne_t h2, cond_true, bindR_bad h2]
  rw [bne_f h2, cond_false, bindR_ok h2, w2]
  generalize (takeI s a1).2.1 = a2
  rw [input_Decode.j0_eq, decide_eq_true (show (2 : Int) < 3 by omega), cond_true, q3, cond_false, q4, cond_false, q5, cond_true, wTakeI s hs a2, Option.bind_some]
  by_cases h3 : (takeI s a2).2.2 = 0
  rotate_left
  · rw [bne_t h3, cond_true, bindR_bad h3]
  rw [bne_f h3, cond_false, bindR_ok h3, w3]
  generalize (takeI s a2).2.1 = a3
  rw [input_Decode.j0_eq, decide_eq_false (show ¬ (3 : Int) < 3 by omega), cond_false, wTakeC s hs a3 16 (by omega) (by omega), Option.bind_some]
  by_cases h4 : (takeC s a3 16).2.2 = 0
  rotate_left
  · rw [bne_t h4, cond_true, bindR_bad h4]
  rw [bne_f h4, cond_false, bindR_ok h4]
  obtain ⟨e1, e2⟩ := takeC_n16 h4
  have := wDecB_j hs (takeI s a).1 (takeI s a1).1 (takeI s a2).1 _ e2 _ 0 (takeC s a3 16).2.1 [] (Nat.zero_add _) rfl (by simp)
  rw [← e1, show ((0 : Nat) : Int) = 0 from rfl] at this
  rw [this]
  simp only [List.nil_append]
theorem rDecB (a : Int) : ref46_Decode.f s a = some (decB s a) := by
  rw [ref46_Decode.f_eq, rTakeI s hs a, Option.bind_some]
  unfold decB
  by_cases h1 : (takeI s a).2.2 = 0
  rotate_left
  · rw [bne_t h1, cond_true, bindR_bad h1]
  rw [bne_f h1, cond_false, bindR_ok h1]
  generalize (takeI s a).2.1 = a1
  rw [rTakeI s hs a1, Option.bind_some]
  by_cases h2 : (takeI s a1).2.2 = 0
  rotate_left
  · rw [bne_t h2, cond_true, bindR_bad h2]
  rw [bne_f h2, cond_false, bindR_ok h2]
  generalize (takeI s a1).2.1 = a2
  rw [rTakeI s hs a2, Option.bind_some]
  by_cases h3 : (takeI s a2).2.2 = 0
  rotate_left
  · rw [bne_t h3, cond_true, bindR_bad h3]
  rw [bne_f h3, cond_false, bindR_ok h3]
  generalize (takeI s a2).2.1 = a3
  rw [rTakeC s hs a3 16 (by omega) (by omega), Option.bind_some]
  by_cases h4 : (takeC s a3 16).2.2 = 0
  rotate_left
  · rw [bne_t h4, cond_true, bindR_bad h4]
  rw [bne_f h4, cond_false, bindR_ok h4]
  obtain ⟨e1, e2⟩ := takeC_n16 h4
  have := rDecB_j hs (takeI s a).1 (takeI s a1).1 (takeI s a2).1 _ e2 _ 0 (takeC s a3 16).2.1 [] (Nat.zero_add _) rfl (by simp)
  rw [← e1, show ((0 : Nat) : Int) = 0 from rfl] at this
  rw [this]
  simp only [List.nil_append]
end
theorem decCs_len (s : ByteArray) : ∀ (n : Nat) (a : Int), (decCs s n a).1.length ≤ n ∧ ∀ c ∈ (decCs s n a).1, LenC c
  | 0, a => by simp [decCs]
  | n + 1, a => by
    unfold decCs
    refine bindR_ind (Q := fun l : List CommandT => l.length ≤ n + 1 ∧ ∀ c ∈ l, LenC c) (by simp) fun _ => ?_
    refine bindR_ind (Q := fun l : List CommandT => l.length ≤ n + 1 ∧ ∀ c ∈ l, LenC c) (by simp) fun _ => ?_
    obtain ⟨h1, h2⟩ := decCs_len s n (decC s a).2.1
    refine ⟨by simp only [List.length_cons]; omega, fun c hc => ?_⟩
    rcases List.mem_cons.1 hc with rfl | hc
    · exact decC_len s a
    · exact h2 c hc
theorem decB_len (s : ByteArray) (a : Int) : BatL (decB s a).1 := by
  have hz : BatL zeroB := ⟨by show 0 ≤ 2000000; omega, by simp⟩
  unfold decB
  refine bindR_ind (Q := BatL) hz fun _ => ?_
  refine bindR_ind (Q := BatL) hz fun _ => ?_
  refine bindR_ind (Q := BatL) hz fun _ => ?_
  refine bindR_ind (Q := BatL) hz fun h4 => ?_
  refine bindR_ind (Q := BatL) hz fun _ => ?_
  unfold finB
  cases batOK _ with
  | false => exact hz
  | true =>
    obtain ⟨h1, h2⟩ := decCs_len s (takeC s (takeI s (takeI s (takeI s a).2.1).2.1).2.1 16).1.toNat (takeC s (takeI s (takeI s (takeI s a).2.1).2.1).2.1 16).2.1
    have h3 := (takeC_n16 h4).2
    exact ⟨by show List.length (α := CommandT) _ ≤ 2000000; exact Nat.le_trans h1 (by omega), h2⟩
/-! ### what was written -/
def At (s : ByteArray) (a : Int) (t : ByteArray) : Prop := ∃ x y, s = x ++ t ++ y ∧ a = x.size
theorem At.split {s t u : ByteArray} {a : Int} (h : At s a (t ++ u)) : At s a t ∧ At s (a + t.size) u := by
  obtain ⟨x, y, rfl, rfl⟩ := h
  refine ⟨⟨x, u ++ y, by simp only [ByteArray.append_assoc], rfl⟩, ⟨x ++ t, y, by simp only [ByteArray.append_assoc], by rw [ByteArray.size_append]; omega⟩⟩
theorem At.int {s : ByteArray} {a n : Int} (h : At s a (ivT n)) (hn : I64 n) : takeI s a = (n, a + (ivT n).size, 0) := by
  obtain ⟨x, y, rfl, rfl⟩ := h
  exact takeI_at x y n hn
theorem At.cnt {s u : ByteArray} {a : Int} {n : Nat} {most : Int} (h : At s a (uvT n ++ u)) (hn : n ≤ u.size) (hm : (n : Int) ≤ most) (h64 : n < 18446744073709551616) : takeC s a most = ((n : Int), a + (uvT n).size, 0) := by
  obtain ⟨x, y, rfl, rfl⟩ := h
  have := takeC_at x (u ++ y) n most hm (by rw [ByteArray.size_append]; omega) h64
  rw [← ByteArray.append_assoc] at this
  rw [← ByteArray.append_assoc]
  exact this
theorem At.txt {s t : ByteArray} {a : Int} (h : At s a (tvT t)) (ht : t.size ≤ 12) : takeT s a 12 = (t, a + (tvT t).size, 0) := by
  obtain ⟨x, y, rfl, rfl⟩ := h
  exact takeT_at x y t 12 (by omega) (by omega)
theorem At.bool {s : ByteArray} {a : Int} {b : Bool} (h : At s a (bvT b)) : takeB s a = (b, a + (bvT b).size, 0) := by
  obtain ⟨x, y, rfl, rfl⟩ := h
  exact takeB_at x y b
theorem At.ints {s : ByteArray} : ∀ (l : List Int) {a : Int}, At s a (catI l) → (∀ n ∈ l, I64 n) → intsS s l.length a = (l, a + (catI l).size, 0)
  | [], a, _, _ => by simp [intsS, catI, size_nil]
  | x :: r, a, h, hn => by
    obtain ⟨h1, h2⟩ := At.split (t := ivT x) (u := catI r) h
    have e1 := h1.int (hn x (by simp))
    have e2 := At.ints r h2 (fun n hn' => hn n (by simp [hn']))
    rw [List.length_cons, intsS, e1, bindR_ok rfl]
    simp only
    rw [e2, bindR_ok rfl, catI, ByteArray.size_append]
    simp only
    congr 2
    omega
theorem At.cmd {s : ByteArray} {c : CommandT} {a : Int} (h : At s a (encC c)) (hf : FitC c) (hu : c.2.2.1.length ≤ 64) (hn : c.2.2.2.2.2.2.1.size ≤ 12) : decC s a = (c, a + (encC c).size, 0) := by
  obtain ⟨p, k, u, ⟨x, y⟩, t, n, nm, q⟩ := c
  have hp := hf.p
  have hk := hf.k
  have hus := hf.u
  have hx := hf.x
  have hy := hf.y
  have ht := hf.t
  have hnn := hf.n
  simp only at hp hk hus hx hy ht hnn hu hn
  unfold encC tailC at h ⊢
  simp only at h ⊢
  obtain ⟨b1, h⟩ := h.split
  obtain ⟨b2, h⟩ := h.split
  have b3 := h.cnt (most := 64) (by have := catI_ge u; rw [ByteArray.size_append]; omega) (by omega) (by omega)
  obtain ⟨_, h⟩ := h.split
  obtain ⟨b4, h⟩ := h.split
  obtain ⟨b5, h⟩ := h.split
  obtain ⟨b6, h⟩ := h.split
  obtain ⟨b7, h⟩ := h.split
  obtain ⟨b8, h⟩ := h.split
  obtain ⟨b9, b10⟩ := h.split
  have e4 := At.ints u b4 hus
  unfold decC
  rw [b1.int hp, bindR_ok rfl]
  simp only
  rw [b2.int hk, bindR_ok rfl]
  simp only
  rw [b3, bindR_ok rfl]
  simp only [Int.toNat_natCast]
  rw [e4, bindR_ok rfl]
  simp only
  rw [b5.int hx, bindR_ok rfl]
  simp only
  rw [b6.int hy, bindR_ok rfl]
  simp only
  rw [b7.int ht, bindR_ok rfl]
  simp only
  rw [b8.int hnn, bindR_ok rfl]
  simp only
  rw [b9.txt hn, bindR_ok rfl]
  simp only
  rw [b10.bool, bindR_ok rfl]
  simp only [ByteArray.size_append]
  congr 2
  omega
theorem At.cmds {s : ByteArray} : ∀ (l : List CommandT) {a : Int}, At s a (catC l) → (∀ c ∈ l, FitC c ∧ c.2.2.1.length ≤ 64 ∧ c.2.2.2.2.2.2.1.size ≤ 12) → decCs s l.length a = (l, a + (catC l).size, 0)
  | [], a, _, _ => by simp [decCs, catC, size_nil]
  | x :: r, a, h, hn => by
    obtain ⟨h1, h2⟩ := At.split (t := encC x) (u := catC r) h
    obtain ⟨f1, f2, f3⟩ := hn x (by simp)
    have e1 := h1.cmd f1 f2 f3
    have e2 := At.cmds r h2 (fun n hn' => hn n (by simp [hn']))
    rw [List.length_cons, decCs, e1, bindR_ok rfl]
    simp only
    rw [e2, bindR_ok rfl, catC, ByteArray.size_append]
    simp only
    congr 2
    omega
theorem valC_len {c : CommandT} (h : valC c = 0) : c.2.2.1.length ≤ 64 ∧ c.2.2.2.2.2.2.1.size ≤ 12 := by
  unfold valC at h
  cases h1 : (decide (c.2.1 < 1) || (decide (c.2.1 > 12) || (decide (c.1 < 1) || (decide (c.1 > 6) || !bareS c)))) with
  | true => rw [h1, cond_true] at h; cases h
  | false =>
  rw [h1, cond_false] at h
  cases h2 : decide ((c.2.2.1.length : Int) > 64) with
  | true => rw [h2, cond_true] at h; cases h
  | false =>
  rw [h2, cond_false] at h
  have hl : c.2.2.1.length ≤ 64 := by have := of_decide_eq_false h2; omega
  refine ⟨hl, ?_⟩
  simp only [Bool.or_eq_false_iff, Bool.not_eq_false'] at h1
  have hb := h1.2.2.2.2
  unfold bareS at hb
  simp only [Bool.and_eq_true] at hb
  have hm := hb.2.2.2.2.1
  rw [empty_iff] at hm
  cases hk : kM c.2.1 with
  | false =>
    rw [hk, Bool.false_or] at hm
    have := of_decide_eq_true hm
    omega
  | true =>
    refine name_len _ ?_
    rw [hk] at h
    cases hn : nameS c.2.2.2.2.2.2.1 with
    | true => rfl
    | false =>
      exfalso
      rw [hn] at h
      revert h
      generalize ((kO c.2.1 || kS c.2.1) && !idsS c) = b1
      generalize (kA c.2.1 && !vecS c.2.2.2.1) = b2
      generalize ((c.2.1 == 2) && (decide (c.2.2.2.2.1 < 1) || decide (c.2.2.2.2.1 > 1099511627776))) = b3
      generalize (kN c.2.1 && (decide (c.2.2.2.2.2.1 < 0) || decide (c.2.2.2.2.2.1 > 4))) = b4
      cases b1 <;> cases b2 <;> cases b3 <;> cases b4 <;> simp
theorem batOK_spec {b : BatchT} (h : batOK b = true) : List.length (α := CommandT) b.2.2.2 ≤ 16 ∧ ∀ c ∈ (b.2.2.2 : List CommandT), valC c = 0 := by
  unfold batOK at h
  simp only [Bool.and_eq_true, Bool.not_eq_true', decide_eq_false_iff_not] at h
  obtain ⟨_, _, _, _, _, _, h7, h8⟩ := h
  refine ⟨by have : ¬ ((List.length (α := CommandT) b.2.2.2 : Int) > 16) := h7; omega, fun c hc => ?_⟩
  rw [List.any_eq_false] at h8
  have := h8 c hc
  unfold badCmd at this
  simp only [Bool.or_eq_true, not_or, bne_iff_ne, ne_eq, Classical.not_not] at this
  exact this.1
theorem At.batch {s : ByteArray} {b : BatchT} {a : Int} (h : At s a (encB b)) (hf : FitB b) (hv : batOK b = true) : decB s a = (b, a + (encB b).size, 0) := by
  obtain ⟨hl, hc⟩ := batOK_spec hv
  obtain ⟨p, t, l, cs⟩ := b
  have hp := hf.p
  have ht := hf.t
  have hll := hf.l
  have hcs := hf.c
  simp only at hp ht hll hcs hl hc
  unfold encB at h ⊢
  simp only at h ⊢
  obtain ⟨b1, h⟩ := h.split
  obtain ⟨b2, h⟩ := h.split
  obtain ⟨b3, h⟩ := h.split
  have b4 := h.cnt (most := 16) (catC_ge cs) (by omega) (by omega)
  obtain ⟨_, b5⟩ := h.split
  have e5 := At.cmds cs b5 (fun c hc' => ⟨hcs c hc', valC_len (hc c hc')⟩)
  unfold decB
  rw [b1.int hp, bindR_ok rfl]
  simp only
  rw [b2.int ht, bindR_ok rfl]
  simp only
  rw [b3.int hll, bindR_ok rfl]
  simp only
  rw [b4, bindR_ok rfl]
  simp only [Int.toNat_natCast]
  rw [e5, bindR_ok rfl]
  unfold finB
  rw [hv, cond_true]
  simp only [ByteArray.size_append]
  congr 2
  omega
end Go.Proofs.YtpiejdjanhnbeaaGreat

/- Packets: equality, short ones; connections: light ones, valid ones. -/
set_option linter.unusedVariables false
set_option linter.unusedSimpArgs false
set_option maxHeartbeats 4000000
namespace Go.Proofs.YtpiejdjanhnbeaaGreat
open Go Go.Sk

abbrev PL := List PacketT
abbrev CL := List CommandT
def sq (p : PacketT) : Int := p.2.2.2.1
def ak (p : PacketT) : Int := p.2.2.2.2.1
def bat (p : PacketT) : BatchT := p.2.2.2.2.2.2.2.1
def dat (p : PacketT) : ByteArray := p.2.2.2.2.2.2.2.2
abbrev zeroP : PacketT := (0, 0, 0, 0, 0, 0, 0, (0, 0, 0, []), { data := #[] })
abbrev zeroC0 : ConnT := (0, 0, 0, [], [])
/-! ### equality -/
theorem samePacket_refl (p : PacketT) (h : BatL (bat p)) : ref47_SamePacket.f p p = some true := by
  rw [ref47_SamePacket.f_eq]
  simp only [beq_self_eq_true, cond_true]
  rw [show p.2.2.2.2.2.2.2.1 = bat p from rfl, rbatSame_eq _ _ h, decide_eq_true rfl]
  rfl
def ConnL (c : ConnT) : Prop := (c.2.2.2.1.length ≤ 1000000 ∧ ∀ p ∈ c.2.2.2.1, BatL (bat p)) ∧ (c.2.2.2.2.length ≤ 1000000 ∧ ∀ p ∈ c.2.2.2.2, BatL (bat p))
/-! ### short packets -/
def bigC (c : CommandT) : Bool := decide ((c.2.2.1.length : Int) > 100) || decide ((c.2.2.2.2.2.2.1.size : Int) > 100)
def shortS (p : PacketT) : Bool := !((List.take 21 (α := CommandT) (bat p).2.2.2).any bigC) && (decide ((List.length (α := CommandT) (bat p).2.2.2 : Int) ≤ 20) && decide (((dat p).size : Int) ≤ 5000))
theorem short_eq (p : PacketT) : law47_short.f p = some (shortS p) := by
  have hfin : (bif decide ((List.length (α := CommandT) (bat p).2.2.2 : Int) ≤ 20) then some (decide (((dat p).size : Int) ≤ 5000)) else some false) = some (decide ((List.length (α := CommandT) (bat p).2.2.2 : Int) ≤ 20) && decide (((dat p).size : Int) ≤ 5000)) := by
    cases decide ((List.length (α := CommandT) (bat p).2.2.2 : Int) ≤ 20) <;> rfl
  have hl : (List.take 21 (α := CommandT) (bat p).2.2.2).length = min 21 (List.length (α := CommandT) (bat p).2.2.2) := List.length_take
  rw [law47_short.f_eq, any_loop (List.take 21 (α := CommandT) (bat p).2.2.2) (fun i => law47_short.j0 i p) bigC false (some (decide ((List.length (α := CommandT) (bat p).2.2.2 : Int) ≤ 20) && decide (((dat p).size : Int) ≤ 5000))) (fun k hk => ?hF) ?hE]
  · unfold shortS
    cases (List.take 21 (α := CommandT) (bat p).2.2.2).any bigC <;> rfl
  case hF =>
    have hk1 : k < List.length (α := CommandT) (bat p).2.2.2 := by omega
    have hk2 : (k : Int) < 21 := by omega
    have hget : (List.take 21 (α := CommandT) (bat p).2.2.2)[k] = List.get (α := CommandT) (bat p).2.2.2 ⟨k, hk1⟩ := by simp
    rw [law47_short.j0_eq, show p.2.2.2.2.2.2.2.1 = bat p from rfl, lt_true hk1, cond_true, decide_eq_true hk2, cond_true, idx_nat, List.getElem?_eq_getElem hk1, Option.bind_some, Option.bind_some, wr_succ hk (by omega), hget]
    unfold bigC
    rw [show List.get (α := CommandT) (bat p).2.2.2 ⟨k, hk1⟩ = (bat p).2.2.2[k] from rfl]
    cases decide (((bat p).2.2.2[k].2.2.1.length : Int) > 100) <;> cases decide (((bat p).2.2.2[k].2.2.2.2.2.2.1.size : Int) > 100) <;> rfl
  case hE =>
    rw [law47_short.j0_eq, show p.2.2.2.2.2.2.2.1 = bat p from rfl, show p.2.2.2.2.2.2.2.2 = dat p from rfl, hfin]
    rcases Nat.lt_or_ge 21 (List.length (α := CommandT) (bat p).2.2.2) with h | h
    · rw [decide_eq_false (show ¬ (((List.take 21 (α := CommandT) (bat p).2.2.2).length : Nat) : Int) < 21 by omega), cond_false]
      cases decide (((List.take 21 (α := CommandT) (bat p).2.2.2).length : Int) < (List.length (α := CommandT) (bat p).2.2.2 : Int)) <;> rfl
    · rw [decide_eq_false (show ¬ (((List.take 21 (α := CommandT) (bat p).2.2.2).length : Nat) : Int) < (List.length (α := CommandT) (bat p).2.2.2 : Int) by omega), cond_false]
structure Short (p : PacketT) : Prop where
  len : List.length (α := CommandT) (bat p).2.2.2 ≤ 20
  cmds : ∀ c ∈ ((bat p).2.2.2 : CL), LenC c
  dat : (dat p).size ≤ 5000
theorem short_spec {p : PacketT} (h : shortS p = true) : Short p := by
  unfold shortS at h
  simp only [Bool.and_eq_true, Bool.not_eq_true', decide_eq_true_eq] at h
  obtain ⟨h1, h2, h3⟩ := h
  refine ⟨by omega, fun c hc => ?_, by omega⟩
  rw [List.take_of_length_le (by omega)] at h1
  have h4 := List.any_eq_false.1 h1 c hc
  unfold bigC at h4
  simp only [Bool.or_eq_true, decide_eq_true_eq, not_or] at h4
  exact ⟨by omega, by omega⟩
theorem Short.bat {p : PacketT} (h : Short p) : BatL (bat p) := ⟨by have := h.len; show List.length (α := CommandT) _ ≤ 2000000; omega, h.cmds⟩
/-! ### light connections -/
def lightS (c : ConnT) : Bool := !((List.take 41 (c.2.2.2.1 ++ c.2.2.2.2)).any fun p => !shortS p) && decide (((c.2.2.2.1 ++ c.2.2.2.2).length : Int) ≤ 40)
structure Light (c : ConnT) : Prop where
  len : c.2.2.2.1.length + c.2.2.2.2.length ≤ 40
  sent : ∀ p ∈ c.2.2.2.1, Short p
  held : ∀ p ∈ c.2.2.2.2, Short p
/-! ### valid connections -/
def maxN : Int := 1099511627776
def headS (c : ConnT) : Bool := !decide (c.1 < 1) && (!decide (c.1 > 12) && (!decide (c.2.1 < 1) && (!decide (c.2.1 > 1099511627776) && (!decide (c.2.2.1 < 0) && (!decide (c.2.2.1 > 1099511627776) && !decide ((c.2.2.2.1.length : Int) > 16))))))
def sentS (peer : Int) : Int → PL → Bool
  | _, [] => true
  | n, p :: r => p.2.1 == peer && (decide (1 ≤ n) && (sq p == n && sentS peer (n + 1) r))
def heldS (peer got : Int) : Int → PL → Bool
  | _, [] => true
  | last, p :: r => p.1 == peer && (decide (last < sq p) && (decide (sq p ≤ got + 16) && (decide (sq p ≤ 1099511627776) && heldS peer got (sq p) r)))
def validS (c : ConnT) : Bool := headS c && (sentS c.1 (c.2.1 - c.2.2.2.1.length) c.2.2.2.1 && heldS c.1 c.2.2.1 (c.2.2.1 + 1) c.2.2.2.2)
end Go.Proofs.YtpiejdjanhnbeaaGreat

/- Valid connections, on both sides. -/
set_option linter.unusedVariables false
set_option linter.unusedSimpArgs false
set_option maxHeartbeats 4000000
namespace Go.Proofs.YtpiejdjanhnbeaaGreat
open Go Go.Sk

theorem bne_c {α : Type} [BEq α] [LawfulBEq α] (a b : α) : (a != b) = !(a == b) := rfl
theorem rCount (n lo : Int) : ref47_count.f n lo = some (decide (lo ≤ n) && decide (n ≤ 1099511627776)) := by
  rw [ref47_count.f_eq]
  by_cases h : n ≥ lo
  · rw [decide_eq_true h]; rfl
  · rw [decide_eq_false h]; rfl
theorem sentS_len (peer : Int) : ∀ (l : PL) (n : Int), sentS peer n l = true → l = [] ∨ 1 ≤ n
  | [], _, _ => .inl rfl
  | p :: r, n, h => by
    simp only [sentS, Bool.and_eq_true, decide_eq_true_eq] at h
    exact .inr h.2.1
end Go.Proofs.YtpiejdjanhnbeaaGreat

/- Reading: what was read from a text is read from every longer one; the decoder of packets. -/
set_option linter.unusedVariables false
set_option linter.unusedSimpArgs false
set_option maxHeartbeats 4000000
namespace Go.Proofs.YtpiejdjanhnbeaaGreat
open Go Go.Sk

/-! ### longer texts -/
theorem tkB_ext (m : List Nat) : ∀ (l : List Nat) (n k p : Nat), (tkB l n k p).2.2 = 0 → tkB (l ++ m) n k p = tkB l n k p
  | [], n, k, p, h => by
    exfalso
    simp only [tkB] at h
    split at h <;> simp at h
  | c :: r, n, k, p, h => by
    rw [List.cons_append]
    simp only [tkB] at h ⊢
    split
    · rfl
    · rename_i h1
      rw [if_neg h1] at h
      split
      · rfl
      · rename_i h2
        rw [if_neg h2] at h
        split
        · rfl
        · rename_i h3
          rw [if_neg h3] at h
          exact tkB_ext m r _ _ _ h
abbrev Same {α : Type} (r r' : α × Int × Int) : Prop := r.2.2 = 0 → r' = r
theorem takeU_ext (s u : ByteArray) (a : Int) : Same (takeU s a) (takeU (s ++ u) a) := by
  intro h
  unfold takeU at h ⊢
  by_cases h1 : a < 0
  · rw [if_pos h1] at h; simp at h
  rw [if_neg h1] at h
  by_cases h2 : a > s.size
  · rw [if_pos h2] at h; simp at h
  rw [if_neg h2] at h
  rw [if_neg h1, if_neg (by rw [ByteArray.size_append]; omega), if_neg h1, if_neg h2, bts_append, List.drop_append_of_le_length (by rw [bts_len]; omega)]
  exact tkB_ext _ _ _ _ _ h
theorem takeI_ext (s u : ByteArray) (a : Int) : Same (takeI s a) (takeI (s ++ u) a) := by
  intro h
  unfold takeI at h ⊢
  by_cases h1 : (takeU s a).2.2 = 0
  · rw [takeU_ext s u a h1]
  · rw [if_pos h1] at h
    exact absurd h h1
theorem takeC_ext (s u : ByteArray) (a most : Int) : Same (takeC s a most) (takeC (s ++ u) a most) := by
  intro h
  unfold takeC at h ⊢
  by_cases h1 : (takeU s a).2.2 = 0
  · rw [takeU_ext s u a h1]
    rw [if_neg (fun h => h h1)] at h ⊢
    by_cases h2 : most < 0
    · rw [if_pos h2] at h; simp at h
    rw [if_neg h2] at h ⊢
    by_cases h3 : (takeU s a).1 > most
    · rw [if_pos h3] at h; simp at h
    rw [if_neg h3] at h ⊢
    by_cases h4 : (takeU s a).1 > s.size - (takeU s a).2.1
    · rw [if_pos h4] at h; simp at h
    rw [if_neg (by rw [ByteArray.size_append]; omega), if_neg (fun h => h h1), if_neg h2, if_neg h3, if_neg h4]
  · rw [if_pos h1] at h
    exact absurd h h1
theorem extract_app (s u : ByteArray) (q n : Nat) (hn : n ≤ s.size) : (s ++ u).extract q n = s.extract q n := by
  rw [← extract_bytes, ← extract_bytes, ByteArray.data_append, Array.toList_append, List.map_append, List.take_append_of_le_length (by rw [List.length_map, Array.length_toList]; exact hn)]
theorem takeT_ext (s u : ByteArray) (a most : Int) : Same (takeT s a most) (takeT (s ++ u) a most) := by
  intro h
  unfold takeT at h ⊢
  by_cases h1 : (takeC s a most).2.2 = 0
  · obtain ⟨n, q, e1, e2, e3⟩ := takeC_ok h1
    rw [takeC_ext s u a most h1, e1, if_neg (by simp), if_neg (by simp)]
    simp only
    rw [show ((q : Int) + (n : Int)).toNat = q + n by omega, extract_app s u _ _ e3]
  · rw [if_pos h1] at h
    exact absurd h h1
theorem takeB_ext (s u : ByteArray) (a : Int) : Same (takeB s a) (takeB (s ++ u) a) := by
  intro h
  unfold takeB at h ⊢
  by_cases h1 : a < 0
  · rw [if_pos h1] at h; simp at h
  rw [if_neg h1] at h
  by_cases h2 : a > s.size
  · rw [if_pos h2] at h; simp at h
  rw [if_neg h2] at h
  by_cases h3 : a = s.size
  · rw [if_pos h3] at h; simp at h
  rw [if_neg h3] at h
  rw [if_neg h1, if_neg (by rw [ByteArray.size_append]; omega), if_neg (by rw [ByteArray.size_append]; omega), if_neg h1, if_neg h2, if_neg h3, bts_append, List.getElem?_append_left (by rw [bts_len]; omega)]
theorem bindR_ext {α β : Type} {r r' : α × Int × Int} {d : β} {k k' : α → Int → β × Int × Int} (hr : Same r r') (hk : ∀ v q, Same (k v q) (k' v q)) : Same (bindR r d k) (bindR r' d k') := by
  intro h
  by_cases h1 : r.2.2 = 0
  · rw [hr h1, bindR_ok h1]
    rw [bindR_ok h1] at h
    rw [bindR_ok h1]
    exact hk _ _ h
  · rw [bindR_bad h1] at h
    exact absurd h h1
theorem same_self {α : Type} (r : α × Int × Int) : Same r r := fun _ => rfl
theorem intsS_ext (s u : ByteArray) : ∀ (n : Nat) (a : Int), Same (intsS s n a) (intsS (s ++ u) n a)
  | 0, a => same_self _
  | n + 1, a => bindR_ext (takeI_ext s u a) fun v q => bindR_ext (intsS_ext s u n q) fun _ _ => same_self _
theorem decC_ext (s u : ByteArray) (a : Int) : Same (decC s a) (decC (s ++ u) a) :=
  bindR_ext (takeI_ext _ _ _) fun _ _ => bindR_ext (takeI_ext _ _ _) fun _ _ => bindR_ext (takeC_ext _ _ _ _) fun _ _ => bindR_ext (intsS_ext _ _ _ _) fun _ _ =>
  bindR_ext (takeI_ext _ _ _) fun _ _ => bindR_ext (takeI_ext _ _ _) fun _ _ => bindR_ext (takeI_ext _ _ _) fun _ _ => bindR_ext (takeI_ext _ _ _) fun _ _ =>
  bindR_ext (takeT_ext _ _ _ _) fun _ _ => bindR_ext (takeB_ext _ _ _) fun _ _ => same_self _
theorem decCs_ext (s u : ByteArray) : ∀ (n : Nat) (a : Int), Same (decCs s n a) (decCs (s ++ u) n a)
  | 0, a => same_self _
  | n + 1, a => bindR_ext (decC_ext s u a) fun v q => bindR_ext (decCs_ext s u n q) fun _ _ => same_self _
theorem decB_ext (s u : ByteArray) (a : Int) : Same (decB s a) (decB (s ++ u) a) :=
  bindR_ext (takeI_ext _ _ _) fun _ _ => bindR_ext (takeI_ext _ _ _) fun _ _ => bindR_ext (takeI_ext _ _ _) fun _ _ => bindR_ext (takeC_ext _ _ _ _) fun _ _ => bindR_ext (decCs_ext _ _ _ _) fun _ _ => same_self _
/-! ### packets -/
noncomputable def decA (s : ByteArray) : PacketT × Int × Int :=
  bindR (takeI s 0) zeroP fun f a => bindR (takeI s a) zeroP fun t a => bindR (takeI s a) zeroP fun kd a => bindR (takeI s a) zeroP fun q a => bindR (takeI s a) zeroP fun ack a => bindR (takeI s a) zeroP fun tn a =>
  bindR (takeU s a) zeroP fun dg a => bindR (takeT s a 65536) zeroP fun da a => bif kd == 1 then bindR (decB s a) zeroP fun b a => ((f, t, kd, q, ack, tn, dg, b, da), a, 0) else ((f, t, kd, q, ack, tn, dg, zeroB, da), a, 0)
theorem cond_ext {α : Type} {b : Bool} {x x' y y' : α × Int × Int} (h1 : Same x x') (h2 : Same y y') : Same (bif b then x else y) (bif b then x' else y') := by
  cases b
  · exact h2
  · exact h1
theorem decA_ext (s u : ByteArray) : Same (decA s) (decA (s ++ u)) :=
  bindR_ext (takeI_ext _ _ _) fun _ _ => bindR_ext (takeI_ext _ _ _) fun _ _ => bindR_ext (takeI_ext _ _ _) fun kd _ => bindR_ext (takeI_ext _ _ _) fun _ _ => bindR_ext (takeI_ext _ _ _) fun _ _ => bindR_ext (takeI_ext _ _ _) fun _ _ =>
  bindR_ext (takeU_ext _ _ _) fun _ _ => bindR_ext (takeT_ext _ _ _ _) fun _ _ => 
    cond_ext (bindR_ext (decB_ext _ _ _) fun _ _ => same_self _) (same_self _)
def inN (n : Int) : Bool := !decide (n < 0) && !decide (n > 1099511627776)
def regS (p : PacketT) : Bool := inN p.1 && (inN p.2.1 && (inN p.2.2.2.1 && (inN p.2.2.2.2.1 && (inN p.2.2.2.2.2.1 && (decide (p.2.2.1 ≥ 0) && decide (p.2.2.1 ≤ 5))))))
noncomputable def decP (s : ByteArray) : PacketT × Int :=
  bif (decA s).2.2 != 0 then (zeroP, (decA s).2.2) else bif (decA s).2.1 != (s.size : Int) then (zeroP, 16) else bif !regS (decA s).1 then (zeroP, 16) else ((decA s).1, 0)
theorem wReg (p : PacketT) : link_regular.f p = some (regS p) := by
  have fin : (bif decide (p.2.2.1 ≥ 0) then some (decide (p.2.2.1 ≤ 5)) else some false) = some (decide (p.2.2.1 ≥ 0) && decide (p.2.2.1 ≤ 5)) := by cases decide (p.2.2.1 ≥ 0) <;> rfl
  have step : ∀ (k : Nat) (n : Int), k < 5 → idx [p.1, p.2.1, p.2.2.2.1, p.2.2.2.2.1, p.2.2.2.2.2.1] (k : Int) = some n → link_regular.j0 (p.1, p.2.1, p.2.2.2.1, p.2.2.2.2.1, p.2.2.2.2.2.1) k p = bif inN n then link_regular.j0 (p.1, p.2.1, p.2.2.2.1, p.2.2.2.2.1, p.2.2.2.2.2.1) ((k + 1 : Nat) : Int) p else some false := fun k n hk hn => by
    rw [link_regular.j0_eq, decide_eq_true (show (k : Int) < 5 by omega), cond_true, hn, Option.bind_some, wr_succ hk (by omega)]
    unfold inN
    cases decide (n < 0) <;> cases decide (n > 1099511627776) <;> rfl
  have stop : link_regular.j0 (p.1, p.2.1, p.2.2.2.1, p.2.2.2.2.1, p.2.2.2.2.2.1) ((5 : Nat) : Int) p = some (decide (p.2.2.1 ≥ 0) && decide (p.2.2.1 ≤ 5)) := by
    rw [link_regular.j0_eq, decide_eq_false (by omega), cond_false, fin]
  rw [link_regular.f_eq, show (0 : Int) = ((0 : Nat) : Int) from rfl, step 0 _ (by omega) rfl, step 1 _ (by omega) rfl, step 2 _ (by omega) rfl, step 3 _ (by omega) rfl, step 4 _ (by omega) rfl, stop]
  unfold regS
  cases inN p.1 <;> cases inN p.2.1 <;> cases inN p.2.2.2.1 <;> cases inN p.2.2.2.2.1 <;> cases inN p.2.2.2.2.2.1 <;> rfl
theorem bneE {e : Int} (h : ¬ e = 0) : (e != 0) = true := by rw [bne0]; exact decide_eq_true h
theorem bneF {e : Int} (h : e = 0) : (e != 0) = false := by rw [bne0]; exact decide_eq_false (fun h' => h' h)
theorem decP_bad {s : ByteArray} {e : Int} (h : decA s = (zeroP, 0, e)) (he : ¬ e = 0) : decP s = (zeroP, e) := by
  unfold decP
  rw [h, bneE he]
  rfl
theorem decP_fin {s : ByteArray} {p : PacketT} {a : Int} (h : decA s = (p, a, 0)) : decP s = bif a != (s.size : Int) then (zeroP, 16) else bif !regS p then (zeroP, 16) else (p, 0) := by
  unfold decP
  rw [h]
  rfl
section
variable {s : ByteArray} (hs : s.size ≤ 100000) (a o0 o01 o02 o03 o04 o05 o06 o07 o08 o09 : Int) (o010 : ByteArray) (o1 : List CommandT) (o2 o21 o22 o23 o24 o25 o26 o27 o28 o29 : Int) (o210 : ByteArray) (o3 : List CommandT)
include hs
theorem dec_0 : link_Decode.j0 s a 0 o0 o01 o02 o03 o04 o05 o06 o07 o08 o09 o010 o1 o2 o21 o22 o23 o24 o25 o26 o27 o28 o29 o210 o3 = bif (takeI s a).2.2 != 0 then some (zeroP, (takeI s a).2.2) else link_Decode.j0 s (takeI s a).2.1 1 o0 o01 o02 o03 o04 o05 o06 o07 o08 o09 o010 o1 (takeI s a).1 o21 o22 o23 o24 o25 o26 o27 o28 o29 o210 o3 := by
  rw [link_Decode.j0_eq, wTakeI s hs]
  rfl
theorem dec_1 : link_Decode.j0 s a 1 o0 o01 o02 o03 o04 o05 o06 o07 o08 o09 o010 o1 o2 o21 o22 o23 o24 o25 o26 o27 o28 o29 o210 o3 = bif (takeI s a).2.2 != 0 then some (zeroP, (takeI s a).2.2) else link_Decode.j0 s (takeI s a).2.1 2 o0 o01 o02 o03 o04 o05 o06 o07 o08 o09 o010 o1 o2 (takeI s a).1 o22 o23 o24 o25 o26 o27 o28 o29 o210 o3 := by
  rw [link_Decode.j0_eq, wTakeI s hs]
  rfl
theorem dec_2 : link_Decode.j0 s a 2 o0 o01 o02 o03 o04 o05 o06 o07 o08 o09 o010 o1 o2 o21 o22 o23 o24 o25 o26 o27 o28 o29 o210 o3 = bif (takeI s a).2.2 != 0 then some (zeroP, (takeI s a).2.2) else link_Decode.j0 s (takeI s a).2.1 3 o0 o01 o02 o03 o04 o05 o06 o07 o08 o09 o010 o1 o2 o21 (takeI s a).1 o23 o24 o25 o26 o27 o28 o29 o210 o3 := by
  rw [link_Decode.j0_eq, wTakeI s hs]
  rfl
theorem dec_3 : link_Decode.j0 s a 3 o0 o01 o02 o03 o04 o05 o06 o07 o08 o09 o010 o1 o2 o21 o22 o23 o24 o25 o26 o27 o28 o29 o210 o3 = bif (takeI s a).2.2 != 0 then some (zeroP, (takeI s a).2.2) else link_Decode.j0 s (takeI s a).2.1 4 o0 o01 o02 o03 o04 o05 o06 o07 o08 o09 o010 o1 o2 o21 o22 (takeI s a).1 o24 o25 o26 o27 o28 o29 o210 o3 := by
  rw [link_Decode.j0_eq, wTakeI s hs]
  rfl
theorem dec_4 : link_Decode.j0 s a 4 o0 o01 o02 o03 o04 o05 o06 o07 o08 o09 o010 o1 o2 o21 o22 o23 o24 o25 o26 o27 o28 o29 o210 o3 = bif (takeI s a).2.2 != 0 then some (zeroP, (takeI s a).2.2) else link_Decode.j0 s (takeI s a).2.1 5 o0 o01 o02 o03 o04 o05 o06 o07 o08 o09 o010 o1 o2 o21 o22 o23 (takeI s a).1 o25 o26 o27 o28 o29 o210 o3 := by
  rw [link_Decode.j0_eq, wTakeI s hs]
  rfl
theorem dec_5 : link_Decode.j0 s a 5 o0 o01 o02 o03 o04 o05 o06 o07 o08 o09 o010 o1 o2 o21 o22 o23 o24 o25 o26 o27 o28 o29 o210 o3 = bif (takeI s a).2.2 != 0 then some (zeroP, (takeI s a).2.2) else link_Decode.j0 s (takeI s a).2.1 6 o0 o01 o02 o03 o04 o05 o06 o07 o08 o09 o010 o1 o2 o21 o22 o23 o24 (takeI s a).1 o26 o27 o28 o29 o210 o3 := by
  rw [link_Decode.j0_eq, wTakeI s hs]
  rfl
end
theorem wDecP (s : ByteArray) (hs : s.size ≤ 100000) : link_Decode.f s = some (decP s) := by
  have fin : ∀ (a : Int) (p : PacketT), (bif a != (s.size : Int) then some (zeroP, (16 : Int)) else (some (regS p)).bind fun r => bif !r then some (zeroP, 16) else some (p, 0)) = some (bif a != (s.size : Int) then (zeroP, 16) else bif !regS p then (zeroP, 16) else (p, 0)) := fun a p => by
    cases a != (s.size : Int) <;> cases regS p <;> rfl
  have A0 : decA s = bindR (takeI s 0) zeroP fun f a => bindR (takeI s a) zeroP fun t a => bindR (takeI s a) zeroP fun kd a => bindR (takeI s a) zeroP fun q a => bindR (takeI s a) zeroP fun ack a => bindR (takeI s a) zeroP fun tn a =>
    bindR (takeU s a) zeroP fun dg a => bindR (takeT s a 65536) zeroP fun da a => bif kd == 1 then bindR (decB s a) zeroP fun b a => ((f, t, kd, q, ack, tn, dg, b, da), a, 0) else ((f, t, kd, q, ack, tn, dg, zeroB, da), a, 0) := rfl
  rw [link_Decode.f_eq, dec_0 hs]
  generalize hr1 : takeI s 0 = r1 at *
  rcases (Decidable.em (r1.2.2 = 0)).symm with e1 | e1
  · rw [bneE e1, cond_true, decP_bad (A0.trans (bindR_bad e1)) e1]
  rw [bneF e1, cond_false]
  rw [bindR_ok e1] at A0
  rw [dec_1 hs]
  generalize hr2 : takeI s r1.2.1 = r2 at *
  rcases (Decidable.em (r2.2.2 = 0)).symm with e2 | e2
  · rw [bneE e2, cond_true, decP_bad (A0.trans (bindR_bad e2)) e2]
  rw [bneF e2, cond_false]
  rw [bindR_ok e2] at A0
  rw [dec_2 hs]
  generalize hr3 : takeI s r2.2.1 = r3 at *
  rcases (Decidable.em (r3.2.2 = 0)).symm with e3 | e3
  · rw [bneE e3, cond_true, decP_bad (A0.trans (bindR_bad e3)) e3]
  rw [bneF e3, cond_false]
  rw [bindR_ok e3] at A0
  rw [dec_3 hs]
  generalize hr4 : takeI s r3.2.1 = r4 at *
  rcases (Decidable.em (r4.2.2 = 0)).symm with e4 | e4
  · rw [bneE e4, cond_true, decP_bad (A0.trans (bindR_bad e4)) e4]
  rw [bneF e4, cond_false]
  rw [bindR_ok e4] at A0
  rw [dec_4 hs]
  generalize hr5 : takeI s r4.2.1 = r5 at *
  rcases (Decidable.em (r5.2.2 = 0)).symm with e5 | e5
  · rw [bneE e5, cond_true, decP_bad (A0.trans (bindR_bad e5)) e5]
  rw [bneF e5, cond_false]
  rw [bindR_ok e5] at A0
  rw [dec_5 hs]
  generalize hr6 : takeI s r5.2.1 = r6 at *
  rcases (Decidable.em (r6.2.2 = 0)).symm with e6 | e6
  · rw [bneE e6, cond_true, decP_bad (A0.trans (bindR_bad e6)) e6]
  rw [bneF e6, cond_false]
  rw [bindR_ok e6] at A0
  rw [link_Decode.j0_eq, wTakeU s hs]
  rw [show decide ((6 : Int) < 6) = false from rfl, cond_false, Option.bind_some]
  generalize hr7 : takeU s r6.2.1 = r7 at *
  rcases (Decidable.em (r7.2.2 = 0)).symm with e7 | e7
  · rw [bneE e7, cond_true, decP_bad (A0.trans (bindR_bad e7)) e7]
  rw [bneF e7, cond_false]
  rw [bindR_ok e7] at A0
  rw [wTakeT s hs _ 65536 (by omega) (by omega), Option.bind_some]
  generalize hr8 : takeT s r7.2.1 65536 = r8 at *
  rcases (Decidable.em (r8.2.2 = 0)).symm with e8 | e8
  · rw [bneE e8, cond_true, decP_bad (A0.trans (bindR_bad e8)) e8]
  rw [bneF e8, cond_false]
  rw [bindR_ok e8] at A0
  cases hk : r3.1 == 1 with
  | false =>
    rw [hk, cond_false] at A0
    rw [cond_false, wReg, decP_fin A0]
    exact fin _ _
  | true =>
    rw [hk, cond_true] at A0
    rw [cond_true, wDecB hs, Option.bind_some]
    generalize hr9 : decB s r8.2.1 = r9 at *
    rcases (Decidable.em (r9.2.2 = 0)).symm with e9 | e9
    · rw [bneE e9, cond_true, decP_bad (A0.trans (bindR_bad e9)) e9]
    rw [bneF e9, cond_false]
    rw [bindR_ok e9] at A0
    rw [wReg, decP_fin A0]
    exact fin _ _
end Go.Proofs.YtpiejdjanhnbeaaGreat

/- The chapter's examples. -/
set_option maxHeartbeats 4000000
set_option maxRecDepth 100000
namespace Go.Proofs.YtpiejdjanhnbeaaGreat
open Go Go.Sk
theorem awake_run : callF Tryz.prog cfg 5 [] [] ⟨[.one (.ty .bool)], 0⟩ = some true := lim_of_run (n := 160) (by kernel_rfl)
end Go.Proofs.YtpiejdjanhnbeaaGreat

/- The chapter's examples, as they are called. -/
set_option linter.unusedVariables false
set_option linter.unusedSimpArgs false
set_option maxHeartbeats 4000000
namespace Go.Proofs.YtpiejdjanhnbeaaGreat
open Go Go.Sk

theorem awake_eq : law47_awake.f = some true := by
  unfold law47_awake.f callX orPrim
  rw [show cfg.prim 5 [] [] ⟨[.one (.ty .bool)], 0⟩ = none from rfl]
  exact awake_run
theorem zero_bat : BatL (bat zeroP) := ⟨by show 0 ≤ 2000000; omega, fun c hc => by simp [bat] at hc⟩
end Go.Proofs.YtpiejdjanhnbeaaGreat

/- Encode, regular packets, and the round trip. -/
set_option linter.unusedVariables false
set_option linter.unusedSimpArgs false
set_option maxHeartbeats 4000000
namespace Go.Proofs.YtpiejdjanhnbeaaGreat
open Go Go.Sk

structure FitP (p : PacketT) : Prop where
  f : I64 p.1
  t : I64 p.2.1
  k : I64 p.2.2.1
  q : I64 p.2.2.2.1
  a : I64 p.2.2.2.2.1
  n : I64 p.2.2.2.2.2.1
  d0 : 0 ≤ p.2.2.2.2.2.2.1
  d1 : p.2.2.2.2.2.2.1 < 18446744073709551616
  b : FitB (bat p)
  da : (dat p).size ≤ 5000
def tailP (p : PacketT) : ByteArray := bif p.2.2.1 == 1 then encB (bat p) else ⟨#[]⟩
def encP (p : PacketT) : ByteArray := ivT p.1 ++ (ivT p.2.1 ++ (ivT p.2.2.1 ++ (ivT p.2.2.2.1 ++ (ivT p.2.2.2.2.1 ++ (ivT p.2.2.2.2.2.1 ++ (uvT p.2.2.2.2.2.2.1.toNat ++ (tvT (dat p) ++ tailP p)))))))
theorem tailP_size {p : PacketT} (h : FitP p) : (tailP p).size ≤ 50000 := by
  unfold tailP
  cases p.2.2.1 == 1 with
  | true => exact encB_size h.b
  | false => rw [cond_false, size_nil]; omega
theorem encP_size {p : PacketT} (h : FitP p) : (encP p).size ≤ 56000 := by
  have h1 := ivT_size h.f
  have h2 := ivT_size h.t
  have h3 := ivT_size h.k
  have h4 := ivT_size h.q
  have h5 := ivT_size h.a
  have h6 := ivT_size h.n
  have h0 := h.d0
  have hd := h.d1
  have h7 := uvT_size (n := p.2.2.2.2.2.2.1.toNat) (by omega)
  have h8 := tvT_size (t := dat p) (by have := h.da; omega)
  have h9 := tailP_size h
  have := h.da
  unfold encP
  simp only [ByteArray.size_append]
  omega
theorem encP_pos (p : PacketT) : 0 < (encP p).size := by
  have := ivT_pos p.1
  unfold encP
  rw [ByteArray.size_append]
  omega
section
variable {p : PacketT} (h : FitP p)
include h
theorem wEnc_end (X : ByteArray) (hX : X.size ≤ 1000) (h0 : 0 < X.size) : link_Encode.j0 (p.1, p.2.1, p.2.2.1, p.2.2.2.1, p.2.2.2.2.1, p.2.2.2.2.2.1) ((6 : Nat) : Int) p (rowOf X) = some (X ++ (uvT p.2.2.2.2.2.2.1.toNat ++ (tvT (dat p) ++ tailP p))) := by
  have hd0 := h.d0
  have hd := h.d1
  have hda := h.da
  have h7 := uvT_size (n := p.2.2.2.2.2.2.1.toNat) (by omega)
  have h8 := tvT_size (t := dat p) (by omega)
  have e : p.2.2.2.2.2.2.1 = ((p.2.2.2.2.2.2.1.toNat : Nat) : Int) := by omega
  have e1 : wire_Uint.f p.2.2.2.2.2.2.1 = some (uvT p.2.2.2.2.2.2.1.toNat) := by
    rw [e]
    exact wUint _ (by omega)
  rw [link_Encode.j0_eq, decide_eq_false (by omega), cond_false, e1, Option.bind_some, ws1 _ X (by omega), Option.bind_some, show p.2.2.2.2.2.2.2.2 = dat p from rfl, wText _ (by omega), Option.bind_some, ws1 _ _ (by rw [ByteArray.size_append]; omega), Option.bind_some]
  unfold tailP
  cases p.2.2.1 == 1 with
  | true =>
    have h9 := encB_size h.b
    rw [cond_true, show p.2.2.2.2.2.2.2.1 = bat p from rfl, wEncB h.b, Option.bind_some, ws1 _ _ (by simp only [ByteArray.size_append]; omega), Option.bind_some, str_eq _ (by simp only [ByteArray.size_append]; omega) (by simp only [ByteArray.size_append]; omega), Option.bind_some, cond_true]
    simp only [ByteArray.append_assoc]
  | false =>
    rw [cond_false, str_eq _ (by simp only [ByteArray.size_append]; omega) (by simp only [ByteArray.size_append]; omega), Option.bind_some, cond_false, app_nil]
    simp only [ByteArray.append_assoc]
omit h in
theorem wEnc_step (k : Nat) (n : Int) (hk : k < 6) (hn : I64 n) (hi : idx [p.1, p.2.1, p.2.2.1, p.2.2.2.1, p.2.2.2.2.1, p.2.2.2.2.2.1] (k : Int) = some n) (X : ByteArray) (hX : X.size ≤ 900) :
    link_Encode.j0 (p.1, p.2.1, p.2.2.1, p.2.2.2.1, p.2.2.2.2.1, p.2.2.2.2.2.1) k p (rowOf X) = link_Encode.j0 (p.1, p.2.1, p.2.2.1, p.2.2.2.1, p.2.2.2.2.1, p.2.2.2.2.2.1) ((k + 1 : Nat) : Int) p (rowOf (X ++ ivT n)) := by
  have h1 := ivT_size hn
  rw [link_Encode.j0_eq, decide_eq_true (show (k : Int) < 6 by omega), cond_true, hi, Option.bind_some, wInt n hn, Option.bind_some, ws1 _ X (by omega), Option.bind_some, wr_succ hk (by omega)]
theorem wEncP : link_Encode.f p = some (encP p) := by
  have h1 := ivT_size h.f
  have h2 := ivT_size h.t
  have h3 := ivT_size h.k
  have h4 := ivT_size h.q
  have h5 := ivT_size h.a
  have h6 := ivT_size h.n
  have h0 := ivT_pos p.1
  rw [link_Encode.f_eq, show ([] : List Int) = rowOf ⟨#[]⟩ from rfl, show (0 : Int) = ((0 : Nat) : Int) from rfl, wEnc_step 0 _ (by omega) h.f rfl _ (by rw [size_nil]; omega), wEnc_step 1 _ (by omega) h.t rfl _ (by simp only [ByteArray.size_append, size_nil]; omega),
    wEnc_step 2 _ (by omega) h.k rfl _ (by simp only [ByteArray.size_append, size_nil]; omega), wEnc_step 3 _ (by omega) h.q rfl _ (by simp only [ByteArray.size_append, size_nil]; omega), wEnc_step 4 _ (by omega) h.a rfl _ (by simp only [ByteArray.size_append, size_nil]; omega),
    wEnc_step 5 _ (by omega) h.n rfl _ (by simp only [ByteArray.size_append, size_nil]; omega), wEnc_end h _ (by simp only [ByteArray.size_append, size_nil]; omega) (by simp only [ByteArray.size_append, size_nil]; omega)]
  unfold encP
  rw [nil_app]
  simp only [ByteArray.append_assoc]
end
/-! ### regular packets -/
noncomputable def regularS (p : PacketT) : Bool := regS p && (decide ((dat p).size ≤ 65536) && (bif p.2.2.1 == 1 then batOK (bat p) else decide (bat p = zeroB)))
theorem rCount0 (n : Int) : ref47_count.f n 0 = some (inN n) := by
  rw [rCount]
  unfold inN
  by_cases h1 : n < 0
  · rw [decide_eq_true h1, decide_eq_false (by omega)]; rfl
  · rw [decide_eq_false h1, decide_eq_true (show 0 ≤ n by omega)]
    by_cases h2 : n > 1099511627776
    · rw [decide_eq_true h2, decide_eq_false (by omega)]; rfl
    · rw [decide_eq_false h2, decide_eq_true (by omega)]; rfl
theorem rRegular (p : PacketT) (hb : BatL (bat p)) : ref47_Regular.f p = some (regularS p) := by
  rw [ref47_Regular.f_eq]
  simp only [rCount0, Option.bind_some]
  rw [show p.2.2.2.2.2.2.2.1 = bat p from rfl, show p.2.2.2.2.2.2.2.2 = dat p from rfl, refValid_eq _ hb, rbatSame_eq _ _ hb]
  unfold regularS regS
  have e1 : decide (p.2.2.1 < 0) = !decide (p.2.2.1 ≥ 0) := by
    by_cases h : p.2.2.1 < 0
    · rw [decide_eq_true h, decide_eq_false (by omega)]; rfl
    · rw [decide_eq_false h, decide_eq_true (by omega)]; rfl
  have e2 : decide (p.2.2.1 > 5) = !decide (p.2.2.1 ≤ 5) := by
    by_cases h : p.2.2.1 > 5
    · rw [decide_eq_true h, decide_eq_false (by omega)]; rfl
    · rw [decide_eq_false h, decide_eq_true (by omega)]; rfl
  have e3 : decide (((dat p).size : Int) > 65536) = !decide ((dat p).size ≤ 65536) := by
    by_cases h : ((dat p).size : Int) > 65536
    · rw [decide_eq_true h, decide_eq_false (by omega)]; rfl
    · rw [decide_eq_false h, decide_eq_true (by omega)]; rfl
  rw [e1, e2, e3]
  cases decide (p.2.2.1 ≥ 0) with
  | false => simp
  | true =>
  cases decide (p.2.2.1 ≤ 5) with
  | false => simp
  | true =>
  cases inN p.1 with
  | false => rfl
  | true =>
  cases inN p.2.1 with
  | false => rfl
  | true =>
  cases inN p.2.2.2.1 with
  | false => rfl
  | true =>
  cases inN p.2.2.2.2.1 with
  | false => rfl
  | true =>
  cases inN p.2.2.2.2.2.1 with
  | false => rfl
  | true =>
  cases decide ((dat p).size ≤ 65536) with
  | false => rfl
  | true =>
  cases p.2.2.1 == 1 <;> rfl
theorem At.uint {s : ByteArray} {a : Int} {n : Nat} (h : At s a (uvT n)) (hn : n < 18446744073709551616) : takeU s a = ((n : Int), a + (uvT n).size, 0) := by
  obtain ⟨x, y, rfl, rfl⟩ := h
  exact takeU_at x y n hn
theorem At.text {s t : ByteArray} {a : Int} (h : At s a (tvT t)) (ht : t.size ≤ 65536) : takeT s a 65536 = (t, a + (tvT t).size, 0) := by
  obtain ⟨x, y, rfl, rfl⟩ := h
  exact takeT_at x y t 65536 (by omega) (by omega)
theorem decA_enc {p : PacketT} (hf : FitP p) (hr : regularS p = true) : decA (encP p) = (p, ((encP p).size : Int), 0) := by
  have h : At (encP p) 0 (encP p) := ⟨⟨#[]⟩, ⟨#[]⟩, by rw [nil_app, app_nil], rfl⟩
  have hd0 := hf.d0
  have hd1 := hf.d1
  have hda := hf.da
  unfold regularS at hr
  simp only [Bool.and_eq_true] at hr
  obtain ⟨_, _, hb⟩ := hr
  have hsz : ((encP p).size : Int) = 0 + (ivT p.1).size + (ivT p.2.1).size + (ivT p.2.2.1).size + (ivT p.2.2.2.1).size + (ivT p.2.2.2.2.1).size + (ivT p.2.2.2.2.2.1).size + (uvT p.2.2.2.2.2.2.1.toNat).size + (tvT (dat p)).size + (tailP p).size := by
    unfold encP
    simp only [ByteArray.size_append]
    omega
  generalize hS : encP p = S at *
  rw [show At S 0 S = At S 0 (encP p) by rw [hS]] at h
  unfold encP at h
  obtain ⟨b1, h⟩ := h.split
  obtain ⟨b2, h⟩ := h.split
  obtain ⟨b3, h⟩ := h.split
  obtain ⟨b4, h⟩ := h.split
  obtain ⟨b5, h⟩ := h.split
  obtain ⟨b6, h⟩ := h.split
  obtain ⟨b7, h⟩ := h.split
  obtain ⟨b8, b9⟩ := h.split
  unfold decA
  rw [b1.int hf.f, bindR_ok rfl]
  simp only
  rw [b2.int hf.t, bindR_ok rfl]
  simp only
  rw [b3.int hf.k, bindR_ok rfl]
  simp only
  rw [b4.int hf.q, bindR_ok rfl]
  simp only
  rw [b5.int hf.a, bindR_ok rfl]
  simp only
  rw [b6.int hf.n, bindR_ok rfl]
  simp only
  rw [b7.uint (by omega), bindR_ok rfl]
  simp only
  rw [b8.text (by omega), bindR_ok rfl]
  simp only
  rw [hsz]
  have ed : ((p.2.2.2.2.2.2.1.toNat : Nat) : Int) = p.2.2.2.2.2.2.1 := by omega
  rw [ed]
  unfold tailP at b9 ⊢
  cases hk : p.2.2.1 == 1 with
  | true =>
    rw [hk] at b9 hb
    rw [cond_true] at b9 hb
    rw [cond_true, cond_true, b9.batch hf.b hb, bindR_ok rfl]
    rfl
  | false =>
    rw [hk, cond_false] at hb
    have hz := of_decide_eq_true hb
    rw [cond_false, cond_false, size_nil]
    rw [show ((0 : Nat) : Int) = 0 from rfl, Int.add_zero, ← hz]
    rfl
theorem fit_pkt {p : PacketT} (h : Fits cPacket p) (hs : Short p) : FitP p := by
  obtain ⟨h1, h2, h3, h4, h5, h6, h7, ⟨h8, h9, h10, h11⟩, h12⟩ := h
  have i64 : ∀ {n : Int}, Fits (.int .i64) n → I64 n := fun h => ⟨h.1, h.2⟩
  have hl := hs.len
  refine ⟨i64 h1, i64 h2, i64 h3, i64 h4, i64 h5, i64 h6, h7.1, ?_, ⟨i64 h8, i64 h9, i64 h10, fun c hc => ?_, ?_⟩, hs.dat⟩
  · have h := h7.2
    have : p.2.2.2.2.2.2.1 ≤ 18446744073709551615 := h
    omega
  · obtain ⟨g1, g2, ⟨g3, g3'⟩, ⟨g4, g5⟩, g6, g7, g8, g9⟩ := h11.2 c hc
    have hL := hs.cmds c hc
    exact ⟨i64 g1, i64 g2, fun n hn => i64 (g3' n hn), hL.ul, i64 g4, i64 g5, i64 g6, i64 g7, hL.nl⟩
  · show List.length (α := CommandT) (bat p).2.2.2 ≤ 40
    omega
/-- a text that ends elsewhere is refused -/
theorem decP_off {s : ByteArray} {p : PacketT} {a : Int} (h : decA s = (p, a, 0)) (ha : a ≠ s.size) : decP s = (zeroP, 16) := by
  rw [decP_fin h]
  have : (a != (s.size : Int)) = true := by simpa using ha
  rw [this]
  rfl
end Go.Proofs.YtpiejdjanhnbeaaGreat

/- What was read is what would be written: each text that is accepted is the encoding of what comes out. -/
set_option linter.unusedVariables false
set_option linter.unusedSimpArgs false
set_option maxHeartbeats 4000000
namespace Go.Proofs.YtpiejdjanhnbeaaGreat
open Go Go.Sk

/-- these bytes lie there -/
def On (s : ByteArray) (k : Nat) (t : ByteArray) : Prop := ∃ r, (bts s).drop k = bts t ++ r
theorem On.join {s t u : ByteArray} {k : Nat} (h : On s k t) (h2 : On s (k + t.size) u) : On s k (t ++ u) := by
  obtain ⟨r, hr⟩ := h
  obtain ⟨r2, hr2⟩ := h2
  refine ⟨r2, ?_⟩
  have e : (bts s).drop (k + t.size) = r := by
    rw [← List.drop_drop, hr, ← bts_len t, List.drop_left]
  rw [hr, bts_append, List.append_assoc, ← hr2, e]
def Step (s : ByteArray) (a : Int) (t : ByteArray) (q : Int) : Prop := ∃ k : Nat, a = k ∧ On s k t ∧ q = ((k + t.size : Nat) : Int)
theorem Step.cons {s t u : ByteArray} {a q r : Int} (h : Step s a t q) (h2 : Step s q u r) : Step s a (t ++ u) r := by
  obtain ⟨k, rfl, h3, rfl⟩ := h
  obtain ⟨k2, e, h4, rfl⟩ := h2
  have : k2 = k + t.size := by omega
  subst this
  refine ⟨k, rfl, h3.join h4, ?_⟩
  rw [ByteArray.size_append]
  congr 1
  omega
theorem Step.nat {s t : ByteArray} {a q : Int} (h : Step s a t q) : ∃ k : Nat, q = k := by
  obtain ⟨k, _, _, rfl⟩ := h
  exact ⟨_, rfl⟩
theorem Step.nil (s : ByteArray) (k : Nat) : Step s k ⟨#[]⟩ k := ⟨k, rfl, ⟨(bts s).drop k, rfl⟩, by rw [size_nil]; rfl⟩
theorem bindR_inv {α β : Type} {r : α × Int × Int} {d : β} {K : α → Int → β × Int × Int} (h : (bindR r d K).2.2 = 0) : r.2.2 = 0 ∧ (K r.1 r.2.1).2.2 = 0 ∧ bindR r d K = K r.1 r.2.1 := by
  by_cases h1 : r.2.2 = 0
  · rw [bindR_ok h1] at h ⊢
    exact ⟨h1, h, rfl⟩
  · rw [bindR_bad h1] at h
    exact absurd h h1
theorem tkB_can : ∀ (l : List Nat) (n k p : Nat), (∀ c ∈ l, c < 256) → (tkB l n k p).2.2 = 0 → ∃ (m : Nat) (rest : List Nat), l = uvL m ++ rest ∧ (tkB l n k p).1 = ((n + m * 2 ^ (7 * k) : Nat) : Int) ∧ (tkB l n k p).2.1 = ((p + (uvL m).length : Nat) : Int) ∧ (0 < k → m ≠ 0)
  | [], n, k, p, _, h => by
    exfalso
    simp only [tkB] at h
    split at h <;> simp at h
  | c :: r, n, k, p, hc, h => by
    simp only [tkB] at h ⊢
    split at h
    · simp at h
    · rename_i h1
      rw [if_neg h1]
      split at h
      · simp at h
      · rename_i h2
        rw [if_neg h2]
        split at h
        · rename_i h3
          rw [if_pos h3]
          split at h
          · simp at h
          · rename_i h4
            rw [if_neg h4]
            refine ⟨c, r, by rw [uvL_small h3]; rfl, rfl, by rw [uvL_small h3]; rfl, fun hk e => h4 ⟨e, hk⟩⟩
        · rename_i h3
          rw [if_neg h3]
          obtain ⟨m, rest, e1, e2, e3, e4⟩ := tkB_can r _ _ _ (fun x hx => hc x (List.mem_cons_of_mem _ hx)) h
          have hc256 := hc c (List.mem_cons_self ..)
          have hm := e4 (by omega)
          have hbig : ¬ c % 128 + 128 * m < 128 := by omega
          refine ⟨c % 128 + 128 * m, rest, ?_, ?_, ?_, fun _ => by omega⟩
          · rw [uvL_big hbig, show (c % 128 + 128 * m) / 128 = m by omega, show 128 + (c % 128 + 128 * m) % 128 = c by omega, List.cons_append, ← e1]
          · rw [e2]
            congr 1
            have : 2 ^ (7 * (k + 1)) = 128 * 2 ^ (7 * k) := by
              rw [show 7 * (k + 1) = 7 * k + 7 by omega, Nat.pow_add]
              omega
            rw [this, Nat.add_mul, Nat.add_assoc, show 128 * m * 2 ^ (7 * k) = m * (128 * 2 ^ (7 * k)) by rw [Nat.mul_comm 128 m, Nat.mul_assoc]]
          · rw [e3, uvL_big hbig, show (c % 128 + 128 * m) / 128 = m by omega, List.length_cons]
            congr 1
            omega
theorem canU {s : ByteArray} {a : Int} (h : (takeU s a).2.2 = 0) : Step s a (uvT (takeU s a).1.toNat) (takeU s a).2.1 ∧ (takeU s a).1 = (((takeU s a).1.toNat : Nat) : Int) := by
  obtain ⟨u, hu, _⟩ := takeU_fst s a
  refine ⟨?_, by rw [hu]; rfl⟩
  unfold takeU at h ⊢
  by_cases h1 : a < 0
  · rw [if_pos h1] at h; simp at h
  rw [if_neg h1] at h ⊢
  by_cases h2 : a > s.size
  · rw [if_pos h2] at h; simp at h
  rw [if_neg h2] at h ⊢
  obtain ⟨m, rest, e1, e2, e3, _⟩ := tkB_can _ _ _ _ (fun c hc => bts_lt s c (List.mem_of_mem_drop hc)) h
  rw [e2, e3]
  have em : (((0 + m * 2 ^ (7 * 0) : Nat) : Int)).toNat = m := by simp
  rw [em]
  have hsz : (uvT m).size = (uvL m).length := txt_size _
  refine ⟨a.toNat, by omega, ⟨rest, ?_⟩, by rw [hsz]⟩
  rw [e1]
  unfold uvT
  rw [bts_txt (uvL_lt m)]
theorem zz_un (u : Nat) : zz (unzz u) = u := by
  unfold zz unzz
  split <;> split <;> omega
theorem canI {s : ByteArray} {a : Int} (h : (takeI s a).2.2 = 0) : Step s a (ivT (takeI s a).1) (takeI s a).2.1 := by
  unfold takeI at h ⊢
  by_cases h1 : (takeU s a).2.2 = 0
  · rw [if_neg (fun h => h h1)]
    obtain ⟨h2, _⟩ := canU h1
    unfold ivT
    rw [zz_un]
    exact h2
  · rw [if_pos h1] at h
    exact absurd h h1
theorem canC {s : ByteArray} {a most : Int} (h : (takeC s a most).2.2 = 0) : Step s a (uvT (takeC s a most).1.toNat) (takeC s a most).2.1 := by
  unfold takeC at h ⊢
  by_cases h1 : (takeU s a).2.2 = 0
  · rw [if_neg (fun h => h h1)] at h ⊢
    by_cases h2 : most < 0
    · rw [if_pos h2] at h; simp at h
    rw [if_neg h2] at h ⊢
    by_cases h3 : (takeU s a).1 > most
    · rw [if_pos h3] at h; simp at h
    rw [if_neg h3] at h ⊢
    by_cases h4 : (takeU s a).1 > s.size - (takeU s a).2.1
    · rw [if_pos h4] at h; simp at h
    rw [if_neg h4]
    exact (canU h1).1
  · rw [if_pos h1] at h
    exact absurd h h1
theorem bts_extract (s : ByteArray) (i j : Nat) : bts (s.extract i j) = ((bts s).drop i).take (j - i) := by
  unfold bts
  rw [ByteArray.data_extract, Array.toList_extract, List.extract_eq_take_drop, List.map_take, List.map_drop]
theorem canT {s : ByteArray} {a most : Int} (h : (takeT s a most).2.2 = 0) : Step s a (tvT (takeT s a most).1) (takeT s a most).2.1 := by
  unfold takeT at h ⊢
  by_cases h1 : (takeC s a most).2.2 = 0
  · obtain ⟨n, q, e1, e2, e3⟩ := takeC_ok h1
    have hs := canC h1
    rw [if_neg (fun h => h h1)]
    rw [e1] at hs ⊢
    simp only [Int.toNat_natCast] at hs ⊢
    have e5 : ((q : Int) + (n : Int)).toNat = q + n := by omega
    rw [e5]
    have hsz : (s.extract q (q + n)).size = n := by rw [ByteArray.size_extract]; omega
    unfold tvT
    rw [hsz]
    refine hs.cons ⟨q, rfl, ⟨(bts s).drop (q + n), ?_⟩, by rw [hsz]; rfl⟩
    rw [bts_extract, show q + n - q = n by omega, ← List.drop_drop, List.take_append_drop]
  · rw [if_pos h1] at h
    exact absurd h h1
theorem canB {s : ByteArray} {a : Int} (h : (takeB s a).2.2 = 0) : Step s a (bvT (takeB s a).1) (takeB s a).2.1 := by
  unfold takeB at h ⊢
  by_cases h1 : a < 0
  · rw [if_pos h1] at h; simp at h
  rw [if_neg h1] at h ⊢
  by_cases h2 : a > s.size
  · rw [if_pos h2] at h; simp at h
  rw [if_neg h2] at h ⊢
  by_cases h3 : a = s.size
  · rw [if_pos h3] at h; simp at h
  rw [if_neg h3] at h ⊢
  by_cases h4 : ((bts s)[a.toNat]?).getD 0 > 1
  · rw [if_pos h4] at h; simp at h
  rw [if_neg h4]
  have hlt : a.toNat < (bts s).length := by rw [bts_len]; omega
  have hg : (bts s)[a.toNat]? = some (bts s)[a.toNat] := List.getElem?_eq_getElem hlt
  rw [hg, Option.getD_some] at h4 ⊢
  refine ⟨a.toNat, by omega, ⟨(bts s).drop (a.toNat + 1), ?_⟩, ?_⟩
  · rw [List.drop_eq_getElem_cons hlt]
    unfold bvT
    rw [bts_txt (fun c hc => by simp at hc; subst hc; cases decide ((bts s)[a.toNat] = 1) <;> decide)]
    have : (decide ((bts s)[a.toNat] = 1)).toNat = (bts s)[a.toNat] := by
      by_cases h5 : (bts s)[a.toNat] = 1
      · rw [decide_eq_true h5, h5]; rfl
      · rw [decide_eq_false h5]
        show 0 = _
        omega
    rw [this]
    rfl
  · rw [bvT_size]
    show a + 1 = _
    omega
theorem canInts (s : ByteArray) : ∀ (n : Nat) (k : Nat), (intsS s n k).2.2 = 0 → Step s k (catI (intsS s n k).1) (intsS s n k).2.1 ∧ (intsS s n k).1.length = n ∧ ∀ x ∈ (intsS s n k).1, I64 x
  | 0, k, _ => ⟨Step.nil s k, rfl, fun x hx => by simp [intsS] at hx⟩
  | n + 1, k, h => by
    unfold intsS at h ⊢
    obtain ⟨h1, h2, e1⟩ := bindR_inv h
    obtain ⟨h3, h4, e2⟩ := bindR_inv h2
    rw [e1, e2]
    have c1 := canI h1
    obtain ⟨k2, hk2⟩ := c1.nat
    rw [hk2] at h3 c1 ⊢
    obtain ⟨i1, i2, i3⟩ := canInts s n k2 h3
    refine ⟨c1.cons i1, by simp [i2], fun x hx => ?_⟩
    rcases List.mem_cons.1 hx with rfl | hx
    · exact takeI_in s k
    · exact i3 x hx
theorem canCmd {s : ByteArray} {a : Int} (h : (decC s a).2.2 = 0) : Step s a (encC (decC s a).1) (decC s a).2.1 ∧ FitC (decC s a).1 := by
  have hL := decC_len s a
  unfold decC at h ⊢
  unfold decC at hL
  obtain ⟨h1, h, e⟩ := bindR_inv h
  rw [e] at hL ⊢; clear e
  obtain ⟨h2, h, e⟩ := bindR_inv h
  rw [e] at hL ⊢; clear e
  obtain ⟨h3, h, e⟩ := bindR_inv h
  rw [e] at hL ⊢; clear e
  obtain ⟨h4, h, e⟩ := bindR_inv h
  rw [e] at hL ⊢; clear e
  obtain ⟨h5, h, e⟩ := bindR_inv h
  rw [e] at hL ⊢; clear e
  obtain ⟨h6, h, e⟩ := bindR_inv h
  rw [e] at hL ⊢; clear e
  obtain ⟨h7, h, e⟩ := bindR_inv h
  rw [e] at hL ⊢; clear e
  obtain ⟨h8, h, e⟩ := bindR_inv h
  rw [e] at hL ⊢; clear e
  obtain ⟨h9, h, e⟩ := bindR_inv h
  rw [e] at hL ⊢; clear e
  obtain ⟨h10, h, e⟩ := bindR_inv h
  rw [e] at hL ⊢; clear e
  have c1 := canI h1
  have c2 := canI h2
  have c3 := canC h3
  obtain ⟨k3, hk3⟩ := c3.nat
  have c4 := canInts s _ k3 (by rw [← hk3]; exact h4)
  rw [← hk3] at c4
  obtain ⟨c4, l4, f4⟩ := c4
  have c5 := canI h5
  have c6 := canI h6
  have c7 := canI h7
  have c8 := canI h8
  have c9 := canT h9
  have c10 := canB h10
  refine ⟨?_, ⟨takeI_in _ _, takeI_in _ _, f4, hL.ul, takeI_in _ _, takeI_in _ _, takeI_in _ _, takeI_in _ _, hL.nl⟩⟩
  unfold encC tailC
  simp only
  rw [l4]
  exact c1.cons (c2.cons (c3.cons (c4.cons (c5.cons (c6.cons (c7.cons (c8.cons (c9.cons c10))))))))
theorem canCmds (s : ByteArray) : ∀ (n : Nat) (k : Nat), (decCs s n k).2.2 = 0 → Step s k (catC (decCs s n k).1) (decCs s n k).2.1 ∧ (decCs s n k).1.length = n ∧ ∀ c ∈ (decCs s n k).1, FitC c
  | 0, k, _ => ⟨Step.nil s k, rfl, fun x hx => by simp [decCs] at hx⟩
  | n + 1, k, h => by
    unfold decCs at h ⊢
    obtain ⟨h1, h2, e1⟩ := bindR_inv h
    obtain ⟨h3, h4, e2⟩ := bindR_inv h2
    rw [e1, e2]
    obtain ⟨c1, f1⟩ := canCmd h1
    obtain ⟨k2, hk2⟩ := c1.nat
    rw [hk2] at h3 c1 ⊢
    obtain ⟨i1, i2, i3⟩ := canCmds s n k2 h3
    refine ⟨c1.cons i1, by simp [i2], fun x hx => ?_⟩
    rcases List.mem_cons.1 hx with rfl | hx
    · exact f1
    · exact i3 x hx
theorem canBat {s : ByteArray} {a : Int} (h : (decB s a).2.2 = 0) : Step s a (encB (decB s a).1) (decB s a).2.1 ∧ FitB (decB s a).1 := by
  unfold decB at h ⊢
  obtain ⟨h1, h, e⟩ := bindR_inv h
  rw [e]; clear e
  obtain ⟨h2, h, e⟩ := bindR_inv h
  rw [e]; clear e
  obtain ⟨h3, h, e⟩ := bindR_inv h
  rw [e]; clear e
  obtain ⟨h4, h, e⟩ := bindR_inv h
  rw [e]; clear e
  obtain ⟨h5, h, e⟩ := bindR_inv h
  rw [e]; clear e
  have c1 := canI h1
  have c2 := canI h2
  have c3 := canI h3
  have c4 := canC h4
  have n4 := (takeC_n16 h4).2
  obtain ⟨k4, hk4⟩ := c4.nat
  have c5 := canCmds s _ k4 (by rw [← hk4]; exact h5)
  rw [← hk4] at c5
  obtain ⟨c5, l5, f5⟩ := c5
  unfold finB at h ⊢
  revert h
  cases batOK _ with
  | false => intro h; simp at h
  | true =>
    intro _
    rw [cond_true]
    refine ⟨?_, ⟨takeI_in _ _, takeI_in _ _, takeI_in _ _, f5, ?_⟩⟩
    · unfold encB
      simp only
      rw [l5]
      exact c1.cons (c2.cons (c3.cons (c4.cons c5)))
    · show List.length (α := CommandT) _ ≤ 40
      rw [l5]
      exact Nat.le_trans n4 (by omega)
theorem canP {s : ByteArray} (h : (decA s).2.2 = 0) : Step s 0 (encP (decA s).1) (decA s).2.1 ∧ (s.size ≤ 5000 → FitP (decA s).1) := by
  unfold decA at h ⊢
  obtain ⟨h1, h, e⟩ := bindR_inv h
  rw [e]; clear e
  obtain ⟨h2, h, e⟩ := bindR_inv h
  rw [e]; clear e
  obtain ⟨h3, h, e⟩ := bindR_inv h
  rw [e]; clear e
  obtain ⟨h4, h, e⟩ := bindR_inv h
  rw [e]; clear e
  obtain ⟨h5, h, e⟩ := bindR_inv h
  rw [e]; clear e
  obtain ⟨h6, h, e⟩ := bindR_inv h
  rw [e]; clear e
  obtain ⟨h7, h, e⟩ := bindR_inv h
  rw [e]; clear e
  obtain ⟨h8, h, e⟩ := bindR_inv h
  rw [e]; clear e
  have c1 := canI h1
  have c2 := canI h2
  have c3 := canI h3
  have c4 := canI h4
  have c5 := canI h5
  have c6 := canI h6
  obtain ⟨c7, e7⟩ := canU h7
  have c8 := canT h8
  obtain ⟨k8, hk8⟩ := c8.nat
  obtain ⟨u7, hu7, hb7⟩ := takeU_fst s (takeI s (takeI s (takeI s (takeI s (takeI s (takeI s 0).2.1).2.1).2.1).2.1).2.1).2.1
  have hda : s.size ≤ 5000 → ∀ most b, (takeT s b most).2.2 = 0 → (takeT s b most).1.size ≤ 5000 := fun hs most b hb => by
    unfold takeT at hb ⊢
    by_cases h1 : (takeC s b most).2.2 = 0
    · obtain ⟨n, q, e1, e2, e3⟩ := takeC_ok h1
      rw [if_neg (fun h => h h1), e1]
      simp only [ByteArray.size_extract]
      omega
    · rw [if_pos h1] at hb
      exact absurd hb h1
  have hz : FitB zeroB := ⟨⟨by decide, by decide⟩, ⟨by decide, by decide⟩, ⟨by decide, by decide⟩, fun c hc => by simp at hc, by show 0 ≤ 40; omega⟩
  revert h
  cases hk : ((takeI s (takeI s (takeI s 0).2.1).2.1).1 == 1) with
  | false =>
    intro _
    rw [cond_false]
    refine ⟨?_, fun hs => ⟨takeI_in _ _, takeI_in _ _, takeI_in _ _, takeI_in _ _, takeI_in _ _, takeI_in _ _, ?_, ?_, hz, hda hs _ _ h8⟩⟩
    · unfold encP tailP
      simp only
      rw [hk, cond_false]
      have c9 := Step.nil s k8
      rw [← hk8] at c9
      exact c1.cons (c2.cons (c3.cons (c4.cons (c5.cons (c6.cons (c7.cons (c8.cons c9)))))))
    · show 0 ≤ (takeU _ _).1
      rw [hu7]; omega
    · show (takeU _ _).1 < _
      rw [hu7]; omega
  | true =>
    intro h
    rw [cond_true] at h ⊢
    obtain ⟨h9, h, e⟩ := bindR_inv h
    rw [e]; clear e
    obtain ⟨c9, f9⟩ := canBat h9
    refine ⟨?_, fun hs => ⟨takeI_in _ _, takeI_in _ _, takeI_in _ _, takeI_in _ _, takeI_in _ _, takeI_in _ _, ?_, ?_, f9, hda hs _ _ h8⟩⟩
    · unfold encP tailP
      simp only
      rw [hk, cond_true]
      exact c1.cons (c2.cons (c3.cons (c4.cons (c5.cons (c6.cons (c7.cons (c8.cons c9)))))))
    · show 0 ≤ (takeU _ _).1
      rw [hu7]; omega
    · show (takeU _ _).1 < _
      rw [hu7]; omega
/-- a packet that is accepted is encoded to the text that it came from -/
theorem enc_dec {s : ByteArray} (hs : s.size ≤ 5000) (h : (decP s).2 = 0) : encP (decP s).1 = s ∧ FitP (decP s).1 ∧ regS (decP s).1 = true := by
  unfold decP at h ⊢
  rcases (Decidable.em ((decA s).2.2 = 0)).symm with h1 | h1
  · rw [bneE h1, cond_true] at h
    exact absurd h h1
  rw [bneF h1, cond_false] at h ⊢
  cases h2 : ((decA s).2.1 != (s.size : Int)) with
  | true => rw [h2] at h; simp at h
  | false =>
    rw [h2, cond_false] at h
    rw [cond_false]
    cases h3 : regS (decA s).1 with
    | false => rw [h3] at h; simp at h
    | true =>
      rw [Bool.not_true, cond_false]
      obtain ⟨⟨k, e0, ⟨r, hr⟩, hq⟩, hf⟩ := canP h1
      have hq2 : (decA s).2.1 = (s.size : Int) := by simpa using h2
      have k0 : k = 0 := by omega
      subst k0
      rw [List.drop_zero] at hr
      have hl := congrArg List.length hr
      rw [List.length_append, bts_len, bts_len] at hl
      have hr0 : r = [] := List.eq_nil_of_length_eq_zero (by omega)
      rw [hr0, List.append_nil] at hr
      exact ⟨(bts_inj hr).symm, hf hs, h3⟩
end Go.Proofs.YtpiejdjanhnbeaaGreat

/- The answer's Decode and Encode; LinkEncodes. -/
set_option linter.unusedVariables false
set_option linter.unusedSimpArgs false
set_option maxHeartbeats 4000000
namespace Go.Proofs.YtpiejdjanhnbeaaGreat
open Go Go.Sk

theorem rEncP {p : PacketT} (h : FitP p) : ref47_Encode.f p = some (encP p) := by
  have h1 := ivT_size h.f
  have h2 := ivT_size h.t
  have h3 := ivT_size h.k
  have h4 := ivT_size h.q
  have h5 := ivT_size h.a
  have h6 := ivT_size h.n
  have hd0 := h.d0
  have hd := h.d1
  have hda := h.da
  have h7 := uvT_size (n := p.2.2.2.2.2.2.1.toNat) (by omega)
  have h8 := tvT_size (t := dat p) (by omega)
  have e : p.2.2.2.2.2.2.1 = ((p.2.2.2.2.2.2.1.toNat : Nat) : Int) := by omega
  have e1 : ref04_Uint.f p.2.2.2.2.2.2.1 = some (uvT p.2.2.2.2.2.2.1.toNat) := by
    rw [e]
    exact rUint _ (by omega)
  rw [ref47_Encode.f_eq, rInt _ h.f, Option.bind_some, rInt _ h.t, Option.bind_some, decide_eq_true (by omega), cond_true, rInt _ h.k, Option.bind_some, decide_eq_true (by simp only [ByteArray.size_append]; omega), cond_true, rInt _ h.q, Option.bind_some, decide_eq_true (by simp only [ByteArray.size_append]; omega), cond_true,
    rInt _ h.a, Option.bind_some, decide_eq_true (by simp only [ByteArray.size_append]; omega), cond_true, rInt _ h.n, Option.bind_some, decide_eq_true (by simp only [ByteArray.size_append]; omega), cond_true, e1, Option.bind_some, decide_eq_true (by simp only [ByteArray.size_append]; omega), cond_true,
    show p.2.2.2.2.2.2.2.2 = dat p from rfl, rText _ (by omega), Option.bind_some, decide_eq_true (by simp only [ByteArray.size_append]; omega), cond_true]
  unfold encP tailP
  cases p.2.2.1 == 1 with
  | true =>
    have h9 := encB_size h.b
    rw [cond_true, cond_true, show p.2.2.2.2.2.2.2.1 = bat p from rfl, rEncB h.b, Option.bind_some, decide_eq_true (by simp only [ByteArray.size_append]; omega), cond_true]
    simp only [ByteArray.append_assoc]
  | false =>
    rw [cond_false, cond_false, app_nil]
    simp only [ByteArray.append_assoc]
theorem finB_ok {p t l : Int} {cs : List CommandT} {a : Int} (h : (finB p t l cs a).2.2 = 0) : batOK (finB p t l cs a).1 = true := by
  unfold finB at h ⊢
  cases hb : batOK (p, t, l, cs) with
  | true => rw [cond_true]; exact hb
  | false => rw [hb, cond_false] at h; simp at h
theorem decB_ok {s : ByteArray} {a : Int} (h : (decB s a).2.2 = 0) : batOK (decB s a).1 = true := by
  unfold decB at h ⊢
  obtain ⟨h1, h, e⟩ := bindR_inv h
  rw [e]; clear e
  obtain ⟨h2, h, e⟩ := bindR_inv h
  rw [e]; clear e
  obtain ⟨h3, h, e⟩ := bindR_inv h
  rw [e]; clear e
  obtain ⟨h4, h, e⟩ := bindR_inv h
  rw [e]; clear e
  obtain ⟨h5, h, e⟩ := bindR_inv h
  rw [e]; clear e
  exact finB_ok h
theorem takeT_most {s : ByteArray} {a : Int} (h : (takeT s a 65536).2.2 = 0) : (takeT s a 65536).1.size ≤ 65536 := by
  unfold takeT at h ⊢
  by_cases h1 : (takeC s a 65536).2.2 = 0
  · obtain ⟨n, q, e1, e2, e3⟩ := takeC_ok h1
    rw [if_neg (fun h => h h1), e1]
    simp only [ByteArray.size_extract]
    omega
  · rw [if_pos h1] at h
    exact absurd h h1
section
variable {s : ByteArray} (hs : s.size ≤ 100000)
include hs
theorem rdec (a : Int) (k : Nat) (hk : k < 6) (L : List Int) (hL : L.length = 6) : ref47_Decode.j0 s a k 0 0 0 0 0 0 0 0 0 0 ⟨#[]⟩ [] L = bif (takeI s a).2.2 != 0 then some (zeroP, (takeI s a).2.2) else ref47_Decode.j0 s (takeI s a).2.1 ((k + 1 : Nat) : Int) 0 0 0 0 0 0 0 0 0 0 ⟨#[]⟩ [] (L.set k (takeI s a).1) := by
  have hkL : k < L.length := by omega
  rw [ref47_Decode.j0_eq, lt_true hkL, cond_true, rTakeI s hs, Option.bind_some, Bool.and_true, decide_eq_true (Int.natCast_nonneg k), cond_true, Int.toNat_natCast, List.getElem?_eq_getElem hkL, Option.bind_some, wr_succ hk (by omega)]
omit hs in
theorem rfin (a v0 v1 v2 v3 v4 v5 : Int) : ref47_Decode.j0 s a ((6 : Nat) : Int) 0 0 0 0 0 0 0 0 0 0 ⟨#[]⟩ [] [v0, v1, v2, v3, v4, v5] = (ref04_TakeUint.f s a).bind fun r6 => bif r6.2.2 != 0 then some (zeroP, r6.2.2) else (ref04_TakeText.f s r6.2.1 65536).bind fun r7 => bif r7.2.2 != 0 then some (zeroP, r7.2.2) else
    bif v2 == 1 then (ref46_Decode.f s r7.2.1).bind fun r8 => bif r8.2.2 != 0 then some (zeroP, r8.2.2) else bif r8.2.1 != (s.size : Int) then some (zeroP, 16) else (ref47_Regular.f (v0, v1, v2, v3, v4, v5, r6.1, r8.1, r7.1)).bind fun r9 => bif !r9 then some (zeroP, 16) else some ((v0, v1, v2, v3, v4, v5, r6.1, r8.1, r7.1), 0)
    else bif r7.2.1 != (s.size : Int) then some (zeroP, 16) else (ref47_Regular.f (v0, v1, v2, v3, v4, v5, r6.1, zeroB, r7.1)).bind fun r8 => bif !r8 then some (zeroP, 16) else some ((v0, v1, v2, v3, v4, v5, r6.1, zeroB, r7.1), 0) := by
  rw [ref47_Decode.j0_eq]
  rfl
theorem rDecP : ref47_Decode.f s = some (decP s) := by
  have fin : ∀ (a : Int) (p : PacketT), (bif a != (s.size : Int) then some (zeroP, (16 : Int)) else (some (regS p)).bind fun r => bif !r then some (zeroP, 16) else some (p, 0)) = some (bif a != (s.size : Int) then (zeroP, 16) else bif !regS p then (zeroP, 16) else (p, 0)) := fun a p => by
    cases a != (s.size : Int) <;> cases regS p <;> rfl
  have A0 : decA s = bindR (takeI s 0) zeroP fun f a => bindR (takeI s a) zeroP fun t a => bindR (takeI s a) zeroP fun kd a => bindR (takeI s a) zeroP fun q a => bindR (takeI s a) zeroP fun ack a => bindR (takeI s a) zeroP fun tn a =>
    bindR (takeU s a) zeroP fun dg a => bindR (takeT s a 65536) zeroP fun da a => bif kd == 1 then bindR (decB s a) zeroP fun b a => ((f, t, kd, q, ack, tn, dg, b, da), a, 0) else ((f, t, kd, q, ack, tn, dg, zeroB, da), a, 0) := rfl
  have st := rdec hs 0 0 (by omega) [0, 0, 0, 0, 0, 0] rfl
  rw [show ((0 : Nat) : Int) = 0 from rfl] at st
  rw [ref47_Decode.f_eq, st]
  generalize hr1 : takeI s 0 = r1 at *
  rcases (Decidable.em (r1.2.2 = 0)).symm with e1 | e1
  · rw [bneE e1, cond_true, decP_bad (A0.trans (bindR_bad e1)) e1]
  rw [bneF e1, cond_false]
  rw [bindR_ok e1] at A0
  rw [rdec hs _ 1 (by omega) _ rfl]
  generalize hr2 : takeI s r1.2.1 = r2 at *
  rcases (Decidable.em (r2.2.2 = 0)).symm with e2 | e2
  · rw [bneE e2, cond_true, decP_bad (A0.trans (bindR_bad e2)) e2]
  rw [bneF e2, cond_false]
  rw [bindR_ok e2] at A0
  rw [rdec hs _ 2 (by omega) _ rfl]
  generalize hr3 : takeI s r2.2.1 = r3 at *
  rcases (Decidable.em (r3.2.2 = 0)).symm with e3 | e3
  · rw [bneE e3, cond_true, decP_bad (A0.trans (bindR_bad e3)) e3]
  rw [bneF e3, cond_false]
  rw [bindR_ok e3] at A0
  rw [rdec hs _ 3 (by omega) _ rfl]
  generalize hr4 : takeI s r3.2.1 = r4 at *
  rcases (Decidable.em (r4.2.2 = 0)).symm with e4 | e4
  · rw [bneE e4, cond_true, decP_bad (A0.trans (bindR_bad e4)) e4]
  rw [bneF e4, cond_false]
  rw [bindR_ok e4] at A0
  rw [rdec hs _ 4 (by omega) _ rfl]
  generalize hr5 : takeI s r4.2.1 = r5 at *
  rcases (Decidable.em (r5.2.2 = 0)).symm with e5 | e5
  · rw [bneE e5, cond_true, decP_bad (A0.trans (bindR_bad e5)) e5]
  rw [bneF e5, cond_false]
  rw [bindR_ok e5] at A0
  rw [rdec hs _ 5 (by omega) _ rfl]
  generalize hr6 : takeI s r5.2.1 = r6 at *
  rcases (Decidable.em (r6.2.2 = 0)).symm with e6 | e6
  · rw [bneE e6, cond_true, decP_bad (A0.trans (bindR_bad e6)) e6]
  rw [bneF e6, cond_false]
  rw [bindR_ok e6] at A0
  rw [show ((((([0, 0, 0, 0, 0, 0] : List Int).set 0 r1.1).set 1 r2.1).set 2 r3.1).set 3 r4.1).set 4 r5.1 = [r1.1, r2.1, r3.1, r4.1, r5.1, 0] from rfl, show ([r1.1, r2.1, r3.1, r4.1, r5.1, 0] : List Int).set 5 r6.1 = [r1.1, r2.1, r3.1, r4.1, r5.1, r6.1] from rfl]
  rw [show ((5 + 1 : Nat) : Int) = ((6 : Nat) : Int) from rfl, rfin, rTakeU s hs]
  rw [Option.bind_some]
  generalize hr7 : takeU s r6.2.1 = r7 at *
  rcases (Decidable.em (r7.2.2 = 0)).symm with e7 | e7
  · rw [bneE e7, cond_true, decP_bad (A0.trans (bindR_bad e7)) e7]
  rw [bneF e7, cond_false]
  rw [bindR_ok e7] at A0
  rw [rTakeT s hs _ 65536 (by omega) (by omega), Option.bind_some]
  have hmost := takeT_most (s := s) (a := r7.2.1)
  generalize hr8 : takeT s r7.2.1 65536 = r8 at *
  rcases (Decidable.em (r8.2.2 = 0)).symm with e8 | e8
  · rw [bneE e8, cond_true, decP_bad (A0.trans (bindR_bad e8)) e8]
  have hda := hmost e8
  rw [bneF e8, cond_false]
  rw [bindR_ok e8] at A0
  cases hk : r3.1 == 1 with
  | false =>
    rw [hk, cond_false] at A0
    have hreg : regularS (r1.1, r2.1, r3.1, r4.1, r5.1, r6.1, r7.1, zeroB, r8.1) = regS (r1.1, r2.1, r3.1, r4.1, r5.1, r6.1, r7.1, zeroB, r8.1) := by
      unfold regularS
      simp only
      rw [hk, cond_false, show dat (r1.1, r2.1, r3.1, r4.1, r5.1, r6.1, r7.1, zeroB, r8.1) = r8.1 from rfl, show bat (r1.1, r2.1, r3.1, r4.1, r5.1, r6.1, r7.1, zeroB, r8.1) = zeroB from rfl, decide_eq_true hda, decide_eq_true rfl, Bool.and_self, Bool.and_true]
    rw [cond_false, rRegular (r1.1, r2.1, r3.1, r4.1, r5.1, r6.1, r7.1, zeroB, r8.1) zero_bat, hreg, decP_fin A0]
    exact fin _ _
  | true =>
    rw [hk, cond_true] at A0
    have hbok := decB_ok (s := s) (a := r8.2.1)
    have hblen := decB_len s r8.2.1
    rw [cond_true, rDecB hs, Option.bind_some]
    generalize hr9 : decB s r8.2.1 = r9 at *
    rcases (Decidable.em (r9.2.2 = 0)).symm with e9 | e9
    · rw [bneE e9, cond_true, decP_bad (A0.trans (bindR_bad e9)) e9]
    rw [bneF e9, cond_false]
    rw [bindR_ok e9] at A0
    have hreg : regularS (r1.1, r2.1, r3.1, r4.1, r5.1, r6.1, r7.1, r9.1, r8.1) = regS (r1.1, r2.1, r3.1, r4.1, r5.1, r6.1, r7.1, r9.1, r8.1) := by
      unfold regularS
      simp only
      rw [hk, cond_true, show dat (r1.1, r2.1, r3.1, r4.1, r5.1, r6.1, r7.1, r9.1, r8.1) = r8.1 from rfl, show bat (r1.1, r2.1, r3.1, r4.1, r5.1, r6.1, r7.1, r9.1, r8.1) = r9.1 from rfl, decide_eq_true hda, hbok e9, Bool.and_self, Bool.and_true]
    rw [rRegular (r1.1, r2.1, r3.1, r4.1, r5.1, r6.1, r7.1, r9.1, r8.1) hblen, hreg, decP_fin A0]
    exact fin _ _
end
theorem decP_bat (s : ByteArray) : BatL (bat (decP s).1) := by
  unfold decP
  rcases (Decidable.em ((decA s).2.2 = 0)).symm with h1 | h1
  · rw [bneE h1]; exact zero_bat
  rw [bneF h1, cond_false]
  cases (decA s).2.1 != (s.size : Int) with
  | true => exact zero_bat
  | false =>
  cases regS (decA s).1 with
  | false => exact zero_bat
  | true =>
    show BatL (bat (decA s).1)
    unfold decA at h1 ⊢
    obtain ⟨_, h, e⟩ := bindR_inv h1
    rw [e]; clear e h1
    obtain ⟨_, h, e⟩ := bindR_inv h
    rw [e]; clear e
    obtain ⟨_, h, e⟩ := bindR_inv h
    rw [e]; clear e
    obtain ⟨_, h, e⟩ := bindR_inv h
    rw [e]; clear e
    obtain ⟨_, h, e⟩ := bindR_inv h
    rw [e]; clear e
    obtain ⟨_, h, e⟩ := bindR_inv h
    rw [e]; clear e
    obtain ⟨_, h, e⟩ := bindR_inv h
    rw [e]; clear e
    obtain ⟨_, h, e⟩ := bindR_inv h
    rw [e]; clear e
    revert h
    generalize (takeT s _ 65536) = rt
    generalize (takeI s _ : Int × Int × Int) = ri
    cases ri.1 == 1 with
    | false => intro _; exact zero_bat
    | true =>
      intro h
      rw [cond_true] at h ⊢
      obtain ⟨_, h, e⟩ := bindR_inv h
      rw [e]
      exact decB_len s _
theorem encodes (p : PacketT) (s : ByteArray) (hp : Fits cPacket p) : law47_LinkEncodes.f p s = some true := by
  rw [law47_LinkEncodes.f_eq, short_eq, Option.bind_some, awake_eq]
  cases h1 : shortS p with
  | false => rfl
  | true =>
    have hF := fit_pkt hp (short_spec h1)
    rw [Bool.not_true, cond_false]
    by_cases h2 : (s.size : Int) > 5000
    · rw [decide_eq_true h2]; rfl
    · have hs : s.size ≤ 100000 := by omega
      rw [decide_eq_false h2, cond_false, wDecP s hs, Option.bind_some, rDecP hs, Option.bind_some, wEncP hF, Option.bind_some, rEncP hF, Option.bind_some, beq_self_eq_true, Bool.not_true, cond_false, samePacket_refl _ (decP_bat s), Option.bind_some, Bool.not_true, cond_false, bne_self_eq_false, cond_false]
      rcases (Decidable.em ((decP s).2 = 0)).symm with h3 | h3
      · rw [bneE h3]; rfl
      · obtain ⟨e1, e2, _⟩ := enc_dec (by omega) h3
        rw [bneF h3, cond_false, wEncP e2, Option.bind_some, e1, beq_self_eq_true]
        rfl
end Go.Proofs.YtpiejdjanhnbeaaGreat

/- The functions, as limits of the evaluator: printed by a program. -/
set_option linter.unusedVariables false
namespace Go.Proofs.YtpiejdjanhnbeaaGreat
open Go Go.Sk

/-- slices.Clone[[]skirmish/api.Packet,skirmish/api.Packet] -/
noncomputable def chk_slices_Clone.f (b : Bool) (s : (List PacketT)) : Option (List PacketT) := callX Tryz.prog cfg0 37 [(.one (.chk b cPacket s))] [] ⟨[.one (.own cPacket)], 0⟩
end Go.Proofs.YtpiejdjanhnbeaaGreat

/- The functions' equations: printed by a program. -/
set_option linter.unusedVariables false
set_option maxRecDepth 100000
set_option maxHeartbeats 4000000
namespace Go.Proofs.YtpiejdjanhnbeaaGreat
open Go Go.Sk

theorem chk_slices_Clone.f_eq (b : Bool) (s : (List PacketT)) : chk_slices_Clone.f b s = (bif (b) then some ([]) else (bif (Decidable.decide ((0 + List.length s) * 120 ≤ 140737488355328)) then some ([] ++ s) else none)) := (lim_step _ _ _ _ _ _).trans (by kernel_rfl)
end Go.Proofs.YtpiejdjanhnbeaaGreat

/- strings.Builder: copyCheck and String, with exact worlds. -/
set_option linter.unusedVariables false
namespace Go.Proofs.YtpiejdjanhnbeaaGreat
open Go Go.Sk Go.Proofs

theorem size64 : (Tryz.prog.info? 64).map (·.size) = some 2 := by kernel_rfl

set_option maxHeartbeats 1000000 in
set_option maxRecDepth 100000 in
theorem copyCheck_used (b : Nat) (w : World) (h0 : w.cell? ⟨b, 0, none⟩ = some (.pointer (some ⟨b, 0, none⟩))) :
    Calls Tryz.prog 49 #[.pointer (some ⟨b, 0, none⟩)] w fun e w' => e = .returned (.tuple #[]) ∧ w' = w := by
  obtain ⟨j, hj, hjs⟩ := Option.map_eq_some_iff.1 size64
  go_enter Tryz.func49, Tryz.ntmps49
  go_wp2
  rw [Lib.run_neq_ptr_same w _ Tryz.underlying61 hj]
  go_wp2
  go_end0
  exact ⟨rfl, rfl⟩

set_option maxHeartbeats 1000000 in
set_option maxRecDepth 100000 in
theorem copyCheck_fresh (b : Nat) (w : World) (h0 : w.cell? ⟨b, 0, none⟩ = some (.pointer none)) (hsh : w.shape? b = some (64, 2)) (hfz : w.frozen? ⟨b, 0, none⟩ = false) :
    Calls Tryz.prog 49 #[.pointer (some ⟨b, 0, none⟩)] w fun e w' => e = .returned (.tuple #[]) ∧ w' = w.setCell ⟨b, 0, none⟩ (.pointer (some ⟨b, 0, none⟩)) := by
  obtain ⟨j, hj, hjs⟩ := Option.map_eq_some_iff.1 size64
  go_enter Tryz.func49, Tryz.ntmps49
  go_wp2
  rw [Lib.run_to_unsafe w ⟨b, 0, none⟩ Tryz.underlying61 Tryz.underlying110 hj (by rw [hjs]; decide) hsh (Nat.zero_lt_succ 1)]
  simp only [Result.andThen]
  rw [Oper.upon_value]
  go_wp2
  rw [run_callFunc_extern Tryz.func67 (by kernel_rfl) (by kernel_rfl) (by kernel_rfl) (e := Extern.AbiNoEscape.same) (by kernel_rfl)]
  rw [Lib.run_noEscape]
  simp only [Result.andThen]
  rw [Oper.upon_value]
  go_wp2
  rw [Lib.run_from_unsafe w ⟨b, 0, none⟩ Tryz.underlying110 Tryz.underlying61 hj hsh (by kernel_rfl)]
  simp only [Result.andThen]
  rw [Oper.upon_value]
  go_wp2
  go_end0
  exact ⟨rfl, rfl⟩

set_option maxHeartbeats 1000000 in
set_option maxRecDepth 100000 in
theorem string_told (xs : List Int) (b g o cap : Nat) (cur : Array Value) (w : World) (h0 : 0 < xs.length) (h63 : xs.length ≤ 9223372036854775807) (hc1 : w.cell? ⟨b, 1, none⟩ = some (.slice (some ⟨g, o, none⟩) xs.length cap)) (hg : w.heap[g]? = some (.cells cur 5 (0, 0)))
    (hcap : xs.length ≤ cap) (hsz : o + cap ≤ cur.size) (hcell : ∀ j x, xs[j]? = some x → w.cell? ((⟨g, o, none⟩ : Addr).add j) = some (.int .u8 x)) :
    Calls Tryz.prog 31 #[.pointer (some ⟨b, 0, none⟩)] w fun e w' => e = .returned (.string (bytesOf xs)) ∧ w' = w.drew.freeze ⟨g, o, none⟩ xs.length := by
  have c1 : w.drew.cell? ⟨b, 1, none⟩ = some (.slice (some ⟨g, o, none⟩) xs.length cap) := hc1
  have hSD : (Builtin.unsafeSliceData_ #[62] 93 #[.slice (some ⟨g, o, none⟩) xs.length cap]).run Tryz.prog w.drew = .ok (.pointer (some ⟨g, o, none⟩)) w.drew :=
    Lib.run_unsafeSliceData_row _ _ _ _ _ _ (by omega)
  have hUS : (Builtin.unsafeString_ #[93, 3] 9 #[.pointer (some ⟨g, o, none⟩), .int .i64 xs.length]).run Tryz.prog w.drew = .ok (.string (bytesOf xs)) (w.drew.freeze ⟨g, o, none⟩ xs.length) :=
    run_unsafeString_rowI w.drew 93 3 9 5 Tryz.underlying93 (by kernel_rfl) g o cur.size (by have hg' : w.drew.heap[g]? = some (.cells cur 5 (0, 0)) := hg; simp [World.shape?, hg']) xs (by intro e; rw [e] at h0; cases h0) (by omega) h63 fun j x hx => hcell j x hx
  clear hcell hcap hsz h63 h0
  have mixed : Tryz.prog.follows Departure.mixedOrders = true := by kernel_rfl
  go_enter Tryz.func31, Tryz.ntmps31
  go_wp2
  go_region_o
  all_goals (go_wp2; go_ret; exact ⟨rfl, rfl⟩)
end Go.Proofs.YtpiejdjanhnbeaaGreat

/-
  DERIVED: THE SHELF's CONTRACTS AT THIS DUMP, IN PLAIN WORDS (tools/lay-plain.mjs out of 'TryShelf.lean', which tools/lay-shelf.mjs wrote): THE SAME DECLARATIONS UNDER THE SAME NAMES: 'import', 'namespace', 'open', 'def', 'theorem' AND NOTHING ELSE: no command of the shelf's: FOR A HAND-IN. Each laying: the table of numbers ('.._ren') and one theorem, a field a fact of the dump's own or the kernel's comparison; each contract: ONE APPLICATION.
-/
namespace Go.Proofs
open Go.Shelf
def Tryz.keysA_ren : Go.Shelf.Ren := ⟨fun | 7 => 41 | 10 => 56 | n => n, fun | 23 => 78 | 26 => 3 | 3 => 27 | 28 => 82 | 0 => 0 | 27 => 81 | 33 => 97 | 4 => 4 | n => n, fun | n => n⟩
theorem Tryz.keysA : Go.Proofs.SlLaysZI.n7 Tryz.prog Tryz.keysA_ren := {
  mixed := by kernel_rfl
  f7 := ⟨Tryz.f41.name, by decide, Tryz.func41.trans (congrArg some (by kernel_rfl))⟩
  f10 := ⟨Tryz.f56.name, by decide, Tryz.func56.trans (congrArg some (by kernel_rfl))⟩
  t0 := Tryz.underlying0
  a0 := Tryz.isAgg0
  z0 := Tryz.sizeOf0
  v0 := Tryz.zeroValue0
  t4 := Tryz.underlying4
  a4 := Tryz.isAgg4
  z4 := Tryz.sizeOf4
  v4 := Tryz.zeroValue4
  t23 := Tryz.underlying78
  a23 := Tryz.isAgg78
  z23 := Tryz.sizeOf78
  v23 := Tryz.zeroValue78
  t26 := Tryz.underlying3
  a26 := Tryz.isAgg3
  z26 := Tryz.sizeOf3
  v26 := Tryz.zeroValue3
  t27 := Tryz.underlying81
  a27 := Tryz.isAgg81
  z27 := Tryz.sizeOf81
  v27 := Tryz.zeroValue81
  t28 := Tryz.underlying82
  a28 := Tryz.isAgg82
  z28 := Tryz.sizeOf82
  v28 := Tryz.zeroValue82
  t33 := Tryz.underlying97
  a33 := Tryz.isAgg97
  z33 := Tryz.sizeOf97
  v33 := Tryz.zeroValue97 }
def Tryz.sortedA_ren : Go.Shelf.Ren := ⟨fun | 6 => 40 | 8 => 54 | 9 => 55 | 11 => 71 | 13 => 73 | 12 => 72 | 23 => 100 | 24 => 101 | 14 => 91 | 15 => 92 | 16 => 93 | 17 => 94 | 18 => 95 | 19 => 96 | 20 => 97 | 21 => 98 | 22 => 99 | 25 => 104 | 26 => 105 | 27 => 106 | 28 => 107 | 29 => 108 | 30 => 109 | 31 => 112 | n => n, fun | 26 => 3 | 28 => 82 | 24 => 36 | 0 => 0 | 3 => 3 | 37 => 84 | 48 => 132 | 50 => 22 | 4 => 4 | 40 => 125 | 39 => 124 | 45 => 129 | 5 => 5 | 9 => 9 | 51 => 135 | 55 => 51 | 57 => 140 | 58 => 141 | 33 => 97 | n => n, fun | n => n⟩
theorem Tryz.sortedA : Go.Proofs.SlLaysZI.n6 Tryz.prog Tryz.sortedA_ren := {
  mixed := by kernel_rfl
  f6 := ⟨Tryz.f40.name, by decide, Tryz.func40.trans (congrArg some (by kernel_rfl))⟩
  f8 := ⟨Tryz.f54.name, by decide, Tryz.func54.trans (congrArg some (by kernel_rfl))⟩
  f11 := ⟨Tryz.f71.name, by decide, Tryz.func71.trans (congrArg some (by kernel_rfl))⟩
  t0 := Tryz.underlying0
  a0 := Tryz.isAgg0
  z0 := Tryz.sizeOf0
  v0 := Tryz.zeroValue0
  t24 := Tryz.underlying36
  a24 := Tryz.isAgg36
  z24 := Tryz.sizeOf36
  v24 := Tryz.zeroValue36
  t26 := Tryz.underlying3
  a26 := Tryz.isAgg3
  z26 := Tryz.sizeOf3
  v26 := Tryz.zeroValue3
  t28 := Tryz.underlying82
  a28 := Tryz.isAgg82
  z28 := Tryz.sizeOf82
  v28 := Tryz.zeroValue82
  i26 := by kernel_rfl }
def Tryz.sortA_ren : Go.Shelf.Ren := ⟨fun | 5 => 55 | 8 => 73 | 7 => 72 | 19 => 100 | 20 => 101 | 10 => 91 | 11 => 92 | 12 => 93 | 13 => 94 | 14 => 95 | 15 => 96 | 16 => 97 | 17 => 98 | 18 => 99 | 30 => 104 | 31 => 105 | 32 => 106 | 33 => 107 | 34 => 108 | 35 => 109 | 40 => 112 | n => n, fun | 23 => 36 | 25 => 3 | 3 => 3 | 32 => 84 | 22 => 36 | 0 => 0 | 44 => 132 | 46 => 22 | 4 => 4 | 36 => 125 | 35 => 124 | 41 => 129 | 5 => 5 | 9 => 9 | 53 => 135 | 57 => 51 | 63 => 140 | 64 => 141 | n => n, fun | n => n⟩
theorem Tryz.sortA : Go.Proofs.SlLaysM.n5 Tryz.prog Tryz.sortA_ren := {
  mixed := by kernel_rfl
  f5 := ⟨Tryz.f55.name, by decide, Tryz.func55.trans (congrArg some (by kernel_rfl))⟩
  f7 := ⟨Tryz.f72.name, by decide, Tryz.func72.trans (congrArg some (by kernel_rfl))⟩
  f8 := Tryz.func73.trans (congrArg some (by kernel_rfl))
  f10 := ⟨Tryz.f91.name, by decide, Tryz.func91.trans (congrArg some (by kernel_rfl))⟩
  f11 := ⟨Tryz.f92.name, by decide, Tryz.func92.trans (congrArg some (by kernel_rfl))⟩
  f12 := ⟨Tryz.f93.name, by decide, Tryz.func93.trans (congrArg some (by kernel_rfl))⟩
  f13 := ⟨Tryz.f94.name, by decide, Tryz.func94.trans (congrArg some (by kernel_rfl))⟩
  f14 := ⟨Tryz.f95.name, by decide, Tryz.func95.trans (congrArg some (by kernel_rfl))⟩
  f15 := ⟨Tryz.f96.name, by decide, Tryz.func96.trans (congrArg some (by kernel_rfl))⟩
  f16 := ⟨Tryz.f97.name, by decide, Tryz.func97.trans (congrArg some (by kernel_rfl))⟩
  f17 := ⟨Tryz.f98.name, by decide, Tryz.func98.trans (congrArg some (by kernel_rfl))⟩
  f18 := ⟨Tryz.f99.name, by decide, Tryz.func99.trans (congrArg some (by kernel_rfl))⟩
  f19 := Tryz.func100.trans (congrArg some (by kernel_rfl))
  f20 := Tryz.func101.trans (congrArg some (by kernel_rfl))
  f30 := ⟨Tryz.f104.name, by decide, Tryz.func104.trans (congrArg some (by kernel_rfl))⟩
  f31 := Tryz.func105.trans (congrArg some (by kernel_rfl))
  f32 := Tryz.func106.trans (congrArg some (by kernel_rfl))
  f33 := ⟨Tryz.f107.name, by decide, Tryz.func107.trans (congrArg some (by kernel_rfl))⟩
  f34 := ⟨Tryz.f108.name, by decide, Tryz.func108.trans (congrArg some (by kernel_rfl))⟩
  f35 := ⟨Tryz.f109.name, by decide, Tryz.func109.trans (congrArg some (by kernel_rfl))⟩
  f40 := ⟨Tryz.f112.name, by decide, Tryz.func112.trans (congrArg some (by kernel_rfl))⟩
  t0 := Tryz.underlying0
  a0 := Tryz.isAgg0
  z0 := Tryz.sizeOf0
  v0 := Tryz.zeroValue0
  t3 := Tryz.underlying3
  a3 := Tryz.isAgg3
  z3 := Tryz.sizeOf3
  v3 := Tryz.zeroValue3
  t4 := Tryz.underlying4
  a4 := Tryz.isAgg4
  z4 := Tryz.sizeOf4
  v4 := Tryz.zeroValue4
  t5 := Tryz.underlying5
  a5 := Tryz.isAgg5
  z5 := Tryz.sizeOf5
  v5 := Tryz.zeroValue5
  t9 := Tryz.underlying9
  a9 := Tryz.isAgg9
  z9 := Tryz.sizeOf9
  v9 := Tryz.zeroValue9
  t22 := Tryz.underlying36
  a22 := Tryz.isAgg36
  z22 := Tryz.sizeOf36
  v22 := Tryz.zeroValue36
  t23 := Tryz.underlying36
  a23 := Tryz.isAgg36
  z23 := Tryz.sizeOf36
  v23 := Tryz.zeroValue36
  t25 := Tryz.underlying3
  a25 := Tryz.isAgg3
  z25 := Tryz.sizeOf3
  v25 := Tryz.zeroValue3
  t32 := Tryz.underlying84
  a32 := Tryz.isAgg84
  z32 := Tryz.sizeOf84
  v32 := Tryz.zeroValue84
  t35 := Tryz.underlying124
  a35 := Tryz.isAgg124
  z35 := Tryz.sizeOf124
  v35 := Tryz.zeroValue124
  t36 := Tryz.underlying125
  a36 := Tryz.isAgg125
  z36 := Tryz.sizeOf125
  v36 := Tryz.zeroValue125
  t41 := Tryz.underlying129
  a41 := Tryz.isAgg129
  z41 := Tryz.sizeOf129
  v41 := Tryz.zeroValue129
  t44 := Tryz.underlying132
  a44 := Tryz.isAgg132
  z44 := Tryz.sizeOf132
  v44 := Tryz.zeroValue132
  t46 := Tryz.underlying22
  a46 := Tryz.isAgg22
  z46 := Tryz.sizeOf22
  v46 := Tryz.zeroValue22
  t53 := Tryz.underlying135
  a53 := Tryz.isAgg135
  z53 := Tryz.sizeOf135
  v53 := Tryz.zeroValue135
  t57 := Tryz.underlying51
  a57 := Tryz.isAgg51
  z57 := Tryz.sizeOf51
  v57 := Tryz.zeroValue51
  t63 := Tryz.underlying140
  a63 := Tryz.isAgg140
  z63 := Tryz.sizeOf140
  v63 := Tryz.zeroValue140
  t64 := Tryz.underlying141
  a64 := Tryz.isAgg141
  z64 := Tryz.sizeOf141
  v64 := Tryz.zeroValue141 }
end Go.Proofs

/- slices.Sorted and maps.Keys: what is told of them is so. -/
set_option linter.unusedSimpArgs false
set_option linter.unusedVariables false
namespace Go.Proofs.YtpiejdjanhnbeaaGreat
open Go Go.RowKit Go.Maps Go.Sort Go.Shelf Go.Proofs

theorem sortsA (m : Nat) : AnyZI.SortsIn Tryz.prog Tryz.sortedA_ren Fence.wide m :=
  ⟨fun blk off cap ss W hH hblk hsz => callsIn_wide.2 (AnyM.slices_Sort_int Tryz.sortA blk off cap ss W hH hblk hsz),
   fun p cap W => callsIn_wide.2 (AnyM.slices_Sort_int_none Tryz.sortA p cap W)⟩

theorem sortsKeys : Go.Sk.SortsKeys Tryz.prog 40 56 3 3 := by
  intro B r n D R w hc hown hb
  have hseq : SeqGives Fence.wide 2 Tryz.prog 56 #[.pointer (some ⟨B, 0, none⟩)] encZ (fun ss => ss.Perm (intKeys D)) (Maps.size D) w :=
    AnyZI.keys_gives (ρ := Tryz.keysA_ren) { Tryz.keysA with } Fence.wide _ trivial rfl (by omega) B r n D w (World.block_lt_of_cell? w _ hc) hc hown
  have cS := AnyZI.sorted_in Tryz.sortedA Fence.wide 5 trivial trivial trivial trivial rfl (by omega) (sortsA _) (enters_of Tryz.func55 (by kernel_rfl) rfl) 56 #[.pointer (some ⟨B, 0, none⟩)] trivial (enters_of Tryz.func56 (by kernel_rfl) rfl) _ _ (by unfold maxLen; omega) hb _ hseq
  exact callsIn_wide.1 cS

theorem makesKeys : Go.Sk.MakerFn Tryz.prog 41 56 := by
  refine ⟨⟨_, _, Tryz.func41, rfl, by kernel_rfl⟩, 78, fun u w hu => ?_⟩
  refine (callsIn_wide (n := 5)).1 (callsIn_of_wp Tryz.func41 rfl trivial ?_ rfl)
  simp only [Tryz.ntmps41, List.size_toArray, List.length_cons, List.length_nil, Nat.reduceAdd, Nat.reduceSub, Array.replicate_succ, Array.replicate_zero, List.push_toArray, List.append_toArray, List.nil_append, List.cons_append]
  gi_wp2
  go_ret
  exact ⟨rfl, rfl⟩
end Go.Proofs.YtpiejdjanhnbeaaGreat

/- What is told of functions is so. -/
set_option maxHeartbeats 4000000
set_option maxRecDepth 100000
namespace Go.Proofs.YtpiejdjanhnbeaaGreat
open Go Go.Sk
theorem apart_fns (g : FuncId) (h : refB g = .apart) : ApartFn Tryz.prog g := by
  unfold refB at h
  split at h <;> cases h
theorem maker_fns (g g' : FuncId) (h : refB g = .maker g') : MakerFn Tryz.prog g g' := by
  unfold refB at h
  split at h <;> first | (cases h; done) | skip
  cases h
  exact makesKeys
theorem prim_ok0 : PrimOk Tryz.prog cfg0 := ⟨fun g vs m ρ x h => (by cases h), apart_fns, maker_fns⟩
theorem clone_out {α : Type} (b : Bool) (xs : List α) (k : Nat) (hb : b = true → xs = []) (hg : xs.length * k ≤ 140737488355328) : (bif b then some [] else (bif decide ((0 + xs.length) * k ≤ 140737488355328) then some ([] ++ xs) else none)) = some xs := by
  cases b with
  | true => rw [hb rfl]; rfl
  | false => rw [Nat.zero_add, decide_eq_true hg]; rfl
theorem prim_ok : PrimOk Tryz.prog cfg := by
  refine ⟨fun g vs m ρ x h => ?_, apart_fns, maker_fns⟩
  unfold cfg at h
  simp only [primB] at h
  split at h
  · refine ⟨clonePrim_spec (fun b xs hb hg => ?_) h, _, _, Tryz.func37, rfl, by kernel_rfl⟩
    have e : callF Tryz.prog cfg0 37 [.one (.chk b cPacket xs)] [] ⟨[.one (.own cPacket)], 0⟩ = some xs := (chk_slices_Clone.f_eq b xs).trans (clone_out b xs 120 hb hg)
    exact (callF_sound (C := cfg0) (by kernel_rfl) (by kernel_rfl) prim_ok0 e).1
  · exact ⟨intKeysPrim_spec (k := 3) (T := 3) Tryz.underlying3 sortsKeys h, _, _, Tryz.func40, rfl, by kernel_rfl⟩
  · exact ⟨selfPrim_spec copyCheck_used copyCheck_fresh (by kernel_rfl) (fun xs => by kernel_rfl) h, _, _, Tryz.func49, rfl, by kernel_rfl⟩
  · exact ⟨textPrim_spec (fun xs b gg o cap cur w h0 h1 h2 h3 h4 h5 h6 => string_told xs b gg o cap cur w h0 h1 h2 h3 h4 h5 h6) h, _, _, Tryz.func31, rfl, by kernel_rfl⟩
  · cases h
end Go.Proofs.YtpiejdjanhnbeaaGreat
