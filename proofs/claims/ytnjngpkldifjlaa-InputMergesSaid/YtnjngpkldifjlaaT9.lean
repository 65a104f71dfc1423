/- The functions' equations, all parts. -/
import Derived.Test.YtnjngpkldifjlaaT6
import Derived.Test.YtnjngpkldifjlaaT7
import Derived.Test.YtnjngpkldifjlaaT8
import Derived.Test.YtnjngpkldifjlaaT4
import Derived.Test.YtnjngpkldifjlaaT5
import Derived.KernelRfl
import Derived.Test.YtnjngpkldifjlaaProg
import Derived.Shelf.Strings.Builder1
import Derived.Tactics
import Derived.Tactics2
import Derived.WalkKit


/- Numbers, texts and truth values as bytes: the program's and the answer's. -/
set_option linter.unusedVariables false
set_option linter.unusedSimpArgs false
set_option maxHeartbeats 4000000
namespace Go.Proofs.Ytnjngpkldifjlaa
open Go Go.Sk

/-! ### Uint -/
theorem tmod128 (n : Nat) : Int.tmod (n : Int) 128 = ((n % 128 : Nat) : Int) := tmod_nat n 128
theorem tdiv128 (n : Nat) : Int.tdiv (n : Int) 128 = ((n / 128 : Nat) : Int) := tdiv_nat n 128
theorem byte_w (n : Nat) : IntKind.u8.wrap (IntKind.u8.wrap (Int.tmod (n : Int) 128) + 128) = ((128 + n % 128 : Nat) : Int) := by
  rw [tmod128, wrap_u8, wrap_u8]; omega
theorem byte_r (n : Nat) : IntKind.u8.wrap (IntKind.u64.wrap (128 + Int.tmod (n : Int) 128)) = ((128 + n % 128 : Nat) : Int) := by
  rw [tmod128, wrap_u8, wrap_u64]; omega
theorem half (n : Nat) (h : n < 18446744073709551616) : IntKind.u64.wrap (Int.tdiv (n : Int) 128) = ((n / 128 : Nat) : Int) := by
  rw [tdiv128, u64_nat (by omega)]
abbrev ints (l : List Nat) : List Int := l.map fun n : Nat => (n : Int)
theorem wUint_j (n : Nat) : ∀ (o : List Int), n < 18446744073709551616 → o.length + (uvL n).length ≤ 1000 → wire_Uint.j0 (n : Int) o = some (bytesOf (o ++ ints (uvL n))) := by
  induction n using Nat.strongRecOn with
  | ind n ih =>
    intro o hn hl
    rw [wire_Uint.j0_eq]
    by_cases h : n < 128
    · rw [uvL_small h] at hl ⊢
      simp only [List.length_singleton] at hl
      rw [decide_eq_false (show ¬ (n : Int) ≥ 128 by omega), cond_false, u8_nat (by omega)]
      simp only [Int.toNat_natCast, List.take_length, List.drop_zero, List.length_singleton, Int.le_refl, decide_true, Bool.and_true, cond_dec, ← Bool.decide_and]
      rw [if_pos (by omega), show (decide (o.length = 0) || decide (0 < 1)) = true by simp, Bool.true_and, cond_dec, if_pos (by omega)]
      rfl
    · rw [uvL_big h] at hl ⊢
      simp only [List.length_cons] at hl
      rw [decide_eq_true (show (n : Int) ≥ 128 by omega), cond_true, byte_w, half n hn, List.length_singleton, cond_dec, if_pos (by omega), ih (n / 128) (by omega) _ (by omega) (by simp; omega)]
      simp [ints]
theorem wUint (n : Nat) (h : n < 18446744073709551616) : wire_Uint.f (n : Int) = some (uvT n) := by
  have := uvL_len10 h
  rw [wire_Uint.f_eq, wUint_j n [] h (by simp; omega), List.nil_append, txt_bytes]
  rfl
theorem rUint_j (n : Nat) : ∀ (s : ByteArray), n < 18446744073709551616 → s.size + (uvL n).length ≤ 1000 → ref04_Uint.j0 (n : Int) s = some (s ++ uvT n) := by
  induction n using Nat.strongRecOn with
  | ind n ih =>
    intro s hn hl
    rw [ref04_Uint.j0_eq]
    by_cases h : n < 128
    · unfold uvT
      rw [uvL_small h] at hl ⊢
      simp only [List.length_singleton] at hl
      rw [decide_eq_false (show ¬ (n : Int) ≥ 128 by omega), cond_false, u8_nat (by omega), show [(n : Int)] = ints [n] from rfl, txt_bytes, txt_size, cond_dec, List.length_singleton, if_pos (by omega)]
    · unfold uvT
      rw [uvL_big h] at hl ⊢
      simp only [List.length_cons] at hl
      rw [decide_eq_true (show (n : Int) ≥ 128 by omega), cond_true, byte_r, half n hn, show [((128 + n % 128 : Nat) : Int)] = ints [128 + n % 128] from rfl, txt_bytes, txt_size, cond_dec, List.length_singleton, if_pos (by omega),
        ih (n / 128) (by omega) _ (by omega) (by rw [ByteArray.size_append, txt_size, List.length_singleton]; omega)]
      unfold uvT
      rw [ByteArray.append_assoc, txt_append]
      rfl
theorem rUint (n : Nat) (h : n < 18446744073709551616) : ref04_Uint.f (n : Int) = some (uvT n) := by
  have := uvL_len10 h
  rw [ref04_Uint.f_eq, rUint_j n _ h (by rw [size_zero.1 rfl]; omega)]
  congr 1
/-! ### Int -/
def ivT (n : Int) : ByteArray := uvT (zz n)
theorem wInt (n : Int) (h : I64 n) : wire_Int.f n = some (ivT n) := by
  rw [wire_Int.f_eq, zz_prog h, wUint _ (zz_lt h)]
  rfl
theorem rInt (n : Int) (h : I64 n) : ref04_Int.f n = some (ivT n) := by
  rw [ref04_Int.f_eq]
  have e := zz_ref h
  cases hn : decide (n < 0) with
  | true => rw [hn, cond_true] at e; rw [cond_true, e, rUint _ (zz_lt h)]; rfl
  | false => rw [hn, cond_false] at e; rw [cond_false, e, rUint _ (zz_lt h)]; rfl
theorem ivT_size {n : Int} (h : I64 n) : (ivT n).size ≤ 10 := by
  unfold ivT uvT
  rw [txt_size]
  exact uvL_len10 (zz_lt h)
theorem ivT_pos (n : Int) : 0 < (ivT n).size := by
  unfold ivT uvT
  rw [txt_size]
  exact uvL_pos _
/-! ### TakeUint -/
theorem at_in {a k N : Nat} (h : a + k ≤ N) (hN : N ≤ 1000000) : IntKind.i64.wrap ((a : Int) + (k : Int)) = ((a + k : Nat) : Int) := by
  rw [wr_in (by omega) (by omega)]; rfl
theorem drop_get (l : List Nat) (p : Nat) (h : p < l.length) : l.drop p = l[p] :: l.drop (p + 1) := List.drop_eq_getElem_cons h
theorem k9 (k : Nat) : ((k : Int) == 9) = decide (k = 9) := by
  rw [beq_dec]; congr 1; apply propext; omega
theorem c0 (c : Nat) : ((c : Int) == 0) = decide (c = 0) := by
  rw [beq_dec]; congr 1; apply propext; omega
theorem mul_small {c k : Nat} (hk : k ≤ 9) (h : ¬ (k = 9 ∧ 1 < c)) : (c % 128) * 2 ^ (7 * k) < 18446744073709551616 := by
  rcases Nat.lt_or_ge k 9 with h5 | h5
  · have h6 : 2 ^ (7 * k) ≤ 2 ^ (7 * 8) := Nat.pow_le_pow_right (by omega) (by omega)
    have h7 : (c % 128) * 2 ^ (7 * k) ≤ 127 * 2 ^ (7 * 8) := Nat.mul_le_mul (by omega) h6
    have h8 : (2 : Nat) ^ (7 * 8) = 72057594037927936 := rfl
    omega
  · have h6 : k = 9 := by omega
    subst h6
    have h7 : (2 : Nat) ^ (7 * 9) = 9223372036854775808 := rfl
    rw [h7]
    omega
theorem next_small {n c k : Nat} (hn : n < 2 ^ (7 * k)) : n + (c % 128) * 2 ^ (7 * k) < 2 ^ (7 * (k + 1)) := by
  have h1 : 2 ^ (7 * (k + 1)) = 128 * 2 ^ (7 * k) := by rw [show 7 * (k + 1) = 7 * k + 7 by omega, Nat.pow_add, Nat.mul_comm]
  have h2 : (c % 128) * 2 ^ (7 * k) ≤ 127 * 2 ^ (7 * k) := Nat.mul_le_mul_right _ (by omega)
  omega
theorem lt64 {n k : Nat} (hk : k ≤ 9) (hn : n < 2 ^ (7 * k)) : n < 18446744073709551616 := by
  have h6 : 2 ^ (7 * k) ≤ 2 ^ (7 * 9) := Nat.pow_le_pow_right (by omega) (by omega)
  have h7 : (2 : Nat) ^ (7 * 9) = 9223372036854775808 := rfl
  omega
theorem wTake_j (s : ByteArray) (hs : s.size ≤ 100000) (a : Nat) : ∀ (m k n : Nat), k + m = 10 → a + k ≤ s.size → n < 2 ^ (7 * k) → wire_TakeUint.j0 s a n k = some (tkB ((bts s).drop (a + k)) n k (a + k)) := by
  intro m
  induction m with
  | zero =>
    intro k n hk ha hn
    obtain rfl : k = 10 := by omega
    rw [wire_TakeUint.j0_eq]
    cases (bts s).drop (a + 10) with
    | nil => rfl
    | cons c r => rfl
  | succ m ih =>
    intro k n hk ha hn
    rw [wire_TakeUint.j0_eq, decide_eq_true (show (k : Int) < 10 by omega), cond_true, at_in ha (by omega)]
    rcases Nat.lt_or_ge (a + k) s.size with hlt | hge
    · have hlt' : a + k < (bts s).length := by rw [bts_len]; exact hlt
      rw [decide_eq_false (show ¬ ((a + k : Nat) : Int) ≥ (s.size : Int) by omega), cond_false, byteAt_bts s _ hlt', Option.bind_some, drop_get _ _ hlt']
      generalize hce : (bts s)[a + k] = c
      have hc : c < 256 := by rw [← hce]; exact bts_lt s _ (List.getElem_mem _)
      have e1 : decide (0 ≤ IntKind.i64.wrap (7 * (k : Int))) = true := by rw [wr_in (by omega) (by omega)]; exact decide_eq_true (by omega)
      have e2 : IntKind.i64.wrap (((a + k : Nat) : Int) + 1) = ((a + k + 1 : Nat) : Int) := wr_succ hlt (by omega)
      have e3 : IntKind.i64.wrap ((k : Int) + 1) = ((k + 1 : Nat) : Int) := wr_succ (n := 10) (by omega) (by omega)
      rw [k9, tmod128, u64_nat (n := c % 128) (by omega), pow7 (k := k) (by omega), e1, e2, e3, c0]
      unfold tkB
      rw [if_neg (by omega)]
      by_cases hB : k = 9 ∧ 1 < c
      · rw [if_pos hB, decide_eq_true hB.1, cond_true, decide_eq_true (show (c : Int) > 1 by omega), cond_true]
      · rw [if_neg hB, or_add hn (mul_small (by omega) hB) (lt64 (by omega) hn)]
        have hrest : wire_TakeUint.j0 s a ((n + c % 128 * 2 ^ (7 * k) : Nat) : Int) ((k + 1 : Nat) : Int) = some (tkB ((bts s).drop (a + k + 1)) (n + c % 128 * 2 ^ (7 * k)) (k + 1) (a + k + 1)) :=
          ih (k + 1) _ (by omega) (by omega) (next_small hn)
        rw [hrest]
        by_cases hk9 : k = 9
        · have hc1 : c ≤ 1 := by omega
          rw [decide_eq_true hk9, cond_true, decide_eq_false (show ¬ (c : Int) > 1 by omega), cond_false, cond_true, decide_eq_true (show (c : Int) < 128 by omega), cond_true, if_pos (show c < 128 by omega), show c % 128 = c by omega]
          by_cases h0 : c = 0
          · rw [decide_eq_true h0, cond_true, decide_eq_true (show (k : Int) > 0 by omega), cond_true, if_pos (show c = 0 ∧ 0 < k by omega)]
          · rw [decide_eq_false h0, cond_false, if_neg (show ¬ (c = 0 ∧ 0 < k) by omega)]
        · rw [decide_eq_false hk9, cond_false, cond_true]
          by_cases h1 : c < 128
          · rw [decide_eq_true (show (c : Int) < 128 by omega), cond_true, if_pos h1, show c % 128 = c by omega]
            by_cases h0 : c = 0
            · rw [decide_eq_true h0, cond_true]
              by_cases hk0 : 0 < k
              · rw [decide_eq_true (show (k : Int) > 0 by omega), cond_true, if_pos ⟨h0, hk0⟩]
              · rw [decide_eq_false (show ¬ (k : Int) > 0 by omega), cond_false, if_neg (show ¬ (c = 0 ∧ 0 < k) by omega)]
            · rw [decide_eq_false h0, cond_false, if_neg (show ¬ (c = 0 ∧ 0 < k) by omega)]
          · rw [decide_eq_false (show ¬ (c : Int) < 128 by omega), cond_false, if_neg h1]
    · rw [decide_eq_true (show ((a + k : Nat) : Int) ≥ (s.size : Int) by omega), cond_true, List.drop_of_length_le (by rw [bts_len]; omega)]
      unfold tkB
      rw [if_pos (by omega)]
theorem rTake_j (s : ByteArray) (hs : s.size ≤ 100000) (a : Nat) : ∀ (m k n : Nat), k + m = 10 → a + k ≤ s.size → n < 2 ^ (7 * k) → ref04_TakeUint.j0 s a n k = some (tkB ((bts s).drop (a + k)) n k (a + k)) := by
  intro m
  induction m with
  | zero =>
    intro k n hk ha hn
    obtain rfl : k = 10 := by omega
    rw [ref04_TakeUint.j0_eq]
    cases (bts s).drop (a + 10) with
    | nil => rfl
    | cons c r => rfl
  | succ m ih =>
    intro k n hk ha hn
    rw [ref04_TakeUint.j0_eq, decide_eq_true (show (k : Int) < 10 by omega), cond_true, at_in ha (by omega)]
    rcases Nat.lt_or_ge (a + k) s.size with hlt | hge
    · have hlt' : a + k < (bts s).length := by rw [bts_len]; exact hlt
      rw [decide_eq_false (show ¬ ((a + k : Nat) : Int) ≥ (s.size : Int) by omega), cond_false, byteAt_bts s _ hlt', Option.bind_some, drop_get _ _ hlt']
      generalize hce : (bts s)[a + k] = c
      have hc : c < 256 := by rw [← hce]; exact bts_lt s _ (List.getElem_mem _)
      have e0 : IntKind.u64.wrap (IntKind.i64.wrap (7 * (k : Int))) = IntKind.i64.wrap (7 * (k : Int)) := by rw [wr_in (by omega) (by omega), wrap_u64]; omega
      have e1 : decide (0 ≤ IntKind.i64.wrap (7 * (k : Int))) = true := by rw [wr_in (by omega) (by omega)]; exact decide_eq_true (by omega)
      have e2 : IntKind.i64.wrap (((a + k : Nat) : Int) + 1) = ((a + k + 1 : Nat) : Int) := wr_succ hlt (by omega)
      have e3 : IntKind.i64.wrap ((k : Int) + 1) = ((k + 1 : Nat) : Int) := wr_succ (n := 10) (by omega) (by omega)
      rw [k9, e0, and127 hc, u64_nat (n := c % 128) (by omega), pow7 (k := k) (by omega), e1, e2, e3, c0]
      unfold tkB
      rw [if_neg (by omega)]
      by_cases hB : k = 9 ∧ 1 < c
      · rw [if_pos hB, decide_eq_true hB.1, cond_true, decide_eq_true (show (c : Int) > 1 by omega), cond_true]
      · rw [if_neg hB, or_add hn (mul_small (by omega) hB) (lt64 (by omega) hn)]
        have hrest : ref04_TakeUint.j0 s a ((n + c % 128 * 2 ^ (7 * k) : Nat) : Int) ((k + 1 : Nat) : Int) = some (tkB ((bts s).drop (a + k + 1)) (n + c % 128 * 2 ^ (7 * k)) (k + 1) (a + k + 1)) :=
          ih (k + 1) _ (by omega) (by omega) (next_small hn)
        rw [hrest]
        by_cases hk9 : k = 9
        · have hc1 : c ≤ 1 := by omega
          rw [decide_eq_true hk9, cond_true, decide_eq_false (show ¬ (c : Int) > 1 by omega), cond_false, cond_true, decide_eq_false (show ¬ (c : Int) ≥ 128 by omega), cond_false, if_pos (show c < 128 by omega), show c % 128 = c by omega]
          by_cases h0 : c = 0
          · rw [decide_eq_true h0, cond_true, decide_eq_true (show (k : Int) > 0 by omega), cond_true, if_pos (show c = 0 ∧ 0 < k by omega)]
          · rw [decide_eq_false h0, cond_false, if_neg (show ¬ (c = 0 ∧ 0 < k) by omega)]
        · rw [decide_eq_false hk9, cond_false, cond_true]
          by_cases h1 : c < 128
          · rw [decide_eq_false (show ¬ (c : Int) ≥ 128 by omega), cond_false, if_pos h1, show c % 128 = c by omega]
            by_cases h0 : c = 0
            · rw [decide_eq_true h0, cond_true]
              by_cases hk0 : 0 < k
              · rw [decide_eq_true (show (k : Int) > 0 by omega), cond_true, if_pos ⟨h0, hk0⟩]
              · rw [decide_eq_false (show ¬ (k : Int) > 0 by omega), cond_false, if_neg (show ¬ (c = 0 ∧ 0 < k) by omega)]
            · rw [decide_eq_false h0, cond_false, if_neg (show ¬ (c = 0 ∧ 0 < k) by omega)]
          · rw [decide_eq_true (show (c : Int) ≥ 128 by omega), cond_true, if_neg h1]
    · rw [decide_eq_true (show ((a + k : Nat) : Int) ≥ (s.size : Int) by omega), cond_true, List.drop_of_length_le (by rw [bts_len]; omega)]
      unfold tkB
      rw [if_pos (by omega)]
theorem wTakeU (s : ByteArray) (hs : s.size ≤ 100000) (a : Int) : wire_TakeUint.f s a = some (takeU s a) := by
  rw [wire_TakeUint.f_eq]
  unfold takeU
  rw [cond_dec, cond_dec]
  by_cases h0 : a < 0
  · rw [if_pos h0, if_pos h0]
  · rw [if_neg h0, if_neg h0]
    by_cases h1 : a > s.size
    · rw [if_pos h1, if_pos h1]
    · rw [if_neg h1, if_neg h1]
      obtain ⟨k, rfl⟩ : ∃ k : Nat, a = k := ⟨a.toNat, by omega⟩
      exact wTake_j s hs k 10 0 0 rfl (by omega) (by decide)
theorem rTakeU (s : ByteArray) (hs : s.size ≤ 100000) (a : Int) : ref04_TakeUint.f s a = some (takeU s a) := by
  rw [ref04_TakeUint.f_eq]
  unfold takeU
  rw [cond_dec, cond_dec]
  by_cases h0 : a < 0
  · rw [if_pos h0, if_pos h0]
  · rw [if_neg h0, if_neg h0]
    by_cases h1 : a > s.size
    · rw [if_pos h1, if_pos h1]
    · rw [if_neg h1, if_neg h1]
      obtain ⟨k, rfl⟩ : ∃ k : Nat, a = k := ⟨a.toNat, by omega⟩
      exact rTake_j s hs k 10 0 0 rfl (by omega) (by decide)
theorem takeU_fst (s : ByteArray) (a : Int) : ∃ u : Nat, (takeU s a).1 = u ∧ u < 18446744073709551616 := by
  unfold takeU
  split
  · exact ⟨0, rfl, by omega⟩
  split
  · exact ⟨0, rfl, by omega⟩
  exact tkB_fst _ _ _ _ (fun c hc => bts_lt s c (List.mem_of_mem_drop hc)) (by decide)
theorem takeU_snd (s : ByteArray) (a : Int) : ∃ q : Nat, (takeU s a).2.1 = q ∧ q ≤ s.size ∧ ((takeU s a).2.2 = 0 → 0 ≤ a ∧ a < q) := by
  unfold takeU
  split
  · exact ⟨0, rfl, by omega, fun h => by cases h⟩
  split
  · exact ⟨0, rfl, by omega, fun h => by cases h⟩
  obtain ⟨q, h1, h2, h3⟩ := tkB_snd ((bts s).drop a.toNat) 0 0 a.toNat
  refine ⟨q, h1, ?_, fun h => ?_⟩
  · rw [List.length_drop, bts_len] at h2
    omega
  · have := h3 h
    omega
/-- a number that stands there is read -/
theorem takeU_at (x y : ByteArray) (n : Nat) (hn : n < 18446744073709551616) : takeU (x ++ uvT n ++ y) x.size = ((n : Int), ((x.size + (uvT n).size : Nat) : Int), 0) := by
  have hb : (bts (x ++ uvT n ++ y)).drop x.size = uvL n ++ bts y := by
    rw [bts_append, bts_append, List.append_assoc, List.drop_left' (bts_len x)]
    unfold uvT
    rw [bts_txt (uvL_lt n)]
  unfold takeU
  rw [if_neg (by omega), if_neg (by rw [ByteArray.size_append, ByteArray.size_append]; omega), Int.toNat_natCast, hb, tkB_uv (bts y) n 0 0 x.size (by simpa using hn) (by omega)]
  simp [uvT, txt_size]
end Go.Proofs.Ytnjngpkldifjlaa

/- Reading: numbers with a sign, counts, texts, truth values, commands. -/
set_option linter.unusedVariables false
set_option linter.unusedSimpArgs false
set_option maxHeartbeats 4000000
namespace Go.Proofs.Ytnjngpkldifjlaa
open Go Go.Sk

/-! ### TakeInt -/
def takeI (s : ByteArray) (a : Int) : Int × Int × Int := if (takeU s a).2.2 ≠ 0 then (0, 0, (takeU s a).2.2) else (unzz (takeU s a).1.toNat, (takeU s a).2.1, 0)
theorem bne0 (e : Int) : (e != 0) = decide (e ≠ 0) := by
  rw [bne_dec]; by_cases h : e = 0 <;> simp [h]
theorem wTakeI (s : ByteArray) (hs : s.size ≤ 100000) (a : Int) : wire_TakeInt.f s a = some (takeI s a) := by
  rw [wire_TakeInt.f_eq, wTakeU s hs a, Option.bind_some, bne0, cond_dec]
  obtain ⟨u, h1, h2⟩ := takeU_fst s a
  unfold takeI
  split
  · rfl
  · rw [h1, unzz_prog h2]
    rfl
theorem rTakeI (s : ByteArray) (hs : s.size ≤ 100000) (a : Int) : ref04_TakeInt.f s a = some (takeI s a) := by
  rw [ref04_TakeInt.f_eq, rTakeU s hs a, Option.bind_some, bne0, cond_dec]
  obtain ⟨u, h1, h2⟩ := takeU_fst s a
  unfold takeI
  split
  · rfl
  · have e := unzz_ref h2
    rw [h1]
    cases ho : (Int.tmod (u : Int) 2 == 1) with
    | true => rw [ho, cond_true] at e; rw [cond_true, e]; rfl
    | false => rw [ho, cond_false] at e; rw [cond_false, e]; rfl
theorem takeI_in (s : ByteArray) (a : Int) : I64 (takeI s a).1 := by
  obtain ⟨u, h1, h2⟩ := takeU_fst s a
  unfold takeI
  split
  · exact (show I64 0 from ⟨by decide, by decide⟩)
  · rw [h1]; exact unzz_in h2
theorem takeI_bad {s : ByteArray} {a : Int} (h : (takeI s a).2.2 ≠ 0) : takeI s a = (0, 0, (takeI s a).2.2) := by
  unfold takeI at h ⊢
  split at h
  · rename_i h1; rw [if_pos h1]
  · exact absurd rfl h
theorem takeI_next {s : ByteArray} {a : Int} : 0 ≤ (takeI s a).2.1 ∧ (takeI s a).2.1 ≤ s.size := by
  obtain ⟨q, h1, h2, h3⟩ := takeU_snd s a
  unfold takeI
  split
  · exact ⟨by simp, by simp⟩
  · rw [h1]; exact ⟨by omega, by simpa using h2⟩
theorem takeI_at (x y : ByteArray) (n : Int) (hn : I64 n) : takeI (x ++ ivT n ++ y) x.size = (n, ((x.size + (ivT n).size : Nat) : Int), 0) := by
  unfold takeI ivT
  rw [takeU_at x y _ (zz_lt hn)]
  simp only [ne_eq, not_true, if_false, Int.toNat_natCast, unzz_zz]
/-! ### TakeCount -/
def takeC (s : ByteArray) (a most : Int) : Int × Int × Int :=
  if (takeU s a).2.2 ≠ 0 then (0, 0, (takeU s a).2.2) else if most < 0 then (0, 0, 2) else if (takeU s a).1 > most then (0, 0, 2) else if (takeU s a).1 > s.size - (takeU s a).2.1 then (0, 0, 4) else ((takeU s a).1, (takeU s a).2.1, 0)
theorem takeC_eq (s : ByteArray) (hs : s.size ≤ 100000) (a : Int) (most : Int) (hm0 : 0 ≤ most) (hm : most ≤ 1000000) :
    (bif ((takeU s a).2.2 != 0) then some ((0 : Int), (0 : Int), (takeU s a).2.2) else (bif (decide (most < 0)) then some (0, 0, 2) else (bif (decide ((takeU s a).1 > IntKind.u64.wrap most)) then some (0, 0, 2) else (bif (decide ((takeU s a).1 > IntKind.u64.wrap (IntKind.i64.wrap ((s.size : Int) - (takeU s a).2.1)))) then some (0, 0, 4) else some (IntKind.i64.wrap (takeU s a).1, (takeU s a).2.1, 0)))))
      = some (takeC s a most) := by
  obtain ⟨u, h1, h2⟩ := takeU_fst s a
  obtain ⟨q, h3, h4, h5⟩ := takeU_snd s a
  unfold takeC
  rw [bne0, cond_dec, cond_dec, cond_dec, cond_dec, h1, h3, wrap_u64, wr_in (x := (s.size : Int) - (q : Int)) (by omega) (by omega), wrap_u64]
  split
  · rfl
  split
  · rfl
  rw [show most % 18446744073709551616 = most by omega]
  split
  · rfl
  rw [show ((s.size : Int) - (q : Int)) % 18446744073709551616 = (s.size : Int) - (q : Int) by omega]
  split
  · rfl
  · rw [i64_nat (by omega)]
theorem wTakeC (s : ByteArray) (hs : s.size ≤ 100000) (a : Int) (most : Int) (hm0 : 0 ≤ most) (hm : most ≤ 1000000) : wire_TakeCount.f s a most = some (takeC s a most) := by
  rw [wire_TakeCount.f_eq, wTakeU s hs a, Option.bind_some]
  exact takeC_eq s hs a most hm0 hm
theorem rTakeC (s : ByteArray) (hs : s.size ≤ 100000) (a : Int) (most : Int) (hm0 : 0 ≤ most) (hm : most ≤ 1000000) : ref04_TakeCount.f s a most = some (takeC s a most) := by
  rw [ref04_TakeCount.f_eq, rTakeU s hs a, Option.bind_some]
  exact takeC_eq s hs a most hm0 hm
theorem takeC_bad {s : ByteArray} {a most : Int} (h : (takeC s a most).2.2 ≠ 0) : takeC s a most = (0, 0, (takeC s a most).2.2) := by
  unfold takeC at h ⊢
  split at h
  · rename_i h1; rw [if_pos h1]
  rename_i h1
  rw [if_neg h1]
  split at h
  · rename_i h1; rw [if_pos h1]
  rename_i h1
  rw [if_neg h1]
  split at h
  · rename_i h1; rw [if_pos h1]
  rename_i h1
  rw [if_neg h1]
  split at h
  · rename_i h1; rw [if_pos h1]
  · exact absurd rfl h
theorem takeC_ok {s : ByteArray} {a most : Int} (h : (takeC s a most).2.2 = 0) : ∃ n q : Nat, takeC s a most = ((n : Int), (q : Int), 0) ∧ (n : Int) ≤ most ∧ q + n ≤ s.size := by
  obtain ⟨u, h1, h2⟩ := takeU_fst s a
  obtain ⟨q, h3, h4, h5⟩ := takeU_snd s a
  unfold takeC at h ⊢
  split at h
  · rename_i h6; exact absurd h h6
  rename_i h6
  rw [if_neg h6]
  split at h
  · cases h
  rename_i h7
  rw [if_neg h7]
  split at h
  · cases h
  rename_i h8
  rw [if_neg h8]
  split at h
  · cases h
  rename_i h9
  rw [if_neg h9]
  rw [h1] at h8 h9 ⊢
  rw [h3] at h9 ⊢
  exact ⟨u, q, rfl, by omega, by omega⟩
theorem takeC_at (x y : ByteArray) (n : Nat) (most : Int) (hm : (n : Int) ≤ most) (hy : n ≤ y.size) (hn : n < 18446744073709551616) : takeC (x ++ uvT n ++ y) x.size most = ((n : Int), ((x.size + (uvT n).size : Nat) : Int), 0) := by
  unfold takeC
  rw [takeU_at x y n hn]
  rw [if_neg (by simp), if_neg (by omega), if_neg (show ¬ ((n : Int) > most) by omega), if_neg (show ¬ ((n : Int) > ((x ++ uvT n ++ y).size : Int) - ((x.size + (uvT n).size : Nat) : Int)) by rw [ByteArray.size_append, ByteArray.size_append]; omega)]
/-! ### texts, truth values -/
def takeT (s : ByteArray) (a most : Int) : ByteArray × Int × Int :=
  if (takeC s a most).2.2 ≠ 0 then (⟨#[]⟩, 0, (takeC s a most).2.2) else (s.extract (takeC s a most).2.1.toNat ((takeC s a most).2.1 + (takeC s a most).1).toNat, (takeC s a most).2.1 + (takeC s a most).1, 0)
theorem extract_bytes (s : ByteArray) (q n : Nat) : bytesOf (List.drop q (List.take n (List.map (fun b : UInt8 => ((b.toNat : Nat) : Int)) s.data.toList))) = s.extract q n := by
  apply ByteArray.ext
  rw [ByteArray.data_extract]
  apply Array.ext'
  have e : ((fun n : Int => UInt8.ofNat n.toNat) ∘ fun b : UInt8 => ((b.toNat : Nat) : Int)) = id := by funext x; simp
  simp only [bytesOf, Array.toList_extract, List.map_drop, List.map_take, List.map_map, e, List.map_id, List.extract_eq_take_drop]
  rw [List.drop_take]
theorem wTakeT (s : ByteArray) (hs : s.size ≤ 100000) (a : Int) (most : Int) (hm0 : 0 ≤ most) (hm : most ≤ 1000000) : wire_TakeText.f s a most = some (takeT s a most) := by
  rw [wire_TakeText.f_eq, wTakeC s hs a most hm0 hm, Option.bind_some, bne0, cond_dec]
  unfold takeT
  split
  · rfl
  rename_i h
  obtain ⟨n, q, h1, h2, h3⟩ := takeC_ok (Classical.byContradiction fun h' => h h')
  rw [h1]
  simp only
  rw [at_in (a := q) (k := n) h3 (by omega), List.length_map, Array.length_toList, show s.data.size = s.size from rfl,
    decide_eq_true (show (0 : Int) ≤ (q : Int) by omega), decide_eq_true (show (q : Int) ≤ ((q + n : Nat) : Int) by omega), decide_eq_true (show ((q + n : Nat) : Int) ≤ (s.size : Int) by omega)]
  simp only [decide_true, Bool.and_true, cond_true, Int.toNat_natCast, extract_bytes]
  rw [show ((q : Int) + (n : Int)) = ((q + n : Nat) : Int) from rfl, Int.toNat_natCast]
theorem rTakeT (s : ByteArray) (hs : s.size ≤ 100000) (a : Int) (most : Int) (hm0 : 0 ≤ most) (hm : most ≤ 1000000) : ref04_TakeText.f s a most = some (takeT s a most) := by
  rw [ref04_TakeText.f_eq, rTakeC s hs a most hm0 hm, Option.bind_some, bne0, cond_dec]
  unfold takeT
  split
  · rfl
  rename_i h
  obtain ⟨n, q, h1, h2, h3⟩ := takeC_ok (Classical.byContradiction fun h' => h h')
  rw [h1]
  simp only
  rw [at_in (a := q) (k := n) h3 (by omega),
    decide_eq_true (show (0 : Int) ≤ (q : Int) by omega), decide_eq_true (show (q : Int) ≤ ((q + n : Nat) : Int) by omega), decide_eq_true (show ((q + n : Nat) : Int) ≤ (s.size : Int) by omega)]
  simp only [Bool.and_true, cond_true, Int.toNat_natCast]
  rw [show ((q : Int) + (n : Int)) = ((q + n : Nat) : Int) from rfl, Int.toNat_natCast]
theorem takeT_bad {s : ByteArray} {a most : Int} (h : (takeT s a most).2.2 ≠ 0) : takeT s a most = (⟨#[]⟩, 0, (takeT s a most).2.2) := by
  unfold takeT at h ⊢
  split at h
  · rename_i h1; rw [if_pos h1]
  · exact absurd rfl h
theorem takeT_next {s : ByteArray} {a most : Int} : 0 ≤ (takeT s a most).2.1 ∧ (takeT s a most).2.1 ≤ s.size := by
  unfold takeT
  split
  · exact ⟨by simp, by simp⟩
  · rename_i h
    obtain ⟨n, q, h1, h2, h3⟩ := takeC_ok (Classical.byContradiction fun h' => h h')
    rw [h1]
    exact ⟨by simp only; omega, by simp only; omega⟩
def tvT (t : ByteArray) : ByteArray := uvT t.size ++ t
theorem wText (t : ByteArray) (h : t.size ≤ 1000000) : wire_Text.f t = some (tvT t) := by
  have := uvL_len10 (n := t.size) (by omega)
  rw [wire_Text.f_eq, u64_nat (by omega), wUint _ (by omega), Option.bind_some, cond_dec, if_pos (by unfold uvT; rw [txt_size]; omega)]
  rfl
theorem rText (t : ByteArray) (h : t.size ≤ 1000000) : ref04_Text.f t = some (tvT t) := by
  have := uvL_len10 (n := t.size) (by omega)
  rw [ref04_Text.f_eq, u64_nat (by omega), rUint _ (by omega), Option.bind_some, cond_dec, if_pos (by unfold uvT; rw [txt_size]; omega)]
  rfl
theorem tvT_size {t : ByteArray} (h : t.size ≤ 1000000) : (tvT t).size ≤ 10 + t.size := by
  have := uvL_len10 (n := t.size) (by omega)
  unfold tvT uvT
  rw [ByteArray.size_append, txt_size]
  omega
theorem takeT_at (x y t : ByteArray) (most : Int) (hm : (t.size : Int) ≤ most) (ht : t.size ≤ 1000000) : takeT (x ++ tvT t ++ y) x.size most = (t, ((x.size + (tvT t).size : Nat) : Int), 0) := by
  have e : x ++ tvT t ++ y = x ++ uvT t.size ++ (t ++ y) := by unfold tvT; simp [ByteArray.append_assoc]
  unfold takeT
  rw [e, takeC_at x (t ++ y) t.size most hm (by rw [ByteArray.size_append]; omega) (by omega)]
  rw [if_neg (by simp)]
  simp only [Int.toNat_natCast]
  have e2 : ((x.size + (uvT t.size).size : Nat) : Int) + (t.size : Int) = ((x.size + (tvT t).size : Nat) : Int) := by
    unfold tvT; rw [ByteArray.size_append]; omega
  rw [e2, Int.toNat_natCast]
  congr 1
  apply bts_inj
  have e3 : x ++ uvT t.size ++ (t ++ y) = (x ++ uvT t.size) ++ t ++ y := by simp [ByteArray.append_assoc]
  rw [e3]
  have e4 : x.size + (tvT t).size = (x ++ uvT t.size ++ t).size := by unfold tvT; simp only [ByteArray.size_append]; omega
  have e5 : x.size + (uvT t.size).size = (x ++ uvT t.size).size := by simp only [ByteArray.size_append]
  rw [e4, e5]
  have key : ∀ (p t y : ByteArray), bts ((p ++ t ++ y).extract p.size (p ++ t).size) = bts t := fun p t y => by
    unfold bts
    rw [ByteArray.data_extract]
    simp only [Array.toList_extract, ByteArray.data_append, Array.toList_append, List.extract_eq_take_drop, ByteArray.size_append]
    rw [List.append_assoc, List.drop_left' (by rw [Array.length_toList]; rfl), Nat.add_sub_cancel_left, List.take_left' (by rw [Array.length_toList]; rfl)]
  exact key _ _ _
def bvT (b : Bool) : ByteArray := txt [b.toNat]
theorem wBool (b : Bool) : wire_Bool.f b = some (bvT b) := by
  rw [wire_Bool.f_eq]; cases b <;> rfl
theorem rBool (b : Bool) : ref04_Bool.f b = some (bvT b) := by
  rw [ref04_Bool.f_eq]; cases b <;> rfl
theorem bvT_size (b : Bool) : (bvT b).size = 1 := rfl
def takeB (s : ByteArray) (a : Int) : Bool × Int × Int :=
  if a < 0 then (false, 0, 1) else if a > s.size then (false, 0, 1) else if a = s.size then (false, 0, 4) else if ((bts s)[a.toNat]?).getD 0 > 1 then (false, 0, 5) else (decide (((bts s)[a.toNat]?).getD 0 = 1), a + 1, 0)
theorem takeB_eq (s : ByteArray) (hs : s.size ≤ 100000) (a : Int) :
    (bif (decide (a < 0)) then some (false, (0 : Int), (1 : Int)) else (bif (decide (a > (s.size : Int))) then some (false, 0, 1) else (bif (a == (s.size : Int)) then some (false, 0, 4) else ((byteAt s a).bind fun e0 => (bif (decide (e0 > 1)) then some (false, 0, 5) else ((byteAt s a).bind fun e1 => some (e1 == 1, IntKind.i64.wrap (a + 1), 0))))))) = some (takeB s a) := by
  unfold takeB
  rw [cond_dec, cond_dec]
  split
  · rfl
  split
  · rfl
  rename_i h0 h1
  obtain ⟨k, rfl⟩ : ∃ k : Nat, a = k := ⟨a.toNat, by omega⟩
  rw [beq_dec, cond_dec]
  split
  · rfl
  rename_i h2
  have hlt : k < (bts s).length := by rw [bts_len]; omega
  rw [byteAt_bts s k hlt, Option.bind_some, Option.bind_some, Int.toNat_natCast, List.getElem?_eq_getElem hlt, Option.getD_some, cond_dec]
  generalize (bts s)[k] = c
  by_cases h3 : c > 1
  · rw [if_pos h3, if_pos (show (c : Int) > 1 by omega)]
  · rw [if_neg h3, if_neg (show ¬ (c : Int) > 1 by omega), wr_in (by omega) (by omega), beq_dec]
    congr 2
    apply decide_eq_decide.2
    omega
theorem wTakeB (s : ByteArray) (hs : s.size ≤ 100000) (a : Int) : wire_TakeBool.f s a = some (takeB s a) := by
  rw [wire_TakeBool.f_eq]; exact takeB_eq s hs a
theorem rTakeB (s : ByteArray) (hs : s.size ≤ 100000) (a : Int) : ref04_TakeBool.f s a = some (takeB s a) := by
  rw [ref04_TakeBool.f_eq]; exact takeB_eq s hs a
theorem takeB_bad {s : ByteArray} {a : Int} (h : (takeB s a).2.2 ≠ 0) : takeB s a = (false, 0, (takeB s a).2.2) := by
  unfold takeB at h ⊢
  split at h
  · rename_i h1; rw [if_pos h1]
  rename_i h1
  rw [if_neg h1]
  split at h
  · rename_i h1; rw [if_pos h1]
  rename_i h1
  rw [if_neg h1]
  split at h
  · rename_i h1; rw [if_pos h1]
  rename_i h1
  rw [if_neg h1]
  split at h
  · rename_i h1; rw [if_pos h1]
  · exact absurd rfl h
theorem takeB_at (x y : ByteArray) (b : Bool) : takeB (x ++ bvT b ++ y) x.size = (b, ((x.size + (bvT b).size : Nat) : Int), 0) := by
  have hb : (bts (x ++ bvT b ++ y))[x.size]? = some b.toNat := by
    rw [bts_append, bts_append, List.append_assoc, List.getElem?_append_right (by rw [bts_len]; exact Nat.le_refl _), bts_len, Nat.sub_self]
    cases b <;> rfl
  have h1 : (x ++ bvT b ++ y).size = x.size + 1 + y.size := by rw [ByteArray.size_append, ByteArray.size_append, bvT_size]
  unfold takeB
  rw [if_neg (by omega), if_neg (by rw [h1]; omega), if_neg (by rw [h1]; omega), Int.toNat_natCast, hb, Option.getD_some, bvT_size]
  cases b <;> rfl
end Go.Proofs.Ytnjngpkldifjlaa

/- Commands as bytes. -/
set_option linter.unusedVariables false
set_option linter.unusedSimpArgs false
set_option maxHeartbeats 4000000
namespace Go.Proofs.Ytnjngpkldifjlaa
open Go Go.Sk

/-! ### reading on -/
def bindR {α β : Type} (r : α × Int × Int) (d : β) (k : α → Int → β × Int × Int) : β × Int × Int := if r.2.2 ≠ 0 then (d, 0, r.2.2) else k r.1 r.2.1
theorem bindR_bad {α β : Type} {r : α × Int × Int} {d : β} {k : α → Int → β × Int × Int} (h : r.2.2 ≠ 0) : bindR r d k = (d, 0, r.2.2) := if_pos h
theorem bindR_ok {α β : Type} {r : α × Int × Int} {d : β} {k : α → Int → β × Int × Int} (h : r.2.2 = 0) : bindR r d k = k r.1 r.2.1 := if_neg (fun h' => h' h)
theorem bindR_err {α β : Type} {x : α} {y e : Int} {d : β} {k : α → Int → β × Int × Int} (h : e ≠ 0) : bindR (x, y, e) d k = (d, 0, e) := if_pos h
def intsS (s : ByteArray) : Nat → Int → List Int × Int × Int
  | 0, a => ([], a, 0)
  | n + 1, a => bindR (takeI s a) [] fun v a1 => bindR (intsS s n a1) [] fun l a2 => (v :: l, a2, 0)
theorem rInts_j (s : ByteArray) (hs : s.size ≤ 100000) (n : Nat) (hn : n ≤ 64) : ∀ (m i : Nat) (a : Int) (o : List Int), i + m = n → o.length = i → ref34_ints.j0 s a n i o = some (bindR (intsS s m a) [] fun l a2 => (o ++ l, a2, 0)) := by
  intro m
  induction m with
  | zero =>
    intro i a o hi ho
    rw [ref34_ints.j0_eq, lt_false (by omega), cond_false]
    show _ = some (if (0 : Int) ≠ 0 then _ else (o ++ [], a, 0))
    rw [if_neg (by simp), List.append_nil]
  | succ m ih =>
    intro i a o hi ho
    rw [ref34_ints.j0_eq, lt_true (by omega), cond_true, rTakeI s hs a, Option.bind_some, bne0, cond_dec]
    unfold intsS
    by_cases h : (takeI s a).2.2 = 0
    · rw [if_neg (fun h' => h' h), bindR_ok h, cond_dec, List.length_singleton, if_pos (by omega), wr_succ (n := n) (by omega) (by omega), ih (i + 1) _ _ (by omega) (by simp [ho])]
      by_cases h2 : (intsS s m (takeI s a).2.1).2.2 = 0
      · rw [bindR_ok h2, bindR_ok h2, bindR_ok rfl]
        simp
      · rw [bindR_bad h2, bindR_bad h2, bindR_err h2]
    · rw [if_pos h, bindR_bad h, bindR_err h]
theorem rInts (s : ByteArray) (hs : s.size ≤ 100000) (n : Nat) (hn : n ≤ 64) (a : Int) : ref34_ints.f s a n = some (intsS s n a) := by
  rw [ref34_ints.f_eq]
  have := rInts_j s hs n hn n 0 a [] (by omega) rfl
  rw [show ((0 : Nat) : Int) = 0 from rfl] at this
  rw [this]
  by_cases h : (intsS s n a).2.2 = 0
  · rw [bindR_ok h]
    simp only [List.nil_append]
    congr 1
    rw [← h]
  · rw [bindR_bad h]
    congr 1
    cases n with
    | zero => exact absurd rfl h
    | succ n =>
      unfold intsS at h ⊢
      by_cases h1 : (takeI s a).2.2 = 0
      · rw [bindR_ok h1] at h ⊢
        by_cases h2 : (intsS s n (takeI s a).2.1).2.2 = 0
        · rw [bindR_ok h2] at h; exact absurd rfl h
        · rw [bindR_bad h2]
      · rw [bindR_bad h1]
abbrev zeroC : CommandT := (0, 0, [], (0, 0), 0, 0, { data := #[] }, false)
/-- a command of a text, from a place on -/
def decC (s : ByteArray) (a : Int) : CommandT × Int × Int :=
  bindR (takeI s a) zeroC fun p a1 => bindR (takeI s a1) zeroC fun k a2 => bindR (takeC s a2 64) zeroC fun n a3 => bindR (intsS s n.toNat a3) zeroC fun l a4 =>
  bindR (takeI s a4) zeroC fun x a5 => bindR (takeI s a5) zeroC fun y a6 => bindR (takeI s a6) zeroC fun t a7 => bindR (takeI s a7) zeroC fun m a8 =>
  bindR (takeT s a8 12) zeroC fun nm a9 => bindR (takeB s a9) zeroC fun q a10 => ((p, k, l, (x, y), t, m, nm, q), a10, 0)

theorem takeC_n {s : ByteArray} {a : Int} (h : (takeC s a 64).2.2 = 0) : (takeC s a 64).1 = (((takeC s a 64).1.toNat : Nat) : Int) ∧ (takeC s a 64).1.toNat ≤ 64 := by
  obtain ⟨n, q, h1, h2, h3⟩ := takeC_ok h
  rw [h1]
  exact ⟨rfl, by simp only [Int.toNat_natCast]; omega⟩
theorem bne_t {e : Int} (h : e ≠ 0) : (e != 0) = true := by rw [bne0]; exact decide_eq_true h
theorem bne_f {e : Int} (h : e = 0) : (e != 0) = false := by rw [bne0]; exact decide_eq_false (fun h' => h' h)
theorem rDecC (s : ByteArray) (hs : s.size ≤ 100000) (a : Int) : ref34_Decode.f s a = some (decC s a) := by
  have I2 : ∀ a, ref34_ints.f s a 2 = some (intsS s 2 a) := fun a => rInts s hs 2 (by omega) a
  have I4 : ∀ a, ref34_ints.f s a 4 = some (intsS s 4 a) := fun a => rInts s hs 4 (by omega) a
  rw [ref34_Decode.f_eq, I2, Option.bind_some]
  unfold decC
  simp only [intsS]
  by_cases h1 : (takeI s a).2.2 = 0
  rotate_left
  · rw [bindR_bad h1, bindR_bad h1, bne_t h1, cond_true]
  rw [bindR_ok h1, bindR_ok h1]
  generalize (takeI s a).2.1 = a1
  by_cases h2 : (takeI s a1).2.2 = 0
  rotate_left
  · rw [bindR_bad h2, bindR_bad h2, bindR_err h2, bne_t h2, cond_true]
  rw [bindR_ok h2, bindR_ok h2, bindR_ok rfl, bindR_ok rfl]
  simp only [bne_self_eq_false, cond_false]
  generalize (takeI s a1).2.1 = a2
  rw [rTakeC s hs a2 64 (by omega) (by omega), Option.bind_some]
  by_cases h3 : (takeC s a2 64).2.2 = 0
  rotate_left
  · rw [bindR_bad h3, bne_t h3, cond_true]
  rw [bindR_ok h3, bne_f h3, cond_false]
  obtain ⟨h4, h5⟩ := takeC_n h3
  generalize (takeC s a2 64).2.1 = a3
  have hI := rInts s hs _ h5 a3
  rw [← h4] at hI
  rw [hI, Option.bind_some]
  generalize (takeC s a2 64).1.toNat = n
  by_cases h6 : (intsS s n a3).2.2 = 0
  rotate_left
  · rw [bindR_bad h6, bne_t h6, cond_true]
  rw [bindR_ok h6, bne_f h6, cond_false]
  generalize (intsS s n a3).2.1 = a4
  rw [I4, Option.bind_some]
  simp only [intsS]
  by_cases h7 : (takeI s a4).2.2 = 0
  rotate_left
  · rw [bindR_bad h7, bindR_bad h7, bne_t h7, cond_true]
  rw [bindR_ok h7, bindR_ok h7]
  generalize (takeI s a4).2.1 = a5
  by_cases h8 : (takeI s a5).2.2 = 0
  rotate_left
  · rw [bindR_bad h8, bindR_bad h8, bindR_err h8, bne_t h8, cond_true]
  rw [bindR_ok h8, bindR_ok h8]
  generalize (takeI s a5).2.1 = a6
  by_cases h9 : (takeI s a6).2.2 = 0
  rotate_left
  · rw [bindR_bad h9, bindR_bad h9, bindR_err h9, bindR_err h9, bne_t h9, cond_true]
  rw [bindR_ok h9, bindR_ok h9]
  generalize (takeI s a6).2.1 = a7
  by_cases h10 : (takeI s a7).2.2 = 0
  rotate_left
  · rw [bindR_bad h10, bindR_bad h10, bindR_err h10, bindR_err h10, bindR_err h10, bne_t h10, cond_true]
  rw [bindR_ok h10, bindR_ok h10, bindR_ok rfl, bindR_ok rfl, bindR_ok rfl, bindR_ok rfl]
  simp only [bne_self_eq_false, cond_false]
  generalize (takeI s a7).2.1 = a8
  rw [rTakeT s hs a8 12 (by omega) (by omega), Option.bind_some]
  by_cases h11 : (takeT s a8 12).2.2 = 0
  rotate_left
  · rw [bindR_bad h11, bne_t h11, cond_true]
  rw [bindR_ok h11, bne_f h11, cond_false]
  generalize (takeT s a8 12).2.1 = a9
  rw [rTakeB s hs a9, Option.bind_some]
  by_cases h12 : (takeB s a9).2.2 = 0
  rotate_left
  · rw [bindR_bad h12, bne_t h12, cond_true]
  rw [bindR_ok h12, bne_f h12, cond_false]
  rfl
/-! ### the reader -/
section
variable {s : ByteArray} (hs : s.size ≤ 100000) {a e : Int}
include hs
theorem num_ok (h : (takeI s a).2.2 = 0) : command_reader__number.f (s, a, 0) = some ((takeI s a).1, (s, (takeI s a).2.1, 0)) := by
  rw [command_reader__number.f_eq]
  show (bif (0 : Int) != 0 then _ else (wire_TakeInt.f s a).bind _) = _
  rw [show ((0 : Int) != 0) = false from rfl, cond_false, wTakeI s hs a, Option.bind_some, command_reader__next.f_eq, h]
  rfl
theorem num_err (h : (takeI s a).2.2 ≠ 0) : command_reader__number.f (s, a, 0) = some (0, (s, a, (takeI s a).2.2)) := by
  rw [command_reader__number.f_eq]
  show (bif (0 : Int) != 0 then _ else (wire_TakeInt.f s a).bind _) = _
  rw [show ((0 : Int) != 0) = false from rfl, cond_false, wTakeI s hs a, Option.bind_some, command_reader__next.f_eq, beq_eq_false_iff_ne.2 h, cond_false, takeI_bad h]
  rfl
omit hs in
theorem num_bad (h : e ≠ 0) : command_reader__number.f (s, a, e) = some (0, (s, a, e)) := by
  rw [command_reader__number.f_eq]
  show (bif e != 0 then _ else _) = _
  rw [bne0, decide_eq_true h, cond_true]
theorem name_ok (h : (takeT s a 12).2.2 = 0) : command_reader__name.f (s, a, 0) = some ((takeT s a 12).1, (s, (takeT s a 12).2.1, 0)) := by
  rw [command_reader__name.f_eq]
  show (bif (0 : Int) != 0 then _ else (wire_TakeText.f s a 12).bind _) = _
  rw [show ((0 : Int) != 0) = false from rfl, cond_false, wTakeT s hs a 12 (by omega) (by omega), Option.bind_some, command_reader__next.f_eq, h]
  rfl
theorem name_err (h : (takeT s a 12).2.2 ≠ 0) : ∃ t, command_reader__name.f (s, a, 0) = some (t, (s, a, (takeT s a 12).2.2)) := by
  rw [command_reader__name.f_eq]
  show ∃ t, (bif (0 : Int) != 0 then _ else (wire_TakeText.f s a 12).bind _) = _
  rw [show ((0 : Int) != 0) = false from rfl, cond_false, wTakeT s hs a 12 (by omega) (by omega), Option.bind_some, command_reader__next.f_eq, beq_eq_false_iff_ne.2 h, cond_false]
  exact ⟨_, rfl⟩
omit hs in
theorem name_bad (h : e ≠ 0) : command_reader__name.f (s, a, e) = some (⟨#[]⟩, (s, a, e)) := by
  rw [command_reader__name.f_eq]
  show (bif e != 0 then _ else _) = _
  rw [bne0, decide_eq_true h, cond_true]
theorem queued_ok (h : (takeB s a).2.2 = 0) : command_reader__queued.f (s, a, 0) = some ((takeB s a).1, (s, (takeB s a).2.1, 0)) := by
  rw [command_reader__queued.f_eq]
  show (bif (0 : Int) != 0 then _ else (wire_TakeBool.f s a).bind _) = _
  rw [show ((0 : Int) != 0) = false from rfl, cond_false, wTakeB s hs a, Option.bind_some, command_reader__next.f_eq, h]
  rfl
theorem queued_err (h : (takeB s a).2.2 ≠ 0) : ∃ t, command_reader__queued.f (s, a, 0) = some (t, (s, a, (takeB s a).2.2)) := by
  rw [command_reader__queued.f_eq]
  show ∃ t, (bif (0 : Int) != 0 then _ else (wire_TakeBool.f s a).bind _) = _
  rw [show ((0 : Int) != 0) = false from rfl, cond_false, wTakeB s hs a, Option.bind_some, command_reader__next.f_eq, beq_eq_false_iff_ne.2 h, cond_false]
  exact ⟨_, rfl⟩
omit hs in
theorem queued_bad (h : e ≠ 0) : command_reader__queued.f (s, a, e) = some (false, (s, a, e)) := by
  rw [command_reader__queued.f_eq]
  show (bif e != 0 then _ else _) = _
  rw [bne0, decide_eq_true h, cond_true]
theorem units_j (n : Nat) (hn : n ≤ 64) : ∀ (m i : Nat) (a : Int) (o : List Int), i + m = n → o.length = i →
    ((intsS s m a).2.2 = 0 → command_reader__units.j0 n i (s, a, 0) o = some (o ++ (intsS s m a).1, (s, (intsS s m a).2.1, 0))) ∧
    ((intsS s m a).2.2 ≠ 0 → ∃ l b, command_reader__units.j0 n i (s, a, 0) o = some (l, (s, b, (intsS s m a).2.2))) := by
  intro m
  induction m with
  | zero =>
    intro i a o hi ho
    refine ⟨fun _ => ?_, fun h => absurd rfl h⟩
    rw [command_reader__units.j0_eq, lt_false (by omega), cond_false]
    show _ = some (o ++ [], _)
    rw [List.append_nil]
    rfl
  | succ m ih =>
    intro i a o hi ho
    have hstep : command_reader__units.j0 n i (s, a, 0) o = ((command_reader__number.f (s, a, 0)).bind fun r0 => command_reader__units.j0 n ((i + 1 : Nat) : Int) r0.2 (o ++ [r0.1])) := by
      rw [command_reader__units.j0_eq, lt_true (by omega), cond_true]
      show (bif (0 : Int) == 0 then _ else _) = _
      rw [show ((0 : Int) == 0) = true from rfl, cond_true, wr_succ (n := n) (by omega) (by omega)]
      simp only [List.length_singleton, decide_eq_true (show (o.length + 1) * 8 ≤ 140737488355328 by omega), cond_true]
    by_cases h : (takeI s a).2.2 = 0
    · rw [hstep, num_ok hs h, Option.bind_some]
      obtain ⟨h1, h2⟩ := ih (i + 1) (takeI s a).2.1 (o ++ [(takeI s a).1]) (by omega) (by simp [ho])
      unfold intsS
      rw [bindR_ok h]
      by_cases h3 : (intsS s m (takeI s a).2.1).2.2 = 0
      · rw [bindR_ok h3]
        refine ⟨fun _ => ?_, fun h => absurd rfl h⟩
        rw [h1 h3]
        simp
      · rw [bindR_bad h3]
        exact ⟨fun h => absurd h h3, fun _ => h2 h3⟩
    · rw [hstep, num_err hs h, Option.bind_some]
      unfold intsS
      rw [bindR_bad h]
      refine ⟨fun h' => absurd h' h, fun _ => ?_⟩
      rw [command_reader__units.j0_eq]
      refine ⟨o ++ [0], a, ?_⟩
      show (bif decide (((i + 1 : Nat) : Int) < (n : Int)) then (bif (takeI s a).2.2 == 0 then _ else _) else _) = _
      rw [beq_eq_false_iff_ne.2 h, cond_false]
      cases decide (((i + 1 : Nat) : Int) < (n : Int)) <;> rfl
theorem units_ok (h : (takeC s a 64).2.2 = 0) (h2 : (intsS s (takeC s a 64).1.toNat (takeC s a 64).2.1).2.2 = 0) :
    command_reader__units.f (s, a, 0) = some ((intsS s (takeC s a 64).1.toNat (takeC s a 64).2.1).1, (s, (intsS s (takeC s a 64).1.toNat (takeC s a 64).2.1).2.1, 0)) := by
  obtain ⟨h4, h5⟩ := takeC_n h
  rw [command_reader__units.f_eq]
  show (bif (0 : Int) != 0 then _ else (wire_TakeCount.f s a 64).bind _) = _
  rw [show ((0 : Int) != 0) = false from rfl, cond_false, wTakeC s hs a 64 (by omega) (by omega), Option.bind_some, command_reader__next.f_eq, h]
  show command_reader__units.j0 (takeC s a 64).1 0 (s, (takeC s a 64).2.1, 0) [] = _
  have := (units_j hs _ h5 _ 0 (takeC s a 64).2.1 [] (by omega) rfl).1 h2
  rw [← h4] at this
  rw [show ((0 : Nat) : Int) = 0 from rfl] at this
  rw [this, List.nil_append]
theorem units_err (h : (takeC s a 64).2.2 ≠ 0) : ∃ l, command_reader__units.f (s, a, 0) = some (l, (s, a, (takeC s a 64).2.2)) := by
  rw [command_reader__units.f_eq]
  show ∃ l, (bif (0 : Int) != 0 then _ else (wire_TakeCount.f s a 64).bind _) = _
  rw [show ((0 : Int) != 0) = false from rfl, cond_false, wTakeC s hs a 64 (by omega) (by omega), Option.bind_some, command_reader__next.f_eq, beq_eq_false_iff_ne.2 h, cond_false, Option.bind_some, command_reader__units.j0_eq, takeC_bad h]
  exact ⟨[], rfl⟩
theorem units_err2 (h : (takeC s a 64).2.2 = 0) (h2 : (intsS s (takeC s a 64).1.toNat (takeC s a 64).2.1).2.2 ≠ 0) :
    ∃ l b, command_reader__units.f (s, a, 0) = some (l, (s, b, (intsS s (takeC s a 64).1.toNat (takeC s a 64).2.1).2.2)) := by
  obtain ⟨h4, h5⟩ := takeC_n h
  rw [command_reader__units.f_eq]
  show ∃ l b, (bif (0 : Int) != 0 then _ else (wire_TakeCount.f s a 64).bind _) = _
  rw [show ((0 : Int) != 0) = false from rfl, cond_false, wTakeC s hs a 64 (by omega) (by omega), Option.bind_some, command_reader__next.f_eq, h]
  show ∃ l b, command_reader__units.j0 (takeC s a 64).1 0 (s, (takeC s a 64).2.1, 0) [] = _
  have := (units_j hs _ h5 _ 0 (takeC s a 64).2.1 [] (by omega) rfl).2 h2
  rw [← h4] at this
  exact this
omit hs in
theorem units_bad (h : e ≠ 0) : command_reader__units.f (s, a, e) = some ([], (s, a, e)) := by
  rw [command_reader__units.f_eq]
  show (bif e != 0 then _ else _) = _
  rw [bne0, decide_eq_true h, cond_true]
omit hs in
theorem end_bad {α : Type} (x : α) (h : e ≠ 0) (y : CommandT × Int × Int) : (bif ((x, (s, a, e)) : α × ByteArray × VecT).2.2.2 != 0 then some ((zeroC, 0, ((x, (s, a, e)) : α × ByteArray × VecT).2.2.2) : CommandT × Int × Int) else some y) = some (zeroC, 0, e) := by
  show (bif e != 0 then _ else _) = _
  rw [bne0, decide_eq_true h, cond_true]
theorem wDecC (a : Int) : command_Decode.f s a = some (decC s a) := by
  rw [command_Decode.f_eq]
  unfold decC
  by_cases h1 : (takeI s a).2.2 = 0
  rotate_left
  · rw [bindR_bad h1, num_err hs h1]
    simp only [Option.bind_some, num_bad h1, units_bad h1, name_bad h1, queued_bad h1, bne0, decide_eq_true h1, cond_true]
  rw [bindR_ok h1, num_ok hs h1]
  simp only [Option.bind_some]
  generalize (takeI s a).2.1 = a1
  by_cases h2 : (takeI s a1).2.2 = 0
  rotate_left
  · rw [bindR_bad h2, num_err hs h2]
    simp only [Option.bind_some, num_bad h2, units_bad h2, name_bad h2, queued_bad h2, bne0, decide_eq_true h2, cond_true]
  rw [bindR_ok h2, num_ok hs h2]
  simp only [Option.bind_some]
  generalize (takeI s a1).2.1 = a2
  by_cases h3 : (takeC s a2 64).2.2 = 0
  rotate_left
  · obtain ⟨l, hl⟩ := units_err hs h3
    rw [bindR_bad h3, hl]
    simp only [Option.bind_some, num_bad h3, units_bad h3, name_bad h3, queued_bad h3, bne0, decide_eq_true h3, cond_true]
  rw [bindR_ok h3]
  by_cases h6 : (intsS s (takeC s a2 64).1.toNat (takeC s a2 64).2.1).2.2 = 0
  rotate_left
  · obtain ⟨l, b, hl⟩ := units_err2 hs h3 h6
    rw [bindR_bad h6, hl]
    simp only [Option.bind_some, num_bad h6, units_bad h6, name_bad h6, queued_bad h6, bne0, decide_eq_true h6, cond_true]
  rw [bindR_ok h6, units_ok hs h3 h6]
  simp only [Option.bind_some]
  generalize (intsS s (takeC s a2 64).1.toNat (takeC s a2 64).2.1).2.1 = a4
  by_cases h7 : (takeI s a4).2.2 = 0
  rotate_left
  · rw [bindR_bad h7, num_err hs h7]
    simp only [Option.bind_some, num_bad h7, units_bad h7, name_bad h7, queued_bad h7, bne0, decide_eq_true h7, cond_true]
  rw [bindR_ok h7, num_ok hs h7]
  simp only [Option.bind_some]
  generalize (takeI s a4).2.1 = a5
  by_cases h8 : (takeI s a5).2.2 = 0
  rotate_left
  · rw [bindR_bad h8, num_err hs h8]
    simp only [Option.bind_some, num_bad h8, units_bad h8, name_bad h8, queued_bad h8, bne0, decide_eq_true h8, cond_true]
  rw [bindR_ok h8, num_ok hs h8]
  simp only [Option.bind_some]
  generalize (takeI s a5).2.1 = a6
  by_cases h9 : (takeI s a6).2.2 = 0
  rotate_left
  · rw [bindR_bad h9, num_err hs h9]
    simp only [Option.bind_some, num_bad h9, units_bad h9, name_bad h9, queued_bad h9, bne0, decide_eq_true h9, cond_true]
  rw [bindR_ok h9, num_ok hs h9]
  simp only [Option.bind_some]
  generalize (takeI s a6).2.1 = a7
  by_cases h10 : (takeI s a7).2.2 = 0
  rotate_left
  · rw [bindR_bad h10, num_err hs h10]
    simp only [Option.bind_some, num_bad h10, units_bad h10, name_bad h10, queued_bad h10, bne0, decide_eq_true h10, cond_true]
  rw [bindR_ok h10, num_ok hs h10]
  simp only [Option.bind_some]
  generalize (takeI s a7).2.1 = a8
  by_cases h11 : (takeT s a8 12).2.2 = 0
  rotate_left
  · obtain ⟨l, hl⟩ := name_err hs h11
    rw [bindR_bad h11, hl]
    simp only [Option.bind_some, num_bad h11, units_bad h11, name_bad h11, queued_bad h11, bne0, decide_eq_true h11, cond_true]
  rw [bindR_ok h11, name_ok hs h11]
  simp only [Option.bind_some]
  generalize (takeT s a8 12).2.1 = a9
  by_cases h12 : (takeB s a9).2.2 = 0
  rotate_left
  · obtain ⟨l, hl⟩ := queued_err hs h12
    rw [bindR_bad h12, hl]
    simp only [Option.bind_some, bne0, decide_eq_true h12, cond_true]
  rw [bindR_ok h12, queued_ok hs h12]
  rfl
end
end Go.Proofs.Ytnjngpkldifjlaa

/- Commands and batches, written as bytes. -/
set_option linter.unusedVariables false
set_option linter.unusedSimpArgs false
set_option maxHeartbeats 4000000
namespace Go.Proofs.Ytnjngpkldifjlaa
open Go Go.Sk

/-! ### the builder -/
def rowOf (X : ByteArray) : List Int := List.map (fun c : UInt8 => ((c.toNat : Nat) : Int)) X.data.toList
theorem rowOf_len (X : ByteArray) : (rowOf X).length = X.size := by
  rw [rowOf, List.length_map, Array.length_toList]; rfl
theorem rowOf_append (X Y : ByteArray) : rowOf X ++ rowOf Y = rowOf (X ++ Y) := by
  unfold rowOf
  rw [ByteArray.data_append, Array.toList_append, List.map_append]
theorem bytes_row (X : ByteArray) : bytesOf (rowOf X) = X := by
  apply ByteArray.ext
  apply Array.ext'
  have e : ((fun n : Int => UInt8.ofNat n.toNat) ∘ fun b : UInt8 => ((b.toNat : Nat) : Int)) = id := by funext x; simp
  simp only [bytesOf, rowOf, List.map_map, e, List.map_id]
theorem check0 : __strings_Builder__copyCheck.f = some ((), []) := by
  have e : cfg.prim 75 [(.one (.ptr 1 0))] [(.ghost [(.ptr 1 0)]), (.cells [(.slf 63), (.nils (.int .u8))])] ⟨[.agg (.cat (.keep (.slf 63)) (.own (.int .u8)))], 1⟩ = some ((), []) := rfl
  unfold __strings_Builder__copyCheck.f callX orPrim
  rw [e]
  rfl
theorem check1 (o : List Int) : __strings_Builder__copyCheck_1.f o = some ((), o) := by
  have e : cfg.prim 75 [(.one (.ptr 1 0))] [(.ghost [(.ptr 1 0)]), (.cells [(.slf 63), (.osl 2)]), (.row (.int .u8) o)] ⟨[.agg (.cat (.keep (.slf 63)) (.own (.int .u8)))], 1⟩ = some ((), o) := rfl
  unfold __strings_Builder__copyCheck_1.f callX orPrim
  rw [e]
  rfl
theorem ws0 (X : ByteArray) (h : X.size ≤ 1000000) : __strings_Builder__WriteString.f X = some ((X.size : Int), (), (), rowOf X) := by
  have hl := rowOf_len X
  unfold rowOf at hl
  rw [__strings_Builder__WriteString.f_eq, check0, Option.bind_some, hl, List.length_nil, cond_dec, if_pos (by omega)]
  rfl
theorem ws1 (s X : ByteArray) (h : X.size + s.size ≤ 1000000) : __strings_Builder__WriteString_1.f s (rowOf X) = some ((s.size : Int), (), (), rowOf (X ++ s)) := by
  have hl := rowOf_len s
  unfold rowOf at hl
  rw [__strings_Builder__WriteString_1.f_eq, check1, Option.bind_some, hl, rowOf_len, cond_dec, if_pos (by omega), ← rowOf_append]
  rfl
theorem str_eq (X : ByteArray) (h0 : 0 < X.size) (h : X.size ≤ 1000000) : __strings_Builder__String.f (rowOf X) = some X := by
  have e : cfg.prim 45 [(.one (.ptr 1 0))] [(.ghost []), (.cells [(.slf 63), (.osl 2)]), (.row (.int .u8) (rowOf X))] ⟨[.one (.ty .str)], 0⟩ = some (bytesOf (rowOf X)) := if_pos ⟨rfl, by rw [rowOf_len]; omega, by rw [rowOf_len]; omega⟩
  unfold __strings_Builder__String.f callX orPrim
  rw [e, bytes_row]
  rfl
/-! ### commands -/
def catI : List Int → ByteArray
  | [] => ⟨#[]⟩
  | x :: r => ivT x ++ catI r
theorem app_nil (x : ByteArray) : x ++ (⟨#[]⟩ : ByteArray) = x := by
  apply ByteArray.ext; rw [ByteArray.data_append]; simp
theorem nil_app (x : ByteArray) : (⟨#[]⟩ : ByteArray) ++ x = x := by
  apply ByteArray.ext; rw [ByteArray.data_append]; simp
theorem size_nil : (⟨#[]⟩ : ByteArray).size = 0 := rfl
def tailC (c : CommandT) : ByteArray := ivT c.2.2.2.1.1 ++ (ivT c.2.2.2.1.2 ++ (ivT c.2.2.2.2.1 ++ (ivT c.2.2.2.2.2.1 ++ (tvT c.2.2.2.2.2.2.1 ++ bvT c.2.2.2.2.2.2.2))))
def encC (c : CommandT) : ByteArray := ivT c.1 ++ (ivT c.2.1 ++ (uvT c.2.2.1.length ++ (catI c.2.2.1 ++ tailC c)))
structure FitC (c : CommandT) : Prop where
  p : I64 c.1
  k : I64 c.2.1
  u : ∀ n ∈ c.2.2.1, I64 n
  ul : c.2.2.1.length ≤ 100
  x : I64 c.2.2.2.1.1
  y : I64 c.2.2.2.1.2
  t : I64 c.2.2.2.2.1
  n : I64 c.2.2.2.2.2.1
  nl : c.2.2.2.2.2.2.1.size ≤ 100
theorem catI_size : ∀ (l : List Int), (∀ n ∈ l, I64 n) → (catI l).size ≤ 10 * l.length
  | [], _ => by rw [catI, size_nil]; simp
  | x :: r, h => by
    have h1 := ivT_size (h x (by simp))
    have h2 := catI_size r (fun n hn => h n (by simp [hn]))
    rw [catI, ByteArray.size_append, List.length_cons]
    omega
theorem catI_ge : ∀ (l : List Int), l.length ≤ (catI l).size
  | [] => by simp
  | x :: r => by
    have h1 := ivT_pos x
    have h2 := catI_ge r
    rw [catI, ByteArray.size_append, List.length_cons]
    omega
theorem tailC_size {c : CommandT} (h : FitC c) : (tailC c).size ≤ 151 := by
  have h1 := ivT_size h.x
  have h2 := ivT_size h.y
  have h3 := ivT_size h.t
  have h4 := ivT_size h.n
  have h5 := tvT_size (t := c.2.2.2.2.2.2.1) (by have := h.nl; omega)
  have h6 := h.nl
  unfold tailC
  simp only [ByteArray.size_append, bvT_size]
  omega
theorem uvT_size {n : Nat} (h : n < 18446744073709551616) : (uvT n).size ≤ 10 := by
  unfold uvT; rw [txt_size]; exact uvL_len10 h
theorem encC_size {c : CommandT} (h : FitC c) : (encC c).size ≤ 1200 := by
  have h1 := ivT_size h.p
  have h2 := ivT_size h.k
  have h3 := uvT_size (n := c.2.2.1.length) (by have := h.ul; omega)
  have h4 := catI_size _ h.u
  have h5 := tailC_size h
  have h6 := h.ul
  unfold encC
  simp only [ByteArray.size_append]
  omega
theorem encC_pos (c : CommandT) : 0 < (encC c).size := by
  have := ivT_pos c.1
  unfold encC
  rw [ByteArray.size_append]
  omega
section
variable {c : CommandT} (h : FitC c)
include h
theorem wEnc_j1 (X : ByteArray) (hX : X.size ≤ 3000) (h0 : 0 < X.size) : command_Encode.j1 (c.2.2.2.1.1, c.2.2.2.1.2, c.2.2.2.2.1, c.2.2.2.2.2.1) 0 c (rowOf X) = some (X ++ tailC c) := by
  have z1 := ivT_size h.x
  have z2 := ivT_size h.y
  have z3 := ivT_size h.t
  have z4 := ivT_size h.n
  have z5 := tvT_size (t := c.2.2.2.2.2.2.1) (by have := h.nl; omega)
  have z6 := h.nl
  have w1 : IntKind.i64.wrap (0 + 1) = 1 := rfl
  have w2 : IntKind.i64.wrap (1 + 1) = 2 := rfl
  have w3 : IntKind.i64.wrap (2 + 1) = 3 := rfl
  have w4 : IntKind.i64.wrap (3 + 1) = 4 := rfl
  have a1 : ∀ (a b c d : Int), idx [a, b, c, d] 0 = some a := fun _ _ _ _ => rfl
  have a2 : ∀ (a b c d : Int), idx [a, b, c, d] 1 = some b := fun _ _ _ _ => rfl
  have a3 : ∀ (a b c d : Int), idx [a, b, c, d] 2 = some c := fun _ _ _ _ => rfl
  have a4 : ∀ (a b c d : Int), idx [a, b, c, d] 3 = some d := fun _ _ _ _ => rfl
  rw [command_Encode.j1_eq, decide_eq_true (show (0 : Int) < 4 by omega), cond_true, a1, Option.bind_some, wInt _ h.x, Option.bind_some, ws1 _ _ (by omega), Option.bind_some, w1]
  simp only
  rw [command_Encode.j1_eq, decide_eq_true (show (1 : Int) < 4 by omega), cond_true, a2, Option.bind_some, wInt _ h.y, Option.bind_some, ws1 _ _ (by rw [ByteArray.size_append]; omega), Option.bind_some, w2]
  simp only
  rw [command_Encode.j1_eq, decide_eq_true (show (2 : Int) < 4 by omega), cond_true, a3, Option.bind_some, wInt _ h.t, Option.bind_some, ws1 _ _ (by simp only [ByteArray.size_append]; omega), Option.bind_some, w3]
  simp only
  rw [command_Encode.j1_eq, decide_eq_true (show (3 : Int) < 4 by omega), cond_true, a4, Option.bind_some, wInt _ h.n, Option.bind_some, ws1 _ _ (by simp only [ByteArray.size_append]; omega), Option.bind_some, w4]
  simp only
  rw [command_Encode.j1_eq, decide_eq_false (show ¬ (4 : Int) < 4 by omega), cond_false, wText _ (by omega), Option.bind_some, wBool, Option.bind_some, cond_dec, if_pos (by rw [bvT_size]; omega),
    ws1 _ _ (by simp only [ByteArray.size_append, bvT_size]; omega), Option.bind_some, str_eq _ (by simp only [ByteArray.size_append]; omega) (by simp only [ByteArray.size_append, bvT_size]; omega), Option.bind_some]
  unfold tailC
  simp only [ByteArray.append_assoc]
theorem wEnc_j0 : ∀ (m k : Nat) (X : ByteArray), k + m = c.2.2.1.length → X.size + 10 * m ≤ 2000 → 0 < X.size → command_Encode.j0 c.2.2.1 c.2.2.1.length k c (rowOf X) = some (X ++ (catI (c.2.2.1.drop k) ++ tailC c)) := by
  intro m
  induction m with
  | zero =>
    intro k X hk hX h0
    rw [command_Encode.j0_eq, lt_false (by omega), cond_false, wEnc_j1 h X (by omega) h0, List.drop_of_length_le (by omega)]
    rw [catI, nil_app]
  | succ m ih =>
    intro k X hk hX h0
    have hlt : k < c.2.2.1.length := by omega
    have hu := h.u _ (List.getElem_mem hlt)
    have hz := ivT_size hu
    have := h.ul
    rw [command_Encode.j0_eq, lt_true hlt, cond_true, idx_nat, List.getElem?_eq_getElem hlt, Option.bind_some, wInt _ hu, Option.bind_some, ws1 _ _ (by omega), Option.bind_some, wr_succ hlt (by omega)]
    simp only
    rw [ih (k + 1) _ (by omega) (by rw [ByteArray.size_append]; omega) (by rw [ByteArray.size_append]; omega), List.drop_eq_getElem_cons hlt, catI]
    simp only [ByteArray.append_assoc]
theorem wEncC : command_Encode.f c = some (encC c) := by
  have h1 := ivT_size h.p
  have h2 := ivT_size h.k
  have h3 := uvT_size (n := c.2.2.1.length) (by have := h.ul; omega)
  have h4 := ivT_pos c.1
  have h5 := h.ul
  rw [command_Encode.f_eq, wInt _ h.p, Option.bind_some, wInt _ h.k, Option.bind_some, cond_dec, if_pos (by omega), u64_nat (by omega), wUint _ (by omega), Option.bind_some, cond_dec, if_pos (by rw [ByteArray.size_append]; omega),
    ws0 _ (by simp only [ByteArray.size_append]; omega), Option.bind_some]
  simp only
  have := wEnc_j0 h c.2.2.1.length 0 (ivT c.1 ++ ivT c.2.1 ++ uvT c.2.2.1.length) (by omega) (by simp only [ByteArray.size_append]; omega) (by simp only [ByteArray.size_append]; omega)
  rw [show ((0 : Nat) : Int) = 0 from rfl] at this
  rw [this, List.drop_zero]
  unfold encC
  simp only [ByteArray.append_assoc]
theorem rEnc_j0 : ∀ (m k : Nat) (X : ByteArray), k + m = c.2.2.1.length → X.size + 10 * m ≤ 2000 → ref34_Encode.j0 X k c = some (X ++ (catI (c.2.2.1.drop k) ++ tailC c)) := by
  intro m
  induction m with
  | zero =>
    intro k X hk hX
    have z1 := ivT_size h.x
    have z2 := ivT_size h.y
    have z3 := ivT_size h.t
    have z4 := ivT_size h.n
    have z5 := tvT_size (t := c.2.2.2.2.2.2.1) (by have := h.nl; omega)
    have z6 := h.nl
    rw [ref34_Encode.j0_eq, lt_false (by omega), cond_false, rInt _ h.x, Option.bind_some, cond_dec, if_pos (by omega), rInt _ h.y, Option.bind_some, cond_dec, if_pos (by rw [ByteArray.size_append]; omega),
      rInt _ h.t, Option.bind_some, cond_dec, if_pos (by simp only [ByteArray.size_append]; omega), rInt _ h.n, Option.bind_some, cond_dec, if_pos (by simp only [ByteArray.size_append]; omega), rText _ (by omega), Option.bind_some, cond_dec, if_pos (by simp only [ByteArray.size_append]; omega),
      rBool, Option.bind_some, cond_dec, if_pos (by simp only [ByteArray.size_append, bvT_size]; omega), List.drop_of_length_le (by omega)]
    unfold tailC
    rw [catI, nil_app]
    simp only [ByteArray.append_assoc]
  | succ m ih =>
    intro k X hk hX
    have hlt : k < c.2.2.1.length := by omega
    have hu := h.u _ (List.getElem_mem hlt)
    have hz := ivT_size hu
    have := h.ul
    rw [ref34_Encode.j0_eq, lt_true hlt, cond_true, idx_nat, List.getElem?_eq_getElem hlt, Option.bind_some, rInt _ hu, Option.bind_some, cond_dec, if_pos (by omega), wr_succ hlt (by omega)]
    rw [ih (k + 1) _ (by omega) (by rw [ByteArray.size_append]; omega), List.drop_eq_getElem_cons hlt, catI]
    simp only [ByteArray.append_assoc]
theorem rEncC : ref34_Encode.f c = some (encC c) := by
  have h1 := ivT_size h.p
  have h2 := ivT_size h.k
  have h3 := uvT_size (n := c.2.2.1.length) (by have := h.ul; omega)
  have h5 := h.ul
  rw [ref34_Encode.f_eq, rInt _ h.p, Option.bind_some, rInt _ h.k, Option.bind_some, cond_dec, if_pos (by omega), u64_nat (by omega), rUint _ (by omega), Option.bind_some, cond_dec, if_pos (by rw [ByteArray.size_append]; omega)]
  have := rEnc_j0 h c.2.2.1.length 0 (ivT c.1 ++ ivT c.2.1 ++ uvT c.2.2.1.length) (by omega) (by simp only [ByteArray.size_append]; omega)
  rw [show ((0 : Nat) : Int) = 0 from rfl] at this
  rw [this, List.drop_zero]
  unfold encC
  simp only [ByteArray.append_assoc]
end
/-! ### batches -/
def catC : List CommandT → ByteArray
  | [] => ⟨#[]⟩
  | x :: r => encC x ++ catC r
def encB (b : BatchT) : ByteArray := ivT b.1 ++ (ivT b.2.1 ++ (ivT b.2.2.1 ++ (uvT (List.length (α := CommandT) b.2.2.2) ++ catC b.2.2.2)))
structure FitB (b : BatchT) : Prop where
  p : I64 b.1
  t : I64 b.2.1
  l : I64 b.2.2.1
  c : ∀ c ∈ (b.2.2.2 : List CommandT), FitC c
  cl : List.length (α := CommandT) b.2.2.2 ≤ 40
theorem catC_size : ∀ (l : List CommandT), (∀ c ∈ l, FitC c) → (catC l).size ≤ 1200 * l.length
  | [], _ => by rw [catC, size_nil]; simp
  | x :: r, h => by
    have h1 := encC_size (h x (by simp))
    have h2 := catC_size r (fun n hn => h n (by simp [hn]))
    rw [catC, ByteArray.size_append, List.length_cons]
    omega
theorem catC_ge : ∀ (l : List CommandT), l.length ≤ (catC l).size
  | [] => by simp
  | x :: r => by
    have h1 := encC_pos x
    have h2 := catC_ge r
    rw [catC, ByteArray.size_append, List.length_cons]
    omega
theorem encB_size {b : BatchT} (h : FitB b) : (encB b).size ≤ 50000 := by
  have h1 := ivT_size h.p
  have h2 := ivT_size h.t
  have h3 := ivT_size h.l
  have h4 := uvT_size (n := List.length (α := CommandT) b.2.2.2) (by have := h.cl; omega)
  have h5 := catC_size _ h.c
  have h6 := h.cl
  unfold encB
  simp only [ByteArray.size_append]
  omega
theorem wEncB_j (cs : List CommandT) (hc : ∀ c ∈ cs, FitC c) (hl : cs.length ≤ 40) : ∀ (m k : Nat) (X : ByteArray), k + m = cs.length → X.size + 1200 * m ≤ 100000 → 0 < X.size → input_Encode.j0 cs cs.length k (rowOf X) = some (X ++ catC (cs.drop k)) := by
  intro m
  induction m with
  | zero =>
    intro k X hk hX h0
    rw [input_Encode.j0_eq, lt_false (by omega), cond_false, str_eq _ h0 (by omega), Option.bind_some, List.drop_of_length_le (by omega), catC, app_nil]
  | succ m ih =>
    intro k X hk hX h0
    have hlt : k < cs.length := by omega
    have hu := hc _ (List.getElem_mem hlt)
    have hz := encC_size hu
    rw [input_Encode.j0_eq, lt_true hlt, cond_true, idx_nat, List.getElem?_eq_getElem hlt, Option.bind_some, wEncC hu, Option.bind_some, ws1 _ _ (by omega), Option.bind_some, wr_succ hlt (by omega)]
    simp only
    rw [ih (k + 1) _ (by omega) (by rw [ByteArray.size_append]; omega) (by rw [ByteArray.size_append]; omega), List.drop_eq_getElem_cons hlt, catC, ByteArray.append_assoc]
theorem wEncB {b : BatchT} (h : FitB b) : input_Encode.f b = some (encB b) := by
  have h1 := ivT_size h.p
  have h2 := ivT_size h.t
  have h3 := ivT_size h.l
  have h4 := uvT_size (n := List.length (α := CommandT) b.2.2.2) (by have := h.cl; omega)
  have h5 := ivT_pos b.1
  have h6 := h.cl
  rw [input_Encode.f_eq, wInt _ h.p, Option.bind_some, wInt _ h.t, Option.bind_some, cond_dec, if_pos (by omega), wInt _ h.l, Option.bind_some, cond_dec, if_pos (by rw [ByteArray.size_append]; omega), u64_nat (by omega), wUint _ (by omega), Option.bind_some, cond_dec, if_pos (by simp only [ByteArray.size_append]; omega),
    ws0 _ (by simp only [ByteArray.size_append]; omega), Option.bind_some]
  simp only
  have := wEncB_j b.2.2.2 h.c h6 (List.length (α := CommandT) b.2.2.2) 0 (ivT b.1 ++ ivT b.2.1 ++ ivT b.2.2.1 ++ uvT (List.length (α := CommandT) b.2.2.2)) (by omega) (by simp only [ByteArray.size_append]; omega) (by simp only [ByteArray.size_append]; omega)
  rw [show ((0 : Nat) : Int) = 0 from rfl] at this
  rw [this, List.drop_zero]
  unfold encB
  simp only [ByteArray.append_assoc]
theorem rEncB_j {b : BatchT} (h : FitB b) : ∀ (m k : Nat) (X : ByteArray), k + m = List.length (α := CommandT) b.2.2.2 → X.size + 1200 * m ≤ 100000 → ref46_Encode.j0 X k b = some (X ++ catC (List.drop (α := CommandT) k b.2.2.2)) := by
  have hl := h.cl
  intro m
  induction m with
  | zero =>
    intro k X hk hX
    rw [ref46_Encode.j0_eq, lt_false (by omega), cond_false, List.drop_of_length_le (by omega), catC, app_nil]
  | succ m ih =>
    intro k X hk hX
    have hlt : k < List.length (α := CommandT) b.2.2.2 := by omega
    have hu := h.c _ (List.getElem_mem hlt)
    have hz := encC_size hu
    rw [ref46_Encode.j0_eq, lt_true hlt, cond_true, idx_nat, List.getElem?_eq_getElem hlt, Option.bind_some, rEncC hu, Option.bind_some, cond_dec, if_pos (by omega), wr_succ hlt (by omega)]
    rw [ih (k + 1) _ (by omega) (by rw [ByteArray.size_append]; omega), List.drop_eq_getElem_cons hlt, catC, ByteArray.append_assoc]
theorem rEncB {b : BatchT} (h : FitB b) : ref46_Encode.f b = some (encB b) := by
  have h1 := ivT_size h.p
  have h2 := ivT_size h.t
  have h3 := ivT_size h.l
  have h4 := uvT_size (n := List.length (α := CommandT) b.2.2.2) (by have := h.cl; omega)
  have h6 := h.cl
  rw [ref46_Encode.f_eq, rInt _ h.p, Option.bind_some, rInt _ h.t, Option.bind_some, cond_dec, if_pos (by omega), rInt _ h.l, Option.bind_some, cond_dec, if_pos (by rw [ByteArray.size_append]; omega), u64_nat (by omega), rUint _ (by omega), Option.bind_some, cond_dec, if_pos (by simp only [ByteArray.size_append]; omega)]
  have := rEncB_j h (List.length (α := CommandT) b.2.2.2) 0 (ivT b.1 ++ ivT b.2.1 ++ ivT b.2.2.1 ++ uvT (List.length (α := CommandT) b.2.2.2)) (by omega) (by simp only [ByteArray.size_append]; omega)
  rw [show ((0 : Nat) : Int) = 0 from rfl] at this
  rw [this, List.drop_zero]
  unfold encB
  simp only [ByteArray.append_assoc]
end Go.Proofs.Ytnjngpkldifjlaa

/- Valid commands and batches; equality. -/
set_option linter.unusedVariables false
set_option linter.unusedSimpArgs false
set_option maxHeartbeats 4000000
namespace Go.Proofs.Ytnjngpkldifjlaa
open Go Go.Sk

/-! ### kinds -/
def kO (k : Int) : Bool := decide (k ≥ 1) && decide (k ≤ 6)
def kS (k : Int) : Bool := decide (k ≥ 7) && decide (k ≤ 9)
def kA (k : Int) : Bool := k == 1 || (k == 3 || (k == 4 || k == 6))
def kN (k : Int) : Bool := k == 1 || k == 9
def kM (k : Int) : Bool := k == 4 || (k == 7 || k == 8)
theorem cc {α : Type} (a t : Bool) (x y : α) : (bif a then x else bif t then x else y) = bif (a || t) then x else y := by cases a <;> cases t <;> rfl
theorem ord_eq (k : Int) : ref34_Ordering.f k = some (kO k) := by rw [ref34_Ordering.f_eq, c1]; rfl
theorem single_eq (k : Int) : ref34_single.f k = some (kS k) := by rw [ref34_single.f_eq, c1]; rfl
theorem hasAt_eq (k : Int) : ref34_hasAt.f k = some (kA k) := by rw [ref34_hasAt.f_eq, c2, c2, c2]; rfl
theorem hasN_eq (k : Int) : ref34_hasN.f k = some (kN k) := by rw [ref34_hasN.f_eq, c2]; rfl
theorem hasName_eq (k : Int) : ref34_hasName.f k = some (kM k) := by rw [ref34_hasName.f_eq, c2, c2]; rfl
def bit (f m : Int) : Bool := IntKind.i64.wrap (((BitVec.ofInt 64 f &&& BitVec.ofInt 64 m).toNat : Nat) : Int) != 0
structure Fd (k f : Int) : Prop where
  eq : command_fields.f k = some f
  b1 : bit f 1 = (kO k || kS k)
  b2 : bit f 2 = kA k
  b4 : bit f 4 = (k == 2)
  b8 : bit f 8 = kN k
  b16 : bit f 16 = kM k
  b32 : bit f 32 = kO k
theorem fields_eq (k : Int) (h1 : 1 ≤ k) (h2 : k ≤ 12) : ∃ f, Fd k f := by
  have hk : k = 1 ∨ k = 2 ∨ k = 3 ∨ k = 4 ∨ k = 5 ∨ k = 6 ∨ k = 7 ∨ k = 8 ∨ k = 9 ∨ k = 10 ∨ k = 11 ∨ k = 12 := by omega
  rcases hk with rfl | rfl | rfl | rfl | rfl | rfl | rfl | rfl | rfl | rfl | rfl | rfl
  · exact ⟨43, command_fields.f_eq _, rfl, rfl, rfl, rfl, rfl, rfl⟩
  · exact ⟨37, command_fields.f_eq _, rfl, rfl, rfl, rfl, rfl, rfl⟩
  · exact ⟨35, command_fields.f_eq _, rfl, rfl, rfl, rfl, rfl, rfl⟩
  · exact ⟨51, command_fields.f_eq _, rfl, rfl, rfl, rfl, rfl, rfl⟩
  · exact ⟨33, command_fields.f_eq _, rfl, rfl, rfl, rfl, rfl, rfl⟩
  · exact ⟨35, command_fields.f_eq _, rfl, rfl, rfl, rfl, rfl, rfl⟩
  · exact ⟨17, command_fields.f_eq _, rfl, rfl, rfl, rfl, rfl, rfl⟩
  · exact ⟨17, command_fields.f_eq _, rfl, rfl, rfl, rfl, rfl, rfl⟩
  · exact ⟨9, command_fields.f_eq _, rfl, rfl, rfl, rfl, rfl, rfl⟩
  · exact ⟨0, command_fields.f_eq _, rfl, rfl, rfl, rfl, rfl, rfl⟩
  · exact ⟨0, command_fields.f_eq _, rfl, rfl, rfl, rfl, rfl, rfl⟩
  · exact ⟨0, command_fields.f_eq _, rfl, rfl, rfl, rfl, rfl, rfl⟩
/-! ### fields that a kind does not have -/
def bareS (c : CommandT) : Bool :=
  ((kO c.2.1 || kS c.2.1) || ((c.2.2.1.length : Int) == 0)) && ((kA c.2.1 || (c.2.2.2.1.1 == 0 && c.2.2.2.1.2 == 0)) && (((c.2.1 == 2) || (c.2.2.2.2.1 == 0)) && ((kN c.2.1 || (c.2.2.2.2.2.1 == 0)) && ((kM c.2.1 || (ByteArray.toList c.2.2.2.2.2.2.1 == ByteArray.toList { data := #[] })) && (kO c.2.1 || !c.2.2.2.2.2.2.2)))))
theorem rBare (c : CommandT) : ref34_bare.f c = some (bareS c) := by
  rw [ref34_bare.f_eq]
  simp only [ord_eq, single_eq, Option.bind_some]
  rw [show (bif kO c.2.1 then ref34_bare.j0 true c else ref34_bare.j0 (kS c.2.1) c) = ref34_bare.j0 (kO c.2.1 || kS c.2.1) c by cases kO c.2.1 <;> rfl]
  rw [ref34_bare.j0_eq]
  simp only [ord_eq, single_eq, hasAt_eq, hasN_eq, hasName_eq, Option.bind_some, ref34_bare.j1_eq, cc, c2]
  simp only [c1]
  rfl
theorem wUnused (c : CommandT) (f : Int) (h : Fd c.2.1 f) : command_unused.f c = some (bareS c) := by
  have h1 := h.b1
  have h2 := h.b2
  have h3 := h.b4
  have h4 := h.b8
  have h5 := h.b16
  have h6 := h.b32
  unfold bit at h1 h2 h3 h4 h5 h6
  rw [command_unused.f_eq, h.eq, Option.bind_some, h1, h2, h3, h4, h5, h6]
  simp only [command_unused.j0_eq, cc, c2]
  simp only [c1]
  rfl
/-! ### units, places, names -/
noncomputable def idsS (c : CommandT) : Bool := (ref34_listed.f c).getD false
theorem ids_j (c : CommandT) (hl : c.2.2.1.length ≤ 1000000) (hk1 : 1 ≤ c.2.1) (hk2 : c.2.1 ≤ 12) : ∀ (m k : Nat), k + m = c.2.2.1.length → ∃ b, command_ids.j0 c.2.2.1 c.2.2.1.length k c = some b ∧ ref34_listed.j0 k c = some b := by
  intro m
  induction m with
  | zero =>
    intro k hk
    rw [command_ids.j0_eq, ref34_listed.j0_eq, lt_false (by omega), cond_false, cond_false, single_eq]
    refine ⟨decide ((c.2.2.1.length : Int) > 0) && (!kS c.2.1 || (c.2.2.1.length : Int) == 1), ?_, ?_⟩
    · have e : kS c.2.1 = (c.2.1 == 7 || (c.2.1 == 8 || c.2.1 == 9)) := by
        unfold kS
        simp only [beq_dec, ← Bool.decide_and, ← Bool.decide_or]
        exact decide_eq_decide.2 (by omega)
      rw [e]
      cases c.2.1 == 7 <;> cases c.2.1 == 8 <;> cases c.2.1 == 9 <;> cases decide ((c.2.2.1.length : Int) > 0) <;> cases (c.2.2.1.length : Int) == 1 <;> rfl
    · cases kS c.2.1 <;> cases decide ((c.2.2.1.length : Int) > 0) <;> cases (c.2.2.1.length : Int) == 1 <;> rfl
  | succ m ih =>
    intro k hk
    have hlt : k < c.2.2.1.length := by omega
    obtain ⟨b, h1, h2⟩ := ih (k + 1) (by omega)
    rw [command_ids.j0_eq, ref34_listed.j0_eq, lt_true hlt, cond_true, cond_true, idx_nat, List.getElem?_eq_getElem hlt]
    simp only [Option.bind_some, wr_succ hlt (show c.2.2.1.length ≤ 9223372036854775807 by omega), h1, h2]
    by_cases h0 : 0 < k
    · rw [prev_idx _ k hlt (by omega) h0]
      simp only [Option.bind_some]
      generalize decide (c.2.2.1[k] < 1) = b1
      generalize decide (c.2.2.1[k] > 1099511627776) = b2
      generalize decide (c.2.2.1[k] ≤ c.2.2.1[k - 1]) = b3
      generalize decide ((k : Int) > 0) = b4
      refine ⟨bif b1 then false else bif b2 then false else bif b4 then (bif b3 then false else b) else b, ?_, ?_⟩ <;> (cases b1 <;> cases b2 <;> cases b3 <;> cases b4 <;> rfl)
    · rw [decide_eq_false (show ¬ (k : Int) > 0 by omega)]
      simp only [cond_false]
      generalize decide (c.2.2.1[k] < 1) = b1
      generalize decide (c.2.2.1[k] > 1099511627776) = b2
      refine ⟨bif b1 then false else bif b2 then false else b, ?_, ?_⟩ <;> (cases b1 <;> cases b2 <;> rfl)
theorem ids_eq (c : CommandT) (hl : c.2.2.1.length ≤ 1000000) (hk1 : 1 ≤ c.2.1) (hk2 : c.2.1 ≤ 12) : command_ids.f c = some (idsS c) ∧ ref34_listed.f c = some (idsS c) := by
  obtain ⟨b, h1, h2⟩ := ids_j c hl hk1 hk2 _ 0 (Nat.zero_add _)
  unfold idsS
  rw [command_ids.f_eq, ref34_listed.f_eq]
  rw [show ((0 : Nat) : Int) = 0 from rfl] at h1 h2
  rw [h1, h2]
  exact ⟨rfl, rfl⟩
def vecS (a : VecT) : Bool := decide (-1048576 ≤ a.1 ∧ a.1 ≤ 1048576) && decide (-1048576 ≤ a.2 ∧ a.2 ≤ 1048576)
theorem wVec (a : VecT) : vec_Valid.f a = some (vecS a) := by
  rw [vec_Valid.f_eq, vec_nearest.f_eq, vec_near.f_eq, vec_near.f_eq, num_Clamp.f_eq, num_Clamp.f_eq]
  simp only [Option.bind_some, vecS]
  congr 2
  · rw [beq_dec]
    apply decide_eq_decide.2
    split <;> split at * <;> omega
  · rw [beq_dec]
    apply decide_eq_decide.2
    split <;> split at * <;> omega
theorem rVec (a : VecT) : ref02_Valid.f a = some (vecS a) := by
  rw [ref02_Valid.f_eq, ref02_NearVec.f_eq, ref02_Near.f_eq, ref02_Near.f_eq]
  simp only [Option.bind_some, vecS]
  congr 2
  · rw [beq_dec]
    apply decide_eq_decide.2
    split <;> split at * <;> omega
  · rw [beq_dec]
    apply decide_eq_decide.2
    split <;> split at * <;> omega
noncomputable def nameS (s : ByteArray) : Bool := (ref09_Name.f s).getD false
theorem name_j (s : ByteArray) (hs : s.size ≤ 1000000) : ∀ (m k : Nat), k + m = s.size → ∃ b, rules_Name.j0 s s.size k = some b ∧ ref09_Name.j0 s k = some b := by
  intro m
  induction m with
  | zero =>
    intro k hk
    rw [rules_Name.j0_eq, ref09_Name.j0_eq, lt_false (by omega), cond_false, cond_false]
    exact ⟨true, rfl, rfl⟩
  | succ m ih =>
    intro k hk
    have hlt : k < s.size := by omega
    obtain ⟨b, h1, h2⟩ := ih (k + 1) (by omega)
    rw [rules_Name.j0_eq, ref09_Name.j0_eq, lt_true hlt, cond_true, cond_true, byteAt_nat s k hlt]
    simp only [Option.bind_some, wr_succ hlt (show s.size ≤ 9223372036854775807 by omega), h1, h2]
    generalize ((s[k].toNat : Nat) : Int) = c
    have a1 : decide (c ≥ 97) = !decide (c < 97) := by rw [← decide_not]; exact decide_eq_decide.2 (by omega)
    have a2 : (!decide (c ≤ 122)) = decide (c > 122) := by rw [← decide_not]; exact decide_eq_decide.2 (by omega)
    have a3 : decide (c ≥ 48) = !decide (c < 48) := by rw [← decide_not]; exact decide_eq_decide.2 (by omega)
    have a4 : (!decide (c ≤ 57)) = decide (c > 57) := by rw [← decide_not]; exact decide_eq_decide.2 (by omega)
    rw [a1, a2, a3, a4]
    generalize decide (c < 97) = b1
    generalize decide (c > 122) = b2
    generalize decide (c < 48) = b3
    generalize decide (c > 57) = b4
    generalize (c != 95) = b5
    refine ⟨bif (b1 || b2) && (b3 || b4) && b5 then false else b, ?_, ?_⟩ <;> (cases b1 <;> cases b2 <;> cases b3 <;> cases b4 <;> cases b5 <;> rfl)
theorem name_eq (s : ByteArray) (hs : s.size ≤ 1000000) : rules_Name.f s = some (nameS s) ∧ ref09_Name.f s = some (nameS s) := by
  have key : ∃ b, rules_Name.f s = some b ∧ ref09_Name.f s = some b := by
    rw [rules_Name.f_eq, ref09_Name.f_eq, empty_iff]
    by_cases h0 : s.size = 0
    · rw [decide_eq_true h0, decide_eq_true (show (s.size : Int) < 1 by omega)]
      exact ⟨false, rfl, rfl⟩
    rw [decide_eq_false h0, decide_eq_false (show ¬ (s.size : Int) < 1 by omega), cond_false, cond_false]
    obtain ⟨b, h1, h2⟩ := name_j s hs s.size 0 (by omega)
    rw [show ((0 : Nat) : Int) = 0 from rfl] at h1 h2
    rw [h1, h2]
    have h3 := byteAt_nat s 0 (by omega)
    rw [show ((0 : Nat) : Int) = 0 from rfl] at h3
    rw [h3]
    simp only [Option.bind_some]
    generalize decide ((s.size : Int) > 12) = b1
    generalize decide (((s[0].toNat : Nat) : Int) < 97) = b2
    generalize decide (((s[0].toNat : Nat) : Int) > 122) = b3
    refine ⟨bif b1 then false else bif b2 then false else bif b3 then false else b, ?_, ?_⟩ <;> (cases b1 <;> cases b2 <;> cases b3 <;> rfl)
  obtain ⟨b, h1, h2⟩ := key
  unfold nameS
  rw [h2, h1]
  exact ⟨rfl, rfl⟩
theorem name_len (s : ByteArray) (h : nameS s = true) : s.size ≤ 12 := by
  unfold nameS at h
  rw [ref09_Name.f_eq] at h
  rcases Nat.lt_or_ge 12 s.size with h1 | h1
  · rw [decide_eq_false (show ¬ (s.size : Int) < 1 by omega), decide_eq_true (show (s.size : Int) > 12 by omega)] at h
    exact absurd h (by simp)
  · exact h1
/-! ### valid commands -/
noncomputable def valC (c : CommandT) : Int :=
  bif decide (c.2.1 < 1) || (decide (c.2.1 > 12) || (decide (c.1 < 1) || (decide (c.1 > 6) || !bareS c))) then 1
  else bif decide ((c.2.2.1.length : Int) > 64) then 2
  else bif (kO c.2.1 || kS c.2.1) && !idsS c then 1
  else bif kA c.2.1 && !vecS c.2.2.2.1 then 1
  else bif (c.2.1 == 2) && (decide (c.2.2.2.2.1 < 1) || decide (c.2.2.2.2.1 > 1099511627776)) then 1
  else bif kN c.2.1 && (decide (c.2.2.2.2.2.1 < 0) || decide (c.2.2.2.2.2.1 > 4)) then 1
  else bif kM c.2.1 && !nameS c.2.2.2.2.2.2.1 then 6 else 0
structure LenC (c : CommandT) : Prop where
  ul : c.2.2.1.length ≤ 100
  nl : c.2.2.2.2.2.2.1.size ≤ 100
theorem cf {α : Type} (g : Bool → α) (a x : Bool) : (bif a then g x else g false) = g (a && x) := by cases a <;> rfl
theorem ct {α : Type} (g : Bool → α) (a x : Bool) : (bif a then g true else g x) = g (a || x) := by cases a <;> rfl
theorem some_cond {α : Type} (a : Bool) (x y : α) : (bif a then some x else some y) = some (bif a then x else y) := by cases a <;> rfl
theorem wValC (c : CommandT) (h : LenC c) : command_Valid.f c = some (valC c) := by
  have hl1 := h.ul
  have hl2 := h.nl
  rw [command_Valid.f_eq]
  by_cases h1 : c.2.1 < 1
  · unfold valC
    rw [decide_eq_true h1, cond_true, command_Valid.j0_eq]
    rfl
  by_cases h2 : c.2.1 > 12
  · unfold valC
    rw [decide_eq_false h1, cond_false, decide_eq_true h2, cond_true, command_Valid.j0_eq]
    rfl
  obtain ⟨f, hf⟩ := fields_eq c.2.1 (by omega) (by omega)
  have e1 := hf.b1
  have e2 := hf.b2
  have e4 := hf.b4
  have e8 := hf.b8
  have e16 := hf.b16
  unfold bit at e1 e2 e4 e8 e16
  have hids := (ids_eq c (by omega) (by omega) (by omega)).1
  have hname := (name_eq c.2.2.2.2.2.2.1 (by omega)).1
  have j3 : ∀ b, command_Valid.j3 f b c = some (bif b then 1 else bif kM c.2.1 && !nameS c.2.2.2.2.2.2.1 then 6 else 0) := fun b => by
    rw [command_Valid.j3_eq, e16, hname]
    simp only [Option.bind_some, command_Valid.j5_eq, some_cond]
    congr 1
    cases b <;> cases kM c.2.1 <;> rfl
  have j9 : ∀ b, command_Valid.j9 f b c = command_Valid.j3 f b c := fun b => by rw [command_Valid.j9_eq, command_Valid.j8_eq, command_Valid.j6_eq]
  have j7 : ∀ b, command_Valid.j7 f 4 b c = some (bif b then 1 else bif kN c.2.1 && (decide (c.2.2.2.2.2.1 < 0) || decide (c.2.2.2.2.2.1 > 4)) then 1 else bif kM c.2.1 && !nameS c.2.2.2.2.2.2.1 then 6 else 0) := fun b => by
    rw [command_Valid.j7_eq, e8, command_Valid.j8_eq, command_Valid.j6_eq, j9, j9, j9, ct (fun b => command_Valid.j3 f b c), cf (fun b => command_Valid.j3 f b c), j3, j3, some_cond]
    congr 1
    cases b <;> rfl
  have j4 : ∀ b, command_Valid.j4 f 4 b c = some (bif b then 1 else bif (c.2.1 == 2) && (decide (c.2.2.2.2.1 < 1) || decide (c.2.2.2.2.1 > 1099511627776)) then 1 else bif kN c.2.1 && (decide (c.2.2.2.2.2.1 < 0) || decide (c.2.2.2.2.2.1 > 4)) then 1 else bif kM c.2.1 && !nameS c.2.2.2.2.2.2.1 then 6 else 0) := fun b => by
    rw [command_Valid.j4_eq, e4, command_Valid.j6_eq, ct (fun b => command_Valid.j7 f 4 b c), cf (fun b => command_Valid.j7 f 4 b c), j7, j3, some_cond]
    congr 1
    cases b <;> rfl
  have j2 : ∀ b, command_Valid.j2 f 4 b c = some (bif b then 1 else bif kA c.2.1 && !vecS c.2.2.2.1 then 1 else bif (c.2.1 == 2) && (decide (c.2.2.2.2.1 < 1) || decide (c.2.2.2.2.1 > 1099511627776)) then 1 else bif kN c.2.1 && (decide (c.2.2.2.2.2.1 < 0) || decide (c.2.2.2.2.2.1 > 4)) then 1 else bif kM c.2.1 && !nameS c.2.2.2.2.2.2.1 then 6 else 0) := fun b => by
    rw [command_Valid.j2_eq, e2, wVec, Option.bind_some, cf (fun b => command_Valid.j4 f 4 b c), j4, j3, some_cond]
    congr 1
    cases b <;> rfl
  rw [decide_eq_false h1, cond_false, decide_eq_false h2, cond_false, wUnused c f hf, Option.bind_some, ct (fun b => command_Valid.j0 b c), ct (fun b => command_Valid.j0 b c), command_Valid.j0_eq, hf.eq, Option.bind_some, command_Valid.j1_eq, e1, hids, Option.bind_some,
    cf (fun b => command_Valid.j2 f 4 b c), j2]
  unfold valC
  rw [decide_eq_false h1, decide_eq_false h2, Bool.false_or, Bool.false_or]
  rw [show ∀ (a : Bool) (x : Option Int), (bif a then x else x) = x from fun a x => by cases a <;> rfl, some_cond, some_cond]
theorem rValC (c : CommandT) (h : LenC c) : ref34_Valid.f c = some (valC c) := by
  have hl1 := h.ul
  have hl2 := h.nl
  rw [ref34_Valid.f_eq]
  by_cases h1 : c.2.1 < 1
  · unfold valC
    rw [decide_eq_true h1, cond_true, ref34_Valid.j0_eq]
    rfl
  by_cases h2 : c.2.1 > 12
  · unfold valC
    rw [decide_eq_false h1, cond_false, decide_eq_true h2, cond_true, ref34_Valid.j0_eq]
    rfl
  have hids := (ids_eq c (by omega) (by omega) (by omega)).2
  have hname := (name_eq c.2.2.2.2.2.2.1 (by omega)).2
  have j5 : ∀ b, ref34_Valid.j5 b c = some (bif b then 1 else bif kM c.2.1 && !nameS c.2.2.2.2.2.2.1 then 6 else 0) := fun b => by
    rw [ref34_Valid.j5_eq, hasName_eq, Option.bind_some, hname]
    simp only [Option.bind_some, ref34_Valid.j6_eq, some_cond]
    congr 1
    cases b <;> cases kM c.2.1 <;> rfl
  have j4 : ∀ b, ref34_Valid.j4 4 b c = some (bif b then 1 else bif kN c.2.1 && (decide (c.2.2.2.2.2.1 < 0) || decide (c.2.2.2.2.2.1 > 4)) then 1 else bif kM c.2.1 && !nameS c.2.2.2.2.2.2.1 then 6 else 0) := fun b => by
    rw [ref34_Valid.j4_eq, hasN_eq, Option.bind_some, ct (fun b => ref34_Valid.j5 b c), cf (fun b => ref34_Valid.j5 b c), j5, some_cond]
  have j3 : ∀ b, ref34_Valid.j3 4 b c = some (bif b then 1 else bif (c.2.1 == 2) && (decide (c.2.2.2.2.1 < 1) || decide (c.2.2.2.2.1 > 1099511627776)) then 1 else bif kN c.2.1 && (decide (c.2.2.2.2.2.1 < 0) || decide (c.2.2.2.2.2.1 > 4)) then 1 else bif kM c.2.1 && !nameS c.2.2.2.2.2.2.1 then 6 else 0) := fun b => by
    rw [ref34_Valid.j3_eq, ct (fun b => ref34_Valid.j4 4 b c), cf (fun b => ref34_Valid.j4 4 b c), j4, some_cond]
  have j2 : ∀ b, ref34_Valid.j2 4 b c = some (bif b then 1 else bif kA c.2.1 && !vecS c.2.2.2.1 then 1 else bif (c.2.1 == 2) && (decide (c.2.2.2.2.1 < 1) || decide (c.2.2.2.2.1 > 1099511627776)) then 1 else bif kN c.2.1 && (decide (c.2.2.2.2.2.1 < 0) || decide (c.2.2.2.2.2.1 > 4)) then 1 else bif kM c.2.1 && !nameS c.2.2.2.2.2.2.1 then 6 else 0) := fun b => by
    rw [ref34_Valid.j2_eq, hasAt_eq, Option.bind_some, rVec, Option.bind_some, cf (fun b => ref34_Valid.j3 4 b c), j3, some_cond]
  have j1 : ref34_Valid.j1 4 c = ref34_Valid.j2 4 ((kO c.2.1 || kS c.2.1) && !idsS c) c := by
    rw [ref34_Valid.j1_eq, ord_eq, Option.bind_some, single_eq, Option.bind_some, hids, Option.bind_some]
    cases kO c.2.1 <;> cases kS c.2.1 <;> rfl
  rw [decide_eq_false h1, cond_false, decide_eq_false h2, cond_false, rBare c, Option.bind_some, ct (fun b => ref34_Valid.j0 b c), ct (fun b => ref34_Valid.j0 b c), ref34_Valid.j0_eq, j1, j2]
  unfold valC
  rw [decide_eq_false h1, decide_eq_false h2, Bool.false_or, Bool.false_or]
  rw [show ∀ (a : Bool) (x : Option Int), (bif a then x else x) = x from fun a x => by cases a <;> rfl, some_cond, some_cond]
end Go.Proofs.Ytnjngpkldifjlaa

/- When commands and batches are the same (exactly if they are equal), and when a batch is valid. -/
set_option linter.unusedVariables false
set_option linter.unusedSimpArgs false
set_option maxHeartbeats 4000000
namespace Go.Proofs.Ytnjngpkldifjlaa
open Go Go.Sk
abbrev lim48 : Nat := 2000000
theorem slEqual_eq (a b : List Int) (ha : a.length ≤ lim48) : slices_Equal.f a b = some (decide (a = b)) := by
  have ha' : a.length ≤ 2000000 := ha
  rw [slices_Equal.f_eq]
  cases hl : ((a.length : Int) != (b.length : Int)) with
  | true => rw [cond_true, decide_eq_false fun h => (len_ne a b).1 hl (by rw [h])]
  | false =>
    have hl' := len_eq hl
    rw [cond_false]
    obtain ⟨r, h1, h2⟩ := equal_loop a b hl' (fun i => slices_Equal.j0 a b a.length i) (fun k h1 h2 => by
      rw [slices_Equal.j0_eq, lt_true h1, cond_true, idx_nat, idx_nat, List.getElem?_eq_getElem h1, List.getElem?_eq_getElem h2, Option.bind_some, Option.bind_some, wr_succ h1 (by omega)]
      exact ⟨fun h => by rw [bne_iff_ne.2 h]; rfl, fun h => by rw [h, bne_self_eq_false]; rfl⟩) (by
      rw [slices_Equal.j0_eq, lt_false (Nat.le_refl _), cond_false])
    exact h1.trans (some_iff h2)
instance dec1 : DecidableEq (Int × Int × ByteArray × Bool) := inferInstance
instance dec2 : DecidableEq ((Int × Int) × Int × Int × ByteArray × Bool) := inferInstance
instance dec3 : DecidableEq (Int × List Int × (Int × Int) × Int × Int × ByteArray × Bool) := inferInstance
instance dec4 : DecidableEq CommandT := inferInstance
instance dec5 : DecidableEq (Int × List CommandT) := inferInstance
instance dec6 : DecidableEq BatchT := inferInstance
def BatL (b : BatchT) : Prop := b.2.2.2.length ≤ lim48 ∧ ∀ c ∈ b.2.2.2, LenC c

theorem cmdSame_eq (a b : CommandT) (ha : LenC a) : command_Same.f a b = some (decide (a = b)) := by
  obtain ⟨p, k, u, ⟨x, y⟩, t, n, nm, q⟩ := a
  obtain ⟨p', k', u', ⟨x', y'⟩, t', n', nm', q'⟩ := b
  rw [command_Same.f_eq, slEqual_eq _ _ (by have := ha.ul; unfold lim48; omega)]
  simp only [Option.bind_some, c1, toList_beq, beq_dec, ← Bool.decide_and]
  congr 1
  apply decide_eq_decide.2
  simp only [Prod.mk.injEq]
theorem rcmdSame_eq (a b : CommandT) (ha : LenC a) : ref34_Same.f a b = some (decide (a = b)) := by
  have hu : a.2.2.1.length ≤ 2000000 := by have := ha.ul; omega
  rw [ref34_Same.f_eq]
  have hloop : a.2.2.1.length = b.2.2.1.length → ref34_Same.j0 0 a b = some (decide (a.2.2.1 = b.2.2.1)) := fun hl => by
    refine equal_fun (eqf := fun x y => some (decide (x = y))) a.2.2.1 b.2.2.1 (fun _ _ _ => rfl) (fun i => ref34_Same.j0 i a b) hl (fun k h1 h2 => ?_) ?_
    · rw [ref34_Same.j0_eq, lt_true h1, cond_true, idx_nat, idx_nat, List.getElem?_eq_getElem h1, List.getElem?_eq_getElem h2, Option.bind_some, Option.bind_some, wr_succ h1 (by omega), bne_dec]
      rfl
    · rw [ref34_Same.j0_eq, lt_false (Nat.le_refl _), cond_false]
  have hlen : (bif ((a.2.2.1.length : Int) != (b.2.2.1.length : Int)) then some false else ref34_Same.j0 0 a b) = some (decide (a.2.2.1 = b.2.2.1)) := by
    cases hl : ((a.2.2.1.length : Int) != (b.2.2.1.length : Int)) with
    | true => rw [cond_true, decide_eq_false fun h => (len_ne _ _).1 hl (by rw [h])]
    | false => exact hloop (len_eq hl)
  rw [hlen]
  clear hlen hloop hu ha
  obtain ⟨p, k, u, ⟨x, y⟩, t, n, nm, q⟩ := a
  obtain ⟨p', k', u', ⟨x', y'⟩, t', n', nm', q'⟩ := b
  simp only [c4, toList_beq, beq_dec, bne_dec, Bool.not_not, ← Bool.decide_and]
  congr 1
  apply decide_eq_decide.2
  simp only [Prod.mk.injEq]
  constructor
  · rintro ⟨h1, h2, ⟨h4, h5⟩, h6, h7, h8, h9, h3⟩
    exact ⟨h1, h2, h3, ⟨h4, h5⟩, h6, h7, h8, h9⟩
  · rintro ⟨h1, h2, h3, ⟨h4, h5⟩, h6, h7, h8, h9⟩
    exact ⟨h1, h2, ⟨h4, h5⟩, h6, h7, h8, h9, h3⟩

theorem equalCmds_eq (a b : List CommandT) (ha : a.length ≤ lim48) (hc : ∀ c ∈ a, LenC c) : slices_EqualFunc.f a b = some (decide (a = b)) := by
  have ha' : a.length ≤ 2000000 := ha
  rw [slices_EqualFunc.f_eq]
  cases hl : ((a.length : Int) != (b.length : Int)) with
  | true => rw [cond_true, decide_eq_false fun h => (len_ne a b).1 hl (by rw [h])]
  | false =>
    refine equal_fun (eqf := command_Same.f) a b (fun x hx y => cmdSame_eq x y (hc x hx)) (fun i => slices_EqualFunc.j0 b a a.length i) (len_eq hl) (fun k h1 h2 => ?_) ?_
    · rw [slices_EqualFunc.j0_eq, lt_true h1, cond_true, idx_nat, idx_nat, List.getElem?_eq_getElem h1, List.getElem?_eq_getElem h2, Option.bind_some, Option.bind_some, wr_succ h1 (by omega)]
    · rw [slices_EqualFunc.j0_eq, lt_false (Nat.le_refl _), cond_false]
theorem sameCmds_eq (a b : List CommandT) (ha : a.length ≤ lim48) (hc : ∀ c ∈ a, LenC c) : ref46_SameCommands.f a b = some (decide (a = b)) := by
  have ha' : a.length ≤ 2000000 := ha
  rw [ref46_SameCommands.f_eq]
  cases hl : ((a.length : Int) != (b.length : Int)) with
  | true => rw [cond_true, decide_eq_false fun h => (len_ne a b).1 hl (by rw [h])]
  | false =>
    refine equal_fun (eqf := ref34_Same.f) a b (fun x hx y => rcmdSame_eq x y (hc x hx)) (fun i => ref46_SameCommands.j0 a b i) (len_eq hl) (fun k h1 h2 => ?_) ?_
    · rw [ref46_SameCommands.j0_eq, lt_true h1, cond_true, idx_nat, idx_nat, List.getElem?_eq_getElem h1, List.getElem?_eq_getElem h2, Option.bind_some, Option.bind_some, wr_succ h1 (by omega)]
    · rw [ref46_SameCommands.j0_eq, lt_false (Nat.le_refl _), cond_false]
theorem batSame_eq (a b : BatchT) (ha : BatL a) : input_Same.f a b = some (decide (a = b)) := by
  rw [input_Same.f_eq, equalCmds_eq _ _ ha.1 ha.2]
  obtain ⟨p, t, l, c⟩ := a
  obtain ⟨p', t', l', c'⟩ := b
  simp only [Option.bind_some, c1, beq_dec, ← Bool.decide_and]
  congr 1
  apply decide_eq_decide.2
  simp only [Prod.mk.injEq]
theorem rbatSame_eq (a b : BatchT) (ha : BatL a) : ref46_Same.f a b = some (decide (a = b)) := by
  rw [ref46_Same.f_eq, sameCmds_eq _ _ ha.1 ha.2]
  obtain ⟨p, t, l, c⟩ := a
  obtain ⟨p', t', l', c'⟩ := b
  simp only [Option.bind_some, c1, beq_dec, ← Bool.decide_and]
  congr 1
  apply decide_eq_decide.2
  simp only [Prod.mk.injEq]

/-- a command that does not belong to a batch of a player -/
noncomputable def badCmd (p : Int) (c : CommandT) : Bool := valC c != 0 || c.1 != p
noncomputable def batOK (b : BatchT) : Bool := (!decide (b.1 < 1) && (!decide (b.1 > 6) && (!decide (b.2.1 < 0) && (!decide (b.2.1 > 1048584) && (!decide (b.2.2.1 < 0) && (!decide (b.2.2.1 > 1048576) && (!decide ((b.2.2.2.length : Int) > 16) && !(b.2.2.2.any (badCmd b.1)))))))))
theorem inputValid_eq (b : BatchT) (hb : BatL b) : input_Valid.f b = some (batOK b) := by
  have hl : b.2.2.2.length ≤ 2000000 := hb.1
  have hidx : slices_IndexFunc.f b.2.2.2 b = some (pos1 (b.2.2.2.findIdx? (badCmd b.1))) := by
    rw [slices_IndexFunc.f_eq, find_loop b.2.2.2 (fun i => slices_IndexFunc.j0 b.2.2.2 b b.2.2.2.length i) (badCmd b.1) (fun k => (k : Int)) (some (-1)) (fun k hk => ?hF) ?hE]
    · exact found_pos _
    case hF =>
      rw [slices_IndexFunc.j0_eq, lt_true hk, cond_true, idx_nat, List.getElem?_eq_getElem hk, Option.bind_some, input_Valid_1.f_eq, wValC _ (hb.2 _ (List.getElem_mem hk)), Option.bind_some, wr_succ hk (by omega)]
      unfold badCmd
      cases valC b.2.2.2[k] != 0 <;> rfl
    case hE =>
      rw [slices_IndexFunc.j0_eq, lt_false (Nat.le_refl _), cond_false]
  rw [input_Valid.f_eq, slices_ContainsFunc.f_eq, hidx, Option.bind_some, findIdx_ge, Option.bind_some]
  simp only [c4]
  rfl
theorem refValid_eq (b : BatchT) (hb : BatL b) : ref46_Valid.f b = some (batOK b) := by
  have hl : b.2.2.2.length ≤ 2000000 := hb.1
  have hloop : ref46_Valid.j0 0 b = some (!(b.2.2.2.any (badCmd b.1))) := by
    rw [any_loop b.2.2.2 (fun i => ref46_Valid.j0 i b) (badCmd b.1) false (some true) (fun k hk => ?hF) ?hE]
    · cases b.2.2.2.any (badCmd b.1) <;> rfl
    case hF =>
      rw [ref46_Valid.j0_eq, lt_true hk, cond_true, idx_nat, List.getElem?_eq_getElem hk, Option.bind_some, Option.bind_some, rValC _ (hb.2 _ (List.getElem_mem hk)), Option.bind_some, wr_succ hk (by omega)]
      unfold badCmd
      cases valC b.2.2.2[k] != 0 <;> cases b.2.2.2[k].1 != b.1 <;> rfl
    case hE =>
      rw [ref46_Valid.j0_eq, lt_false (Nat.le_refl _), cond_false]
  rw [ref46_Valid.f_eq, hloop]
  simp only [c4]
  rfl


end Go.Proofs.Ytnjngpkldifjlaa

/- Batches, read; what was written is read. -/
set_option linter.unusedVariables false
set_option linter.unusedSimpArgs false
set_option maxHeartbeats 4000000
namespace Go.Proofs.Ytnjngpkldifjlaa
open Go Go.Sk

theorem bindR_ind {α β : Type} {r : α × Int × Int} {d : β} {k : α → Int → β × Int × Int} {Q : β → Prop} (hd : Q d) (hk : r.2.2 = 0 → Q (k r.1 r.2.1).1) : Q (bindR r d k).1 := by
  by_cases h : r.2.2 = 0
  · rw [bindR_ok h]; exact hk h
  · rw [bindR_bad h]; exact hd
theorem intsS_len (s : ByteArray) : ∀ (n : Nat) (a : Int), (intsS s n a).1.length ≤ n
  | 0, a => by simp [intsS]
  | n + 1, a => by
    unfold intsS
    refine bindR_ind (Q := fun l : List Int => l.length ≤ n + 1) (by simp) fun _ => ?_
    refine bindR_ind (Q := fun l : List Int => l.length ≤ n + 1) (by simp) fun _ => ?_
    have := intsS_len s n (takeI s a).2.1
    simp only [List.length_cons]
    omega
theorem takeT_len {s : ByteArray} {a : Int} (h : (takeT s a 12).2.2 = 0) : (takeT s a 12).1.size ≤ 12 := by
  unfold takeT at h ⊢
  split at h
  · rename_i h1; exact absurd h h1
  rename_i h1
  rw [if_neg h1]
  obtain ⟨n, q, h2, h3, h4⟩ := takeC_ok (Classical.byContradiction fun h' => h1 h')
  rw [h2]
  simp only [ByteArray.size_extract]
  omega
theorem decC_len (s : ByteArray) (a : Int) : LenC (decC s a).1 := by
  have hz : LenC zeroC := ⟨by simp, by rw [show zeroC.2.2.2.2.2.2.1.size = 0 from rfl]; omega⟩
  unfold decC
  refine bindR_ind (Q := LenC) hz fun _ => ?_
  refine bindR_ind (Q := LenC) hz fun _ => ?_
  refine bindR_ind (Q := LenC) hz fun h3 => ?_
  refine bindR_ind (Q := LenC) hz fun _ => ?_
  refine bindR_ind (Q := LenC) hz fun _ => ?_
  refine bindR_ind (Q := LenC) hz fun _ => ?_
  refine bindR_ind (Q := LenC) hz fun _ => ?_
  refine bindR_ind (Q := LenC) hz fun _ => ?_
  refine bindR_ind (Q := LenC) hz fun h9 => ?_
  refine bindR_ind (Q := LenC) hz fun _ => ?_
  refine ⟨?_, ?_⟩
  · have h1 := (takeC_n h3).2
    exact Nat.le_trans (intsS_len _ _ _) (by omega)
  · have := takeT_len h9
    simp only
    omega
def decCs (s : ByteArray) : Nat → Int → List CommandT × Int × Int
  | 0, a => ([], a, 0)
  | n + 1, a => bindR (decC s a) [] fun c a1 => bindR (decCs s n a1) [] fun l a2 => (c :: l, a2, 0)
abbrev zeroB : BatchT := (0, 0, 0, [])
noncomputable def finB (p t l : Int) (cs : List CommandT) (a : Int) : BatchT × Int × Int := bif batOK (p, t, l, cs) then ((p, t, l, cs), a, 0) else (zeroB, 0, 16)
noncomputable def decB (s : ByteArray) (a : Int) : BatchT × Int × Int :=
  bindR (takeI s a) zeroB fun p a1 => bindR (takeI s a1) zeroB fun t a2 => bindR (takeI s a2) zeroB fun l a3 => bindR (takeC s a3 16) zeroB fun n a4 => bindR (decCs s n.toNat a4) zeroB fun cs a5 => finB p t l cs a5
theorem takeC_n16 {s : ByteArray} {a : Int} (h : (takeC s a 16).2.2 = 0) : (takeC s a 16).1 = (((takeC s a 16).1.toNat : Nat) : Int) ∧ (takeC s a 16).1.toNat ≤ 16 := by
  obtain ⟨n, q, h1, h2, h3⟩ := takeC_ok h
  rw [h1]
  exact ⟨rfl, by simp only [Int.toNat_natCast]; omega⟩
section
variable {s : ByteArray} (hs : s.size ≤ 100000)
include hs
theorem wDecB_j (p t l : Int) (n : Nat) (hn : n ≤ 16) : ∀ (m k : Nat) (a : Int) (o : List CommandT), k + m = n → o.length = k → (∀ c ∈ o, LenC c) →
    input_Decode.j1 s a n k 0 0 0 [] p t l o = some (bindR (decCs s m a) zeroB fun cs a5 => finB p t l (o ++ cs) a5) := by
  intro m
  induction m with
  | zero =>
    intro k a o hk ho hc
    rw [input_Decode.j1_eq, lt_false (by omega), cond_false, inputValid_eq _ ⟨by show o.length ≤ 2000000; omega, hc⟩, Option.bind_some]
    show _ = some (finB p t l (o ++ []) a)
    rw [List.append_nil]
    unfold finB
    cases batOK (p, t, l, o) <;> rfl
  | succ m ih =>
    intro k a o hk ho hc
    rw [input_Decode.j1_eq, lt_true (by omega), cond_true, wDecC hs a, Option.bind_some]
    unfold decCs
    by_cases h : (decC s a).2.2 = 0
    · rw [bne_f h, cond_false, bindR_ok h, cond_dec, List.length_singleton, if_pos (by omega), wr_succ (n := n) (by omega) (by omega),
        ih (k + 1) _ _ (by omega) (by simp [ho]) (fun c hc' => by
          rcases List.mem_append.1 hc' with h1 | h1
          · exact hc c h1
          · simp at h1; subst h1; exact decC_len s a)]
      by_cases h2 : (decCs s m (decC s a).2.1).2.2 = 0
      · rw [bindR_ok h2, bindR_ok h2, bindR_ok rfl]
        simp
      · rw [bindR_bad h2, bindR_bad h2, bindR_err h2]
    · rw [bne_t h, cond_true, bindR_bad h, bindR_err h]
theorem rDecB_j (p t l : Int) (n : Nat) (hn : n ≤ 16) : ∀ (m k : Nat) (a : Int) (o : List CommandT), k + m = n → o.length = k → (∀ c ∈ o, LenC c) →
    ref46_Decode.j0 s n a k 0 0 0 [] p t l o = some (bindR (decCs s m a) zeroB fun cs a5 => finB p t l (o ++ cs) a5) := by
  intro m
  induction m with
  | zero =>
    intro k a o hk ho hc
    rw [ref46_Decode.j0_eq, lt_false (by omega), cond_false, refValid_eq _ ⟨by show o.length ≤ 2000000; omega, hc⟩, Option.bind_some]
    show _ = some (finB p t l (o ++ []) a)
    rw [List.append_nil]
    unfold finB
    cases batOK (p, t, l, o) <;> rfl
  | succ m ih =>
    intro k a o hk ho hc
    rw [ref46_Decode.j0_eq, lt_true (by omega), cond_true, rDecC s hs a, Option.bind_some]
    unfold decCs
    by_cases h : (decC s a).2.2 = 0
    · rw [bne_f h, cond_false, bindR_ok h, cond_dec, List.length_singleton, if_pos (by omega), wr_succ (n := n) (by omega) (by omega),
        ih (k + 1) _ _ (by omega) (by simp [ho]) (fun c hc' => by
          rcases List.mem_append.1 hc' with h1 | h1
          · exact hc c h1
          · simp at h1; subst h1; exact decC_len s a)]
      by_cases h2 : (decCs s m (decC s a).2.1).2.2 = 0
      · rw [bindR_ok h2, bindR_ok h2, bindR_ok rfl]
        simp
      · rw [bindR_bad h2, bindR_bad h2, bindR_err h2]
    · rw [bne_t h, cond_true, bindR_bad h, bindR_err h]
theorem wDecB (a : Int) : input_Decode.f s a = some (decB s a) := by
  have w1 : IntKind.i64.wrap (0 + 1) = 1 := rfl
  have w2 : IntKind.i64.wrap (1 + 1) = 2 := rfl
  have w3 : IntKind.i64.wrap (2 + 1) = 3 := rfl
  have q0 : ((0 : Int) == 0) = true := rfl
  have q1 : ((1 : Int) == 0) = false := rfl
  have q2 : ((1 : Int) == 1) = true := rfl
  have q3 : ((2 : Int) == 0) = false := rfl
  have q4 : ((2 : Int) == 1) = false := rfl
  have q5 : ((2 : Int) == 2) = true := rfl
  rw [input_Decode.f_eq]
  unfold decB
  rw [input_Decode.j0_eq, decide_eq_true (show (0 : Int) < 3 by omega), cond_true, q0, cond_true, wTakeI s hs a, Option.bind_some]
  by_cases h1 : (takeI s a).2.2 = 0
  rotate_left
  · rw [bne_t h1, cond_true, bindR_bad h1]
  rw [bne_f h1, cond_false, bindR_ok h1, w1]
  generalize (takeI s a).2.1 = a1
  rw [input_Decode.j0_eq, decide_eq_true (show (1 : Int) < 3 by omega), cond_true, q1, cond_false, q2, cond_true, wTakeI s hs a1, Option.bind_some]
  by_cases h2 : (takeI s a1).2.2 = 0
  rotate_left
  · rw [bne_t h2, cond_true, bindR_bad h2]
  rw [bne_f h2, cond_false, bindR_ok h2, w2]
  generalize (takeI s a1).2.1 = a2
  rw [input_Decode.j0_eq, decide_eq_true (show (2 : Int) < 3 by omega), cond_true, q3, cond_false, q4, cond_false, q5, cond_true, wTakeI s hs a2, Option.bind_some]
  by_cases h3 : (takeI s a2).2.2 = 0
  rotate_left
  · rw [bne_t h3, cond_true, bindR_bad h3]
  rw [bne_f h3, cond_false, bindR_ok h3, w3]
  generalize (takeI s a2).2.1 = a3
  rw [input_Decode.j0_eq, decide_eq_false (show ¬ (3 : Int) < 3 by omega), cond_false, wTakeC s hs a3 16 (by omega) (by omega), Option.bind_some]
  by_cases h4 : (takeC s a3 16).2.2 = 0
  rotate_left
  · rw [bne_t h4, cond_true, bindR_bad h4]
  rw [bne_f h4, cond_false, bindR_ok h4]
  obtain ⟨e1, e2⟩ := takeC_n16 h4
  have := wDecB_j hs (takeI s a).1 (takeI s a1).1 (takeI s a2).1 _ e2 _ 0 (takeC s a3 16).2.1 [] (Nat.zero_add _) rfl (by simp)
  rw [← e1, show ((0 : Nat) : Int) = 0 from rfl] at this
  rw [this]
  simp only [List.nil_append]
theorem rDecB (a : Int) : ref46_Decode.f s a = some (decB s a) := by
  rw [ref46_Decode.f_eq, rTakeI s hs a, Option.bind_some]
  unfold decB
  by_cases h1 : (takeI s a).2.2 = 0
  rotate_left
  · rw [bne_t h1, cond_true, bindR_bad h1]
  rw [bne_f h1, cond_false, bindR_ok h1]
  generalize (takeI s a).2.1 = a1
  rw [rTakeI s hs a1, Option.bind_some]
  by_cases h2 : (takeI s a1).2.2 = 0
  rotate_left
  · rw [bne_t h2, cond_true, bindR_bad h2]
  rw [bne_f h2, cond_false, bindR_ok h2]
  generalize (takeI s a1).2.1 = a2
  rw [rTakeI s hs a2, Option.bind_some]
  by_cases h3 : (takeI s a2).2.2 = 0
  rotate_left
  · rw [bne_t h3, cond_true, bindR_bad h3]
  rw [bne_f h3, cond_false, bindR_ok h3]
  generalize (takeI s a2).2.1 = a3
  rw [rTakeC s hs a3 16 (by omega) (by omega), Option.bind_some]
  by_cases h4 : (takeC s a3 16).2.2 = 0
  rotate_left
  · rw [bne_t h4, cond_true, bindR_bad h4]
  rw [bne_f h4, cond_false, bindR_ok h4]
  obtain ⟨e1, e2⟩ := takeC_n16 h4
  have := rDecB_j hs (takeI s a).1 (takeI s a1).1 (takeI s a2).1 _ e2 _ 0 (takeC s a3 16).2.1 [] (Nat.zero_add _) rfl (by simp)
  rw [← e1, show ((0 : Nat) : Int) = 0 from rfl] at this
  rw [this]
  simp only [List.nil_append]
end
theorem decCs_len (s : ByteArray) : ∀ (n : Nat) (a : Int), (decCs s n a).1.length ≤ n ∧ ∀ c ∈ (decCs s n a).1, LenC c
  | 0, a => by simp [decCs]
  | n + 1, a => by
    unfold decCs
    refine bindR_ind (Q := fun l : List CommandT => l.length ≤ n + 1 ∧ ∀ c ∈ l, LenC c) (by simp) fun _ => ?_
    refine bindR_ind (Q := fun l : List CommandT => l.length ≤ n + 1 ∧ ∀ c ∈ l, LenC c) (by simp) fun _ => ?_
    obtain ⟨h1, h2⟩ := decCs_len s n (decC s a).2.1
    refine ⟨by simp only [List.length_cons]; omega, fun c hc => ?_⟩
    rcases List.mem_cons.1 hc with rfl | hc
    · exact decC_len s a
    · exact h2 c hc
theorem decB_len (s : ByteArray) (a : Int) : BatL (decB s a).1 := by
  have hz : BatL zeroB := ⟨by show 0 ≤ 2000000; omega, by simp⟩
  unfold decB
  refine bindR_ind (Q := BatL) hz fun _ => ?_
  refine bindR_ind (Q := BatL) hz fun _ => ?_
  refine bindR_ind (Q := BatL) hz fun _ => ?_
  refine bindR_ind (Q := BatL) hz fun h4 => ?_
  refine bindR_ind (Q := BatL) hz fun _ => ?_
  unfold finB
  cases batOK _ with
  | false => exact hz
  | true =>
    obtain ⟨h1, h2⟩ := decCs_len s (takeC s (takeI s (takeI s (takeI s a).2.1).2.1).2.1 16).1.toNat (takeC s (takeI s (takeI s (takeI s a).2.1).2.1).2.1 16).2.1
    have h3 := (takeC_n16 h4).2
    exact ⟨by show List.length (α := CommandT) _ ≤ 2000000; exact Nat.le_trans h1 (by omega), h2⟩
/-! ### what was written -/
def At (s : ByteArray) (a : Int) (t : ByteArray) : Prop := ∃ x y, s = x ++ t ++ y ∧ a = x.size
theorem At.split {s t u : ByteArray} {a : Int} (h : At s a (t ++ u)) : At s a t ∧ At s (a + t.size) u := by
  obtain ⟨x, y, rfl, rfl⟩ := h
  refine ⟨⟨x, u ++ y, by simp only [ByteArray.append_assoc], rfl⟩, ⟨x ++ t, y, by simp only [ByteArray.append_assoc], by rw [ByteArray.size_append]; omega⟩⟩
theorem At.int {s : ByteArray} {a n : Int} (h : At s a (ivT n)) (hn : I64 n) : takeI s a = (n, a + (ivT n).size, 0) := by
  obtain ⟨x, y, rfl, rfl⟩ := h
  exact takeI_at x y n hn
theorem At.cnt {s u : ByteArray} {a : Int} {n : Nat} {most : Int} (h : At s a (uvT n ++ u)) (hn : n ≤ u.size) (hm : (n : Int) ≤ most) (h64 : n < 18446744073709551616) : takeC s a most = ((n : Int), a + (uvT n).size, 0) := by
  obtain ⟨x, y, rfl, rfl⟩ := h
  have := takeC_at x (u ++ y) n most hm (by rw [ByteArray.size_append]; omega) h64
  rw [← ByteArray.append_assoc] at this
  rw [← ByteArray.append_assoc]
  exact this
theorem At.txt {s t : ByteArray} {a : Int} (h : At s a (tvT t)) (ht : t.size ≤ 12) : takeT s a 12 = (t, a + (tvT t).size, 0) := by
  obtain ⟨x, y, rfl, rfl⟩ := h
  exact takeT_at x y t 12 (by omega) (by omega)
theorem At.bool {s : ByteArray} {a : Int} {b : Bool} (h : At s a (bvT b)) : takeB s a = (b, a + (bvT b).size, 0) := by
  obtain ⟨x, y, rfl, rfl⟩ := h
  exact takeB_at x y b
theorem At.ints {s : ByteArray} : ∀ (l : List Int) {a : Int}, At s a (catI l) → (∀ n ∈ l, I64 n) → intsS s l.length a = (l, a + (catI l).size, 0)
  | [], a, _, _ => by simp [intsS, catI, size_nil]
  | x :: r, a, h, hn => by
    obtain ⟨h1, h2⟩ := At.split (t := ivT x) (u := catI r) h
    have e1 := h1.int (hn x (by simp))
    have e2 := At.ints r h2 (fun n hn' => hn n (by simp [hn']))
    rw [List.length_cons, intsS, e1, bindR_ok rfl]
    simp only
    rw [e2, bindR_ok rfl, catI, ByteArray.size_append]
    simp only
    congr 2
    omega
theorem At.cmd {s : ByteArray} {c : CommandT} {a : Int} (h : At s a (encC c)) (hf : FitC c) (hu : c.2.2.1.length ≤ 64) (hn : c.2.2.2.2.2.2.1.size ≤ 12) : decC s a = (c, a + (encC c).size, 0) := by
  obtain ⟨p, k, u, ⟨x, y⟩, t, n, nm, q⟩ := c
  have hp := hf.p
  have hk := hf.k
  have hus := hf.u
  have hx := hf.x
  have hy := hf.y
  have ht := hf.t
  have hnn := hf.n
  simp only at hp hk hus hx hy ht hnn hu hn
  unfold encC tailC at h ⊢
  simp only at h ⊢
  obtain ⟨b1, h⟩ := h.split
  obtain ⟨b2, h⟩ := h.split
  have b3 := h.cnt (most := 64) (by have := catI_ge u; rw [ByteArray.size_append]; omega) (by omega) (by omega)
  obtain ⟨_, h⟩ := h.split
  obtain ⟨b4, h⟩ := h.split
  obtain ⟨b5, h⟩ := h.split
  obtain ⟨b6, h⟩ := h.split
  obtain ⟨b7, h⟩ := h.split
  obtain ⟨b8, h⟩ := h.split
  obtain ⟨b9, b10⟩ := h.split
  have e4 := At.ints u b4 hus
  unfold decC
  rw [b1.int hp, bindR_ok rfl]
  simp only
  rw [b2.int hk, bindR_ok rfl]
  simp only
  rw [b3, bindR_ok rfl]
  simp only [Int.toNat_natCast]
  rw [e4, bindR_ok rfl]
  simp only
  rw [b5.int hx, bindR_ok rfl]
  simp only
  rw [b6.int hy, bindR_ok rfl]
  simp only
  rw [b7.int ht, bindR_ok rfl]
  simp only
  rw [b8.int hnn, bindR_ok rfl]
  simp only
  rw [b9.txt hn, bindR_ok rfl]
  simp only
  rw [b10.bool, bindR_ok rfl]
  simp only [ByteArray.size_append]
  congr 2
  omega
theorem At.cmds {s : ByteArray} : ∀ (l : List CommandT) {a : Int}, At s a (catC l) → (∀ c ∈ l, FitC c ∧ c.2.2.1.length ≤ 64 ∧ c.2.2.2.2.2.2.1.size ≤ 12) → decCs s l.length a = (l, a + (catC l).size, 0)
  | [], a, _, _ => by simp [decCs, catC, size_nil]
  | x :: r, a, h, hn => by
    obtain ⟨h1, h2⟩ := At.split (t := encC x) (u := catC r) h
    obtain ⟨f1, f2, f3⟩ := hn x (by simp)
    have e1 := h1.cmd f1 f2 f3
    have e2 := At.cmds r h2 (fun n hn' => hn n (by simp [hn']))
    rw [List.length_cons, decCs, e1, bindR_ok rfl]
    simp only
    rw [e2, bindR_ok rfl, catC, ByteArray.size_append]
    simp only
    congr 2
    omega
theorem valC_len {c : CommandT} (h : valC c = 0) : c.2.2.1.length ≤ 64 ∧ c.2.2.2.2.2.2.1.size ≤ 12 := by
  unfold valC at h
  cases h1 : (decide (c.2.1 < 1) || (decide (c.2.1 > 12) || (decide (c.1 < 1) || (decide (c.1 > 6) || !bareS c)))) with
  | true => rw [h1, cond_true] at h; cases h
  | false =>
  rw [h1, cond_false] at h
  cases h2 : decide ((c.2.2.1.length : Int) > 64) with
  | true => rw [h2, cond_true] at h; cases h
  | false =>
  rw [h2, cond_false] at h
  have hl : c.2.2.1.length ≤ 64 := by have := of_decide_eq_false h2; omega
  refine ⟨hl, ?_⟩
  simp only [Bool.or_eq_false_iff, Bool.not_eq_false'] at h1
  have hb := h1.2.2.2.2
  unfold bareS at hb
  simp only [Bool.and_eq_true] at hb
  have hm := hb.2.2.2.2.1
  rw [empty_iff] at hm
  cases hk : kM c.2.1 with
  | false =>
    rw [hk, Bool.false_or] at hm
    have := of_decide_eq_true hm
    omega
  | true =>
    refine name_len _ ?_
    rw [hk] at h
    cases hn : nameS c.2.2.2.2.2.2.1 with
    | true => rfl
    | false =>
      exfalso
      rw [hn] at h
      revert h
      generalize ((kO c.2.1 || kS c.2.1) && !idsS c) = b1
      generalize (kA c.2.1 && !vecS c.2.2.2.1) = b2
      generalize ((c.2.1 == 2) && (decide (c.2.2.2.2.1 < 1) || decide (c.2.2.2.2.1 > 1099511627776))) = b3
      generalize (kN c.2.1 && (decide (c.2.2.2.2.2.1 < 0) || decide (c.2.2.2.2.2.1 > 4))) = b4
      cases b1 <;> cases b2 <;> cases b3 <;> cases b4 <;> simp
theorem batOK_spec {b : BatchT} (h : batOK b = true) : List.length (α := CommandT) b.2.2.2 ≤ 16 ∧ ∀ c ∈ (b.2.2.2 : List CommandT), valC c = 0 := by
  unfold batOK at h
  simp only [Bool.and_eq_true, Bool.not_eq_true', decide_eq_false_iff_not] at h
  obtain ⟨_, _, _, _, _, _, h7, h8⟩ := h
  refine ⟨by have : ¬ ((List.length (α := CommandT) b.2.2.2 : Int) > 16) := h7; omega, fun c hc => ?_⟩
  rw [List.any_eq_false] at h8
  have := h8 c hc
  unfold badCmd at this
  simp only [Bool.or_eq_true, not_or, bne_iff_ne, ne_eq, Classical.not_not] at this
  exact this.1
theorem At.batch {s : ByteArray} {b : BatchT} {a : Int} (h : At s a (encB b)) (hf : FitB b) (hv : batOK b = true) : decB s a = (b, a + (encB b).size, 0) := by
  obtain ⟨hl, hc⟩ := batOK_spec hv
  obtain ⟨p, t, l, cs⟩ := b
  have hp := hf.p
  have ht := hf.t
  have hll := hf.l
  have hcs := hf.c
  simp only at hp ht hll hcs hl hc
  unfold encB at h ⊢
  simp only at h ⊢
  obtain ⟨b1, h⟩ := h.split
  obtain ⟨b2, h⟩ := h.split
  obtain ⟨b3, h⟩ := h.split
  have b4 := h.cnt (most := 16) (catC_ge cs) (by omega) (by omega)
  obtain ⟨_, b5⟩ := h.split
  have e5 := At.cmds cs b5 (fun c hc' => ⟨hcs c hc', valC_len (hc c hc')⟩)
  unfold decB
  rw [b1.int hp, bindR_ok rfl]
  simp only
  rw [b2.int ht, bindR_ok rfl]
  simp only
  rw [b3.int hll, bindR_ok rfl]
  simp only
  rw [b4, bindR_ok rfl]
  simp only [Int.toNat_natCast]
  rw [e5, bindR_ok rfl]
  unfold finB
  rw [hv, cond_true]
  simp only [ByteArray.size_append]
  congr 2
  omega
end Go.Proofs.Ytnjngpkldifjlaa

/- The stable sort of batches by player. -/
set_option linter.unusedVariables false
set_option linter.unusedSimpArgs false
set_option maxHeartbeats 4000000
namespace Go.Proofs.Ytnjngpkldifjlaa
open Go Go.Sk

def pk (b : BatchT) : Int := b.1
theorem cmp_eq (a b : BatchT) : ∃ r, input_Merge_1.f a b = some r ∧ decide (r < 0) = decide (pk a < pk b) := by
  rw [input_Merge_1.f_eq, cond_dec, cond_dec]
  unfold pk
  by_cases h : a.1 < b.1
  · exact ⟨-1, by rw [if_pos h], by rw [decide_eq_true h]; rfl⟩
  · by_cases h2 : a.1 > b.1
    · exact ⟨1, by rw [if_neg h, if_pos h2], by rw [decide_eq_false h]; rfl⟩
    · exact ⟨0, by rw [if_neg h, if_neg h2], by rw [decide_eq_false h]; rfl⟩
theorem half_nat (i j : Nat) (h : i + j ≤ 4000000) : IntKind.i64.wrap (Int.fdiv (IntKind.u64.wrap (IntKind.i64.wrap ((i : Int) + (j : Int)))) (2 ^ 1)) = (((i + j) / 2 : Nat) : Int) := by
  rw [wr_in (x := (i : Int) + (j : Int)) (by omega) (by omega), show ((i : Int) + (j : Int)) = ((i + j : Nat) : Int) from rfl, u64_nat (by omega)]
  have : Int.fdiv ((i + j : Nat) : Int) (2 ^ 1) = (((i + j) / 2 : Nat) : Int) := by
    rw [Int.fdiv_eq_ediv_of_nonneg _ (by decide)]; rfl
  rw [this, i64_nat (by omega)]
theorem lenOf {α : Type} {o : List α} {j : Nat} {x : α} (h : o[j]? = some x) : j < o.length := (List.getElem?_eq_some_iff.1 h).1
theorem some_at {α : Type} (o : List α) (j : Nat) (h : j < o.length) : ∃ x, o[j]? = some x := ⟨_, List.getElem?_eq_getElem h⟩
theorem set_at {α : Type} (o : List α) (i j : Nat) (y : α) (h : j < o.length) : ∃ z, (o.set i y)[j]? = some z := some_at _ _ (by simpa using h)
abbrev BL := List BatchT
theorem sw_step (a b n i : Nat) (o : BL) (x y : BatchT) (hN : o.length ≤ 1000000) (hi : i < n) (hy : o[b + i]? = some y) (hx : o[a + i]? = some x) :
    slices_swapRangeCmpFunc.j0 a b n i o = slices_swapRangeCmpFunc.j0 a b n ((i + 1 : Nat) : Int) ((o.set (a + i) y).set (b + i) x) := by
  have hb := lenOf hy
  have ha := lenOf hx
  obtain ⟨z, hz⟩ := set_at o (a + i) (b + i) y hb
  rw [slices_swapRangeCmpFunc.j0_eq]
  simp only [lt_true hi, cond_true, at_in (a := a) (k := i) (N := 1000000) (by omega) (Nat.le_refl _), at_in (a := b) (k := i) (N := 1000000) (by omega) (Nat.le_refl _), dec_in hb, dec_in ha, Int.toNat_natCast, hx, hy, Option.bind_some, List.length_set, hz, wr_in (x := (i : Int) + 1) (by omega) (by omega)]
  rfl
theorem sw_end (a b n i : Nat) (o : BL) (h : n ≤ i) : slices_swapRangeCmpFunc.j0 a b n i o = some o := by
  rw [slices_swapRangeCmpFunc.j0_eq, lt_false h, cond_false]
theorem nsub {a b N : Nat} (h : b ≤ a) (hN : a ≤ 4000000) : IntKind.i64.wrap ((a : Int) - (b : Int)) = ((a - b : Nat) : Int) := by
  rw [wr_in (by omega) (by omega)]; omega
theorem add_nat {a k : Nat} (h : a + k ≤ 4000000) : IntKind.i64.wrap ((a : Int) + (k : Int)) = ((a + k : Nat) : Int) := by
  rw [wr_in (by omega) (by omega)]; rfl
theorem rot_step1 (m i j : Nat) (o : BL) (hN : m + j ≤ 1000000) (hj : j < i) (hi : i ≤ m) : slices_rotateCmpFunc.j0 m i j o = (slices_swapRangeCmpFunc.j0 ((m - i : Nat) : Int) m j ((0 : Nat) : Int) o).bind fun r => slices_rotateCmpFunc.j0 m ((i - j : Nat) : Int) j r := by
  rw [slices_rotateCmpFunc.j0_eq, bne_iff_ne.2 (show (i : Int) ≠ j by omega), cond_true, decide_eq_true (show (i : Int) > j by omega), cond_true, nsub (N := 1000000) hi (by omega), nsub (N := 1000000) (Nat.le_of_lt hj) (by omega), slices_swapRangeCmpFunc.f_eq]
  rfl
theorem rot_step2 (m i j : Nat) (o : BL) (hN : m + j ≤ 1000000) (hj : i < j) (hi : i ≤ m) : slices_rotateCmpFunc.j0 m i j o = (slices_swapRangeCmpFunc.j0 ((m - i : Nat) : Int) ((m + j - i : Nat) : Int) i ((0 : Nat) : Int) o).bind fun r => slices_rotateCmpFunc.j0 m i ((j - i : Nat) : Int) r := by
  rw [slices_rotateCmpFunc.j0_eq, bne_iff_ne.2 (show (i : Int) ≠ j by omega), cond_true, decide_eq_false (show ¬ (i : Int) > j by omega), cond_false, nsub (N := 1000000) hi (by omega), nsub (N := 1000000) (Nat.le_of_lt hj) (by omega), slices_swapRangeCmpFunc.f_eq, at_in (a := m) (k := j) (N := 1000000) hN (Nat.le_refl _), nsub (N := 1000000) (by omega) (by omega)]
  rfl
theorem rot_step3 (m i : Nat) (o : BL) (hN : m + i ≤ 1000000) (hi : i ≤ m) : slices_rotateCmpFunc.j0 m i i o = slices_swapRangeCmpFunc.j0 ((m - i : Nat) : Int) m i ((0 : Nat) : Int) o := by
  rw [slices_rotateCmpFunc.j0_eq, bne_self_eq_false, cond_false, nsub (N := 1000000) hi (by omega), slices_swapRangeCmpFunc.f_eq]
  cases slices_swapRangeCmpFunc.j0 ((m - i : Nat) : Int) m i 0 o with
  | none => rfl
  | some r => rfl
theorem rot_eq (U V A B : BL) (a m b : Nat) (hA : A.length = a) (hm : a + U.length = m) (hb : m + V.length = b) (hU : 0 < U.length) (hV : 0 < V.length) (hN : (A ++ U ++ V ++ B).length ≤ 1000000) :
    slices_rotateCmpFunc.f a m b (A ++ U ++ V ++ B) = some (A ++ V ++ U ++ B) := by
  have hl : (A ++ U ++ V ++ B).length = b + B.length := by simp; omega
  rw [slices_rotateCmpFunc.f_eq, nsub (N := 1000000) (by omega) (by omega), nsub (N := 1000000) (by omega) (by omega)]
  exact rot_spec (N := 1000000) (sw := fun a b n i o => slices_swapRangeCmpFunc.j0 a b n i o) (fun a b n i o x y h1 h2 h3 h4 => sw_step a b n i o x y h1 h2 h3 h4) (fun a b n i o h => sw_end a b n i o h)
    (rot := fun m i j o => slices_rotateCmpFunc.j0 m i j o) (fun m i j o h1 h2 h3 => rot_step1 m i j o h1 h2 h3) (fun m i j o h1 h2 h3 => rot_step2 m i j o h1 h2 h3) (fun m i o h1 h2 => rot_step3 m i o h1 h2)
    _ U V A B m (m - a) (b - m) rfl (by omega) (by omega) (by omega) (by omega) (by omega) hN
/-! ### insertion -/
theorem i1_cmp (a b i j : Nat) (o : BL) (x y : BatchT) (ha : a < j + 1) (hj : j < i) (hi : i < b) (hb : b ≤ o.length) (hN : o.length ≤ 1000000) (hx : o[j + 1]? = some x) (hy : o[j]? = some y) :
    slices_insertionSortCmpFunc.j1 a b i ((j + 1 : Nat) : Int) o = bif decide (pk x < pk y) then slices_insertionSortCmpFunc.j1 a b i j ((o.set (j + 1) y).set j x) else slices_insertionSortCmpFunc.j0 a b ((i + 1 : Nat) : Int) o := by
  have h1 := lenOf hx
  have h2 := lenOf hy
  obtain ⟨r, c1, c2⟩ := cmp_eq x y
  obtain ⟨z, hz⟩ := set_at o (j + 1) j y h2
  have e : IntKind.i64.wrap (((j + 1 : Nat) : Int) - 1) = (j : Int) := by rw [wr_in (by omega) (by omega)]; omega
  rw [slices_insertionSortCmpFunc.j1_eq]
  simp only [decide_eq_true (show ((j + 1 : Nat) : Int) > (a : Int) by omega), cond_true, dec_in h1, dec_in h2, e, Int.toNat_natCast, hx, hy, Option.bind_some, c1, c2, List.length_set, hz, wr_in (x := (i : Int) + 1) (by omega) (by omega)]
  rfl
theorem i1_end (a b i : Nat) (o : BL) (hi : i < b) (hb : b ≤ o.length) (hN : o.length ≤ 1000000) : slices_insertionSortCmpFunc.j1 a b i a o = slices_insertionSortCmpFunc.j0 a b ((i + 1 : Nat) : Int) o := by
  rw [slices_insertionSortCmpFunc.j1_eq, decide_eq_false (show ¬ (a : Int) > a by omega), cond_false, wr_in (x := (i : Int) + 1) (by omega) (by omega)]
  rfl
theorem ins_eq (A T B : BL) (a b : Nat) (hA : A.length = a) (hb : a + T.length = b) (h0 : 0 < T.length) (hN : (A ++ T ++ B).length ≤ 1000000) : ∃ M, slices_insertionSortCmpFunc.f a b (A ++ T ++ B) = some (A ++ M ++ B) ∧ Srt pk M ∧ Eqv pk T M ∧ M.length = T.length := by
  obtain ⟨x, T, rfl⟩ : ∃ x r, T = x :: r := by
    match T, h0 with
    | x :: r, _ => exact ⟨x, r, rfl⟩
  have hl : (A ++ (x :: T) ++ B).length = b + B.length := by simp at hb ⊢; omega
  rw [slices_insertionSortCmpFunc.f_eq, wr_in (x := (a : Int) + 1) (by omega) (by omega)]
  have key := ins_spec (key := pk) (N := 1000000) (i0 := fun a b i o => slices_insertionSortCmpFunc.j0 a b i o) (i1 := fun a b i j o => slices_insertionSortCmpFunc.j1 a b i j o)
    (fun a b i o h => by rw [slices_insertionSortCmpFunc.j0_eq, lt_true h, cond_true]) (fun a b i o h => by rw [slices_insertionSortCmpFunc.j0_eq, lt_false h, cond_false])
    (fun a b i j o x y h1 h2 h3 h4 h5 h6 h7 h8 => by rw [i1_cmp a b i j o x y h1 h2 h3 h4 h5 h6 h7, decide_eq_true h8, cond_true])
    (fun a b i j o x y h1 h2 h3 h4 h5 h6 h7 h8 => by rw [i1_cmp a b i j o x y h1 h2 h3 h4 h5 h6 h7, decide_eq_false h8, cond_false])
    (fun a b i o h1 h2 h3 => i1_end a b i o h1 h2 h3) a b T [x] A B (a + 1) hA (by simp) (by simp at hb; omega) (by simp at hN ⊢; omega) (by simp [Srt])
  obtain ⟨M, k1, k2, k3, k4⟩ := key
  refine ⟨M, ?_, k2, k3, by rw [k4]; simp; omega⟩
  have e : A ++ (x :: T) ++ B = A ++ [x] ++ T ++ B := by simp
  rw [e]
  exact k1
/-! ### merges -/
theorem kf_of {o : BL} {h : Nat} {x : BatchT} (hx : o[h]? = some x) : kf pk o h = pk x := kf_get hx
theorem s0_step (a i j : Nat) (o : BL) (hij : i < j) (hj : j ≤ o.length) (ha : a < o.length) (hN : o.length ≤ 1000000) :
    slices_symMergeCmpFunc.j0 a i j o = if kf pk o ((i + j) / 2) < kf pk o a then slices_symMergeCmpFunc.j0 a (((i + j) / 2 + 1 : Nat) : Int) j o else slices_symMergeCmpFunc.j0 a i (((i + j) / 2 : Nat) : Int) o := by
  have hh : (i + j) / 2 < o.length := by omega
  obtain ⟨x, hx⟩ := some_at o _ hh
  obtain ⟨y, hy⟩ := some_at o _ ha
  obtain ⟨r, c1, c2⟩ := cmp_eq x y
  rw [slices_symMergeCmpFunc.j0_eq, kf_of hx, kf_of hy]
  simp only [lt_true hij, cond_true, half_nat i j (by omega), dec_in hh, dec_in ha, Int.toNat_natCast, hx, hy, Option.bind_some, c1, c2, slices_symMergeCmpFunc.j3_eq, wr_in (x := (((i + j) / 2 : Nat) : Int) + 1) (by omega) (by omega)]
  by_cases h : pk x < pk y
  · rw [decide_eq_true h, cond_true, if_pos h]
    rfl
  · rw [decide_eq_false h, cond_false, if_neg h]
theorem s1_step (m i j : Nat) (o : BL) (hij : i < j) (hj : j ≤ o.length) (ha : m < o.length) (hN : o.length ≤ 1000000) :
    slices_symMergeCmpFunc.j1 m i j o = if ¬ kf pk o m < kf pk o ((i + j) / 2) then slices_symMergeCmpFunc.j1 m (((i + j) / 2 + 1 : Nat) : Int) j o else slices_symMergeCmpFunc.j1 m i (((i + j) / 2 : Nat) : Int) o := by
  have hh : (i + j) / 2 < o.length := by omega
  obtain ⟨x, hx⟩ := some_at o _ hh
  obtain ⟨y, hy⟩ := some_at o _ ha
  obtain ⟨r, c1, c2⟩ := cmp_eq y x
  rw [slices_symMergeCmpFunc.j1_eq, kf_of hx, kf_of hy]
  simp only [lt_true hij, cond_true, half_nat i j (by omega), dec_in hh, dec_in ha, Int.toNat_natCast, hx, hy, Option.bind_some, c1, c2, slices_symMergeCmpFunc.j5_eq, wr_in (x := (((i + j) / 2 : Nat) : Int) + 1) (by omega) (by omega)]
  by_cases h : pk y < pk x
  · rw [decide_eq_true h, Bool.not_true, cond_false, if_neg (fun h' => h' h)]
  · rw [decide_eq_false h, Bool.not_false, cond_true, if_pos h]
    rfl
theorem s4_step (i k : Nat) (o : BL) (x y : BatchT) (hk : k + 1 < i) (hi : i ≤ o.length) (hN : o.length ≤ 1000000) (hx : o[k]? = some x) (hy : o[k + 1]? = some y) :
    slices_symMergeCmpFunc.j4 i k o = slices_symMergeCmpFunc.j4 i ((k + 1 : Nat) : Int) ((o.set k y).set (k + 1) x) := by
  have h1 := lenOf hx
  have h2 := lenOf hy
  obtain ⟨z, hz⟩ := set_at o k (k + 1) y h2
  have e : IntKind.i64.wrap ((k : Int) + 1) = ((k + 1 : Nat) : Int) := by rw [wr_in (by omega) (by omega)]; rfl
  rw [slices_symMergeCmpFunc.j4_eq]
  simp only [decide_eq_true (show (k : Int) < IntKind.i64.wrap ((i : Int) - 1) by rw [wr_in (by omega) (by omega)]; omega), cond_true, e, dec_in h1, dec_in h2, Int.toNat_natCast, hx, hy, Option.bind_some, List.length_set, hz]
theorem s4_end (i k : Nat) (o : BL) (hk : i = k + 1) (hi : i ≤ o.length) (hN : o.length ≤ 1000000) : slices_symMergeCmpFunc.j4 i k o = some o := by
  rw [slices_symMergeCmpFunc.j4_eq, decide_eq_false (show ¬ (k : Int) < IntKind.i64.wrap ((i : Int) - 1) by rw [wr_in (by omega) (by omega)]; omega), cond_false]
theorem s6_step (i k : Nat) (o : BL) (x y : BatchT) (hk : i < k + 1) (hi : k + 1 < o.length) (hN : o.length ≤ 1000000) (hx : o[k]? = some x) (hy : o[k + 1]? = some y) :
    slices_symMergeCmpFunc.j6 i ((k + 1 : Nat) : Int) o = slices_symMergeCmpFunc.j6 i k ((o.set (k + 1) x).set k y) := by
  have h1 := lenOf hx
  have h2 := lenOf hy
  obtain ⟨z, hz⟩ := set_at o (k + 1) k x h1
  have e : IntKind.i64.wrap (((k + 1 : Nat) : Int) - 1) = (k : Int) := by rw [wr_in (by omega) (by omega)]; omega
  rw [slices_symMergeCmpFunc.j6_eq]
  simp only [decide_eq_true (show ((k + 1 : Nat) : Int) > (i : Int) by omega), cond_true, e, dec_in h1, dec_in h2, Int.toNat_natCast, hx, hy, Option.bind_some, List.length_set, hz]
theorem s6_end (i k : Nat) (o : BL) (hk : k ≤ i) : slices_symMergeCmpFunc.j6 i k o = some o := by
  rw [slices_symMergeCmpFunc.j6_eq, decide_eq_false (show ¬ (k : Int) > (i : Int) by omega), cond_false]
/-- the search over both pieces -/
noncomputable def s7N (a m b i j : Nat) (o : BL) : Option BL := slices_symMergeCmpFunc.j7 a m b (((a + b) / 2 : Nat) : Int) (((a + b) / 2 + m : Nat) : Int) i j (((a + b) / 2 + m - 1 : Nat) : Int) o
theorem s7_step (a m b i j : Nat) (o : BL) (ham : a < m) (hmb : m < b) (hb : b ≤ o.length) (hN : o.length ≤ 1000000) (hij : i < j) (hj : j ≤ (a + b) / 2) (hlo : (a + b) / 2 + m ≤ i + b) :
    s7N a m b i j o = if ¬ kf pk o ((a + b) / 2 + m - 1 - (i + j) / 2) < kf pk o ((i + j) / 2) then s7N a m b ((i + j) / 2 + 1) j o else s7N a m b i ((i + j) / 2) o := by
  have hh : (i + j) / 2 < o.length := by omega
  have hp : (a + b) / 2 + m - 1 - (i + j) / 2 < o.length := by omega
  obtain ⟨x, hx⟩ := some_at o _ hh
  obtain ⟨y, hy⟩ := some_at o _ hp
  obtain ⟨r, c1, c2⟩ := cmp_eq y x
  unfold s7N
  rw [slices_symMergeCmpFunc.j7_eq, kf_of hx, kf_of hy]
  simp only [lt_true hij, cond_true, half_nat i j (by omega), nsub (a := (a + b) / 2 + m - 1) (b := (i + j) / 2) (N := 0) (by omega) (by omega), dec_in hh, dec_in hp, Int.toNat_natCast, hx, hy, Option.bind_some, c1, c2, slices_symMergeCmpFunc.j8_eq, wr_in (x := (((i + j) / 2 : Nat) : Int) + 1) (by omega) (by omega)]
  by_cases h : pk y < pk x
  · rw [decide_eq_true h, Bool.not_true, cond_false, if_neg (fun h' => h' h)]
  · rw [decide_eq_false h, Bool.not_false, cond_true, if_pos h]
    rfl
theorem s7_end (a m b q : Nat) (o : BL) (ham : a < m) (hmb : m < b) (hb : b ≤ o.length) (hN : o.length ≤ 1000000) (hq : q ≤ (a + b) / 2) (hlo : (a + b) / 2 + m ≤ q + b) (haq : a ≤ q) :
    s7N a m b q q o = (if q < m ∧ m < (a + b) / 2 + m - q then slices_rotateCmpFunc.f q m (((a + b) / 2 + m - q : Nat) : Int) o else some o).bind fun o1 =>
      (if a < q ∧ q < (a + b) / 2 then slices_symMergeCmpFunc.f a q (((a + b) / 2 : Nat) : Int) o1 else some o1).bind fun o2 => if (a + b) / 2 < (a + b) / 2 + m - q ∧ (a + b) / 2 + m - q < b then slices_symMergeCmpFunc.f (((a + b) / 2 : Nat) : Int) (((a + b) / 2 + m - q : Nat) : Int) b o2 else some o2 := by
  have hbs : ∀ (f : BL → Option BL) (x : Option BL), (x.bind fun r => (some r : Option BL)) = x := fun _ x => by cases x <;> rfl
  unfold s7N
  rw [slices_symMergeCmpFunc.j7_eq, lt_false (Nat.le_refl q), cond_false, nsub (a := (a + b) / 2 + m) (b := q) (N := 0) (by omega) (by omega)]
  have g1 : (bif decide ((q : Int) < (m : Int)) then slices_symMergeCmpFunc.j9 a m b (((a + b) / 2 : Nat) : Int) q (((a + b) / 2 + m - q : Nat) : Int) (decide ((m : Int) < (((a + b) / 2 + m - q : Nat) : Int))) o else slices_symMergeCmpFunc.j9 a m b (((a + b) / 2 : Nat) : Int) q (((a + b) / 2 + m - q : Nat) : Int) false o) =
      slices_symMergeCmpFunc.j9 a m b (((a + b) / 2 : Nat) : Int) q (((a + b) / 2 + m - q : Nat) : Int) (decide (q < m ∧ m < (a + b) / 2 + m - q)) o := by
    rw [cf (fun t => slices_symMergeCmpFunc.j9 a m b (((a + b) / 2 : Nat) : Int) q (((a + b) / 2 + m - q : Nat) : Int) t o), ← Bool.decide_and]
    congr 1
    exact decide_eq_decide.2 (by omega)
  have g2 : ∀ o1, slices_symMergeCmpFunc.j10 a b (((a + b) / 2 : Nat) : Int) q (((a + b) / 2 + m - q : Nat) : Int) o1 = slices_symMergeCmpFunc.j11 a b (((a + b) / 2 : Nat) : Int) q (((a + b) / 2 + m - q : Nat) : Int) (decide (a < q ∧ q < (a + b) / 2)) o1 := fun o1 => by
    rw [slices_symMergeCmpFunc.j10_eq, cf (fun t => slices_symMergeCmpFunc.j11 a b (((a + b) / 2 : Nat) : Int) q (((a + b) / 2 + m - q : Nat) : Int) t o1), ← Bool.decide_and]
    congr 1
    exact decide_eq_decide.2 (by omega)
  have g3 : ∀ o2, slices_symMergeCmpFunc.j12 b (((a + b) / 2 : Nat) : Int) (((a + b) / 2 + m - q : Nat) : Int) o2 = slices_symMergeCmpFunc.j13 b (((a + b) / 2 : Nat) : Int) (((a + b) / 2 + m - q : Nat) : Int) (decide ((a + b) / 2 < (a + b) / 2 + m - q ∧ (a + b) / 2 + m - q < b)) o2 := fun o2 => by
    rw [slices_symMergeCmpFunc.j12_eq, cf (fun t => slices_symMergeCmpFunc.j13 b (((a + b) / 2 : Nat) : Int) (((a + b) / 2 + m - q : Nat) : Int) t o2), ← Bool.decide_and]
    congr 1
    exact decide_eq_decide.2 (by omega)
  have g4 : ∀ o2, slices_symMergeCmpFunc.j12 b (((a + b) / 2 : Nat) : Int) (((a + b) / 2 + m - q : Nat) : Int) o2 = if (a + b) / 2 < (a + b) / 2 + m - q ∧ (a + b) / 2 + m - q < b then slices_symMergeCmpFunc.f (((a + b) / 2 : Nat) : Int) (((a + b) / 2 + m - q : Nat) : Int) b o2 else some o2 := fun o2 => by
    rw [g3, slices_symMergeCmpFunc.j13_eq, cond_dec]
    simp only [slices_symMergeCmpFunc.j14_eq]
    rw [hbs (fun _ => none)]
  have g5 : ∀ o1, slices_symMergeCmpFunc.j10 a b (((a + b) / 2 : Nat) : Int) q (((a + b) / 2 + m - q : Nat) : Int) o1 = (if a < q ∧ q < (a + b) / 2 then slices_symMergeCmpFunc.f a q (((a + b) / 2 : Nat) : Int) o1 else some o1).bind fun o2 => if (a + b) / 2 < (a + b) / 2 + m - q ∧ (a + b) / 2 + m - q < b then slices_symMergeCmpFunc.f (((a + b) / 2 : Nat) : Int) (((a + b) / 2 + m - q : Nat) : Int) b o2 else some o2 := fun o1 => by
    rw [g2, slices_symMergeCmpFunc.j11_eq, cond_dec]
    simp only [g4]
    split <;> rfl
  rw [g1, slices_symMergeCmpFunc.j9_eq, cond_dec]
  simp only [g5]
  split <;> rfl
theorem symEqs : SymEqs pk (fun a m b o => slices_symMergeCmpFunc.f a m b o) (fun a i j o => slices_symMergeCmpFunc.j0 a i j o) (fun m i j o => slices_symMergeCmpFunc.j1 m i j o) (fun i k o => slices_symMergeCmpFunc.j4 i k o) (fun i k o => slices_symMergeCmpFunc.j6 i k o) s7N (fun a m b o => slices_rotateCmpFunc.f a m b o) 1000000 where
  m1 a m b o h1 h2 h3 h4 := by
    show slices_symMergeCmpFunc.f a m b o = _
    rw [slices_symMergeCmpFunc.f_eq, nsub (a := m) (b := a) (N := 0) (by omega) (by omega), show m - a = 1 by omega]
    rfl
  m2 a m b o h1 h2 h3 h4 := by
    show slices_symMergeCmpFunc.f a m b o = _
    rw [slices_symMergeCmpFunc.f_eq, nsub (a := m) (b := a) (N := 0) (by omega) (by omega), nsub (a := b) (b := m) (N := 0) (by omega) (by omega), beq_eq_false_iff_ne.2 (show ((m - a : Nat) : Int) ≠ 1 by omega), cond_false, show b - m = 1 by omega]
    rfl
  m3 a m b o h1 h2 h3 h4 h5 := by
    show slices_symMergeCmpFunc.f a m b o = _
    rw [slices_symMergeCmpFunc.f_eq, nsub (a := m) (b := a) (N := 0) (by omega) (by omega), nsub (a := b) (b := m) (N := 0) (by omega) (by omega), beq_eq_false_iff_ne.2 (show ((m - a : Nat) : Int) ≠ 1 by omega), cond_false, beq_eq_false_iff_ne.2 (show ((b - m : Nat) : Int) ≠ 1 by omega), cond_false,
      half_nat a b (by omega), decide_eq_true (show (m : Int) > (((a + b) / 2 : Nat) : Int) by omega), cond_true, slices_symMergeCmpFunc.j2_eq, add_nat (a := (a + b) / 2) (k := m) (by omega), nsub (a := (a + b) / 2 + m) (b := b) (N := 0) (by omega) (by omega)]
    have e : IntKind.i64.wrap ((((a + b) / 2 + m : Nat) : Int) - 1) = (((a + b) / 2 + m - 1 : Nat) : Int) := by rw [wr_in (by omega) (by omega)]; omega
    rw [e]
    rfl
  m4 a m b o h1 h2 h3 h4 h5 := by
    show slices_symMergeCmpFunc.f a m b o = _
    rw [slices_symMergeCmpFunc.f_eq, nsub (a := m) (b := a) (N := 0) (by omega) (by omega), nsub (a := b) (b := m) (N := 0) (by omega) (by omega), beq_eq_false_iff_ne.2 (show ((m - a : Nat) : Int) ≠ 1 by omega), cond_false, beq_eq_false_iff_ne.2 (show ((b - m : Nat) : Int) ≠ 1 by omega), cond_false,
      half_nat a b (by omega), decide_eq_false (show ¬ (m : Int) > (((a + b) / 2 : Nat) : Int) by omega), cond_false, slices_symMergeCmpFunc.j2_eq, add_nat (a := (a + b) / 2) (k := m) (by omega)]
    have e : IntKind.i64.wrap ((((a + b) / 2 + m : Nat) : Int) - 1) = (((a + b) / 2 + m - 1 : Nat) : Int) := by rw [wr_in (by omega) (by omega)]; omega
    rw [e]
    rfl
  e0 a i j o h1 h2 h3 h4 := s0_step a i j o h1 h2 h3 h4
  e0' a i o := by
    show slices_symMergeCmpFunc.j0 a i i o = _
    rw [slices_symMergeCmpFunc.j0_eq, lt_false (Nat.le_refl _), cond_false]
  e4 i k o x y h1 h2 h3 h4 h5 := s4_step i k o x y h1 h2 h3 h4 h5
  e4' i k o h1 h2 h3 := s4_end i k o h1 h2 h3
  e1 m i j o h1 h2 h3 h4 := s1_step m i j o h1 h2 h3 h4
  e1' m i o := by
    show slices_symMergeCmpFunc.j1 m i i o = _
    rw [slices_symMergeCmpFunc.j1_eq, lt_false (Nat.le_refl _), cond_false]
  e6 i k o x y h1 h2 h3 h4 h5 := s6_step i k o x y h1 h2 h3 h4 h5
  e6' i k o h1 := s6_end i k o h1
  e7 a m b i j o h1 h2 h3 h4 h5 h6 h7 := s7_step a m b i j o h1 h2 h3 h4 h5 h6 h7
  e7' a m b q o h1 h2 h3 h4 h5 h6 h7 := s7_end a m b q o h1 h2 h3 h4 h5 h6 h7
  rot U V A B a m b h1 h2 h3 h4 h5 h6 := rot_eq U V A B a m b h1 h2 h3 h4 h5 h6
theorem merge_eq (A L R B : BL) (a m b : Nat) (hA : A.length = a) (hm : a + L.length = m) (hb : m + R.length = b) (h1 : 0 < L.length) (h2 : 0 < R.length) (hN : (A ++ L ++ R ++ B).length ≤ 1000000) (sL : Srt pk L) (sR : Srt pk R) :
    ∃ M, slices_symMergeCmpFunc.f a m b (A ++ L ++ R ++ B) = some (A ++ M ++ B) ∧ Srt pk M ∧ Eqv pk (L ++ R) M ∧ M.length = L.length + R.length :=
  sm_spec symEqs _ A L R B a m b rfl hA hm hb h1 h2 hN sL sR
/-! ### the sort, of at most 40 batches -/
theorem sort_eq (o : BL) (hl : o.length ≤ 40) : ∃ r, slices_SortStableFunc.f o = some r ∧ Srt pk r ∧ Eqv pk o r ∧ r.length = o.length := by
  have hfin : ∀ (n bs : Nat) (x : BL), n ≤ bs → bs ≤ 1000 → slices_stableCmpFunc.j1 n bs x = some x := fun n bs x h1 h2 => by
    rw [slices_stableCmpFunc.j1_eq, lt_false h1, cond_false]
  have w40 : IntKind.i64.wrap (2 * 20) = 40 := rfl
  have w40' : IntKind.i64.wrap (20 * 2) = 40 := rfl
  have key : ∃ r, slices_stableCmpFunc.f o.length o = some r ∧ Srt pk r ∧ Eqv pk o r ∧ r.length = o.length := by
    rw [slices_stableCmpFunc.f_eq]
    rcases Nat.lt_or_ge o.length 20 with h | h
    · rw [slices_stableCmpFunc.j0_eq, decide_eq_false (show ¬ (20 : Int) ≤ (o.length : Int) by omega), cond_false]
      by_cases h0 : o.length = 0
      · have : o = [] := List.eq_nil_of_length_eq_zero h0
        subst this
        refine ⟨[], ?_, by simp [Srt], Eqv.refl _, rfl⟩
        have e : slices_insertionSortCmpFunc.f 0 ((List.length (α := BatchT) [] : Nat) : Int) [] = some [] := by
          rw [slices_insertionSortCmpFunc.f_eq, slices_insertionSortCmpFunc.j0_eq]
          rfl
        rw [e, Option.bind_some]
        exact hfin 0 20 [] (by omega) (by omega)
      · obtain ⟨M, m1, m2, m3, m4⟩ := ins_eq [] o [] 0 o.length rfl (by omega) (by omega) (by simp; omega)
        simp only [List.nil_append, List.append_nil] at m1
        rw [show ((0 : Nat) : Int) = 0 from rfl] at m1
        rw [m1, Option.bind_some]
        exact ⟨M, hfin _ 20 M (by omega) (by omega), m2, m3, m4⟩
    · obtain ⟨X, Y, rfl, hX⟩ : ∃ X Y, o = X ++ Y ∧ X.length = 20 := ⟨o.take 20, o.drop 20, (List.take_append_drop _ _).symm, by rw [List.length_take]; omega⟩
      have hlen : (X ++ Y).length = 20 + Y.length := by simp; omega
      obtain ⟨M, m1, m2, m3, m4⟩ := ins_eq [] X Y 0 20 rfl (by omega) (by omega) (by simp; omega)
      simp only [List.nil_append] at m1
      rw [show ((0 : Nat) : Int) = 0 from rfl, show ((20 : Nat) : Int) = 20 from rfl] at m1
      rw [slices_stableCmpFunc.j0_eq, decide_eq_true (show (20 : Int) ≤ ((X ++ Y).length : Int) by omega), cond_true, m1, Option.bind_some, show IntKind.i64.wrap (20 + 20) = 40 from rfl, slices_stableCmpFunc.j0_eq]
      by_cases hY : Y.length = 0
      · have : Y = [] := List.eq_nil_of_length_eq_zero hY
        subst this
        rw [decide_eq_false (show ¬ (40 : Int) ≤ ((X ++ ([] : BL)).length : Int) by omega), cond_false]
        have e : slices_insertionSortCmpFunc.f 20 (((X ++ ([] : BL)).length : Nat) : Int) (M ++ []) = some (M ++ []) := by
          rw [slices_insertionSortCmpFunc.f_eq, slices_insertionSortCmpFunc.j0_eq, show IntKind.i64.wrap (20 + 1) = 21 from rfl, decide_eq_false (show ¬ (21 : Int) < ((X ++ ([] : BL)).length : Int) by omega), cond_false]
        rw [e, Option.bind_some]
        exact ⟨M ++ [], hfin _ 20 _ (by omega) (by omega), by simpa using m2, by simpa using m3, by simp; omega⟩
      · obtain ⟨M2, n1, n2, n3, n4⟩ := ins_eq M Y [] 20 (20 + Y.length) (by omega) rfl (by omega) (by simp; omega)
        simp only [List.append_nil] at n1
        rw [show ((20 : Nat) : Int) = 20 from rfl] at n1
        obtain ⟨M3, p1, p2, p3, p4⟩ := merge_eq [] M M2 [] 0 20 (20 + Y.length) rfl (by omega) (by omega) (by omega) (by omega) (by simp; omega) m2 n2
        simp only [List.nil_append, List.append_nil] at p1
        rw [show ((0 : Nat) : Int) = 0 from rfl, show ((20 : Nat) : Int) = 20 from rfl] at p1
        have hend : ∀ (n : Nat), n = 20 + Y.length → slices_stableCmpFunc.j1 n 20 (M ++ M2) = some M3 := fun n hn => by
          subst hn
          rw [slices_stableCmpFunc.j1_eq, decide_eq_true (show (20 : Int) < ((20 + Y.length : Nat) : Int) by omega), cond_true, w40, slices_stableCmpFunc.j2_eq]
          by_cases h40 : 20 + Y.length = 40
          · rw [decide_eq_true (show (40 : Int) ≤ ((20 + Y.length : Nat) : Int) by omega), cond_true, show IntKind.i64.wrap (0 + 20) = 20 from rfl]
            rw [h40, show ((40 : Nat) : Int) = 40 from rfl] at p1
            rw [p1, Option.bind_some, slices_stableCmpFunc.j2_eq, w40, show IntKind.i64.wrap (40 + 40) = 80 from rfl, decide_eq_false (show ¬ (80 : Int) ≤ ((20 + Y.length : Nat) : Int) by omega), cond_false, show IntKind.i64.wrap (40 + 20) = 60 from rfl,
              decide_eq_false (show ¬ (60 : Int) < ((20 + Y.length : Nat) : Int) by omega), cond_false, w40']
            exact hfin _ 40 _ (by omega) (by omega)
          · rw [decide_eq_false (show ¬ (40 : Int) ≤ ((20 + Y.length : Nat) : Int) by omega), cond_false, show IntKind.i64.wrap (0 + 20) = 20 from rfl, decide_eq_true (show (20 : Int) < ((20 + Y.length : Nat) : Int) by omega), cond_true, p1, Option.bind_some, w40']
            exact hfin _ 40 _ (by omega) (by omega)
        have hres : Eqv pk (X ++ Y) M3 := (Eqv.app m3 n3).trans p3
        refine ⟨M3, ?_, p2, hres, by rw [p4]; simp; omega⟩
        by_cases h40 : Y.length = 20
        · rw [decide_eq_true (show (40 : Int) ≤ ((X ++ Y).length : Int) by omega), cond_true]
          rw [h40, show ((20 + 20 : Nat) : Int) = 40 from rfl] at n1
          rw [n1, Option.bind_some, show IntKind.i64.wrap (40 + 20) = 60 from rfl, slices_stableCmpFunc.j0_eq, decide_eq_false (show ¬ (60 : Int) ≤ ((X ++ Y).length : Int) by omega), cond_false]
          have e : slices_insertionSortCmpFunc.f 40 (((X ++ Y).length : Nat) : Int) (M ++ M2) = some (M ++ M2) := by
            rw [slices_insertionSortCmpFunc.f_eq, slices_insertionSortCmpFunc.j0_eq, show IntKind.i64.wrap (40 + 1) = 41 from rfl, decide_eq_false (show ¬ (41 : Int) < ((X ++ Y).length : Int) by omega), cond_false]
          rw [e, Option.bind_some]
          exact hend _ hlen
        · rw [decide_eq_false (show ¬ (40 : Int) ≤ ((X ++ Y).length : Int) by omega), cond_false]
          rw [← hlen] at n1
          rw [n1, Option.bind_some]
          exact hend _ hlen
  obtain ⟨r, h1, h2⟩ := key
  exact ⟨r, by rw [slices_SortStableFunc.f_eq, h1]; rfl, h2⟩
end Go.Proofs.Ytnjngpkldifjlaa

/- Merge on both sides; small inputs; the example. -/
set_option linter.unusedVariables false
set_option linter.unusedSimpArgs false
set_option maxHeartbeats 4000000
namespace Go.Proofs.Ytnjngpkldifjlaa
open Go Go.Sk

abbrev CL := List CommandT
/-! ### small inputs -/
def bigC (c : CommandT) : Bool := decide ((c.2.2.1.length : Int) > 100) || decide ((c.2.2.2.2.2.2.1.size : Int) > 100)
def smallS (b : BatchT) : Bool := bif List.any (α := CommandT) b.2.2.2 bigC then false else decide ((List.length (α := CommandT) b.2.2.2 : Int) ≤ 40)
theorem small_eq (b : BatchT) (hb : List.length (α := CommandT) b.2.2.2 ≤ 9223372036854775807) : law46_small.f b = some (smallS b) := by
  rw [law46_small.f_eq, any_loop b.2.2.2 (fun i => law46_small.j0 (List.length (α := CommandT) b.2.2.2) i b) bigC false (some (decide ((List.length (α := CommandT) b.2.2.2 : Int) ≤ 40))) (fun k hk => ?hF) ?hE]
  · unfold smallS
    cases List.any (α := CommandT) b.2.2.2 bigC <;> rfl
  case hF =>
    rw [law46_small.j0_eq, lt_true hk, cond_true, idx_nat, List.getElem?_eq_getElem hk, Option.bind_some, Option.bind_some, wr_succ hk hb, cc]
    rfl
  case hE =>
    rw [law46_small.j0_eq, lt_false (Nat.le_refl _), cond_false]
theorem small_spec {b : BatchT} (h : smallS b = true) : List.length (α := CommandT) b.2.2.2 ≤ 40 ∧ ∀ c ∈ (b.2.2.2 : CL), LenC c := by
  unfold smallS at h
  cases ha : List.any (α := CommandT) b.2.2.2 bigC with
  | true => rw [ha] at h; cases h
  | false =>
    rw [ha, cond_false] at h
    have h1 := of_decide_eq_true h
    refine ⟨by omega, fun c hc => ?_⟩
    have h2 := List.any_eq_false.1 ha c hc
    unfold bigC at h2
    simp only [Bool.or_eq_true, decide_eq_true_eq, not_or] at h2
    exact ⟨by omega, by omega⟩
theorem small_L {b : BatchT} (h : smallS b = true) : BatL b := ⟨by have := (small_spec h).1; show List.length (α := CommandT) _ ≤ 2000000; omega, (small_spec h).2⟩
def fewS (l : BL) : Bool := bif l.any (fun b => !smallS b) then false else decide ((l.length : Int) ≤ 40)
theorem few_eq (l : BL) (hl : l.length ≤ 9223372036854775807) (hb : ∀ b ∈ l, List.length (α := CommandT) b.2.2.2 ≤ 9223372036854775807) : law46_few.f l = some (fewS l) := by
  rw [law46_few.f_eq, any_loop l (fun i => law46_few.j0 l l.length i) (fun b => !smallS b) false (some (decide ((l.length : Int) ≤ 40))) (fun k hk => ?hF) ?hE]
  · unfold fewS
    cases l.any (fun b => !smallS b) <;> rfl
  case hF =>
    rw [law46_few.j0_eq, lt_true hk, cond_true, idx_nat, List.getElem?_eq_getElem hk, Option.bind_some, small_eq _ (hb _ (List.getElem_mem hk)), Option.bind_some, wr_succ hk hl]
  case hE =>
    rw [law46_few.j0_eq, lt_false (Nat.le_refl _), cond_false]
structure Few (l : BL) : Prop where
  len : l.length ≤ 40
  bs : ∀ b ∈ l, List.length (α := CommandT) b.2.2.2 ≤ 40 ∧ ∀ c ∈ (b.2.2.2 : CL), LenC c
theorem few_spec {l : BL} (h : fewS l = true) : Few l := by
  unfold fewS at h
  cases ha : l.any (fun b => !smallS b) with
  | true => rw [ha] at h; cases h
  | false =>
    rw [ha, cond_false] at h
    have h1 := of_decide_eq_true h
    refine ⟨by omega, fun b hb => ?_⟩
    have h2 := List.any_eq_false.1 ha b hb
    simp only [Bool.not_eq_true, Bool.not_eq_false'] at h2
    exact small_spec h2
/-! ### Merge -/
/-- the commands of some batches -/
def catB (r : BL) : CL := r.flatMap fun b => (b.2.2.2 : CL)
theorem catB_nil : catB [] = [] := rfl
theorem catB_cons (b : BatchT) (r : BL) : catB (b :: r) = (b.2.2.2 : CL) ++ catB r := rfl
theorem catB_append (a b : BL) : catB (a ++ b) = catB a ++ catB b := List.flatMap_append ..
theorem catB_len : ∀ (r : BL), (∀ b ∈ r, List.length (α := CommandT) b.2.2.2 ≤ 40) → (catB r).length ≤ 40 * r.length
  | [], _ => by simp [catB]
  | b :: r, h => by
    have h1 := h b (by simp)
    have h2 := catB_len r (fun x hx => h x (by simp [hx]))
    rw [catB_cons, List.length_append, List.length_cons]
    omega
theorem catB_mem {r : BL} {c : CommandT} (h : c ∈ catB r) : ∃ b ∈ r, c ∈ (b.2.2.2 : CL) := List.mem_flatMap.1 h
theorem clone_b (s : BL) (hs : s.length ≤ 1000000) : slices_Clone.f s = some s := by
  have e : cfg.prim 31 [(.one (.slc cBatch s))] [] ⟨[.one (.own cBatch)], 0⟩ = some s := if_pos (by show s.length * 48 ≤ _; omega)
  unfold slices_Clone.f callX orPrim
  rw [e]
  rfl
theorem clone_i (s : List Int) (hs : s.length ≤ 1000000) : slices_Clone_1.f s = some s := by
  have e : cfg.prim 34 [(.one (.slc (.int .i64) s))] [] ⟨[.one (.own (.int .i64))], 0⟩ = some s := if_pos (by show s.length * 8 ≤ _; omega)
  unfold slices_Clone_1.f callX orPrim
  rw [e]
  rfl
theorem wMerge_j1 (n k : Int) (r : BL) (cs : CL) (hc : ∀ c ∈ cs, LenC c) (hl : cs.length ≤ 40) : ∀ (m i : Nat) (out : CL), i + m = cs.length → out.length + m ≤ 1000000 →
    input_Merge.j1 n k cs cs.length i out r = input_Merge.j0 n (IntKind.i64.wrap (k + 1)) (out ++ cs.drop i) r := by
  intro m
  induction m with
  | zero =>
    intro i out hi ho
    rw [input_Merge.j1_eq, lt_false (by omega), cond_false, List.drop_of_length_le (by omega), List.append_nil]
  | succ m ih =>
    intro i out hi ho
    have hlt : i < cs.length := by omega
    have hu := (hc _ (List.getElem_mem hlt)).ul
    rw [input_Merge.j1_eq, lt_true hlt, cond_true, idx_nat, List.getElem?_eq_getElem hlt, Option.bind_some, clone_i _ (by omega), Option.bind_some, List.length_singleton, cond_dec, if_pos (by omega), wr_succ hlt (by omega), ih (i + 1) _ (by omega) (by simp; omega), List.drop_eq_getElem_cons hlt, List.append_assoc]
    rfl
theorem wMerge_j0 (r : BL) (hr : r.length ≤ 40) (hb : ∀ b ∈ r, List.length (α := CommandT) b.2.2.2 ≤ 40 ∧ ∀ c ∈ (b.2.2.2 : CL), LenC c) : ∀ (m k : Nat) (out : CL), k + m = r.length → out.length + 40 * m ≤ 100000 →
    input_Merge.j0 r.length k out r = some (out ++ catB (r.drop k)) := by
  intro m
  induction m with
  | zero =>
    intro k out hk ho
    rw [input_Merge.j0_eq, lt_false (by omega), cond_false, List.drop_of_length_le (by omega), catB_nil, List.append_nil]
  | succ m ih =>
    intro k out hk ho
    have hlt : k < r.length := by omega
    obtain ⟨h1, h2⟩ := hb _ (List.getElem_mem hlt)
    have e := wMerge_j1 r.length k r r[k].2.2.2 h2 h1 (List.length (α := CommandT) r[k].2.2.2) 0 out (by omega) (by omega)
    rw [show ((0 : Nat) : Int) = 0 from rfl] at e
    rw [input_Merge.j0_eq, lt_true hlt, cond_true, decide_eq_true (show (0 : Int) ≤ (k : Int) by omega), Bool.and_true, cond_true, Int.toNat_natCast, List.getElem?_eq_getElem hlt, Option.bind_some, e, wr_succ hlt (by omega), List.drop_zero, ih (k + 1) _ (by omega) (by rw [List.length_append]; omega), List.drop_eq_getElem_cons hlt, catB_cons, List.append_assoc]
theorem wMerge (l : BL) (h : Few l) : ∃ r, Srt pk r ∧ Eqv pk l r ∧ r.length = l.length ∧ input_Merge.f l = some (catB r) := by
  have hl := h.len
  obtain ⟨r, h1, h2, h3, h4⟩ := sort_eq l hl
  refine ⟨r, h2, h3, h4, ?_⟩
  have e := wMerge_j0 r (by omega) (fun b hb => h.bs b (h3.mem hb)) r.length 0 [] (by omega) (by simp; omega)
  rw [show ((0 : Nat) : Int) = 0 from rfl] at e
  rw [input_Merge.f_eq, clone_b l (by omega), Option.bind_some, h1, Option.bind_some, e, List.drop_zero, List.nil_append]
theorem rMerge_j2 (r : BL) (hr : r.length ≤ 40) (hb : ∀ b ∈ r, List.length (α := CommandT) b.2.2.2 ≤ 40) : ∀ (m k : Nat) (out : CL), k + m = r.length → out.length + 40 * m ≤ 100000 → ref46_Merge.j2 k r out = some (out ++ catB (r.drop k)) := by
  intro m
  induction m with
  | zero =>
    intro k out hk ho
    rw [ref46_Merge.j2_eq, lt_false (by omega), cond_false, List.drop_of_length_le (by omega), catB_nil, List.append_nil]
  | succ m ih =>
    intro k out hk ho
    have hlt : k < r.length := by omega
    have h1 := hb _ (List.getElem_mem hlt)
    rw [ref46_Merge.j2_eq, lt_true hlt, cond_true, decide_eq_true (show (0 : Int) ≤ (k : Int) by omega), Bool.and_true, cond_true, Int.toNat_natCast, List.getElem?_eq_getElem hlt, Option.bind_some, cond_dec, if_pos (by omega), wr_succ hlt (by omega), ih (k + 1) _ (by omega) (by rw [List.length_append]; omega), List.drop_eq_getElem_cons hlt, catB_cons, List.append_assoc]
theorem rMerge_put (l : BL) (i k : Nat) (o : BL) (hi : i < l.length) (hl : l.length ≤ 40) (ho : o.length ≤ 40) (hk : k ≤ o.length) (hstop : ∀ y, 0 < k → o[k - 1]? = some y → ¬ pk y > pk l[i]) :
    ref46_Merge.j1 l i k o = ref46_Merge.j0 l ((i + 1 : Nat) : Int) (o.take k ++ [l[i]] ++ o.drop k) := by
  have e1 : ((k : Int) - 0).toNat = k := by omega
  have e2 : ((o.length : Int) - (k : Int)).toNat = o.length - k := by omega
  have e3 : List.take (o.length - k) (o.drop k) = o.drop k := List.take_of_length_le (by rw [List.length_drop]; exact Nat.le_refl _)
  rw [ref46_Merge.j1_eq]
  by_cases h0 : 0 < k
  · obtain ⟨y, hy⟩ := some_at o (k - 1) (by omega)
    have hs := hstop y h0 hy
    unfold pk at hs
    have hw : IntKind.i64.wrap ((k : Int) - 1) = ((k - 1 : Nat) : Int) := by rw [wr_in (by omega) (by omega)]; omega
    rw [decide_eq_true (show (k : Int) > 0 by omega), cond_true, hw, dec_in (show k - 1 < o.length by omega), cond_true, Int.toNat_natCast, hy, Option.bind_some, idx_nat, List.getElem?_eq_getElem hi, Option.bind_some, decide_eq_false hs, cond_false]
    simp only [e1, e2, Int.toNat_natCast, List.drop_zero, e3, idx_nat, List.getElem?_eq_getElem hi, Option.bind_some, List.length_take, List.length_singleton, List.length_append, List.length_drop, Nat.min_eq_left hk, wr_succ hi (show l.length ≤ 9223372036854775807 by omega),
      decide_eq_true (show (0 : Int) ≤ 0 by omega), decide_eq_true (show 0 ≤ (k : Int) by omega), decide_eq_true (show (k : Int) ≤ (o.length : Int) by omega), decide_eq_true (show 0 + k ≤ o.length by omega), decide_eq_true (show k * 48 ≤ 140737488355328 by omega), decide_eq_true (show (k + 1) * 48 ≤ 140737488355328 by omega),
      decide_eq_true (show (o.length : Int) ≤ (o.length : Int) by omega), decide_eq_true (show k + (o.length - k) ≤ o.length by omega), decide_eq_true (show (k + 1 + (o.length - k)) * 48 ≤ 140737488355328 by omega), Bool.and_self, cond_true, Nat.min_self]
    rfl
  · rw [decide_eq_false (show ¬ (k : Int) > 0 by omega), cond_false]
    simp only [e1, e2, Int.toNat_natCast, List.drop_zero, e3, idx_nat, List.getElem?_eq_getElem hi, Option.bind_some, List.length_take, List.length_singleton, List.length_append, List.length_drop, Nat.min_eq_left hk, wr_succ hi (show l.length ≤ 9223372036854775807 by omega),
      decide_eq_true (show (0 : Int) ≤ 0 by omega), decide_eq_true (show 0 ≤ (k : Int) by omega), decide_eq_true (show (k : Int) ≤ (o.length : Int) by omega), decide_eq_true (show 0 + k ≤ o.length by omega), decide_eq_true (show k * 48 ≤ 140737488355328 by omega), decide_eq_true (show (k + 1) * 48 ≤ 140737488355328 by omega),
      decide_eq_true (show (o.length : Int) ≤ (o.length : Int) by omega), decide_eq_true (show k + (o.length - k) ≤ o.length by omega), decide_eq_true (show (k + 1 + (o.length - k)) * 48 ≤ 140737488355328 by omega), Bool.and_self, cond_true, Nat.min_self]
    rfl
theorem rMerge_j1 (l : BL) (i : Nat) (o : BL) (hi : i < l.length) (hl : l.length ≤ 40) (ho : o.length ≤ 40) (hs : Srt pk o) : ∀ (k : Nat), k ≤ o.length → (∀ y ∈ o.drop k, pk l[i] < pk y) →
    ∃ k', k' ≤ o.length ∧ ref46_Merge.j1 l i k o = ref46_Merge.j0 l ((i + 1 : Nat) : Int) (o.take k' ++ [l[i]] ++ o.drop k') ∧ (∀ y ∈ o.drop k', pk l[i] < pk y) ∧ (∀ y ∈ o.take k', pk y ≤ pk l[i]) := by
  intro k
  induction k with
  | zero =>
    intro hk hd
    exact ⟨0, hk, rMerge_put l i 0 o hi hl ho hk (fun y h => absurd h (by omega)), hd, by simp⟩
  | succ k ih =>
    intro hk hd
    have hlt : k < o.length := by omega
    by_cases h : pk o[k] > pk l[i]
    · have hw : IntKind.i64.wrap (((k + 1 : Nat) : Int) - 1) = (k : Int) := by rw [wr_in (by omega) (by omega)]; omega
      have e : ref46_Merge.j1 l i ((k + 1 : Nat) : Int) o = ref46_Merge.j1 l i k o := by
        unfold pk at h
        rw [ref46_Merge.j1_eq, decide_eq_true (show ((k + 1 : Nat) : Int) > 0 by omega), cond_true, hw, dec_in hlt, cond_true, Int.toNat_natCast, List.getElem?_eq_getElem hlt, Option.bind_some, idx_nat, List.getElem?_eq_getElem hi, Option.bind_some, decide_eq_true h, cond_true]
      rw [e]
      refine ih (by omega) fun y hy => ?_
      rw [List.drop_eq_getElem_cons hlt] at hy
      rcases List.mem_cons.1 hy with rfl | hy
      · exact h
      · exact hd y hy
    · refine ⟨k + 1, hk, rMerge_put l i (k + 1) o hi hl ho hk (fun y h0 hy => ?_), hd, fun y hy => ?_⟩
      · rw [Nat.add_sub_cancel, List.getElem?_eq_getElem hlt] at hy
        cases hy
        exact h
      · obtain ⟨j, hj, rfl⟩ := List.getElem_of_mem hy
        rw [List.getElem_take]
        have hj' : j < k + 1 := by rw [List.length_take] at hj; omega
        have := hs.le (show j ≤ k by omega) hlt
        omega
theorem rMerge_j0 (l : BL) (h : Few l) : ∀ (m i : Nat) (o : BL), i + m = l.length → o.length = i → Srt pk o → Eqv pk (l.take i) o → ∃ r, Srt pk r ∧ Eqv pk l r ∧ r.length = l.length ∧ ref46_Merge.j0 l i o = some (catB r) := by
  have hl := h.len
  intro m
  induction m with
  | zero =>
    intro i o hi ho hs he
    rw [List.take_of_length_le (by omega)] at he
    refine ⟨o, hs, he, by omega, ?_⟩
    have e := rMerge_j2 o (by omega) (fun b hb => (h.bs b (he.mem hb)).1) o.length 0 [] (by omega) (by simp; omega)
    rw [show ((0 : Nat) : Int) = 0 from rfl] at e
    rw [ref46_Merge.j0_eq, lt_false (by omega), cond_false, e, List.drop_zero, List.nil_append]
  | succ m ih =>
    intro i o hi ho hs he
    have hlt : i < l.length := by omega
    obtain ⟨k, hk, h1, h2, h3⟩ := rMerge_j1 l i o hlt hl (by omega) hs o.length (Nat.le_refl _) (by simp)
    rw [ref46_Merge.j0_eq, lt_true hlt, cond_true, h1]
    have hs' := hs
    have htd : o = o.take k ++ o.drop k := (List.take_append_drop _ _).symm
    unfold Srt at hs
    rw [htd, List.pairwise_append] at hs
    refine ih (i + 1) _ (by omega) (by simp; omega) ?_ ?_
    · unfold Srt
      rw [List.append_assoc, List.pairwise_append]
      refine ⟨hs.1, ?_, fun u hu v hv => ?_⟩
      · exact List.pairwise_cons.2 ⟨fun v hv => Int.le_of_lt (h2 v hv), hs.2.1⟩
      · rcases List.mem_append.1 hv with hv | hv
        · simp at hv; subst hv; exact h3 u hu
        · exact hs.2.2 u hu v hv
    · rw [List.take_succ_eq_append_getElem hlt]
      refine Eqv.trans (Eqv.app he (Eqv.refl _)) ?_
      have e : Eqv pk (o ++ [l[i]]) ((o.take k ++ o.drop k) ++ [l[i]]) := by rw [← htd]; exact Eqv.refl _
      refine e.trans ?_
      rw [List.append_assoc, List.append_assoc]
      refine Eqv.app (Eqv.refl _) (Eqv.swap fun u hu v hv => ?_)
      simp at hv
      subst hv
      have := h2 u hu
      omega
theorem rMerge (l : BL) (h : Few l) : ∃ r, Srt pk r ∧ Eqv pk l r ∧ r.length = l.length ∧ ref46_Merge.f l = some (catB r) := by
  have := rMerge_j0 l h l.length 0 [] (by omega) rfl (by simp [Srt]) (by simpa using Eqv.refl (key := pk) [])
  rw [show ((0 : Nat) : Int) = 0 from rfl] at this
  rw [ref46_Merge.f_eq]
  exact this
theorem merges (l : BL) (h : Few l) : ∃ r, Srt pk r ∧ Eqv pk l r ∧ r.length = l.length ∧ input_Merge.f l = some (catB r) ∧ ref46_Merge.f l = some (catB r) := by
  obtain ⟨r, h1, h2, h3, h4⟩ := wMerge l h
  obtain ⟨r', g1, g2, g3, g4⟩ := rMerge l h
  obtain rfl : r = r' := Srt.unique h1 g1 (h2.symm.trans g2)
  exact ⟨r, h1, h2, h3, h4, g4⟩
theorem catB_ok {l r : BL} (h : Few l) (he : Eqv pk l r) (hl : r.length = l.length) : (catB r).length ≤ 1600 ∧ ∀ c ∈ catB r, LenC c := by
  have h0 := h.len
  refine ⟨?_, fun c hc => ?_⟩
  · have := catB_len r (fun b hb => (h.bs b (he.mem hb)).1)
    omega
  · obtain ⟨b, hb, hcb⟩ := catB_mem hc
    exact (h.bs b (he.mem hb)).2 c hcb
/-! ### the example -/
abbrev pz (p : Int) : CommandT := (p, 10, [], (0, 0), 0, 0, { data := #[] }, false)
theorem pz_len (p : Int) : LenC (pz p) := ⟨by simp, by rw [show (pz p).2.2.2.2.2.2.1.size = 0 from rfl]; omega⟩
theorem pz_fit (p : Int) (h : I64 p) : FitC (pz p) := by
  have h0 : I64 0 := ⟨by decide, by decide⟩
  have h10 : I64 10 := ⟨by decide, by decide⟩
  exact ⟨h, h10, by simp, by simp, h0, h0, h0, h0, by rw [show (pz p).2.2.2.2.2.2.1.size = 0 from rfl]; omega⟩
theorem pz_bare (p : Int) : bareS (pz p) = true := by
  unfold bareS
  rw [empty_iff]
  rfl
theorem pz_val (p : Int) (h1 : 1 ≤ p) (h2 : p ≤ 6) : valC (pz p) = 0 := by
  unfold valC
  rw [pz_bare]
  simp only [decide_eq_false (show ¬ p < 1 by omega), decide_eq_false (show ¬ p > 6 by omega)]
  rfl
abbrev exA : BatchT := (2, 0, 0, [pz 2, pz 2])
abbrev exB : BatchT := (1, 3, 2, [pz 1])
theorem exA_L : BatL exA := ⟨by show 2 ≤ 2000000; omega, fun c hc => by simp at hc; subst hc; exact pz_len 2⟩
theorem exB_L : BatL exB := ⟨by show 1 ≤ 2000000; omega, fun c hc => by simp at hc; subst hc; exact pz_len 1⟩
theorem exA_ok : batOK exA = true := by
  unfold batOK badCmd
  simp only [List.any_cons, List.any_nil, pz_val 2 (by omega) (by omega)]
  rfl
theorem exB_ok : batOK exB = true := by
  unfold batOK badCmd
  simp only [List.any_cons, List.any_nil, pz_val 1 (by omega) (by omega)]
  rfl
theorem exB_fit : FitB exB := by
  have h0 : I64 1 := ⟨by decide, by decide⟩
  have h1 : I64 3 := ⟨by decide, by decide⟩
  have h2 : I64 2 := ⟨by decide, by decide⟩
  exact ⟨h0, h1, h2, fun c hc => by simp at hc; subst hc; exact pz_fit 1 h0, by show 1 ≤ 40; omega⟩
theorem zero_bad : batOK zeroB = false := rfl
theorem exFew : Few [exA, exB] := ⟨by simp, fun b hb => by
  simp at hb
  rcases hb with rfl | rfl
  · exact ⟨by show 2 ≤ 40; omega, fun c hc => by simp at hc; subst hc; exact pz_len 2⟩
  · exact ⟨by show 1 ≤ 40; omega, fun c hc => by simp at hc; subst hc; exact pz_len 1⟩⟩
theorem exMerge : input_Merge.f [exA, exB] = some [pz 1, pz 2, pz 2] := by
  obtain ⟨r, h1, h2, h3, h4, _⟩ := merges _ exFew
  have hs : Srt pk [exB, exA] := by
    unfold Srt
    refine List.pairwise_cons.2 ⟨fun y hy => ?_, by simp⟩
    simp at hy
    subst hy
    decide
  have he : Eqv pk [exA, exB] [exB, exA] := Eqv.swap (u := [exA]) (v := [exB]) fun x hx y hy => by
    simp at hx hy
    subst hx
    subst hy
    decide
  rw [h4, Srt.unique h1 hs (h2.symm.trans he)]
  rfl
theorem encB_big : 4 < (encB exB).size := by
  have h1 := ivT_pos 1
  have h2 := ivT_pos 3
  have h3 := ivT_pos 2
  have h4 := uvL_pos (List.length (α := CommandT) exB.2.2.2)
  have h5 := encC_pos (pz 1)
  unfold encB
  simp only [ByteArray.size_append]
  have h6 : (uvT (List.length (α := CommandT) exB.2.2.2)).size = (uvL (List.length (α := CommandT) exB.2.2.2)).length := txt_size _
  have h7 : (catC exB.2.2.2).size = (encC (pz 1)).size := by
    show (encC (pz 1) ++ (⟨#[]⟩ : ByteArray)).size = _
    rw [app_nil]
  rw [h6, h7]
  show 4 < (ivT 1).size + ((ivT 3).size + ((ivT 2).size + _))
  omega
theorem alive_eq : law46_alive.f = some true := by
  have hd : decB (encB exB) 0 = (exB, ((encB exB).size : Int), 0) := by
    have h : At (encB exB) 0 (encB exB) := ⟨⟨#[]⟩, ⟨#[]⟩, by rw [nil_app, app_nil], rfl⟩
    have := h.batch exB_fit exB_ok
    rw [this]
    simp
  rw [law46_alive.f_eq, law46_pause.f_eq, law46_pause.f_eq]
  simp only [Option.bind_some]
  rw [exMerge, Option.bind_some, wEncB exB_fit, Option.bind_some, wDecB (by have := encB_size exB_fit; omega) 0, hd, Option.bind_some, batSame_eq exB exB exB_L, batSame_eq exA exB exA_L, inputValid_eq exA exA_L, exA_ok, inputValid_eq zeroB ⟨by show 0 ≤ 2000000; omega, by simp⟩, zero_bad,
    decide_eq_true (show exB = exB from rfl), decide_eq_false (show ¬ exA = exB by decide), decide_eq_true (show ((encB exB).size : Int) > 4 by have := encB_big; omega)]
  simp only [beq_self_eq_true]
  rfl
end Go.Proofs.Ytnjngpkldifjlaa

/- The statements but InputMerges. -/
set_option linter.unusedVariables false
set_option linter.unusedSimpArgs false
set_option maxHeartbeats 4000000
namespace Go.Proofs.Ytnjngpkldifjlaa
open Go Go.Sk

theorem i64_of {n : Int} (h : Fits (.int .i64) n) : I64 n := ⟨h.1, h.2⟩
theorem fit_cmd {c : CommandT} (h : Fits cCommand c) (hl : LenC c) : FitC c := by
  obtain ⟨h1, h2, ⟨h3, h3'⟩, ⟨h4, h5⟩, h6, h7, h8, h9⟩ := h
  exact ⟨i64_of h1, i64_of h2, fun n hn => i64_of (h3' n hn), hl.ul, i64_of h4, i64_of h5, i64_of h6, i64_of h7, hl.nl⟩
theorem fit_len {b : BatchT} (h : Fits cBatch b) : List.length (α := CommandT) b.2.2.2 ≤ 9223372036854775807 := h.2.2.2.1.1
theorem fit_bat {b : BatchT} (h : Fits cBatch b) (hs : smallS b = true) : FitB b := by
  obtain ⟨hl, hc⟩ := small_spec hs
  obtain ⟨h1, h2, h3, h4, h5⟩ := h
  exact ⟨i64_of h1, i64_of h2, i64_of h3, fun c hcm => fit_cmd (h5 c hcm) (hc c hcm), hl⟩
theorem valid (a b : BatchT) (ha : Fits cBatch a) (hb : Fits cBatch b) : law46_InputValid.f a b = some true := by
  rw [law46_InputValid.f_eq, small_eq a (fit_len ha), Option.bind_some, alive_eq]
  cases h1 : smallS a with
  | false => rfl
  | true =>
    rw [Bool.not_true, cond_false, small_eq b (fit_len hb), Option.bind_some]
    cases h2 : smallS b with
    | false => rfl
    | true =>
      have hL := small_L h1
      rw [Bool.not_true, cond_false, inputValid_eq a hL, Option.bind_some, refValid_eq a hL, Option.bind_some, beq_self_eq_true, cond_true, batSame_eq a b hL, Option.bind_some, rbatSame_eq a b hL, Option.bind_some, beq_self_eq_true, cond_true, batSame_eq a a hL, decide_eq_true rfl]
      rfl
theorem fits_list {l : BL} (h : Fits (.slice cBatch) l) : l.length ≤ 9223372036854775807 ∧ ∀ b ∈ l, List.length (α := CommandT) b.2.2.2 ≤ 9223372036854775807 :=
  ⟨h.1.1, fun b hb => fit_len (h.2 b hb)⟩
theorem mergesAll (l : BL) (hl : Fits (.slice cBatch) l) : law46_InputMergesAll.f l = some true := by
  rw [law46_InputMergesAll.f_eq, few_eq l (fits_list hl).1 (fits_list hl).2, Option.bind_some, alive_eq]
  cases h1 : fewS l with
  | false => rfl
  | true =>
    have hF := few_spec h1
    obtain ⟨r, g1, g2, g3, g4, g5⟩ := merges l hF
    obtain ⟨c1, c2⟩ := catB_ok hF g2 g3
    rw [Bool.not_true, cond_false, g4, Option.bind_some, g5, Option.bind_some, sameCmds_eq _ _ (by unfold lim48; omega) c2, decide_eq_true rfl]
    rfl
theorem decodes (b : BatchT) (s : ByteArray) (a : Int) (hb : Fits cBatch b) : law46_InputDecodes.f b s a = some true := by
  rw [law46_InputDecodes.f_eq, small_eq b (fit_len hb), Option.bind_some, alive_eq]
  cases h1 : smallS b with
  | false => rfl
  | true =>
    have hF := fit_bat hb h1
    rw [Bool.not_true, cond_false]
    by_cases h2 : (s.size : Int) > 5000
    · rw [decide_eq_true h2]; rfl
    · have hs : s.size ≤ 100000 := by omega
      rw [decide_eq_false h2, cond_false, wDecB hs a, Option.bind_some, rDecB hs a, Option.bind_some, wEncB hF, Option.bind_some, rEncB hF, Option.bind_some, beq_self_eq_true, cond_true, rbatSame_eq _ _ (decB_len s a), decide_eq_true rfl]
      simp only [Option.bind_some, cond_true, beq_self_eq_true]
theorem roundTrip (b : BatchT) (x y : ByteArray) (hb : Fits cBatch b) : law46_InputRoundTrip.f b x y = some true := by
  rw [law46_InputRoundTrip.f_eq, small_eq b (fit_len hb), Option.bind_some, alive_eq]
  cases h1 : smallS b with
  | false => rfl
  | true =>
    have hF := fit_bat hb h1
    have hL := small_L h1
    rw [Bool.not_true, cond_false]
    by_cases h2 : (x.size : Int) > 1000
    · rw [decide_eq_true h2]; rfl
    by_cases h3 : (y.size : Int) > 1000
    · rw [decide_eq_false h2, cond_false, decide_eq_true h3]; rfl
    rw [decide_eq_false h2, cond_false, decide_eq_false h3, cond_false, refValid_eq b hL, Option.bind_some]
    cases hv : batOK b with
    | false => rfl
    | true =>
      have hz := encB_size hF
      have hat : At (x ++ encB b ++ y) x.size (encB b) := ⟨x, y, rfl, rfl⟩
      rw [Bool.not_true, cond_false, wEncB hF, Option.bind_some, cond_dec, if_pos (by omega), cond_dec, if_pos (by rw [ByteArray.size_append]; omega), wDecB (by rw [ByteArray.size_append, ByteArray.size_append]; omega), Option.bind_some, hat.batch hF hv,
        wr_in (x := (x.size : Int) + ((encB b).size : Int)) (by omega) (by omega)]
      simp only [beq_self_eq_true, cond_true]
      rw [rbatSame_eq b b hL, decide_eq_true rfl]
      rfl
end Go.Proofs.Ytnjngpkldifjlaa

/- InputMerges: the commands of each player in order, whatever the players' order. -/
set_option linter.unusedVariables false
set_option linter.unusedSimpArgs false
set_option maxHeartbeats 4000000
namespace Go.Proofs.Ytnjngpkldifjlaa
open Go Go.Sk

def outS (b : BatchT) : Bool := decide (b.1 < 1) || decide (b.1 > 6)
def insideS (l : BL) : Bool := !l.any outS
theorem inside_eq (l : BL) (hl : l.length ≤ 40) : law46_inside.f l = some (insideS l) := by
  rw [law46_inside.f_eq, any_loop l (fun i => law46_inside.j0 l l.length i) outS false (some true) (fun k hk => ?hF) ?hE]
  · unfold insideS
    cases l.any outS <;> rfl
  case hF =>
    rw [law46_inside.j0_eq, lt_true hk, cond_true, idx_nat, List.getElem?_eq_getElem hk, Option.bind_some, Option.bind_some, wr_succ hk (by omega), cc]
    rfl
  case hE =>
    rw [law46_inside.j0_eq, lt_false (Nat.le_refl _), cond_false]
theorem inside_spec {l : BL} (h : insideS l = true) : ∀ b ∈ l, 1 ≤ pk b ∧ pk b ≤ 6 := by
  intro b hb
  unfold insideS at h
  rw [Bool.not_eq_true'] at h
  have := List.any_eq_false.1 h b hb
  unfold outS at this
  unfold pk
  simp only [Bool.or_eq_true, decide_eq_true_eq, not_or] at this
  omega
/-- the batches of a player -/
theorem own_j (l : BL) (hl : l.length ≤ 40) (n p : Int) (o0 : CL) : ∀ (m k : Nat) (o : BL), k + m = l.length → o.length ≤ k →
    law46_InputMerges.j1 l n p l.length k o0 o = law46_InputMerges.j3 l n p ((o ++ FK pk p (l.drop k)).length : Nat) 0 o0 (o ++ FK pk p (l.drop k)) := by
  intro m
  induction m with
  | zero =>
    intro k o hk ho
    rw [law46_InputMerges.j1_eq, lt_false (by omega), cond_false, List.drop_of_length_le (by omega)]
    unfold FK
    rw [List.filter_nil, List.append_nil]
  | succ m ih =>
    intro k o hk ho
    have hlt : k < l.length := by omega
    rw [law46_InputMerges.j1_eq, lt_true hlt, cond_true, idx_nat, List.getElem?_eq_getElem hlt, Option.bind_some, Option.bind_some, wr_succ hlt (by omega), List.drop_eq_getElem_cons hlt]
    unfold FK
    by_cases h : l[k].1 = p
    · rw [List.filter_cons_of_pos (by unfold pk; simpa using h), beq_iff_eq.2 h, cond_true, cond_dec, List.length_singleton, if_pos (by omega), ih (k + 1) _ (by omega) (by simp; omega)]
      unfold FK
      rw [List.append_assoc]
      rfl
    · rw [List.filter_cons_of_neg (by unfold pk; simpa using h), beq_eq_false_iff_ne.2 h, cond_false, ih (k + 1) _ (by omega) (by omega)]
      rfl
theorem back_j (l : BL) (hl : l.length ≤ 40) (p : Int) (hp : 1 ≤ p ∧ p ≤ 6) (o0 : CL) : ∀ (m k : Nat) (o : BL), k + m = l.length → o.length + m ≤ 1000 →
    law46_InputMerges.j4 l p l.length k o0 o = law46_InputMerges.j2 l (p - 1) o0 (o ++ FK pk p (l.drop k)) := by
  intro m
  induction m with
  | zero =>
    intro k o hk ho
    rw [law46_InputMerges.j4_eq, lt_false (by omega), cond_false, List.drop_of_length_le (by omega), wr_in (x := p - 1) (by omega) (by omega)]
    unfold FK
    rw [List.filter_nil, List.append_nil]
  | succ m ih =>
    intro k o hk ho
    have hlt : k < l.length := by omega
    rw [law46_InputMerges.j4_eq, lt_true hlt, cond_true, idx_nat, List.getElem?_eq_getElem hlt, Option.bind_some, Option.bind_some, wr_succ hlt (by omega), List.drop_eq_getElem_cons hlt]
    unfold FK
    by_cases h : l[k].1 = p
    · rw [List.filter_cons_of_pos (by unfold pk; simpa using h), beq_iff_eq.2 h, cond_true, cond_dec, List.length_singleton, if_pos (by omega), ih (k + 1) _ (by omega) (by simp; omega)]
      unfold FK
      rw [List.append_assoc]
      rfl
    · rw [List.filter_cons_of_neg (by unfold pk; simpa using h), beq_eq_false_iff_ne.2 h, cond_false, ih (k + 1) _ (by omega) (by omega)]
      rfl
/-! ### all players, forth and back -/
def upTo (l : BL) : Nat → BL
  | 0 => []
  | p + 1 => upTo l p ++ FK pk ((p + 1 : Nat) : Int) l
def downFrom (l : BL) : Nat → BL
  | 0 => []
  | p + 1 => FK pk ((p + 1 : Nat) : Int) l ++ downFrom l p
theorem FK_key {k : Int} {l : BL} {b : BatchT} (h : b ∈ FK pk k l) : pk b = k ∧ b ∈ l := by
  have := List.mem_filter.1 h
  exact ⟨by simpa using this.2, this.1⟩
theorem upTo_key {l : BL} : ∀ {n : Nat} {b : BatchT}, b ∈ upTo l n → 1 ≤ pk b ∧ pk b ≤ n
  | 0, b, h => by simp [upTo] at h
  | n + 1, b, h => by
    rcases List.mem_append.1 h with h | h
    · have := upTo_key h; omega
    · have := (FK_key h).1; omega
theorem srt_same {k : Int} {l : BL} : Srt pk (FK pk k l) := by
  refine List.pairwise_of_forall_mem_list fun a ha b hb => ?_
  rw [(FK_key ha).1, (FK_key hb).1]
  exact Int.le_refl _
theorem upTo_srt (l : BL) : ∀ n, Srt pk (upTo l n)
  | 0 => by simp [upTo, Srt]
  | n + 1 => by
    refine List.pairwise_append.2 ⟨upTo_srt l n, srt_same, fun a ha b hb => ?_⟩
    have h1 := upTo_key ha
    have h2 := (FK_key hb).1
    omega
theorem FK_FK (k j : Int) (l : BL) : FK pk k (FK pk j l) = if k = j then FK pk j l else [] := by
  split
  · rename_i h
    subst h
    unfold FK
    rw [List.filter_filter]
    congr 1
    funext x
    simp
  · rename_i h
    exact FK_nil fun x hx e => h (by rw [← e, (FK_key hx).1])
theorem upTo_FK (l : BL) (k : Int) : ∀ n : Nat, FK pk k (upTo l n) = if 1 ≤ k ∧ k ≤ n then FK pk k l else []
  | 0 => by
    rw [if_neg (by omega)]
    simp [upTo, FK]
  | n + 1 => by
    rw [upTo, FK_append, upTo_FK l k n, FK_FK]
    by_cases h : k = ((n + 1 : Nat) : Int)
    · subst h
      rw [if_neg (by omega), if_pos rfl, if_pos (by omega), List.nil_append]
    · rw [if_neg h, List.append_nil]
      by_cases h2 : 1 ≤ k ∧ k ≤ n
      · rw [if_pos h2, if_pos (by omega)]
      · rw [if_neg h2, if_neg (by omega)]
theorem downFrom_FK (l : BL) (k : Int) : ∀ n : Nat, FK pk k (downFrom l n) = if 1 ≤ k ∧ k ≤ n then FK pk k l else []
  | 0 => by
    rw [if_neg (by omega)]
    simp [downFrom, FK]
  | n + 1 => by
    rw [downFrom, FK_append, downFrom_FK l k n, FK_FK]
    by_cases h : k = ((n + 1 : Nat) : Int)
    · subst h
      rw [if_pos rfl, if_neg (by omega), if_pos (by omega), List.append_nil]
    · rw [if_neg h, List.nil_append]
      by_cases h2 : 1 ≤ k ∧ k ≤ n
      · rw [if_pos h2, if_pos (by omega)]
      · rw [if_neg h2, if_neg (by omega)]
theorem upTo_eqv {l : BL} (h : ∀ b ∈ l, 1 ≤ pk b ∧ pk b ≤ 6) : Eqv pk l (upTo l 6) := fun k => by
  rw [upTo_FK]
  split
  · rfl
  · rename_i hk
    exact FK_nil fun x hx e => hk (by have := h x hx; omega)
theorem down_eqv {l : BL} (h : ∀ b ∈ l, 1 ≤ pk b ∧ pk b ≤ 6) : Eqv pk l (downFrom l 6) := fun k => by
  rw [downFrom_FK]
  split
  · rfl
  · rename_i hk
    exact FK_nil fun x hx e => hk (by have := h x hx; omega)
theorem FK_len (l : BL) (k : Int) : (FK pk k l).length ≤ l.length := List.length_filter_le _ _
theorem down_len_gen (l : BL) : ∀ n : Nat, (downFrom l n).length = (l.filter fun b => decide (1 ≤ pk b ∧ pk b ≤ n)).length
  | 0 => by
    rw [List.filter_eq_nil_iff.2 (fun x _ => by simp; omega)]
    rfl
  | n + 1 => by
    rw [downFrom, List.length_append, down_len_gen l n]
    unfold FK
    induction l with
    | nil => rfl
    | cons b r ih =>
      by_cases h1 : pk b = ((n + 1 : Nat) : Int)
      · rw [List.filter_cons_of_pos (by simpa using h1), List.filter_cons_of_neg (by simp; omega), List.filter_cons_of_pos (by simp; omega)]
        simp only [List.length_cons]
        omega
      · rw [List.filter_cons_of_neg (by simpa using h1)]
        by_cases h2 : 1 ≤ pk b ∧ pk b ≤ n
        · rw [List.filter_cons_of_pos (by simpa using h2), List.filter_cons_of_pos (by simp; omega)]
          simp only [List.length_cons]
          omega
        · rw [List.filter_cons_of_neg (by simpa using h2), List.filter_cons_of_neg (by simp; omega)]
          exact ih
theorem down_len (l : BL) (n : Nat) : (downFrom l n).length ≤ l.length := by
  rw [down_len_gen]; exact List.length_filter_le _ _
theorem down_mem {l : BL} : ∀ {n : Nat} {b : BatchT}, b ∈ downFrom l n → b ∈ l
  | 0, b, h => by simp [downFrom] at h
  | n + 1, b, h => by
    rcases List.mem_append.1 h with h | h
    · exact (FK_key h).2
    · exact down_mem h
/-! ### the walk over the merged commands -/
section
variable {l : BL} {o0 : CL}
/-- inside: the commands stand where they should -/
theorem walk_in (hl : l.length ≤ 40) (hin : insideS l = true) (h0 : o0.length ≤ 1600) (hL : ∀ c ∈ o0, LenC c) (p : Int) (own : BL) (i : Nat) (hi : i < own.length) (hown : own.length ≤ 40) (cs : CL) (hcs : cs = own[i].2.2.2) (hc40 : cs.length ≤ 40) (N : Int) (j : Nat) : ∀ (m k n : Nat), k + m = cs.length → (∃ rest, o0.drop n = cs.drop k ++ rest) → n ≤ o0.length →
    law46_InputMerges.j5 l n p i N j cs.length k o0 own = law46_InputMerges.j3 l ((n + m : Nat) : Int) p N (IntKind.i64.wrap ((j : Int) + 1)) o0 own := by
  intro m
  induction m with
  | zero =>
    intro k n hk hr hn
    rw [law46_InputMerges.j5_eq, lt_false (by omega), cond_false]
    rfl
  | succ m ih =>
    intro k n hk hr hn
    obtain ⟨rest, hr⟩ := hr
    have hlt : k < cs.length := by omega
    rw [List.drop_eq_getElem_cons hlt] at hr
    have hnl : n < o0.length := by
      rcases Nat.lt_or_ge n o0.length with h | h
      · exact h
      · rw [List.drop_of_length_le h] at hr; cases hr
    rw [List.drop_eq_getElem_cons hnl, List.cons_append] at hr
    obtain ⟨e1, e2⟩ := List.cons.inj hr
    have hidx : idx own[i].2.2.2 (k : Int) = some cs[k] := by rw [← hcs, idx_nat, List.getElem?_eq_getElem hlt]
    rw [law46_InputMerges.j5_eq, lt_true hlt, cond_true, decide_eq_false (show ¬ (n : Int) ≥ (o0.length : Int) by omega), cond_false, inside_eq l hl, hin, Option.bind_some, cond_true, dec_in hnl, cond_true, Int.toNat_natCast, List.getElem?_eq_getElem hnl, Option.bind_some, dec_in hi, cond_true, Int.toNat_natCast, List.getElem?_eq_getElem hi, Option.bind_some, hidx, Option.bind_some,
      rcmdSame_eq _ _ (hL _ (List.getElem_mem hnl)), decide_eq_true e1, Option.bind_some, Bool.not_true, cond_false, wr_succ hnl (by omega), wr_succ hlt (by omega), ih (k + 1) (n + 1) (by omega) ⟨rest, e2⟩ (by omega)]
    congr 1
    omega
theorem walk_own_in (hl : l.length ≤ 40) (hin : insideS l = true) (h0 : o0.length ≤ 1600) (hL : ∀ c ∈ o0, LenC c) (p : Int) (own : BL) (hown : own.length ≤ 40) (hb : ∀ b ∈ own, List.length (α := CommandT) b.2.2.2 ≤ 40) : ∀ (m i n : Nat), i + m = own.length → (∃ rest, o0.drop n = catB (own.drop i) ++ rest) → n ≤ o0.length →
    law46_InputMerges.j3 l n p own.length i o0 own = law46_InputMerges.j0 l ((n + (catB (own.drop i)).length : Nat) : Int) (IntKind.i64.wrap (p + 1)) o0 := by
  intro m
  induction m with
  | zero =>
    intro i n hi hr hn
    rw [law46_InputMerges.j3_eq, lt_false (by omega), cond_false, List.drop_of_length_le (by omega)]
    rfl
  | succ m ih =>
    intro i n hi hr hn
    obtain ⟨rest, hr⟩ := hr
    have hlt : i < own.length := by omega
    rw [List.drop_eq_getElem_cons hlt, catB_cons, List.append_assoc] at hr
    have h40 := hb _ (List.getElem_mem hlt)
    have e := walk_in hl hin h0 hL p own i hlt hown own[i].2.2.2 rfl h40 own.length i (List.length (α := CommandT) own[i].2.2.2) 0 n (by omega) ⟨_, by rw [List.drop_zero]; exact hr⟩ hn
    rw [show ((0 : Nat) : Int) = 0 from rfl] at e
    have hdl := congrArg List.length hr
    rw [List.length_drop, List.length_append] at hdl
    have hr2 : o0.drop (n + List.length (α := CommandT) own[i].2.2.2) = catB (own.drop (i + 1)) ++ rest := by
      rw [← List.drop_drop, hr, List.drop_left']
      rfl
    rw [law46_InputMerges.j3_eq, lt_true hlt, cond_true, decide_eq_true (show (0 : Int) ≤ (i : Int) by omega), Bool.and_true, cond_true, Int.toNat_natCast, List.getElem?_eq_getElem hlt, Option.bind_some, e, wr_succ hlt (by omega), ih (i + 1) _ (by omega) ⟨rest, hr2⟩ (by omega), List.drop_eq_getElem_cons hlt, catB_cons, List.length_append, Nat.add_assoc]
theorem all_in (hl : l.length ≤ 40) (hin : insideS l = true) (h0 : o0.length ≤ 1600) (hL : ∀ c ∈ o0, LenC c) (hb : ∀ b ∈ l, List.length (α := CommandT) b.2.2.2 ≤ 40) (hr : o0 = catB (upTo l 6)) : ∀ (m p : Nat), p + m = 6 →
    law46_InputMerges.j0 l ((catB (upTo l p)).length : Nat) ((p + 1 : Nat) : Int) o0 = law46_InputMerges.j0 l (o0.length : Nat) 7 o0 := by
  intro m
  induction m with
  | zero =>
    intro p hp
    obtain rfl : p = 6 := by omega
    rw [← hr]
    rfl
  | succ m ih =>
    intro p hp
    have hpre : ∀ n q : Nat, n + q = 6 → ∃ rest, catB (upTo l 6) = catB (upTo l n) ++ rest := by
      intro n q
      induction q generalizing n with
      | zero => intro h; obtain rfl : n = 6 := by omega
                exact ⟨[], by simp⟩
      | succ q ihq =>
        intro h
        obtain ⟨rest, h1⟩ := ihq (n + 1) (by omega)
        exact ⟨catB (FK pk ((n + 1 : Nat) : Int) l) ++ rest, by rw [h1, upTo, catB_append, List.append_assoc]⟩
    obtain ⟨rest, hrest⟩ := hpre (p + 1) m (by omega)
    have hsplit : o0 = catB (upTo l p) ++ (catB (FK pk ((p + 1 : Nat) : Int) l) ++ rest) := by rw [hr, hrest, upTo, catB_append, List.append_assoc]
    have e1 := own_j l hl ((catB (upTo l p)).length : Nat) ((p + 1 : Nat) : Int) o0 l.length 0 [] (by omega) (Nat.le_refl _)
    rw [show ((0 : Nat) : Int) = 0 from rfl, List.drop_zero, List.nil_append] at e1
    have hle : (catB (upTo l p)).length ≤ o0.length := by rw [hsplit, List.length_append]; omega
    have e2 := walk_own_in hl hin h0 hL ((p + 1 : Nat) : Int) (FK pk ((p + 1 : Nat) : Int) l) (Nat.le_trans (FK_len _ _) hl) (fun b hbm => hb b (FK_key hbm).2) (FK pk ((p + 1 : Nat) : Int) l).length 0 (catB (upTo l p)).length (by omega) ⟨rest, by
      rw [List.drop_zero, hsplit, List.drop_left' rfl]⟩ hle
    rw [show ((0 : Nat) : Int) = 0 from rfl, List.drop_zero] at e2
    rw [law46_InputMerges.j0_eq, decide_eq_true (show ((p + 1 : Nat) : Int) ≤ 6 by omega), cond_true, e1, e2]
    have e3 : (catB (upTo l p)).length + (catB (FK pk ((p + 1 : Nat) : Int) l)).length = (catB (upTo l (p + 1))).length := by rw [upTo, catB_append, List.length_append]
    rw [e3, wr_in (x := ((p + 1 : Nat) : Int) + 1) (by omega) (by omega)]
    exact ih (p + 1) (by omega)
/-- otherwise: the number of commands looked at -/
theorem walk_out (hl : l.length ≤ 40) (hin : insideS l = false) (h0 : o0.length ≤ 1600) (p : Int) (own : BL) (i : Int) (cs : CL) (hc40 : cs.length ≤ 40) (N : Int) (j : Nat) : ∀ (m k n : Nat), k + m = cs.length → n ≤ o0.length →
    ∃ n', n' ≤ o0.length ∧ law46_InputMerges.j5 l n p i N j cs.length k o0 own = law46_InputMerges.j3 l (n' : Nat) p N (IntKind.i64.wrap ((j : Int) + 1)) o0 own := by
  intro m
  induction m with
  | zero =>
    intro k n hk hn
    exact ⟨n, hn, by rw [law46_InputMerges.j5_eq, lt_false (by omega), cond_false]⟩
  | succ m ih =>
    intro k n hk hn
    have hlt : k < cs.length := by omega
    rw [law46_InputMerges.j5_eq, lt_true hlt, cond_true]
    by_cases h : (n : Int) ≥ (o0.length : Int)
    · rw [decide_eq_true h, cond_true]
      exact ⟨n, hn, rfl⟩
    · rw [decide_eq_false h, cond_false, inside_eq l hl, hin, Option.bind_some, cond_false, wr_succ (n := o0.length) (by omega) (by omega), wr_succ hlt (by omega)]
      exact ih (k + 1) (n + 1) (by omega) (by omega)
theorem walk_own_out (hl : l.length ≤ 40) (hin : insideS l = false) (h0 : o0.length ≤ 1600) (p : Int) (own : BL) (hown : own.length ≤ 40) (hb : ∀ b ∈ own, List.length (α := CommandT) b.2.2.2 ≤ 40) : ∀ (m i n : Nat), i + m = own.length → n ≤ o0.length →
    ∃ n', n' ≤ o0.length ∧ law46_InputMerges.j3 l n p own.length i o0 own = law46_InputMerges.j0 l (n' : Nat) (IntKind.i64.wrap (p + 1)) o0 := by
  intro m
  induction m with
  | zero =>
    intro i n hi hn
    exact ⟨n, hn, by rw [law46_InputMerges.j3_eq, lt_false (by omega), cond_false]⟩
  | succ m ih =>
    intro i n hi hn
    have hlt : i < own.length := by omega
    have h40 := hb _ (List.getElem_mem hlt)
    obtain ⟨n1, hn1, e⟩ := walk_out hl hin h0 p own i own[i].2.2.2 h40 own.length i (List.length (α := CommandT) own[i].2.2.2) 0 n (by omega) hn
    rw [show ((0 : Nat) : Int) = 0 from rfl] at e
    obtain ⟨n2, hn2, e2⟩ := ih (i + 1) n1 (by omega) hn1
    refine ⟨n2, hn2, ?_⟩
    rw [law46_InputMerges.j3_eq, lt_true hlt, cond_true, decide_eq_true (show (0 : Int) ≤ (i : Int) by omega), Bool.and_true, cond_true, Int.toNat_natCast, List.getElem?_eq_getElem hlt, Option.bind_some, e, wr_succ hlt (by omega), e2]
theorem all_out (hl : l.length ≤ 40) (hin : insideS l = false) (h0 : o0.length ≤ 1600) (hb : ∀ b ∈ l, List.length (α := CommandT) b.2.2.2 ≤ 40) : ∀ (m p n : Nat), p + m = 6 → n ≤ o0.length →
    ∃ n', n' ≤ o0.length ∧ law46_InputMerges.j0 l (n : Nat) ((p + 1 : Nat) : Int) o0 = law46_InputMerges.j0 l (n' : Nat) 7 o0 := by
  intro m
  induction m with
  | zero =>
    intro p n hp hn
    obtain rfl : p = 6 := by omega
    exact ⟨n, hn, rfl⟩
  | succ m ih =>
    intro p n hp hn
    have e1 := own_j l hl (n : Nat) ((p + 1 : Nat) : Int) o0 l.length 0 [] (by omega) (Nat.le_refl _)
    rw [show ((0 : Nat) : Int) = 0 from rfl, List.drop_zero, List.nil_append] at e1
    obtain ⟨n1, hn1, e2⟩ := walk_own_out hl hin h0 ((p + 1 : Nat) : Int) (FK pk ((p + 1 : Nat) : Int) l) (Nat.le_trans (FK_len _ _) hl) (fun b hbm => hb b (FK_key hbm).2) (FK pk ((p + 1 : Nat) : Int) l).length 0 n (by omega) hn
    rw [show ((0 : Nat) : Int) = 0 from rfl] at e2
    obtain ⟨n2, hn2, e3⟩ := ih (p + 1) n1 (by omega) hn1
    refine ⟨n2, hn2, ?_⟩
    rw [law46_InputMerges.j0_eq, decide_eq_true (show ((p + 1 : Nat) : Int) ≤ 6 by omega), cond_true, e1, e2, wr_in (x := ((p + 1 : Nat) : Int) + 1) (by omega) (by omega)]
    exact e3
theorem all_back (hl : l.length ≤ 40) : ∀ (p : Nat) (o : BL), p ≤ 6 → o.length + 40 * p ≤ 500 → law46_InputMerges.j2 l (p : Nat) o0 o = law46_InputMerges.j2 l 0 o0 (o ++ downFrom l p)
  | 0, o, _, _ => by
    rw [downFrom, List.append_nil]
    rfl
  | p + 1, o, hp, ho => by
    have e := back_j l hl ((p + 1 : Nat) : Int) (by omega) o0 l.length 0 o (by omega) (by omega)
    rw [show ((0 : Nat) : Int) = 0 from rfl, List.drop_zero, show ((p + 1 : Nat) : Int) - 1 = (p : Int) by omega] at e
    have hF := FK_len l ((p + 1 : Nat) : Int)
    rw [law46_InputMerges.j2_eq, decide_eq_true (show ((p + 1 : Nat) : Int) ≥ 1 by omega), cond_true, e, all_back hl p _ (by omega) (by rw [List.length_append]; omega), downFrom, List.append_assoc]
end
theorem mergesLaw (l : BL) (hl : Fits (.slice cBatch) l) : law46_InputMerges.f l = some true := by
  rw [law46_InputMerges.f_eq, few_eq l (fits_list hl).1 (fits_list hl).2, Option.bind_some, alive_eq]
  cases h1 : fewS l with
  | false => rfl
  | true =>
    have hF := few_spec h1
    have hlen := hF.len
    obtain ⟨r, g1, g2, g3, g4, _⟩ := merges l hF
    obtain ⟨c1, c2⟩ := catB_ok hF g2 g3
    rw [Bool.not_true, cond_false, g4, Option.bind_some]
    have hb : ∀ b ∈ l, List.length (α := CommandT) b.2.2.2 ≤ 40 := fun b hb => (hF.bs b hb).1
    have hback := all_back (o0 := catB r) hlen 6 [] (Nat.le_refl _) (by simp)
    rw [List.nil_append, show ((6 : Nat) : Int) = 6 from rfl] at hback
    cases hin : insideS l with
    | false =>
      obtain ⟨n', _, e⟩ := all_out (o0 := catB r) hlen hin c1 hb 6 0 0 rfl (Nat.zero_le _)
      rw [show ((0 : Nat) : Int) = 0 from rfl, show ((0 + 1 : Nat) : Int) = 1 from rfl] at e
      rw [e, law46_InputMerges.j0_eq, decide_eq_false (show ¬ (7 : Int) ≤ 6 by omega), cond_false, inside_eq l hlen, hin, Option.bind_some, cond_false, hback, law46_InputMerges.j2_eq, decide_eq_false (show ¬ (0 : Int) ≥ 1 by omega), cond_false, inside_eq l hlen, hin, Option.bind_some, alive_eq]
      rfl
    | true =>
      have hsp := inside_spec hin
      obtain rfl : r = upTo l 6 := Srt.unique g1 (upTo_srt l 6) (g2.symm.trans (upTo_eqv hsp))
      have e := all_in hlen hin c1 c2 hb rfl 6 0 rfl
      have hFb : Few (downFrom l 6) := ⟨Nat.le_trans (down_len l 6) hlen, fun b hbm => hF.bs b (down_mem hbm)⟩
      obtain ⟨r2, k1, k2, k3, k4, _⟩ := merges (downFrom l 6) hFb
      obtain rfl : r2 = upTo l 6 := Srt.unique k1 (upTo_srt l 6) (k2.symm.trans ((down_eqv hsp).symm.trans (upTo_eqv hsp)))
      rw [show upTo l 0 = [] from rfl, catB_nil, List.length_nil, show ((0 : Nat) : Int) = 0 from rfl, show ((0 + 1 : Nat) : Int) = 1 from rfl] at e
      rw [e, law46_InputMerges.j0_eq, decide_eq_false (show ¬ (7 : Int) ≤ 6 by omega), cond_false, inside_eq l hlen, hin, Option.bind_some, cond_true, bne_self_eq_false, cond_false, hback, law46_InputMerges.j2_eq, decide_eq_false (show ¬ (0 : Int) ≥ 1 by omega), cond_false, inside_eq l hlen, hin, Option.bind_some, Bool.not_true, cond_false, k4, Option.bind_some,
        sameCmds_eq _ _ (by unfold lim48; omega) c2, decide_eq_true rfl, Option.bind_some, cond_true, alive_eq]
      rfl
end Go.Proofs.Ytnjngpkldifjlaa

/- The functions, as limits of the evaluator: printed by a program. -/
set_option linter.unusedVariables false
namespace Go.Proofs.Ytnjngpkldifjlaa
open Go Go.Sk

/-- slices.Clone[[]skirmish/api.Batch,skirmish/api.Batch] -/
noncomputable def chk_slices_Clone.f (b : Bool) (s : (List BatchT)) : Option (List BatchT) := callX Try.prog cfg0 31 [(.one (.chk b cBatch s))] [] ⟨[.one (.own cBatch)], 0⟩
/-- slices.Clone[[]int,int] -/
noncomputable def chk_slices_Clone_1.f (b : Bool) (s : (List Int)) : Option (List Int) := callX Try.prog cfg0 34 [(.one (.chk b (.int .i64) s))] [] ⟨[.one (.own (.int .i64))], 0⟩
end Go.Proofs.Ytnjngpkldifjlaa

/- The functions' equations: printed by a program. -/
set_option linter.unusedVariables false
set_option maxRecDepth 100000
set_option maxHeartbeats 4000000
namespace Go.Proofs.Ytnjngpkldifjlaa
open Go Go.Sk

theorem chk_slices_Clone.f_eq (b : Bool) (s : (List BatchT)) : chk_slices_Clone.f b s = (bif (b) then some ([]) else (bif (Decidable.decide ((0 + List.length s) * 48 ≤ 140737488355328)) then some ([] ++ s) else none)) := (lim_step _ _ _ _ _ _).trans (by kernel_rfl)
theorem chk_slices_Clone_1.f_eq (b : Bool) (s : (List Int)) : chk_slices_Clone_1.f b s = (bif (b) then some ([]) else (bif (Decidable.decide ((0 + List.length s) * 8 ≤ 140737488355328)) then some ([] ++ s) else none)) := (lim_step _ _ _ _ _ _).trans (by kernel_rfl)
end Go.Proofs.Ytnjngpkldifjlaa

/- strings.Builder: copyCheck and String, with exact worlds. -/
set_option linter.unusedVariables false
namespace Go.Proofs.Ytnjngpkldifjlaa
open Go Go.Sk Go.Proofs

theorem size63 : (Try.prog.info? 63).map (·.size) = some 2 := by kernel_rfl

set_option maxHeartbeats 1000000 in
set_option maxRecDepth 100000 in
theorem copyCheck_used (b : Nat) (w : World) (h0 : w.cell? ⟨b, 0, none⟩ = some (.pointer (some ⟨b, 0, none⟩))) :
    Calls Try.prog 75 #[.pointer (some ⟨b, 0, none⟩)] w fun e w' => e = .returned (.tuple #[]) ∧ w' = w := by
  obtain ⟨j, hj, hjs⟩ := Option.map_eq_some_iff.1 size63
  go_enter Try.func75, Try.ntmps75
  go_wp2
  rw [Lib.run_neq_ptr_same w _ Try.underlying60 hj]
  go_wp2
  go_end0
  exact ⟨rfl, rfl⟩

set_option maxHeartbeats 1000000 in
set_option maxRecDepth 100000 in
theorem copyCheck_fresh (b : Nat) (w : World) (h0 : w.cell? ⟨b, 0, none⟩ = some (.pointer none)) (hsh : w.shape? b = some (63, 2)) (hfz : w.frozen? ⟨b, 0, none⟩ = false) :
    Calls Try.prog 75 #[.pointer (some ⟨b, 0, none⟩)] w fun e w' => e = .returned (.tuple #[]) ∧ w' = w.setCell ⟨b, 0, none⟩ (.pointer (some ⟨b, 0, none⟩)) := by
  obtain ⟨j, hj, hjs⟩ := Option.map_eq_some_iff.1 size63
  go_enter Try.func75, Try.ntmps75
  go_wp2
  rw [Lib.run_to_unsafe w ⟨b, 0, none⟩ Try.underlying60 Try.underlying102 hj (by rw [hjs]; decide) hsh (Nat.zero_lt_succ 1)]
  simp only [Result.andThen]
  rw [Oper.upon_value]
  go_wp2
  rw [run_callFunc_extern Try.func87 (by kernel_rfl) (by kernel_rfl) (by kernel_rfl) (e := Extern.AbiNoEscape.same) (by kernel_rfl)]
  rw [Lib.run_noEscape]
  simp only [Result.andThen]
  rw [Oper.upon_value]
  go_wp2
  rw [Lib.run_from_unsafe w ⟨b, 0, none⟩ Try.underlying102 Try.underlying60 hj hsh (by kernel_rfl)]
  simp only [Result.andThen]
  rw [Oper.upon_value]
  go_wp2
  go_end0
  exact ⟨rfl, rfl⟩

set_option maxHeartbeats 1000000 in
set_option maxRecDepth 100000 in
theorem string_told (xs : List Int) (b g o cap : Nat) (cur : Array Value) (w : World) (h0 : 0 < xs.length) (h63 : xs.length ≤ 9223372036854775807) (hc1 : w.cell? ⟨b, 1, none⟩ = some (.slice (some ⟨g, o, none⟩) xs.length cap)) (hg : w.heap[g]? = some (.cells cur 5 (0, 0)))
    (hcap : xs.length ≤ cap) (hsz : o + cap ≤ cur.size) (hcell : ∀ j x, xs[j]? = some x → w.cell? ((⟨g, o, none⟩ : Addr).add j) = some (.int .u8 x)) :
    Calls Try.prog 45 #[.pointer (some ⟨b, 0, none⟩)] w fun e w' => e = .returned (.string (bytesOf xs)) ∧ w' = w.drew.freeze ⟨g, o, none⟩ xs.length := by
  have c1 : w.drew.cell? ⟨b, 1, none⟩ = some (.slice (some ⟨g, o, none⟩) xs.length cap) := hc1
  have hSD : (Builtin.unsafeSliceData_ #[61] 97 #[.slice (some ⟨g, o, none⟩) xs.length cap]).run Try.prog w.drew = .ok (.pointer (some ⟨g, o, none⟩)) w.drew :=
    Lib.run_unsafeSliceData_row _ _ _ _ _ _ (by omega)
  have hUS : (Builtin.unsafeString_ #[97, 3] 9 #[.pointer (some ⟨g, o, none⟩), .int .i64 xs.length]).run Try.prog w.drew = .ok (.string (bytesOf xs)) (w.drew.freeze ⟨g, o, none⟩ xs.length) :=
    run_unsafeString_rowI w.drew 97 3 9 5 Try.underlying97 (by kernel_rfl) g o cur.size (by have hg' : w.drew.heap[g]? = some (.cells cur 5 (0, 0)) := hg; simp [World.shape?, hg']) xs (by intro e; rw [e] at h0; cases h0) (by omega) h63 fun j x hx => hcell j x hx
  clear hcell hcap hsz h63 h0
  have mixed : Try.prog.follows Departure.mixedOrders = true := by kernel_rfl
  go_enter Try.func45, Try.ntmps45
  go_wp2
  go_region_o
  all_goals (go_wp2; go_ret; exact ⟨rfl, rfl⟩)
end Go.Proofs.Ytnjngpkldifjlaa

/- What is told of functions is so. -/
set_option maxHeartbeats 4000000
set_option maxRecDepth 100000
namespace Go.Proofs.Ytnjngpkldifjlaa
open Go Go.Sk
theorem apart_fns (g : FuncId) (h : refB g = .apart) : ApartFn Try.prog g := by
  unfold refB at h
  split at h <;> cases h
theorem prim_ok0 : PrimOk Try.prog cfg0 := ⟨fun g vs m ρ x h => (by cases h), apart_fns⟩
theorem clone_out {α : Type} (b : Bool) (xs : List α) (k : Nat) (hb : b = true → xs = []) (hg : xs.length * k ≤ 140737488355328) : (bif b then some [] else (bif decide ((0 + xs.length) * k ≤ 140737488355328) then some ([] ++ xs) else none)) = some xs := by
  cases b with
  | true => rw [hb rfl]; rfl
  | false => rw [Nat.zero_add, decide_eq_true hg]; rfl
theorem prim_ok : PrimOk Try.prog cfg := by
  refine ⟨fun g vs m ρ x h => ?_, apart_fns⟩
  unfold cfg at h
  simp only [primB] at h
  split at h
  · refine ⟨clonePrim_spec (fun b xs hb hg => ?_) h, _, _, Try.func31, rfl, by kernel_rfl⟩
    have e : callF Try.prog cfg0 31 [.one (.chk b cBatch xs)] [] ⟨[.one (.own cBatch)], 0⟩ = some xs := (chk_slices_Clone.f_eq b xs).trans (clone_out b xs 48 hb hg)
    exact (callF_sound (C := cfg0) (by kernel_rfl) (by kernel_rfl) prim_ok0 e).1
  · refine ⟨clonePrim_spec (fun b xs hb hg => ?_) h, _, _, Try.func34, rfl, by kernel_rfl⟩
    have e : callF Try.prog cfg0 34 [.one (.chk b (.int .i64) xs)] [] ⟨[.one (.own (.int .i64))], 0⟩ = some xs := (chk_slices_Clone_1.f_eq b xs).trans (clone_out b xs 8 hb hg)
    exact (callF_sound (C := cfg0) (by kernel_rfl) (by kernel_rfl) prim_ok0 e).1
  · exact ⟨selfPrim_spec copyCheck_used copyCheck_fresh (by kernel_rfl) (fun xs => by kernel_rfl) h, _, _, Try.func75, rfl, by kernel_rfl⟩
  · exact ⟨textPrim_spec (fun xs b gg o cap cur w h0 h1 h2 h3 h4 h5 h6 => string_told xs b gg o cap cur w h0 h1 h2 h3 h4 h5 h6) h, _, _, Try.func45, rfl, by kernel_rfl⟩
  · cases h
end Go.Proofs.Ytnjngpkldifjlaa
